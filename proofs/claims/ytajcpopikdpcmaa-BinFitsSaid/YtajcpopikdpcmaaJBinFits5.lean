/-
  Of every heap a free span of at least so many pages is found, just if there is one, and nothing is written: the law's function answers true for every configuration, values and number. Conditions: none.
-/
import Derived.Test.YtajcpopikdpcmaaJBinFits4
import Derived.ProofKit
import Derived.Lib.SmallJoins
import Derived.Deep.Slices
import Derived.OpenShut
import Derived.Test.YtajcpopikdpcmaaRows
set_option linter.unusedSimpArgs false
set_option linter.unusedVariables false
namespace Go.Proofs.Ytajcpopikdpcmaa
open Go.Sl
structure Kp (m m' : Mm) : Prop where
  slots : m'.slots = m.slots
  taken : m'.taken = m.taken
  root : m'.root = m.root
  dn : m'.dn = m.dn
  fr : m'.fr = m.fr
  lv : m'.lv = m.lv
theorem Kp.rfl {m : Mm} : Kp m m := ⟨_root_.rfl, _root_.rfl, _root_.rfl, _root_.rfl, _root_.rfl, _root_.rfl⟩
theorem Kp.trans {m m1 m2 : Mm} (h : Kp m m1) (k : Kp m1 m2) : Kp m m2 := ⟨k.slots.trans h.slots, k.taken.trans h.taken, k.root.trans h.root, k.dn.trans h.dn, k.fr.trans h.fr, k.lv.trans h.lv⟩
def mJoin (m : Mm) (b : Int) : Mm := { m with info := fset m.info b 0, foot := fset m.foot (b - 1) 0 }
theorem Kp.span (m : Mm) (k a n : Int) : Kp m (mSpan m k a n) := ⟨_root_.rfl, _root_.rfl, _root_.rfl, _root_.rfl, _root_.rfl, _root_.rfl⟩
theorem Kp.join (m : Mm) (b : Int) : Kp m (mJoin m b) := ⟨_root_.rfl, _root_.rfl, _root_.rfl, _root_.rfl, _root_.rfl, _root_.rfl⟩
theorem Kp.pull (m : Mm) (h : Hq) (a : Int) : Kp m (mPull m h a) := by
  obtain ⟨_, _, e1, e2, e3, e4, e5, e6⟩ := pull_same (m := m) (a := a) h
  exact ⟨e1, e2, e3, e6, e4, e5⟩
theorem Kp.push (m : Mm) (h : Hq) (a : Int) : Kp m (mPush m h a) := by
  obtain ⟨_, _, e1, e2, e3, e4, e5, e6⟩ := push_same (m := m) (a := a) h
  exact ⟨e1, e2, e3, e6, e4, e5⟩
theorem Kp.drop (m : Mm) (a : Int) : Kp m (mDrop m a) := Kp.pull _ _ _
theorem Kp.add (m : Mm) (a n : Int) : Kp m (mAdd m a n) := (Kp.span m 1 a n).trans (Kp.push _ _ _)
def uI (i : If) : If := bif i.k == 2 || i.k == 3 then i else ⟨0, 0, 0⟩
def uM (m : Mm) (q : Int) : If := uI (ifM m q)
theorem uM_eq {m m' : Mm} {q : Int} (h : m'.info q = m.info q) : uM m' q = uM m q := by unfold uM; rw [ifM_eq h]
section
variable {c : Cf} {m : Mm} {s : VS} {a n : Int}
theorem ex_any {X Y : List Int} (S : ListsM c m (exG m X)) (hx : ∀ q ∈ X, q ∉ Y → ∀ h : Hq, gM m h q = false) (hy : ∀ q ∈ Y, q ∉ X → ∀ h : Hq, gM m h q = false) : ListsM c m (exG m Y) := by
  refine S.of_eq (fun _ => rfl) rfl rfl fun h hh q a1 a2 => ?_
  unfold exG
  by_cases e1 : q ∈ X
  · by_cases e2 : q ∈ Y
    · rw [List.contains_iff_mem.2 e1, List.contains_iff_mem.2 e2]
    · rw [hx q e1 e2 h]; rfl
  · by_cases e2 : q ∈ Y
    · rw [hy q e2 e1 h]; rfl
    · rw [notin.2 e1, notin.2 e2]
theorem ex_nil : exG m [] = gM m := by funext h q; simp [exG]
theorem mSpan_info {k : Int} (q : Int) : (mSpan m k a n).info q = if q = a then iVal k n 0 else m.info q := rfl
theorem mSpan_foot {k : Int} (q : Int) : (mSpan m k a n).foot q = if q = a + n - 1 then nv (a + 1) else m.foot q := rfl
theorem mJoin_info {b : Int} (q : Int) : (mJoin m b).info q = if q = b then 0 else m.info q := rfl
theorem mJoin_foot {b : Int} (q : Int) : (mJoin m b).foot q = if q = b - 1 then 0 else m.foot q := rfl
theorem mSpan_if {k : Int} (hk : k = 1 ∨ k = 2) (hn : 1 ≤ n ∧ n ≤ 1024) : ifM (mSpan m k a n) a = ⟨k, n, 0⟩ := by
  unfold ifM; rw [mSpan_info, if_pos rfl]; exact (iVal_get (span_right hk hn)).1
theorem mJoin_if {b : Int} : ifM (mJoin m b) b = ⟨0, 0, 0⟩ := by
  unfold ifM; rw [mJoin_info, if_pos rfl]; exact iGet_zero
theorem zero_if {q : Int} (h : m.info q = 0) : ifM m q = ⟨0, 0, 0⟩ := by unfold ifM; rw [h]; exact iGet_zero
theorem span_spn {k : Int} (hk : k = 1 ∨ k = 2) (hn : 1 ≤ n ∧ n ≤ 1024) (i0 : ∀ q, a < q → q < a + n → m.info q = 0) (f0 : ∀ q, a ≤ q → q < a + n - 1 → m.foot q = 0) : Spn (mSpan m k a n) a ⟨k, n, 0⟩ where
  l1 := hn.1
  rt := span_right hk hn
  k0 := by show k ≠ 0; omega
  inf := by rw [mSpan_info, if_pos rfl]; exact (iVal_get (span_right hk hn)).1
  iok := by rw [mSpan_info, if_pos rfl]; exact (iVal_get (span_right hk hn)).2.1
  in0 := fun q g1 g2 => by rw [mSpan_info, if_neg (by omega)]; exact i0 q g1 g2
  ft0 := fun q g1 g2 => by
    have g2 : q < a + n - 1 := g2
    rw [mSpan_foot, if_neg (by omega)]; exact f0 q g1 g2
  ft := by
    show (mSpan m k a n).foot (a + n - 1) = _
    rw [mSpan_foot, if_pos rfl]
theorem gM_two {q n : Int} (e : ifM m q = ⟨2, n, 0⟩) (h : Hq) : gM m h q = false := gM_none (by rw [e]; exact (by decide : (2 : Int) ≠ 1)) (by rw [e]; exact (by decide : (2 : Int) ≠ 3)) h
theorem drop_hol {L1 L2 : List Sp} {x : Sp} (S : SndM c m (L1 ++ x :: L2)) (h1 : Tl m 0 L1 a) (h2 : Spn m a x) (h3 : Tl m (a + x.l) L2 c.p) (hk : x.k = 1) : Hol c (mDrop m a) L1 a x.l L2 ∧ apF true L2 = true ∧ apE false L1 = false := by
  obtain ⟨S1, S2⟩ := snd_iff.1 S
  have hap := ap_split S1.apF
  have hif : ifM m a = ⟨x.k, x.l, x.c⟩ := h2.inf
  have hka : (ifM m a).k = 1 := by rw [hif]; exact hk
  have hl := h2.l1
  have := h1.le
  have := h3.le
  have ha : 0 ≤ a ∧ a < c.p := by omega
  obtain ⟨e1, e2, e3, e4, _⟩ := pull_same (m := m) (a := a) (.bin (logI (ifM m a).l))
  have e1 : (mDrop m a).info = m.info := e1
  have e2 : (mDrop m a).foot = m.foot := e2
  have e3 : (mDrop m a).slots = m.slots := e3
  have e4 : (mDrop m a).taken = m.taken := e4
  have h2' : apF (x.k == 1) L2 = true := hap.2.2.1
  rw [hk] at h2'
  refine ⟨⟨h1.of_eq (fun q _ _ => by rw [e1]) (fun q _ _ => by rw [e2]), h3.of_eq (fun q _ _ => by rw [e1]) (fun q _ _ => by rw [e2]), h2.l1, fun q g1 g2 => by rw [e1]; exact h2.in0 q g1 g2, fun q g1 g2 => by rw [e2]; exact h2.ft0 q g1 g2, hap.1, hap.2.1, fun q a1 a2 _ b b1 b2 => ?_, fun b b1 b2 => ?_, fun q a1 a2 _ => ?_, ?_⟩, h2', hap.2.2.2 hk⟩
  · rw [badM_eq (m := m) (by rw [e1]) (by rw [e3]) (by rw [e4])]; exact S1.bits q a1 a2 b b1 b2
  · rw [e3, e4]; exact bad_zero (S1.bits a (by omega) (by omega) b b1 b2) (by omega)
  · rw [ifM_eq (m := m) (by rw [e1]), e4]; exact S1.some q a1 a2
  · have hb := logI_bd (iGet_one hka)
    exact pull_ex (X := []) hb ha (by simp) (by rw [ex_nil]; exact S2) (by simp [gM, binM, hka])
theorem fill_used {L1 L2 : List Sp} (H : Hol c m L1 a n L2) (hn : n ≤ 1024) : SndM c (mSpan m 2 a n) (L1 ++ ⟨2, n, 0⟩ :: L2) := by
  have hp := H.pos
  have hn1 := H.n1
  have hif := mSpan_if (m := m) (a := a) (.inr rfl) ⟨hn1, hn⟩
  refine snd_iff.2 ⟨⟨Tl.app.2 ⟨a, H.t1.of_eq (fun q _ g => ?_) (fun q _ g => ?_), span_spn (.inr rfl) ⟨hn1, hn⟩ H.i0 H.f0, H.t2.of_eq (fun q g _ => ?_) (fun q g _ => ?_)⟩, apF_iff.1 (ap_join H.p1 H.p2 (fun e => by cases e)), fun q a1 a2 b b1 b2 => ?_, fun q a1 a2 => ?_⟩, ?_⟩
  · rw [mSpan_info, if_neg (by omega)]
  · rw [mSpan_foot, if_neg (by omega)]
  · rw [mSpan_info, if_neg (by omega)]
  · rw [mSpan_foot, if_neg (by omega)]
  · by_cases e : q = a
    · subst e; exact zero_bad (H.z b b1 b2)
    · rw [badM_eq (m := m) (m' := mSpan m 2 a n) (by rw [mSpan_info, if_neg e]) rfl rfl]; exact H.bits q a1 a2 e b b1 b2
  · by_cases e : q = a
    · subst e; rw [hif]; rfl
    · rw [ifM_eq (m := m) (by rw [mSpan_info, if_neg e])]; exact H.some q a1 a2 e
  · rw [← ex_nil]
    refine ex_none (a := a) (ex_set H.ls (fun _ => rfl) rfl rfl (fun q hq => ?_) fun q _ => rfl) fun h => gM_two hif h
    rw [mSpan_info, if_neg (by simpa using hq)]
theorem fill_free {L1 L2 : List Sp} (H : Hol c m L1 a n L2) (hn : n ≤ 1024) (h1 : apE false L1 = false) (h2 : apF true L2 = true) : SndM c (mAdd m a n) (L1 ++ ⟨1, n, 0⟩ :: L2) := by
  have hp := H.pos
  have hn1 := H.n1
  have ha : 0 ≤ a ∧ a < c.p := by omega
  have hif := mSpan_if (m := m) (a := a) (.inl rfl) ⟨hn1, hn⟩
  obtain ⟨e1, e2, e3, e4, _⟩ := push_same (m := mSpan m 1 a n) (a := a) (.bin (logI n))
  have e1 : (mAdd m a n).info = (mSpan m 1 a n).info := e1
  have e2 : (mAdd m a n).foot = (mSpan m 1 a n).foot := e2
  have e3 : (mAdd m a n).slots = m.slots := e3
  have e4 : (mAdd m a n).taken = m.taken := e4
  refine snd_iff.2 ⟨⟨Tl.app.2 ⟨a, H.t1.of_eq (fun q _ g => ?_) (fun q _ g => ?_), (span_spn (.inl rfl) ⟨hn1, hn⟩ H.i0 H.f0).of_eq (fun q _ _ => by rw [e1]) (fun q _ _ => by rw [e2]), H.t2.of_eq (fun q g _ => ?_) (fun q g _ => ?_)⟩, apF_iff.1 (ap_join H.p1 h2 (fun _ => h1)), fun q a1 a2 b b1 b2 => ?_, fun q a1 a2 => ?_⟩, ?_⟩
  · rw [e1, mSpan_info, if_neg (by omega)]
  · rw [e2, mSpan_foot, if_neg (by omega)]
  · rw [e1, mSpan_info, if_neg (by have g : a + n ≤ q := g; omega)]
  · rw [e2, mSpan_foot, if_neg (by have g : a + n ≤ q := g; omega)]
  · by_cases e : q = a
    · subst e; exact zero_bad (by rw [e3, e4]; exact H.z b b1 b2)
    · rw [badM_eq (m := m) (by rw [e1, mSpan_info, if_neg e]) (by rw [e3]) (by rw [e4])]; exact H.bits q a1 a2 e b b1 b2
  · by_cases e : q = a
    · subst e; rw [ifM_eq (m := mSpan m 1 q n) (by rw [e1]), hif]; rfl
    · rw [ifM_eq (m := m) (by rw [e1, mSpan_info, if_neg e]), e4]; exact H.some q a1 a2 e
  · rw [← ex_nil]
    have hb := logI_bd (n := n) (by omega)
    refine push_ex (X := []) (h := .bin (logI n)) hb ha (by simp) (ex_set H.ls (fun _ => rfl) rfl rfl (fun q hq => ?_) fun q _ => rfl) (by simp [gM, binM, hif]) fun h' hh' hne => ?_
    · rw [mSpan_info, if_neg (by simpa using hq)]
    · cases h' with
      | bin k =>
        cases e : gM (mSpan m 1 a n) (.bin k) a with
        | false => rfl
        | true =>
          simp only [gM, binM, hif, Bool.and_eq_true, beq_iff_eq] at e
          exact absurd (by rw [e.2]) hne
      | rack k => simp [gM, rackM, hif]
theorem split_hol {L1 L2 : List Sp} {k : Int} (H : Hol c m L1 a n L2) (hk : 1 ≤ k ∧ k < n) (hn : n ≤ 1024) : Hol c (mSpan m 2 a k) (L1 ++ [⟨2, k, 0⟩]) (a + k) (n - k) L2 := by
  have hp := H.pos
  have hif := mSpan_if (m := m) (a := a) (n := k) (.inr rfl) ⟨hk.1, by omega⟩
  have hz : (mSpan m 2 a k).info (a + k) = 0 := by rw [mSpan_info, if_neg (by omega)]; exact H.i0 _ (by omega) (by omega)
  have hz0 : m.info (a + k) = 0 := H.i0 _ (by omega) (by omega)
  refine ⟨Tl.app.2 ⟨a, H.t1.of_eq (fun q _ g => ?_) (fun q _ g => ?_), span_spn (.inr rfl) ⟨hk.1, by omega⟩ (fun q g1 g2 => H.i0 q g1 (by omega)) (fun q g1 g2 => H.f0 q g1 (by omega)), rfl⟩, ?_, by omega, fun q g1 g2 => ?_, fun q g1 g2 => ?_, ap_join H.p1 rfl (fun e => by cases e), H.p2, fun q a1 a2 hq b b1 b2 => ?_, fun b b1 b2 => ?_, fun q a1 a2 hq => ?_, ?_⟩
  · rw [mSpan_info, if_neg (by omega)]
  · rw [mSpan_foot, if_neg (by omega)]
  · have e : a + k + (n - k) = a + n := by omega
    rw [e]
    exact H.t2.of_eq (fun q g _ => by rw [mSpan_info, if_neg (by omega)]) (fun q g _ => by rw [mSpan_foot, if_neg (by omega)])
  · rw [mSpan_info, if_neg (by omega)]; exact H.i0 q (by omega) (by omega)
  · rw [mSpan_foot, if_neg (by omega)]; exact H.f0 q (by omega) (by omega)
  · by_cases e : q = a
    · subst e; exact zero_bad (H.z b b1 b2)
    · rw [badM_eq (m := m) (m' := mSpan m 2 a k) (by rw [mSpan_info, if_neg e]) rfl rfl]; exact H.bits q a1 a2 e b b1 b2
  · exact bad_zero (m := m) (H.bits (a + k) (by omega) (by omega) (by omega) b b1 b2) (by rw [zero_if hz0]; decide)
  · by_cases e : q = a
    · subst e; rw [hif]; rfl
    · rw [ifM_eq (m := m) (by rw [mSpan_info, if_neg e])]; exact H.some q a1 a2 e
  · have S := ex_set (m' := mSpan m 2 a k) H.ls (fun _ => rfl) rfl rfl (fun q hq => by rw [mSpan_info, if_neg (by simpa using hq)]) fun q _ => rfl
    refine ex_any S (fun q hq _ h => ?_) fun q hq _ h => ?_
    · simp only [List.mem_singleton] at hq
      subst hq; exact gM_two hif h
    · simp only [List.mem_singleton] at hq
      subst hq; exact gM_none (by rw [zero_if hz]; decide) (by rw [zero_if hz]; decide) h
theorem joinl_hol {L1 L2 : List Sp} {x : Sp} {f : Int} (H : Hol c m (L1 ++ [x]) a n L2) (h1 : Tl m 0 L1 f) (h2 : Spn m f x) (hf : f + x.l = a) (hk : x.k = 1) : Hol c (mJoin (mDrop m f) a) L1 f (x.l + n) L2 ∧ apE false L1 = false := by
  have hp := H.pos
  have hn1 := H.n1
  have hl := h2.l1
  have hf0 := h1.le
  have hfp : 0 ≤ f ∧ f < c.p := by omega
  have hif : ifM m f = ⟨x.k, x.l, x.c⟩ := h2.inf
  have hka : (ifM m f).k = 1 := by rw [hif]; exact hk
  have hap := ap_split H.p1
  obtain ⟨e1, e2, e3, e4, _⟩ := pull_same (m := m) (a := f) (.bin (logI (ifM m f).l))
  have e1 : (mDrop m f).info = m.info := e1
  have e2 : (mDrop m f).foot = m.foot := e2
  have e3 : (mDrop m f).slots = m.slots := e3
  have e4 : (mDrop m f).taken = m.taken := e4
  have i1 : ∀ q, q ≠ a → (mJoin (mDrop m f) a).info q = m.info q := fun q hq => by rw [mJoin_info, if_neg hq, e1]
  have i2 : ∀ q, q ≠ a - 1 → (mJoin (mDrop m f) a).foot q = m.foot q := fun q hq => by rw [mJoin_foot, if_neg hq, e2]
  have i3 : (mJoin (mDrop m f) a).slots = m.slots := e3
  have i4 : (mJoin (mDrop m f) a).taken = m.taken := e4
  refine ⟨⟨h1.of_eq (fun q _ _ => i1 q (by omega)) (fun q _ _ => i2 q (by omega)), ?_, by omega, fun q g1 g2 => ?_, fun q g1 g2 => ?_, hap.1, H.p2, fun q a1 a2 hq b b1 b2 => ?_, fun b b1 b2 => ?_, fun q a1 a2 hq => ?_, ?_⟩, hap.2.2.2 hk⟩
  · rw [show f + (x.l + n) = a + n by omega]
    exact H.t2.of_eq (fun q _ _ => i1 q (by omega)) (fun q _ _ => i2 q (by omega))
  · by_cases e : q = a
    · rw [mJoin_info, if_pos e]
    · rw [i1 q e]
      by_cases e' : q < a
      · exact h2.in0 q g1 (by omega)
      · exact H.i0 q (by omega) (by omega)
  · by_cases e : q = a - 1
    · rw [mJoin_foot, if_pos e]
    · rw [i2 q e]
      by_cases e' : q < a
      · exact h2.ft0 q g1 (by omega)
      · exact H.f0 q (by omega) (by omega)
  · by_cases e : q = a
    · subst e; exact zero_bad (by rw [i3, i4]; exact H.z b b1 b2)
    · rw [badM_eq (m := m) (i1 q e) (by rw [i3]) (by rw [i4])]; exact H.bits q a1 a2 e b b1 b2
  · rw [i3, i4]; exact bad_zero (H.bits f (by omega) (by omega) (by omega) b b1 b2) (by omega)
  · by_cases e : q = a
    · subst e; rw [mJoin_if]; rfl
    · rw [ifM_eq (m := m) (i1 q e), i4]; exact H.some q a1 a2 e
  · have hb := logI_bd (iGet_one hka)
    have T := pull_ex (X := [a]) (h := .bin (logI (ifM m f).l)) hb hfp (by simp; omega) H.ls (by simp [gM, binM, hka])
    have T2 := ex_set (m' := mJoin (mDrop m f) a) T (fun _ => rfl) rfl rfl (fun q hq => by
      rw [mJoin_info, if_neg (fun e => hq (by simp [e]))]; rfl) fun q _ => rfl
    refine ex_any T2 (fun q hq hq2 h => ?_) fun q hq hq2 => absurd (by simp only [List.mem_singleton] at hq; simp [hq]) hq2
    have : q = a := by simp at hq hq2; omega
    subst this
    exact gM_none (by rw [mJoin_if]; decide) (by rw [mJoin_if]; decide) h
theorem joinr_hol {L1 L2 : List Sp} {x : Sp} (H : Hol c m L1 a n (x :: L2)) (hk : x.k = 1) : Hol c (mJoin (mDrop m (a + n)) (a + n)) L1 a (n + x.l) L2 ∧ apF true L2 = true := by
  obtain ⟨h2, h3⟩ := H.t2
  have hp := H.pos
  have hn1 := H.n1
  have hl := h2.l1
  have hle := h3.le
  have hfp : 0 ≤ a + n ∧ a + n < c.p := by omega
  have hif : ifM m (a + n) = ⟨x.k, x.l, x.c⟩ := h2.inf
  have hka : (ifM m (a + n)).k = 1 := by rw [hif]; exact hk
  have hap := ap_split (L1 := []) H.p2
  have hap2 : apF (x.k == 1) L2 = true := hap.2.2.1
  rw [hk] at hap2
  obtain ⟨e1, e2, e3, e4, _⟩ := pull_same (m := m) (a := a + n) (.bin (logI (ifM m (a + n)).l))
  have e1 : (mDrop m (a + n)).info = m.info := e1
  have e2 : (mDrop m (a + n)).foot = m.foot := e2
  have e3 : (mDrop m (a + n)).slots = m.slots := e3
  have e4 : (mDrop m (a + n)).taken = m.taken := e4
  have i1 : ∀ q, q ≠ a + n → (mJoin (mDrop m (a + n)) (a + n)).info q = m.info q := fun q hq => by rw [mJoin_info, if_neg hq, e1]
  have i2 : ∀ q, q ≠ a + n - 1 → (mJoin (mDrop m (a + n)) (a + n)).foot q = m.foot q := fun q hq => by rw [mJoin_foot, if_neg hq, e2]
  have i3 : (mJoin (mDrop m (a + n)) (a + n)).slots = m.slots := e3
  have i4 : (mJoin (mDrop m (a + n)) (a + n)).taken = m.taken := e4
  refine ⟨⟨H.t1.of_eq (fun q _ _ => i1 q (by omega)) (fun q _ _ => i2 q (by omega)), ?_, by omega, fun q g1 g2 => ?_, fun q g1 g2 => ?_, H.p1, hap.2.1, fun q a1 a2 hq b b1 b2 => ?_, fun b b1 b2 => ?_, fun q a1 a2 hq => ?_, ?_⟩, hap2⟩
  · rw [show a + (n + x.l) = a + n + x.l by omega]
    exact h3.of_eq (fun q _ _ => i1 q (by omega)) (fun q _ _ => i2 q (by omega))
  · by_cases e : q = a + n
    · rw [mJoin_info, if_pos e]
    · rw [i1 q e]
      by_cases e' : q < a + n
      · exact H.i0 q g1 e'
      · exact h2.in0 q (by omega) (by omega)
  · by_cases e : q = a + n - 1
    · rw [mJoin_foot, if_pos e]
    · rw [i2 q e]
      by_cases e' : q < a + n
      · exact H.f0 q g1 (by omega)
      · exact h2.ft0 q (by omega) (by omega)
  · by_cases e : q = a + n
    · subst e
      exact zero_bad (by rw [i3, i4]; exact bad_zero (H.bits (a + n) (by omega) (by omega) (by omega) b b1 b2) (by omega))
    · rw [badM_eq (m := m) (i1 q e) (by rw [i3]) (by rw [i4])]; exact H.bits q a1 a2 hq b b1 b2
  · rw [i3, i4]; exact H.z b b1 b2
  · by_cases e : q = a + n
    · subst e; rw [mJoin_if]; rfl
    · rw [ifM_eq (m := m) (i1 q e), i4]; exact H.some q a1 a2 hq
  · have hb := logI_bd (iGet_one hka)
    have T := pull_ex (X := [a]) (h := .bin (logI (ifM m (a + n)).l)) hb hfp (by simp; omega) H.ls (by simp [gM, binM, hka])
    have T2 := ex_set (m' := mJoin (mDrop m (a + n)) (a + n)) T (fun _ => rfl) rfl rfl (fun q hq => by
      rw [mJoin_info, if_neg (fun e => hq (by simp [e]))]; rfl) fun q _ => rfl
    refine ex_any T2 (fun q hq hq2 h => ?_) fun q hq hq2 => absurd (by simp only [List.mem_singleton] at hq; simp [hq]) hq2
    have : q = a + n := by
      simp only [List.mem_cons, List.not_mem_nil, or_false] at hq hq2
      rcases hq with h | h
      · exact h
      · exact absurd h hq2
    subst this
    exact gM_none (by rw [mJoin_if]; decide) (by rw [mJoin_if]; decide) h
end
end Go.Proofs.Ytajcpopikdpcmaa
namespace Go.Proofs.Ytajcpopikdpcmaa
open Go.Sl
theorem wI_id {x : Int} (h : -9223372036854775808 ≤ x ∧ x < 9223372036854775808) : wI x = x := w64 h
section
variable {c : Cf} {m : Mm} {s : VS} {a n : Int}
theorem join_at {p b : Int} {G : Hq → Int → Bool} (h : At c s m) (hp : 0 ≤ p ∧ p < c.p) (hk : (ifM m p).k = 1) (S : ListsM c m G) (hG : G (.bin (logI (ifM m p).l)) p = true) (hb : 1 ≤ b ∧ b < c.p) : At c ((qJoin c p b).run s).1 (mJoin (mDrop m p) b) ∧ ((qJoin c p b).run s).2 = (ifM m p).l := by
  have hok := Cf.ok_iff.1 h.ok
  obtain ⟨h1, h2⟩ := drop_at' h hp hk S hG
  unfold qJoin
  simp only [Pg.run_bind, Pg.run_put, Pg.run_ret]
  refine ⟨?_, h2⟩
  have h3 := (h1.set_info (g := b) (by omega) 0).set_foot (g := b - 1) (by omega) 0
  rw [wI_id (x := b - 1) (by omega)]
  exact h3
theorem free_no (h : At c s m) (ha : 0 ≤ a ∧ a < c.p) (hk : (ifM m a).k ≠ 1) : ((pFree c a).run s).2 = 0 := by
  rw [(free_at h ha).2]
  have : ((ifM m a).k == 1) = false := by simpa using hk
  rw [this]; rfl
theorem exG_self {X : List Int} {k : Int} (hk : (ifM m k).k = 1) (hX : k ∉ X) : exG m X (.bin (logI (ifM m k).l)) k = true := by
  unfold exG
  rw [notin.2 hX]
  simp [gM, binM, hk]
theorem ahead_at {L1 L2 : List Sp} (h : At c s m) (H : Hol c m L1 a n L2) : ∃ m' L1' f, At c ((qAhead c a n).run s).1 m' ∧ ((qAhead c a n).run s).2 = (f, a + n - f) ∧ Hol c m' L1' f (a + n - f) L2 ∧ apE false L1' = false ∧ Kp m m' ∧ fS L1' + (a + n - f) = fS L1 + n ∧ (∀ q, q ≠ f → uM m' q = if q = a then ⟨0, 0, 0⟩ else uM m q) ∧ (f ≠ a → uM m f = ⟨0, 0, 0⟩) ∧ f ≤ a ∧ (apE false L1 = false → f = a) := by
  have hok := Cf.ok_iff.1 h.ok
  have hp := H.pos
  have hn1 := H.n1
  have same : ((qAhead c a n).run s).2 = (a, n) → At c ((qAhead c a n).run s).1 m → apE false L1 = false → ∃ m' L1' f, At c ((qAhead c a n).run s).1 m' ∧ ((qAhead c a n).run s).2 = (f, a + n - f) ∧ Hol c m' L1' f (a + n - f) L2 ∧ apE false L1' = false ∧ Kp m m' ∧ fS L1' + (a + n - f) = fS L1 + n ∧ (∀ q, q ≠ f → uM m' q = if q = a then ⟨0, 0, 0⟩ else uM m q) ∧ (f ≠ a → uM m f = ⟨0, 0, 0⟩) ∧ f ≤ a ∧ (apE false L1 = false → f = a) := fun e1 e2 e3 => by
    have e4 : a + n - a = n := by omega
    refine ⟨m, L1, a, e2, by rw [e1, e4], by rw [e4]; exact H, e3, Kp.rfl, by rw [e4], fun q hq => by rw [if_neg hq], fun e => absurd rfl e, Int.le_refl _, fun _ => rfl⟩
  by_cases h0 : a = 0
  · have e : L1 = [] := by
      cases L1 with
      | nil => rfl
      | cons x L =>
        have h1 := H.t1.1.l1
        have h2 := H.t1.2.le
        omega
    subst e
    have e2 : (a == 0) = true := by simpa using h0
    refine same ?_ ?_ rfl <;> unfold qAhead <;> rw [e2]
    · rfl
    · exact h
  · have hL : ∃ L x, L1 = L ++ [x] := by
      cases e : L1 with
      | nil => rw [e] at H; have h1 : (0 : Int) = a := H.t1; omega
      | cons y L => exact ⟨_, _, (List.dropLast_concat_getLast (l := y :: L) (by simp)).symm⟩
    obtain ⟨L, x, e⟩ := hL
    subst e
    obtain ⟨f, t1, t2, t3⟩ := Tl.app.1 H.t1
    have t3 : f + x.l = a := t3
    have hl := t2.l1
    have hf := t1.le
    have hft : m.foot (a - 1) = f + 1 := by
      have := t2.ft
      rw [t3, nv_id (by omega)] at this
      exact this
    have e2 : (a == 0) = false := by simpa using h0
    have hfp : 0 ≤ f ∧ f < c.p := by omega
    have h1 := h.read (c.foot (wI (a - 1)))
    have hrun : (qAhead c a n).run s = ((pFree c f).bind fun l => bif decide (0 < l) then (qJoin c f a).bind fun m => .ret (f, wI (n + m)) else .ret (a, n)).run (s.read (c.foot (wI (a - 1)))) := by
      unfold qAhead
      rw [e2, cond_false, Pg.run_get, wI_id (x := a - 1) (by omega), h.get_foot (g := a - 1) (by omega), hft, show f + 1 - 1 = f by omega]
    have hif : ifM m f = ⟨x.k, x.l, x.c⟩ := t2.inf
    by_cases hk : x.k = 1
    · have hka : (ifM m f).k = 1 := by rw [hif]; exact hk
      have hfr : ((pFree c f).run (s.read (c.foot (wI (a - 1))))).2 = x.l := by
        rw [(free_at h1 hfp).2, hif, hk]; rfl
      obtain ⟨j1, j2⟩ := join_at (b := a) (free_at h1 hfp).1 hfp hka H.ls (exG_self hka (by simp; omega)) (by omega)
      obtain ⟨k1, k2⟩ := joinl_hol H t1 t2 t3 hk
      have e3 : decide (0 < x.l) = true := by simp; omega
      have hrun2 : (qAhead c a n).run s = (((qJoin c f a).run ((pFree c f).run (s.read (c.foot (wI (a - 1))))).1).1, (f, wI (n + x.l))) := by
        rw [hrun]
        simp only [Pg.run_bind, Pg.run_ret, hfr, e3, cond_true, j2, hif]
      have e4 : a + n - f = x.l + n := by omega
      refine ⟨_, L, f, by rw [hrun2]; exact j1, by rw [hrun2, wI_id (x := n + x.l) (by omega), e4, Int.add_comm], by rw [e4]; exact k1, k2, (Kp.drop m f).trans (Kp.join _ a), ?_, fun q hq => ?_, fun _ => ?_, by omega, fun hx => ?_⟩
      · rw [e4, fS_app]
        simp only [fS, hk, beq_self_eq_true, cond_true]; omega
      · by_cases e : q = a
        · subst e; rw [if_pos rfl]; unfold uM; rw [mJoin_if]; rfl
        · rw [if_neg e]
          refine uM_eq ?_
          rw [mJoin_info, if_neg e]
          exact congrFun (pull_same (m := m) (a := f) (.bin (logI (ifM m f).l))).1 q
      · unfold uM; rw [hif, uI, hk]; rfl
      · rw [apE_app] at hx
        have hx : (x.k == 1) = false := hx
        rw [hk] at hx; cases hx
    · have hka : (ifM m f).k ≠ 1 := by rw [hif]; exact hk
      have hfr := free_no h1 hfp hka
      have hrun2 : (qAhead c a n).run s = (((pFree c f).run (s.read (c.foot (wI (a - 1))))).1, (a, n)) := by
        rw [hrun]
        simp only [Pg.run_bind, hfr, Int.lt_irrefl, decide_false, cond_false, Pg.run_ret]
      refine same (by rw [hrun2]) (by rw [hrun2]; exact (free_at h1 hfp).1) ?_
      rw [apE_app]
      show (x.k == 1) = false
      simpa using hk
theorem next_at {L1 L2 : List Sp} (h : At c s m) (H : Hol c m L1 a n L2) : ∃ m' L2' n', At c ((qNext c (a + n) (a, n)).run s).1 m' ∧ ((qNext c (a + n) (a, n)).run s).2 = (a, n') ∧ Hol c m' L1 a n' L2' ∧ apF true L2' = true ∧ Kp m m' ∧ n' + fS L2' = n + fS L2 ∧ (∀ q, q ≠ a → uM m' q = uM m q) ∧ n ≤ n' := by
  have hok := Cf.ok_iff.1 h.ok
  have hp := H.pos
  have hn1 := H.n1
  cases e : L2 with
  | nil =>
    subst e
    have h1 : a + n = c.p := H.t2
    have e2 : decide (a + n < c.p) = false := by simp; omega
    refine ⟨m, [], n, ?_, ?_, H, rfl, Kp.rfl, rfl, fun q _ => rfl, Int.le_refl _⟩ <;> unfold qNext <;> rw [e2]
    · exact h
    · rfl
  | cons x L =>
    subst e
    obtain ⟨t1, t2⟩ := H.t2
    have hl := t1.l1
    have hle := t2.le
    have hfp : 0 ≤ a + n ∧ a + n < c.p := by omega
    have e2 : decide (a + n < c.p) = true := by simpa using hfp.2
    have hif : ifM m (a + n) = ⟨x.k, x.l, x.c⟩ := t1.inf
    by_cases hk : x.k = 1
    · have hka : (ifM m (a + n)).k = 1 := by rw [hif]; exact hk
      have hfr : ((pFree c (a + n)).run s).2 = x.l := by
        rw [(free_at h hfp).2, hif, hk]; rfl
      obtain ⟨j1, j2⟩ := join_at (b := a + n) (free_at h hfp).1 hfp hka H.ls (exG_self hka (by simp; omega)) (by omega)
      obtain ⟨k1, k2⟩ := joinr_hol H hk
      have e3 : decide (0 < x.l) = true := by simp; omega
      have hrun : (qNext c (a + n) (a, n)).run s = (((qJoin c (a + n) (a + n)).run ((pFree c (a + n)).run s).1).1, (a, wI (n + x.l))) := by
        unfold qNext
        simp only [e2, cond_true, Pg.run_bind, Pg.run_ret, hfr, e3, j2, hif]
      refine ⟨_, L, n + x.l, by rw [hrun]; exact j1, by rw [hrun, wI_id (x := n + x.l) (by omega)], k1, k2, (Kp.drop m (a + n)).trans (Kp.join _ _), ?_, fun q hq => ?_, by omega⟩
      · simp only [fS, hk, beq_self_eq_true, cond_true]; omega
      · by_cases e : q = a + n
        · subst e
          unfold uM; rw [mJoin_if, hif, uI, uI, hk]; rfl
        · refine uM_eq ?_
          rw [mJoin_info, if_neg e]
          exact congrFun (pull_same (m := m) (a := a + n) (.bin (logI (ifM m (a + n)).l))).1 q
    · have hka : (ifM m (a + n)).k ≠ 1 := by rw [hif]; exact hk
      have hfr := free_no h hfp hka
      have hrun : (qNext c (a + n) (a, n)).run s = (((pFree c (a + n)).run s).1, (a, n)) := by
        unfold qNext
        simp only [e2, cond_true, Pg.run_bind, hfr, Int.lt_irrefl, decide_false, cond_false, Pg.run_ret]
      refine ⟨m, x :: L, n, by rw [hrun]; exact (free_at h hfp).1, by rw [hrun], H, ?_, Kp.rfl, rfl, fun q _ => rfl, Int.le_refl _⟩
      have := H.p2
      simp only [apF, Bool.and_eq_true] at this ⊢
      have e5 : (x.k == 1) = false := by simpa using hk
      rw [e5]
      rw [e5] at this
      exact ⟨rfl, this.2⟩
theorem count_at (h : At c s m) (k : Int) : At c ((pCount k).run s).1 { m with fr := nv (m.fr + k) } := by
  unfold pCount
  simp only [Pg.run_get, Pg.run_put, Pg.run_ret]
  have h1 := (h.read 0).set_fr (nv (s.get 0 + k))
  rw [nvnv, h.get_fr] at h1
  rw [h.get_fr]
  exact h1
theorem SndM.same {L : List Sp} {m' : Mm} (S : SndM c m L) (e1 : m'.info = m.info) (e2 : m'.foot = m.foot) (e3 : m'.slots = m.slots) (e4 : m'.taken = m.taken) (e5 : m'.next = m.next) (e6 : m'.prev = m.prev) (e7 : ∀ h : Hq, m'.hd h = m.hd h) : SndM c m' L := by
  obtain ⟨S1, S2⟩ := snd_iff.1 S
  refine snd_iff.2 ⟨⟨S1.tl.of_eq (fun q _ _ => by rw [e1]) (fun q _ _ => by rw [e2]), S1.ap, fun q a1 a2 b b1 b2 => ?_, fun q a1 a2 => ?_⟩, S2.of_eq e7 e5 e6 fun h hh q a1 a2 => gM_eq (by rw [e1]) (by rw [e4]) h⟩
  · rw [badM_eq (m := m) (by rw [e1]) (by rw [e3]) (by rw [e4])]; exact S1.bits q a1 a2 b b1 b2
  · rw [ifM_eq (m := m) (by rw [e1]), e4]; exact S1.some q a1 a2
structure Ch1 (c : Cf) (m m' : Mm) (a : Int) (u : If) (d : Int) : Prop where
  u : ∀ q, 0 ≤ q → q < c.p → uM m' q = if q = a then u else uM m q
  slots : m'.slots = m.slots
  taken : m'.taken = m.taken
  root : m'.root = m.root
  dn : m'.dn = m.dn
  lv : m'.lv = m.lv
  fr : m'.fr = nv (m.fr + d)
theorem add_info (q : Int) : (mAdd m a n).info q = if q = a then iVal 1 n 0 else m.info q := by
  have e : (mAdd m a n).info = (mSpan m 1 a n).info := (push_same (m := mSpan m 1 a n) (a := a) (.bin (logI n))).1
  rw [e, mSpan_info]
theorem add_uM (hn : 1 ≤ n ∧ n ≤ 1024) (q : Int) : uM (mAdd m a n) q = if q = a then ⟨0, 0, 0⟩ else uM m q := by
  by_cases e : q = a
  · subst e
    rw [if_pos rfl]
    unfold uM ifM
    rw [add_info, if_pos rfl, (iVal_get (span_right (.inl rfl) hn)).1]; rfl
  · rw [if_neg e]; exact uM_eq (by rw [add_info, if_neg e])
theorem span_uM (hn : 1 ≤ n ∧ n ≤ 1024) (q : Int) : uM (mSpan m 2 a n) q = if q = a then ⟨2, n, 0⟩ else uM m q := by
  by_cases e : q = a
  · subst e
    rw [if_pos rfl]
    unfold uM; rw [mSpan_if (.inr rfl) hn]; rfl
  · rw [if_neg e]; exact uM_eq (by rw [mSpan_info, if_neg e])
theorem rel_at {L1 L2 : List Sp} (h : At c s m) (H : Hol c m L1 a n L2) : ∃ m' L', At c ((qRelease c a n).run s).1 m' ∧ SndM c m' L' ∧ Ch1 c m m' a ⟨0, 0, 0⟩ n ∧ fS L' = fS L1 + n + fS L2 ∧ (apE false L1 = false → (ifM m' a).k = 1 ∧ n ≤ (ifM m' a).l) := by
  have hok := Cf.ok_iff.1 h.ok
  have hp := H.pos
  have hn1 := H.n1
  obtain ⟨m1, L1', f, g1, g2, g3, g4, g5, g6, g7, g8, g9, g10⟩ := ahead_at h H
  obtain ⟨m2, L2', n', k1, k2, k3, k4, k5, k6, k7, k8⟩ := next_at g1 g3
  have hp2 := k3.pos
  have hn2 := k3.n1
  have hA := add_at (a := f) (n := n') k1 (by omega) (by omega) (k3.ls.hd_ok (h := .bin (logI n')) (logI_bd (by omega)))
  have hS := fill_free k3 (by omega) g4 k4
  have hC := count_at hA n
  have hrun : ((qRelease c a n).run s).1 = ((pCount n).run ((pAdd c f n').run ((qNext c (f + (a + n - f)) (f, a + n - f)).run ((qAhead c a n).run s).1).1).1).1 := by
    unfold qRelease
    simp only [Pg.run_bind, g2]
    rw [wI_id (x := a + n) (by omega), show f + (a + n - f) = a + n by omega] at *
    rw [k2]
  refine ⟨{ mAdd m2 f n' with fr := nv ((mAdd m2 f n').fr + n) }, _, by rw [hrun]; exact hC, hS.same rfl rfl rfl rfl rfl rfl (fun h => by cases h <;> rfl), ⟨fun q a1 a2 => ?_, ?_, ?_, ?_, ?_, ?_, ?_⟩, ?_, fun hx => ?_⟩
  · show uM (mAdd m2 f n') q = _
    rw [add_uM (by omega)]
    by_cases e : q = f
    · rw [if_pos e]
      by_cases e2 : q = a
      · rw [if_pos e2]
      · rw [if_neg e2, e, g8 (fun e3 => e2 (e.trans e3))]
    · rw [if_neg e, k7 q e, g7 q e]
  · exact (g5.trans (k5.trans (Kp.add m2 f n'))).slots
  · exact (g5.trans (k5.trans (Kp.add m2 f n'))).taken
  · exact (g5.trans (k5.trans (Kp.add m2 f n'))).root
  · exact (g5.trans (k5.trans (Kp.add m2 f n'))).dn
  · exact (g5.trans (k5.trans (Kp.add m2 f n'))).lv
  · show nv ((mAdd m2 f n').fr + n) = _
    rw [(g5.trans (k5.trans (Kp.add m2 f n'))).fr]
  · rw [fS_app]
    simp only [fS, beq_self_eq_true, cond_true]; omega
  · have e := g10 hx
    subst e
    have e2 : ifM { mAdd m2 f n' with fr := nv ((mAdd m2 f n').fr + n) } f = ⟨1, n', 0⟩ := by
      show iGet ((mAdd m2 f n').info f) = _
      rw [add_info, if_pos rfl, (iVal_get (span_right (.inl rfl) ⟨by omega, by omega⟩)).1]
    rw [e2]
    exact ⟨rfl, by show n ≤ n'; omega⟩
end
end Go.Proofs.Ytajcpopikdpcmaa
namespace Go.Proofs.Ytajcpopikdpcmaa
open Go.Sl
theorem read_wrote (s : VS) (i : Int) : (s.read i).wrote = s.wrote := by
  rcases VS.read_cases s i with h | ⟨_, _, _, h⟩ | ⟨_, _, _, _, h⟩ <;> rw [h]
theorem log_le {n l : Int} (h1 : 1 ≤ n) (h : n ≤ l) : logI n ≤ logI l := by
  unfold logI
  rw [if_neg (by omega), if_neg (by omega)]
  have h2 : 2 ^ Nat.log2 n.toNat ≤ n.toNat := (Nat.le_log2 (by omega)).1 (Nat.le_refl _)
  have := (Nat.le_log2 (n := l.toNat) (by omega)).2 (Nat.le_trans h2 (by omega))
  omega
theorem log_lt {n l : Int} (h1 : 1 ≤ n) (h3 : 1 ≤ l) (h : logI n < logI l) : n < l := by
  unfold logI at h
  rw [if_neg (by omega), if_neg (by omega)] at h
  have h2 := (Nat.log2_lt (n := n.toNat) (k := Nat.log2 l.toNat) (by omega)).1 (by omega)
  have h4 := (Nat.le_log2 (n := l.toNat) (by omega)).1 (Nat.le_refl (Nat.log2 l.toNat))
  omega
section
variable {c : Cf} {m : Mm} {s : VS} {a n : Int}
theorem free_wrote : ((pFree c a).run s).1.wrote = s.wrote := read_wrote s _
theorem page_no {p : Int} (h : ¬ (0 ≤ p ∧ p < c.p)) : c.page p = false := by
  rw [← Bool.not_eq_true, Cf.page_iff]; exact h
theorem first_at (hn : 1 ≤ n) : ∀ (f : Nat) (l : List Int) (s : VS) (q b b' : Int), At c s m → Sg' m c.p q b l 0 b' → (∀ g ∈ l, (ifM m g).k = 1) → l.length ≤ f →
    At c ((pFirst c n f (q - 1)).run s).1 m ∧ ((pFirst c n f (q - 1)).run s).1.wrote = s.wrote ∧
    (((pFirst c n f (q - 1)).run s).2.2 = true → ((pFirst c n f (q - 1)).run s).2.1 ∈ l ∧ n ≤ (ifM m ((pFirst c n f (q - 1)).run s).2.1).l) ∧
    (((pFirst c n f (q - 1)).run s).2.2 = false → ((pFirst c n f (q - 1)).run s).2.1 = 0 ∧ ∀ g ∈ l, (ifM m g).l < n)
  | 0, l, s, q, b, b', h, hl, hk, hf => by
    have : l = [] := List.length_eq_zero_iff.1 (by omega)
    subst this
    exact ⟨h, rfl, fun e => (by cases e), fun _ => ⟨rfl, fun g hg => by cases hg⟩⟩
  | f + 1, [], s, q, b, b', h, hl, hk, hf => by
    have hq : q = 0 := hl.1
    have e : c.page (q - 1) = false := page_no (by omega)
    unfold pFirst
    rw [e, cond_false]
    exact ⟨h, rfl, fun e => (by cases e), fun _ => ⟨rfl, fun g hg => by cases hg⟩⟩
  | f + 1, x :: l, s, q, b, b', h, ⟨h1, h2, h3, h4⟩, hk, hf => by
    have hq : q - 1 = x := by omega
    have e : c.page x = true := Cf.page_iff.2 h2
    have hkx := hk x (by simp)
    obtain ⟨f1, f2⟩ := free_at h h2
    rw [hkx] at f2
    have hrun : (pFirst c n (f + 1) (q - 1)).run s = (bif decide (n ≤ (ifM m x).l) then Pg.ret (x, true) else .get (c.next x) fun q => pFirst c n f (q - 1)).run ((pFree c x).run s).1 := by
      rw [hq]
      show (bif c.page x then _ else _ : Pg _).run s = _
      rw [e, cond_true, Pg.run_bind, f2]; rfl
    rw [hrun]
    by_cases hd : n ≤ (ifM m x).l
    · have e2 : decide (n ≤ (ifM m x).l) = true := by simpa using hd
      rw [e2, cond_true, Pg.run_ret]
      exact ⟨f1, free_wrote, fun _ => ⟨by simp, hd⟩, fun e => by cases e⟩
    · have e2 : decide (n ≤ (ifM m x).l) = false := by simpa using hd
      rw [e2, cond_false, Pg.run_get, f1.get_next h2]
      obtain ⟨i1, i2, i3, i4⟩ := first_at hn f l _ (m.next x) q b' (f1.read (c.next x)) h4 (fun g hg => hk g (by simp [hg])) (by simp only [List.length_cons] at hf; omega)
      refine ⟨i1, by rw [i2, read_wrote, free_wrote], fun e => ?_, fun e => ?_⟩
      · have := i3 e; exact ⟨by simp [this.1], this.2⟩
      · refine ⟨(i4 e).1, fun g hg => ?_⟩
        rcases List.mem_cons.1 hg with rfl | hg
        · omega
        · exact (i4 e).2 g hg
theorem bins_at (S : ListsM c m (gM m)) : ∀ (f : Nat) (k : Int) (s : VS), At c s m → 0 ≤ k → 11 - k ≤ f →
    At c ((pBins c f k).run s).1 m ∧ ((pBins c f k).run s).1.wrote = s.wrote ∧
    (((pBins c f k).run s).2.2 = true → ∃ k', k ≤ k' ∧ k' < 11 ∧ (0 ≤ ((pBins c f k).run s).2.1 ∧ ((pBins c f k).run s).2.1 < c.p) ∧ binM m k' ((pBins c f k).run s).2.1 = true) ∧
    (((pBins c f k).run s).2.2 = false → ((pBins c f k).run s).2.1 = 0 ∧ ∀ k', k ≤ k' → k' < 11 → ∀ g, 0 ≤ g → g < c.p → binM m k' g = false)
  | 0, k, s, h, h0, hf => ⟨h, rfl, fun e => (by cases e), fun _ => ⟨rfl, fun k' _ _ => by omega⟩⟩
  | f + 1, k, s, h, h0, hf => by
    by_cases hk : k < 11
    · have e : decide (k < 11) = true := by simpa using hk
      have hok : (Hq.bin k).ok := ⟨h0, hk⟩
      obtain ⟨l, ⟨b', hl⟩, _, hm⟩ := S.ls (.bin k) hok
      have hl : Sg' m c.p (m.bin k) 0 l 0 b' := hl
      have hrun : (pBins c (f + 1) k).run s = (bif c.page (m.bin k - 1) then Pg.ret (m.bin k - 1, true) else pBins c f (k + 1)).run (s.read (cBin k)) := by
        show (bif decide (k < 11) then _ else _ : Pg _).run s = _
        rw [e, cond_true, Pg.run_get, h.get_bin ⟨h0, hk⟩]
      rw [hrun]
      have h1 := h.read (cBin k)
      cases l with
      | nil =>
        have hq : m.bin k = 0 := hl.1
        have e2 : c.page (m.bin k - 1) = false := page_no (by omega)
        rw [e2, cond_false]
        obtain ⟨i1, i2, i3, i4⟩ := bins_at S f (k + 1) _ h1 (by omega) (by omega)
        refine ⟨i1, by rw [i2, read_wrote], fun e => ?_, fun e => ⟨(i4 e).1, fun k' g1 g2 g g3 g4 => ?_⟩⟩
        · obtain ⟨k', j1, j2⟩ := i3 e
          exact ⟨k', by omega, j2⟩
        · by_cases e3 : k' = k
          · subst e3
            cases e4 : binM m k' g with
            | false => rfl
            | true => exact absurd ((hm g).2 ⟨⟨g3, g4⟩, e4⟩) (by simp)
          · exact (i4 e).2 k' (by omega) g2 g g3 g4
      | cons x r =>
        obtain ⟨q1, q2, _⟩ := hl
        have e2 : c.page (m.bin k - 1) = true := Cf.page_iff.2 (by omega)
        rw [e2, cond_true, Pg.run_ret]
        refine ⟨h1, read_wrote _ _, fun _ => ⟨k, Int.le_refl _, hk, by show 0 ≤ m.bin k - 1 ∧ m.bin k - 1 < c.p; omega, ?_⟩, fun e => (by cases e)⟩
        show binM m k (m.bin k - 1) = true
        rw [show m.bin k - 1 = x by omega]
        exact ((hm x).1 (by simp)).2
    · have e : decide (k < 11) = false := by simpa using hk
      have hrun : (pBins c (f + 1) k).run s = (s, (0, false)) := by
        show (bif decide (k < 11) then _ else _ : Pg _).run s = _
        rw [e, cond_false, Pg.run_ret]
      rw [hrun]
      exact ⟨h, rfl, fun e => (by cases e), fun _ => ⟨rfl, fun k' _ _ => by omega⟩⟩
theorem span_fits {L : List Sp} (S : SndM c m L) (ha : 0 ≤ a ∧ a < c.p) (hk : (ifM m a).k ≠ 0) : ∃ L1 x L2, L = L1 ++ x :: L2 ∧ Tl m 0 L1 a ∧ Spn m a x ∧ Tl m (a + x.l) L2 c.p ∧ ifM m a = ⟨x.k, x.l, x.c⟩ ∧ a + x.l ≤ c.p := by
  obtain ⟨L1, x, L2, g1, g2, g3, g4⟩ := Tl.at S.tl ha.1 ha.2 hk
  exact ⟨L1, x, L2, g1, g2, g3, g4, g3.inf, g4.le⟩
theorem find_at {L : List Sp} (h : At c s m) (S : SndM c m L) : At c ((pFind c n).run s).1 m ∧ ((pFind c n).run s).1.wrote = s.wrote ∧
    (((pFind c n).run s).2.2 = true → 1 ≤ n ∧ (0 ≤ ((pFind c n).run s).2.1 ∧ ((pFind c n).run s).2.1 < c.p) ∧ (ifM m ((pFind c n).run s).2.1).k = 1 ∧ n ≤ (ifM m ((pFind c n).run s).2.1).l) ∧
    (((pFind c n).run s).2.2 = false → ((pFind c n).run s).2.1 = 0 ∧ (1 ≤ n → ∀ g, 0 ≤ g → g < c.p → (ifM m g).k = 1 → (ifM m g).l < n)) := by
  have hok := Cf.ok_iff.1 h.ok
  obtain ⟨S1, S2⟩ := snd_iff.1 S
  unfold pFind
  by_cases hn : 1 ≤ n ∧ n ≤ c.p
  · have e : (decide (1 ≤ n) && decide (n ≤ c.p)) = true := by simp [hn]
    rw [e, cond_true, Pg.run_bind, Pg.run_get]
    have eb : binOf n = logI n := by
      unfold binOf
      have : decide (n > 1024) = false := by simp; omega
      rw [this]; rfl
    have hb := logI_bd (n := n) (by omega)
    rw [eb, h.get_bin hb]
    obtain ⟨l, ⟨b', hl⟩, hnd, hm⟩ := S2.ls (.bin (logI n)) hb
    have hl : Sg' m c.p (m.bin (logI n)) 0 l 0 b' := hl
    have hk1 : ∀ g ∈ l, (ifM m g).k = 1 := fun g hg => by
      have := ((hm g).1 hg).2
      simp only [gM, binM, Bool.and_eq_true, beq_iff_eq] at this
      exact this.1
    have hlen := nodup_pages hnd (Sg'.pages hl)
    obtain ⟨i1, i2, i3, i4⟩ := first_at hn.1 c.p.toNat l _ (m.bin (logI n)) 0 b' (h.read (cBin (logI n))) hl hk1 hlen
    rw [read_wrote] at i2
    cases hr : ((pFirst c n c.p.toNat (m.bin (logI n) - 1)).run (s.read (cBin (logI n)))).2.2 with
    | true =>
      rw [cond_true, Pg.run_ret]
      refine ⟨i1, i2, fun _ => ?_, fun e => ?_⟩
      · obtain ⟨j1, j2⟩ := i3 hr
        exact ⟨hn.1, Sg'.pages hl _ j1, hk1 _ j1, j2⟩
      · rw [hr] at e; cases e
    | false =>
      rw [cond_false]
      obtain ⟨k1, k2, k3, k4⟩ := bins_at S2 12 (logI n + 1) _ i1 (by omega) (by omega)
      refine ⟨k1, k2.trans i2, fun e => ?_, fun e => ⟨(k4 e).1, fun _ g g1 g2 g3 => ?_⟩⟩
      · obtain ⟨k', j1, j2, j3, j4⟩ := k3 e
        simp only [binM, Bool.and_eq_true, beq_iff_eq] at j4
        have hl2 := iGet_one j4.1
        refine ⟨hn.1, j3, j4.1, ?_⟩
        have := log_lt hn.1 hl2.1 (show logI n < logI (ifM m _).l by rw [j4.2]; omega)
        exact Int.le_of_lt this
      · have hl2 := iGet_one g3
        have hb2 := logI_bd hl2
        rcases Int.lt_or_le (ifM m g).l n with h5 | h5
        · exact h5
        · have h6 := log_le hn.1 h5
          by_cases e7 : logI (ifM m g).l = logI n
          · exact (i4 hr).2 g ((hm g).2 ⟨⟨g1, g2⟩, by simp [gM, binM, g3, e7]⟩)
          · have := (k4 e).2 (logI (ifM m g).l) (by omega) hb2.2 g g1 g2
            simp [binM, g3] at this
  · have e : (decide (1 ≤ n) && decide (n ≤ c.p)) = false := by
      cases h1 : (decide (1 ≤ n) && decide (n ≤ c.p)) with
      | false => rfl
      | true => simp only [Bool.and_eq_true, decide_eq_true_eq] at h1; exact absurd h1 hn
    rw [e, cond_false, Pg.run_ret]
    refine ⟨h, rfl, fun e => (by cases e), fun _ => ⟨rfl, fun h1 g g1 g2 g3 => ?_⟩⟩
    obtain ⟨L1, x, L2, _, _, _, _, e2, e3⟩ := span_fits S ⟨g1, g2⟩ (by rw [g3]; decide)
    rw [e2]; show x.l < n; omega
theorem qused_at {k : Int} (h : At c s m) (ha : 0 ≤ a ∧ a < c.p) (hk : 1 ≤ k ∧ k ≤ c.p - a) : At c ((qUsed c a k).run s).1 (mSpan m 2 a k) := by
  have hok := Cf.ok_iff.1 h.ok
  have e : qUsed c a k = pUsed c a k := by
    unfold qUsed pUsed
    rw [wI_id (x := a + k) (by omega), wI_id (x := a + k - 1) (by omega)]
  rw [e]; exact used_at h ha hk
theorem part_at {L1 L2 : List Sp} {k : Int} (h : At c s m) (H : Hol c m L1 a n L2) (hk : 1 ≤ k ∧ k ≤ n) (h2 : apF true L2 = true) : ∃ m' L', At c (((qUsed c a k).bind fun _ => bif decide (k < n) then pAdd c (a + k) (n - k) else .ret ()).run s).1 m' ∧ SndM c m' L' ∧ Kp m m' ∧ (∀ q, q ≠ a → (k < n → q ≠ a + k) → uM m' q = uM m q) ∧ uM m' a = ⟨2, k, 0⟩ ∧ (k < n → uM m' (a + k) = ⟨0, 0, 0⟩) ∧ fS L' = fS L1 + (n - k) + fS L2 := by
  have hok := Cf.ok_iff.1 h.ok
  have hp := H.pos
  have hn1 := H.n1
  have h1 := qused_at (a := a) (k := k) h (by omega) (by omega)
  rw [Pg.run_bind]
  by_cases hkn : k < n
  · have e : decide (k < n) = true := by simpa using hkn
    have H1 := split_hol (k := k) H ⟨hk.1, hkn⟩ (by omega)
    have hA := add_at (a := a + k) (n := n - k) h1 (by omega) (by omega) (H1.ls.hd_ok (h := .bin (logI (n - k))) (logI_bd (by omega)))
    rw [e, cond_true]
    refine ⟨_, _, hA, fill_free H1 (by omega) ?_ h2, (Kp.span m 2 a k).trans (Kp.add _ _ _), fun q q1 q2 => ?_, ?_, fun _ => ?_, ?_⟩
    · rw [apE_app]; rfl
    · rw [add_uM (by omega), if_neg (q2 hkn), span_uM (by omega), if_neg q1]
    · rw [add_uM (by omega), if_neg (by omega), span_uM (by omega), if_pos rfl]
    · rw [add_uM (by omega), if_pos rfl]
    · rw [fS_app, fS_app]; simp [fS]; omega
  · have e : decide (k < n) = false := by simpa using hkn
    have ek : k = n := by omega
    subst ek
    rw [e, cond_false, Pg.run_ret]
    refine ⟨_, _, h1, fill_used H (by omega), Kp.span m 2 a k, fun q q1 q2 => ?_, ?_, fun e => by omega, ?_⟩
    · rw [span_uM (by omega), if_neg q1]
    · rw [span_uM (by omega), if_pos rfl]
    · rw [fS_app]; simp [fS]
theorem take_at {L : List Sp} (h : At c s m) (S : SndM c m L) :
    (((qTake c n).run s).2.2 = false → ((qTake c n).run s).2.1 = 0 ∧ At c ((qTake c n).run s).1 m ∧ ((qTake c n).run s).1.wrote = s.wrote ∧ (1 ≤ n → ∀ g, 0 ≤ g → g < c.p → (ifM m g).k = 1 → (ifM m g).l < n)) ∧
    (((qTake c n).run s).2.2 = true → ∃ m' L' p, ((qTake c n).run s).2.1 = p ∧ At c ((qTake c n).run s).1 m' ∧ SndM c m' L' ∧ Ch1 c m m' p ⟨2, n, 0⟩ (-n) ∧ uM m p = ⟨0, 0, 0⟩ ∧ fS L' = fS L - n ∧ (0 ≤ p ∧ p + n ≤ c.p ∧ 1 ≤ n) ∧ (ifM m p).k = 1 ∧ n ≤ (ifM m p).l) := by
  have hok := Cf.ok_iff.1 h.ok
  obtain ⟨f1, f2, f3, f4⟩ := find_at (n := n) h S
  cases hr : ((pFind c n).run s).2.2 with
  | false =>
    have hrun : (qTake c n).run s = (((pFind c n).run s).1, (0, false)) := by
      unfold qTake
      rw [Pg.run_bind, hr, cond_false, Pg.run_ret]
    rw [hrun]
    exact ⟨fun _ => ⟨rfl, f1, f2, (f4 hr).2⟩, fun e => (by cases e)⟩
  | true =>
    obtain ⟨g1, g2, g3, g4⟩ := f3 hr
    generalize hpq : ((pFind c n).run s).2.1 = p at g2 g3 g4
    obtain ⟨L1, x, L2, e1, t1, t2, t3, e2, e3⟩ := span_fits S g2 (by rw [g3]; decide)
    subst e1
    have hxk : x.k = 1 := by rw [e2] at g3; exact g3
    have hxl : n ≤ x.l := by rw [e2] at g4; exact g4
    obtain ⟨S1, S2⟩ := snd_iff.1 S
    obtain ⟨d1, d2⟩ := drop_at' f1 g2 g3 S2 (by simp [gM, binM, g3])
    obtain ⟨H, hap, _⟩ := drop_hol S t1 t2 t3 hxk
    obtain ⟨m', L', k1, k2, k3, k4, k5, k6, k7⟩ := part_at (k := n) d1 H ⟨g1, hxl⟩ hap
    have hC := count_at k1 (-n)
    have hrun : (qTake c n).run s = (((pCount (-n)).run (((qUsed c p n).bind fun _ => bif decide (n < x.l) then pAdd c (p + n) (x.l - n) else .ret ()).run ((pDrop c p).run ((pFind c n).run s).1).1).1).1, (p, true)) := by
      unfold qTake
      simp only [Pg.run_bind, hr, cond_true, hpq, d2, e2, Pg.run_ret]
      rw [wI_id (x := p + n) (by omega), wI_id (x := x.l - n) (by omega)]
    rw [hrun]
    have ei : ∀ q, uM (mDrop m p) q = uM m q := fun q => uM_eq (congrFun (pull_same (m := m) (a := p) (.bin (logI (ifM m p).l))).1 q)
    have kk := (Kp.drop m p).trans k3
    refine ⟨fun e => (by cases e), fun _ => ⟨_, L', p, rfl, hC, k2.same rfl rfl rfl rfl rfl rfl (fun h => by cases h <;> rfl), ⟨fun q a1 a2 => ?_, kk.slots, kk.taken, kk.root, kk.dn, kk.lv, ?_⟩, ?_, ?_, by omega, by rw [e2]; exact hxk, by rw [e2]; exact hxl⟩⟩
    · show uM m' q = _
      by_cases e : q = p
      · subst e; rw [if_pos rfl, k5]
      · rw [if_neg e]
        by_cases e4 : q = p + n
        · by_cases e5 : n < x.l
          · rw [e4, k6 e5]
            unfold uM
            rw [zero_if (t2.in0 (p + n) (by omega) (by omega))]; rfl
          · rw [k4 q e (fun e6 => absurd e6 e5), ei]
        · rw [k4 q e (fun _ => e4), ei]
    · show nv (m'.fr + -n) = _
      rw [kk.fr]
    · unfold uM; rw [e2, uI, hxk]; rfl
    · rw [k7, fS_app]
      simp only [fS, hxk, beq_self_eq_true, cond_true]; omega
end
end Go.Proofs.Ytajcpopikdpcmaa
namespace Go.Proofs.Ytajcpopikdpcmaa
open Go.Sl
def lgF (c : Cf) (xs : List Int) : Nat → Int
  | 0 => 0
  | k + 1 => bif (aInfo c xs k).k == 1 then max (lgF c xs k) (aInfo c xs k).l else lgF c xs k
theorem lgF_bd (c : Cf) (xs : List Int) : ∀ k : Nat, 0 ≤ lgF c xs k ∧ lgF c xs k ≤ 1024
  | 0 => ⟨Int.le_refl 0, (by decide : (0 : Int) ≤ 1024)⟩
  | k + 1 => by
    have h := lgF_bd c xs k
    have hb := iGet_bd (cel xs (c.info k))
    have hb2 : 0 ≤ (aInfo c xs k).l ∧ (aInfo c xs k).l ≤ 1024 := ⟨hb.2.2.1, hb.2.2.2.1⟩
    simp only [lgF]
    cases (aInfo c xs k).k == 1 with
    | true => simp only [cond_true]; omega
    | false => exact h
theorem lgF_iff (c : Cf) (xs : List Int) {n : Int} (hn : 1 ≤ n) : ∀ k : Nat, n ≤ lgF c xs k ↔ ∃ g : Int, 0 ≤ g ∧ g < k ∧ (aInfo c xs g).k = 1 ∧ n ≤ (aInfo c xs g).l
  | 0 => by
    simp only [lgF]
    constructor
    · intro h; omega
    · rintro ⟨g, h1, h2, _⟩; omega
  | k + 1 => by
    have ih := lgF_iff c xs hn k
    simp only [lgF]
    cases hk : (aInfo c xs k).k == 1 with
    | true =>
      simp only [beq_iff_eq] at hk
      simp only [cond_true]
      constructor
      · intro h
        by_cases h2 : n ≤ lgF c xs k
        · obtain ⟨g, g1, g2, g3⟩ := ih.1 h2
          exact ⟨g, g1, by push_cast; omega, g3⟩
        · exact ⟨k, by omega, by push_cast; omega, hk, by omega⟩
      · rintro ⟨g, g1, g2, g3, g4⟩
        by_cases e : g = k
        · subst e; omega
        · have := ih.2 ⟨g, g1, by push_cast at g2; omega, g3, g4⟩; omega
    | false =>
      simp only [beq_eq_false_iff_ne, ne_eq] at hk
      simp only [cond_false]
      rw [ih]
      constructor
      · rintro ⟨g, g1, g2, g3⟩
        exact ⟨g, g1, by push_cast; omega, g3⟩
      · rintro ⟨g, g1, g2, g3, g4⟩
        by_cases e : g = k
        · subst e; exact absurd g3 hk
        · exact ⟨g, g1, by push_cast at g2; omega, g3, g4⟩
theorem sound_good {c : Cf} {xs : List Int} (h : soundA c xs = true) (hb : bdAll xs) : AGood c xs := ((sound_iff hb).1 h).1
theorem good_long {c : Cf} {xs : List Int} (h : AGood c xs) : 30 ≤ (xs.length : Int) ∧ xs.length ≤ 1000000 := by
  have h1 := Cf.ok_iff.1 h.ok
  have h2 := h.len
  rw [show c.cells = 30 + 4 * c.t + 6 * c.p by unfold Cf.cells; rw [h.ok]; rfl] at h2
  omega
theorem fits_law {c : Cf} {xs : List Int} (hb : bdAll xs) (hs : soundA c xs = true) (n : Int) : ((pFind c n).run (VS.whole xs)).1.wrote = [] ∧ ((pFind c n).run (VS.whole xs)).2.2 = (decide (1 ≤ n) && decide (n ≤ lgF c xs c.p.toNat)) ∧
    (((pFind c n).run (VS.whole xs)).2.2 = false → ((pFind c n).run (VS.whole xs)).2.1 = 0) ∧
    (((pFind c n).run (VS.whole xs)).2.2 = true → (0 ≤ ((pFind c n).run (VS.whole xs)).2.1 ∧ ((pFind c n).run (VS.whole xs)).2.1 < c.p) ∧ (aInfo c xs ((pFind c n).run (VS.whole xs)).2.1).k = 1 ∧ n ≤ (aInfo c xs ((pFind c n).run (VS.whole xs)).2.1).l) := by
  obtain ⟨hx, L, S⟩ := (sound_iff hb).1 hs
  have hok := Cf.ok_iff.1 hx.ok
  obtain ⟨f1, f2, f3, f4⟩ := find_at (n := n) (at_whole hx) S.snd
  refine ⟨f2, ?_, fun e => (f4 e).1, fun e => (f3 e).2⟩
  cases hr : ((pFind c n).run (VS.whole xs)).2.2 with
  | true =>
    obtain ⟨h1, h2, h3, h4⟩ := f3 hr
    have := (lgF_iff c xs h1 c.p.toNat).2 ⟨_, h2.1, by omega, h3, h4⟩
    simp [h1, this]
  | false =>
    by_cases h1 : 1 ≤ n
    · have h2 : ¬ n ≤ lgF c xs c.p.toNat := fun h => by
        obtain ⟨g, g1, g2, g3, g4⟩ := (lgF_iff c xs h1 c.p.toNat).1 h
        have := (f4 hr).2 h1 g g1 (by omega) g3
        have e : (ifM (Mm.of c xs) g).l = (aInfo c xs g).l := rfl
        omega
      simp [h2]
    · simp [h1]
def l14_live : Bool := true
abbrev c_l14_live : Ct Sg := ⟨none, false, [], .b⟩
def e_l14_live : Entry Sg := entC c_l14_live l14_live ([])
def l14_live_w (R_ : Bool → Prop) : Prop := (∀ r0 : Int × Int × Int × List Int, r0 = (l14_Eight) → (∀ r3 : VS, r3 = (VS.whole (Prod.snd (Prod.snd (Prod.snd r0)))) → ((List.length (Prod.snd (Prod.snd (Prod.snd r0))) ≤ (1000000 : Nat)) ∧ ((List.length (Prod.snd (Prod.snd (Prod.snd r0))) ≤ (1000000 : Nat)) → ((∀ (v : Int), v ∈ Cm.liOf (hdC (List.drop (Sh.nC (σ := Sg) (Sh.agg [Sh.i IntKind.i64, Sh.i IntKind.i64, Sh.i IntKind.i64])) (restC (Ct.rob c_l14_Eight) (toCm (Ct.RK c_l14_Eight) r0)))) → bd32 v) ∧ ((∀ (v : Int), v ∈ Cm.liOf (hdC (List.drop (Sh.nC (σ := Sg) (Sh.agg [Sh.i IntKind.i64, Sh.i IntKind.i64, Sh.i IntKind.i64])) (restC (Ct.rob c_l14_Eight) (toCm (Ct.RK c_l14_Eight) r0)))) → bd32 v) → (∀ r7 : VS × Int × Bool, r7 = (bin_Find r3 (Prod.fst r0) (Prod.fst (Prod.snd r0)) (Prod.fst (Prod.snd (Prod.snd r0))) (5 : Int)) → ((Prod.fst (Prod.snd r0) ≤ (9223372036854775807 : Int)) ∧ ((Prod.fst (Prod.snd r0) ≤ (9223372036854775807 : Int)) → (∀ r9 : VS, r9 = (VS.whole (Prod.snd (Prod.snd (Prod.snd r0)))) → ((List.length (Prod.snd (Prod.snd (Prod.snd r0))) ≤ (1000000 : Nat)) ∧ ((List.length (Prod.snd (Prod.snd (Prod.snd r0))) ≤ (1000000 : Nat)) → ((∀ (v : Int), v ∈ Cm.liOf (hdC (List.drop (Sh.nC (σ := Sg) (Sh.agg [Sh.i IntKind.i64, Sh.i IntKind.i64, Sh.i IntKind.i64])) (restC (Ct.rob c_l14_Eight) (toCm (Ct.RK c_l14_Eight) r0)))) → bd32 v) ∧ ((∀ (v : Int), v ∈ Cm.liOf (hdC (List.drop (Sh.nC (σ := Sg) (Sh.agg [Sh.i IntKind.i64, Sh.i IntKind.i64, Sh.i IntKind.i64])) (restC (Ct.rob c_l14_Eight) (toCm (Ct.RK c_l14_Eight) r0)))) → bd32 v) → (∀ r13 : VS × Int × Bool, r13 = (bin_Find r9 (Prod.fst r0) (Prod.fst (Prod.snd r0)) (Prod.fst (Prod.snd (Prod.snd r0))) (9 : Int)) → ((Prod.fst (Prod.snd r0) ≤ (9223372036854775807 : Int)) ∧ ((Prod.fst (Prod.snd r0) ≤ (9223372036854775807 : Int)) → (∀ r15 : Int, r15 = ((2 : Int)) → (R_ (r15 == (2 : Int) && Prod.fst (Prod.snd r7) == (0 : Int) && Prod.snd (Prod.snd r7) && !Prod.snd (Prod.snd r13)))))))))))))))))))))
theorem l14_live_begin : l14_live_w   (fun r__ => r__ = l14_live) := by
  unfold l14_live_w
  have h1 : l14_Eight.2.2.2.length ≤ 1000000 := by decide +kernel
  have h2 : ∀ v ∈ l14_Eight.2.2.2, bd32 v := by unfold bd32; decide +kernel
  have h3 : l14_Eight.2.1 ≤ 9223372036854775807 := by decide +kernel
  rintro r0 rfl
  repeat' first
    | (refine fun r hr => ?_; subst hr)
    | refine ⟨h1, fun _ => ?_⟩
    | refine ⟨h2, fun _ => ?_⟩
    | refine ⟨h3, fun _ => ?_⟩
    | fail
  show _ = true
  decide +kernel
theorem l14_live_ok : EntryOk Dg Try.prog 6 e_l14_live :=
  ent_wp Dg T_l14_Eight_ok (I := [2999998]) Try.func6 mix (B := bodyOf Try.f6) (by kernel_rfl) rfl (by kernel_rfl) 400
    fun p0  hb hp => ⟨[], fun j => List.getD [] j (fun _ => False), fun j => List.getD [] j (fun _ => (0, 0, 0)), by kernel_rfl, ⟨l14_live_w   (fun r__ => r__ = l14_live), fun _ _ _ => by kernel_rfl, l14_live_begin  ⟩, trivial⟩
def T_l14_live : List (Nat × Entry Sg) := (6, e_l14_live) :: T_l14_Eight
theorem T_l14_live_ok : TableOk Dg Try.prog T_l14_live := TableOk.cons Dg l14_live_ok T_l14_Eight_ok
def l14_longest (t : Int) (p : Int) (sh : Int) (xs : List Int) : Int := lgF ⟨t, p, sh⟩ xs p.toNat
abbrev c_l14_longest : Ct Sg := ⟨none, false, [.agg [.i .i64, .i .i64, .i .i64], .ro [some .u32]], .i .i64⟩
def e_l14_longest : Entry Sg := entC c_l14_longest l14_longest (fun t p sh xs => [AGood ⟨t, p, sh⟩ xs])
def l14_longest_w (t : Int) (p : Int) (sh : Int) (xs : List Int) (Q0 : Int → Int → Prop) (R_ : Int → Prop) : Prop := (Q0 ((0 : Int)) ((0 : Int)))
def l14_longest_w0 (t : Int) (p : Int) (sh : Int) (xs : List Int) (i : Int) (m : Int) (Q0 : Int → Int → Prop) (R_ : Int → Prop) : Prop := (((decide (i < p)) = true → ((AGood { t := t, p := p, s := sh } xs) ∧ ((AGood { t := t, p := p, s := sh } xs) → (((0 : Int) ≤ i ∧ i < p) ∧ (((0 : Int) ≤ i ∧ i < p) → (((Prod.fst (x_Info t p sh xs i) == (1 : Int)) = true → (Q0 (IntKind.wrap IntKind.i64 (i + (1 : Int))) (if If.l (aInfo { t := t, p := p, s := sh } xs i) > m then If.l (aInfo { t := t, p := p, s := sh } xs i) else m))) ∧ ((Prod.fst (x_Info t p sh xs i) == (1 : Int)) = false → (Q0 (IntKind.wrap IntKind.i64 (i + (1 : Int))) (m))))))))) ∧ ((decide (i < p)) = false → (R_ (m))))
def l14_longest_I0 (t : Int) (p : Int) (sh : Int) (xs : List Int) (i : Int) (m : Int) (r_ : Int) : Prop := 0 ≤ i ∧ i ≤ p ∧ m = lgF ⟨t, p, sh⟩ xs i.toNat ∧ r_ = l14_longest t p sh xs
theorem l14_longest_begin (t : Int) (p : Int) (sh : Int) (xs : List Int) (hp0 : AGood ⟨t, p, sh⟩ xs) (hl0 : xs.length ≤ 9223372036854775807) : l14_longest_w t p sh xs (fun i' m' => l14_longest_I0 t p sh xs i' m' (l14_longest t p sh xs)) (fun r__ => r__ = (l14_longest t p sh xs)) := by
  unfold l14_longest_w
  try unfold l14_longest_I0
  have hok := Cf.ok_iff.1 hp0.ok
  simp only at hok
  exact ⟨by omega, by omega, rfl, rfl⟩
theorem l14_longest_step0 (t : Int) (p : Int) (sh : Int) (xs : List Int) (hp0 : AGood ⟨t, p, sh⟩ xs) (hl0 : xs.length ≤ 9223372036854775807) (i : Int) (m : Int) {r_ : Int} (hI : l14_longest_I0 t p sh xs i m r_) : l14_longest_w0 t p sh xs i m (fun i' m' => l14_longest_I0 t p sh xs i' m' r_ ∧ lx ((p - i').toNat, 0, 0) ((p - i).toNat, 0, 0)) (fun r__ => r__ = r_) := by
  unfold l14_longest_I0 at hI
  unfold l14_longest_w0
  try unfold l14_longest_I0
  obtain ⟨h0, h1, h2, hr⟩ := hI
  have hok := Cf.ok_iff.1 hp0.ok
  simp only at hok
  refine ⟨fun h => ?_, fun h => ?_⟩
  · simp only [decide_eq_true_eq] at h
    have es : (i + 1).toNat = i.toNat + 1 := by omega
    have ei : ((i.toNat : Nat) : Int) = i := by omega
    have hst : lgF ⟨t, p, sh⟩ xs (i + 1).toNat = bif (aInfo ⟨t, p, sh⟩ xs i).k == 1 then max (lgF ⟨t, p, sh⟩ xs i.toNat) (aInfo ⟨t, p, sh⟩ xs i).l else lgF ⟨t, p, sh⟩ xs i.toNat := by rw [es, lgF, ei]
    rw [w64 (n := i + 1) (by omega)]
    refine ⟨hp0, fun _ => ⟨⟨h0, h⟩, fun _ => ⟨fun hc => ?_, fun hc => ?_⟩⟩⟩
    · have hc' : ((aInfo ⟨t, p, sh⟩ xs i).k == 1) = true := hc
      rw [hc', cond_true] at hst
      exact ⟨⟨by omega, by omega, by rw [hst, ← h2]; split <;> omega, hr⟩, lxo_⟩
    · have hc' : ((aInfo ⟨t, p, sh⟩ xs i).k == 1) = false := hc
      rw [hc', cond_false] at hst
      exact ⟨⟨by omega, by omega, by rw [hst, ← h2], hr⟩, lxo_⟩
  · simp only [decide_eq_false_iff_not] at h
    show m = r_
    rw [hr, h2, show i.toNat = p.toNat by omega]; rfl
theorem l14_longest_ok : EntryOk Dg Try.prog 9 e_l14_longest :=
  ent_wp Dg T_l14_live_ok (I := [1643000000007, 1643000000006, 1643000000005, 1643000000002]) Try.func9 mix (B := bodyOf Try.f9) (by kernel_rfl) rfl (by kernel_rfl) 400
    fun p0 t p sh xs hb hp => have hl0 : xs.length ≤ 9223372036854775807 := hb.2.1; have hp0 : AGood ⟨t, p, sh⟩ xs := hp _ (.head _); ⟨[⟨none, [0,1,0,1,1,1], [.blk 0, .code [1,1,1,1]], [7, 6, 5, 2], [.i .i64, .i .i64, .box 36 [.ic .i64 (t), .ic .i64 (p), .ic .i64 (sh), .roc [.ints .u32 (xs)]], .box 23 [.ic .i64 (t), .ic .i64 (p), .ic .i64 (sh)]]⟩], fun j => List.getD [appC (Hd.kd (⟨none, [0,1,0,1,1,1], [.blk 0, .code [1,1,1,1]], [7, 6, 5, 2], [.i .i64, .i .i64, .box 36 [.ic .i64 (t), .ic .i64 (p), .ic .i64 (sh), .roc [.ints .u32 (xs)]], .box 23 [.ic .i64 (t), .ic .i64 (p), .ic .i64 (sh)]]⟩ : Hd Sg)) (fun i' m' => l14_longest_I0 t p sh xs i' m' (l14_longest t p sh xs))] j (fun _ => False), fun j => List.getD [appC (Hd.kd (⟨none, [0,1,0,1,1,1], [.blk 0, .code [1,1,1,1]], [7, 6, 5, 2], [.i .i64, .i .i64, .box 36 [.ic .i64 (t), .ic .i64 (p), .ic .i64 (sh), .roc [.ints .u32 (xs)]], .box 23 [.ic .i64 (t), .ic .i64 (p), .ic .i64 (sh)]]⟩ : Hd Sg)) (fun i' m' => ((p - i').toNat, 0, 0))] j (fun _ => (0, 0, 0)), by kernel_rfl, ⟨l14_longest_w t p sh xs (fun i' m' => l14_longest_I0 t p sh xs i' m' (l14_longest t p sh xs)) (fun r__ => r__ = (l14_longest t p sh xs)), fun _ _ _ => by kernel_rfl, l14_longest_begin t p sh xs hp0 hl0 ⟩, ⟨fun i m hI => ⟨l14_longest_w0 t p sh xs i m (fun i' m' => l14_longest_I0 t p sh xs i' m' (l14_longest t p sh xs) ∧ lx ((p - i').toNat, 0, 0) ((p - i).toNat, 0, 0)) (fun r__ => r__ = (l14_longest t p sh xs)), fun _ _ _ => by kernel_rfl, l14_longest_step0 t p sh xs hp0 hl0 i m hI⟩, trivial⟩⟩
def T_l14_longest : List (Nat × Entry Sg) := (9, e_l14_longest) :: T_l14_live
theorem T_l14_longest_ok : TableOk Dg Try.prog T_l14_longest := TableOk.cons Dg l14_longest_ok T_l14_live_ok
def BinFits (t : Int) (p : Int) (sh : Int) (xs : List Int) (n : Int) : Bool := true
abbrev c_BinFits : Ct Sg := ⟨none, false, [.agg [.i .i64, .i .i64, .i .i64], .ro [some .u32], .i .i64], .b⟩
def e_BinFits : Entry Sg := entC c_BinFits BinFits (fun t p sh xs n => [bdAll xs])
def BinFits_w (t : Int) (p : Int) (sh : Int) (xs : List Int) (n : Int) (R_ : Bool → Prop) : Prop := (∀ r1 : Bool, r1 = (r12_Few t p sh) → (((!r1) = false → bdAll xs) ∧ (((!r1) = false → bdAll xs) → (((!r1 || !r12_Sound t p sh xs) = true → (∀ r4 : Bool, r4 = (l14_live) → (R_ (r4)))) ∧ ((!r1 || !r12_Sound t p sh xs) = false → (∀ r4 : VS, r4 = (VS.whole xs) → ((List.length xs ≤ (1000000 : Nat)) ∧ ((List.length xs ≤ (1000000 : Nat)) → ((∀ (v : Int), v ∈ xs → bd32 v) ∧ ((∀ (v : Int), v ∈ xs → bd32 v) → (∀ r8 : VS × Int × Bool, r8 = (bin_Find r4 t p sh n) → ((p ≤ (9223372036854775807 : Int)) ∧ ((p ≤ (9223372036854775807 : Int)) → ((decide (n ≥ (1 : Int)) = true → AGood { t := t, p := p, s := sh } xs) ∧ ((decide (n ≥ (1 : Int)) = true → AGood { t := t, p := p, s := sh } xs) → (((!Prod.snd (Prod.snd r8) == (decide (n ≥ (1 : Int)) && decide (n ≤ l14_longest t p sh xs))) = true → (R_ (false))) ∧ ((!Prod.snd (Prod.snd r8) == (decide (n ≥ (1 : Int)) && decide (n ≤ l14_longest t p sh xs))) = false → (∀ r12 : List Int × List Int, r12 = ((VS.wrote (Prod.fst r8), VS.puts (Prod.fst r8))) → ((((↑(List.length (Prod.fst r12)) : Int) != (0 : Int)) = true → (R_ (false))) ∧ (((↑(List.length (Prod.fst r12)) : Int) != (0 : Int)) = false → (((!Prod.snd (Prod.snd r8)) = true → (R_ (Prod.fst (Prod.snd r8) == (0 : Int) && l14_live))) ∧ ((!Prod.snd (Prod.snd r8)) = false → (((decide (Prod.fst (Prod.snd r8) < (0 : Int)) || decide (Prod.fst (Prod.snd r8) ≥ p)) = true → (R_ (false))) ∧ ((decide (Prod.fst (Prod.snd r8) < (0 : Int)) || decide (Prod.fst (Prod.snd r8) ≥ p)) = false → (∀ r18 : Int × Int × Int, r18 = (x_Info t p sh xs (Prod.fst (Prod.snd r8))) → ((AGood { t := t, p := p, s := sh } xs) ∧ ((AGood { t := t, p := p, s := sh } xs) → (((0 : Int) ≤ Prod.fst (Prod.snd r8) ∧ Prod.fst (Prod.snd r8) < p) ∧ (((0 : Int) ≤ Prod.fst (Prod.snd r8) ∧ Prod.fst (Prod.snd r8) < p) → (R_ (Prod.fst r18 == (1 : Int) && decide (Prod.fst (Prod.snd r18) ≥ n) && l14_live)))))))))))))))))))))))))))))))
theorem BinFits_begin (t : Int) (p : Int) (sh : Int) (xs : List Int) (n : Int) (hp0 : bdAll xs) (hl0 : xs.length ≤ 9223372036854775807) : BinFits_w t p sh xs n  (fun r__ => r__ = (BinFits t p sh xs n)) := by
  unfold BinFits_w
  rintro r1 rfl
  refine ⟨fun _ => hp0, fun _ => ⟨fun hc => (by rintro r rfl; rfl), fun hc => ?_⟩⟩
  have hfs : p ≤ 64 ∧ soundA ⟨t, p, sh⟩ xs = true := by
    simp only [r12_Few, r12_Sound, Bool.or_eq_false_iff, Bool.not_eq_false', decide_eq_true_eq] at hc
    exact hc
  have hs := hfs.2
  have hgood := sound_good hs hp0
  have hlen := (good_long hgood).2
  have hpb : p ≤ 9223372036854775807 := by omega
  obtain ⟨f1, f2, f3, f4⟩ := fits_law hp0 hs n
  have hl : l14_longest t p sh xs = lgF ⟨t, p, sh⟩ xs p.toNat := rfl
  rintro r4 rfl
  refine ⟨hlen, fun _ => ⟨hp0, fun _ => ?_⟩⟩
  rintro r8 hr8
  have e8 : r8 = (pFind ⟨t, p, sh⟩ n).run (VS.whole xs) := hr8
  clear hr8
  subst e8
  refine ⟨hpb, fun _ => ⟨fun _ => hgood, fun _ => ⟨fun hd => ?_, fun _ => ?_⟩⟩⟩
  · exfalso
    rw [f2, hl] at hd
    simp at hd
  · rintro r12 rfl
    refine ⟨fun hd => ?_, fun _ => ⟨fun hd => ?_, fun hd => ?_⟩⟩
    · exfalso
      simp [f1] at hd
    · show (((pFind ⟨t, p, sh⟩ n).run (VS.whole xs)).2.1 == 0 && l14_live) = true
      rw [f3 (by simpa using hd)]; rfl
    · obtain ⟨g1, g2, g3⟩ := f4 (by simpa using hd)
      have g1 : 0 ≤ ((pFind ⟨t, p, sh⟩ n).run (VS.whole xs)).2.1 ∧ ((pFind ⟨t, p, sh⟩ n).run (VS.whole xs)).2.1 < p := g1
      have hc2 : (decide (((pFind ⟨t, p, sh⟩ n).run (VS.whole xs)).2.1 < 0) || decide (((pFind ⟨t, p, sh⟩ n).run (VS.whole xs)).2.1 ≥ p)) = false := by
        simp only [Bool.or_eq_false_iff, decide_eq_false_iff_not]; omega
      rw [hc2]
      refine ⟨fun h => by (cases h), fun _ => ?_⟩
      rintro r18 rfl
      refine ⟨hgood, fun _ => ⟨g1, fun _ => ?_⟩⟩
      show ((aInfo ⟨t, p, sh⟩ xs ((pFind ⟨t, p, sh⟩ n).run (VS.whole xs)).2.1).k == 1 && decide ((aInfo ⟨t, p, sh⟩ xs ((pFind ⟨t, p, sh⟩ n).run (VS.whole xs)).2.1).l ≥ n) && l14_live) = true
      have : decide ((aInfo ⟨t, p, sh⟩ xs ((pFind ⟨t, p, sh⟩ n).run (VS.whole xs)).2.1).l ≥ n) = true := by simpa using g3
      rw [g2, this]; rfl
theorem BinFits_ok : EntryOk Dg Try.prog 3 e_BinFits :=
  ent_wp Dg T_l14_longest_ok (I := [2999998]) Try.func3 mix (B := bodyOf Try.f3) (by kernel_rfl) rfl (by kernel_rfl) 400
    fun p0 t p sh xs n hb hp => have hl0 : xs.length ≤ 9223372036854775807 := hb.2.1; have hp0 : bdAll xs := hp _ (.head _); ⟨[], fun j => List.getD [] j (fun _ => False), fun j => List.getD [] j (fun _ => (0, 0, 0)), by kernel_rfl, ⟨BinFits_w t p sh xs n  (fun r__ => r__ = (BinFits t p sh xs n)), fun _ _ _ => by kernel_rfl, BinFits_begin t p sh xs n hp0 hl0 ⟩, trivial⟩
def T_BinFits : List (Nat × Entry Sg) := (3, e_BinFits) :: T_l14_longest
theorem T_BinFits_ok : TableOk Dg Try.prog T_BinFits := TableOk.cons Dg BinFits_ok T_l14_longest_ok
theorem BinFits_plain (t : Int) (p : Int) (sh : Int) (xs : List Int) (n : Int) (a_0 : Option Addr) (c_0 : Nat) {E_ : World} {G_ : Hp} {w_ : World} (hr0 : RowAt G_ a_0 xs.length [.ints .u32 xs] ∧ xs.length ≤ c_0) (hp0 : bdAll xs) (hS : Sat E_ G_ w_ []) : Calls Try.prog 3 #[(.agg #[.int .i64 t, .int .i64 p, .int .i64 sh]), (.slice a_0 xs.length c_0), (.int .i64 n)] w_ (fun en w' => en = .returned (.bool (BinFits t p sh xs n)) ∧ Sat E_ G_ w' []) := by
  refine law_of Dg (c := c_BinFits) (F := BinFits) (pre := fun t p sh xs n => [bdAll xs]) BinFits_ok [((.agg #[.int .i64 t, .int .i64 p, .int .i64 sh]), (.none)), ((.slice a_0 xs.length c_0), (.row xs.length [.ints .u32 xs])), ((.int .i64 n), (.none))] [.i t, .i p, .i sh, .li xs, .i n] (by kernel_rfl) _ (by kernel_rfl) (by kernel_rfl) (by kernel_rfl) ?_ ?_ hS
  · intro p hp
    have hp : p ∈ [(bdAll xs : Prop)] := hp
    simp only [List.mem_cons, List.not_mem_nil, or_false] at hp
    rcases hp with rfl
    · exact hp0
  · intro x hx
    simp only [List.mem_cons, List.not_mem_nil, or_false] at hx
    rcases hx with rfl | rfl | rfl
    · first | (simp only [iOk, isOk, and_true, true_and]; done) | (simp only [iOk, isOk, and_true, true_and]; exact ⟨_, _, rfl, trivial⟩) | simp [iOk, isOk]
    · first | (simp only [iOk, isOk, and_true, true_and]; done) | (simp only [iOk, isOk, and_true, true_and]; exact ⟨_, _, rfl, hr0⟩) | simp [iOk, isOk]
    · first | (simp only [iOk, isOk, and_true, true_and]; done) | (simp only [iOk, isOk, and_true, true_and]; exact ⟨_, _, rfl, trivial⟩) | simp [iOk, isOk]
end Go.Proofs.Ytajcpopikdpcmaa
namespace Go.Sl
open Go.RowKit Go.ChangeShapes Go.WideShapes Go.ChangeAt
theorem Sat.start (W : World) : Sat W (fun b => W.heap[b]?) W [] :=
  ⟨⟨rfl, rfl, rfl, Nat.le_refl _⟩, fun _ _ h => h, fun _ => none, ⟨fun _ _ h => (by cases h), fun i A h => (by simp at h)⟩⟩
theorem Sat.below {W W' : World} {As : List Asn} (h : Sat W (fun b => W.heap[b]?) W' As) : Below W.heap.size W W' :=
  ⟨h.1.os, h.1.tape, h.1.output, h.1.size, fun k hk => by
    have h1 : (fun b => W.heap[b]?) k = some W.heap[k] := by simp [hk]
    rw [h.2.1 k _ h1]; simp [hk]⟩
section
variable {H : Type} {enc : TypeId × Value → H} {P : Program}
theorem trodAll_stays (hl : laidOutB P = true) {W W' : World} (hb : Below W.heap.size W W') {sp : Nat → Bool} : ∀ (ts : List TypeId) (vs : List Value) (ds : List (DataW H)) (ps : List MemPlace), (∀ t ∈ ts, P.readableRec t = true ∧ t < P.types.size) →
    DataW.TrodAll enc P W 0 (fun _ => true) true ts vs ds ps → (∀ x ∈ ps, x.block < W.heap.size) → (∀ x ∈ ps, sp x.block = true) → DataW.TrodAll enc P W' 0 sp true ts vs ds ps
  | [], vs, ds, ps, _, h, _, _ => by
    obtain ⟨rfl, rfl, rfl⟩ := trodAll_nil h
    exact trodAll_mk0
  | t :: ts, vs, ds, ps, hr, h, hlt, hsp => by
    obtain ⟨v, vs', d, ds', p, q, rfl, rfl, rfl, hd, hrest⟩ := trodAll_cons h
    obtain ⟨hr1, hr2⟩ := hr t (by simp)
    exact ⟨p, q, WideElems.Trod_stays hl hr1 hr2 hd (fun x hx => hb.same (hlt x (by simp [hx]))) (fun x hx => hsp x (by simp [hx])),
      trodAll_stays hl hb ts vs' ds' q (fun t ht => hr t (by simp [ht])) hrest (fun x hx => hlt x (by simp [hx])) (fun x hx => hsp x (by simp [hx])), rfl⟩
theorem law_post {f : Func} {s : ChangeSpec} {apart fresh handsOn : Bool} {W W' : World} {args : Array Value} {ds gs : List (DataW H)} {before : List MemPlace} (tb : TypeId) (hl : laidOutB P = true)
    (hW : DataW.Whole enc P f.params.toList s.vars apart W args.toList ds gs before) (hv : s.vars = []) (hres : f.resultTypes = #[tb]) (hb : P.underlying tb = some .bool)
    (hp : f.params.toList.all (fun t => P.readableRec t && Nat.blt t P.types.size) = true) (hfn : (s.fn H ds).results = [.lit (.bool true)] ∧ (s.fn H ds).args = ds ∧ (s.fn H ds).vars = [])
    (hbel : Below W.heap.size W W') : s.post enc P f apart fresh handsOn false W args (.bool true) W' := by
  have hW2 := hW
  have hlt : ∀ x ∈ before, x.block < W.heap.size := fun x hx => hW.lt x hx
  obtain ⟨p, q, hA, hV, hpq, _, _⟩ := hW
  rw [hv] at hV
  obtain ⟨hgs, hq⟩ := trodVars_none hV
  subst hgs; subst hq
  have hpp : before = p := by rw [hpq]; simp
  subst hpp
  have hr : ∀ t ∈ f.params.toList, P.readableRec t = true ∧ t < P.types.size := fun t ht => by
    rw [List.all_eq_true] at hp
    have := hp t ht
    simp only [Bool.and_eq_true] at this
    exact ⟨this.1, Nat.lt_of_lt_of_le (Nat.lt_succ_self t) (Nat.le_of_ble_eq_true this.2)⟩
  refine ⟨ds, [], before, [], before, [], by rw [hv] at hW2 ⊢; exact hW2, ?_, ?_, ?_, World.keptBut_mono (fun x hx => ⟨hx, .inr (.inl hx)⟩) (hbel.frame (· ∈ before)), fun h => by cases h⟩
  · rw [List.append_nil, hfn.1, hres]
    exact trodAll_mk1 (shut_bool hb true)
  · rw [List.append_nil, hfn.2.1]
    exact trodAll_stays hl hbel _ _ _ _ hr hA hlt (fun x hx => by simpa using hlt x hx)
  · rw [List.append_nil, hfn.2.2, hv]
    rfl
end
theorem bd_i64 {x : Int} (h : (Lit.int .i64 x).wf = true) : -9223372036854775808 ≤ x ∧ x < 9223372036854775808 := by
  simp [Lit.wf, IntKind.min, IntKind.max, IntKind.signed, IntKind.bits] at h; omega
theorem bd_u64 {x : Int} (h : (Lit.int .u64 x).wf = true) : 0 ≤ x ∧ x < 18446744073709551616 := by
  simp [Lit.wf, IntKind.min, IntKind.max, IntKind.signed, IntKind.bits] at h; omega
theorem bd_u32 {x : Int} (h : (Lit.int .u32 x).wf = true) : 0 ≤ x ∧ x < 4294967296 := by
  simp [Lit.wf, IntKind.min, IntKind.max, IntKind.signed, IntKind.bits] at h; omega
end Go.Sl
namespace Go.Sl
open Go.RowKit Go.ChangeShapes Go.WideShapes Go.ChangeAt
inductive Shp where
  | int (k : IntKind)
  | bool
def vIs : Shp → Value → Prop
  | .int k, v => ∃ x, v = .int k x ∧ (Lit.int k x).wf = true
  | .bool, v => ∃ b, v = .bool b
def cellsIs : List Shp → List Value → Prop
  | [], vs => vs = []
  | s :: r, vs => ∃ v vs', vs = v :: vs' ∧ vIs s v ∧ cellsIs r vs'
def colIs (n : Nat) : Shp → Col → Prop
  | .int k, c => ∃ xs, c = .ints k xs ∧ xs.length = n ∧ ∀ x ∈ xs, (Lit.int k x).wf = true
  | .bool, c => ∃ xs, c = .bools xs ∧ xs.length = n
def colsIs (n : Nat) : List Shp → List Col → Prop
  | [], cs => cs = []
  | s :: r, cs => ∃ c cs', cs = c :: cs' ∧ colIs n s c ∧ colsIs n r cs'
theorem cellsIs_len : ∀ {sh : List Shp} {vs : List Value}, cellsIs sh vs → vs.length = sh.length
  | [], _, h => by rw [h]; rfl
  | _ :: r, _, ⟨v, vs', e, _, h⟩ => by rw [e, List.length_cons, List.length_cons, cellsIs_len h]
theorem cellsIs_append : ∀ {a b : List Shp} {u v : List Value}, cellsIs a u → cellsIs b v → cellsIs (a ++ b) (u ++ v)
  | [], b, u, v, h, h' => by rw [h]; exact h'
  | s :: r, b, u, v, ⟨x, u', e, hx, h⟩, h' => ⟨x, u' ++ v, by rw [e]; rfl, hx, cellsIs_append h h'⟩
theorem cellsIs_get : ∀ {sh : List Shp} {vs : List Value}, cellsIs sh vs → ∀ (j : Nat) s, sh[j]? = some s → ∃ v, vs[j]? = some v ∧ vIs s v
  | [], _, _, j, s, hs => by simp at hs
  | s0 :: r, _, ⟨x, u', e, hx, h⟩, j, s, hs => by
    subst e
    cases j with
    | zero => simp at hs; subst hs; exact ⟨x, rfl, hx⟩
    | succ j => exact cellsIs_get h j s (by simpa using hs)
section
variable (P : Program)
def shpFs (f : TypeId → Option (List Shp)) : Nat → List Field → Option (List Shp)
  | _, [] => some []
  | o, fd :: fs => bif Nat.beq fd.offset o then match f fd.type, shpFs f (o + P.cellsOf fd.type) fs with
      | some a, some b => bif Nat.beq a.length (P.cellsOf fd.type) then some (a ++ b) else none
      | _, _ => none
    else none
def reps (s : List Shp) : Nat → List Shp
  | 0 => []
  | n + 1 => s ++ reps s n
def shpT : Nat → TypeId → Option (List Shp)
  | 0, _ => none
  | d + 1, t => match P.underlying t with
    | some (.int k) => some [.int k]
    | some .bool => some [.bool]
    | some (.struct fs) => match shpFs P (shpT d) 0 fs.toList with
      | some s => bif Nat.beq s.length (P.cellsOf t) then some s else none
      | none => none
    | some (.array n e) => match shpT d e with
      | some s => bif Nat.beq s.length (P.cellsOf e) && Nat.beq (n * P.cellsOf e) (P.cellsOf t) then some (reps s n) else none
      | none => none
    | _ => none
end
section
variable {H : Type} {enc : TypeId × Value → H} {P : Program} {w : World} {base : Nat} {sp : Nat → Bool} {held : Bool}
theorem shpFs_ok {f : TypeId → Option (List Shp)} {n : Nat} (hf : ∀ t sh cs x, f t = some sh → DataW.trod enc P w base sp held n t cs = some x → cellsIs sh cs) {cs : List Value} :
    ∀ (fs : List Field) (o : Nat) (s : List Shp), shpFs P f o fs = some s → (∀ fd ∈ fs, ∃ y, DataW.trod enc P w base sp held n fd.type ((cs.drop fd.offset).take (P.cellsOf fd.type)) = some y) → cellsIs s ((cs.drop o).take s.length)
  | [], o, s, h, _ => by simp only [shpFs, Option.some.injEq] at h; subst h; simp [cellsIs]
  | fd :: fs, o, s, h, hall => by
    simp only [shpFs] at h
    cases ho : Nat.beq fd.offset o with
    | false => rw [ho] at h; cases h
    | true =>
      rw [ho] at h
      have ho := Nat.eq_of_beq_eq_true ho
      simp only [cond_true] at h
      split at h
      · rename_i a b ha hb
        cases hl : Nat.beq a.length (P.cellsOf fd.type) with
        | false => rw [hl] at h; cases h
        | true =>
          rw [hl] at h
          have hl := Nat.eq_of_beq_eq_true hl
          simp only [cond_true, Option.some.injEq] at h
          subst h
          obtain ⟨y, hy⟩ := hall fd (by simp)
          have h1 := hf _ _ _ _ ha hy
          have h2 := shpFs_ok hf fs _ _ hb fun fd' hfd => hall fd' (by simp [hfd])
          have e : (cs.drop o).take (a ++ b).length = (cs.drop fd.offset).take (P.cellsOf fd.type) ++ (cs.drop (o + P.cellsOf fd.type)).take b.length := by
            rw [List.length_append, List.take_add, List.drop_drop, ho, hl]
          rw [e]
          exact cellsIs_append h1 h2
      · cases h
theorem shpT_ok : ∀ (d : Nat) (t : TypeId) (sh : List Shp) (n : Nat) (cs : List Value) (x : DataW H × List MemPlace), shpT P d t = some sh → DataW.trod enc P w base sp held n t cs = some x → cellsIs sh cs
  | 0, t, sh, n, cs, x, h, _ => by simp [shpT] at h
  | d + 1, t, sh, n, cs, x, h, hx => by
    simp only [shpT] at h
    split at h
    · rename_i k hk
      injection h with h; subst h
      obtain ⟨m, rfl, _, hw⟩ := DataW.trod_int hk hx
      exact ⟨_, _, rfl, ⟨m, rfl, hw⟩, rfl⟩
    · rename_i hk
      injection h with h; subst h
      obtain ⟨b, rfl, _⟩ := DataW.trod_bool hk hx
      exact ⟨_, _, rfl, ⟨b, rfl⟩, rfl⟩
    · rename_i fs hk
      split at h
      · rename_i s hs
        cases hl : Nat.beq s.length (P.cellsOf t) with
        | false => rw [hl] at h; cases h
        | true =>
          rw [hl] at h
          have hl := Nat.eq_of_beq_eq_true hl
          simp only [cond_true, Option.some.injEq] at h
          subst h
          obtain ⟨xs, m, _, _, hlen, hxl, hf⟩ := DataW.trod_struct hk hx
          have := shpFs_ok (n := m) (cs := cs) (fun t' sh' cs' x' h1 h2 => shpT_ok d t' sh' m cs' x' h1 h2) fs.toList 0 s hs fun fd hfd => by
            obtain ⟨i, hi⟩ := List.getElem?_of_mem hfd
            have hi' : fs[i]? = some fd := by simpa using hi
            have h1 := hf i fd hi'
            have hlt : i < xs.length := by
              rw [hxl]
              rcases Nat.lt_or_ge i fs.size with h' | h'
              · exact h'
              · rw [Array.getElem?_eq_none h'] at hi'; cases hi'
            rw [List.getElem?_eq_getElem hlt] at h1
            exact ⟨_, h1⟩
          rw [List.drop_zero, hl, ← hlen, List.take_length] at this
          exact this
      · cases h
    · rename_i m e hk
      split at h
      · rename_i s hs
        cases hl : (Nat.beq s.length (P.cellsOf e) && Nat.beq (m * P.cellsOf e) (P.cellsOf t)) with
        | false => rw [hl] at h; cases h
        | true =>
          rw [hl] at h
          simp only [Bool.and_eq_true] at hl
          have hl1 := Nat.eq_of_beq_eq_true hl.1
          have hl2 := Nat.eq_of_beq_eq_true hl.2
          simp only [cond_true, Option.some.injEq] at h
          subst h
          obtain ⟨xs, q, _, _, hlen, hxl, hf⟩ := DataW.trod_array hk hx
          have key : ∀ (j i : Nat), i + j = m → cellsIs (reps s j) ((cs.drop (i * P.cellsOf e)).take (j * P.cellsOf e)) := by
            intro j
            induction j with
            | zero => intro i _; simp [reps, cellsIs]
            | succ j ih =>
              intro i hij
              have h1 := hf i (by omega)
              rw [List.getElem?_eq_getElem (by omega)] at h1
              have h2 := shpT_ok d e s q _ _ hs h1
              have h3 := ih (i + 1) (by omega)
              have e1 : (cs.drop (i * P.cellsOf e)).take ((j + 1) * P.cellsOf e) = (cs.drop (i * P.cellsOf e)).take (P.cellsOf e) ++ (cs.drop ((i + 1) * P.cellsOf e)).take (j * P.cellsOf e) := by
                rw [show (j + 1) * P.cellsOf e = P.cellsOf e + j * P.cellsOf e by rw [Nat.succ_mul]; omega, List.take_add, List.drop_drop, show i * P.cellsOf e + P.cellsOf e = (i + 1) * P.cellsOf e by rw [Nat.succ_mul]]
              rw [e1]
              exact cellsIs_append h2 h3
          have := key m 0 (by omega)
          rw [Nat.zero_mul, List.drop_zero, hl2, ← hlen, List.take_length] at this
          exact this
      · cases h
    · cases h
theorem open_flat {r : Reach} {b0 : Nat} {t : TypeId} {v : Value} {dt : DataW H} {ps : List MemPlace} (d : Nat) (hs : (P.underlying t).any (fun | .struct _ => true | .array _ _ => true | _ => false) = true) {sh : List Shp} (hsh : shpT P d t = some sh)
    (hv : Value.okWide P w r b0 t v) (h : DataW.Trod enc P w base sp held t v dt ps) : ∃ vs : List Value, v = .agg vs.toArray ∧ cellsIs sh vs := by
  obtain ⟨fuel, hf⟩ := h
  have hc := shpT_ok d t sh fuel _ _ hsh hf
  unfold Value.okWide at hv
  cases hu : P.underlying t with
  | none => rw [hu] at hs; simp at hs
  | some ty =>
    rw [hu] at hs hv
    cases ty <;> simp at hs <;> (obtain ⟨cs, rfl, _, _⟩ := hv; exact ⟨cs.toList, by simp, hc⟩)
def colOf : Shp → (Nat → Value) → Nat → Col
  | .int k, V, n => .ints k ((List.range n).map fun i => match V i with | .int _ x => x | _ => 0)
  | .bool, V, n => .bools ((List.range n).map fun i => match V i with | .bool b => b | _ => false)
theorem colOf_ok {s : Shp} {V : Nat → Value} {n : Nat} (h : ∀ i, i < n → vIs s (V i)) : colIs n s (colOf s V n) ∧ (colOf s V n).len = n ∧ ∀ i, i < n → (colOf s V n).at i = V i := by
  cases s with
  | int k =>
    refine ⟨⟨_, rfl, by simp, fun x hx => ?_⟩, by simp [colOf, Col.len], fun i hi => ?_⟩
    · obtain ⟨i, hi, rfl⟩ := List.mem_map.1 hx
      obtain ⟨y, hy, hw⟩ := h i (List.mem_range.1 hi)
      rw [hy]; exact hw
    · obtain ⟨y, hy, hw⟩ := h i hi
      simp [colOf, Col.at, hi, hy]
  | bool =>
    refine ⟨⟨_, rfl, by simp⟩, by simp [colOf, Col.len], fun i hi => ?_⟩
    obtain ⟨y, hy⟩ := h i hi
    simp [colOf, Col.at, hi, hy]
def colsSh : List Shp → Nat → (Nat → List Value) → Nat → List Col
  | [], _, _, _ => []
  | s :: r, j, cs, n => colOf s (fun i => (cs i).getD j undef) n :: colsSh r (j + 1) cs n
theorem colsSh_len : ∀ (sh : List Shp) (j : Nat) (cs : Nat → List Value) (n : Nat), (colsSh sh j cs n).length = sh.length
  | [], _, _, _ => rfl
  | _ :: r, j, cs, n => by simp only [colsSh, List.length_cons, colsSh_len r]
theorem colsSh_ok {cs : Nat → List Value} {n : Nat} : ∀ (sh : List Shp) (j : Nat), (∀ i, i < n → ∀ (m : Nat) s, sh[m]? = some s → vIs s ((cs i).getD (j + m) undef)) →
    colsIs n sh (colsSh sh j cs n) ∧ ∀ (m : Nat) c, (colsSh sh j cs n)[m]? = some c → c.len = n ∧ ∀ i, i < n → c.at i = (cs i).getD (j + m) undef
  | [], j, _ => ⟨rfl, fun m c h => by simp [colsSh] at h⟩
  | s :: r, j, h => by
    have h0 := colOf_ok (s := s) (V := fun i => (cs i).getD j undef) (n := n) fun i hi => h i hi 0 s rfl
    obtain ⟨h1, h2⟩ := colsSh_ok (cs := cs) (n := n) r (j + 1) fun i hi m s' hm => by
      have := h i hi (m + 1) s' (by simpa using hm)
      rwa [show j + (m + 1) = j + 1 + m by omega] at this
    refine ⟨⟨_, _, rfl, h0.1, h1⟩, fun m c hm => ?_⟩
    cases m with
    | zero => simp only [colsSh, List.getElem?_cons_zero, Option.some.injEq] at hm; subst hm; exact ⟨h0.2.1, h0.2.2⟩
    | succ m =>
      have := h2 m c (by simpa [colsSh] using hm)
      rwa [show j + 1 + m = j + (m + 1) by omega] at this
theorem cellOf_world (W : World) (a : Addr) : cellOf (fun b => W.heap[b]?) a = W.cell? a := rfl
theorem open_rows {r : Reach} {b0 : Nat} {t e : TypeId} {v : Value} {dt : DataW H} {ps : List MemPlace} (d : Nat) (ht : P.underlying t = some (.slice e)) {sh : List Shp} (hsh : shpT P d e = some sh) (hce : P.cellsOf e = sh.length)
    (hv : Value.okWide P w r b0 t v) (h : DataW.Trod enc P w base sp held t v dt ps) :
    ∃ (a : Option Addr) (len cap : Nat) (cols : List Col), v = .slice a len cap ∧ colsIs len sh cols ∧ (RowAt (fun b => w.heap[b]?) a len cols ∧ len ≤ cap) := by
  obtain ⟨a0, len0, cap0, rfl⟩ := okWide_slice ht hv
  obtain ⟨fuel, hf⟩ := h
  rcases Go.Deep.open_slice ht hf with ⟨hcs, _⟩ | ⟨a, len, cap, m, n, Dt, Pl, hcs, hb, hl, hm, hmm, _, hx⟩
  · simp only [Value.cells, List.cons.injEq, and_true] at hcs
    injection hcs with e1 e2 e3
    subst e1; subst e2; subst e3
    obtain ⟨h1, h2⟩ := colsSh_ok (cs := fun _ => []) (n := 0) sh 0 fun i hi => absurd hi (Nat.not_lt_zero _)
    refine ⟨none, 0, 0, _, rfl, h1, ⟨fun c hc => ?_, fun i hi => absurd hi (Nat.not_lt_zero _), Nat.zero_le _⟩, Nat.le_refl _⟩
    obtain ⟨k, hk⟩ := List.getElem?_of_mem hc
    exact (h2 k c hk).1
  · simp only [Value.cells, List.cons.injEq, and_true] at hcs
    injection hcs with e1 e2 e3
    subst e1; subst e2; subst e3
    have hml : len0 ≤ m := by rw [hmm]; split <;> omega
    obtain ⟨cs, hcs⟩ := Go.Deep.choose_lt (α := List Value) (p := fun i cs' => w.cells? base (a.add (i * P.cellsOf e)) (P.cellsOf e) = some cs' ∧ DataW.trod enc P w base sp held n e cs' = some (Dt i, Pl i)) (n := len0) fun i hi => hx i (by omega)
    have hcells : ∀ i, i < len0 → cellsIs sh (cs i) := fun i hi => shpT_ok d e sh n _ _ hsh (hcs i hi).2
    obtain ⟨h1, h2⟩ := colsSh_ok (cs := cs) (n := len0) sh 0 fun i hi k s hk => by
      obtain ⟨x, hx1, hx2⟩ := cellsIs_get (hcells i hi) k s hk
      rw [Nat.zero_add, List.getD_eq_getElem?_getD, hx1]
      exact hx2
    refine ⟨some a, len0, cap0, _, rfl, h1, ⟨fun c hc => ?_, fun i hi => ⟨a, rfl, fun j c hj => ?_⟩, by omega⟩, by omega⟩
    · obtain ⟨k, hk⟩ := List.getElem?_of_mem hc
      exact (h2 k c hk).1
    · obtain ⟨_, hlen, hget⟩ := World.cells?_some (hcs i hi).1
      have hj' : j < sh.length := by
        have := lt_of_get hj
        rwa [colsSh_len] at this
      rw [cellOf_world, colsSh_len, ← hce, ← Go.Deep.add_add, hget j (by omega), (h2 j c hj).2 i hi, Nat.zero_add, List.getD_eq_getElem?_getD]
      rw [List.getElem?_eq_getElem (by omega)]
      rfl
end
end Go.Sl
namespace Go.Proofs.Ytajcpopikdpcmaa
open Go.ChangeShapes Go.WideShapes Go.ChangeAt Go.RowKit Go.Joins Go.Sl
theorem BinFits_own : ownKnob Try.prog.godebug = none := by kernel_rfl
theorem BinFits_laidOut : laidOutB Try.prog = true := by kernel_rfl
set_option maxRecDepth 100000 in
theorem BinFits_lifted (os : Os) (started : os.Started) (H : Type) (enc : TypeId × Value → H) :
    ReturnsInHanded {} Try.checked os 3 .any (Rows.binFitsSpec.pre6 enc Try.prog Try.f3 Rows.binFitsRow.domain false) (Rows.binFitsSpec.post enc Try.prog Try.f3 false true false false) := by
  refine returnsInHanded_of_change (C := Try.checked) BinFits_own started (by kernel_rfl) Try.func3
    (ChangeSpec.witness6 (enc := enc) (C := Try.checked) false ⟨#[], #[.agg #[.int .i64 0, .int .i64 0, .int .i64 0], .slice none 0 0, .int .i64 0], []⟩ 8 (by kernel_rfl) (by kernel_rfl) (by kernel_rfl) (by kernel_rfl)) ?_
  intro W base args ds gs before hval0 hW _ _
  have hval : ∀ (j : Nat) t v, Try.f3.params[j]? = some t → args[j]? = some v → Value.okWide Try.prog W .any base t v := hval0
  have hW' := hW
  obtain ⟨p, q, hA0, _, _, _, _⟩ := hW
  have hA : DataW.TrodAll enc Try.prog W 0 (fun _ => true) true Try.f3.params.toList args.toList ds p := hA0
  rw [Try.params3] at hA hval
  obtain ⟨v0, v1, v2, d0, d1, d2, p0, p1, p2, rfl, rfl, _, h0, h1, h2⟩ := trodAll_three hA
  obtain ⟨k0, rfl, hk0⟩ := open_flat 8 (by kernel_rfl) (sh := [.int .i64, .int .i64, .int .i64]) (by kernel_rfl) (hval 0 23 v0 rfl rfl) h0
  obtain ⟨_, r0_0, rfl, ⟨a0_0, rfl, wa0_0⟩, hk0⟩ := hk0
  have ba0_0 := bd_i64 wa0_0
  obtain ⟨_, r0_1, rfl, ⟨a0_1, rfl, wa0_1⟩, hk0⟩ := hk0
  have ba0_1 := bd_i64 wa0_1
  obtain ⟨_, r0_2, rfl, ⟨a0_2, rfl, wa0_2⟩, hk0⟩ := hk0
  have ba0_2 := bd_i64 wa0_2
  obtain rfl := hk0
  obtain ⟨s1, n1, c1, k1, rfl, hk1, hr1⟩ := open_rows 8 Try.underlying24 (sh := [.int .u32]) (by kernel_rfl) (by kernel_rfl) (hval 1 24 v1 rfl rfl) h1
  obtain ⟨_, r1_0, rfl, ⟨x1_0, rfl, hl1_0, hw1_0⟩, hk1⟩ := hk1
  obtain rfl := hk1
  subst hl1_0
  obtain ⟨a2, rfl, _, _, wa2⟩ := open_int Try.underlying3 (hval 2 3 v2 rfl rfl) h2
  have ba2 := bd_i64 wa2
  clear hA0 hval0
  refine (BinFits_plain a0_0 a0_1 a0_2 x1_0 a2 s1 c1 hr1 (fun v hv => bd_u32 (hw1_0 v hv)) (Sat.start W)).mono fun e W' ⟨he, hS⟩ => ?_
  rw [show BinFits a0_0 a0_1 a0_2 x1_0 a2 = true from rfl] at he
  subst he
  exact ⟨_, rfl, law_post 4 BinFits_laidOut hW' rfl rfl Try.underlying4 (by kernel_rfl) ⟨rfl, rfl, rfl⟩ hS.below⟩
theorem BinFits_holds : Rows.BinFitsSaid :=
  OpenClaim.holds_of_wide 3 Try.f3 rfl rfl rfl rfl rfl rfl rfl ⟨rfl, rfl, rfl, rfl, rfl⟩ rfl rfl rfl rfl rfl (by kernel_rfl) Try.func3 (by kernel_rfl)
    (of_decide_eq_true (by kernel_rfl)) (by unfold Func.isWrapper; rw [if_neg (of_decide_eq_false (by kernel_rfl))]; exact ⟨rfl, rfl⟩)
    (fun os started H enc _ => BinFits_lifted os started H enc)
#print axioms BinFits_holds
end Go.Proofs.Ytajcpopikdpcmaa
