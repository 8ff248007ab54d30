/-
  Of every heap, a slot that is given back is not taken any more; nothing else that the heap holds changes; a slab of which no slot is taken is no slab: the law's function answers true for every configuration, values and numbers. Conditions: none.
-/
import Derived.Test.YtcbeifgnccbfbaaGreatJSlabBack5
import Derived.ProofKit
import Derived.Lib.SmallJoins
import Derived.Deep.Slices
import Derived.OpenShut
import Derived.Test.YtcbeifgnccbfbaaGreatRows
set_option linter.unusedSimpArgs false
set_option linter.unusedVariables false
namespace Go.Proofs.YtcbeifgnccbfbaaGreat
open Go.Sl
section
variable {c : Cf} {m m' : Mm} {s : VS} {L L' : List Sp} {a k b want : Int} {xs : List Int}
theorem give_at (h : At c s m) (S : SndM c m L) (ha : 0 ≤ a ∧ a < c.p) (h3 : (ifM m a).k = 3) (hb : 0 ≤ b ∧ b < 32) (hT : bitAt (m.taken a) b = true) (hS : bitAt (m.slots a) b = false) :
    ∃ m' L' d, At c ((pGive c a b).run s).1 m' ∧ SndM c m' L' ∧ fS L' = fS L + d ∧ Slc c m m' a d ∧ m'.taken = fset m.taken a (clrB (m.taken a) b) ∧ ((clrB (m.taken a) b = 0 ∧ d = 1 ∧ uM m' a = ⟨0, 0, 0⟩) ∨ (clrB (m.taken a) b ≠ 0 ∧ d = 0 ∧ uM m' a = uM m a)) := by
  obtain ⟨S1, S2⟩ := snd_iff.1 S
  obtain ⟨c0, c1, hl⟩ := iGet_three h3
  have hk : (Hq.rack (ifM m a).c).ok := ⟨c0, by show (iGet (m.info a)).c < 9; omega⟩
  have ht := tkn_bd h ha
  have hsl := slt_bd h ha
  have hc : (decide (b < 0) || decide (32 ≤ b)) = false := by
    simp only [Bool.or_eq_false_iff, decide_eq_false_iff_not]; omega
  have hfr : nv (m.fr + 0) = m.fr := by
    rw [Int.add_zero, ← h.get_fr]; exact nv_id (VS.get_bd _ _)
  have hu3 : uM m a = ifM m a := by unfold uM uI; rw [h3]; rfl
  unfold pGive
  rw [hc, cond_false, Pg.run_bind]
  simp only [pInfo, Pg.run_get, Pg.run_ret]
  rw [h.get_info ha, (h.read (c.info a)).get_taken ha]
  have h1 : At c ((s.read (c.info a)).read (c.taken a)) m := (h.read _).read _
  generalize (s.read (c.info a)).read (c.taken a) = u at h1 ⊢
  have hcc : (iGet (m.info a)).c = (ifM m a).c := rfl
  rw [hcc]
  have hnb : full (m.taken a) (ifM m a).c = false → At c ((pPull c (cRack (ifM m a).c) a).run u).1 (mPull m (.rack (ifM m a).c) a) := fun hf => by
    have hg : gM m (.rack (ifM m a).c) a = true := rackM_iff.2 ⟨h3, rfl, hf⟩
    obtain ⟨n1, n2⟩ := S2.nb_ok (h := .rack (ifM m a).c) hk ha hg
    exact pull_at h1 (q := .rack (ifM m a).c) hk ha n1 n2
  cases hz : clrB (m.taken a) b == 0 with
  | true =>
    have hz0 : clrB (m.taken a) b = 0 := by simpa using hz
    obtain ⟨L1, x, L2, e, hxk, hxl, hs0, H⟩ := give_all S ha h3 ht hsl hb hS hz0
    rw [cond_true, Pg.run_bind, Pg.run_put]
    have z0 : bd32 0 := by unfold bd32; decide
    have key : ∀ (u1 : VS) (m0 : Mm), At c u1 m0 → m0.info = m.info → m0.slots = m.slots → m0.taken = m.taken → m0.root = m.root → m0.dn = m.dn → m0.lv = m.lv → m0.fr = m.fr → Hol c (mTak m0 a 0) L1 a 1 L2 →
        ∃ m' L' d, At c ((qRelease c a 1).run (u1.set (c.taken a) 0)).1 m' ∧ SndM c m' L' ∧ fS L' = fS L + d ∧ Slc c m m' a d ∧ m'.taken = fset m.taken a (clrB (m.taken a) b) ∧ ((clrB (m.taken a) b = 0 ∧ d = 1 ∧ uM m' a = ⟨0, 0, 0⟩) ∨ (clrB (m.taken a) b ≠ 0 ∧ d = 0 ∧ uM m' a = uM m a)) := fun u1 m0 h0 e1 e2 e3 e4 e5 e6 e7 H => by
      obtain ⟨m', L', r1, r2, C, r4, _⟩ := rel_at (tak_at h0 ha z0) H
      have ua : uM m' a = ⟨0, 0, 0⟩ := by rw [C.u a ha.1 ha.2, if_pos rfl]
      have tk : m'.taken = fset m.taken a 0 := by rw [C.taken]; show fset m0.taken a 0 = _; rw [e3]
      refine ⟨m', L', 1, r1, r2, ?_, ⟨fun q g0 g1 hq => ?_, .inr ⟨hs0, by rw [ua]; decide, by rw [hu3, h3]; decide⟩, C.slots.trans e2, fun q hq => by rw [tk, fset_ne hq], C.root.trans e4, C.dn.trans e5, C.lv.trans e6, ?_⟩, by rw [tk, hz0], .inl ⟨hz0, rfl, ua⟩⟩
      · rw [r4, e, fS_app, fS, hxk]
        have : (bif (3 : Int) == 1 then x.l else 0) = 0 := rfl
        rw [this]; omega
      · rw [C.u q g0 g1, if_neg hq]; exact uM_eq (by show m0.info q = _; rw [e1])
      · rw [C.fr]; show nv (m0.fr + 1) = _; rw [e7]
    cases hf : full (m.taken a) (ifM m a).c with
    | true =>
      rw [hf, cond_true] at H
      exact key u m h1 rfl rfl rfl rfl rfl rfl rfl H
    | false =>
      rw [hf, cond_false] at H
      obtain ⟨p1, _, p3, p4, p5, p6, p7, p8⟩ := pull_same (m := m) (a := a) (.rack (ifM m a).c)
      exact key _ _ (hnb hf) p1 p3 p4 p5 p8 p7 p6 H
  | false =>
    have hz0 : clrB (m.taken a) b ≠ 0 := by simpa using hz
    have hG := give_some S ha h3 ht hb hT hS hz0
    have hb2 := (bitAt_clrB ht hb).1
    have h2 := tak_at h1 ha hb2
    rw [cond_false, Pg.run_put]
    have fin : ∀ (v : VS) (m' : Mm), At c v m' → SndM c m' L → m'.info = m.info → m'.slots = m.slots → m'.taken = fset m.taken a (clrB (m.taken a) b) → m'.root = m.root → m'.dn = m.dn → m'.lv = m.lv → m'.fr = m.fr →
        ∃ m' L' d, At c v m' ∧ SndM c m' L' ∧ fS L' = fS L + d ∧ Slc c m m' a d ∧ m'.taken = fset m.taken a (clrB (m.taken a) b) ∧ ((clrB (m.taken a) b = 0 ∧ d = 1 ∧ uM m' a = ⟨0, 0, 0⟩) ∨ (clrB (m.taken a) b ≠ 0 ∧ d = 0 ∧ uM m' a = uM m a)) := fun v m' r1 r2 e1 e2 e3 e4 e5 e6 e7 =>
      ⟨m', L, 0, r1, r2, by omega, ⟨fun q _ _ _ => uM_eq (by rw [e1]), .inl (uM_eq (by rw [e1])), e2, fun q hq => by rw [e3, fset_ne hq], e4, e5, e6, by rw [e7, hfr]⟩, e3, .inr ⟨hz0, rfl, uM_eq (by rw [e1])⟩⟩
    cases hf : full (m.taken a) (ifM m a).c with
    | false =>
      rw [hf, cond_false] at hG
      exact fin _ _ h2 hG rfl rfl rfl rfl rfl rfl rfl
    | true =>
      rw [hf, cond_true] at hG
      have hls : ListsM c (mTak m a (clrB (m.taken a) b)) (gM m) := S2.of_eq (fun h => by cases h <;> rfl) rfl rfl fun _ _ _ _ _ => rfl
      have h4 := push_at h2 (q := .rack (ifM m a).c) hk ha (hls.hd_ok hk)
      obtain ⟨p1, _, p3, p4, p5, p6, p7, p8⟩ := push_same (m := mTak m a (clrB (m.taken a) b)) (a := a) (.rack (ifM m a).c)
      exact fin _ _ h4 hG p1 p3 p4 p5 p8 p7 p6
def idleA (c : Cf) (xs : List Int) (g b : Int) : Bool := (c.page g && (decide (0 ≤ b) && decide (b < 32))) && ((aInfo c xs g).k == 3 && bitAt (cel xs (c.taken g)) b && !bitAt (cel xs (c.slots g)) b)
def cntA (c : Cf) (xs : List Int) : Int := ((partsL c xs).filter fun x => x.k == 4).length
theorem cnt_slab (g k : Int) : ∀ n : Nat, (((slabF c xs g k n).filter fun x => x.k == 4).length : Int) = idN (cel xs (c.taken g)) (cel xs (c.slots g)) n
  | 0 => rfl
  | n + 1 => by
    rw [slabF, List.filter_append, List.length_append, idN, ← cnt_slab g k n]
    have e : ((slabPt c xs g k n).k == 4) = (bitAt (cel xs (c.taken g)) n && !bitAt (cel xs (c.slots g)) n) := by
      show (slabKind c xs g n == 4) = _
      unfold slabKind
      cases bitAt (cel xs (c.slots g)) n <;> cases bitAt (cel xs (c.taken g)) n <;> rfl
    rw [List.filter_cons, e]
    cases (bitAt (cel xs (c.taken g)) n && !bitAt (cel xs (c.slots g)) n) <;> simp
theorem cnt_page (g : Int) : (((partsOf c xs g).filter fun x => x.k == 4).length : Int) = cntP (Mm.of c xs) g := by
  unfold partsOf cntP
  have e : ifM (Mm.of c xs) g = aInfo c xs g := rfl
  rw [e]
  simp only
  cases h1 : (aInfo c xs g).k == 1 with
  | true =>
    have h : (aInfo c xs g).k = 1 := by simpa using h1
    rw [h]; rfl
  | false =>
    cases h2 : (aInfo c xs g).k == 2 with
    | true =>
      have h : (aInfo c xs g).k = 2 := by simpa using h2
      rw [h]; rfl
    | false =>
      cases h3 : (aInfo c xs g).k == 3 with
      | false => rfl
      | true =>
        simp only [Bool.or_self, cond_false, cond_true]
        have : _ = idN ((Mm.of c xs).taken g) ((Mm.of c xs).slots g) _ := cnt_slab (c := c) (xs := xs) g (aInfo c xs g).c (kSlots (aInfo c xs g).c).toNat
        unfold slabL
        cases decide (0 < slabRest c (aInfo c xs g).c) with
        | false => exact this
        | true =>
          rw [cond_true, List.filter_append, List.length_append]
          simpa using this
theorem cnt_parts : ∀ n : Nat, (((partsF c xs n).filter fun x => x.k == 4).length : Int) = smF (cntP (Mm.of c xs)) n
  | 0 => rfl
  | n + 1 => by
    rw [partsF, List.filter_append, List.length_append, smF, ← cnt_parts n, ← cnt_page]; push_cast; rfl
theorem cntA_eq : cntA c xs = cntM c (Mm.of c xs) := cnt_parts _
theorem cntA_vals (h : At c s m) (ha : s.all = true) : cntA c s.vals = cntM c m := by
  rw [cntA_eq]
  have e := meq_vals h ha
  refine smF_congr fun q h0 h1 => ?_
  unfold cntP
  rw [ifM_eq (e.info q h0 (by omega)), e.taken q h0 (by omega), e.slots q h0 (by omega)]
theorem idle_vals (h : At c s m) (hall : s.all = true) (ha : 0 ≤ a ∧ a < c.p) (hb : 0 ≤ b ∧ b < 32) : idleA c s.vals a b = ((ifM m a).k == 3 && bitAt (m.taken a) b && !bitAt (m.slots a) b) := by
  have e := meq_vals h hall
  have e1 : ifM (Mm.of c s.vals) a = ifM m a := ifM_eq (e.info a ha.1 ha.2)
  unfold idleA
  have e2 : (c.page a && (decide (0 ≤ b) && decide (b < 32))) = true := by
    unfold Cf.page
    simp only [Bool.and_eq_true, decide_eq_true_eq]; omega
  rw [e2, Bool.true_and]
  have e3 : aInfo c s.vals a = ifM m a := e1
  have e4 : cel s.vals (c.taken a) = m.taken a := e.taken a ha.1 ha.2
  have e5 : cel s.vals (c.slots a) = m.slots a := e.slots a ha.1 ha.2
  rw [e3, e4, e5]
theorem onesF_id (t : Int) : ∀ n : Nat, idN t 0 n = onesF t n
  | 0 => rfl
  | n + 1 => by rw [idN, onesF, onesF_id t n, bitAt_zero]; simp
theorem onesF_pos (t : Int) : ∀ n : Nat, 0 ≤ onesF t n ∧ (onesF t n = 0 → ∀ x : Int, 0 ≤ x → x < n → bitAt t x = false)
  | 0 => ⟨Int.le_refl _, fun _ x h0 h1 => by omega⟩
  | n + 1 => by
    obtain ⟨h1, h2⟩ := onesF_pos t n
    rw [onesF]
    cases hb : bitAt t (n : Int) with
    | true => simp only [cond_true]; exact ⟨by omega, fun h => by omega⟩
    | false =>
      simp only [cond_false]
      refine ⟨by omega, fun h x x0 x1 => ?_⟩
      by_cases e : x = n
      · rw [e]; exact hb
      · exact h2 (by omega) x x0 (by omega)
theorem clr_ones {t : Int} (ht : bd32 t) (hb : 0 ≤ b ∧ b < 32) (hT : bitAt t b = true) : ones t = ones (clrB t b) + 1 ∧ (ones t = 1 ↔ clrB t b = 0) := by
  obtain ⟨g1, g2⟩ := bitAt_clrB ht hb
  have e := idN_sub (n := 32) g2 hT (bitAt_zero b) hb.1 (by omega)
  rw [onesF_id, onesF_id] at e
  have e1 : ones t = ones (clrB t b) + 1 := e
  refine ⟨e1, fun h => ?_, fun h => ?_⟩
  · refine bits_ext g1 (by unfold bd32; decide) fun x => ?_
    rw [bitAt_zero]
    by_cases hx : 0 ≤ x ∧ x < 32
    · exact (onesF_pos (clrB t b) 32).2 (by show ones (clrB t b) = 0; omega) x hx.1 (by omega)
    · exact bitAt_out hx
  · rw [e1, h]; rfl
theorem give_law (hb : bdAll xs) (hs : soundA c xs = true) {g b : Int} (hi : idleA c xs g b = true) :
    (0 ≤ g ∧ g < c.p) ∧ soundA c ((pGive c g b).run (VS.whole xs)).1.vals = true ∧ stateA c ((pGive c g b).run (VS.whole xs)).1.vals = stateA c xs ∧ cntA c ((pGive c g b).run (VS.whole xs)).1.vals = cntA c xs - 1 ∧ idleA c ((pGive c g b).run (VS.whole xs)).1.vals g b = false ∧
    (ones (cel xs (c.taken g)) = 1 → (aInfo c ((pGive c g b).run (VS.whole xs)).1.vals g).k ≠ 3 ∧ cel ((pGive c g b).run (VS.whole xs)).1.vals 0 = nv (cel xs 0 + 1)) ∧
    (ones (cel xs (c.taken g)) ≠ 1 → (aInfo c ((pGive c g b).run (VS.whole xs)).1.vals g).k = 3 ∧ cel ((pGive c g b).run (VS.whole xs)).1.vals 0 = cel xs 0) := by
  have hi0 := hi
  unfold idleA Cf.page at hi
  simp only [Bool.and_eq_true, decide_eq_true_eq, beq_iff_eq, Bool.not_eq_true'] at hi
  obtain ⟨⟨hg, hbb⟩, ⟨h3, hT⟩, hS⟩ := hi
  obtain ⟨L, S⟩ := sound_xs hs hb
  have hx := ((sound_iff hb).1 hs).1
  have h := at_whole hx
  obtain ⟨m', L', d, r1, r2, r3, C, r5, r6⟩ := give_at h S.snd hg h3 hbb hT hS
  have hall : ((pGive c g b).run (VS.whole xs)).1.all = true := by rw [run_all]; rfl
  have hSd := C.sound S r2 r3
  have ht := tkn_bd h hg
  obtain ⟨o1, o2⟩ := clr_ones ht hbb hT
  have hbt := (bitAt_clrB ht hbb).2
  have hta : m'.taken g = clrB ((Mm.of c xs).taken g) b := by rw [r5, fset_same]
  have hai : aInfo c ((pGive c g b).run (VS.whole xs)).1.vals g = ifM m' g := ifM_eq ((meq_vals r1 hall).info g hg.1 hg.2)
  have hfr : cel ((pGive c g b).run (VS.whole xs)).1.vals 0 = m'.fr := fr_vals r1 hall
  have hfr0 : (Mm.of c xs).fr = cel xs 0 := rfl
  have hbd0 : bd32 (cel xs 0) := rootA_eq xs 0 hb
  have h3' : (ifM (Mm.of c xs) g).k = 3 := h3
  have hu3 : uM (Mm.of c xs) g = ifM (Mm.of c xs) g := by unfold uM uI; rw [h3']; rfl
  have hslot := bad_slot (S.snd.bits g hg.1 hg.2 b hbb.1 hbb.2) hT
  have hsub := idN_sub (s := (Mm.of c xs).slots g) (n := (kSlots (ifM (Mm.of c xs) g).c).toNat) hbt hT hS hbb.1 (by omega)
  refine ⟨hg, sound_of r1 hall hSd, by rw [state_of r1 hall hSd, stM_eq C.blk C.root, state_xs hs], ?_, ?_, fun ho => ?_, fun ho => ?_⟩
  · rw [cntA_vals r1 hall, cntA_eq, C.cnt hg, cntP_u, cntP_u, hta, C.slots, hu3, h3']
    have e3 : ((3 : Int) == 3) = true := rfl
    rw [e3, cond_true]
    rcases r6 with ⟨z, _, u0⟩ | ⟨_, _, u0⟩
    · rw [u0, z]
      rw [z, idN_zero] at hsub
      rw [hsub]; show _ + ((0 : Int) - (0 + 1)) = _; omega
    · rw [u0, hu3, h3', e3, cond_true, hsub]; omega
  · rw [idle_vals r1 hall hg hbb, hta, hbt]; simp
  · rcases r6 with ⟨z, d1, u0⟩ | ⟨z, _, _⟩
    · exact ⟨by rw [hai]; exact (uM_kind u0).2, by rw [hfr, C.fr, d1, hfr0]⟩
    · exact absurd (o2.1 ho) z
  · rcases r6 with ⟨z, _, _⟩ | ⟨_, d0, u0⟩
    · exact absurd (o2.2 z) ho
    · refine ⟨?_, by rw [hfr, C.fr, d0, hfr0, Int.add_zero]; exact nv_id hbd0⟩
      rw [hai]
      rw [hu3] at u0
      unfold uM uI at u0
      cases e : ((ifM m' g).k == 2 || (ifM m' g).k == 3) with
      | true => rw [e, cond_true] at u0; rw [u0]; exact h3'
      | false => rw [e, cond_false] at u0; rw [← u0] at h3'; cases h3'
end
end Go.Proofs.YtcbeifgnccbfbaaGreat
namespace Go.Proofs.YtcbeifgnccbfbaaGreat
open Go.Sl
theorem vals_bd (s : VS) : bdAll s.vals := by
  intro v hv
  unfold VS.vals at hv
  cases ha : s.all with
  | false => rw [ha] at hv; cases hv
  | true =>
    rw [ha, cond_true, List.mem_map] at hv
    obtain ⟨i, _, rfl⟩ := hv
    unfold VS.cur
    split
    · exact nv_bd _
    · split
      · exact nv_bd _
      · exact ⟨by decide, by decide⟩
theorem st_len (c : Cf) (xs : List Int) : (stateA c xs).1.length = (stateA c xs).2.1.length := by
  unfold stateA
  cases soundA c xs <;> simp
theorem same_self (xa xz : List Int) (u0 u1 u2 u3 u4 u5 u6 u7 : Int) : r12_Same xa xz u0 u1 u2 u3 u4 u5 u6 u7 xa xz u0 u1 u2 u3 u4 u5 u6 u7 = true := by simp [r12_Same]
theorem state_ok {c : Cf} {xs : List Int} (h : soundA c xs = true) : (stateA c xs).2.2.2.2.2.2.2.2.2.2 = true := by unfold stateA; rw [h]; rfl
theorem st_eta {x : StT} (h : x.2.2.2.2.2.2.2.2.2.2 = true) : (x.1, x.2.1, x.2.2.1, x.2.2.2.1, x.2.2.2.2.1, x.2.2.2.2.2.1, x.2.2.2.2.2.2.1, x.2.2.2.2.2.2.2.1, x.2.2.2.2.2.2.2.2.1, x.2.2.2.2.2.2.2.2.2.1, true) = x := by rw [← h]
theorem vals_long {c : Cf} {s : VS} (h : soundA c s.vals = true) : 30 ≤ (s.vals.length : Int) := (good_long (sound_good h (vals_bd s))).1
theorem cnt_take (ks : List Int) (i : Nat) (h : i < ks.length) : ((ks.take (i + 1)).filter (· == 4)).length = ((ks.take i).filter (· == 4)).length + (bif ks.getD i 0 == 4 then 1 else 0) := by
  have e : ks.take (i + 1) = ks.take i ++ [ks.getD i 0] := by
    rw [List.take_add_one]
    congr 1
    rw [List.getD_eq_getElem?_getD, List.getElem?_eq_getElem h]; rfl
  rw [e, List.filter_append, List.length_append, List.filter_cons]
  cases ks.getD i 0 == 4 <;> rfl
def r12_Parts (t : Int) (p : Int) (sh : Int) (xs : List Int) : List Int × List Int × List Int := bif soundA ⟨t, p, sh⟩ xs then ((partsL ⟨t, p, sh⟩ xs).map (·.k), (partsL ⟨t, p, sh⟩ xs).map (·.a), (partsL ⟨t, p, sh⟩ xs).map (·.s)) else ([], [], [])
abbrev c_r12_Parts : Ct Sg := ⟨none, false, [.agg [.i .i64, .i .i64, .i .i64], .ro [some .u32]], .new 105 [some .i64, some .i64, some .i64]⟩
def e_r12_Parts : Entry Sg := entC c_r12_Parts r12_Parts (fun t p sh xs => [bdAll xs])
def r12_Parts_w (t : Int) (p : Int) (sh : Int) (xs : List Int) (R_ : List Int × List Int × List Int → Prop) : Prop := (∀ r1 : Bool, r1 = (r12_Sound t p sh xs) → (aw_ (bdAll xs) (bw_ (!r1) (R_ (([], [], []))) (∀ r5 : List Int × List Int × List Int, r5 = (x_parts t p sh xs) → (aw_ (AGood { t := t, p := p, s := sh } xs) (R_ ((r5.1, r5.2.1, r5.2.2))))))))
theorem r12_Parts_begin (t : Int) (p : Int) (sh : Int) (xs : List Int) (hp0 : bdAll xs) (hl0 : xs.length ≤ 9223372036854775807) : r12_Parts_w t p sh xs  (fun r__ => r__ = (r12_Parts t p sh xs)) := by
  unfold r12_Parts_w
  have hS : soundA ⟨t, p, sh⟩ xs = r12_Sound t p sh xs := rfl
  rintro r rfl
  refine ⟨hp0, fun _ => ⟨fun h => ?_, fun h => ?_⟩⟩
  · show _ = r12_Parts t p sh xs
    rw [← hS] at h
    rw [r12_Parts, (Bool.not_eq_true' _).mp h]; rfl
  · rintro r rfl
    rw [← hS] at h
    have hs := (Bool.not_eq_false' _).mp h
    refine ⟨sound_good hs hp0, fun _ => ?_⟩
    show _ = r12_Parts t p sh xs
    rw [r12_Parts, hs]; rfl
theorem r12_Parts_ok : EOk 53 e_r12_Parts :=
  ent_w0 Dg T_slab_Give_ok (I := [2999998]) Tryz.func53 mix (B := bodyOf Tryz.f53) (by kernel_rfl) rfl (by kernel_rfl) 400
    fun _ t p sh xs hb hp => ⟨r12_Parts_w t p sh xs (fun r__ => r__ = (r12_Parts t p sh xs)), fun _ _ _ => by kernel_rfl, r12_Parts_begin t p sh xs (hp _ (.head _)) (hb.2.1)⟩
def T_r12_Parts : Tb := (53, e_r12_Parts) :: T_slab_Give
theorem T_r12_Parts_ok : TOk T_r12_Parts := tc_ r12_Parts_ok T_slab_Give_ok
def l16_live : Bool := true
abbrev c_l16_live : Ct Sg := ⟨none, false, [], .b⟩
def e_l16_live : Entry Sg := entC c_l16_live l16_live ([])
def l16_live_w (R_ : Bool → Prop) : Prop := (∀ r0 : Int × Int × Int × List Int, r0 = (l14_Eight) → (∀ r3 : VS, r3 = (VS.whole r0.2.2.2) → (aw_ (List.length r0.2.2.2 ≤ 1000000) (aw_ (bdL r0.2.2.2) (∀ r7 : VS × Int × List Int × Bool, r7 = (slab_Pick r3 r0.1 r0.2.1 r0.2.2.1 8 4) → (aw_ (r0.2.1 ≤ 1024) (bw_ (r7.2.2.2 && r7.2.1 == 0) (bw_ (eqInts r7.2.2.1 [0, 1]) (∀ r13 : VS × Int, r13 = ((VS.read r7.1 21, VS.get r7.1 21)) → (bw_ (r13.2 == 0) (∀ r15 : VS × Int, r15 = ((VS.read r13.1 0, VS.get r13.1 0)) → (R_ (r15.2 == 7))) (R_ (false)))) (R_ (false))) (R_ (false)))))))))
theorem l16_live_begin : l16_live_w   (fun r__ => r__ = l16_live) := by
  unfold l16_live_w
  have h1 : l14_Eight.2.2.2.length ≤ 1000000 := by decide +kernel
  have h2 : ∀ v ∈ l14_Eight.2.2.2, bd32 v := by unfold bd32; decide +kernel
  have h3 : l14_Eight.2.1 ≤ 1024 := by decide +kernel
  rintro r0 rfl
  repeat' first
    | (refine fun r hr => ?_; subst hr)
    | refine ⟨h1, fun _ => ?_⟩
    | refine ⟨h2, fun _ => ?_⟩
    | refine ⟨h3, fun _ => ?_⟩
    | refine ⟨fun hd => ?_, fun hd => ?_⟩
    | fail
  all_goals first
    | (dsimp only; unfold l16_live; decide +kernel)
    | (exfalso; revert hd; decide +kernel)
    | (trace_state; fail)
theorem l16_live_ok : EOk 9 e_l16_live :=
  ent_w0 Dg T_r12_Parts_ok (I := [2999998]) Tryz.func9 mix (B := bodyOf Tryz.f9) (by kernel_rfl) rfl (by kernel_rfl) 400
    fun _  hb hp => ⟨l16_live_w  (fun r__ => r__ = l16_live), fun _ _ _ => by kernel_rfl, l16_live_begin  ⟩
def T_l16_live : Tb := (9, e_l16_live) :: T_r12_Parts
theorem T_l16_live_ok : TOk T_l16_live := tc_ l16_live_ok T_r12_Parts_ok
def l16_idle (t : Int) (p : Int) (sh : Int) (xs : List Int) (g : Int) (b : Int) : Bool := (Cf.page ⟨t, p, sh⟩ g && (decide (0 ≤ b) && decide (b < 32))) && ((aInfo ⟨t, p, sh⟩ xs g).k == 3 && bitAt (cel xs (Cf.taken ⟨t, p, sh⟩ g)) b && !bitAt (cel xs (Cf.slots ⟨t, p, sh⟩ g)) b)
abbrev c_l16_idle : Ct Sg := ⟨none, false, [.agg [.i .i64, .i .i64, .i .i64], .ro [some .u32], .i .i64, .i .i64], .b⟩
def e_l16_idle : Entry Sg := entC c_l16_idle l16_idle (fun t p sh xs g b => [AGood ⟨t, p, sh⟩ xs])
def l16_idle_w (t : Int) (p : Int) (sh : Int) (xs : List Int) (g : Int) (b : Int) (R_ : Bool → Prop) : Prop := (bw_ (decide (g < 0) || decide (g ≥ p) || decide (b < 0) || decide (b > 31)) (R_ (false)) (∀ r3 : Int × Int × Int, r3 = (x_Info t p sh xs g) → (aw_ (AGood { t := t, p := p, s := sh } xs) (aw_ (0 ≤ g ∧ g < p) (aw_ ((r3.1 == 3) = true → AGood { t := t, p := p, s := sh } xs) (aw_ ((r3.1 == 3) = true → 0 ≤ g ∧ g < p) (aw_ ((r3.1 == 3 && r01_Bit (x_Taken t p sh xs g) b) = true → AGood { t := t, p := p, s := sh } xs) (aw_ ((r3.1 == 3 && r01_Bit (x_Taken t p sh xs g) b) = true → 0 ≤ g ∧ g < p) (R_ (r3.1 == 3 && r01_Bit (x_Taken t p sh xs g) b && !r01_Bit (x_Slots t p sh xs g) b))))))))))
theorem l16_idle_begin (t : Int) (p : Int) (sh : Int) (xs : List Int) (g : Int) (b : Int) (hp0 : AGood ⟨t, p, sh⟩ xs) (hl0 : xs.length ≤ 9223372036854775807) : l16_idle_w t p sh xs g b  (fun r__ => r__ = (l16_idle t p sh xs g b)) := by
  unfold l16_idle_w
  refine ⟨fun hc => ?_, fun hc => ?_⟩
  · show false = l16_idle t p sh xs g b
    have e : (Cf.page ⟨t, p, sh⟩ g && (decide (0 ≤ b) && decide (b < 32))) = false := by
      unfold Cf.page
      simp only [Bool.or_eq_true, decide_eq_true_eq] at hc
      simp only [Bool.and_eq_false_iff, decide_eq_false_iff_not]; omega
    rw [l16_idle, e]; rfl
  · have hg : (0 ≤ g ∧ g < p) ∧ 0 ≤ b ∧ b < 32 := by
      simp only [Bool.or_eq_false_iff, decide_eq_false_iff_not] at hc; omega
    have e : (Cf.page ⟨t, p, sh⟩ g && (decide (0 ≤ b) && decide (b < 32))) = true := by
      unfold Cf.page
      simp only [Bool.and_eq_true, decide_eq_true_eq]; omega
    rintro r3 rfl
    refine ⟨hp0, fun _ => ⟨hg.1, fun _ => ⟨fun _ => hp0, fun _ => ⟨fun _ => hg.1, fun _ => ⟨fun _ => hp0, fun _ => ⟨fun _ => hg.1, fun _ => ?_⟩⟩⟩⟩⟩⟩
    show _ = l16_idle t p sh xs g b
    rw [l16_idle, e, Bool.true_and, show r01_Bit (x_Taken t p sh xs g) b = bitAt (cel xs (Cf.taken ⟨t, p, sh⟩ g)) b from bit_eq (rootA_eq _ _ hp0.bd) b, show r01_Bit (x_Slots t p sh xs g) b = bitAt (cel xs (Cf.slots ⟨t, p, sh⟩ g)) b from bit_eq (rootA_eq _ _ hp0.bd) b]
    rfl
theorem l16_idle_ok : EOk 18 e_l16_idle :=
  ent_w0 Dg T_l16_live_ok (I := [2999998]) Tryz.func18 mix (B := bodyOf Tryz.f18) (by kernel_rfl) rfl (by kernel_rfl) 400
    fun _ t p sh xs g b hb hp => ⟨l16_idle_w t p sh xs g b (fun r__ => r__ = (l16_idle t p sh xs g b)), fun _ _ _ => by kernel_rfl, l16_idle_begin t p sh xs g b (hp _ (.head _)) (hb.2.1)⟩
def T_l16_idle : Tb := (18, e_l16_idle) :: T_l16_live
theorem T_l16_idle_ok : TOk T_l16_idle := tc_ l16_idle_ok T_l16_live_ok
def l16_count (t : Int) (p : Int) (sh : Int) (xs : List Int) : Int := bif soundA ⟨t, p, sh⟩ xs then cntA ⟨t, p, sh⟩ xs else 0
abbrev c_l16_count : Ct Sg := ⟨none, false, [.agg [.i .i64, .i .i64, .i .i64], .ro [some .u32]], .i .i64⟩
def e_l16_count : Entry Sg := entC c_l16_count l16_count (fun t p sh xs => [bdAll xs])
def l16_count_w (t : Int) (p : Int) (sh : Int) (xs : List Int) (Q0 : Nat → List Int → List Int → List Int → Int → Int → Prop) (R_ : Int → Prop) : Prop := (∀ r1 : List Int × List Int × List Int, r1 = (r12_Parts t p sh xs) → (aw_ (bdAll xs) (Q0 (List.length r1.1) r1.1 r1.2.1 r1.2.2 (0) (0))))
def l16_count_w0 (t : Int) (p : Int) (sh : Int) (xs : List Int) (n1 : Nat) (ks : List Int) (zs : List Int) (ss : List Int) (n : Int) (i : Int) (Q0 : Nat → List Int → List Int → List Int → Int → Int → Prop) (R_ : Int → Prop) : Prop := (bw_ (decide (i < (↑n1 : Int))) (aw_ (0 ≤ i ∧ i < (↑n1 : Int)) (bw_ (List.getD ks (Int.toNat i) (0 : Int) == 4) (Q0 (n1) (ks) (zs) (ss) (IntKind.wrap IntKind.i64 (n + 1)) (IntKind.wrap IntKind.i64 (i + 1))) (Q0 (n1) (ks) (zs) (ss) (n) (IntKind.wrap IntKind.i64 (i + 1))))) (R_ (n)))
def l16_count_I0 (t : Int) (p : Int) (sh : Int) (xs : List Int) (n1 : Nat) (ks : List Int) (zs : List Int) (ss : List Int) (n : Int) (i : Int) (r_ : Int) : Prop := 0 ≤ i ∧ i ≤ n1 ∧ n1 = ks.length ∧ zs.length = ks.length ∧ ss.length = ks.length ∧ n1 ≤ 40000 ∧ n = ((ks.take i.toNat).filter (· == 4)).length ∧ r_ = (ks.filter (· == 4)).length
abbrev l16_count_h0 (p0 : Addr) (t : Int) (p : Int) (sh : Int) (xs : List Int) : Hd Sg := ⟨none, [0,1,0,1,1,1], [.blk 0, .code [1,1,1,1]], [5, 6, 7], [.own 105 [some .i64, some .i64, some .i64], .i .i64, .i .i64]⟩
theorem l16_count_begin (t : Int) (p : Int) (sh : Int) (xs : List Int) (hp0 : bdAll xs) (hl0 : xs.length ≤ 9223372036854775807) : l16_count_w t p sh xs (fun n1' ks' zs' ss' n' i' => l16_count_I0 t p sh xs n1' ks' zs' ss' n' i' (l16_count t p sh xs)) (fun r__ => r__ = (l16_count t p sh xs)) := by
  unfold l16_count_w
  try unfold l16_count_I0
  rintro r rfl
  have hl : ∀ l : List Pt, ((l.map (·.k)).filter (· == 4)).length = (l.filter fun x => x.k == 4).length := fun l => by
    rw [List.filter_map, List.length_map]; rfl
  refine ⟨hp0, fun _ => ?_⟩
  unfold r12_Parts l16_count
  cases hs : soundA ⟨t, p, sh⟩ xs with
  | false => exact ⟨Int.le_refl _, Int.le_refl _, rfl, rfl, rfl, Nat.zero_le _, rfl, rfl⟩
  | true =>
    have h1 : (partsL ⟨t, p, sh⟩ xs).length ≤ 33 * p.toNat := partsL_len ⟨t, p, sh⟩ xs
    have h2 := (Cf.ok_iff.1 (sound_good hs hp0).ok)
    simp only at h2
    simp only [cond_true]
    have h3 : ((partsL ⟨t, p, sh⟩ xs).map (·.k)).length ≤ 40000 := by rw [List.length_map]; omega
    exact ⟨Int.le_refl _, by omega, by first | trivial | rfl, by simp, by simp, h3, rfl, by rw [cntA, hl]⟩
theorem l16_count_step0 (t : Int) (p : Int) (sh : Int) (xs : List Int) (hp0 : bdAll xs) (hl0 : xs.length ≤ 9223372036854775807) (n1 : Nat) (ks : List Int) (zs : List Int) (ss : List Int) (n : Int) (i : Int) {r_ : Int} (hI : l16_count_I0 t p sh xs n1 ks zs ss n i r_) : l16_count_w0 t p sh xs n1 ks zs ss n i (fun n1' ks' zs' ss' n' i' => l16_count_I0 t p sh xs n1' ks' zs' ss' n' i' r_ ∧ lx ((n1' - i').toNat, 0, 0) ((n1 - i).toNat, 0, 0)) (fun r__ => r__ = r_) := by
  unfold l16_count_I0 at hI
  unfold l16_count_w0
  try unfold l16_count_I0
  obtain ⟨h0, h1, h2, h3, h4, h5, h6, hr⟩ := hI
  refine ⟨fun h => ?_, fun h => ?_⟩
  · simp only [decide_eq_true_eq] at h
    have hi : 0 ≤ i ∧ i < (n1 : Int) := ⟨h0, h⟩
    have es : (i + 1).toNat = i.toNat + 1 := by omega
    have hn : n ≤ 40000 := by
      rw [h6]
      have := List.length_filter_le (· == (4 : Int)) (ks.take i.toNat)
      have := List.length_take_le i.toNat ks
      omega
    have hf := cnt_take ks i.toNat (by omega)
    rw [w64 (n := i + 1) (by omega)]
    refine ⟨hi, fun _ => ⟨fun hc => ?_, fun hc => ?_⟩⟩
    · rw [hc, cond_true] at hf
      rw [w64 (n := n + 1) (by omega)]
      exact ⟨⟨by omega, by omega, h2, h3, h4, h5, by rw [es, hf]; omega, hr⟩, lxo_⟩
    · rw [hc, cond_false] at hf
      exact ⟨⟨by omega, by omega, h2, h3, h4, h5, by rw [es, hf]; omega, hr⟩, lxo_⟩
  · simp only [decide_eq_false_iff_not] at h
    have e1 : List.take i.toNat ks = ks := List.take_of_length_le (by omega)
    rw [e1] at h6
    show _ = _
    rw [hr, h6]
theorem l16_count_ok : EOk 17 e_l16_count :=
  ent_wp Dg T_l16_idle_ok (I := [2999998, 1643000000005, 1643000000006, 1643000000007]) Tryz.func17 mix (B := bodyOf Tryz.f17) (by kernel_rfl) rfl (by kernel_rfl) 400
    fun p0 t p sh xs hb hp => have hl0 : xs.length ≤ 9223372036854775807 := hb.2.1; have hp0 : bdAll xs := hp _ (.head _); ⟨[l16_count_h0 p0 t p sh xs], fun j => List.getD [appC (Hd.kd (l16_count_h0 p0 t p sh xs)) (fun n1' ks' zs' ss' n' i' => l16_count_I0 t p sh xs n1' ks' zs' ss' n' i' (l16_count t p sh xs))] j (fun _ => False), fun j => List.getD [appC (Hd.kd (l16_count_h0 p0 t p sh xs)) (fun n1' ks' zs' ss' n' i' => ((n1' - i').toNat, 0, 0))] j (fun _ => (0, 0, 0)), by kernel_rfl, ⟨l16_count_w t p sh xs (fun n1' ks' zs' ss' n' i' => l16_count_I0 t p sh xs n1' ks' zs' ss' n' i' (l16_count t p sh xs)) (fun r__ => r__ = (l16_count t p sh xs)), fun _ _ _ => by kernel_rfl, l16_count_begin t p sh xs hp0 hl0 ⟩, ⟨fun n1 ks zs ss n i hI => ⟨l16_count_w0 t p sh xs n1 ks zs ss n i (fun n1' ks' zs' ss' n' i' => l16_count_I0 t p sh xs n1' ks' zs' ss' n' i' (l16_count t p sh xs) ∧ lx ((n1' - i').toNat, 0, 0) ((n1 - i).toNat, 0, 0)) (fun r__ => r__ = (l16_count t p sh xs)), fun _ _ _ => by kernel_rfl, l16_count_step0 t p sh xs hp0 hl0 n1 ks zs ss n i hI⟩, trivial⟩⟩
def T_l16_count : Tb := (17, e_l16_count) :: T_l16_idle
theorem T_l16_count_ok : TOk T_l16_count := tc_ l16_count_ok T_l16_idle_ok
end Go.Proofs.YtcbeifgnccbfbaaGreat
namespace Go.Proofs.YtcbeifgnccbfbaaGreat
open Go.Sl
def SlabBack (t : Int) (p : Int) (sh : Int) (xs : List Int) (x0 : Int) (x1 : Int) : Bool := true
abbrev c_SlabBack : Ct Sg := ⟨none, false, [.agg [.i .i64, .i .i64, .i .i64], .ro [some .u32], .agg [.i .i64, .i .i64]], .b⟩
def e_SlabBack : Entry Sg := entC c_SlabBack SlabBack (fun t p sh xs x0 x1 => [bdAll xs, x0 ≤ 9223372036854775807, x1 ≤ 9223372036854775807])
def SlabBack_w (t : Int) (p : Int) (sh : Int) (xs : List Int) (x0 : Int) (x1 : Int) (Q0 : VS → Prop) (Q1 : VS → Nat → List Int → List Int → Int → Int → Int → Int → Int → Int → Int → Int → Nat → List Int → List Int → Int → Int → Int → Int → Int → Int → Int → Int → Bool → Prop) (Q2 : VS → Prop) (R_ : Bool → Prop) : Prop := (∀ r2 : Bool, r2 = (r12_Few t p sh) → (aw_ ((!r2) = false → bdAll xs) (aw_ ((!r2 || !r12_Sound t p sh xs) = false → AGood { t := t, p := p, s := sh } xs) (bw_ (!r2 || !r12_Sound t p sh xs || !l16_idle t p sh xs x0 x1) (∀ r6 : Bool, r6 = (true) → (R_ (r6))) (∀ r6 : VS, r6 = (VS.whole xs) → (aw_ (List.length xs ≤ 1000000) (aw_ (bdL xs) (∀ r10 : VS, r10 = (slab_Give r6 t p sh x0 x1) → (aw_ (p ≤ 1024) (aw_ (0 ≤ x0) (Q0 (r10))))))))))))
def SlabBack_w0 (t : Int) (p : Int) (sh : Int) (xs : List Int) (x0 : Int) (x1 : Int) (sv : VS) (Q0 : VS → Prop) (Q1 : VS → Nat → List Int → List Int → Int → Int → Int → Int → Int → Int → Int → Int → Nat → List Int → List Int → Int → Int → Int → Int → Int → Int → Int → Int → Bool → Prop) (Q2 : VS → Prop) (R_ : Bool → Prop) : Prop := (∀ r0 : List Int × List Int × Int × Int × Int × Int × Int × Int × Int × Int × Bool, r0 = (r12_State t p sh xs) → (aw_ (bdAll xs) ((∀ r4 : List Int, r4 = (VS.vals sv) → ((∀ r6 : List Int × List Int × Int × Int × Int × Int × Int × Int × Int × Int × Bool, r6 = (r12_State t p sh r4) → (aw_ (bdAll r4) (Q1 (sv) (List.length r0.1) r0.1 r0.2.1 r0.2.2.1 r0.2.2.2.1 r0.2.2.2.2.1 r0.2.2.2.2.2.1 r0.2.2.2.2.2.2.1 r0.2.2.2.2.2.2.2.1 r0.2.2.2.2.2.2.2.2.1 r0.2.2.2.2.2.2.2.2.2.1 (List.length r6.1) r6.1 r6.2.1 r6.2.2.1 r6.2.2.2.1 r6.2.2.2.2.1 r6.2.2.2.2.2.1 r6.2.2.2.2.2.2.1 r6.2.2.2.2.2.2.2.1 r6.2.2.2.2.2.2.2.2.1 r6.2.2.2.2.2.2.2.2.2.1 r6.2.2.2.2.2.2.2.2.2.2))) ∧ (∀ r7 : List Int × List Int × Int × Int × Int × Int × Int × Int × Int × Int × Bool, r7 = (r12_State t p sh r4) → (aw_ (bdAll r4) (Q1 (sv) (List.length r0.1) r0.1 r0.2.1 r0.2.2.1 r0.2.2.2.1 r0.2.2.2.2.1 r0.2.2.2.2.2.1 r0.2.2.2.2.2.2.1 r0.2.2.2.2.2.2.2.1 r0.2.2.2.2.2.2.2.2.1 r0.2.2.2.2.2.2.2.2.2.1 (List.length r7.1) r7.1 r7.2.1 r7.2.2.1 r7.2.2.2.1 r7.2.2.2.2.1 r7.2.2.2.2.2.1 r7.2.2.2.2.2.2.1 r7.2.2.2.2.2.2.2.1 r7.2.2.2.2.2.2.2.2.1 r7.2.2.2.2.2.2.2.2.2.1 r7.2.2.2.2.2.2.2.2.2.2))))) ∧ (∀ r5 : List Int, r5 = (VS.vals sv) → (∀ r7 : List Int × List Int × Int × Int × Int × Int × Int × Int × Int × Int × Bool, r7 = (r12_State t p sh r5) → (aw_ (bdAll r5) (Q1 (sv) (List.length r0.1) r0.1 r0.2.1 r0.2.2.1 r0.2.2.2.1 r0.2.2.2.2.1 r0.2.2.2.2.2.1 r0.2.2.2.2.2.2.1 r0.2.2.2.2.2.2.2.1 r0.2.2.2.2.2.2.2.2.1 r0.2.2.2.2.2.2.2.2.2.1 (List.length r7.1) r7.1 r7.2.1 r7.2.2.1 r7.2.2.2.1 r7.2.2.2.2.1 r7.2.2.2.2.2.1 r7.2.2.2.2.2.2.1 r7.2.2.2.2.2.2.2.1 r7.2.2.2.2.2.2.2.2.1 r7.2.2.2.2.2.2.2.2.2.1 r7.2.2.2.2.2.2.2.2.2.2)))))))
def SlabBack_I0 (t : Int) (p : Int) (sh : Int) (xs : List Int) (x0 : Int) (x1 : Int) (sv : VS) (r_ : Bool) : Prop := p ≤ 64 ∧ soundA ⟨t, p, sh⟩ xs = true ∧ idleA ⟨t, p, sh⟩ xs x0 x1 = true ∧ sv = ((pGive ⟨t, p, sh⟩ x0 x1).run (VS.whole xs)).1 ∧ r_ = true
def SlabBack_w1 (t : Int) (p : Int) (sh : Int) (xs : List Int) (x0 : Int) (x1 : Int) (sv : VS) (nw : Nat) (wa : List Int) (wz : List Int) (w0 : Int) (w1 : Int) (w2 : Int) (w3 : Int) (w4 : Int) (w5 : Int) (w6 : Int) (w7 : Int) (nv_ : Nat) (va : List Int) (vz : List Int) (v0 : Int) (v1 : Int) (v2 : Int) (v3 : Int) (v4 : Int) (v5 : Int) (v6 : Int) (v7 : Int) (ok : Bool) (Q0 : VS → Prop) (Q1 : VS → Nat → List Int → List Int → Int → Int → Int → Int → Int → Int → Int → Int → Nat → List Int → List Int → Int → Int → Int → Int → Int → Int → Int → Int → Bool → Prop) (Q2 : VS → Prop) (R_ : Bool → Prop) : Prop := (bw_ (!ok) (R_ (false)) (∀ r1 : Bool, r1 = (r12_Same wa wz w0 w1 w2 w3 w4 w5 w6 w7 va vz v0 v1 v2 v3 v4 v5 v6 v7) → (aw_ (List.length wa = List.length wz) (aw_ (List.length va = List.length vz) (bw_ (!r1) (R_ (false)) (∀ r5 : List Int, r5 = (VS.vals sv) → (∀ r7 : Int, r7 = (l16_count t p sh r5) → (aw_ (bdAll r5) (∀ r9 : Int, r9 = (l16_count t p sh xs) → (aw_ (bdAll xs) (bw_ (r7 != IntKind.wrap IntKind.i64 (r9 - 1)) (R_ (false)) (∀ r12 : List Int, r12 = (VS.vals sv) → (∀ r14 : Bool, r14 = (l16_idle t p sh r12 x0 x1) → (aw_ (AGood { t := t, p := p, s := sh } r12) (bw_ (r14) (R_ (false)) (Q2 (sv)))))))))))))))))
def SlabBack_I1 (t : Int) (p : Int) (sh : Int) (xs : List Int) (x0 : Int) (x1 : Int) (sv : VS) (nw : Nat) (wa : List Int) (wz : List Int) (w0 : Int) (w1 : Int) (w2 : Int) (w3 : Int) (w4 : Int) (w5 : Int) (w6 : Int) (w7 : Int) (nv_ : Nat) (va : List Int) (vz : List Int) (v0 : Int) (v1 : Int) (v2 : Int) (v3 : Int) (v4 : Int) (v5 : Int) (v6 : Int) (v7 : Int) (ok : Bool) (r_ : Bool) : Prop := p ≤ 64 ∧ soundA ⟨t, p, sh⟩ xs = true ∧ idleA ⟨t, p, sh⟩ xs x0 x1 = true ∧ sv = ((pGive ⟨t, p, sh⟩ x0 x1).run (VS.whole xs)).1 ∧ r_ = true ∧ (wa, wz, w0, w1, w2, w3, w4, w5, w6, w7, true) = stateA ⟨t, p, sh⟩ xs ∧ nw = wa.length ∧ (va, vz, v0, v1, v2, v3, v4, v5, v6, v7, ok) = stateA ⟨t, p, sh⟩ sv.vals ∧ nv_ = va.length
def SlabBack_w2 (t : Int) (p : Int) (sh : Int) (xs : List Int) (x0 : Int) (x1 : Int) (sv : VS) (Q0 : VS → Prop) (Q1 : VS → Nat → List Int → List Int → Int → Int → Int → Int → Int → Int → Int → Int → Nat → List Int → List Int → Int → Int → Int → Int → Int → Int → Int → Int → Bool → Prop) (Q2 : VS → Prop) (R_ : Bool → Prop) : Prop := (((∀ r0 : List Int, r0 = (VS.vals sv) → (tw_ (∀ r4 : Int, r4 = (x_Taken t p sh xs x0) → (aw_ (AGood { t := t, p := p, s := sh } xs) (aw_ (0 ≤ x0 ∧ x0 < p) (∀ r7 : Int, r7 = (r01_Ones r4) → (aw_ (bd32 r4) (bw_ (r7 == 1) (aw_ (AGood { t := t, p := p, s := sh } r0) (aw_ (0 ≤ x0 ∧ x0 < p) (aw_ ((Prod.fst (x_Info t p sh r0 x0) != 3) = true → (0 : Int) ≤ 0 ∧ 0 < (↑(List.length r0) : Int)) (aw_ ((Prod.fst (x_Info t p sh r0 x0) != 3) = true → (0 : Int) ≤ 0 ∧ 0 < (↑(List.length xs) : Int)) (R_ (Prod.fst (If.k (aInfo { t := t, p := p, s := sh } r0 x0), If.l (aInfo { t := t, p := p, s := sh } r0 x0), If.c (aInfo { t := t, p := p, s := sh } r0 x0)) != 3 && List.getD r0 0 0 == IntKind.wrap IntKind.u32 (List.getD xs 0 (0 : Int) + 1) && true)))))) (aw_ (AGood { t := t, p := p, s := sh } r0) (aw_ (0 ≤ x0 ∧ x0 < p) (aw_ ((Prod.fst (x_Info t p sh r0 x0) == 3) = true → (0 : Int) ≤ 0 ∧ 0 < (↑(List.length r0) : Int)) (aw_ ((Prod.fst (x_Info t p sh r0 x0) == 3) = true → (0 : Int) ≤ 0 ∧ 0 < (↑(List.length xs) : Int)) (R_ (Prod.fst (If.k (aInfo { t := t, p := p, s := sh } r0 x0), If.l (aInfo { t := t, p := p, s := sh } r0 x0), If.c (aInfo { t := t, p := p, s := sh } r0 x0)) == 3 && List.getD r0 0 0 == List.getD xs 0 0 && true)))))))))))))) ∧ (tw_ ((∀ r1 : List Int, r1 = (VS.vals sv) → (∀ r4 : Int, r4 = (x_Taken t p sh xs x0) → (aw_ (AGood { t := t, p := p, s := sh } xs) (aw_ (0 ≤ x0 ∧ x0 < p) (∀ r7 : Int, r7 = (r01_Ones r4) → (aw_ (bd32 r4) (bw_ (r7 == 1) (aw_ (AGood { t := t, p := p, s := sh } r1) (aw_ (0 ≤ x0 ∧ x0 < p) (aw_ ((Prod.fst (x_Info t p sh r1 x0) != 3) = true → (0 : Int) ≤ 0 ∧ 0 < (↑(List.length r1) : Int)) (aw_ ((Prod.fst (x_Info t p sh r1 x0) != 3) = true → (0 : Int) ≤ 0 ∧ 0 < (↑(List.length xs) : Int)) (R_ (Prod.fst (If.k (aInfo { t := t, p := p, s := sh } r1 x0), If.l (aInfo { t := t, p := p, s := sh } r1 x0), If.c (aInfo { t := t, p := p, s := sh } r1 x0)) != 3 && List.getD r1 0 0 == IntKind.wrap IntKind.u32 (List.getD xs 0 (0 : Int) + 1) && true)))))) (aw_ (AGood { t := t, p := p, s := sh } r1) (aw_ (0 ≤ x0 ∧ x0 < p) (aw_ ((Prod.fst (x_Info t p sh r1 x0) == 3) = true → (0 : Int) ≤ 0 ∧ 0 < (↑(List.length r1) : Int)) (aw_ ((Prod.fst (x_Info t p sh r1 x0) == 3) = true → (0 : Int) ≤ 0 ∧ 0 < (↑(List.length xs) : Int)) (R_ (Prod.fst (If.k (aInfo { t := t, p := p, s := sh } r1 x0), If.l (aInfo { t := t, p := p, s := sh } r1 x0), If.c (aInfo { t := t, p := p, s := sh } r1 x0)) == 3 && List.getD r1 0 0 == List.getD xs 0 0 && true))))))))))))) ∧ (∀ r2 : List Int, r2 = (VS.vals sv) → (∀ r4 : Int, r4 = (x_Taken t p sh xs x0) → (aw_ (AGood { t := t, p := p, s := sh } xs) (aw_ (0 ≤ x0 ∧ x0 < p) (∀ r7 : Int, r7 = (r01_Ones r4) → (aw_ (bd32 r4) (bw_ (r7 == 1) (aw_ (AGood { t := t, p := p, s := sh } r2) (aw_ (0 ≤ x0 ∧ x0 < p) (aw_ ((Prod.fst (x_Info t p sh r2 x0) != 3) = true → (0 : Int) ≤ 0 ∧ 0 < (↑(List.length r2) : Int)) (aw_ ((Prod.fst (x_Info t p sh r2 x0) != 3) = true → (0 : Int) ≤ 0 ∧ 0 < (↑(List.length xs) : Int)) (R_ (Prod.fst (If.k (aInfo { t := t, p := p, s := sh } r2 x0), If.l (aInfo { t := t, p := p, s := sh } r2 x0), If.c (aInfo { t := t, p := p, s := sh } r2 x0)) != 3 && List.getD r2 0 0 == IntKind.wrap IntKind.u32 (List.getD xs 0 (0 : Int) + 1) && true)))))) (aw_ (AGood { t := t, p := p, s := sh } r2) (aw_ (0 ≤ x0 ∧ x0 < p) (aw_ ((Prod.fst (x_Info t p sh r2 x0) == 3) = true → (0 : Int) ≤ 0 ∧ 0 < (↑(List.length r2) : Int)) (aw_ ((Prod.fst (x_Info t p sh r2 x0) == 3) = true → (0 : Int) ≤ 0 ∧ 0 < (↑(List.length xs) : Int)) (R_ (Prod.fst (If.k (aInfo { t := t, p := p, s := sh } r2 x0), If.l (aInfo { t := t, p := p, s := sh } r2 x0), If.c (aInfo { t := t, p := p, s := sh } r2 x0)) == 3 && List.getD r2 0 0 == List.getD xs 0 0 && true)))))))))))))))) ∧ ((∀ r0 : List Int, r0 = (VS.vals sv) → ((tw_ (∀ r4 : Int, r4 = (x_Taken t p sh xs x0) → (aw_ (AGood { t := t, p := p, s := sh } xs) (aw_ (0 ≤ x0 ∧ x0 < p) (∀ r7 : Int, r7 = (r01_Ones r4) → (aw_ (bd32 r4) (bw_ (r7 == 1) (aw_ (AGood { t := t, p := p, s := sh } r0) (aw_ (0 ≤ x0 ∧ x0 < p) (aw_ ((Prod.fst (x_Info t p sh r0 x0) != 3) = true → (0 : Int) ≤ 0 ∧ 0 < (↑(List.length r0) : Int)) (aw_ ((Prod.fst (x_Info t p sh r0 x0) != 3) = true → (0 : Int) ≤ 0 ∧ 0 < (↑(List.length xs) : Int)) (R_ (Prod.fst (If.k (aInfo { t := t, p := p, s := sh } r0 x0), If.l (aInfo { t := t, p := p, s := sh } r0 x0), If.c (aInfo { t := t, p := p, s := sh } r0 x0)) != 3 && List.getD r0 0 0 == IntKind.wrap IntKind.u32 (List.getD xs 0 (0 : Int) + 1) && true)))))) (aw_ (AGood { t := t, p := p, s := sh } r0) (aw_ (0 ≤ x0 ∧ x0 < p) (aw_ ((Prod.fst (x_Info t p sh r0 x0) == 3) = true → (0 : Int) ≤ 0 ∧ 0 < (↑(List.length r0) : Int)) (aw_ ((Prod.fst (x_Info t p sh r0 x0) == 3) = true → (0 : Int) ≤ 0 ∧ 0 < (↑(List.length xs) : Int)) (R_ (Prod.fst (If.k (aInfo { t := t, p := p, s := sh } r0 x0), If.l (aInfo { t := t, p := p, s := sh } r0 x0), If.c (aInfo { t := t, p := p, s := sh } r0 x0)) == 3 && List.getD r0 0 0 == List.getD xs 0 0 && true))))))))))))) ∧ (tw_ ((∀ r4 : Int, r4 = (x_Taken t p sh xs x0) → (aw_ (AGood { t := t, p := p, s := sh } xs) (aw_ (0 ≤ x0 ∧ x0 < p) (∀ r7 : Int, r7 = (r01_Ones r4) → (aw_ (bd32 r4) (bw_ (r7 == 1) (aw_ (AGood { t := t, p := p, s := sh } r0) (aw_ (0 ≤ x0 ∧ x0 < p) (aw_ ((Prod.fst (x_Info t p sh r0 x0) != 3) = true → (0 : Int) ≤ 0 ∧ 0 < (↑(List.length r0) : Int)) (aw_ ((Prod.fst (x_Info t p sh r0 x0) != 3) = true → (0 : Int) ≤ 0 ∧ 0 < (↑(List.length xs) : Int)) (R_ (Prod.fst (If.k (aInfo { t := t, p := p, s := sh } r0 x0), If.l (aInfo { t := t, p := p, s := sh } r0 x0), If.c (aInfo { t := t, p := p, s := sh } r0 x0)) != 3 && List.getD r0 0 0 == IntKind.wrap IntKind.u32 (List.getD xs 0 (0 : Int) + 1) && true)))))) (aw_ (AGood { t := t, p := p, s := sh } r0) (aw_ (0 ≤ x0 ∧ x0 < p) (aw_ ((Prod.fst (x_Info t p sh r0 x0) == 3) = true → (0 : Int) ≤ 0 ∧ 0 < (↑(List.length r0) : Int)) (aw_ ((Prod.fst (x_Info t p sh r0 x0) == 3) = true → (0 : Int) ≤ 0 ∧ 0 < (↑(List.length xs) : Int)) (R_ (Prod.fst (If.k (aInfo { t := t, p := p, s := sh } r0 x0), If.l (aInfo { t := t, p := p, s := sh } r0 x0), If.c (aInfo { t := t, p := p, s := sh } r0 x0)) == 3 && List.getD r0 0 0 == List.getD xs 0 0 && true)))))))))))) ∧ (tw_ (∀ r4 : Int, r4 = (x_Taken t p sh xs x0) → (aw_ (AGood { t := t, p := p, s := sh } xs) (aw_ (0 ≤ x0 ∧ x0 < p) (∀ r7 : Int, r7 = (r01_Ones r4) → (aw_ (bd32 r4) (bw_ (r7 == 1) (aw_ (AGood { t := t, p := p, s := sh } r0) (aw_ (0 ≤ x0 ∧ x0 < p) (aw_ ((Prod.fst (x_Info t p sh r0 x0) != 3) = true → (0 : Int) ≤ 0 ∧ 0 < (↑(List.length r0) : Int)) (aw_ ((Prod.fst (x_Info t p sh r0 x0) != 3) = true → (0 : Int) ≤ 0 ∧ 0 < (↑(List.length xs) : Int)) (R_ (Prod.fst (If.k (aInfo { t := t, p := p, s := sh } r0 x0), If.l (aInfo { t := t, p := p, s := sh } r0 x0), If.c (aInfo { t := t, p := p, s := sh } r0 x0)) != 3 && List.getD r0 0 0 == IntKind.wrap IntKind.u32 (List.getD xs 0 (0 : Int) + 1) && true)))))) (aw_ (AGood { t := t, p := p, s := sh } r0) (aw_ (0 ≤ x0 ∧ x0 < p) (aw_ ((Prod.fst (x_Info t p sh r0 x0) == 3) = true → (0 : Int) ≤ 0 ∧ 0 < (↑(List.length r0) : Int)) (aw_ ((Prod.fst (x_Info t p sh r0 x0) == 3) = true → (0 : Int) ≤ 0 ∧ 0 < (↑(List.length xs) : Int)) (R_ (Prod.fst (If.k (aInfo { t := t, p := p, s := sh } r0 x0), If.l (aInfo { t := t, p := p, s := sh } r0 x0), If.c (aInfo { t := t, p := p, s := sh } r0 x0)) == 3 && List.getD r0 0 0 == List.getD xs 0 0 && true))))))))))))))))) ∧ (tw_ (((∀ r1 : List Int, r1 = (VS.vals sv) → (∀ r4 : Int, r4 = (x_Taken t p sh xs x0) → (aw_ (AGood { t := t, p := p, s := sh } xs) (aw_ (0 ≤ x0 ∧ x0 < p) (∀ r7 : Int, r7 = (r01_Ones r4) → (aw_ (bd32 r4) (bw_ (r7 == 1) (aw_ (AGood { t := t, p := p, s := sh } r1) (aw_ (0 ≤ x0 ∧ x0 < p) (aw_ ((Prod.fst (x_Info t p sh r1 x0) != 3) = true → (0 : Int) ≤ 0 ∧ 0 < (↑(List.length r1) : Int)) (aw_ ((Prod.fst (x_Info t p sh r1 x0) != 3) = true → (0 : Int) ≤ 0 ∧ 0 < (↑(List.length xs) : Int)) (R_ (Prod.fst (If.k (aInfo { t := t, p := p, s := sh } r1 x0), If.l (aInfo { t := t, p := p, s := sh } r1 x0), If.c (aInfo { t := t, p := p, s := sh } r1 x0)) != 3 && List.getD r1 0 0 == IntKind.wrap IntKind.u32 (List.getD xs 0 (0 : Int) + 1) && true)))))) (aw_ (AGood { t := t, p := p, s := sh } r1) (aw_ (0 ≤ x0 ∧ x0 < p) (aw_ ((Prod.fst (x_Info t p sh r1 x0) == 3) = true → (0 : Int) ≤ 0 ∧ 0 < (↑(List.length r1) : Int)) (aw_ ((Prod.fst (x_Info t p sh r1 x0) == 3) = true → (0 : Int) ≤ 0 ∧ 0 < (↑(List.length xs) : Int)) (R_ (Prod.fst (If.k (aInfo { t := t, p := p, s := sh } r1 x0), If.l (aInfo { t := t, p := p, s := sh } r1 x0), If.c (aInfo { t := t, p := p, s := sh } r1 x0)) == 3 && List.getD r1 0 0 == List.getD xs 0 0 && true))))))))))))) ∧ (∀ r2 : List Int, r2 = (VS.vals sv) → (∀ r4 : Int, r4 = (x_Taken t p sh xs x0) → (aw_ (AGood { t := t, p := p, s := sh } xs) (aw_ (0 ≤ x0 ∧ x0 < p) (∀ r7 : Int, r7 = (r01_Ones r4) → (aw_ (bd32 r4) (bw_ (r7 == 1) (aw_ (AGood { t := t, p := p, s := sh } r2) (aw_ (0 ≤ x0 ∧ x0 < p) (aw_ ((Prod.fst (x_Info t p sh r2 x0) != 3) = true → (0 : Int) ≤ 0 ∧ 0 < (↑(List.length r2) : Int)) (aw_ ((Prod.fst (x_Info t p sh r2 x0) != 3) = true → (0 : Int) ≤ 0 ∧ 0 < (↑(List.length xs) : Int)) (R_ (Prod.fst (If.k (aInfo { t := t, p := p, s := sh } r2 x0), If.l (aInfo { t := t, p := p, s := sh } r2 x0), If.c (aInfo { t := t, p := p, s := sh } r2 x0)) != 3 && List.getD r2 0 0 == IntKind.wrap IntKind.u32 (List.getD xs 0 (0 : Int) + 1) && true)))))) (aw_ (AGood { t := t, p := p, s := sh } r2) (aw_ (0 ≤ x0 ∧ x0 < p) (aw_ ((Prod.fst (x_Info t p sh r2 x0) == 3) = true → (0 : Int) ≤ 0 ∧ 0 < (↑(List.length r2) : Int)) (aw_ ((Prod.fst (x_Info t p sh r2 x0) == 3) = true → (0 : Int) ≤ 0 ∧ 0 < (↑(List.length xs) : Int)) (R_ (Prod.fst (If.k (aInfo { t := t, p := p, s := sh } r2 x0), If.l (aInfo { t := t, p := p, s := sh } r2 x0), If.c (aInfo { t := t, p := p, s := sh } r2 x0)) == 3 && List.getD r2 0 0 == List.getD xs 0 0 && true)))))))))))))) ∧ ((∀ r1 : List Int, r1 = (VS.vals sv) → ((∀ r4 : Int, r4 = (x_Taken t p sh xs x0) → (aw_ (AGood { t := t, p := p, s := sh } xs) (aw_ (0 ≤ x0 ∧ x0 < p) (∀ r7 : Int, r7 = (r01_Ones r4) → (aw_ (bd32 r4) (bw_ (r7 == 1) (aw_ (AGood { t := t, p := p, s := sh } r1) (aw_ (0 ≤ x0 ∧ x0 < p) (aw_ ((Prod.fst (x_Info t p sh r1 x0) != 3) = true → (0 : Int) ≤ 0 ∧ 0 < (↑(List.length r1) : Int)) (aw_ ((Prod.fst (x_Info t p sh r1 x0) != 3) = true → (0 : Int) ≤ 0 ∧ 0 < (↑(List.length xs) : Int)) (R_ (Prod.fst (If.k (aInfo { t := t, p := p, s := sh } r1 x0), If.l (aInfo { t := t, p := p, s := sh } r1 x0), If.c (aInfo { t := t, p := p, s := sh } r1 x0)) != 3 && List.getD r1 0 0 == IntKind.wrap IntKind.u32 (List.getD xs 0 (0 : Int) + 1) && true)))))) (aw_ (AGood { t := t, p := p, s := sh } r1) (aw_ (0 ≤ x0 ∧ x0 < p) (aw_ ((Prod.fst (x_Info t p sh r1 x0) == 3) = true → (0 : Int) ≤ 0 ∧ 0 < (↑(List.length r1) : Int)) (aw_ ((Prod.fst (x_Info t p sh r1 x0) == 3) = true → (0 : Int) ≤ 0 ∧ 0 < (↑(List.length xs) : Int)) (R_ (Prod.fst (If.k (aInfo { t := t, p := p, s := sh } r1 x0), If.l (aInfo { t := t, p := p, s := sh } r1 x0), If.c (aInfo { t := t, p := p, s := sh } r1 x0)) == 3 && List.getD r1 0 0 == List.getD xs 0 0 && true)))))))))))) ∧ (tw_ (∀ r4 : Int, r4 = (x_Taken t p sh xs x0) → (aw_ (AGood { t := t, p := p, s := sh } xs) (aw_ (0 ≤ x0 ∧ x0 < p) (∀ r7 : Int, r7 = (r01_Ones r4) → (aw_ (bd32 r4) (bw_ (r7 == 1) (aw_ (AGood { t := t, p := p, s := sh } r1) (aw_ (0 ≤ x0 ∧ x0 < p) (aw_ ((Prod.fst (x_Info t p sh r1 x0) != 3) = true → (0 : Int) ≤ 0 ∧ 0 < (↑(List.length r1) : Int)) (aw_ ((Prod.fst (x_Info t p sh r1 x0) != 3) = true → (0 : Int) ≤ 0 ∧ 0 < (↑(List.length xs) : Int)) (R_ (Prod.fst (If.k (aInfo { t := t, p := p, s := sh } r1 x0), If.l (aInfo { t := t, p := p, s := sh } r1 x0), If.c (aInfo { t := t, p := p, s := sh } r1 x0)) != 3 && List.getD r1 0 0 == IntKind.wrap IntKind.u32 (List.getD xs 0 (0 : Int) + 1) && true)))))) (aw_ (AGood { t := t, p := p, s := sh } r1) (aw_ (0 ≤ x0 ∧ x0 < p) (aw_ ((Prod.fst (x_Info t p sh r1 x0) == 3) = true → (0 : Int) ≤ 0 ∧ 0 < (↑(List.length r1) : Int)) (aw_ ((Prod.fst (x_Info t p sh r1 x0) == 3) = true → (0 : Int) ≤ 0 ∧ 0 < (↑(List.length xs) : Int)) (R_ (Prod.fst (If.k (aInfo { t := t, p := p, s := sh } r1 x0), If.l (aInfo { t := t, p := p, s := sh } r1 x0), If.c (aInfo { t := t, p := p, s := sh } r1 x0)) == 3 && List.getD r1 0 0 == List.getD xs 0 0 && true))))))))))))))) ∧ ((∀ r2 : List Int, r2 = (VS.vals sv) → (∀ r4 : Int, r4 = (x_Taken t p sh xs x0) → (aw_ (AGood { t := t, p := p, s := sh } xs) (aw_ (0 ≤ x0 ∧ x0 < p) (∀ r7 : Int, r7 = (r01_Ones r4) → (aw_ (bd32 r4) (bw_ (r7 == 1) (aw_ (AGood { t := t, p := p, s := sh } r2) (aw_ (0 ≤ x0 ∧ x0 < p) (aw_ ((Prod.fst (x_Info t p sh r2 x0) != 3) = true → (0 : Int) ≤ 0 ∧ 0 < (↑(List.length r2) : Int)) (aw_ ((Prod.fst (x_Info t p sh r2 x0) != 3) = true → (0 : Int) ≤ 0 ∧ 0 < (↑(List.length xs) : Int)) (R_ (Prod.fst (If.k (aInfo { t := t, p := p, s := sh } r2 x0), If.l (aInfo { t := t, p := p, s := sh } r2 x0), If.c (aInfo { t := t, p := p, s := sh } r2 x0)) != 3 && List.getD r2 0 0 == IntKind.wrap IntKind.u32 (List.getD xs 0 (0 : Int) + 1) && true)))))) (aw_ (AGood { t := t, p := p, s := sh } r2) (aw_ (0 ≤ x0 ∧ x0 < p) (aw_ ((Prod.fst (x_Info t p sh r2 x0) == 3) = true → (0 : Int) ≤ 0 ∧ 0 < (↑(List.length r2) : Int)) (aw_ ((Prod.fst (x_Info t p sh r2 x0) == 3) = true → (0 : Int) ≤ 0 ∧ 0 < (↑(List.length xs) : Int)) (R_ (Prod.fst (If.k (aInfo { t := t, p := p, s := sh } r2 x0), If.l (aInfo { t := t, p := p, s := sh } r2 x0), If.c (aInfo { t := t, p := p, s := sh } r2 x0)) == 3 && List.getD r2 0 0 == List.getD xs 0 0 && true))))))))))))) ∧ (∀ r2 : List Int, r2 = (VS.vals sv) → (tw_ (∀ r4 : Int, r4 = (x_Taken t p sh xs x0) → (aw_ (AGood { t := t, p := p, s := sh } xs) (aw_ (0 ≤ x0 ∧ x0 < p) (∀ r7 : Int, r7 = (r01_Ones r4) → (aw_ (bd32 r4) (bw_ (r7 == 1) (aw_ (AGood { t := t, p := p, s := sh } r2) (aw_ (0 ≤ x0 ∧ x0 < p) (aw_ ((Prod.fst (x_Info t p sh r2 x0) != 3) = true → (0 : Int) ≤ 0 ∧ 0 < (↑(List.length r2) : Int)) (aw_ ((Prod.fst (x_Info t p sh r2 x0) != 3) = true → (0 : Int) ≤ 0 ∧ 0 < (↑(List.length xs) : Int)) (R_ (Prod.fst (If.k (aInfo { t := t, p := p, s := sh } r2 x0), If.l (aInfo { t := t, p := p, s := sh } r2 x0), If.c (aInfo { t := t, p := p, s := sh } r2 x0)) != 3 && List.getD r2 0 0 == IntKind.wrap IntKind.u32 (List.getD xs 0 (0 : Int) + 1) && true)))))) (aw_ (AGood { t := t, p := p, s := sh } r2) (aw_ (0 ≤ x0 ∧ x0 < p) (aw_ ((Prod.fst (x_Info t p sh r2 x0) == 3) = true → (0 : Int) ≤ 0 ∧ 0 < (↑(List.length r2) : Int)) (aw_ ((Prod.fst (x_Info t p sh r2 x0) == 3) = true → (0 : Int) ≤ 0 ∧ 0 < (↑(List.length xs) : Int)) (R_ (Prod.fst (If.k (aInfo { t := t, p := p, s := sh } r2 x0), If.l (aInfo { t := t, p := p, s := sh } r2 x0), If.c (aInfo { t := t, p := p, s := sh } r2 x0)) == 3 && List.getD r2 0 0 == List.getD xs 0 0 && true))))))))))))))))))))
def SlabBack_I2 (t : Int) (p : Int) (sh : Int) (xs : List Int) (x0 : Int) (x1 : Int) (sv : VS) (r_ : Bool) : Prop := p ≤ 64 ∧ soundA ⟨t, p, sh⟩ xs = true ∧ idleA ⟨t, p, sh⟩ xs x0 x1 = true ∧ sv = ((pGive ⟨t, p, sh⟩ x0 x1).run (VS.whole xs)).1 ∧ r_ = true
abbrev SlabBack_h0 (p0 : Addr) (t : Int) (p : Int) (sh : Int) (xs : List Int) (x0 : Int) (x1 : Int) : Hd Sg := ⟨some 0, [0, 1, 1, 1, 1], [.code [1, 1, 1, 1, 1]], [3, 1, 5, 7], [.box 23 [.ic .i64 (t), .ic .i64 (p), .ic .i64 (sh)], .roc [.ints .u32 (xs)], .box 25 [.ic .i64 (x0), .ic .i64 (x1)], .obj wView]⟩
abbrev SlabBack_h1 (p0 : Addr) (t : Int) (p : Int) (sh : Int) (xs : List Int) (x0 : Int) (x1 : Int) : Hd Sg := ⟨some 900, [0, 0, 1, 1, 1, 1, 1, 1], [.code [1, 0, 1, 1, 1, 1, 1, 1], .code [1, 1, 1, 1, 1, 1, 1]], [3, 1, 5, 7, 8, 10, 11], [.box 23 [.ic .i64 (t), .ic .i64 (p), .ic .i64 (sh)], .roc [.ints .u32 (xs)], .box 25 [.ic .i64 (x0), .ic .i64 (x1)], .obj wView, .box 40 [.own 71 [some .i64, some .i64], .i .i64, .i .i64, .i .i64, .i .i64, .i .i64, .i .i64, .i .i64, .i .i64], .box 40 [.own 71 [some .i64, some .i64], .i .i64, .i .i64, .i .i64, .i .i64, .i .i64, .i .i64, .i .i64, .i .i64], .b]⟩
abbrev SlabBack_h2 (p0 : Addr) (t : Int) (p : Int) (sh : Int) (xs : List Int) (x0 : Int) (x1 : Int) : Hd Sg := ⟨some 900, [0, 1, 1, 1, 1, 1, 1, 1], [.code [1, 1, 1, 1, 1, 1, 1, 1]], [3, 1, 5, 7], [.box 23 [.ic .i64 (t), .ic .i64 (p), .ic .i64 (sh)], .roc [.ints .u32 (xs)], .box 25 [.ic .i64 (x0), .ic .i64 (x1)], .obj wView]⟩
theorem SlabBack_begin (t : Int) (p : Int) (sh : Int) (xs : List Int) (x0 : Int) (x1 : Int) (hp0 : bdAll xs) (hp1 : x0 ≤ 9223372036854775807) (hp2 : x1 ≤ 9223372036854775807) (hl0 : xs.length ≤ 9223372036854775807) : SlabBack_w t p sh xs x0 x1 (fun sv' => SlabBack_I0 t p sh xs x0 x1 sv' (SlabBack t p sh xs x0 x1)) (fun sv' nw' wa' wz' w0' w1' w2' w3' w4' w5' w6' w7' nv_' va' vz' v0' v1' v2' v3' v4' v5' v6' v7' ok' => SlabBack_I1 t p sh xs x0 x1 sv' nw' wa' wz' w0' w1' w2' w3' w4' w5' w6' w7' nv_' va' vz' v0' v1' v2' v3' v4' v5' v6' v7' ok' (SlabBack t p sh xs x0 x1)) (fun sv' => SlabBack_I2 t p sh xs x0 x1 sv' (SlabBack t p sh xs x0 x1)) (fun r__ => r__ = (SlabBack t p sh xs x0 x1)) := by
  unfold SlabBack_w
  try unfold SlabBack_I0
  try unfold SlabBack_I1
  try unfold SlabBack_I2
  rintro r1 rfl
  refine ⟨fun _ => hp0, fun _ => ⟨fun hq => ?_, fun _ => ⟨fun hc => (by rintro r rfl; rfl), fun hc => ?_⟩⟩⟩
  · simp only [Bool.or_eq_false_iff, Bool.not_eq_false'] at hq
    exact sound_good (c := ⟨t, p, sh⟩) hq.2 hp0
  have hfs : (p ≤ 64 ∧ soundA ⟨t, p, sh⟩ xs = true) ∧ l16_idle t p sh xs x0 x1 = true := by
    simp only [r12_Few, r12_Sound, Bool.or_eq_false_iff, Bool.not_eq_false', decide_eq_true_eq] at hc
    exact hc
  have hi : idleA ⟨t, p, sh⟩ xs x0 x1 = true := hfs.2
  have hgood := sound_good hfs.1.2 hp0
  have hlen := (good_long hgood).2
  have hok := Cf.ok_iff.1 hgood.ok
  simp only at hok
  have hp : p ≤ 1024 := by omega
  have hg0 : 0 ≤ x0 := (give_law hp0 hfs.1.2 hi).1.1
  rintro r5 rfl
  refine ⟨hlen, fun _ => ⟨hp0, fun _ => ?_⟩⟩
  rintro r9 rfl
  exact ⟨hp, fun _ => ⟨hg0, fun _ => ⟨hfs.1.1, hfs.1.2, hi, rfl, rfl⟩⟩⟩
theorem SlabBack_step0 (t : Int) (p : Int) (sh : Int) (xs : List Int) (x0 : Int) (x1 : Int) (hp0 : bdAll xs) (hp1 : x0 ≤ 9223372036854775807) (hp2 : x1 ≤ 9223372036854775807) (hl0 : xs.length ≤ 9223372036854775807) (sv : VS) {r_ : Bool} (hI : SlabBack_I0 t p sh xs x0 x1 sv r_) : SlabBack_w0 t p sh xs x0 x1 sv (fun sv' => SlabBack_I0 t p sh xs x0 x1 sv' r_ ∧ lx (9, 0, 0) (9, 0, 0)) (fun sv' nw' wa' wz' w0' w1' w2' w3' w4' w5' w6' w7' nv_' va' vz' v0' v1' v2' v3' v4' v5' v6' v7' ok' => SlabBack_I1 t p sh xs x0 x1 sv' nw' wa' wz' w0' w1' w2' w3' w4' w5' w6' w7' nv_' va' vz' v0' v1' v2' v3' v4' v5' v6' v7' ok' r_ ∧ lx (8, 0, 0) (9, 0, 0)) (fun sv' => SlabBack_I2 t p sh xs x0 x1 sv' r_ ∧ lx (7, 0, 0) (9, 0, 0)) (fun r__ => r__ = r_) := by
  unfold SlabBack_I0 at hI
  unfold SlabBack_w0
  try unfold SlabBack_I0
  try unfold SlabBack_I1
  try unfold SlabBack_I2
  obtain ⟨hfew, hs, hi, hsv, hr⟩ := hI
  rintro r0 rfl
  refine ⟨hp0, fun _ => ?_⟩
  repeat' first
    | (refine fun r hr => ?_; subst hr)
    | refine ⟨vals_bd _, fun _ => ?_⟩
    | (refine And.intro (fun r hr => ?_) (fun r hr => ?_) <;> subst hr)
    | fail
  all_goals exact ⟨⟨hfew, hs, hi, hsv, hr, st_eta (state_ok hs), rfl, rfl, rfl⟩, lxo_⟩
theorem SlabBack_step1 (t : Int) (p : Int) (sh : Int) (xs : List Int) (x0 : Int) (x1 : Int) (hp0 : bdAll xs) (hp1 : x0 ≤ 9223372036854775807) (hp2 : x1 ≤ 9223372036854775807) (hl0 : xs.length ≤ 9223372036854775807) (sv : VS) (nw : Nat) (wa : List Int) (wz : List Int) (w0 : Int) (w1 : Int) (w2 : Int) (w3 : Int) (w4 : Int) (w5 : Int) (w6 : Int) (w7 : Int) (nv_ : Nat) (va : List Int) (vz : List Int) (v0 : Int) (v1 : Int) (v2 : Int) (v3 : Int) (v4 : Int) (v5 : Int) (v6 : Int) (v7 : Int) (ok : Bool) {r_ : Bool} (hI : SlabBack_I1 t p sh xs x0 x1 sv nw wa wz w0 w1 w2 w3 w4 w5 w6 w7 nv_ va vz v0 v1 v2 v3 v4 v5 v6 v7 ok r_) : SlabBack_w1 t p sh xs x0 x1 sv nw wa wz w0 w1 w2 w3 w4 w5 w6 w7 nv_ va vz v0 v1 v2 v3 v4 v5 v6 v7 ok (fun sv' => SlabBack_I0 t p sh xs x0 x1 sv' r_ ∧ lx (9, 0, 0) (8, 0, 0)) (fun sv' nw' wa' wz' w0' w1' w2' w3' w4' w5' w6' w7' nv_' va' vz' v0' v1' v2' v3' v4' v5' v6' v7' ok' => SlabBack_I1 t p sh xs x0 x1 sv' nw' wa' wz' w0' w1' w2' w3' w4' w5' w6' w7' nv_' va' vz' v0' v1' v2' v3' v4' v5' v6' v7' ok' r_ ∧ lx (8, 0, 0) (8, 0, 0)) (fun sv' => SlabBack_I2 t p sh xs x0 x1 sv' r_ ∧ lx (7, 0, 0) (8, 0, 0)) (fun r__ => r__ = r_) := by
  unfold SlabBack_I1 at hI
  unfold SlabBack_w1
  try unfold SlabBack_I0
  try unfold SlabBack_I1
  try unfold SlabBack_I2
  obtain ⟨hfew, hs, hi, hsv, hr, hw, hnw, hv, hnv⟩ := hI
  obtain ⟨g3, s1, s2, s3, g4, g5, g6⟩ := give_law hp0 hs hi
  rw [← hsv] at s1 s2 s3 g4 g5 g6
  have hA := sound_good s1 (vals_bd sv)
  have hB := sound_good hs hp0
  have hw1 : wa = (stateA ⟨t, p, sh⟩ xs).1 := congrArg (·.1) hw
  have hw2 : wz = (stateA ⟨t, p, sh⟩ xs).2.1 := congrArg (·.2.1) hw
  have hl1 : wa.length = wz.length := by rw [hw1, hw2]; exact st_len _ _
  have e1 : (va, vz, v0, v1, v2, v3, v4, v5, v6, v7, ok) = (wa, wz, w0, w1, w2, w3, w4, w5, w6, w7, true) := hv.trans (s2.trans hw.symm)
  simp only [Prod.mk.injEq] at e1
  obtain ⟨rfl, rfl, rfl, rfl, rfl, rfl, rfl, rfl, rfl, rfl, rfl⟩ := e1
  rw [same_self]
  have hcnt : (l16_count t p sh sv.vals != IntKind.wrap IntKind.i64 (l16_count t p sh xs - 1)) = false := by
    have a1 : l16_count t p sh sv.vals = cntA ⟨t, p, sh⟩ sv.vals := by unfold l16_count; rw [s1]; rfl
    have a2 : l16_count t p sh xs = cntA ⟨t, p, sh⟩ xs := by unfold l16_count; rw [hs]; rfl
    have b2 : 0 ≤ cntA ⟨t, p, sh⟩ xs ∧ cntA ⟨t, p, sh⟩ xs ≤ 33 * 64 := by
      have z1 : (partsL ⟨t, p, sh⟩ xs).length ≤ 33 * p.toNat := partsL_len ⟨t, p, sh⟩ xs
      have z2 := List.length_filter_le (fun x => x.k == 4) (partsL ⟨t, p, sh⟩ xs)
      unfold cntA
      omega
    rw [a1, a2, s3, w64 (by omega)]
    simp
  have hid : l16_idle t p sh sv.vals x0 x1 = false := g4
  refine ⟨fun h => (by cases h), fun _ => ?_⟩
  rintro r1 rfl
  refine ⟨hl1, fun _ => ⟨hl1, fun _ => ?_⟩⟩
  repeat' first
    | (refine fun r hr' => ?_; subst hr')
    | refine ⟨vals_bd _, fun _ => ?_⟩
    | refine ⟨hp0, fun _ => ?_⟩
    | refine ⟨hA, fun _ => ?_⟩
    | refine ⟨fun (h : (!true) = true) => absurd h (by decide), fun _ => ?_⟩
    | refine ⟨fun h => (by rw [hcnt] at h; cases h), fun _ => ?_⟩
    | refine ⟨fun h => (by rw [hid] at h; cases h), fun _ => ?_⟩
    | exact ⟨⟨hfew, hs, hi, hsv, hr⟩, lxo_⟩
    | refine And.intro ?_ ?_
theorem SlabBack_step2 (t : Int) (p : Int) (sh : Int) (xs : List Int) (x0 : Int) (x1 : Int) (hp0 : bdAll xs) (hp1 : x0 ≤ 9223372036854775807) (hp2 : x1 ≤ 9223372036854775807) (hl0 : xs.length ≤ 9223372036854775807) (sv : VS) {r_ : Bool} (hI : SlabBack_I2 t p sh xs x0 x1 sv r_) : SlabBack_w2 t p sh xs x0 x1 sv (fun sv' => SlabBack_I0 t p sh xs x0 x1 sv' r_ ∧ lx (9, 0, 0) (7, 0, 0)) (fun sv' nw' wa' wz' w0' w1' w2' w3' w4' w5' w6' w7' nv_' va' vz' v0' v1' v2' v3' v4' v5' v6' v7' ok' => SlabBack_I1 t p sh xs x0 x1 sv' nw' wa' wz' w0' w1' w2' w3' w4' w5' w6' w7' nv_' va' vz' v0' v1' v2' v3' v4' v5' v6' v7' ok' r_ ∧ lx (8, 0, 0) (7, 0, 0)) (fun sv' => SlabBack_I2 t p sh xs x0 x1 sv' r_ ∧ lx (7, 0, 0) (7, 0, 0)) (fun r__ => r__ = r_) := by
  unfold SlabBack_I2 at hI
  unfold SlabBack_w2
  try unfold SlabBack_I0
  try unfold SlabBack_I1
  try unfold SlabBack_I2
  obtain ⟨hfew, hs, hi, hsv, hr⟩ := hI
  obtain ⟨g3, s1, s2, s3, g4, g5, g6⟩ := give_law hp0 hs hi
  rw [← hsv] at s1 s2 s3 g4 g5 g6
  have hA := sound_good s1 (vals_bd sv)
  have hB := sound_good hs hp0
  have hbt : bd32 (x_Taken t p sh xs x0) := cel_bd hB _
  have hv0 : (0 : Int) ≤ 0 ∧ (0 : Int) < (sv.vals.length : Int) := by have := vals_long s1; omega
  have hx0 : (0 : Int) ≤ 0 ∧ (0 : Int) < (xs.length : Int) := by have := (good_long hB).1; omega
  have fin1 : (r01_Ones (x_Taken t p sh xs x0) == 1) = true → ((aInfo ⟨t, p, sh⟩ sv.vals x0).k != 3 && sv.vals.getD 0 0 == IntKind.wrap IntKind.u32 (xs.getD 0 0 + 1) && true) = r_ := fun h => by
    rw [show r01_Ones (x_Taken t p sh xs x0) = ones (cel xs (Cf.taken ⟨t, p, sh⟩ x0)) from rfl] at h
    obtain ⟨e1, e2⟩ := g5 (by simpa using h)
    have e2 : sv.vals.getD 0 0 = nv (xs.getD 0 0 + 1) := e2
    rw [wrapu_nv, e2, hr]
    simp [e1]
  have fin2 : (r01_Ones (x_Taken t p sh xs x0) == 1) = false → ((aInfo ⟨t, p, sh⟩ sv.vals x0).k == 3 && sv.vals.getD 0 0 == xs.getD 0 0 && true) = r_ := fun h => by
    rw [show r01_Ones (x_Taken t p sh xs x0) = ones (cel xs (Cf.taken ⟨t, p, sh⟩ x0)) from rfl] at h
    obtain ⟨e1, e2⟩ := g6 (by simpa using h)
    have e2 : sv.vals.getD 0 0 = xs.getD 0 0 := e2
    rw [e2, hr]
    simp [e1]
  repeat' first
    | (refine fun r hr' => ?_; subst hr')
    | refine ⟨hB, fun _ => ?_⟩
    | refine ⟨hA, fun _ => ?_⟩
    | refine ⟨g3, fun _ => ?_⟩
    | refine ⟨hbt, fun _ => ?_⟩
    | refine ⟨fun _ => hv0, fun _ => ?_⟩
    | refine ⟨fun _ => hx0, fun _ => ?_⟩
    | refine ⟨fun (h1 : (r01_Ones (x_Taken t p sh xs x0) == 1) = true) => ?_, fun h1 => ?_⟩
    | exact fin1 h1
    | exact fin2 h1
    | refine And.intro ?_ ?_
theorem SlabBack_ok : EOk 4 e_SlabBack :=
  ent_wp Dg T_l16_count_ok (I := [1426000, 24210900, 28306900, 2999998]) Tryz.func4 mix (B := bodyOf Tryz.f4) (by kernel_rfl) rfl (by kernel_rfl) 400
    fun p0 t p sh xs x0 x1 hb hp => have hl0 : xs.length ≤ 9223372036854775807 := hb.2.1; have hp0 : bdAll xs := hp _ (.head _); have hp1 : x0 ≤ 9223372036854775807 := hp _ (.tail _ (.head _)); have hp2 : x1 ≤ 9223372036854775807 := hp _ (.tail _ (.tail _ (.head _))); ⟨[SlabBack_h0 p0 t p sh xs x0 x1, SlabBack_h1 p0 t p sh xs x0 x1, SlabBack_h2 p0 t p sh xs x0 x1], fun j => List.getD [appC (Hd.kd (SlabBack_h0 p0 t p sh xs x0 x1)) (fun sv' => SlabBack_I0 t p sh xs x0 x1 sv' (SlabBack t p sh xs x0 x1)), appC (Hd.kd (SlabBack_h1 p0 t p sh xs x0 x1)) (fun sv' nw' wa' wz' w0' w1' w2' w3' w4' w5' w6' w7' nv_' va' vz' v0' v1' v2' v3' v4' v5' v6' v7' ok' => SlabBack_I1 t p sh xs x0 x1 sv' nw' wa' wz' w0' w1' w2' w3' w4' w5' w6' w7' nv_' va' vz' v0' v1' v2' v3' v4' v5' v6' v7' ok' (SlabBack t p sh xs x0 x1)), appC (Hd.kd (SlabBack_h2 p0 t p sh xs x0 x1)) (fun sv' => SlabBack_I2 t p sh xs x0 x1 sv' (SlabBack t p sh xs x0 x1))] j (fun _ => False), fun j => List.getD [appC (Hd.kd (SlabBack_h0 p0 t p sh xs x0 x1)) (fun sv' => (9, 0, 0)), appC (Hd.kd (SlabBack_h1 p0 t p sh xs x0 x1)) (fun sv' nw' wa' wz' w0' w1' w2' w3' w4' w5' w6' w7' nv_' va' vz' v0' v1' v2' v3' v4' v5' v6' v7' ok' => (8, 0, 0)), appC (Hd.kd (SlabBack_h2 p0 t p sh xs x0 x1)) (fun sv' => (7, 0, 0))] j (fun _ => (0, 0, 0)), by kernel_rfl, ⟨SlabBack_w t p sh xs x0 x1 (fun sv' => SlabBack_I0 t p sh xs x0 x1 sv' (SlabBack t p sh xs x0 x1)) (fun sv' nw' wa' wz' w0' w1' w2' w3' w4' w5' w6' w7' nv_' va' vz' v0' v1' v2' v3' v4' v5' v6' v7' ok' => SlabBack_I1 t p sh xs x0 x1 sv' nw' wa' wz' w0' w1' w2' w3' w4' w5' w6' w7' nv_' va' vz' v0' v1' v2' v3' v4' v5' v6' v7' ok' (SlabBack t p sh xs x0 x1)) (fun sv' => SlabBack_I2 t p sh xs x0 x1 sv' (SlabBack t p sh xs x0 x1)) (fun r__ => r__ = (SlabBack t p sh xs x0 x1)), fun _ _ _ => by kernel_rfl, SlabBack_begin t p sh xs x0 x1 hp0 hp1 hp2 hl0 ⟩, ⟨fun sv hI => ⟨SlabBack_w0 t p sh xs x0 x1 sv (fun sv' => SlabBack_I0 t p sh xs x0 x1 sv' (SlabBack t p sh xs x0 x1) ∧ lx (9, 0, 0) (9, 0, 0)) (fun sv' nw' wa' wz' w0' w1' w2' w3' w4' w5' w6' w7' nv_' va' vz' v0' v1' v2' v3' v4' v5' v6' v7' ok' => SlabBack_I1 t p sh xs x0 x1 sv' nw' wa' wz' w0' w1' w2' w3' w4' w5' w6' w7' nv_' va' vz' v0' v1' v2' v3' v4' v5' v6' v7' ok' (SlabBack t p sh xs x0 x1) ∧ lx (8, 0, 0) (9, 0, 0)) (fun sv' => SlabBack_I2 t p sh xs x0 x1 sv' (SlabBack t p sh xs x0 x1) ∧ lx (7, 0, 0) (9, 0, 0)) (fun r__ => r__ = (SlabBack t p sh xs x0 x1)), fun _ _ _ => by kernel_rfl, SlabBack_step0 t p sh xs x0 x1 hp0 hp1 hp2 hl0 sv hI⟩, ⟨fun sv nw wa wz w0 w1 w2 w3 w4 w5 w6 w7 nv_ va vz v0 v1 v2 v3 v4 v5 v6 v7 ok hI => ⟨SlabBack_w1 t p sh xs x0 x1 sv nw wa wz w0 w1 w2 w3 w4 w5 w6 w7 nv_ va vz v0 v1 v2 v3 v4 v5 v6 v7 ok (fun sv' => SlabBack_I0 t p sh xs x0 x1 sv' (SlabBack t p sh xs x0 x1) ∧ lx (9, 0, 0) (8, 0, 0)) (fun sv' nw' wa' wz' w0' w1' w2' w3' w4' w5' w6' w7' nv_' va' vz' v0' v1' v2' v3' v4' v5' v6' v7' ok' => SlabBack_I1 t p sh xs x0 x1 sv' nw' wa' wz' w0' w1' w2' w3' w4' w5' w6' w7' nv_' va' vz' v0' v1' v2' v3' v4' v5' v6' v7' ok' (SlabBack t p sh xs x0 x1) ∧ lx (8, 0, 0) (8, 0, 0)) (fun sv' => SlabBack_I2 t p sh xs x0 x1 sv' (SlabBack t p sh xs x0 x1) ∧ lx (7, 0, 0) (8, 0, 0)) (fun r__ => r__ = (SlabBack t p sh xs x0 x1)), fun _ _ _ => by kernel_rfl, SlabBack_step1 t p sh xs x0 x1 hp0 hp1 hp2 hl0 sv nw wa wz w0 w1 w2 w3 w4 w5 w6 w7 nv_ va vz v0 v1 v2 v3 v4 v5 v6 v7 ok hI⟩, ⟨fun sv hI => ⟨SlabBack_w2 t p sh xs x0 x1 sv (fun sv' => SlabBack_I0 t p sh xs x0 x1 sv' (SlabBack t p sh xs x0 x1) ∧ lx (9, 0, 0) (7, 0, 0)) (fun sv' nw' wa' wz' w0' w1' w2' w3' w4' w5' w6' w7' nv_' va' vz' v0' v1' v2' v3' v4' v5' v6' v7' ok' => SlabBack_I1 t p sh xs x0 x1 sv' nw' wa' wz' w0' w1' w2' w3' w4' w5' w6' w7' nv_' va' vz' v0' v1' v2' v3' v4' v5' v6' v7' ok' (SlabBack t p sh xs x0 x1) ∧ lx (8, 0, 0) (7, 0, 0)) (fun sv' => SlabBack_I2 t p sh xs x0 x1 sv' (SlabBack t p sh xs x0 x1) ∧ lx (7, 0, 0) (7, 0, 0)) (fun r__ => r__ = (SlabBack t p sh xs x0 x1)), fun _ _ _ => by kernel_rfl, SlabBack_step2 t p sh xs x0 x1 hp0 hp1 hp2 hl0 sv hI⟩, trivial⟩⟩⟩⟩
theorem SlabBack_plain (t : Int) (p : Int) (sh : Int) (xs : List Int) (x0 : Int) (x1 : Int) (a_0 : Option Addr) (c_0 : Nat) {E_ : World} {G_ : Hp} {w_ : World} (hr0 : RowAt G_ a_0 xs.length [.ints .u32 xs] ∧ xs.length ≤ c_0) (hp0 : bdAll xs) (hp1 : x0 ≤ 9223372036854775807) (hp2 : x1 ≤ 9223372036854775807) (hS : Sat E_ G_ w_ []) : Calls Tryz.prog 4 #[(.agg #[.int .i64 t, .int .i64 p, .int .i64 sh]), (.slice a_0 xs.length c_0), (.agg #[.int .i64 x0, .int .i64 x1])] w_ (fun en w' => en = .returned (.bool (SlabBack t p sh xs x0 x1)) ∧ Sat E_ G_ w' []) := by
  refine law_of Dg (c := c_SlabBack) (F := SlabBack) (pre := fun t p sh xs x0 x1 => [bdAll xs, x0 ≤ 9223372036854775807, x1 ≤ 9223372036854775807]) SlabBack_ok [((.agg #[.int .i64 t, .int .i64 p, .int .i64 sh]), (.none)), ((.slice a_0 xs.length c_0), (.row xs.length [.ints .u32 xs])), ((.agg #[.int .i64 x0, .int .i64 x1]), (.none))] [.i t, .i p, .i sh, .li xs, .i x0, .i x1] (by kernel_rfl) _ (by kernel_rfl) (by kernel_rfl) (by kernel_rfl) ?_ ?_ hS
  · intro p hp
    have hp : p ∈ [(bdAll xs : Prop), (x0 ≤ 9223372036854775807 : Prop), (x1 ≤ 9223372036854775807 : Prop)] := hp
    simp only [List.mem_cons, List.not_mem_nil, or_false] at hp
    rcases hp with rfl | rfl | rfl
    · exact hp0
    · exact hp1
    · exact hp2
  · intro x hx
    simp only [List.mem_cons, List.not_mem_nil, or_false] at hx
    rcases hx with rfl | rfl | rfl
    · first | (simp only [iOk, isOk, and_true, true_and]; done) | (simp only [iOk, isOk, and_true, true_and]; exact ⟨_, _, rfl, trivial⟩) | simp [iOk, isOk]
    · first | (simp only [iOk, isOk, and_true, true_and]; done) | (simp only [iOk, isOk, and_true, true_and]; exact ⟨_, _, rfl, hr0⟩) | simp [iOk, isOk]
    · first | (simp only [iOk, isOk, and_true, true_and]; done) | (simp only [iOk, isOk, and_true, true_and]; exact ⟨_, _, rfl, trivial⟩) | simp [iOk, isOk]
end Go.Proofs.YtcbeifgnccbfbaaGreat
namespace Go.Sl
open Go.RowKit Go.ChangeShapes Go.WideShapes Go.ChangeAt
theorem Sat.start (W : World) : Sat W (fun b => W.heap[b]?) W [] :=
  ⟨⟨rfl, rfl, rfl, Nat.le_refl _⟩, fun _ _ h => h, fun _ => none, ⟨fun _ _ h => (by cases h), fun i A h => (by simp at h)⟩⟩
theorem Sat.below {W W' : World} {As : List Asn} (h : Sat W (fun b => W.heap[b]?) W' As) : Below W.heap.size W W' :=
  ⟨h.1.os, h.1.tape, h.1.output, h.1.size, fun k hk => by
    have h1 : (fun b => W.heap[b]?) k = some W.heap[k] := by simp [hk]
    rw [h.2.1 k _ h1]; simp [hk]⟩
section
variable {H : Type} {enc : TypeId × Value → H} {P : Program}
theorem trodAll_stays (hl : laidOutB P = true) {W W' : World} (hb : Below W.heap.size W W') {sp : Nat → Bool} : ∀ (ts : List TypeId) (vs : List Value) (ds : List (DataW H)) (ps : List MemPlace), (∀ t ∈ ts, P.readableRec t = true ∧ t < P.types.size) →
    DataW.TrodAll enc P W 0 (fun _ => true) true ts vs ds ps → (∀ x ∈ ps, x.block < W.heap.size) → (∀ x ∈ ps, sp x.block = true) → DataW.TrodAll enc P W' 0 sp true ts vs ds ps
  | [], vs, ds, ps, _, h, _, _ => by
    obtain ⟨rfl, rfl, rfl⟩ := trodAll_nil h
    exact trodAll_mk0
  | t :: ts, vs, ds, ps, hr, h, hlt, hsp => by
    obtain ⟨v, vs', d, ds', p, q, rfl, rfl, rfl, hd, hrest⟩ := trodAll_cons h
    obtain ⟨hr1, hr2⟩ := hr t (by simp)
    exact ⟨p, q, WideElems.Trod_stays hl hr1 hr2 hd (fun x hx => hb.same (hlt x (by simp [hx]))) (fun x hx => hsp x (by simp [hx])),
      trodAll_stays hl hb ts vs' ds' q (fun t ht => hr t (by simp [ht])) hrest (fun x hx => hlt x (by simp [hx])) (fun x hx => hsp x (by simp [hx])), rfl⟩
theorem law_post {f : Func} {s : ChangeSpec} {apart fresh handsOn : Bool} {W W' : World} {args : Array Value} {ds gs : List (DataW H)} {before : List MemPlace} (tb : TypeId) (hl : laidOutB P = true)
    (hW : DataW.Whole enc P f.params.toList s.vars apart W args.toList ds gs before) (hv : s.vars = []) (hres : f.resultTypes = #[tb]) (hb : P.underlying tb = some .bool)
    (hp : f.params.toList.all (fun t => P.readableRec t && Nat.blt t P.types.size) = true) (hfn : (s.fn H ds).results = [.lit (.bool true)] ∧ (s.fn H ds).args = ds ∧ (s.fn H ds).vars = [])
    (hbel : Below W.heap.size W W') : s.post enc P f apart fresh handsOn false W args (.bool true) W' := by
  have hW2 := hW
  have hlt : ∀ x ∈ before, x.block < W.heap.size := fun x hx => hW.lt x hx
  obtain ⟨p, q, hA, hV, hpq, _, _⟩ := hW
  rw [hv] at hV
  obtain ⟨hgs, hq⟩ := trodVars_none hV
  subst hgs; subst hq
  have hpp : before = p := by rw [hpq]; simp
  subst hpp
  have hr : ∀ t ∈ f.params.toList, P.readableRec t = true ∧ t < P.types.size := fun t ht => by
    rw [List.all_eq_true] at hp
    have := hp t ht
    simp only [Bool.and_eq_true] at this
    exact ⟨this.1, Nat.lt_of_lt_of_le (Nat.lt_succ_self t) (Nat.le_of_ble_eq_true this.2)⟩
  refine ⟨ds, [], before, [], before, [], by rw [hv] at hW2 ⊢; exact hW2, ?_, ?_, ?_, World.keptBut_mono (fun x hx => ⟨hx, .inr (.inl hx)⟩) (hbel.frame (· ∈ before)), fun h => by cases h⟩
  · rw [List.append_nil, hfn.1, hres]
    exact trodAll_mk1 (shut_bool hb true)
  · rw [List.append_nil, hfn.2.1]
    exact trodAll_stays hl hbel _ _ _ _ hr hA hlt (fun x hx => by simpa using hlt x hx)
  · rw [List.append_nil, hfn.2.2, hv]
    rfl
end
theorem bd_i64 {x : Int} (h : (Lit.int .i64 x).wf = true) : -9223372036854775808 ≤ x ∧ x < 9223372036854775808 := by
  simp [Lit.wf, IntKind.min, IntKind.max, IntKind.signed, IntKind.bits] at h; omega
theorem bd_u32 {x : Int} (h : (Lit.int .u32 x).wf = true) : 0 ≤ x ∧ x < 4294967296 := by
  simp [Lit.wf, IntKind.min, IntKind.max, IntKind.signed, IntKind.bits] at h; omega
end Go.Sl
namespace Go.Sl
open Go.RowKit Go.ChangeShapes Go.WideShapes Go.ChangeAt
inductive Shp where
  | int (k : IntKind)
  | bool
def vIs : Shp → Value → Prop
  | .int k, v => ∃ x, v = .int k x ∧ (Lit.int k x).wf = true
  | .bool, v => ∃ b, v = .bool b
def cellsIs : List Shp → List Value → Prop
  | [], vs => vs = []
  | s :: r, vs => ∃ v vs', vs = v :: vs' ∧ vIs s v ∧ cellsIs r vs'
def colIs (n : Nat) : Shp → Col → Prop
  | .int k, c => ∃ xs, c = .ints k xs ∧ xs.length = n ∧ ∀ x ∈ xs, (Lit.int k x).wf = true
  | .bool, c => ∃ xs, c = .bools xs ∧ xs.length = n
def colsIs (n : Nat) : List Shp → List Col → Prop
  | [], cs => cs = []
  | s :: r, cs => ∃ c cs', cs = c :: cs' ∧ colIs n s c ∧ colsIs n r cs'
theorem cellsIs_append : ∀ {a b : List Shp} {u v : List Value}, cellsIs a u → cellsIs b v → cellsIs (a ++ b) (u ++ v)
  | [], b, u, v, h, h' => by rw [h]; exact h'
  | s :: r, b, u, v, ⟨x, u', e, hx, h⟩, h' => ⟨x, u' ++ v, by rw [e]; rfl, hx, cellsIs_append h h'⟩
theorem cellsIs_get : ∀ {sh : List Shp} {vs : List Value}, cellsIs sh vs → ∀ (j : Nat) s, sh[j]? = some s → ∃ v, vs[j]? = some v ∧ vIs s v
  | [], _, _, j, s, hs => by simp at hs
  | s0 :: r, _, ⟨x, u', e, hx, h⟩, j, s, hs => by
    subst e
    cases j with
    | zero => simp at hs; subst hs; exact ⟨x, rfl, hx⟩
    | succ j => exact cellsIs_get h j s (by simpa using hs)
section
variable (P : Program)
def shpFs (f : TypeId → Option (List Shp)) : Nat → List Field → Option (List Shp)
  | _, [] => some []
  | o, fd :: fs => bif Nat.beq fd.offset o then match f fd.type, shpFs f (o + P.cellsOf fd.type) fs with
      | some a, some b => bif Nat.beq a.length (P.cellsOf fd.type) then some (a ++ b) else none
      | _, _ => none
    else none
def reps (s : List Shp) : Nat → List Shp
  | 0 => []
  | n + 1 => s ++ reps s n
def shpT : Nat → TypeId → Option (List Shp)
  | 0, _ => none
  | d + 1, t => match P.underlying t with
    | some (.int k) => some [.int k]
    | some .bool => some [.bool]
    | some (.struct fs) => match shpFs P (shpT d) 0 fs.toList with
      | some s => bif Nat.beq s.length (P.cellsOf t) then some s else none
      | none => none
    | some (.array n e) => match shpT d e with
      | some s => bif Nat.beq s.length (P.cellsOf e) && Nat.beq (n * P.cellsOf e) (P.cellsOf t) then some (reps s n) else none
      | none => none
    | _ => none
end
section
variable {H : Type} {enc : TypeId × Value → H} {P : Program} {w : World} {base : Nat} {sp : Nat → Bool} {held : Bool}
theorem shpFs_ok {f : TypeId → Option (List Shp)} {n : Nat} (hf : ∀ t sh cs x, f t = some sh → DataW.trod enc P w base sp held n t cs = some x → cellsIs sh cs) {cs : List Value} :
    ∀ (fs : List Field) (o : Nat) (s : List Shp), shpFs P f o fs = some s → (∀ fd ∈ fs, ∃ y, DataW.trod enc P w base sp held n fd.type ((cs.drop fd.offset).take (P.cellsOf fd.type)) = some y) → cellsIs s ((cs.drop o).take s.length)
  | [], o, s, h, _ => by simp only [shpFs, Option.some.injEq] at h; subst h; simp [cellsIs]
  | fd :: fs, o, s, h, hall => by
    simp only [shpFs] at h
    cases ho : Nat.beq fd.offset o with
    | false => rw [ho] at h; cases h
    | true =>
      rw [ho] at h
      have ho := Nat.eq_of_beq_eq_true ho
      simp only [cond_true] at h
      split at h
      · rename_i a b ha hb
        cases hl : Nat.beq a.length (P.cellsOf fd.type) with
        | false => rw [hl] at h; cases h
        | true =>
          rw [hl] at h
          have hl := Nat.eq_of_beq_eq_true hl
          simp only [cond_true, Option.some.injEq] at h
          subst h
          obtain ⟨y, hy⟩ := hall fd (by simp)
          have h1 := hf _ _ _ _ ha hy
          have h2 := shpFs_ok hf fs _ _ hb fun fd' hfd => hall fd' (by simp [hfd])
          have e : (cs.drop o).take (a ++ b).length = (cs.drop fd.offset).take (P.cellsOf fd.type) ++ (cs.drop (o + P.cellsOf fd.type)).take b.length := by
            rw [List.length_append, List.take_add, List.drop_drop, ho, hl]
          rw [e]
          exact cellsIs_append h1 h2
      · cases h
theorem shpT_ok : ∀ (d : Nat) (t : TypeId) (sh : List Shp) (n : Nat) (cs : List Value) (x : DataW H × List MemPlace), shpT P d t = some sh → DataW.trod enc P w base sp held n t cs = some x → cellsIs sh cs
  | 0, t, sh, n, cs, x, h, _ => by simp [shpT] at h
  | d + 1, t, sh, n, cs, x, h, hx => by
    simp only [shpT] at h
    split at h
    · rename_i k hk
      injection h with h; subst h
      obtain ⟨m, rfl, _, hw⟩ := DataW.trod_int hk hx
      exact ⟨_, _, rfl, ⟨m, rfl, hw⟩, rfl⟩
    · rename_i hk
      injection h with h; subst h
      obtain ⟨b, rfl, _⟩ := DataW.trod_bool hk hx
      exact ⟨_, _, rfl, ⟨b, rfl⟩, rfl⟩
    · rename_i fs hk
      split at h
      · rename_i s hs
        cases hl : Nat.beq s.length (P.cellsOf t) with
        | false => rw [hl] at h; cases h
        | true =>
          rw [hl] at h
          have hl := Nat.eq_of_beq_eq_true hl
          simp only [cond_true, Option.some.injEq] at h
          subst h
          obtain ⟨xs, m, _, _, hlen, hxl, hf⟩ := DataW.trod_struct hk hx
          have := shpFs_ok (n := m) (cs := cs) (fun t' sh' cs' x' h1 h2 => shpT_ok d t' sh' m cs' x' h1 h2) fs.toList 0 s hs fun fd hfd => by
            obtain ⟨i, hi⟩ := List.getElem?_of_mem hfd
            have hi' : fs[i]? = some fd := by simpa using hi
            have h1 := hf i fd hi'
            have hlt : i < xs.length := by
              rw [hxl]
              rcases Nat.lt_or_ge i fs.size with h' | h'
              · exact h'
              · rw [Array.getElem?_eq_none h'] at hi'; cases hi'
            rw [List.getElem?_eq_getElem hlt] at h1
            exact ⟨_, h1⟩
          rw [List.drop_zero, hl, ← hlen, List.take_length] at this
          exact this
      · cases h
    · rename_i m e hk
      split at h
      · rename_i s hs
        cases hl : (Nat.beq s.length (P.cellsOf e) && Nat.beq (m * P.cellsOf e) (P.cellsOf t)) with
        | false => rw [hl] at h; cases h
        | true =>
          rw [hl] at h
          simp only [Bool.and_eq_true] at hl
          have hl1 := Nat.eq_of_beq_eq_true hl.1
          have hl2 := Nat.eq_of_beq_eq_true hl.2
          simp only [cond_true, Option.some.injEq] at h
          subst h
          obtain ⟨xs, q, _, _, hlen, hxl, hf⟩ := DataW.trod_array hk hx
          have key : ∀ (j i : Nat), i + j = m → cellsIs (reps s j) ((cs.drop (i * P.cellsOf e)).take (j * P.cellsOf e)) := by
            intro j
            induction j with
            | zero => intro i _; simp [reps, cellsIs]
            | succ j ih =>
              intro i hij
              have h1 := hf i (by omega)
              rw [List.getElem?_eq_getElem (by omega)] at h1
              have h2 := shpT_ok d e s q _ _ hs h1
              have h3 := ih (i + 1) (by omega)
              have e1 : (cs.drop (i * P.cellsOf e)).take ((j + 1) * P.cellsOf e) = (cs.drop (i * P.cellsOf e)).take (P.cellsOf e) ++ (cs.drop ((i + 1) * P.cellsOf e)).take (j * P.cellsOf e) := by
                rw [show (j + 1) * P.cellsOf e = P.cellsOf e + j * P.cellsOf e by rw [Nat.succ_mul]; omega, List.take_add, List.drop_drop, show i * P.cellsOf e + P.cellsOf e = (i + 1) * P.cellsOf e by rw [Nat.succ_mul]]
              rw [e1]
              exact cellsIs_append h2 h3
          have := key m 0 (by omega)
          rw [Nat.zero_mul, List.drop_zero, hl2, ← hlen, List.take_length] at this
          exact this
      · cases h
    · cases h
theorem open_flat {r : Reach} {b0 : Nat} {t : TypeId} {v : Value} {dt : DataW H} {ps : List MemPlace} (d : Nat) (hs : (P.underlying t).any (fun | .struct _ => true | .array _ _ => true | _ => false) = true) {sh : List Shp} (hsh : shpT P d t = some sh)
    (hv : Value.okWide P w r b0 t v) (h : DataW.Trod enc P w base sp held t v dt ps) : ∃ vs : List Value, v = .agg vs.toArray ∧ cellsIs sh vs := by
  obtain ⟨fuel, hf⟩ := h
  have hc := shpT_ok d t sh fuel _ _ hsh hf
  unfold Value.okWide at hv
  cases hu : P.underlying t with
  | none => rw [hu] at hs; simp at hs
  | some ty =>
    rw [hu] at hs hv
    cases ty <;> simp at hs <;> (obtain ⟨cs, rfl, _, _⟩ := hv; exact ⟨cs.toList, by simp, hc⟩)
def colOf : Shp → (Nat → Value) → Nat → Col
  | .int k, V, n => .ints k ((List.range n).map fun i => match V i with | .int _ x => x | _ => 0)
  | .bool, V, n => .bools ((List.range n).map fun i => match V i with | .bool b => b | _ => false)
theorem colOf_ok {s : Shp} {V : Nat → Value} {n : Nat} (h : ∀ i, i < n → vIs s (V i)) : colIs n s (colOf s V n) ∧ (colOf s V n).len = n ∧ ∀ i, i < n → (colOf s V n).at i = V i := by
  cases s with
  | int k =>
    refine ⟨⟨_, rfl, by simp, fun x hx => ?_⟩, by simp [colOf, Col.len], fun i hi => ?_⟩
    · obtain ⟨i, hi, rfl⟩ := List.mem_map.1 hx
      obtain ⟨y, hy, hw⟩ := h i (List.mem_range.1 hi)
      rw [hy]; exact hw
    · obtain ⟨y, hy, hw⟩ := h i hi
      simp [colOf, Col.at, hi, hy]
  | bool =>
    refine ⟨⟨_, rfl, by simp⟩, by simp [colOf, Col.len], fun i hi => ?_⟩
    obtain ⟨y, hy⟩ := h i hi
    simp [colOf, Col.at, hi, hy]
def colsSh : List Shp → Nat → (Nat → List Value) → Nat → List Col
  | [], _, _, _ => []
  | s :: r, j, cs, n => colOf s (fun i => (cs i).getD j undef) n :: colsSh r (j + 1) cs n
theorem colsSh_len : ∀ (sh : List Shp) (j : Nat) (cs : Nat → List Value) (n : Nat), (colsSh sh j cs n).length = sh.length
  | [], _, _, _ => rfl
  | _ :: r, j, cs, n => by simp only [colsSh, List.length_cons, colsSh_len r]
theorem colsSh_ok {cs : Nat → List Value} {n : Nat} : ∀ (sh : List Shp) (j : Nat), (∀ i, i < n → ∀ (m : Nat) s, sh[m]? = some s → vIs s ((cs i).getD (j + m) undef)) →
    colsIs n sh (colsSh sh j cs n) ∧ ∀ (m : Nat) c, (colsSh sh j cs n)[m]? = some c → c.len = n ∧ ∀ i, i < n → c.at i = (cs i).getD (j + m) undef
  | [], j, _ => ⟨rfl, fun m c h => by simp [colsSh] at h⟩
  | s :: r, j, h => by
    have h0 := colOf_ok (s := s) (V := fun i => (cs i).getD j undef) (n := n) fun i hi => h i hi 0 s rfl
    obtain ⟨h1, h2⟩ := colsSh_ok (cs := cs) (n := n) r (j + 1) fun i hi m s' hm => by
      have := h i hi (m + 1) s' (by simpa using hm)
      rwa [show j + (m + 1) = j + 1 + m by omega] at this
    refine ⟨⟨_, _, rfl, h0.1, h1⟩, fun m c hm => ?_⟩
    cases m with
    | zero => simp only [colsSh, List.getElem?_cons_zero, Option.some.injEq] at hm; subst hm; exact ⟨h0.2.1, h0.2.2⟩
    | succ m =>
      have := h2 m c (by simpa [colsSh] using hm)
      rwa [show j + 1 + m = j + (m + 1) by omega] at this
theorem cellOf_world (W : World) (a : Addr) : cellOf (fun b => W.heap[b]?) a = W.cell? a := rfl
theorem open_rows {r : Reach} {b0 : Nat} {t e : TypeId} {v : Value} {dt : DataW H} {ps : List MemPlace} (d : Nat) (ht : P.underlying t = some (.slice e)) {sh : List Shp} (hsh : shpT P d e = some sh) (hce : P.cellsOf e = sh.length)
    (hv : Value.okWide P w r b0 t v) (h : DataW.Trod enc P w base sp held t v dt ps) :
    ∃ (a : Option Addr) (len cap : Nat) (cols : List Col), v = .slice a len cap ∧ colsIs len sh cols ∧ (RowAt (fun b => w.heap[b]?) a len cols ∧ len ≤ cap) := by
  obtain ⟨a0, len0, cap0, rfl⟩ := okWide_slice ht hv
  obtain ⟨fuel, hf⟩ := h
  rcases Go.Deep.open_slice ht hf with ⟨hcs, _⟩ | ⟨a, len, cap, m, n, Dt, Pl, hcs, hb, hl, hm, hmm, _, hx⟩
  · simp only [Value.cells, List.cons.injEq, and_true] at hcs
    injection hcs with e1 e2 e3
    subst e1; subst e2; subst e3
    obtain ⟨h1, h2⟩ := colsSh_ok (cs := fun _ => []) (n := 0) sh 0 fun i hi => absurd hi (Nat.not_lt_zero _)
    refine ⟨none, 0, 0, _, rfl, h1, ⟨fun c hc => ?_, fun i hi => absurd hi (Nat.not_lt_zero _), Nat.zero_le _⟩, Nat.le_refl _⟩
    obtain ⟨k, hk⟩ := List.getElem?_of_mem hc
    exact (h2 k c hk).1
  · simp only [Value.cells, List.cons.injEq, and_true] at hcs
    injection hcs with e1 e2 e3
    subst e1; subst e2; subst e3
    have hml : len0 ≤ m := by rw [hmm]; split <;> omega
    obtain ⟨cs, hcs⟩ := Go.Deep.choose_lt (α := List Value) (p := fun i cs' => w.cells? base (a.add (i * P.cellsOf e)) (P.cellsOf e) = some cs' ∧ DataW.trod enc P w base sp held n e cs' = some (Dt i, Pl i)) (n := len0) fun i hi => hx i (by omega)
    have hcells : ∀ i, i < len0 → cellsIs sh (cs i) := fun i hi => shpT_ok d e sh n _ _ hsh (hcs i hi).2
    obtain ⟨h1, h2⟩ := colsSh_ok (cs := cs) (n := len0) sh 0 fun i hi k s hk => by
      obtain ⟨x, hx1, hx2⟩ := cellsIs_get (hcells i hi) k s hk
      rw [Nat.zero_add, List.getD_eq_getElem?_getD, hx1]
      exact hx2
    refine ⟨some a, len0, cap0, _, rfl, h1, ⟨fun c hc => ?_, fun i hi => ⟨a, rfl, fun j c hj => ?_⟩, by omega⟩, by omega⟩
    · obtain ⟨k, hk⟩ := List.getElem?_of_mem hc
      exact (h2 k c hk).1
    · obtain ⟨_, hlen, hget⟩ := World.cells?_some (hcs i hi).1
      have hj' : j < sh.length := by
        have := lt_of_get hj
        rwa [colsSh_len] at this
      rw [cellOf_world, colsSh_len, ← hce, ← Go.Deep.add_add, hget j (by omega), (h2 j c hj).2 i hi, Nat.zero_add, List.getD_eq_getElem?_getD]
      rw [List.getElem?_eq_getElem (by omega)]
      rfl
end
end Go.Sl
namespace Go.Proofs.YtcbeifgnccbfbaaGreat
open Go.ChangeShapes Go.WideShapes Go.ChangeAt Go.RowKit Go.Joins Go.Sl
theorem SlabBack_own : ownKnob Tryz.prog.godebug = none := by kernel_rfl
theorem SlabBack_laidOut : laidOutB Tryz.prog = true := by kernel_rfl
set_option maxRecDepth 100000 in
theorem SlabBack_lifted (os : Os) (started : os.Started) (H : Type) (enc : TypeId × Value → H) :
    ReturnsInHanded {} Tryz.checked os 4 .any (Rows.slabBackSpec.pre6 enc Tryz.prog Tryz.f4 Rows.slabBackRow.domain false) (Rows.slabBackSpec.post enc Tryz.prog Tryz.f4 false true false false) := by
  refine returnsInHanded_of_change (C := Tryz.checked) SlabBack_own started (by kernel_rfl) Tryz.func4
    (ChangeSpec.witness6 (enc := enc) (C := Tryz.checked) false ⟨#[], #[.agg #[.int .i64 0, .int .i64 0, .int .i64 0], .slice none 0 0, .agg #[.int .i64 0, .int .i64 0]], []⟩ 8 (by kernel_rfl) (by kernel_rfl) (by kernel_rfl) (by kernel_rfl)) ?_
  intro W base args ds gs before hval0 hW _ _
  have hval : ∀ (j : Nat) t v, Tryz.f4.params[j]? = some t → args[j]? = some v → Value.okWide Tryz.prog W .any base t v := hval0
  have hW' := hW
  obtain ⟨p, q, hA0, _, _, _, _⟩ := hW
  have hA : DataW.TrodAll enc Tryz.prog W 0 (fun _ => true) true Tryz.f4.params.toList args.toList ds p := hA0
  rw [Tryz.params4] at hA hval
  obtain ⟨v0, v1, v2, d0, d1, d2, p0, p1, p2, rfl, rfl, _, h0, h1, h2⟩ := trodAll_three hA
  obtain ⟨k0, rfl, hk0⟩ := open_flat 8 (by kernel_rfl) (sh := [.int .i64, .int .i64, .int .i64]) (by kernel_rfl) (hval 0 23 v0 rfl rfl) h0
  obtain ⟨_, r0_0, rfl, ⟨a0_0, rfl, wa0_0⟩, hk0⟩ := hk0
  have ba0_0 := bd_i64 wa0_0
  obtain ⟨_, r0_1, rfl, ⟨a0_1, rfl, wa0_1⟩, hk0⟩ := hk0
  have ba0_1 := bd_i64 wa0_1
  obtain ⟨_, r0_2, rfl, ⟨a0_2, rfl, wa0_2⟩, hk0⟩ := hk0
  have ba0_2 := bd_i64 wa0_2
  obtain rfl := hk0
  obtain ⟨s1, n1, c1, k1, rfl, hk1, hr1⟩ := open_rows 8 Tryz.underlying24 (sh := [.int .u32]) (by kernel_rfl) (by kernel_rfl) (hval 1 24 v1 rfl rfl) h1
  obtain ⟨_, r1_0, rfl, ⟨x1_0, rfl, hl1_0, hw1_0⟩, hk1⟩ := hk1
  obtain rfl := hk1
  subst hl1_0
  obtain ⟨k2, rfl, hk2⟩ := open_flat 8 (by kernel_rfl) (sh := [.int .i64, .int .i64]) (by kernel_rfl) (hval 2 25 v2 rfl rfl) h2
  obtain ⟨_, r2_0, rfl, ⟨a2_0, rfl, wa2_0⟩, hk2⟩ := hk2
  have ba2_0 := bd_i64 wa2_0
  obtain ⟨_, r2_1, rfl, ⟨a2_1, rfl, wa2_1⟩, hk2⟩ := hk2
  have ba2_1 := bd_i64 wa2_1
  obtain rfl := hk2
  clear hA0 hval0
  refine (SlabBack_plain a0_0 a0_1 a0_2 x1_0 a2_0 a2_1 s1 c1 hr1 (fun v hv => bd_u32 (hw1_0 v hv)) (Int.lt_add_one_iff.1 ba2_0.2) (Int.lt_add_one_iff.1 ba2_1.2) (Sat.start W)).mono fun e W' ⟨he, hS⟩ => ?_
  rw [show SlabBack a0_0 a0_1 a0_2 x1_0 a2_0 a2_1 = true from rfl] at he
  subst he
  exact ⟨_, rfl, law_post 4 SlabBack_laidOut hW' rfl rfl Tryz.underlying4 (by kernel_rfl) ⟨rfl, rfl, rfl⟩ hS.below⟩
theorem SlabBack_holds : Rows.SlabBackSaid :=
  OpenClaim.holds_of_wide 4 Tryz.f4 rfl rfl rfl rfl rfl rfl rfl ⟨rfl, rfl, rfl, rfl, rfl⟩ rfl rfl rfl rfl rfl (by kernel_rfl) Tryz.func4 (by kernel_rfl)
    (of_decide_eq_true (by kernel_rfl)) (by unfold Func.isWrapper; rw [if_neg (of_decide_eq_false (by kernel_rfl))]; exact ⟨rfl, rfl⟩)
    (fun os started H enc _ => SlabBack_lifted os started H enc)
#print axioms SlabBack_holds
end Go.Proofs.YtcbeifgnccbfbaaGreat
