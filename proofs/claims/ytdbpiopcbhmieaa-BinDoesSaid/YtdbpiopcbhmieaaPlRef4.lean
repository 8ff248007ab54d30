/-
  DERIVED. What all cells hold then, and what was put: the entries of the program's and of the reference's views.
-/
import Derived.Test.YtdbpiopcbhmieaaSlView7
namespace Go.Proofs.Ytdbpiopcbhmieaa
open Go.Sl Go.RowKit

theorem idx_at {xs : List Int} (hn : xs.Nodup) {k : Nat} (hk : k < xs.length) : xs.idxOf? (xs.getD k 0) = some k := by
  rw [List.idxOf?_eq_some_iff]
  rw [List.getD_eq_getElem?_getD, List.getElem?_eq_getElem hk, Option.getD_some]
  refine ⟨hk, rfl, fun m hm e => ?_⟩
  have a := hn.idxOf_getElem m (by omega)
  have b := hn.idxOf_getElem k hk
  rw [e] at a; omega
theorem idx_of_some {xs : List Int} {i : Int} {j : Nat} (h : xs.idxOf? i = some j) : j < xs.length ∧ xs.getD j 0 = i := by
  rw [List.idxOf?_eq_some_iff] at h
  obtain ⟨h1, h2, _⟩ := h
  refine ⟨h1, ?_⟩
  rw [List.getD_eq_getElem?_getD, List.getElem?_eq_getElem h1, Option.getD_some]
  simpa using h2
theorem putsUpto_get {vals qc qv : List Int} (hn : qc.Nodup) (hb : ∀ j ∈ qc, 0 ≤ j ∧ j < vals.length) : ∀ (k : Nat), k ≤ qc.length → ∀ i : Nat, i < vals.length →
    (putsUpto vals qc qv k).getD i 0 = match qc.idxOf? (i : Int) with | some j => if j < k then qv.getD j 0 else vals.getD i 0 | none => vals.getD i 0
  | 0, _, i, _ => by
    simp only [putsUpto, List.range_zero, List.foldl_nil]
    split <;> simp
  | k + 1, hk, i, hi => by
    have hq := hb (qc.getD k 0) (getD_mem (by omega))
    rw [putsUpto_succ, getD_set _ _ _ _ (by rw [putsUpto_len]; omega), putsUpto_get hn hb k (by omega) i hi]
    by_cases h : i = (qc.getD k 0).toNat
    · rw [if_pos h]
      have e : (i : Int) = qc.getD k 0 := by omega
      rw [e, idx_at hn (by omega)]
      simp
    · rw [if_neg h]
      cases hx : qc.idxOf? (i : Int) with
      | none => rfl
      | some j =>
        obtain ⟨h1, h2⟩ := idx_of_some hx
        have hjk : j ≠ k := fun e => by subst e; omega
        simp only
        by_cases hlt : j < k
        · rw [if_pos hlt, if_pos (by omega)]
        · rw [if_neg hlt, if_neg (by omega)]
theorem valsW_eq {x : VX} {s : VS} (ho : VOk true x s) : putsUpto x.vals x.qc x.qv x.qc.length = s.vals := by
  have hl := ho.len rfl
  have hwi : ∀ j ∈ x.qc, 0 ≤ j ∧ j < x.vals.length := fun j hj => by have := ho.wi j hj; omega
  have hn : s.n.toNat = x.vals.length := by rw [ho.n, hl]; rfl
  unfold VS.vals
  rw [ho.all, cond_true, hn]
  refine ext_getD (by simp [putsUpto_len]) fun i hi => ?_
  rw [putsUpto_len] at hi
  rw [putsUpto_get ho.wn hwi _ (Nat.le_refl _) i hi, getD_map_range _ hi]
  unfold VS.cur
  rw [ho.put]
  cases hx : x.qc.idxOf? (i : Int) with
  | some j =>
    obtain ⟨h1, _⟩ := idx_of_some hx
    simp only [Option.map_some, h1, if_true]
    exact (nv_id (ho.bq _ (getD_mem (by rw [ho.ql]; exact h1)))).symm
  | none =>
    simp only [Option.map_none]
    rw [ho.src i (by omega) (by omega)]
    simp only [cond_true]
    rw [show (i : Int).toNat = i by omega]
    exact (nv_id (ho.bv _ (getD_mem hi))).symm
theorem rvals_eq {x : RX} {s : VS} (ho : ROk x s) : (bif x.all then (List.range x.n.toNat).map (fun j => bif x.isput.getD j false then x.to.getD j 0 else x.val.getD j 0) else []) = s.vals := by
  unfold VS.vals
  rw [ho.all, ho.n]
  cases ha : x.all with
  | false => rfl
  | true =>
    simp only [cond_true]
    apply List.map_congr_left
    intro i hi
    rw [List.mem_range] at hi
    have e : (i : Int).toNat = i := by omega
    have hp := ho.put i (by omega) (by omega)
    have hs := ho.src i (by omega) (by omega)
    have hk := ho.ka ha i (by omega) (by omega)
    have l2 := ho.lv; have l4 := ho.lt
    rw [e] at hp hs hk
    unfold VS.cur
    rw [hp, hs, hk]
    cases hq : x.isput.getD i false with
    | true => exact (nv_id (ho.bt _ (getD_mem (by omega)))).symm
    | false => exact (nv_id (ho.bv _ (getD_mem (by omega)))).symm
theorem rwrites_eq {x : RX} {s : VS} (ho : ROk x s) : (x.wrote, x.wrote.map fun j => x.to.getD j.toNat 0) = (s.wrote, s.puts) := by
  unfold VS.puts
  rw [ho.wrote]
  congr 1
  apply List.map_congr_left
  intro i hi
  obtain ⟨h0, h1, h2⟩ := ho.wi i hi
  rw [ho.put i h0 h1, h2]
  rfl
def view_Vals_e : Entry Sg := fun
  | [(.pointer (some p), .obj (.view s))] => some ⟨s.vals, fun (r_ : List Int) => ⟨[], some (.view s), [.row 32 [.ints .u32 r_]], fun ss => ss.getD 0 undef, fun k => .pt k .slice⟩⟩
  | _ => none
theorem view_Vals_ok : EntryOk Dg Try.prog 23 view_Vals_e := by
  intro args c r h hr_
  unfold view_Vals_e at h
  split at h
  · rename_i p s
    injection h with h; subst h; subst hr_
    refine ⟨(by
      intro K acs hl
      match acs, hl with
      | [a0_], hl => simp [pOk, psOk, cOk, sliceC, sliceV, sliceVal, lenC, Col.len]), fun hpre E G w hi hS => ?_⟩
    obtain ⟨b, x, rfl, ⟨ho, hK⟩ | ⟨ho, hK⟩⟩ := view_unfold (show Sat E G w [Dg p (.view s)] from hS)
    · have hl := ho.len rfl
      have hb := ho.bound
      have hb2 := ho.wl; have hb3 := ho.nb
      exact valsW_fin b x.n x.aw x.cw x.vals x.mr x.fr x.ar x.cr x.nr x.reads x.mp x.fp x.aq x.cq x.nq x.qc x.qv x.miss x.stuck ho.nq ho.ql (fun j hj => by have := ho.wi j hj; omega) (by omega) (by omega)
        (fin_w (ms := x.ms) (fs := x.fs) (b := b) (r0 := s.vals) (s' := s) (fun ⟨_, _, _, _, _, _, _, _, _, _, _, _, _, _, _, _, _, _, _⟩ _ h => ⟨by rw [h.1]; exact ho, h.2.trans (valsW_eq ho)⟩) (fun ⟨_, _, _, _, _, _, _, _, _, _, _, _, _, _, _, _, _, _, _⟩ => rfl)) hK
    · have hb := ho.bound
      have hb2 := ho.wl; have hb3 := ho.nb
      exact valsK_fin b x.n x.ms x.fs x.mr x.fr x.ar x.cr x.nr x.reads x.mp x.fp x.aq x.cq x.nq x.qc x.qv x.miss x.stuck ho.nq (fun j hj => by have := ho.wi j hj; omega) (by omega)
        (fin_k (aw := x.aw) (cw := x.cw) (vals := x.vals) (b := b) (r0 := s.vals) (s' := s) (fun ⟨_, _, _, _, _, _, _, _, _, _, _, _, _, _, _, _, _, _⟩ _ h => ⟨by rw [h.1]; exact ho, h.2.trans (by unfold VS.vals; rw [ho.all]; rfl)⟩) (fun ⟨_, _, _, _, _, _, _, _, _, _, _, _, _, _, _, _, _, _⟩ => rfl)) hK
  · cases h
def ref_Vals_e : Entry Sg := fun
  | [(.pointer (some p), .obj (.ref s))] => some ⟨s.vals, fun (r_ : List Int) => ⟨[], some (.ref s), [.row 32 [.ints .u32 r_]], fun ss => ss.getD 0 undef, fun k => .pt k .slice⟩⟩
  | _ => none
theorem ref_Vals_ok : EntryOk Dg Try.prog 24 ref_Vals_e := by
  intro args c r h hr_
  unfold ref_Vals_e at h
  split at h
  · rename_i p s
    injection h with h; subst h; subst hr_
    refine ⟨(by
      intro K acs hl
      match acs, hl with
      | [a0_], hl => simp [pOk, psOk, cOk, sliceC, sliceV, sliceVal, lenC, Col.len]), fun hpre E G w hi hS => ?_⟩
    obtain ⟨b, x, rfl, ho, hK⟩ := ref_unfold (show Sat E G w [Dg p (.ref s)] from hS)
    have l2 := ho.nv; have l3 := ho.np; have l4 := ho.nt
    have m2 := ho.lv; have m3 := ho.lp; have m4 := ho.lt
    exact rvals_fin b x.n x.ak x.ck x.nk x.knows x.av x.cv x.nv x.val x.ap x.cp x.np x.isput x.ato x.cto x.nt x.to x.ar x.cr x.nr x.reads x.aq x.cq x.nq x.wrote x.miss x.all (by omega) (by omega) (by omega) ho.nb
      (fin_r (b := b) (r0 := s.vals) (s' := s) (fun ⟨_, _, _, _, _, _, _, _, _, _, _, _, _, _, _, _, _, _, _, _, _, _, _, _, _, _, _⟩ _ h => ⟨by rw [h.1]; exact ho, h.2.trans (rvals_eq ho)⟩) (fun ⟨_, _, _, _, _, _, _, _, _, _, _, _, _, _, _, _, _, _, _, _, _, _, _, _, _, _, _⟩ => rfl)) hK
  · cases h
def ref_Writes_e : Entry Sg := fun
  | [(.pointer (some p), .obj (.ref s))] => some ⟨(s.wrote, s.puts), fun (r_ : List Int × List Int) => ⟨[], some (.ref s), [.row 46 [.ints .i64 r_.1, .ints .u32 r_.2]], fun ss => ss.getD 0 undef, fun k => .pt k .slice⟩⟩
  | _ => none
theorem ref_Writes_ok : EntryOk Dg Try.prog 57 ref_Writes_e := by
  intro args c r h hr_
  unfold ref_Writes_e at h
  split at h
  · rename_i p s
    injection h with h; subst h; subst hr_
    refine ⟨(by
      intro K acs hl
      match acs, hl with
      | [a0_], hl => simp [pOk, psOk, cOk, sliceC, sliceV, sliceVal, lenC, Col.len]), fun hpre E G w hi hS => ?_⟩
    obtain ⟨b, x, rfl, ho, hK⟩ := ref_unfold (show Sat E G w [Dg p (.ref s)] from hS)
    have l4 := ho.nt; have m4 := ho.lt; have hb := ho.bound
    exact rwrites_fin b x.n x.ak x.ck x.nk x.knows x.av x.cv x.nv x.val x.ap x.cp x.np x.isput x.ato x.cto x.nt x.to x.ar x.cr x.nr x.reads x.aq x.cq x.nq x.wrote x.miss x.all ho.nq (fun j hj => by have := ho.wi j hj; omega) hb.2
      (fin_r (b := b) (r0 := (s.wrote, s.puts)) (s' := s) (fun ⟨_, _, _, _, _, _, _, _, _, _, _, _, _, _, _, _, _, _, _, _, _, _, _, _, _, _, _⟩ _ h => ⟨by rw [h.1]; exact ho, h.2.trans (rwrites_eq ho)⟩) (fun ⟨_, _, _, _, _, _, _, _, _, _, _, _, _, _, _, _, _, _, _, _, _, _, _, _, _, _, _⟩ => rfl)) hK
  · cases h
def T_vals : List (Nat × Entry Sg) := (57, ref_Writes_e) :: (24, ref_Vals_e) :: (23, view_Vals_e) :: T_filled
theorem T_vals_ok : TableOk Dg Try.prog T_vals := TableOk.cons Dg ref_Writes_ok (TableOk.cons Dg ref_Vals_ok (TableOk.cons Dg view_Vals_ok T_filled_ok))
end Go.Proofs.Ytdbpiopcbhmieaa
