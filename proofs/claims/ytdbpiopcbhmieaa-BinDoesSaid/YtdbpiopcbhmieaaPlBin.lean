/-
  DERIVED. What the two texts of links and bins come to: the same programs over cells.
-/
import Derived.Test.YtdbpiopcbhmieaaSlBin
namespace Go.Proofs.Ytdbpiopcbhmieaa
open Go Go.Sl Go.RowKit

theorem wrapu_nv (x : Int) : IntKind.wrap IntKind.u32 x = nv x := by rw [IntKind.wrap_u32]; rfl
theorem nv_add1 (g : Int) : IntKind.wrap IntKind.u32 (IntKind.wrap IntKind.u32 g + 1) = nv (g + 1) := by
  rw [IntKind.wrap_u32, IntKind.wrap_u32]; unfold nv; omega
theorem w64g (s : VS) (i : Int) : IntKind.wrap IntKind.i64 (s.get i) = s.get i := by
  have := s.get_bd i
  exact w64 (by omega)
theorem w64g1 (s : VS) (i : Int) : IntKind.wrap IntKind.i64 (s.get i - 1) = s.get i - 1 := by
  have := s.get_bd i
  exact w64 (by omega)
theorem page_eq (g p : Int) : (decide (g ≥ 0) && decide (g < p)) = (decide (0 ≤ g) && decide (g < p)) := rfl
theorem page_ne (g p : Int) : (decide (g < 0) || decide (g ≥ p)) = !(decide (0 ≤ g) && decide (g < p)) := by
  apply Bool.eq_iff_iff.2
  simp only [Bool.or_eq_true, decide_eq_true_eq, Bool.not_eq_true', Bool.and_eq_false_iff, decide_eq_false_iff_not]
  omega
theorem w64_in {g p : Int} (h : (decide (0 ≤ g) && decide (g < p)) = true) (hp : p ≤ 9223372036854775807) : IntKind.wrap IntKind.i64 (g + 1) = g + 1 := by
  simp only [Bool.and_eq_true, decide_eq_true_eq] at h
  exact w64 (by omega)
theorem bne0 (x : Int) : (x != 0) = !(x == 0) := rfl
section
variable (s : VS) (t p h hd g n : Int)
theorem link_Push_eq : link_Push s t p h hd g = ((pPush ⟨t, p, h⟩ hd g).run s).1 := by
  unfold link_Push pPush link_page Cf.page
  rw [page_eq]
  cases hc : (decide (0 ≤ g) && decide (g < p)) with
  | false => rfl
  | true =>
    simp only [Bool.not_true, cond_false, cond_true, Pg.run_get, Pg.run_put, link_next, link_prev, place_Next_eq, place_Prev_eq, link_to, w64g, w64g1, wrapu_nv, bne0, Pg.run_bind]
    have e : nv (IntKind.wrap IntKind.i64 (g + 1)) = nv (g + 1) := by rw [IntKind.wrap_i64]; unfold nv; omega
    rw [e]
    cases s.get hd == 0 <;> rfl
theorem r13_Push_eq : r13_Push s t p h hd g = ((pPush ⟨t, p, h⟩ hd g).run s).1 := by
  unfold r13_Push pPush Cf.page
  rw [page_ne]
  cases hc : (decide (0 ≤ g) && decide (g < p)) with
  | false => rfl
  | true =>
    simp only [Bool.not_true, cond_false, cond_true, Pg.run_get, Pg.run_put, r07_Next_eq, r07_Prev_eq, w64g, w64g1, nv_add1, bne0, Pg.run_bind]
    cases s.get hd == 0 <;> rfl
theorem link_Pull_eq : link_Pull s t p h hd g = ((pPull ⟨t, p, h⟩ hd g).run s).1 := by
  unfold link_Pull pPull link_page Cf.page
  rw [page_eq]
  cases hc : (decide (0 ≤ g) && decide (g < p)) with
  | false => rfl
  | true =>
    simp only [Bool.not_true, cond_false, cond_true, Pg.run_get, Pg.run_put, link_next, link_prev, place_Next_eq, place_Prev_eq, link_to, w64g, w64g1, bne0, Pg.run_bind]
    cases (VS.get (s.read (Cf.next ⟨t, p, h⟩ g)) (Cf.prev ⟨t, p, h⟩ g)) == 0 <;> cases s.get (Cf.next ⟨t, p, h⟩ g) == 0 <;> rfl
theorem r13_Pull_eq : r13_Pull s t p h hd g = ((pPull ⟨t, p, h⟩ hd g).run s).1 := by
  unfold r13_Pull pPull Cf.page
  rw [page_ne]
  cases hc : (decide (0 ≤ g) && decide (g < p)) with
  | false => rfl
  | true =>
    simp only [Bool.not_true, cond_false, cond_true, Pg.run_get, Pg.run_put, r07_Next_eq, r07_Prev_eq, w64g, w64g1, bne0, Pg.run_bind]
    cases (VS.get (s.read (Cf.next ⟨t, p, h⟩ g)) (Cf.prev ⟨t, p, h⟩ g)) == 0 <;> cases s.get (Cf.next ⟨t, p, h⟩ g) == 0 <;> rfl
theorem bin_Of_eq : bin_Of n = binOf n := by
  unfold bin_Of binOf
  by_cases hn : n > 1024
  · simp [hn]
  · have e : decide (n > 1024) = false := by simpa using hn
    rw [e]; exact half_Log_eq (by omega)
theorem r14_Of_eq : r14_Of n = binOf n := by
  unfold r14_Of binOf
  by_cases hn : n > 1024
  · simp [hn]
  · have e : decide (n > 1024) = false := by simpa using hn
    rw [e]
    by_cases h1 : n < 1
    · simp [h1, logI_lt h1]
    · simp [h1, r01_Log]
theorem bin_free_eq : bin_free s t p h g = (pFree ⟨t, p, h⟩ g).run s := by
  unfold bin_free pFree
  simp only [place_Info_eq, Pg.run_get, Pg.run_ret]
  obtain ⟨e1, e2, _⟩ := info_Get_i (VS.get_bd s (Cf.info ⟨t, p, h⟩ g))
  rw [e1, e2]
  show (bif (iGet (s.get (Cf.info ⟨t, p, h⟩ g))).k != 1 then _ else _) = _
  cases hk : (iGet (s.get (Cf.info ⟨t, p, h⟩ g))).k == 1 with
  | true => simp only [bne, hk, Bool.not_true, cond_false, cond_true]
  | false => simp only [bne, hk, Bool.not_false, cond_true, cond_false]
theorem bin_Add_eq (hp : p ≤ 9223372036854775807) (hn : n ≤ 9223372036854775807) : bin_Add s t p h g n = ((pAdd ⟨t, p, h⟩ g n).run s).1 := by
  unfold bin_Add pAdd bin_page Cf.page
  rw [page_eq]
  cases hc : (decide (0 ≤ g) && decide (g < p)) with
  | false => rfl
  | true =>
    have hc' := hc
    simp only [Bool.and_eq_true, decide_eq_true_eq] at hc'
    rw [w64 (n := p - g) (by omega)]
    cases hd : (decide (1 ≤ n) && decide (n ≤ p - g)) with
    | false =>
      have e : (!true || decide (n < 1) || decide (n > p - g)) = true := by
        simp only [Bool.and_eq_false_iff, decide_eq_false_iff_not] at hd
        simp; omega
      rw [e]; rfl
    | true =>
      have e : (!true || decide (n < 1) || decide (n > p - g)) = false := by
        simp only [Bool.and_eq_true, decide_eq_true_eq] at hd
        simp; omega
      simp only [Bool.and_eq_true, decide_eq_true_eq] at hd
      rw [e]
      simp only [cond_false, Bool.and_self, cond_true, Pg.run_put, place_Info_eq, place_Foot_eq, info_Put_val, place_Bin_eq, bin_Of_eq, link_Push_eq, wrapu_nv]
      rw [w64 (n := g + n) (by omega), w64 (n := g + n - 1) (by omega), w64_in hc hp]
theorem r14_Add_eq (hp : p ≤ 9223372036854775807) (hn : n ≤ 9223372036854775807) : r14_Add s t p h g n = ((pAdd ⟨t, p, h⟩ g n).run s).1 := by
  unfold r14_Add pAdd Cf.page
  rw [page_ne]
  cases hc : (decide (0 ≤ g) && decide (g < p)) with
  | false => rfl
  | true =>
    have hc' := hc
    simp only [Bool.and_eq_true, decide_eq_true_eq] at hc'
    rw [w64 (n := p - g) (by omega)]
    cases hd : (decide (1 ≤ n) && decide (n ≤ p - g)) with
    | false =>
      have e : (!true || decide (n < 1) || decide (n > p - g)) = true := by
        simp only [Bool.and_eq_false_iff, decide_eq_false_iff_not] at hd
        simp; omega
      rw [e]; rfl
    | true =>
      have e : (!true || decide (n < 1) || decide (n > p - g)) = false := by
        simp only [Bool.and_eq_true, decide_eq_true_eq] at hd
        simp; omega
      simp only [Bool.and_eq_true, decide_eq_true_eq] at hd
      rw [e]
      simp only [cond_false, Bool.and_self, cond_true, Pg.run_put, r07_Info_eq, r07_Foot_eq, r09_Value_eq, r07_Bin_eq, r14_Of_eq, r13_Push_eq, nv_add1]
      rw [w64 (n := g + n) (by omega), w64 (n := g + n - 1) (by omega)]
theorem bin_Drop_eq : bin_Drop s t p h g = (pDrop ⟨t, p, h⟩ g).run s := by
  unfold bin_Drop pDrop bin_page Cf.page
  rw [page_eq]
  cases hc : (decide (0 ≤ g) && decide (g < p)) with
  | false => rfl
  | true =>
    simp only [Bool.not_true, cond_false, cond_true, Pg.run_bind, bin_free_eq]
    generalize hr : (pFree ⟨t, p, h⟩ g).run s = r
    show (bif decide (r.2 > 0) then _ else _) = _
    have e : decide (r.2 > 0) = decide (0 < r.2) := rfl
    rw [e]
    cases decide (0 < r.2) with
    | false => rfl
    | true => simp only [cond_true, link_Pull_eq, place_Bin_eq, bin_Of_eq]; rfl
theorem r14_Info_eq : r14_Info s t p h g = (s.read (Cf.info ⟨t, p, h⟩ g), (iGet (s.get (Cf.info ⟨t, p, h⟩ g))).k, (iGet (s.get (Cf.info ⟨t, p, h⟩ g))).l, (iGet (s.get (Cf.info ⟨t, p, h⟩ g))).c) := by
  unfold r14_Info
  obtain ⟨e1, e2, e3⟩ := r09_Get_i (VS.get_bd s (Cf.info ⟨t, p, h⟩ g))
  simp only [r07_Info_eq, e1, e2, e3]
theorem r14_Drop_eq : r14_Drop s t p h g = (pDrop ⟨t, p, h⟩ g).run s := by
  unfold r14_Drop pDrop Cf.page
  rw [page_ne]
  cases hc : (decide (0 ≤ g) && decide (g < p)) with
  | false => rfl
  | true =>
    simp only [Bool.not_true, cond_false, cond_true, Pg.run_bind, r14_Info_eq]
    unfold pFree
    simp only [Pg.run_get, Pg.run_ret]
    have hi := iGet_cases (s.get (Cf.info ⟨t, p, h⟩ g))
    by_cases hk : (iGet (s.get (Cf.info ⟨t, p, h⟩ g))).k = 1
    · have e1 : ((iGet (s.get (Cf.info ⟨t, p, h⟩ g))).k == 1) = true := by simpa using hk
      have e : decide (0 < (iGet (s.get (Cf.info ⟨t, p, h⟩ g))).l) = true := by simp; omega
      simp only [bne, e1, Bool.not_true, cond_false, cond_true, e, r13_Pull_eq, r07_Bin_eq, r14_Of_eq]
    · have e1 : ((iGet (s.get (Cf.info ⟨t, p, h⟩ g))).k == 1) = false := by simpa using hk
      simp only [bne, e1, Bool.not_false, cond_true, cond_false]
      rfl
end
end Go.Proofs.Ytdbpiopcbhmieaa
