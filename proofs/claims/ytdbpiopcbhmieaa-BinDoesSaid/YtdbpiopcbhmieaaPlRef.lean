/-
  DERIVED. What the reference's view does to the state that it stands for; its entries.
-/
import Derived.Test.YtdbpiopcbhmieaaSlView3
namespace Go.Proofs.Ytdbpiopcbhmieaa
open Go.Sl Go.RowKit

abbrev RSt := Int × Option Nat × Nat × Nat × List Bool × Option Nat × Nat × Nat × List Int × Option Nat × Nat × Nat × List Bool × Option Nat × Nat × Nat × List Int × Option Nat × Nat × Nat × List Int × Option Nat × Nat × Nat × List Int × Int × Bool
def mkR (st : RSt) : RX :=
  match st with
  | ⟨n, ak, ck, nk, knows, av, cv, nv, val, ap, cp, np, isput, ato, cto, nt, to, ar, cr, nr, reads, aq, cq, nq, wrote, miss, all⟩ => ⟨n, ak, ck, nk, knows, av, cv, nv, val, ap, cp, np, isput, ato, cto, nt, to, ar, cr, nr, reads, aq, cq, nq, wrote, miss, all⟩
section
variable {x : RX} {s : VS}
theorem ROk.bound (ho : ROk x s) : x.nr ≤ 1000000 ∧ x.nq ≤ 1000000 := by
  have := ho.rl; have := ho.wl; have := ho.nb; have := ho.nr; have := ho.nq
  omega
theorem ROk.there (ho : ROk x s) (i : Int) : (decide (i < 0) || decide (i ≥ x.n) || decide (x.miss ≥ 0)) = !s.there i := by
  unfold VS.there
  rw [ho.n, ho.miss]
  apply Bool.eq_iff_iff.2
  simp only [Bool.or_eq_true, decide_eq_true_eq, Bool.not_eq_true', Bool.and_eq_false_iff, decide_eq_false_iff_not]
  omega
theorem ROk.more (ho : ROk x s) {i : Int} (h0 : 0 ≤ i) (h1 : i < x.n) (hc : s.reads.contains i = false) (a : Option Nat) (c : Nat) :
    ROk { x with ar := a, cr := c, nr := x.nr + 1, reads := x.reads ++ [i] } { s with reads := s.reads ++ [i] } := by
  have hni : ¬ i ∈ x.reads := by
    rw [ho.reads] at hc
    simpa using hc
  have hri : ∀ j ∈ x.reads ++ [i], 0 ≤ j ∧ j < x.n := fun j hj => by
    simp only [List.mem_append, List.mem_singleton] at hj
    rcases hj with hj | rfl
    · exact ho.ri j hj
    · exact ⟨h0, h1⟩
  have hn := nodup_snoc ho.rn hni
  exact { ho with
    nr := by simp [ho.nr]
    reads := by simp [ho.reads]
    rl := nodup_len' hn hri
    rn := hn
    ri := hri }
theorem ROk.missing (ho : ROk x s) {i : Int} (h0 : 0 ≤ i) : ROk { x with miss := i } { s with miss := i } :=
  { ho with miss := rfl, m0 := .inr h0 }
end
theorem rget_ok {x : RX} {s : VS} (ho : ROk x s) (b : Nat) (i : Int) : rget_wp0 b x.n x.ak x.ck x.nk x.knows x.av x.cv x.nv x.val x.ap x.cp x.np x.isput x.ato x.cto x.nt x.to x.ar x.cr x.nr x.reads x.aq x.cq x.nq x.wrote x.miss x.all i (fun st r => ROk (mkR st) (s.read i) ∧ r = s.get i) := by
  have hb := ho.bound
  unfold rget_wp0
  rw [ho.there i]
  cases ht : s.there i with
  | false =>
    refine ⟨fun _ => ⟨?_, ?_⟩, fun h => by cases h⟩
    · simp only [VS.read, ht, cond_false]; exact ho
    · simp only [VS.get, ht, cond_false]
  | true =>
    refine ⟨(fun h => by cases h), fun _ => ?_⟩
    obtain ⟨h0, h1⟩ := VS.thereOf ht
    rw [ho.n] at h1
    have hp := ho.put i h0 h1
    have hs := ho.src i h0 h1
    have l1 := ho.nk; have l2 := ho.nv; have l3 := ho.np; have l4 := ho.nt
    have m1 := ho.lk; have m2 := ho.lv; have m3 := ho.lp; have m4 := ho.lt
    refine ⟨by omega, fun _ => ?_⟩
    cases hq : x.isput.getD i.toNat false with
    | true =>
      rw [hq] at hp
      simp only [cond_true] at hp
      refine ⟨fun _ => ⟨by omega, fun _ => ⟨?_, ?_⟩⟩, fun h => by cases h⟩
      · simp only [VS.read, ht, hp, cond_true]; exact ho
      · have hv : nv (x.to.getD i.toNat 0) = x.to.getD i.toNat 0 := nv_id (ho.bt _ (getD_mem (by omega)))
        simp only [VS.get, ht, hp, cond_true, hv]
    | false =>
      rw [hq] at hp
      simp only [cond_false] at hp
      refine ⟨(fun h => by cases h), fun _ => ⟨by omega, fun _ => ?_⟩⟩
      cases hk : x.knows.getD i.toNat false with
      | false =>
        rw [hk] at hs
        simp only [cond_false] at hs
        refine ⟨fun _ => ⟨?_, ?_⟩, fun h => by cases h⟩
        · simp only [VS.read, ht, hp, hs, cond_true]; exact ho.missing h0
        · simp only [VS.get, ht, hp, hs, cond_true]
      | true =>
        rw [hk] at hs
        simp only [cond_true] at hs
        have hv : nv (x.val.getD i.toNat 0) = x.val.getD i.toNat 0 := nv_id (ho.bv _ (getD_mem (by omega)))
        refine ⟨(fun h => by cases h), fun _ => ?_⟩
        have hr : rhas x.reads i = s.reads.contains i := by rw [rhas, ho.reads]
        rw [hr]
        cases hc : s.reads.contains i with
        | false =>
          refine ⟨fun _ _ => ⟨by omega, fun _ a c => ⟨by omega, fun _ => ⟨?_, ?_⟩⟩⟩, fun h => by cases h⟩
          · simp only [VS.read, ht, hp, hs, hc, cond_true, cond_false]
            exact ho.more h0 h1 hc a c
          · simp only [VS.get, ht, hp, hs, cond_true, hv]
        | true =>
          refine ⟨(fun h => by cases h), fun _ => ⟨by omega, fun _ => ⟨?_, ?_⟩⟩⟩
          · simp only [VS.read, ht, hp, hs, hc, cond_true]; exact ho
          · simp only [VS.get, ht, hp, hs, cond_true, hv]
theorem getDb_set (xs : List Bool) (i j : Nat) (v : Bool) (hi : i < xs.length) : (xs.set i v).getD j false = if j = i then v else xs.getD j false := by
  rw [List.getD_eq_getElem?_getD, List.getElem?_set]
  by_cases h : i = j
  · subst h; simp [hi]
  · rw [if_neg h, if_neg (fun e => h e.symm)]; simp
section
variable {x : RX} {s : VS}
theorem ROk.putNew (ho : ROk x s) {i y : Int} (h0 : 0 ≤ i) (h1 : i < x.n) (hy : bd32 y) (hq : x.isput.getD i.toNat false = false) (a : Option Nat) (c : Nat) :
    ROk { x with isput := x.isput.set i.toNat true, to := x.to.set i.toNat y, aq := a, cq := c, nq := x.nq + 1, wrote := x.wrote ++ [i] } { s with put := mupd s.put i y, wrote := s.wrote ++ [i] } := by
  have m3 := ho.lp; have m4 := ho.lt
  have hni : ¬ i ∈ x.wrote := fun h => by have := (ho.wi i h).2.2; rw [hq] at this; cases this
  have hset : ∀ j : Int, 0 ≤ j → (x.isput.set i.toNat true).getD j.toNat false = if j = i then true else x.isput.getD j.toNat false := fun j hj => by
    rw [getDb_set _ _ _ _ (by omega)]
    by_cases e : j = i
    · subst e; simp
    · rw [if_neg (by omega), if_neg e]
  have hwi : ∀ j ∈ x.wrote ++ [i], 0 ≤ j ∧ j < x.n ∧ (x.isput.set i.toNat true).getD j.toNat false = true := fun j hj => by
    simp only [List.mem_append, List.mem_singleton] at hj
    rcases hj with hj | rfl
    · obtain ⟨a1, a2, a3⟩ := ho.wi j hj
      refine ⟨a1, a2, ?_⟩
      rw [hset j a1, a3]; simp
    · exact ⟨h0, h1, by rw [hset j h0]; simp⟩
  have hn := nodup_snoc ho.wn hni
  exact { ho with
    np := by simp [ho.np]
    nt := by simp [ho.nt]
    nq := by simp [ho.nq]
    lp := by simp [ho.lp]
    lt := by simp [ho.lt]
    put := fun j hj hj1 => by
      simp only [mupd]
      rw [hset j hj, getD_set _ _ _ _ (by omega)]
      by_cases e : j = i
      · subst e; simp
      · have e1 : (j == i) = false := by simpa using e
        rw [e1, if_neg e, if_neg (by omega)]
        simpa using ho.put j hj hj1
    bt := fun v hv => by
      rcases List.mem_or_eq_of_mem_set hv with hv | rfl
      · exact ho.bt v hv
      · exact hy
    wrote := by simp [ho.wrote]
    wl := nodup_len' hn fun j hj => ⟨(hwi j hj).1, (hwi j hj).2.1⟩
    wn := hn
    wi := hwi
    pw := fun j hj hj1 hjp => by
      rw [hset j hj] at hjp
      by_cases e : j = i
      · simp [e]
      · rw [if_neg e] at hjp
        simp [ho.pw j hj hj1 hjp] }
theorem ROk.putOld (ho : ROk x s) {i y : Int} (h0 : 0 ≤ i) (h1 : i < x.n) (hy : bd32 y) (hq : x.isput.getD i.toNat false = true) :
    ROk { x with isput := x.isput.set i.toNat true, to := x.to.set i.toNat y } { s with put := mupd s.put i y } := by
  have m3 := ho.lp; have m4 := ho.lt
  have hset : ∀ j : Int, 0 ≤ j → (x.isput.set i.toNat true).getD j.toNat false = x.isput.getD j.toNat false := fun j hj => by
    rw [getDb_set _ _ _ _ (by omega)]
    by_cases e : j.toNat = i.toNat
    · rw [if_pos e, e, hq]
    · rw [if_neg e]
  exact { ho with
    np := by simp [ho.np]
    nt := by simp [ho.nt]
    lp := by simp [ho.lp]
    lt := by simp [ho.lt]
    put := fun j hj hj1 => by
      simp only [mupd]
      rw [hset j hj, getD_set _ _ _ _ (by omega)]
      by_cases e : j = i
      · subst e; rw [hq]; simp
      · have e1 : (j == i) = false := by simpa using e
        rw [e1, if_neg (by omega)]
        simpa using ho.put j hj hj1
    bt := fun v hv => by
      rcases List.mem_or_eq_of_mem_set hv with hv | rfl
      · exact ho.bt v hv
      · exact hy
    wi := fun j hj => by
      obtain ⟨a1, a2, a3⟩ := ho.wi j hj
      exact ⟨a1, a2, by rw [hset j a1, a3]⟩
    pw := fun j hj hj1 hjp => by
      rw [hset j hj] at hjp
      exact ho.pw j hj hj1 hjp }
end
theorem rput_ok {x : RX} {s : VS} (ho : ROk x s) (b : Nat) (i y : Int) (hy : bd32 y) : rputv_wp0 b x.n x.ak x.ck x.nk x.knows x.av x.cv x.nv x.val x.ap x.cp x.np x.isput x.ato x.cto x.nt x.to x.ar x.cr x.nr x.reads x.aq x.cq x.nq x.wrote x.miss x.all i y (fun st _ => ROk (mkR st) (s.set i y)) := by
  have hb := ho.bound
  unfold rputv_wp0
  rw [ho.there i]
  cases ht : s.there i with
  | false =>
    refine ⟨fun _ => ?_, fun h => by cases h⟩
    simp only [VS.set, ht, cond_false]; exact ho
  | true =>
    refine ⟨(fun h => by cases h), fun _ => ?_⟩
    obtain ⟨h0, h1⟩ := VS.thereOf ht
    rw [ho.n] at h1
    have hp := ho.put i h0 h1
    have l3 := ho.np; have l4 := ho.nt
    have m3 := ho.lp; have m4 := ho.lt
    refine ⟨by omega, fun _ => ?_⟩
    cases hq : x.isput.getD i.toNat false with
    | true =>
      rw [hq] at hp
      simp only [cond_true] at hp
      refine ⟨(fun h => by cases h), fun _ => ⟨by omega, fun _ => ⟨by omega, fun _ => ?_⟩⟩⟩
      simp only [VS.set, ht, hp, cond_true, Option.isSome_some]
      exact ho.putOld h0 h1 hy hq
    | false =>
      rw [hq] at hp
      simp only [cond_false] at hp
      refine ⟨fun _ _ => ⟨by omega, fun _ a c => ⟨by omega, fun _ => ⟨by omega, fun _ => ?_⟩⟩⟩, fun h => by cases h⟩
      simp only [VS.set, ht, hp, cond_true, cond_false, Option.isSome_none]
      exact ho.putNew h0 h1 hy hq a c
section
variable {E : World} {G : Hp} {β : Type} {out : β → List Value → Value} {rows : β → List (Mk Sg)} {r0 : β} {s' : VS} {b : Nat}
theorem fin_r {Kf : RSt → List (Chunk Sg)} {ok : RSt → β → Prop} (hok : ∀ st r, ok st r → ROk (mkR st) s' ∧ r = r0) (hK : ∀ st, Kf st = (mkR st).K b) :
    ∀ v p K w, ObjRet Kf out rows ok v p K → SatK Dg E G w K → ∃ acs : List (Option Nat × Nat), acsOk (rows r0) acs ∧ Ending.returned v = .returned (out r0 (List.zipWith sliceV (rows r0) acs)) ∧ Sat E G w ([Dg ⟨b, 0, none⟩ (.ref s')] ++ (List.zipWith sliceC (rows r0) acs).map (den Dg G)) := by
  rintro v p K w ⟨st, r, h, hr⟩ hS
  obtain ⟨h1, rfl⟩ := hok st r h
  obtain ⟨acs, e1, e2, e3⟩ := hr.post Dg hS
  rw [hK] at e3
  exact ⟨acs, e1, e2, ref_fold e3 h1⟩
end
def ref_Get_e : Entry Sg := fun
  | [(.pointer (some p), .obj (.ref s)), (.int .i64 i, _)] => some ⟨(s.read i, s.get i), fun (r_ : VS × Int) => ⟨[], some (.ref r_.1), [], fun _ => .int .u32 r_.2, fun _ => .no⟩⟩
  | _ => none
theorem ref_Get_ok : EntryOk Dg Try.prog 56 ref_Get_e := by
  intro args c r h hr_
  unfold ref_Get_e at h
  split at h
  · rename_i p s i _
    injection h with h; subst h; subst hr_
    refine ⟨fun K acs _ => pOk_no, fun hpre E G w hi hS => ?_⟩
    obtain ⟨b, x, rfl, ho, hK⟩ := ref_unfold (show Sat E G w [Dg p (.ref s)] from hS)
    exact rget_open b x.n x.ak x.ck x.nk x.knows x.av x.cv x.nv x.val x.ap x.cp x.np x.isput x.ato x.cto x.nt x.to x.ar x.cr x.nr x.reads x.aq x.cq x.nq x.wrote x.miss x.all i (fin_r (b := b) (r0 := s.get i) (s' := s.read i) (fun _ _ h => h) (fun ⟨_, _, _, _, _, _, _, _, _, _, _, _, _, _, _, _, _, _, _, _, _, _, _, _, _, _, _⟩ => rfl)) hK (rget_ok ho b i)
  · cases h
def ref_Put_e : Entry Sg := fun
  | [(.pointer (some p), .obj (.ref s)), (.int .i64 i, _), (.int .u32 y, _)] => some ⟨s.set i y, fun (r_ : VS) => ⟨[bd32 y], some (.ref r_), [], fun _ => undef, fun _ => .no⟩⟩
  | _ => none
theorem ref_Put_ok : EntryOk Dg Try.prog 55 ref_Put_e := by
  intro args c r h hr_
  unfold ref_Put_e at h
  split at h
  · rename_i p s i _ y _
    injection h with h; subst h; subst hr_
    refine ⟨fun K acs _ => pOk_no, fun hpre E G w hi hS => ?_⟩
    have hy : bd32 y := hpre _ (by simp)
    obtain ⟨b, x, rfl, ho, hK⟩ := ref_unfold (show Sat E G w [Dg p (.ref s)] from hS)
    exact rputv_open b x.n x.ak x.ck x.nk x.knows x.av x.cv x.nv x.val x.ap x.cp x.np x.isput x.ato x.cto x.nt x.to x.ar x.cr x.nr x.reads x.aq x.cq x.nq x.wrote x.miss x.all i y (fin_r (b := b) (r0 := ()) (s' := s.set i y) (fun _ _ h => ⟨h, rfl⟩) (fun ⟨_, _, _, _, _, _, _, _, _, _, _, _, _, _, _, _, _, _, _, _, _, _, _, _, _, _, _⟩ => rfl)) hK (rput_ok ho b i y hy)
  · cases h
end Go.Proofs.Ytdbpiopcbhmieaa
