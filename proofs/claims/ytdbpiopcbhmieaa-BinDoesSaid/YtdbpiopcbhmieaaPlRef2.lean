/-
  DERIVED. The entry that makes the reference's views.
-/
import Derived.Test.YtdbpiopcbhmieaaSlView5
namespace Go.Proofs.Ytdbpiopcbhmieaa
open Go.Sl Go.RowKit
section
variable {E : World} {G : Hp} {s' : VS}
theorem fin_new_r {Kf : Nat × RSt → List (Chunk Sg)} {ok : Nat × RSt → Value → Prop} (hok : ∀ b st r, ok (b, st) r → ROk (mkR st) s' ∧ r = .pointer (some ⟨b, 0, none⟩)) (hK : ∀ b st, Kf (b, st) = (mkR st).K b) :
    ∀ v p K w, ObjRet Kf (fun r _ => r) (fun _ => []) ok v p K → SatK Dg E G w K → ∃ acs : List (Option Nat × Nat), acsOk [Mk.obj (Sg.ref s')] acs ∧ Ending.returned v = .returned ((List.zipWith sliceV [Mk.obj (Sg.ref s')] acs).getD 0 undef) ∧ Sat E G w ([] ++ (List.zipWith sliceC [Mk.obj (Sg.ref s')] acs).map (den Dg G)) := by
  rintro v p K w ⟨⟨b, st⟩, r, h, hr⟩ hS
  obtain ⟨h1, rfl⟩ := hok b st r h
  obtain ⟨acs, e1, e2, e3⟩ := hr.post Dg hS
  cases acs with
  | cons _ _ => exact e1.elim
  | nil =>
    rw [hK] at e3
    injection e2 with e2
    refine ⟨[(some b, 0)], ⟨⟨b, rfl⟩, trivial⟩, by rw [e2]; rfl, ?_⟩
    exact ref_fold (Bs := []) (by simpa using e3) h1
end
def ref_blank_e : Entry Sg := fun
  | [(.int .i64 m, _)] => some ⟨VS.blank m, fun (r_ : VS) => ⟨[m ≤ 1000000], none, [.obj (.ref r_)], fun ss => ss.getD 0 undef, fun k => .pt k .obj⟩⟩
  | _ => none
theorem ref_blank_ok : EntryOk Dg Try.prog 54 ref_blank_e := by
  intro args c r h hr_
  unfold ref_blank_e at h
  split at h
  · rename_i m _
    injection h with h; subst h; subst hr_
    refine ⟨(by
      intro K acs hl
      match acs, hl with
      | [a0_], hl =>
        simp only [acsOk, acOk] at hl
        obtain ⟨b0_, rfl⟩ := hl.1
        simp [pOk, psOk, cOk, sliceC, sliceV, sliceVal, lenC, Col.len]), fun hpre E G w hi hS => ?_⟩
    exact blank_fin m (hpre _ (by simp)) (fin_new_r (s' := VS.blank m) (fun b ⟨_, _, _, _, _, _, _, _, _, _, _, _, _, _, _, _, _, _, _, _, _, _, _, _, _, _, _⟩ r h => h) (fun b ⟨_, _, _, _, _, _, _, _, _, _, _, _, _, _, _, _, _, _, _, _, _, _, _, _, _, _, _⟩ => rfl)) hS
  · cases h

/-! ### A view of the reference is opened, as chunk k; its rows come behind all others -/
def RX.cells (o : Nat) (x : RX) : List (Value × Pr) :=
  [(.int .i64 x.n, .no), (.slice (x.ak.map fun b => ⟨b, 0, none⟩) x.nk x.ck, .pt o .slice), (.slice (x.av.map fun b => ⟨b, 0, none⟩) x.nv x.cv, .pt (o + 1) .slice), (.slice (x.ap.map fun b => ⟨b, 0, none⟩) x.np x.cp, .pt (o + 2) .slice), (.slice (x.ato.map fun b => ⟨b, 0, none⟩) x.nt x.cto, .pt (o + 3) .slice), (.slice (x.ar.map fun b => ⟨b, 0, none⟩) x.nr x.cr, .pt (o + 4) .slice), (.slice (x.aq.map fun b => ⟨b, 0, none⟩) x.nq x.cq, .pt (o + 5) .slice), (.int .i64 x.miss, .no), (.bool x.all, .no)]
def RX.rows (x : RX) : List (Chunk Sg) :=
  [.row x.ak 4 x.nk x.ck [.bools x.knows], .row x.av 32 x.nv x.cv [.ints .u32 x.val], .row x.ap 4 x.np x.cp [.bools x.isput], .row x.ato 32 x.nt x.cto [.ints .u32 x.to], .row x.ar 3 x.nr x.cr [.ints .i64 x.reads], .row x.aq 3 x.nq x.cq [.ints .i64 x.wrote]]
theorem pOk_behind {K rs : List (Chunk Sg)} {k i : Nat} {c d : Chunk Sg} {v : Value} {pk : PK} (h : rs[i]? = some d) (hc : cOk d v pk) : pOk ((opK k K).set k c ++ rs) v (.pt (K.length + i) pk) := by
  rw [pOk_pt]
  refine ⟨d, ?_, hc⟩
  rw [List.getElem?_append_right (by simp [opK_len])]
  simpa [opK_len] using h
theorem ref_open {f : FuncId} {R : Ending → World → Prop} {B : Code} {n : Nat} {E : World} {G : Hp} {td : List Ab} {L : List Ent} {K : List (Chunk Sg)} (k : Nat) {p0 : Addr} {s : VS} (hk : K[k]? = some (.obj p0 (.ref s)))
    (h : ∀ b x, p0 = ⟨b, 0, none⟩ → ROk x s → SW Dg Try.prog f R B n E G td (opL k L) ((opK k K).set k (.cells b 107 (x.cells K.length)) ++ x.rows)) : SW Dg Try.prog f R B n E G td L K := by
  refine SW.open Dg k hk (α := Nat × RX) (q := fun x => p0 = ⟨x.1, 0, none⟩ ∧ ROk x.2 s) (fun x => x.1) (fun _ => 107) (fun x => x.2.cells K.length) (fun x => x.2.rows) ?_ (fun x hx => hx.1) ?_ ?_ (fun x hx => h x.1 x.2 hx.1 hx.2)
  · rfl
  · intro x b t cs hm
    simp [RX.rows] at hm
  · intro x hx y hy
    simp only [RX.cells, List.mem_cons, List.not_mem_nil, or_false] at hy
    rcases hy with rfl | rfl | rfl | rfl | rfl | rfl | rfl | rfl | rfl
    · exact pOk_no
    · exact pOk_behind (i := 0) rfl rfl
    · exact pOk_behind (i := 1) rfl rfl
    · exact pOk_behind (i := 2) rfl rfl
    · exact pOk_behind (i := 3) rfl rfl
    · exact pOk_behind (i := 4) rfl rfl
    · exact pOk_behind (i := 5) rfl rfl
    · exact pOk_no
    · exact pOk_no
/-- A cell becomes known. -/
theorem ROk.fill {x : RX} {s : VS} (ho : ROk x s) {i y : Int} (h0 : 0 ≤ i) (h1 : i < x.n) (hy : bd32 y) :
    ROk { x with knows := x.knows.set i.toNat true, val := x.val.set i.toNat y } { s with src := mupd s.src i y } := by
  have m3 := ho.lk; have m4 := ho.lv
  exact { ho with
    nk := by simp [ho.nk]
    nv := by simp [ho.nv]
    lk := by simp [ho.lk]
    lv := by simp [ho.lv]
    src := fun j hj hj1 => by
      simp only [mupd]
      rw [getDb_set _ _ _ _ (by omega), getD_set _ _ _ _ (by omega)]
      by_cases e : j = i
      · subst e; simp
      · have e1 : (j == i) = false := by simpa using e
        rw [e1, if_neg (by omega), if_neg (by omega)]
        simpa using ho.src j hj hj1
    bv := fun v hv => by
      rcases List.mem_or_eq_of_mem_set hv with hv | rfl
      · exact ho.bv v hv
      · exact hy
    ka := fun ha j hj hj1 => by
      rw [getDb_set _ _ _ _ (by omega)]
      by_cases e : j.toNat = i.toNat
      · rw [if_pos e]
      · rw [if_neg e]; exact ho.ka ha j hj hj1 }
/-- While Whole fills a blank view: i cells are known. -/
def WI (xs : List Int) (i : Nat) (x : RX) : Prop := ∃ g : Int → Option Int, ROk x { VS.blank xs.length with src := g } ∧ ∀ j : Int, 0 ≤ j → j < xs.length → g j = if j < i then some (xs.getD j.toNat 0) else none
section
variable {xs : List Int} {x : RX} {i : Nat}
theorem WI.start (ho : ROk x (VS.blank xs.length)) : WI xs 0 x :=
  ⟨mnil, ho, fun j hj _ => by rw [if_neg (by omega)]; rfl⟩
theorem WI.len (h : WI xs i x) : x.nk = xs.length ∧ x.nv = xs.length ∧ x.n = xs.length := by
  obtain ⟨g, h, _⟩ := h
  have a := h.nk; have b := h.nv; have c := h.lk; have d := h.lv
  have e : (xs.length : Int) = x.n := h.n
  omega
theorem WI.step (h : WI xs i x) (hi : i < xs.length) (hb : ∀ v ∈ xs, bd32 v) : WI xs (i + 1) { x with knows := x.knows.set i true, val := x.val.set i (xs.getD i 0) } := by
  have hn := h.len.2.2
  obtain ⟨g, ho, hg⟩ := h
  refine ⟨_, ho.fill (i := i) (y := xs.getD i 0) (by omega) (by rw [hn]; omega) (hb _ (getD_mem hi)), fun j hj hj1 => ?_⟩
  simp only [mupd]
  by_cases e : j = i
  · subst e; rw [if_pos (by omega)]; simp
  · have e1 : (j == (i : Int)) = false := by simpa using e
    rw [e1]
    simp only [cond_false]
    rw [hg j hj hj1]
    by_cases e2 : j < i
    · rw [if_pos e2, if_pos (by omega)]
    · rw [if_neg e2, if_neg (by omega)]
theorem WI.done (h : WI xs xs.length x) : ROk { x with all := true } (VS.whole xs) := by
  have hn := h.len.2.2
  obtain ⟨g, ho, hg⟩ := h
  exact { ho with
    all := rfl
    src := fun j hj hj1 => by
      have hj1' : j < x.n := hj1
      rw [hn] at hj1'
      rw [← ho.src j hj hj1]
      show (VS.whole xs).src j = g j
      rw [hg j hj hj1', if_pos hj1']
      have e1 : decide (0 ≤ j) = true := by simpa using hj
      have e2 : decide (j < (xs.length : Int)) = true := by simpa using hj1'
      simp only [VS.whole, e1, e2, Bool.and_self, cond_true]
    ka := fun _ j hj hj1 => by
      have hj1' : j < x.n := hj1
      have e : g j = _ := ho.src j hj hj1
      rw [hn] at hj1'
      rw [hg j hj hj1', if_pos hj1'] at e
      cases hk : x.knows.getD j.toNat false with
      | true => rfl
      | false => rw [hk] at e; cases e }
end
/-- While Known fills a blank view: i entries are taken. -/
def KI (m : Int) (xs ys : List Int) (i : Nat) (x : RX) : Prop := ∃ g : Int → Option Int, ROk x { VS.blank m with src := g } ∧ ∀ j : Int, 0 ≤ j → j < m → g j = fsUpto xs ys i j
section
variable {xs ys : List Int} {x : RX} {i : Nat} {m : Int}
theorem KI.start (ho : ROk x (VS.blank m)) : KI m xs ys 0 x := ⟨mnil, ho, fun j _ _ => rfl⟩
theorem KI.len (h : KI m xs ys i x) : x.nk = m.toNat ∧ x.nv = m.toNat ∧ x.n = m := by
  obtain ⟨g, h, _⟩ := h
  have a := h.nk; have b := h.nv; have c := h.lk; have d := h.lv
  have e : m = x.n := h.n
  refine ⟨?_, ?_, e.symm⟩ <;> rw [e] <;> omega
theorem KI.known (h : KI m xs ys i x) {c : Int} (h0 : 0 ≤ c) (h1 : c < m) : (fsUpto xs ys i c).isSome = x.knows.getD c.toNat false := by
  have hn := h.len.2.2
  obtain ⟨g, ho, hg⟩ := h
  rw [← hg c h0 h1]
  have := ho.src c h0 (by rw [hn]; exact h1)
  rw [show g c = _ from this]
  cases x.knows.getD c.toNat false <;> rfl
theorem KI.take (h : KI m xs ys i x) (hy : bd32 (ys.getD i 0)) (h0 : 0 ≤ xs.getD i 0) (h1 : xs.getD i 0 < m) (hk : x.knows.getD (xs.getD i 0).toNat false = false) :
    KI m xs ys (i + 1) { x with knows := x.knows.set (xs.getD i 0).toNat true, val := x.val.set (xs.getD i 0).toNat (ys.getD i 0) } := by
  have hn := h.len.2.2
  have hs := h.known h0 h1
  obtain ⟨g, ho, hg⟩ := h
  refine ⟨_, ho.fill (y := ys.getD i 0) h0 (by rw [hn]; exact h1) hy, fun j hj hj1 => ?_⟩
  rw [fsUpto_succ, hs, hk]
  simp only [mupd, cond_false]
  rw [hg j hj hj1]
theorem KI.skip (h : KI m xs ys i x) (hk : 0 ≤ xs.getD i 0 → xs.getD i 0 < m → x.knows.getD (xs.getD i 0).toNat false = true) : KI m xs ys (i + 1) x := by
  have hs := fun h0 h1 => h.known (c := xs.getD i 0) h0 h1
  obtain ⟨g, ho, hg⟩ := h
  refine ⟨g, ho, fun j hj hj1 => ?_⟩
  rw [fsUpto_succ, hg j hj hj1]
  cases hq : (fsUpto xs ys i (xs.getD i 0)).isSome with
  | true => rfl
  | false =>
    simp only [cond_false, mupd]
    cases hb : j == xs.getD i 0 with
    | false => rfl
    | true =>
      have e : j = xs.getD i 0 := by simpa using hb
      subst e
      rw [hs hj hj1, hk hj hj1] at hq
      cases hq
theorem KI.done (h : KI m xs ys xs.length x) : ROk x (VS.known m xs ys) := by
  have hn := h.len.2.2
  obtain ⟨g, ho, hg⟩ := h
  exact { ho with
    src := fun j hj hj1 => by
      rw [← ho.src j hj hj1]
      rw [hn] at hj1
      exact (hg j hj hj1).symm }
end
end Go.Proofs.Ytdbpiopcbhmieaa
