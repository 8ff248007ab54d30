/-
  DERIVED. Whether a view of the program has read, and written, the same as the reference's: the entry.
-/
import Derived.Test.YtdbpiopcbhmieaaSlView8
namespace Go.Proofs.Ytdbpiopcbhmieaa
open Go.Sl Go.RowKit

/-- A view of the reference is closed. -/
theorem ref_close {f : FuncId} {R : Ending → World → Prop} {B : Code} {n : Nat} {E : World} {G : Hp} {td : List Ab} {L : List Ent} {K : List (Chunk Sg)} (k : Nat) (ks : List Nat) {b : Nat} {cs : List (Value × Pr)} {x : RX} {s : VS} (hn : (k :: ks).Nodup)
    (hk : K[k]? = some (.cells b 107 cs)) (hcs : cs.map (·.1) = (x.cells 0).map (·.1)) (hr : ∀ (i : Nat) c, x.rows[i]? = some c → ∃ j, ks[i]? = some j ∧ K[j]? = some c) (hno : ∀ (j : Nat) b t cs, j ≠ k → K[j]? ≠ some (.cells b t cs)) (ho : ROk x s)
    (h : SW Dg Try.prog f R B n E G td (clL k ks L) ((setAll K .dead ks).set k (.obj ⟨b, 0, none⟩ (.ref s)))) : SW Dg Try.prog f R B n E G td L K := by
  refine SW.close Dg k ks (rs := x.rows) hn hk hr hno (fun hh hs => ?_) h
  refine ⟨(b, x), ⟨rfl, ho⟩, ?_⟩
  have e : (Chunk.cells b 107 cs :: x.rows).map (den Dg G) = (x.K b).map (den D0 G0) := by
    simp only [List.map_cons, RX.K, RX.rows, List.map_nil]
    congr 1
    simp only [den]
    rw [hcs]
    rfl
  rw [← e]; exact hs
theorem rows6 {x : RX} {K : List (Chunk Sg)} {k0 : Nat} (h0 : K[k0]? = x.rows[0]?) (h1 : K[k0 + 1]? = x.rows[1]?) (h2 : K[k0 + 2]? = x.rows[2]?) (h3 : K[k0 + 3]? = x.rows[3]?) (h4 : K[k0 + 4]? = x.rows[4]?) (h5 : K[k0 + 5]? = x.rows[5]?) :
    ∀ (i : Nat) c, x.rows[i]? = some c → ∃ j, [k0, k0 + 1, k0 + 2, k0 + 3, k0 + 4, k0 + 5][i]? = some j ∧ K[j]? = some c := by
  intro i c hc
  match i, hc with
  | 0, hc => exact ⟨_, rfl, h0.trans hc⟩
  | 1, hc => exact ⟨_, rfl, h1.trans hc⟩
  | 2, hc => exact ⟨_, rfl, h2.trans hc⟩
  | 3, hc => exact ⟨_, rfl, h3.trans hc⟩
  | 4, hc => exact ⟨_, rfl, h4.trans hc⟩
  | 5, hc => exact ⟨_, rfl, h5.trans hc⟩
  | i + 6, hc => simp [RX.rows] at hc

abbrev sameSW (E_ : World) (G_ : Hp) (s : VS) (rs ws us : List Int) (m : Int) (p_0 : Addr) (td : List Ab) (L : List Ent) (K : List (Chunk Sg)) : Prop :=
  SW Dg Try.prog 18 (Post Dg E_ G_ (same_out (same s rs ws us m)) (same_nw p_0 (same s rs ws us m)) (same_rows (same s rs ws us m))) (bodyOf Try.f18) Try.f18.ntmps E_ G_ td L K
section
variable {E_ : World} {G_ : Hp} {w_ : World} (s : VS) (rs : List Int) (ws : List Int) (us : List Int) (m : Int) (p_0 : Addr) (a_1 : Option Addr) (c_1 : Nat) (a_2 : Option Addr) (c_2 : Nat)
theorem same_g8 (q : Bool) (hq : same s rs ws us m = (s, q && decide (m = s.miss))) (y : Int) (bb : Nat) (n : Int) (ak : Option Nat) (ck : Nat) (nk : Nat) (knows : List Bool) (av : Option Nat) (cv : Nat) (nv : Nat) (val : List Int) (ap : Option Nat) (cp : Nat) (np : Nat) (isput : List Bool) (ato : Option Nat) (cto : Nat) (nt : Nat) (to : List Int) (ar : Option Nat) (cr : Nat) (nr : Nat) (reads : List Int) (aq : Option Nat) (cq : Nat) (nq : Nat) (wrote : List Int) (miss : Int) (all : Bool) (hp : p_0 = ⟨bb, 0, none⟩) (hy : y = s.miss) (ho : ROk ⟨n, ak, ck, nk, knows, av, cv, nv, val, ap, cp, np, isput, ato, cto, nt, to, ar, cr, nr, reads, aq, cq, nq, wrote, miss, all⟩ s) :
    sameSW E_ G_ s rs ws us m p_0 (.ops [0,1] 18 :: [.code [1,1]]) (same_L8 s rs ws us m p_0 a_1 c_1 a_2 c_2 q y bb n ak ck nk knows av cv nv val ap cp np isput ato cto nt to ar cr nr reads aq cq nq wrote miss all) (same_K8 s rs ws us m p_0 a_1 c_1 a_2 c_2 q y bb n ak ck nk knows av cv nv val ap cp np isput ato cto nt to ar cr nr reads aq cq nq wrote miss all) := by
  subst hp
  refine ref_close 0 [1, 2, 3, 4, 5, 6] (by decide) rfl rfl (rows6 (k0 := 1) rfl rfl rfl rfl rfl rfl) (fun j b t cs hj e => ?_) ho ?_
  · match j, hj, e with
    | 0, hj, _ => exact hj rfl
    | 1, _, e => cases e
    | 2, _, e => cases e
    | 3, _, e => cases e
    | 4, _, e => cases e
    | 5, _, e => cases e
    | 6, _, e => cases e
    | j + 7, _, e => simp at e
  · refine SW.move Dg [26, 22, 21, 0] [0] (by decide) (by kernel_rfl) (by kernel_rfl) (same_go4 s rs ws us m ⟨bb, 0, none⟩ a_1 c_1 a_2 c_2 q y (Q1 := fun _ _ _ _ _ _ _ _ _ _ _ _ _ _ _ _ _ _ _ _ _ _ _ _ _ _ _ _ _ => False) (Q2 := fun _ => False) (Q3 := fun _ _ _ _ _ _ _ _ _ _ _ _ _ _ _ _ _ _ _ _ _ _ _ _ _ _ _ _ _ => False) (Q4 := fun _ _ => False) (Q5 := fun _ => False) (Q6 := fun _ _ _ _ _ _ _ _ _ _ _ _ _ _ _ _ _ _ _ _ _ _ _ _ _ _ _ _ _ _ => False) (Q7 := fun _ => False) (Q8 := fun _ _ _ _ _ _ _ _ _ _ _ _ _ _ _ _ _ _ _ _ _ _ _ _ _ _ _ _ _ _ => False) ⟨fun _ _ _ _ _ _ _ _ _ _ _ _ _ _ _ _ _ _ _ _ _ _ _ _ _ _ _ _ _ h => h.elim, fun _ h => h.elim, fun _ _ _ _ _ _ _ _ _ _ _ _ _ _ _ _ _ _ _ _ _ _ _ _ _ _ _ _ _ h => h.elim, fun _ _ h => h.elim, fun _ h => h.elim, fun _ _ _ _ _ _ _ _ _ _ _ _ _ _ _ _ _ _ _ _ _ _ _ _ _ _ _ _ _ _ h => h.elim, fun _ h => h.elim, fun _ _ _ _ _ _ _ _ _ _ _ _ _ _ _ _ _ _ _ _ _ _ _ _ _ _ _ _ _ _ h => h.elim⟩ ?_)
    show (s, q && m == y) = same s rs ws us m
    rw [hq, hy]
    congr 2
theorem same_g7 (q : Bool) (hq : same s rs ws us m = (s, q && decide (m = s.miss))) : sameSW E_ G_ s rs ws us m p_0 (.ops [0,1] 16 :: [.code [1,1]]) (same_L7 s rs ws us m p_0 a_1 c_1 a_2 c_2 q) (same_K7 s rs ws us m p_0 a_1 c_1 a_2 c_2 q) := by
  refine ref_open 0 rfl fun b x hp ho => ?_
  have hm := ho.miss
  obtain ⟨n, ak, ck, nk, knows, av, cv, nv, val, ap, cp, np, isput, ato, cto, nt, to, ar, cr, nr, reads, aq, cq, nq, wrote, miss, all⟩ := x
  subst hp
  exact same_go3 s rs ws us m ⟨b, 0, none⟩ a_1 c_1 a_2 c_2 q b n ak ck nk knows av cv nv val ap cp np isput ato cto nt to ar cr nr reads aq cq nq wrote miss all (Q1 := fun _ _ _ _ _ _ _ _ _ _ _ _ _ _ _ _ _ _ _ _ _ _ _ _ _ _ _ _ _ => False) (Q2 := fun _ => False) (Q3 := fun _ _ _ _ _ _ _ _ _ _ _ _ _ _ _ _ _ _ _ _ _ _ _ _ _ _ _ _ _ => False) (Q4 := fun _ _ => False) (Q5 := fun _ => False) (Q6 := fun _ _ _ _ _ _ _ _ _ _ _ _ _ _ _ _ _ _ _ _ _ _ _ _ _ _ _ _ _ _ => False) (Q7 := fun _ => False) (Q8 := fun q' y' bb n ak ck nk knows av cv nv val ap cp np isput ato cto nt to ar cr nr reads aq cq nq wrote miss all => q' = q ∧ bb = b ∧ y' = s.miss ∧ ROk ⟨n, ak, ck, nk, knows, av, cv, nv, val, ap, cp, np, isput, ato, cto, nt, to, ar, cr, nr, reads, aq, cq, nq, wrote, miss, all⟩ s)
      ⟨fun _ _ _ _ _ _ _ _ _ _ _ _ _ _ _ _ _ _ _ _ _ _ _ _ _ _ _ _ _ h => h.elim, fun _ h => h.elim, fun _ _ _ _ _ _ _ _ _ _ _ _ _ _ _ _ _ _ _ _ _ _ _ _ _ _ _ _ _ h => h.elim, fun _ _ h => h.elim, fun _ h => h.elim, fun _ _ _ _ _ _ _ _ _ _ _ _ _ _ _ _ _ _ _ _ _ _ _ _ _ _ _ _ _ _ h => h.elim, fun _ h => h.elim, fun q' y' bb n ak ck nk knows av cv nv val ap cp np isput ato cto nt to ar cr nr reads aq cq nq wrote miss all h => by
        obtain ⟨rfl, rfl, h3, h4⟩ := h
        exact same_g8 s rs ws us m ⟨bb, 0, none⟩ a_1 c_1 a_2 c_2 q' hq y' bb n ak ck nk knows av cv nv val ap cp np isput ato cto nt to ar cr nr reads aq cq nq wrote miss all rfl h3 h4⟩ ⟨rfl, rfl, hm.symm, ho⟩
theorem same_g2 (hp0 : ws.length = us.length) : sameSW E_ G_ s rs ws us m p_0 (.ops [0,1] 6 :: [.code [1,1]]) (same_L2 s rs ws us m p_0 a_1 c_1 a_2 c_2 (eqInts rs s.reads)) (same_K2 s rs ws us m p_0 a_1 c_1 a_2 c_2 (eqInts rs s.reads)) := by
  refine same_go2 s rs ws us m p_0 a_1 c_1 a_2 c_2 (eqInts rs s.reads) (Q1 := fun _ _ _ _ _ _ _ _ _ _ _ _ _ _ _ _ _ _ _ _ _ _ _ _ _ _ _ _ _ => False) (Q2 := fun _ => False) (Q3 := fun _ _ _ _ _ _ _ _ _ _ _ _ _ _ _ _ _ _ _ _ _ _ _ _ _ _ _ _ _ => False) (Q4 := fun _ _ => False) (Q5 := fun _ => False) (Q6 := fun _ _ _ _ _ _ _ _ _ _ _ _ _ _ _ _ _ _ _ _ _ _ _ _ _ _ _ _ _ _ => False) (Q7 := fun q => same s rs ws us m = (s, q && decide (m = s.miss))) (Q8 := fun _ _ _ _ _ _ _ _ _ _ _ _ _ _ _ _ _ _ _ _ _ _ _ _ _ _ _ _ _ _ => False)
      ⟨fun _ _ _ _ _ _ _ _ _ _ _ _ _ _ _ _ _ _ _ _ _ _ _ _ _ _ _ _ _ h => h.elim, fun _ h => h.elim, fun _ _ _ _ _ _ _ _ _ _ _ _ _ _ _ _ _ _ _ _ _ _ _ _ _ _ _ _ _ h => h.elim, fun _ _ h => h.elim, fun _ h => h.elim, fun _ _ _ _ _ _ _ _ _ _ _ _ _ _ _ _ _ _ _ _ _ _ _ _ _ _ _ _ _ _ h => h.elim, fun q h => same_g7 s rs ws us m p_0 a_1 c_1 a_2 c_2 q h, fun _ _ _ _ _ _ _ _ _ _ _ _ _ _ _ _ _ _ _ _ _ _ _ _ _ _ _ _ _ _ h => h.elim⟩ ?_
  unfold same_wp2
  refine ⟨fun hq r1 e b2 c2 => ⟨fun _ => hp0, fun _ => ⟨fun _ => ?_, fun _ => ⟨fun hc => ?_, fun hc => ?_⟩⟩⟩, fun hq => ?_⟩
  · rw [e]; simp [VS.puts]
  · rw [e] at hc ⊢
    unfold same
    have e1 : decide (rs = s.reads) = true := hq
    have e2 : decide (ws = s.wrote ∧ us = s.puts) = true := hc
    show _ = (s, decide (ws = s.wrote ∧ us = s.puts) && _)
    rw [e1, e2]; rfl
  · rw [e] at hc
    have e2 : decide (ws = s.wrote ∧ us = s.puts) = false := hc
    unfold same
    rw [e2]; simp
  · unfold same
    have e1 : decide (rs = s.reads) = false := hq
    rw [e1]; rfl
theorem same_g6 (hp0 : ws.length = us.length) (bb : Nat) (n : Int) (ak : Option Nat) (ck : Nat) (nk : Nat) (knows : List Bool) (av : Option Nat) (cv : Nat) (nv : Nat) (val : List Int) (ap : Option Nat) (cp : Nat) (np : Nat) (isput : List Bool) (ato : Option Nat) (cto : Nat) (nt : Nat) (to : List Int) (ar : Option Nat) (cr : Nat) (nr : Nat) (reads : List Int) (aq : Option Nat) (cq : Nat) (nq : Nat) (wrote : List Int) (miss : Int) (all : Bool) (hp : p_0 = ⟨bb, 0, none⟩) (ho : ROk ⟨n, ak, ck, nk, knows, av, cv, nv, val, ap, cp, np, isput, ato, cto, nt, to, ar, cr, nr, reads, aq, cq, nq, wrote, miss, all⟩ s) :
    sameSW E_ G_ s rs ws us m p_0 (.ops [0,1] 6 :: [.code [1,1]]) (same_L6 s rs ws us m p_0 a_1 c_1 a_2 c_2 (eqInts rs s.reads) m bb n ak ck nk knows av cv nv val ap cp np isput ato cto nt to ar cr nr reads aq cq nq wrote miss all) (same_K6 s rs ws us m p_0 a_1 c_1 a_2 c_2 (eqInts rs s.reads) m bb n ak ck nk knows av cv nv val ap cp np isput ato cto nt to ar cr nr reads aq cq nq wrote miss all) := by
  subst hp
  refine ref_close 0 [2, 3, 4, 5, 6, 7] (by decide) rfl rfl (rows6 (k0 := 2) rfl rfl rfl rfl rfl rfl) (fun j b t cs hj e => ?_) ho ?_
  · match j, hj, e with
    | 0, hj, _ => exact hj rfl
    | 1, _, e => cases e
    | 2, _, e => cases e
    | 3, _, e => cases e
    | 4, _, e => cases e
    | 5, _, e => cases e
    | 6, _, e => cases e
    | 7, _, e => cases e
    | j + 8, _, e => simp at e
  · exact SW.move Dg [14, 0, 2, 3] [0, 1] (by decide) (by kernel_rfl) (by kernel_rfl) (same_g2 s rs ws us m ⟨bb, 0, none⟩ a_1 c_1 a_2 c_2 hp0)
theorem same_g5 (hp0 : ws.length = us.length) : sameSW E_ G_ s rs ws us m p_0 (.ops [0,1] 3 :: [.code [1,1]]) (same_L5 s rs ws us m p_0 a_1 c_1 a_2 c_2 m) (same_K5 s rs ws us m p_0 a_1 c_1 a_2 c_2 m) := by
  refine ref_open 0 rfl fun b x hp ho => ?_
  have hrd := ho.reads
  obtain ⟨n, ak, ck, nk, knows, av, cv, nv, val, ap, cp, np, isput, ato, cto, nt, to, ar, cr, nr, reads, aq, cq, nq, wrote, miss, all⟩ := x
  subst hp
  refine same_go1 s rs ws us m ⟨b, 0, none⟩ a_1 c_1 a_2 c_2 m b n ak ck nk knows av cv nv val ap cp np isput ato cto nt to ar cr nr reads aq cq nq wrote miss all (Q1 := fun _ _ _ _ _ _ _ _ _ _ _ _ _ _ _ _ _ _ _ _ _ _ _ _ _ _ _ _ _ => False) (Q2 := fun _ => False) (Q3 := fun _ _ _ _ _ _ _ _ _ _ _ _ _ _ _ _ _ _ _ _ _ _ _ _ _ _ _ _ _ => False) (Q4 := fun _ _ => False) (Q5 := fun _ => False) (Q6 := fun q' mm' bb n ak ck nk knows av cv nv val ap cp np isput ato cto nt to ar cr nr reads aq cq nq wrote miss all => q' = eqInts rs s.reads ∧ mm' = m ∧ bb = b ∧ ROk ⟨n, ak, ck, nk, knows, av, cv, nv, val, ap, cp, np, isput, ato, cto, nt, to, ar, cr, nr, reads, aq, cq, nq, wrote, miss, all⟩ s) (Q7 := fun _ => False) (Q8 := fun _ _ _ _ _ _ _ _ _ _ _ _ _ _ _ _ _ _ _ _ _ _ _ _ _ _ _ _ _ _ => False)
    ⟨fun _ _ _ _ _ _ _ _ _ _ _ _ _ _ _ _ _ _ _ _ _ _ _ _ _ _ _ _ _ h => h.elim, fun _ h => h.elim, fun _ _ _ _ _ _ _ _ _ _ _ _ _ _ _ _ _ _ _ _ _ _ _ _ _ _ _ _ _ h => h.elim, fun _ _ h => h.elim, fun _ h => h.elim, fun q' mm' bb n ak ck nk knows av cv nv val ap cp np isput ato cto nt to ar cr nr reads aq cq nq wrote miss all h => by
        obtain ⟨rfl, rfl, rfl, h4⟩ := h
        exact same_g6 s rs ws us mm' ⟨bb, 0, none⟩ a_1 c_1 a_2 c_2 hp0 bb n ak ck nk knows av cv nv val ap cp np isput ato cto nt to ar cr nr reads aq cq nq wrote miss all rfl h4, fun _ h => h.elim, fun _ _ _ _ _ _ _ _ _ _ _ _ _ _ _ _ _ _ _ _ _ _ _ _ _ _ _ _ _ _ h => h.elim⟩ ⟨?_, rfl, rfl, ho⟩
  show eqInts rs reads = eqInts rs s.reads
  have : s.reads = reads := hrd
  rw [this]
end
theorem same_calls {E_ : World} {G_ : Hp} {w_ : World} (s : VS) (rs : List Int) (ws : List Int) (us : List Int) (m : Int) (p_0 : Addr) (a_1 : Option Addr) (c_1 : Nat) (a_2 : Option Addr) (c_2 : Nat) (hr1 : RowAt G_ a_1 rs.length [.ints .i64 rs]) (hr2 : RowAt G_ a_2 ws.length [.ints .i64 ws, .ints .u32 us]) (hp0 : ws.length = us.length)
    (hS : Sat E_ G_ w_ [Dg p_0 (.ref s)]) : Calls Try.prog 18 #[(.pointer (some p_0)), (.slice a_1 rs.length c_1), (.slice a_2 ws.length c_2), (.int .i64 m)] w_ (Post Dg E_ G_ (same_out (same s rs ws us m)) (same_nw p_0 (same s rs ws us m)) (same_rows (same s rs ws us m))) := by
  refine same_start s rs ws us m p_0 a_1 c_1 a_2 c_2 hr1 hr2 (Q1 := fun _ _ _ _ _ _ _ _ _ _ _ _ _ _ _ _ _ _ _ _ _ _ _ _ _ _ _ _ _ => False) (Q2 := fun _ => False) (Q3 := fun _ _ _ _ _ _ _ _ _ _ _ _ _ _ _ _ _ _ _ _ _ _ _ _ _ _ _ _ _ => False) (Q4 := fun _ _ => False) (Q5 := fun mm => mm = m) (Q6 := fun _ _ _ _ _ _ _ _ _ _ _ _ _ _ _ _ _ _ _ _ _ _ _ _ _ _ _ _ _ _ => False) (Q7 := fun _ => False) (Q8 := fun _ _ _ _ _ _ _ _ _ _ _ _ _ _ _ _ _ _ _ _ _ _ _ _ _ _ _ _ _ _ => False)
    ⟨fun _ _ _ _ _ _ _ _ _ _ _ _ _ _ _ _ _ _ _ _ _ _ _ _ _ _ _ _ _ h => h.elim, fun _ h => h.elim, fun _ _ _ _ _ _ _ _ _ _ _ _ _ _ _ _ _ _ _ _ _ _ _ _ _ _ _ _ _ h => h.elim, fun _ _ h => h.elim, fun mm h => by subst h; exact same_g5 s rs ws us mm p_0 a_1 c_1 a_2 c_2 hp0, fun _ _ _ _ _ _ _ _ _ _ _ _ _ _ _ _ _ _ _ _ _ _ _ _ _ _ _ _ _ _ h => h.elim, fun _ h => h.elim, fun _ _ _ _ _ _ _ _ _ _ _ _ _ _ _ _ _ _ _ _ _ _ _ _ _ _ _ _ _ _ h => h.elim⟩ hS rfl
def ref_Same_e : Entry Sg := fun
  | [(.pointer (some p), .obj (.ref s)), (_, .row n_0 [.ints .i64 rs]), (_, .row n_1 [.ints .i64 ws, .ints .u32 us]), (.int .i64 m, _)] => some ⟨same s rs ws us m, fun (r_ : VS × Bool) => ⟨[(ws.length = us.length : Prop)], some (.ref r_.1), [], fun _ => .bool r_.2, fun _ => .no⟩⟩
  | _ => none
theorem ref_Same_ok : EntryOk Dg Try.prog 18 ref_Same_e := by
  intro args c r h hr_
  unfold ref_Same_e at h
  split at h
  · injection h with h; subst h; subst hr_
    refine ⟨fun K acs _ => pOk_no, fun hpre E G w hi hS => ?_⟩
    have hi_0 := hi _ (List.mem_of_getElem? (i := 1) rfl)
    simp only [iOk] at hi_0
    obtain ⟨a_0, c_0, e_0, hr0⟩ := hi_0
    have l_0 := hr0.len
    simp only [Col.len] at l_0
    subst l_0
    subst e_0
    have hi_1 := hi _ (List.mem_of_getElem? (i := 2) rfl)
    simp only [iOk] at hi_1
    obtain ⟨a_1, c_1, e_1, hr1⟩ := hi_1
    have l_1 := hr1.len
    simp only [Col.len] at l_1
    subst l_1
    subst e_1
    exact entry_post Dg (by exact rfl) (same_calls _ _ _ _ _ _ _ _ _ _ hr0 hr1 (hpre _ (by simp)) hS)
  · cases h
def T_same : List (Nat × Entry Sg) := (18, ref_Same_e) :: T_eqPairs
theorem T_same_ok : TableOk Dg Try.prog T_same := TableOk.cons Dg ref_Same_ok T_eqPairs_ok
end Go.Proofs.Ytdbpiopcbhmieaa
