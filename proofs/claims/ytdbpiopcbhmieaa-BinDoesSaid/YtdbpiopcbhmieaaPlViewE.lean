/-
  DERIVED. The entries of the program's view.
-/
import Derived.Test.YtdbpiopcbhmieaaPlView
namespace Go.Proofs.Ytdbpiopcbhmieaa
open Go.Sl Go.RowKit

theorem readsW_ok {x : VX} {s : VS} (ho : VOk true x s) (b : Nat) : readsW_wp0 b x.n x.aw x.cw x.vals x.mr x.fr x.ar x.cr x.nr x.reads x.mp x.fp x.aq x.cq x.nq x.qc x.qv x.miss x.stuck (fun st r => VOk true (mkW x.ms x.fs st) s ∧ r = s.reads) := by
  have hb := ho.bound
  have := ho.nr
  refine ⟨(fun h => by cases h), fun _ r1 e => ⟨by omega, fun _ a c => ⟨ho, ?_⟩⟩⟩
  rw [e, ho.reads]; rfl
theorem readsK_ok {x : VX} {s : VS} (ho : VOk false x s) (b : Nat) : readsK_wp0 b x.n x.ms x.fs x.mr x.fr x.ar x.cr x.nr x.reads x.mp x.fp x.aq x.cq x.nq x.qc x.qv x.miss x.stuck (fun st r => VOk false (mkK x.aw x.cw x.vals st) s ∧ r = s.reads) := by
  have hb := ho.bound
  have := ho.nr
  refine ⟨(fun h => by cases h), fun _ r1 e => ⟨by omega, fun _ a c => ⟨ho, ?_⟩⟩⟩
  rw [e, ho.reads]; rfl
theorem VOk.puts {k : Bool} {x : VX} {s : VS} (ho : VOk k x s) : x.qv = s.puts := by
  unfold VS.puts
  rw [ho.wrote]
  apply List.ext_getElem (by simp [ho.ql])
  intro j h1 h2
  have hjq : j < x.qc.length := by rw [← ho.ql]; exact h1
  simp only [List.getElem_map, ho.put]
  have hi : x.qc.idxOf? x.qc[j] = some j := by
    rw [List.idxOf?_eq_some_iff]
    refine ⟨hjq, rfl, fun m hm e => ?_⟩
    have a := ho.wn.idxOf_getElem m (by omega)
    have b := ho.wn.idxOf_getElem j hjq
    rw [e] at a; omega
  rw [hi]
  simp [List.getD_eq_getElem?_getD, h1]
theorem writesW_ok {x : VX} {s : VS} (ho : VOk true x s) (b : Nat) : writesW_wp0 b x.n x.aw x.cw x.vals x.mr x.fr x.ar x.cr x.nr x.reads x.mp x.fp x.aq x.cq x.nq x.qc x.qv x.miss x.stuck (fun st r => VOk true (mkW x.ms x.fs st) s ∧ r = (s.wrote, s.puts)) := by
  have hb := ho.bound
  have := ho.nq
  refine ⟨(fun h => by cases h), fun _ r1 e => ⟨by omega, fun _ a c => ⟨ho, ?_⟩⟩⟩
  rw [e, ho.wrote, ← ho.puts]; rfl
theorem writesK_ok {x : VX} {s : VS} (ho : VOk false x s) (b : Nat) : writesK_wp0 b x.n x.ms x.fs x.mr x.fr x.ar x.cr x.nr x.reads x.mp x.fp x.aq x.cq x.nq x.qc x.qv x.miss x.stuck (fun st r => VOk false (mkK x.aw x.cw x.vals st) s ∧ r = (s.wrote, s.puts)) := by
  have hb := ho.bound
  have := ho.nq
  refine ⟨(fun h => by cases h), fun _ r1 e => ⟨by omega, fun _ a c => ⟨ho, ?_⟩⟩⟩
  rw [e, ho.wrote, ← ho.puts]; rfl
theorem missingW_ok {x : VX} {s : VS} (ho : VOk true x s) (b : Nat) : missingW_wp0 b x.n x.aw x.cw x.vals x.mr x.fr x.ar x.cr x.nr x.reads x.mp x.fp x.aq x.cq x.nq x.qc x.qv x.miss x.stuck (fun st r => VOk true (mkW x.ms x.fs st) s ∧ r = s.miss) := by
  unfold missingW_wp0
  have hm := ho.miss
  have ho' : VOk true (mkW x.ms x.fs ⟨x.n, x.aw, x.cw, x.vals, x.mr, x.fr, x.ar, x.cr, x.nr, x.reads, x.mp, x.fp, x.aq, x.cq, x.nq, x.qc, x.qv, x.miss, x.stuck⟩) s := ho
  cases hs : x.stuck with
  | false =>
    rw [hs] at hm ho'
    exact ⟨fun _ => ⟨ho', hm.symm⟩, fun h => by cases h⟩
  | true =>
    rw [hs] at hm ho'
    exact ⟨(fun h => by cases h), fun _ => ⟨ho', hm.symm⟩⟩
theorem missingK_ok {x : VX} {s : VS} (ho : VOk false x s) (b : Nat) : missingK_wp0 b x.n x.ms x.fs x.mr x.fr x.ar x.cr x.nr x.reads x.mp x.fp x.aq x.cq x.nq x.qc x.qv x.miss x.stuck (fun st r => VOk false (mkK x.aw x.cw x.vals st) s ∧ r = s.miss) := by
  unfold missingK_wp0
  have hm := ho.miss
  have ho' : VOk false (mkK x.aw x.cw x.vals ⟨x.n, x.ms, x.fs, x.mr, x.fr, x.ar, x.cr, x.nr, x.reads, x.mp, x.fp, x.aq, x.cq, x.nq, x.qc, x.qv, x.miss, x.stuck⟩) s := ho
  cases hs : x.stuck with
  | false =>
    rw [hs] at hm ho'
    exact ⟨fun _ => ⟨ho', hm.symm⟩, fun h => by cases h⟩
  | true =>
    rw [hs] at hm ho'
    exact ⟨(fun h => by cases h), fun _ => ⟨ho', hm.symm⟩⟩

section
variable {E : World} {G : Hp} {β : Type} {out : β → List Value → Value} {rows : β → List (Mk Sg)} {r0 : β} {s' : VS} {b : Nat}
theorem fin_w {ms : Nat} {fs : IM} {Kf : WSt → List (Chunk Sg)} {ok : WSt → β → Prop} (hok : ∀ st r, ok st r → VOk true (mkW ms fs st) s' ∧ r = r0) (hK : ∀ st, Kf st = (mkW ms fs st).Kw b) :
    ∀ v p K w, ObjRet Kf out rows ok v p K → SatK Dg E G w K → ∃ acs : List (Option Nat × Nat), acsOk (rows r0) acs ∧ Ending.returned v = .returned (out r0 (List.zipWith sliceV (rows r0) acs)) ∧ Sat E G w ([Dg ⟨b, 0, none⟩ (.view s')] ++ (List.zipWith sliceC (rows r0) acs).map (den Dg G)) := by
  rintro v p K w ⟨st, r, h, hr⟩ hS
  obtain ⟨h1, rfl⟩ := hok st r h
  obtain ⟨acs, e1, e2, e3⟩ := hr.post Dg hS
  rw [hK] at e3
  exact ⟨acs, e1, e2, view_foldw e3 h1⟩
theorem fin_k {aw : Option Nat} {cw : Nat} {vals : List Int} {Kf : KSt → List (Chunk Sg)} {ok : KSt → β → Prop} (hok : ∀ st r, ok st r → VOk false (mkK aw cw vals st) s' ∧ r = r0) (hK : ∀ st, Kf st = (mkK aw cw vals st).Kk b) :
    ∀ v p K w, ObjRet Kf out rows ok v p K → SatK Dg E G w K → ∃ acs : List (Option Nat × Nat), acsOk (rows r0) acs ∧ Ending.returned v = .returned (out r0 (List.zipWith sliceV (rows r0) acs)) ∧ Sat E G w ([Dg ⟨b, 0, none⟩ (.view s')] ++ (List.zipWith sliceC (rows r0) acs).map (den Dg G)) := by
  rintro v p K w ⟨st, r, h, hr⟩ hS
  obtain ⟨h1, rfl⟩ := hok st r h
  obtain ⟨acs, e1, e2, e3⟩ := hr.post Dg hS
  rw [hK] at e3
  exact ⟨acs, e1, e2, view_foldk e3 h1⟩
end

def view_Get_e : Entry Sg := fun
  | [(.pointer (some p), .obj (.view s)), (.int .i64 i, _)] => some ⟨(s.read i, s.get i), fun (r_ : VS × Int) => ⟨[], some (.view r_.1), [], fun _ => .int .u32 r_.2, fun _ => .no⟩⟩
  | _ => none
theorem view_Get_ok : EntryOk Dg Try.prog 28 view_Get_e := by
  intro args c r h hr_
  unfold view_Get_e at h
  split at h
  · rename_i p s i _
    injection h with h; subst h; subst hr_
    refine ⟨fun K acs _ => pOk_no, fun hpre E G w hi hS => ?_⟩
    obtain ⟨b, x, rfl, ⟨ho, hK⟩ | ⟨ho, hK⟩⟩ := view_unfold (show Sat E G w [Dg p (.view s)] from hS)
    · exact getW_open b x.n x.aw x.cw x.vals x.mr x.fr x.ar x.cr x.nr x.reads x.mp x.fp x.aq x.cq x.nq x.qc x.qv x.miss x.stuck i (fin_w (b := b) (r0 := s.get i) (s' := s.read i) (fun _ _ h => h) (fun ⟨_, _, _, _, _, _, _, _, _, _, _, _, _, _, _, _, _, _, _⟩ => rfl)) hK (getW_ok ho b i)
    · exact getK_open b x.n x.ms x.fs x.mr x.fr x.ar x.cr x.nr x.reads x.mp x.fp x.aq x.cq x.nq x.qc x.qv x.miss x.stuck i (fin_k (b := b) (r0 := s.get i) (s' := s.read i) (fun _ _ h => h) (fun ⟨_, _, _, _, _, _, _, _, _, _, _, _, _, _, _, _, _, _⟩ => rfl)) hK (getK_ok ho b i)
  · cases h
def view_Put_e : Entry Sg := fun
  | [(.pointer (some p), .obj (.view s)), (.int .i64 i, _), (.int .u32 y, _)] => some ⟨s.set i y, fun (r_ : VS) => ⟨[bd32 y], some (.view r_), [], fun _ => undef, fun _ => .no⟩⟩
  | _ => none
theorem view_Put_ok : EntryOk Dg Try.prog 27 view_Put_e := by
  intro args c r h hr_
  unfold view_Put_e at h
  split at h
  · rename_i p s i _ y _
    injection h with h; subst h; subst hr_
    refine ⟨fun K acs _ => pOk_no, fun hpre E G w hi hS => ?_⟩
    have hy : bd32 y := hpre _ (by simp)
    obtain ⟨b, x, rfl, ⟨ho, hK⟩ | ⟨ho, hK⟩⟩ := view_unfold (show Sat E G w [Dg p (.view s)] from hS)
    · exact putW_open b x.n x.aw x.cw x.vals x.mr x.fr x.ar x.cr x.nr x.reads x.mp x.fp x.aq x.cq x.nq x.qc x.qv x.miss x.stuck i y (fin_w (b := b) (r0 := ()) (s' := s.set i y) (fun _ _ h => ⟨h, rfl⟩) (fun ⟨_, _, _, _, _, _, _, _, _, _, _, _, _, _, _, _, _, _, _⟩ => rfl)) hK (putW_ok ho b i y hy)
    · exact putK_open b x.n x.ms x.fs x.mr x.fr x.ar x.cr x.nr x.reads x.mp x.fp x.aq x.cq x.nq x.qc x.qv x.miss x.stuck i y (fin_k (b := b) (r0 := ()) (s' := s.set i y) (fun _ _ h => ⟨h, rfl⟩) (fun ⟨_, _, _, _, _, _, _, _, _, _, _, _, _, _, _, _, _, _⟩ => rfl)) hK (putK_ok ho b i y hy)
  · cases h
def view_Reads_e : Entry Sg := fun
  | [(.pointer (some p), .obj (.view s))] => some ⟨s.reads, fun (r_ : List Int) => ⟨[], some (.view s), [.row 3 [.ints .i64 r_]], fun ss => ss.getD 0 undef, fun k => .pt k .slice⟩⟩
  | _ => none
theorem view_Reads_ok : EntryOk Dg Try.prog 19 view_Reads_e := by
  intro args c r h hr_
  unfold view_Reads_e at h
  split at h
  · rename_i p s
    injection h with h; subst h; subst hr_
    refine ⟨(by
      intro K acs hl
      match acs, hl with
      | [a0_], hl => simp [pOk, psOk, cOk, sliceC, sliceV, sliceVal, lenC, Col.len]), fun hpre E G w hi hS => ?_⟩
    obtain ⟨b, x, rfl, ⟨ho, hK⟩ | ⟨ho, hK⟩⟩ := view_unfold (show Sat E G w [Dg p (.view s)] from hS)
    · exact readsW_open b x.n x.aw x.cw x.vals x.mr x.fr x.ar x.cr x.nr x.reads x.mp x.fp x.aq x.cq x.nq x.qc x.qv x.miss x.stuck (fin_w (b := b) (r0 := s.reads) (s' := s) (fun _ _ h => h) (fun ⟨_, _, _, _, _, _, _, _, _, _, _, _, _, _, _, _, _, _, _⟩ => rfl)) hK (readsW_ok ho b)
    · exact readsK_open b x.n x.ms x.fs x.mr x.fr x.ar x.cr x.nr x.reads x.mp x.fp x.aq x.cq x.nq x.qc x.qv x.miss x.stuck (fin_k (b := b) (r0 := s.reads) (s' := s) (fun _ _ h => h) (fun ⟨_, _, _, _, _, _, _, _, _, _, _, _, _, _, _, _, _, _⟩ => rfl)) hK (readsK_ok ho b)
  · cases h
def view_Writes_e : Entry Sg := fun
  | [(.pointer (some p), .obj (.view s))] => some ⟨(s.wrote, s.puts), fun (r_ : List Int × List Int) => ⟨[], some (.view s), [.row 46 [.ints .i64 r_.1, .ints .u32 r_.2]], fun ss => ss.getD 0 undef, fun k => .pt k .slice⟩⟩
  | _ => none
theorem view_Writes_ok : EntryOk Dg Try.prog 20 view_Writes_e := by
  intro args c r h hr_
  unfold view_Writes_e at h
  split at h
  · rename_i p s
    injection h with h; subst h; subst hr_
    refine ⟨(by
      intro K acs hl
      match acs, hl with
      | [a0_], hl => simp [pOk, psOk, cOk, sliceC, sliceV, sliceVal, lenC, Col.len]), fun hpre E G w hi hS => ?_⟩
    obtain ⟨b, x, rfl, ⟨ho, hK⟩ | ⟨ho, hK⟩⟩ := view_unfold (show Sat E G w [Dg p (.view s)] from hS)
    · exact writesW_open b x.n x.aw x.cw x.vals x.mr x.fr x.ar x.cr x.nr x.reads x.mp x.fp x.aq x.cq x.nq x.qc x.qv x.miss x.stuck (fin_w (b := b) (r0 := (s.wrote, s.puts)) (s' := s) (fun _ _ h => h) (fun ⟨_, _, _, _, _, _, _, _, _, _, _, _, _, _, _, _, _, _, _⟩ => rfl)) hK (writesW_ok ho b)
    · exact writesK_open b x.n x.ms x.fs x.mr x.fr x.ar x.cr x.nr x.reads x.mp x.fp x.aq x.cq x.nq x.qc x.qv x.miss x.stuck (fin_k (b := b) (r0 := (s.wrote, s.puts)) (s' := s) (fun _ _ h => h) (fun ⟨_, _, _, _, _, _, _, _, _, _, _, _, _, _, _, _, _, _⟩ => rfl)) hK (writesK_ok ho b)
  · cases h
def view_Missing_e : Entry Sg := fun
  | [(.pointer (some p), .obj (.view s))] => some ⟨s.miss, fun (r_ : Int) => ⟨[], some (.view s), [], fun _ => .int .i64 r_, fun _ => .no⟩⟩
  | _ => none
theorem view_Missing_ok : EntryOk Dg Try.prog 21 view_Missing_e := by
  intro args c r h hr_
  unfold view_Missing_e at h
  split at h
  · rename_i p s
    injection h with h; subst h; subst hr_
    refine ⟨fun K acs _ => pOk_no, fun hpre E G w hi hS => ?_⟩
    obtain ⟨b, x, rfl, ⟨ho, hK⟩ | ⟨ho, hK⟩⟩ := view_unfold (show Sat E G w [Dg p (.view s)] from hS)
    · exact missingW_open b x.n x.aw x.cw x.vals x.mr x.fr x.ar x.cr x.nr x.reads x.mp x.fp x.aq x.cq x.nq x.qc x.qv x.miss x.stuck (fin_w (b := b) (r0 := s.miss) (s' := s) (fun _ _ h => h) (fun ⟨_, _, _, _, _, _, _, _, _, _, _, _, _, _, _, _, _, _, _⟩ => rfl)) hK (missingW_ok ho b)
    · exact missingK_open b x.n x.ms x.fs x.mr x.fr x.ar x.cr x.nr x.reads x.mp x.fp x.aq x.cq x.nq x.qc x.qv x.miss x.stuck (fin_k (b := b) (r0 := s.miss) (s' := s) (fun _ _ h => h) (fun ⟨_, _, _, _, _, _, _, _, _, _, _, _, _, _, _, _, _, _⟩ => rfl)) hK (missingK_ok ho b)
  · cases h
end Go.Proofs.Ytdbpiopcbhmieaa
