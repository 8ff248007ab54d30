/-
  DERIVED. What functions of the program compute, read off their bodies by the machine of SlB, and that it is so. Printed by a program of this claim's own (wip/gen/gen2.py).
-/
import Derived.Test.YtdbpiopcbhmieaaPlLow
namespace Go.Proofs.Ytdbpiopcbhmieaa
open Go.Sl
set_option linter.unusedSimpArgs false
set_option linter.unusedVariables false

theorem wu32_bd (x : Int) : bd32 (IntKind.wrap IntKind.u32 x) := by
  rw [IntKind.wrap_u32]
  exact ⟨by omega, by omega⟩
theorem zero_bd : bd32 0 := ⟨by decide, by decide⟩
theorem iVal_bd' (k l c : Int) : bd32 (info_Put k l c).1 := by rw [info_Put_val]; exact iVal_bd k l c
theorem iVal_bd2 (k l c : Int) : bd32 (r09_Value k l c) := by rw [r09_Value_eq]; exact iVal_bd k l c


/- (link.list).page -/
def link_page (s : VS) (t : Int) (p : Int) (h : Int) (hd : Int) (g : Int) : Bool := decide (g ≥ (0 : Int)) && decide (g < p)
def link_page_out (r_ : Bool) : List Value → Value := fun ss => .bool (r_)
def link_page_nw (p_0 : Addr) (s : VS) (r_ : Bool) : List (Chunk Sg) := [.obj p_0 (.view s)]
def link_page_rows (r_ : Bool) : List (Mk Sg) := []
section
variable (s : VS) (t : Int) (p : Int) (h : Int) (hd : Int) (g : Int) (p_0 : Addr)
theorem link_page_calls {E_ : World} {G_ : Hp} {w_ : World} (hS : Sat E_ G_ w_ [Dg p_0 ((.view s))]) : Calls Try.prog 107 #[(.agg #[.pointer (some p_0), .int .i64 t, .int .i64 p, .int .i64 h, .int .i64 hd]), (.int .i64 g)] w_ (Post Dg E_ G_ (link_page_out (link_page s t p h hd g)) (link_page_nw p_0 s (link_page s t p h hd g)) (link_page_rows (link_page s t p h hd g))) :=
  calls_post Dg T_r01_Log_ok (I := []) Try.func107 mix (B := bodyOf Try.f107) (by kernel_rfl) [(.agg #[.pointer (some p_0), .int .i64 t, .int .i64 p, .int .i64 h, .int .i64 hd]), (.int .i64 g)] [.many [.pt 0 .obj, .no, .no, .no, .no], .no] (by kernel_rfl) (objs := [.obj p_0 (.view s)]) (ros := []) (psOk_cons (by simp [pOk, psOk, cOk]) (psOk_cons pOk_no (psOk_nil))) (by kernel_rfl) (trivial) hS 400
    (t := Tree.fresh fun b => Tree.ret (Value.bool (decide (g ≥ (0 : Int)) && decide (g < p))) pn_ [Chunk.obj p_0 (Sg.view s), kc_ b 134 [(Value.pointer (some p_0), po_ 0), (vi_ t, pn_), (vi_ p, pn_), (vi_ h, pn_), (vi_ hd, pn_)]])
    (by kernel_rfl)
    (fun b0_0 => RetOk.at (outf := link_page_out) (nwf := link_page_nw p_0 _) (rowsf := link_page_rows) (r := decide (g ≥ (0 : Int)) && decide (g < p)) (by first | exact Eq.symm rfl | (simp only [link_page, cond_true, cond_false]; done) | (exfalso; simp_all; done) | decide) ⟨[], [0], (by decide), rfl, rfl, ⟨.inl rfl, trivial⟩⟩)
end
def link_page_e : Entry Sg := fun
  | [(.agg ⟨[.pointer (some p_0), .int .i64 t, .int .i64 p, .int .i64 h, .int .i64 hd]⟩, .many [.obj (.view s), _, _, _, _]), (.int .i64 g, _)] => some ⟨(link_page s t p h hd g), fun (r_ : Bool) => ⟨[], none, [], fun ss => .bool (r_), fun k_ => .no⟩⟩
  | _ => none
theorem link_page_ok : EntryOk Dg Try.prog 107 link_page_e := by
  intro args c r h hr_
  unfold link_page_e at h
  split at h
  · injection h with h; subst h; subst hr_
    refine ⟨fun K acs _ => pOk_no, fun hpre E G w hi hS => ?_⟩
    exact entry_post Dg (by exact rfl) (link_page_calls _ _ _ _ _ _ _  hS)
  · cases h
def T_link_page : List (Nat × Entry Sg) := (107, link_page_e) :: T_r01_Log
theorem T_link_page_ok : TableOk Dg Try.prog T_link_page := TableOk.cons Dg link_page_ok T_r01_Log_ok

/- (link.list).next -/
def link_next (s : VS) (t : Int) (p : Int) (h : Int) (hd : Int) (g : Int) : Int := place_Next t p h g
def link_next_out (r_ : Int) : List Value → Value := fun ss => .int .i64 (r_)
def link_next_nw (p_0 : Addr) (s : VS) (r_ : Int) : List (Chunk Sg) := [.obj p_0 (.view s)]
def link_next_rows (r_ : Int) : List (Mk Sg) := []
section
variable (s : VS) (t : Int) (p : Int) (h : Int) (hd : Int) (g : Int) (p_0 : Addr)
theorem link_next_calls {E_ : World} {G_ : Hp} {w_ : World} (hS : Sat E_ G_ w_ [Dg p_0 ((.view s))]) : Calls Try.prog 108 #[(.agg #[.pointer (some p_0), .int .i64 t, .int .i64 p, .int .i64 h, .int .i64 hd]), (.int .i64 g)] w_ (Post Dg E_ G_ (link_next_out (link_next s t p h hd g)) (link_next_nw p_0 s (link_next s t p h hd g)) (link_next_rows (link_next s t p h hd g))) :=
  calls_post Dg T_link_page_ok (I := []) Try.func108 mix (B := bodyOf Try.f108) (by kernel_rfl) [(.agg #[.pointer (some p_0), .int .i64 t, .int .i64 p, .int .i64 h, .int .i64 hd]), (.int .i64 g)] [.many [.pt 0 .obj, .no, .no, .no, .no], .no] (by kernel_rfl) (objs := [.obj p_0 (.view s)]) (ros := []) (psOk_cons (by simp [pOk, psOk, cOk]) (psOk_cons pOk_no (psOk_nil))) (by kernel_rfl) (trivial) hS 400
    (t := Tree.fresh fun b => Tree.ret (vi_ (place_Next t p h g)) pn_ [Chunk.obj p_0 (Sg.view s), kc_ b 134 [(Value.pointer (some p_0), po_ 0), (vi_ t, pn_), (vi_ p, pn_), (vi_ h, pn_), (vi_ hd, pn_)]])
    (by kernel_rfl)
    (fun b0_0 => RetOk.at (outf := link_next_out) (nwf := link_next_nw p_0 _) (rowsf := link_next_rows) (r := place_Next t p h g) (by first | exact Eq.symm rfl | (simp only [link_next, cond_true, cond_false]; done) | (exfalso; simp_all; done) | decide) ⟨[], [0], (by decide), rfl, rfl, ⟨.inl rfl, trivial⟩⟩)
end
def link_next_e : Entry Sg := fun
  | [(.agg ⟨[.pointer (some p_0), .int .i64 t, .int .i64 p, .int .i64 h, .int .i64 hd]⟩, .many [.obj (.view s), _, _, _, _]), (.int .i64 g, _)] => some ⟨(link_next s t p h hd g), fun (r_ : Int) => ⟨[], none, [], fun ss => .int .i64 (r_), fun k_ => .no⟩⟩
  | _ => none
theorem link_next_ok : EntryOk Dg Try.prog 108 link_next_e := by
  intro args c r h hr_
  unfold link_next_e at h
  split at h
  · injection h with h; subst h; subst hr_
    refine ⟨fun K acs _ => pOk_no, fun hpre E G w hi hS => ?_⟩
    exact entry_post Dg (by exact rfl) (link_next_calls _ _ _ _ _ _ _  hS)
  · cases h
def T_link_next : List (Nat × Entry Sg) := (108, link_next_e) :: T_link_page
theorem T_link_next_ok : TableOk Dg Try.prog T_link_next := TableOk.cons Dg link_next_ok T_link_page_ok

/- (link.list).prev -/
def link_prev (s : VS) (t : Int) (p : Int) (h : Int) (hd : Int) (g : Int) : Int := place_Prev t p h g
def link_prev_out (r_ : Int) : List Value → Value := fun ss => .int .i64 (r_)
def link_prev_nw (p_0 : Addr) (s : VS) (r_ : Int) : List (Chunk Sg) := [.obj p_0 (.view s)]
def link_prev_rows (r_ : Int) : List (Mk Sg) := []
section
variable (s : VS) (t : Int) (p : Int) (h : Int) (hd : Int) (g : Int) (p_0 : Addr)
theorem link_prev_calls {E_ : World} {G_ : Hp} {w_ : World} (hS : Sat E_ G_ w_ [Dg p_0 ((.view s))]) : Calls Try.prog 109 #[(.agg #[.pointer (some p_0), .int .i64 t, .int .i64 p, .int .i64 h, .int .i64 hd]), (.int .i64 g)] w_ (Post Dg E_ G_ (link_prev_out (link_prev s t p h hd g)) (link_prev_nw p_0 s (link_prev s t p h hd g)) (link_prev_rows (link_prev s t p h hd g))) :=
  calls_post Dg T_link_next_ok (I := []) Try.func109 mix (B := bodyOf Try.f109) (by kernel_rfl) [(.agg #[.pointer (some p_0), .int .i64 t, .int .i64 p, .int .i64 h, .int .i64 hd]), (.int .i64 g)] [.many [.pt 0 .obj, .no, .no, .no, .no], .no] (by kernel_rfl) (objs := [.obj p_0 (.view s)]) (ros := []) (psOk_cons (by simp [pOk, psOk, cOk]) (psOk_cons pOk_no (psOk_nil))) (by kernel_rfl) (trivial) hS 400
    (t := Tree.fresh fun b => Tree.ret (vi_ (place_Prev t p h g)) pn_ [Chunk.obj p_0 (Sg.view s), kc_ b 134 [(Value.pointer (some p_0), po_ 0), (vi_ t, pn_), (vi_ p, pn_), (vi_ h, pn_), (vi_ hd, pn_)]])
    (by kernel_rfl)
    (fun b0_0 => RetOk.at (outf := link_prev_out) (nwf := link_prev_nw p_0 _) (rowsf := link_prev_rows) (r := place_Prev t p h g) (by first | exact Eq.symm rfl | (simp only [link_prev, cond_true, cond_false]; done) | (exfalso; simp_all; done) | decide) ⟨[], [0], (by decide), rfl, rfl, ⟨.inl rfl, trivial⟩⟩)
end
def link_prev_e : Entry Sg := fun
  | [(.agg ⟨[.pointer (some p_0), .int .i64 t, .int .i64 p, .int .i64 h, .int .i64 hd]⟩, .many [.obj (.view s), _, _, _, _]), (.int .i64 g, _)] => some ⟨(link_prev s t p h hd g), fun (r_ : Int) => ⟨[], none, [], fun ss => .int .i64 (r_), fun k_ => .no⟩⟩
  | _ => none
theorem link_prev_ok : EntryOk Dg Try.prog 109 link_prev_e := by
  intro args c r h hr_
  unfold link_prev_e at h
  split at h
  · injection h with h; subst h; subst hr_
    refine ⟨fun K acs _ => pOk_no, fun hpre E G w hi hS => ?_⟩
    exact entry_post Dg (by exact rfl) (link_prev_calls _ _ _ _ _ _ _  hS)
  · cases h
def T_link_prev : List (Nat × Entry Sg) := (109, link_prev_e) :: T_link_next
theorem T_link_prev_ok : TableOk Dg Try.prog T_link_prev := TableOk.cons Dg link_prev_ok T_link_next_ok

/- link.to -/
def link_to (q : Int) : Int := IntKind.wrap IntKind.i64 (IntKind.wrap IntKind.i64 q - (1 : Int))
def link_to_out (r_ : Int) : List Value → Value := fun ss => .int .i64 (r_)
def link_to_nw (r_ : Int) : List (Chunk Sg) := []
def link_to_rows (r_ : Int) : List (Mk Sg) := []
section
variable (q : Int)
theorem link_to_calls {E_ : World} {G_ : Hp} {w_ : World} (hS : Sat E_ G_ w_ []) : Calls Try.prog 110 #[(.int .u32 q)] w_ (Post Dg E_ G_ (link_to_out (link_to q)) (link_to_nw (link_to q)) (link_to_rows (link_to q))) :=
  calls_post Dg T_link_prev_ok (I := []) Try.func110 mix (B := bodyOf Try.f110) (by kernel_rfl) [(.int .u32 q)] [.no] (by kernel_rfl) (objs := []) (ros := []) (psOk_cons pOk_no (psOk_nil)) (by kernel_rfl) (trivial) hS 400
    (t := Tree.ret (vi_ (IntKind.wrap IntKind.i64 (IntKind.wrap IntKind.i64 q - (1 : Int)))) pn_ [])
    (by kernel_rfl)
    (RetOk.at (outf := link_to_out) (nwf := link_to_nw) (rowsf := link_to_rows) (r := IntKind.wrap IntKind.i64 (IntKind.wrap IntKind.i64 q - (1 : Int))) (by first | exact Eq.symm rfl | (simp only [link_to, cond_true, cond_false]; done) | (exfalso; simp_all; done) | decide) ⟨[], [], (by decide), rfl, rfl, trivial⟩)
end
def link_to_e : Entry Sg := fun
  | [(.int .u32 q, _)] => some ⟨(link_to q), fun (r_ : Int) => ⟨[], none, [], fun ss => .int .i64 (r_), fun k_ => .no⟩⟩
  | _ => none
theorem link_to_ok : EntryOk Dg Try.prog 110 link_to_e := by
  intro args c r h hr_
  unfold link_to_e at h
  split at h
  · injection h with h; subst h; subst hr_
    refine ⟨fun K acs _ => pOk_no, fun hpre E G w hi hS => ?_⟩
    exact entry_post Dg (by exact rfl) (link_to_calls _  hS)
  · cases h
def T_link_to : List (Nat × Entry Sg) := (110, link_to_e) :: T_link_prev
theorem T_link_to_ok : TableOk Dg Try.prog T_link_to := TableOk.cons Dg link_to_ok T_link_prev_ok

/- link.Push -/
def link_Push (s : VS) (t : Int) (p : Int) (h : Int) (hd : Int) (g : Int) : VS := (bif !link_page s t p h hd g then s else (let r3 : VS × Int := (VS.read s hd, VS.get s hd); (let r4 : VS := VS.set (Prod.fst r3) (link_next (Prod.fst r3) t p h hd g) (Prod.snd r3); (let r6 : VS := VS.set r4 (link_prev r4 t p h hd g) (0 : Int); (bif Prod.snd r3 != (0 : Int) then (let r9 : VS := VS.set r6 (link_prev r6 t p h hd (link_to (Prod.snd r3))) (IntKind.wrap IntKind.u32 (IntKind.wrap IntKind.i64 (g + (1 : Int)))); (let r11 : VS := VS.set r9 hd (IntKind.wrap IntKind.u32 (IntKind.wrap IntKind.i64 (g + (1 : Int)))); r11)) else (let r9 : VS := VS.set r6 hd (IntKind.wrap IntKind.u32 (IntKind.wrap IntKind.i64 (g + (1 : Int)))); r9))))))
def link_Push_out (r_ : VS) : List Value → Value := fun ss => undef
def link_Push_nw (p_0 : Addr) (r_ : VS) : List (Chunk Sg) := [.obj p_0 (.view (r_))]
def link_Push_rows (r_ : VS) : List (Mk Sg) := []
section
variable (s : VS) (t : Int) (p : Int) (h : Int) (hd : Int) (g : Int) (p_0 : Addr)
theorem link_Push_calls {E_ : World} {G_ : Hp} {w_ : World} (hS : Sat E_ G_ w_ [Dg p_0 ((.view s))]) : Calls Try.prog 83 #[(.pointer (some p_0)), (.agg #[.int .i64 t, .int .i64 p, .int .i64 h]), (.int .i64 hd), (.int .i64 g)] w_ (Post Dg E_ G_ (link_Push_out (link_Push s t p h hd g)) (link_Push_nw p_0 (link_Push s t p h hd g)) (link_Push_rows (link_Push s t p h hd g))) :=
  calls_post Dg T_link_to_ok (I := []) Try.func83 mix (B := bodyOf Try.f83) (by kernel_rfl) [(.pointer (some p_0)), (.agg #[.int .i64 t, .int .i64 p, .int .i64 h]), (.int .i64 hd), (.int .i64 g)] [.pt 0 .obj, .no, .no, .no] (by kernel_rfl) (objs := [.obj p_0 (.view s)]) (ros := []) (psOk_cons (pOk_at rfl rfl) (psOk_cons pOk_no (psOk_cons pOk_no (psOk_cons pOk_no (psOk_nil))))) (by kernel_rfl) (trivial) hS 400
    (t := Tree.fresh fun b => Tree.fresh fun b_1 => Tree.br (!link_page s t p h hd g) (Tree.ret (Value.tuple { toList := [] }) pn_ [Chunk.obj p_0 (Sg.view s), kc_ b 77 [(vi_ t, pn_), (vi_ p, pn_), (vi_ h, pn_)], kc_ b_1 134 [(Value.pointer (some p_0), po_ 0), (vi_ t, pn_), (vi_ p, pn_), (vi_ h, pn_), (vi_ hd, pn_)]]) (Tree.bind (VS.read s hd, VS.get s hd) fun a => Tree.bind (VS.set (Prod.fst a) (link_next (Prod.fst a) t p h hd g) (Prod.snd a)) fun a_1 => Tree.need (bd32 (Prod.snd a)) (Tree.bind (VS.set a_1 (link_prev a_1 t p h hd g) (0 : Int)) fun a_2 => Tree.need (bd32 (0 : Int)) (Tree.br (Prod.snd a != (0 : Int)) (Tree.bind (VS.set a_2 (link_prev a_2 t p h hd (link_to (Prod.snd a))) (IntKind.wrap IntKind.u32 (IntKind.wrap IntKind.i64 (g + (1 : Int))))) fun a_3 => Tree.need (bd32 (IntKind.wrap IntKind.u32 (IntKind.wrap IntKind.i64 (g + (1 : Int))))) (Tree.bind (VS.set a_3 hd (IntKind.wrap IntKind.u32 (IntKind.wrap IntKind.i64 (g + (1 : Int))))) fun a_4 => Tree.need (bd32 (IntKind.wrap IntKind.u32 (IntKind.wrap IntKind.i64 (g + (1 : Int))))) (Tree.ret (Value.tuple { toList := [] }) pn_ [Chunk.obj p_0 (Option.getD (some (Sg.view a_4)) (Option.getD (some (Sg.view a_3)) (Option.getD (some (Sg.view a_2)) (Option.getD (some (Sg.view a_1)) (Option.getD (some (Sg.view (Prod.fst a))) (Sg.view s)))))), kc_ b 77 [(vi_ t, pn_), (vi_ p, pn_), (vi_ h, pn_)], kc_ b_1 134 [(Value.pointer (some p_0), po_ 0), (vi_ t, pn_), (vi_ p, pn_), (vi_ h, pn_), (vi_ hd, pn_)]]))) (Tree.bind (VS.set a_2 hd (IntKind.wrap IntKind.u32 (IntKind.wrap IntKind.i64 (g + (1 : Int))))) fun a_3 => Tree.need (bd32 (IntKind.wrap IntKind.u32 (IntKind.wrap IntKind.i64 (g + (1 : Int))))) (Tree.ret (Value.tuple { toList := [] }) pn_ [Chunk.obj p_0 (Option.getD (some (Sg.view a_3)) (Option.getD (some (Sg.view a_2)) (Option.getD (some (Sg.view a_1)) (Option.getD (some (Sg.view (Prod.fst a))) (Sg.view s))))), kc_ b 77 [(vi_ t, pn_), (vi_ p, pn_), (vi_ h, pn_)], kc_ b_1 134 [(Value.pointer (some p_0), po_ 0), (vi_ t, pn_), (vi_ p, pn_), (vi_ h, pn_), (vi_ hd, pn_)]]))))))
    (by kernel_rfl)
    (fun b0_0 => fun b1_0 => ⟨fun z2 => RetOk.at (outf := link_Push_out) (nwf := link_Push_nw p_0) (rowsf := link_Push_rows) (r := s) (by first | exact Eq.symm ((cT z2).trans rfl) | (simp only [link_Push, z2, cond_true, cond_false]; done) | (exfalso; simp_all; done) | decide) ⟨[], [0], (by decide), rfl, rfl, ⟨.inl rfl, trivial⟩⟩, fun z2 => fun r3 e3 => fun r4 e4 => ⟨by first | exact wu32_bd _ | exact VS.get_bd _ _ | exact zero_bd | exact iVal_bd' _ _ _ | exact iVal_bd2 _ _ _ | (subst_vars; exact VS.get_bd _ _) | (simp only [decide_eq_true_eq, decide_eq_false_iff_not, Bool.or_eq_false_iff] at *; omega) | omega, fun y5 => fun r6 e6 => ⟨by first | exact wu32_bd _ | exact VS.get_bd _ _ | exact zero_bd | exact iVal_bd' _ _ _ | exact iVal_bd2 _ _ _ | (subst_vars; exact VS.get_bd _ _) | (simp only [decide_eq_true_eq, decide_eq_false_iff_not, Bool.or_eq_false_iff] at *; omega) | omega, fun y7 => ⟨fun z8 => fun r9 e9 => ⟨by first | exact wu32_bd _ | exact VS.get_bd _ _ | exact zero_bd | exact iVal_bd' _ _ _ | exact iVal_bd2 _ _ _ | (subst_vars; exact VS.get_bd _ _) | (simp only [decide_eq_true_eq, decide_eq_false_iff_not, Bool.or_eq_false_iff] at *; omega) | omega, fun y10 => fun r11 e11 => ⟨by first | exact wu32_bd _ | exact VS.get_bd _ _ | exact zero_bd | exact iVal_bd' _ _ _ | exact iVal_bd2 _ _ _ | (subst_vars; exact VS.get_bd _ _) | (simp only [decide_eq_true_eq, decide_eq_false_iff_not, Bool.or_eq_false_iff] at *; omega) | omega, fun y12 => RetOk.at (outf := link_Push_out) (nwf := link_Push_nw p_0) (rowsf := link_Push_rows) (r := r11) (by subst e3; subst e4; subst e6; subst e9; subst e11; first | exact Eq.symm ((cF z2).trans ((cT z8).trans rfl)) | (simp only [link_Push, z2, z8, cond_true, cond_false]; done) | (exfalso; simp_all; done) | decide) ⟨[], [0], (by decide), rfl, rfl, ⟨.inl rfl, trivial⟩⟩⟩⟩, fun z8 => fun r9 e9 => ⟨by first | exact wu32_bd _ | exact VS.get_bd _ _ | exact zero_bd | exact iVal_bd' _ _ _ | exact iVal_bd2 _ _ _ | (subst_vars; exact VS.get_bd _ _) | (simp only [decide_eq_true_eq, decide_eq_false_iff_not, Bool.or_eq_false_iff] at *; omega) | omega, fun y10 => RetOk.at (outf := link_Push_out) (nwf := link_Push_nw p_0) (rowsf := link_Push_rows) (r := r9) (by subst e3; subst e4; subst e6; subst e9; first | exact Eq.symm ((cF z2).trans ((cF z8).trans rfl)) | (simp only [link_Push, z2, z8, cond_true, cond_false]; done) | (exfalso; simp_all; done) | decide) ⟨[], [0], (by decide), rfl, rfl, ⟨.inl rfl, trivial⟩⟩⟩⟩⟩⟩⟩)
end
def link_Push_e : Entry Sg := fun
  | [(.pointer (some p_0), .obj (.view s)), (.agg ⟨[.int .i64 t, .int .i64 p, .int .i64 h]⟩, .none), (.int .i64 hd, _), (.int .i64 g, _)] => some ⟨(link_Push s t p h hd g), fun (r_ : VS) => ⟨[], some (.view (r_)), [], fun ss => undef, fun k_ => .no⟩⟩
  | _ => none
theorem link_Push_ok : EntryOk Dg Try.prog 83 link_Push_e := by
  intro args c r h hr_
  unfold link_Push_e at h
  split at h
  · injection h with h; subst h; subst hr_
    refine ⟨fun K acs _ => pOk_no, fun hpre E G w hi hS => ?_⟩
    exact entry_post Dg (by exact rfl) (link_Push_calls _ _ _ _ _ _ _  hS)
  · cases h
def T_link_Push : List (Nat × Entry Sg) := (83, link_Push_e) :: T_link_to
theorem T_link_Push_ok : TableOk Dg Try.prog T_link_Push := TableOk.cons Dg link_Push_ok T_link_to_ok

/- link.Pull -/
def link_Pull (s : VS) (t : Int) (p : Int) (h : Int) (hd : Int) (g : Int) : VS := (bif !link_page s t p h hd g then s else (let r3 : VS × Int := (VS.read s (link_next s t p h hd g), VS.get s (link_next s t p h hd g)); (let r4 : VS × Int := (VS.read (Prod.fst r3) (link_prev (Prod.fst r3) t p h hd g), VS.get (Prod.fst r3) (link_prev (Prod.fst r3) t p h hd g)); (bif Prod.snd r4 == (0 : Int) then (let r6 : VS := VS.set (Prod.fst r4) hd (Prod.snd r3); (bif Prod.snd r3 != (0 : Int) then (let r9 : VS := VS.set r6 (link_prev r6 t p h hd (link_to (Prod.snd r3))) (Prod.snd r4); (let r11 : VS := VS.set r9 (link_next r9 t p h hd g) (0 : Int); (let r13 : VS := VS.set r11 (link_prev r11 t p h hd g) (0 : Int); r13))) else (let r9 : VS := VS.set r6 (link_next r6 t p h hd g) (0 : Int); (let r11 : VS := VS.set r9 (link_prev r9 t p h hd g) (0 : Int); r11)))) else (let r6 : VS := VS.set (Prod.fst r4) (link_next (Prod.fst r4) t p h hd (link_to (Prod.snd r4))) (Prod.snd r3); (bif Prod.snd r3 != (0 : Int) then (let r9 : VS := VS.set r6 (link_prev r6 t p h hd (link_to (Prod.snd r3))) (Prod.snd r4); (let r11 : VS := VS.set r9 (link_next r9 t p h hd g) (0 : Int); (let r13 : VS := VS.set r11 (link_prev r11 t p h hd g) (0 : Int); r13))) else (let r9 : VS := VS.set r6 (link_next r6 t p h hd g) (0 : Int); (let r11 : VS := VS.set r9 (link_prev r9 t p h hd g) (0 : Int); r11))))))))
def link_Pull_out (r_ : VS) : List Value → Value := fun ss => undef
def link_Pull_nw (p_0 : Addr) (r_ : VS) : List (Chunk Sg) := [.obj p_0 (.view (r_))]
def link_Pull_rows (r_ : VS) : List (Mk Sg) := []
section
variable (s : VS) (t : Int) (p : Int) (h : Int) (hd : Int) (g : Int) (p_0 : Addr)
theorem link_Pull_calls {E_ : World} {G_ : Hp} {w_ : World} (hS : Sat E_ G_ w_ [Dg p_0 ((.view s))]) : Calls Try.prog 78 #[(.pointer (some p_0)), (.agg #[.int .i64 t, .int .i64 p, .int .i64 h]), (.int .i64 hd), (.int .i64 g)] w_ (Post Dg E_ G_ (link_Pull_out (link_Pull s t p h hd g)) (link_Pull_nw p_0 (link_Pull s t p h hd g)) (link_Pull_rows (link_Pull s t p h hd g))) :=
  calls_post Dg T_link_Push_ok (I := []) Try.func78 mix (B := bodyOf Try.f78) (by kernel_rfl) [(.pointer (some p_0)), (.agg #[.int .i64 t, .int .i64 p, .int .i64 h]), (.int .i64 hd), (.int .i64 g)] [.pt 0 .obj, .no, .no, .no] (by kernel_rfl) (objs := [.obj p_0 (.view s)]) (ros := []) (psOk_cons (pOk_at rfl rfl) (psOk_cons pOk_no (psOk_cons pOk_no (psOk_cons pOk_no (psOk_nil))))) (by kernel_rfl) (trivial) hS 400
    (t := Tree.fresh fun b => Tree.fresh fun b_1 => Tree.br (!link_page s t p h hd g) (Tree.ret (Value.tuple { toList := [] }) pn_ [Chunk.obj p_0 (Sg.view s), kc_ b 77 [(vi_ t, pn_), (vi_ p, pn_), (vi_ h, pn_)], kc_ b_1 134 [(Value.pointer (some p_0), po_ 0), (vi_ t, pn_), (vi_ p, pn_), (vi_ h, pn_), (vi_ hd, pn_)]]) (Tree.bind (VS.read s (link_next s t p h hd g), VS.get s (link_next s t p h hd g)) fun a => Tree.bind (VS.read (Prod.fst a) (link_prev (Prod.fst a) t p h hd g), VS.get (Prod.fst a) (link_prev (Prod.fst a) t p h hd g)) fun a_1 => Tree.br (Prod.snd a_1 == (0 : Int)) (Tree.bind (VS.set (Prod.fst a_1) hd (Prod.snd a)) fun a_2 => Tree.need (bd32 (Prod.snd a)) (Tree.br (Prod.snd a != (0 : Int)) (Tree.bind (VS.set a_2 (link_prev a_2 t p h hd (link_to (Prod.snd a))) (Prod.snd a_1)) fun a_3 => Tree.need (bd32 (Prod.snd a_1)) (Tree.bind (VS.set a_3 (link_next a_3 t p h hd g) (0 : Int)) fun a_4 => Tree.need (bd32 (0 : Int)) (Tree.bind (VS.set a_4 (link_prev a_4 t p h hd g) (0 : Int)) fun a_5 => Tree.need (bd32 (0 : Int)) (Tree.ret (Value.tuple { toList := [] }) pn_ [Chunk.obj p_0 (Option.getD (some (Sg.view a_5)) (Option.getD (some (Sg.view a_4)) (Option.getD (some (Sg.view a_3)) (Option.getD (some (Sg.view a_2)) (Option.getD (some (Sg.view (Prod.fst a_1))) (Option.getD (some (Sg.view (Prod.fst a))) (Sg.view s))))))), kc_ b 77 [(vi_ t, pn_), (vi_ p, pn_), (vi_ h, pn_)], kc_ b_1 134 [(Value.pointer (some p_0), po_ 0), (vi_ t, pn_), (vi_ p, pn_), (vi_ h, pn_), (vi_ hd, pn_)]])))) (Tree.bind (VS.set a_2 (link_next a_2 t p h hd g) (0 : Int)) fun a_3 => Tree.need (bd32 (0 : Int)) (Tree.bind (VS.set a_3 (link_prev a_3 t p h hd g) (0 : Int)) fun a_4 => Tree.need (bd32 (0 : Int)) (Tree.ret (Value.tuple { toList := [] }) pn_ [Chunk.obj p_0 (Option.getD (some (Sg.view a_4)) (Option.getD (some (Sg.view a_3)) (Option.getD (some (Sg.view a_2)) (Option.getD (some (Sg.view (Prod.fst a_1))) (Option.getD (some (Sg.view (Prod.fst a))) (Sg.view s)))))), kc_ b 77 [(vi_ t, pn_), (vi_ p, pn_), (vi_ h, pn_)], kc_ b_1 134 [(Value.pointer (some p_0), po_ 0), (vi_ t, pn_), (vi_ p, pn_), (vi_ h, pn_), (vi_ hd, pn_)]]))))) (Tree.bind (VS.set (Prod.fst a_1) (link_next (Prod.fst a_1) t p h hd (link_to (Prod.snd a_1))) (Prod.snd a)) fun a_2 => Tree.need (bd32 (Prod.snd a)) (Tree.br (Prod.snd a != (0 : Int)) (Tree.bind (VS.set a_2 (link_prev a_2 t p h hd (link_to (Prod.snd a))) (Prod.snd a_1)) fun a_3 => Tree.need (bd32 (Prod.snd a_1)) (Tree.bind (VS.set a_3 (link_next a_3 t p h hd g) (0 : Int)) fun a_4 => Tree.need (bd32 (0 : Int)) (Tree.bind (VS.set a_4 (link_prev a_4 t p h hd g) (0 : Int)) fun a_5 => Tree.need (bd32 (0 : Int)) (Tree.ret (Value.tuple { toList := [] }) pn_ [Chunk.obj p_0 (Option.getD (some (Sg.view a_5)) (Option.getD (some (Sg.view a_4)) (Option.getD (some (Sg.view a_3)) (Option.getD (some (Sg.view a_2)) (Option.getD (some (Sg.view (Prod.fst a_1))) (Option.getD (some (Sg.view (Prod.fst a))) (Sg.view s))))))), kc_ b 77 [(vi_ t, pn_), (vi_ p, pn_), (vi_ h, pn_)], kc_ b_1 134 [(Value.pointer (some p_0), po_ 0), (vi_ t, pn_), (vi_ p, pn_), (vi_ h, pn_), (vi_ hd, pn_)]])))) (Tree.bind (VS.set a_2 (link_next a_2 t p h hd g) (0 : Int)) fun a_3 => Tree.need (bd32 (0 : Int)) (Tree.bind (VS.set a_3 (link_prev a_3 t p h hd g) (0 : Int)) fun a_4 => Tree.need (bd32 (0 : Int)) (Tree.ret (Value.tuple { toList := [] }) pn_ [Chunk.obj p_0 (Option.getD (some (Sg.view a_4)) (Option.getD (some (Sg.view a_3)) (Option.getD (some (Sg.view a_2)) (Option.getD (some (Sg.view (Prod.fst a_1))) (Option.getD (some (Sg.view (Prod.fst a))) (Sg.view s)))))), kc_ b 77 [(vi_ t, pn_), (vi_ p, pn_), (vi_ h, pn_)], kc_ b_1 134 [(Value.pointer (some p_0), po_ 0), (vi_ t, pn_), (vi_ p, pn_), (vi_ h, pn_), (vi_ hd, pn_)]])))))))
    (by kernel_rfl)
    (fun b0_0 => fun b1_0 => ⟨fun z2 => RetOk.at (outf := link_Pull_out) (nwf := link_Pull_nw p_0) (rowsf := link_Pull_rows) (r := s) (by first | exact Eq.symm ((cT z2).trans rfl) | (simp only [link_Pull, z2, cond_true, cond_false]; done) | (exfalso; simp_all; done) | decide) ⟨[], [0], (by decide), rfl, rfl, ⟨.inl rfl, trivial⟩⟩, fun z2 => fun r3 e3 => fun r4 e4 => ⟨fun z5 => fun r6 e6 => ⟨by first | exact wu32_bd _ | exact VS.get_bd _ _ | exact zero_bd | exact iVal_bd' _ _ _ | exact iVal_bd2 _ _ _ | (subst_vars; exact VS.get_bd _ _) | (simp only [decide_eq_true_eq, decide_eq_false_iff_not, Bool.or_eq_false_iff] at *; omega) | omega, fun y7 => ⟨fun z8 => fun r9 e9 => ⟨by first | exact wu32_bd _ | exact VS.get_bd _ _ | exact zero_bd | exact iVal_bd' _ _ _ | exact iVal_bd2 _ _ _ | (subst_vars; exact VS.get_bd _ _) | (simp only [decide_eq_true_eq, decide_eq_false_iff_not, Bool.or_eq_false_iff] at *; omega) | omega, fun y10 => fun r11 e11 => ⟨by first | exact wu32_bd _ | exact VS.get_bd _ _ | exact zero_bd | exact iVal_bd' _ _ _ | exact iVal_bd2 _ _ _ | (subst_vars; exact VS.get_bd _ _) | (simp only [decide_eq_true_eq, decide_eq_false_iff_not, Bool.or_eq_false_iff] at *; omega) | omega, fun y12 => fun r13 e13 => ⟨by first | exact wu32_bd _ | exact VS.get_bd _ _ | exact zero_bd | exact iVal_bd' _ _ _ | exact iVal_bd2 _ _ _ | (subst_vars; exact VS.get_bd _ _) | (simp only [decide_eq_true_eq, decide_eq_false_iff_not, Bool.or_eq_false_iff] at *; omega) | omega, fun y14 => RetOk.at (outf := link_Pull_out) (nwf := link_Pull_nw p_0) (rowsf := link_Pull_rows) (r := r13) (by subst e3; subst e4; subst e6; subst e9; subst e11; subst e13; first | exact Eq.symm ((cF z2).trans ((cT z5).trans ((cT z8).trans rfl))) | (simp only [link_Pull, z2, z5, z8, cond_true, cond_false]; done) | (exfalso; simp_all; done) | decide) ⟨[], [0], (by decide), rfl, rfl, ⟨.inl rfl, trivial⟩⟩⟩⟩⟩, fun z8 => fun r9 e9 => ⟨by first | exact wu32_bd _ | exact VS.get_bd _ _ | exact zero_bd | exact iVal_bd' _ _ _ | exact iVal_bd2 _ _ _ | (subst_vars; exact VS.get_bd _ _) | (simp only [decide_eq_true_eq, decide_eq_false_iff_not, Bool.or_eq_false_iff] at *; omega) | omega, fun y10 => fun r11 e11 => ⟨by first | exact wu32_bd _ | exact VS.get_bd _ _ | exact zero_bd | exact iVal_bd' _ _ _ | exact iVal_bd2 _ _ _ | (subst_vars; exact VS.get_bd _ _) | (simp only [decide_eq_true_eq, decide_eq_false_iff_not, Bool.or_eq_false_iff] at *; omega) | omega, fun y12 => RetOk.at (outf := link_Pull_out) (nwf := link_Pull_nw p_0) (rowsf := link_Pull_rows) (r := r11) (by subst e3; subst e4; subst e6; subst e9; subst e11; first | exact Eq.symm ((cF z2).trans ((cT z5).trans ((cF z8).trans rfl))) | (simp only [link_Pull, z2, z5, z8, cond_true, cond_false]; done) | (exfalso; simp_all; done) | decide) ⟨[], [0], (by decide), rfl, rfl, ⟨.inl rfl, trivial⟩⟩⟩⟩⟩⟩, fun z5 => fun r6 e6 => ⟨by first | exact wu32_bd _ | exact VS.get_bd _ _ | exact zero_bd | exact iVal_bd' _ _ _ | exact iVal_bd2 _ _ _ | (subst_vars; exact VS.get_bd _ _) | (simp only [decide_eq_true_eq, decide_eq_false_iff_not, Bool.or_eq_false_iff] at *; omega) | omega, fun y7 => ⟨fun z8 => fun r9 e9 => ⟨by first | exact wu32_bd _ | exact VS.get_bd _ _ | exact zero_bd | exact iVal_bd' _ _ _ | exact iVal_bd2 _ _ _ | (subst_vars; exact VS.get_bd _ _) | (simp only [decide_eq_true_eq, decide_eq_false_iff_not, Bool.or_eq_false_iff] at *; omega) | omega, fun y10 => fun r11 e11 => ⟨by first | exact wu32_bd _ | exact VS.get_bd _ _ | exact zero_bd | exact iVal_bd' _ _ _ | exact iVal_bd2 _ _ _ | (subst_vars; exact VS.get_bd _ _) | (simp only [decide_eq_true_eq, decide_eq_false_iff_not, Bool.or_eq_false_iff] at *; omega) | omega, fun y12 => fun r13 e13 => ⟨by first | exact wu32_bd _ | exact VS.get_bd _ _ | exact zero_bd | exact iVal_bd' _ _ _ | exact iVal_bd2 _ _ _ | (subst_vars; exact VS.get_bd _ _) | (simp only [decide_eq_true_eq, decide_eq_false_iff_not, Bool.or_eq_false_iff] at *; omega) | omega, fun y14 => RetOk.at (outf := link_Pull_out) (nwf := link_Pull_nw p_0) (rowsf := link_Pull_rows) (r := r13) (by subst e3; subst e4; subst e6; subst e9; subst e11; subst e13; first | exact Eq.symm ((cF z2).trans ((cF z5).trans ((cT z8).trans rfl))) | (simp only [link_Pull, z2, z5, z8, cond_true, cond_false]; done) | (exfalso; simp_all; done) | decide) ⟨[], [0], (by decide), rfl, rfl, ⟨.inl rfl, trivial⟩⟩⟩⟩⟩, fun z8 => fun r9 e9 => ⟨by first | exact wu32_bd _ | exact VS.get_bd _ _ | exact zero_bd | exact iVal_bd' _ _ _ | exact iVal_bd2 _ _ _ | (subst_vars; exact VS.get_bd _ _) | (simp only [decide_eq_true_eq, decide_eq_false_iff_not, Bool.or_eq_false_iff] at *; omega) | omega, fun y10 => fun r11 e11 => ⟨by first | exact wu32_bd _ | exact VS.get_bd _ _ | exact zero_bd | exact iVal_bd' _ _ _ | exact iVal_bd2 _ _ _ | (subst_vars; exact VS.get_bd _ _) | (simp only [decide_eq_true_eq, decide_eq_false_iff_not, Bool.or_eq_false_iff] at *; omega) | omega, fun y12 => RetOk.at (outf := link_Pull_out) (nwf := link_Pull_nw p_0) (rowsf := link_Pull_rows) (r := r11) (by subst e3; subst e4; subst e6; subst e9; subst e11; first | exact Eq.symm ((cF z2).trans ((cF z5).trans ((cF z8).trans rfl))) | (simp only [link_Pull, z2, z5, z8, cond_true, cond_false]; done) | (exfalso; simp_all; done) | decide) ⟨[], [0], (by decide), rfl, rfl, ⟨.inl rfl, trivial⟩⟩⟩⟩⟩⟩⟩⟩)
end
def link_Pull_e : Entry Sg := fun
  | [(.pointer (some p_0), .obj (.view s)), (.agg ⟨[.int .i64 t, .int .i64 p, .int .i64 h]⟩, .none), (.int .i64 hd, _), (.int .i64 g, _)] => some ⟨(link_Pull s t p h hd g), fun (r_ : VS) => ⟨[], some (.view (r_)), [], fun ss => undef, fun k_ => .no⟩⟩
  | _ => none
theorem link_Pull_ok : EntryOk Dg Try.prog 78 link_Pull_e := by
  intro args c r h hr_
  unfold link_Pull_e at h
  split at h
  · injection h with h; subst h; subst hr_
    refine ⟨fun K acs _ => pOk_no, fun hpre E G w hi hS => ?_⟩
    exact entry_post Dg (by exact rfl) (link_Pull_calls _ _ _ _ _ _ _  hS)
  · cases h
def T_link_Pull : List (Nat × Entry Sg) := (78, link_Pull_e) :: T_link_Push
theorem T_link_Pull_ok : TableOk Dg Try.prog T_link_Pull := TableOk.cons Dg link_Pull_ok T_link_Push_ok

/- nacreref13.Push -/
def r13_Push (s : VS) (t : Int) (p : Int) (h : Int) (hd : Int) (g : Int) : VS := (bif decide (g < (0 : Int)) || decide (g ≥ p) then s else (let r2 : VS × Int := (VS.read s hd, VS.get s hd); (let r3 : VS := VS.set (Prod.fst r2) (r07_Next t p h g) (Prod.snd r2); (let r5 : VS := VS.set r3 (r07_Prev t p h g) (0 : Int); (bif Prod.snd r2 != (0 : Int) then (let r8 : VS := VS.set r5 (r07_Prev t p h (IntKind.wrap IntKind.i64 (IntKind.wrap IntKind.i64 (Prod.snd r2) - (1 : Int)))) (IntKind.wrap IntKind.u32 (IntKind.wrap IntKind.u32 g + (1 : Int))); (let r10 : VS := VS.set r8 hd (IntKind.wrap IntKind.u32 (IntKind.wrap IntKind.u32 g + (1 : Int))); r10)) else (let r8 : VS := VS.set r5 hd (IntKind.wrap IntKind.u32 (IntKind.wrap IntKind.u32 g + (1 : Int))); r8))))))
def r13_Push_out (r_ : VS) : List Value → Value := fun ss => undef
def r13_Push_nw (p_0 : Addr) (r_ : VS) : List (Chunk Sg) := [.obj p_0 (.ref (r_))]
def r13_Push_rows (r_ : VS) : List (Mk Sg) := []
section
variable (s : VS) (t : Int) (p : Int) (h : Int) (hd : Int) (g : Int) (p_0 : Addr)
theorem r13_Push_calls {E_ : World} {G_ : Hp} {w_ : World} (hS : Sat E_ G_ w_ [Dg p_0 ((.ref s))]) : Calls Try.prog 86 #[(.pointer (some p_0)), (.agg #[.int .i64 t, .int .i64 p, .int .i64 h]), (.int .i64 hd), (.int .i64 g)] w_ (Post Dg E_ G_ (r13_Push_out (r13_Push s t p h hd g)) (r13_Push_nw p_0 (r13_Push s t p h hd g)) (r13_Push_rows (r13_Push s t p h hd g))) :=
  calls_post Dg T_link_Pull_ok (I := []) Try.func86 mix (B := bodyOf Try.f86) (by kernel_rfl) [(.pointer (some p_0)), (.agg #[.int .i64 t, .int .i64 p, .int .i64 h]), (.int .i64 hd), (.int .i64 g)] [.pt 0 .obj, .no, .no, .no] (by kernel_rfl) (objs := [.obj p_0 (.ref s)]) (ros := []) (psOk_cons (pOk_at rfl rfl) (psOk_cons pOk_no (psOk_cons pOk_no (psOk_cons pOk_no (psOk_nil))))) (by kernel_rfl) (trivial) hS 400
    (t := Tree.fresh fun b => Tree.br (decide (g < (0 : Int)) || decide (g ≥ p)) (Tree.ret (Value.tuple { toList := [] }) pn_ [Chunk.obj p_0 (Sg.ref s), kc_ b 77 [(vi_ t, pn_), (vi_ p, pn_), (vi_ h, pn_)]]) (Tree.bind (VS.read s hd, VS.get s hd) fun a => Tree.bind (VS.set (Prod.fst a) (r07_Next t p h g) (Prod.snd a)) fun a_1 => Tree.need (bd32 (Prod.snd a)) (Tree.bind (VS.set a_1 (r07_Prev t p h g) (0 : Int)) fun a_2 => Tree.need (bd32 (0 : Int)) (Tree.br (Prod.snd a != (0 : Int)) (Tree.bind (VS.set a_2 (r07_Prev t p h (IntKind.wrap IntKind.i64 (IntKind.wrap IntKind.i64 (Prod.snd a) - (1 : Int)))) (IntKind.wrap IntKind.u32 (IntKind.wrap IntKind.u32 g + (1 : Int)))) fun a_3 => Tree.need (bd32 (IntKind.wrap IntKind.u32 (IntKind.wrap IntKind.u32 g + (1 : Int)))) (Tree.bind (VS.set a_3 hd (IntKind.wrap IntKind.u32 (IntKind.wrap IntKind.u32 g + (1 : Int)))) fun a_4 => Tree.need (bd32 (IntKind.wrap IntKind.u32 (IntKind.wrap IntKind.u32 g + (1 : Int)))) (Tree.ret (Value.tuple { toList := [] }) pn_ [Chunk.obj p_0 (Option.getD (some (Sg.ref a_4)) (Option.getD (some (Sg.ref a_3)) (Option.getD (some (Sg.ref a_2)) (Option.getD (some (Sg.ref a_1)) (Option.getD (some (Sg.ref (Prod.fst a))) (Sg.ref s)))))), kc_ b 77 [(vi_ t, pn_), (vi_ p, pn_), (vi_ h, pn_)]]))) (Tree.bind (VS.set a_2 hd (IntKind.wrap IntKind.u32 (IntKind.wrap IntKind.u32 g + (1 : Int)))) fun a_3 => Tree.need (bd32 (IntKind.wrap IntKind.u32 (IntKind.wrap IntKind.u32 g + (1 : Int)))) (Tree.ret (Value.tuple { toList := [] }) pn_ [Chunk.obj p_0 (Option.getD (some (Sg.ref a_3)) (Option.getD (some (Sg.ref a_2)) (Option.getD (some (Sg.ref a_1)) (Option.getD (some (Sg.ref (Prod.fst a))) (Sg.ref s))))), kc_ b 77 [(vi_ t, pn_), (vi_ p, pn_), (vi_ h, pn_)]]))))))
    (by kernel_rfl)
    (fun b0_0 => ⟨fun z1 => RetOk.at (outf := r13_Push_out) (nwf := r13_Push_nw p_0) (rowsf := r13_Push_rows) (r := s) (by first | exact Eq.symm ((cT z1).trans rfl) | (simp only [r13_Push, z1, cond_true, cond_false]; done) | (exfalso; simp_all; done) | decide) ⟨[], [0], (by decide), rfl, rfl, ⟨.inl rfl, trivial⟩⟩, fun z1 => fun r2 e2 => fun r3 e3 => ⟨by first | exact wu32_bd _ | exact VS.get_bd _ _ | exact zero_bd | exact iVal_bd' _ _ _ | exact iVal_bd2 _ _ _ | (subst_vars; exact VS.get_bd _ _) | (simp only [decide_eq_true_eq, decide_eq_false_iff_not, Bool.or_eq_false_iff] at *; omega) | omega, fun y4 => fun r5 e5 => ⟨by first | exact wu32_bd _ | exact VS.get_bd _ _ | exact zero_bd | exact iVal_bd' _ _ _ | exact iVal_bd2 _ _ _ | (subst_vars; exact VS.get_bd _ _) | (simp only [decide_eq_true_eq, decide_eq_false_iff_not, Bool.or_eq_false_iff] at *; omega) | omega, fun y6 => ⟨fun z7 => fun r8 e8 => ⟨by first | exact wu32_bd _ | exact VS.get_bd _ _ | exact zero_bd | exact iVal_bd' _ _ _ | exact iVal_bd2 _ _ _ | (subst_vars; exact VS.get_bd _ _) | (simp only [decide_eq_true_eq, decide_eq_false_iff_not, Bool.or_eq_false_iff] at *; omega) | omega, fun y9 => fun r10 e10 => ⟨by first | exact wu32_bd _ | exact VS.get_bd _ _ | exact zero_bd | exact iVal_bd' _ _ _ | exact iVal_bd2 _ _ _ | (subst_vars; exact VS.get_bd _ _) | (simp only [decide_eq_true_eq, decide_eq_false_iff_not, Bool.or_eq_false_iff] at *; omega) | omega, fun y11 => RetOk.at (outf := r13_Push_out) (nwf := r13_Push_nw p_0) (rowsf := r13_Push_rows) (r := r10) (by subst e2; subst e3; subst e5; subst e8; subst e10; first | exact Eq.symm ((cF z1).trans ((cT z7).trans rfl)) | (simp only [r13_Push, z1, z7, cond_true, cond_false]; done) | (exfalso; simp_all; done) | decide) ⟨[], [0], (by decide), rfl, rfl, ⟨.inl rfl, trivial⟩⟩⟩⟩, fun z7 => fun r8 e8 => ⟨by first | exact wu32_bd _ | exact VS.get_bd _ _ | exact zero_bd | exact iVal_bd' _ _ _ | exact iVal_bd2 _ _ _ | (subst_vars; exact VS.get_bd _ _) | (simp only [decide_eq_true_eq, decide_eq_false_iff_not, Bool.or_eq_false_iff] at *; omega) | omega, fun y9 => RetOk.at (outf := r13_Push_out) (nwf := r13_Push_nw p_0) (rowsf := r13_Push_rows) (r := r8) (by subst e2; subst e3; subst e5; subst e8; first | exact Eq.symm ((cF z1).trans ((cF z7).trans rfl)) | (simp only [r13_Push, z1, z7, cond_true, cond_false]; done) | (exfalso; simp_all; done) | decide) ⟨[], [0], (by decide), rfl, rfl, ⟨.inl rfl, trivial⟩⟩⟩⟩⟩⟩⟩)
end
def r13_Push_e : Entry Sg := fun
  | [(.pointer (some p_0), .obj (.ref s)), (.agg ⟨[.int .i64 t, .int .i64 p, .int .i64 h]⟩, .none), (.int .i64 hd, _), (.int .i64 g, _)] => some ⟨(r13_Push s t p h hd g), fun (r_ : VS) => ⟨[], some (.ref (r_)), [], fun ss => undef, fun k_ => .no⟩⟩
  | _ => none
theorem r13_Push_ok : EntryOk Dg Try.prog 86 r13_Push_e := by
  intro args c r h hr_
  unfold r13_Push_e at h
  split at h
  · injection h with h; subst h; subst hr_
    refine ⟨fun K acs _ => pOk_no, fun hpre E G w hi hS => ?_⟩
    exact entry_post Dg (by exact rfl) (r13_Push_calls _ _ _ _ _ _ _  hS)
  · cases h
def T_r13_Push : List (Nat × Entry Sg) := (86, r13_Push_e) :: T_link_Pull
theorem T_r13_Push_ok : TableOk Dg Try.prog T_r13_Push := TableOk.cons Dg r13_Push_ok T_link_Pull_ok

/- nacreref13.Pull -/
def r13_Pull (s : VS) (t : Int) (p : Int) (h : Int) (hd : Int) (g : Int) : VS := (bif decide (g < (0 : Int)) || decide (g ≥ p) then s else (let r2 : VS × Int := (VS.read s (r07_Next t p h g), VS.get s (r07_Next t p h g)); (let r3 : VS × Int := (VS.read (Prod.fst r2) (r07_Prev t p h g), VS.get (Prod.fst r2) (r07_Prev t p h g)); (bif Prod.snd r3 == (0 : Int) then (let r5 : VS := VS.set (Prod.fst r3) hd (Prod.snd r2); (bif Prod.snd r2 != (0 : Int) then (let r8 : VS := VS.set r5 (r07_Prev t p h (IntKind.wrap IntKind.i64 (IntKind.wrap IntKind.i64 (Prod.snd r2) - (1 : Int)))) (Prod.snd r3); (let r10 : VS := VS.set r8 (r07_Next t p h g) (0 : Int); (let r12 : VS := VS.set r10 (r07_Prev t p h g) (0 : Int); r12))) else (let r8 : VS := VS.set r5 (r07_Next t p h g) (0 : Int); (let r10 : VS := VS.set r8 (r07_Prev t p h g) (0 : Int); r10)))) else (let r5 : VS := VS.set (Prod.fst r3) (r07_Next t p h (IntKind.wrap IntKind.i64 (IntKind.wrap IntKind.i64 (Prod.snd r3) - (1 : Int)))) (Prod.snd r2); (bif Prod.snd r2 != (0 : Int) then (let r8 : VS := VS.set r5 (r07_Prev t p h (IntKind.wrap IntKind.i64 (IntKind.wrap IntKind.i64 (Prod.snd r2) - (1 : Int)))) (Prod.snd r3); (let r10 : VS := VS.set r8 (r07_Next t p h g) (0 : Int); (let r12 : VS := VS.set r10 (r07_Prev t p h g) (0 : Int); r12))) else (let r8 : VS := VS.set r5 (r07_Next t p h g) (0 : Int); (let r10 : VS := VS.set r8 (r07_Prev t p h g) (0 : Int); r10))))))))
def r13_Pull_out (r_ : VS) : List Value → Value := fun ss => undef
def r13_Pull_nw (p_0 : Addr) (r_ : VS) : List (Chunk Sg) := [.obj p_0 (.ref (r_))]
def r13_Pull_rows (r_ : VS) : List (Mk Sg) := []
section
variable (s : VS) (t : Int) (p : Int) (h : Int) (hd : Int) (g : Int) (p_0 : Addr)
theorem r13_Pull_calls {E_ : World} {G_ : Hp} {w_ : World} (hS : Sat E_ G_ w_ [Dg p_0 ((.ref s))]) : Calls Try.prog 79 #[(.pointer (some p_0)), (.agg #[.int .i64 t, .int .i64 p, .int .i64 h]), (.int .i64 hd), (.int .i64 g)] w_ (Post Dg E_ G_ (r13_Pull_out (r13_Pull s t p h hd g)) (r13_Pull_nw p_0 (r13_Pull s t p h hd g)) (r13_Pull_rows (r13_Pull s t p h hd g))) :=
  calls_post Dg T_r13_Push_ok (I := []) Try.func79 mix (B := bodyOf Try.f79) (by kernel_rfl) [(.pointer (some p_0)), (.agg #[.int .i64 t, .int .i64 p, .int .i64 h]), (.int .i64 hd), (.int .i64 g)] [.pt 0 .obj, .no, .no, .no] (by kernel_rfl) (objs := [.obj p_0 (.ref s)]) (ros := []) (psOk_cons (pOk_at rfl rfl) (psOk_cons pOk_no (psOk_cons pOk_no (psOk_cons pOk_no (psOk_nil))))) (by kernel_rfl) (trivial) hS 400
    (t := Tree.fresh fun b => Tree.br (decide (g < (0 : Int)) || decide (g ≥ p)) (Tree.ret (Value.tuple { toList := [] }) pn_ [Chunk.obj p_0 (Sg.ref s), kc_ b 77 [(vi_ t, pn_), (vi_ p, pn_), (vi_ h, pn_)]]) (Tree.bind (VS.read s (r07_Next t p h g), VS.get s (r07_Next t p h g)) fun a => Tree.bind (VS.read (Prod.fst a) (r07_Prev t p h g), VS.get (Prod.fst a) (r07_Prev t p h g)) fun a_1 => Tree.br (Prod.snd a_1 == (0 : Int)) (Tree.bind (VS.set (Prod.fst a_1) hd (Prod.snd a)) fun a_2 => Tree.need (bd32 (Prod.snd a)) (Tree.br (Prod.snd a != (0 : Int)) (Tree.bind (VS.set a_2 (r07_Prev t p h (IntKind.wrap IntKind.i64 (IntKind.wrap IntKind.i64 (Prod.snd a) - (1 : Int)))) (Prod.snd a_1)) fun a_3 => Tree.need (bd32 (Prod.snd a_1)) (Tree.bind (VS.set a_3 (r07_Next t p h g) (0 : Int)) fun a_4 => Tree.need (bd32 (0 : Int)) (Tree.bind (VS.set a_4 (r07_Prev t p h g) (0 : Int)) fun a_5 => Tree.need (bd32 (0 : Int)) (Tree.ret (Value.tuple { toList := [] }) pn_ [Chunk.obj p_0 (Option.getD (some (Sg.ref a_5)) (Option.getD (some (Sg.ref a_4)) (Option.getD (some (Sg.ref a_3)) (Option.getD (some (Sg.ref a_2)) (Option.getD (some (Sg.ref (Prod.fst a_1))) (Option.getD (some (Sg.ref (Prod.fst a))) (Sg.ref s))))))), kc_ b 77 [(vi_ t, pn_), (vi_ p, pn_), (vi_ h, pn_)]])))) (Tree.bind (VS.set a_2 (r07_Next t p h g) (0 : Int)) fun a_3 => Tree.need (bd32 (0 : Int)) (Tree.bind (VS.set a_3 (r07_Prev t p h g) (0 : Int)) fun a_4 => Tree.need (bd32 (0 : Int)) (Tree.ret (Value.tuple { toList := [] }) pn_ [Chunk.obj p_0 (Option.getD (some (Sg.ref a_4)) (Option.getD (some (Sg.ref a_3)) (Option.getD (some (Sg.ref a_2)) (Option.getD (some (Sg.ref (Prod.fst a_1))) (Option.getD (some (Sg.ref (Prod.fst a))) (Sg.ref s)))))), kc_ b 77 [(vi_ t, pn_), (vi_ p, pn_), (vi_ h, pn_)]]))))) (Tree.bind (VS.set (Prod.fst a_1) (r07_Next t p h (IntKind.wrap IntKind.i64 (IntKind.wrap IntKind.i64 (Prod.snd a_1) - (1 : Int)))) (Prod.snd a)) fun a_2 => Tree.need (bd32 (Prod.snd a)) (Tree.br (Prod.snd a != (0 : Int)) (Tree.bind (VS.set a_2 (r07_Prev t p h (IntKind.wrap IntKind.i64 (IntKind.wrap IntKind.i64 (Prod.snd a) - (1 : Int)))) (Prod.snd a_1)) fun a_3 => Tree.need (bd32 (Prod.snd a_1)) (Tree.bind (VS.set a_3 (r07_Next t p h g) (0 : Int)) fun a_4 => Tree.need (bd32 (0 : Int)) (Tree.bind (VS.set a_4 (r07_Prev t p h g) (0 : Int)) fun a_5 => Tree.need (bd32 (0 : Int)) (Tree.ret (Value.tuple { toList := [] }) pn_ [Chunk.obj p_0 (Option.getD (some (Sg.ref a_5)) (Option.getD (some (Sg.ref a_4)) (Option.getD (some (Sg.ref a_3)) (Option.getD (some (Sg.ref a_2)) (Option.getD (some (Sg.ref (Prod.fst a_1))) (Option.getD (some (Sg.ref (Prod.fst a))) (Sg.ref s))))))), kc_ b 77 [(vi_ t, pn_), (vi_ p, pn_), (vi_ h, pn_)]])))) (Tree.bind (VS.set a_2 (r07_Next t p h g) (0 : Int)) fun a_3 => Tree.need (bd32 (0 : Int)) (Tree.bind (VS.set a_3 (r07_Prev t p h g) (0 : Int)) fun a_4 => Tree.need (bd32 (0 : Int)) (Tree.ret (Value.tuple { toList := [] }) pn_ [Chunk.obj p_0 (Option.getD (some (Sg.ref a_4)) (Option.getD (some (Sg.ref a_3)) (Option.getD (some (Sg.ref a_2)) (Option.getD (some (Sg.ref (Prod.fst a_1))) (Option.getD (some (Sg.ref (Prod.fst a))) (Sg.ref s)))))), kc_ b 77 [(vi_ t, pn_), (vi_ p, pn_), (vi_ h, pn_)]])))))))
    (by kernel_rfl)
    (fun b0_0 => ⟨fun z1 => RetOk.at (outf := r13_Pull_out) (nwf := r13_Pull_nw p_0) (rowsf := r13_Pull_rows) (r := s) (by first | exact Eq.symm ((cT z1).trans rfl) | (simp only [r13_Pull, z1, cond_true, cond_false]; done) | (exfalso; simp_all; done) | decide) ⟨[], [0], (by decide), rfl, rfl, ⟨.inl rfl, trivial⟩⟩, fun z1 => fun r2 e2 => fun r3 e3 => ⟨fun z4 => fun r5 e5 => ⟨by first | exact wu32_bd _ | exact VS.get_bd _ _ | exact zero_bd | exact iVal_bd' _ _ _ | exact iVal_bd2 _ _ _ | (subst_vars; exact VS.get_bd _ _) | (simp only [decide_eq_true_eq, decide_eq_false_iff_not, Bool.or_eq_false_iff] at *; omega) | omega, fun y6 => ⟨fun z7 => fun r8 e8 => ⟨by first | exact wu32_bd _ | exact VS.get_bd _ _ | exact zero_bd | exact iVal_bd' _ _ _ | exact iVal_bd2 _ _ _ | (subst_vars; exact VS.get_bd _ _) | (simp only [decide_eq_true_eq, decide_eq_false_iff_not, Bool.or_eq_false_iff] at *; omega) | omega, fun y9 => fun r10 e10 => ⟨by first | exact wu32_bd _ | exact VS.get_bd _ _ | exact zero_bd | exact iVal_bd' _ _ _ | exact iVal_bd2 _ _ _ | (subst_vars; exact VS.get_bd _ _) | (simp only [decide_eq_true_eq, decide_eq_false_iff_not, Bool.or_eq_false_iff] at *; omega) | omega, fun y11 => fun r12 e12 => ⟨by first | exact wu32_bd _ | exact VS.get_bd _ _ | exact zero_bd | exact iVal_bd' _ _ _ | exact iVal_bd2 _ _ _ | (subst_vars; exact VS.get_bd _ _) | (simp only [decide_eq_true_eq, decide_eq_false_iff_not, Bool.or_eq_false_iff] at *; omega) | omega, fun y13 => RetOk.at (outf := r13_Pull_out) (nwf := r13_Pull_nw p_0) (rowsf := r13_Pull_rows) (r := r12) (by subst e2; subst e3; subst e5; subst e8; subst e10; subst e12; first | exact Eq.symm ((cF z1).trans ((cT z4).trans ((cT z7).trans rfl))) | (simp only [r13_Pull, z1, z4, z7, cond_true, cond_false]; done) | (exfalso; simp_all; done) | decide) ⟨[], [0], (by decide), rfl, rfl, ⟨.inl rfl, trivial⟩⟩⟩⟩⟩, fun z7 => fun r8 e8 => ⟨by first | exact wu32_bd _ | exact VS.get_bd _ _ | exact zero_bd | exact iVal_bd' _ _ _ | exact iVal_bd2 _ _ _ | (subst_vars; exact VS.get_bd _ _) | (simp only [decide_eq_true_eq, decide_eq_false_iff_not, Bool.or_eq_false_iff] at *; omega) | omega, fun y9 => fun r10 e10 => ⟨by first | exact wu32_bd _ | exact VS.get_bd _ _ | exact zero_bd | exact iVal_bd' _ _ _ | exact iVal_bd2 _ _ _ | (subst_vars; exact VS.get_bd _ _) | (simp only [decide_eq_true_eq, decide_eq_false_iff_not, Bool.or_eq_false_iff] at *; omega) | omega, fun y11 => RetOk.at (outf := r13_Pull_out) (nwf := r13_Pull_nw p_0) (rowsf := r13_Pull_rows) (r := r10) (by subst e2; subst e3; subst e5; subst e8; subst e10; first | exact Eq.symm ((cF z1).trans ((cT z4).trans ((cF z7).trans rfl))) | (simp only [r13_Pull, z1, z4, z7, cond_true, cond_false]; done) | (exfalso; simp_all; done) | decide) ⟨[], [0], (by decide), rfl, rfl, ⟨.inl rfl, trivial⟩⟩⟩⟩⟩⟩, fun z4 => fun r5 e5 => ⟨by first | exact wu32_bd _ | exact VS.get_bd _ _ | exact zero_bd | exact iVal_bd' _ _ _ | exact iVal_bd2 _ _ _ | (subst_vars; exact VS.get_bd _ _) | (simp only [decide_eq_true_eq, decide_eq_false_iff_not, Bool.or_eq_false_iff] at *; omega) | omega, fun y6 => ⟨fun z7 => fun r8 e8 => ⟨by first | exact wu32_bd _ | exact VS.get_bd _ _ | exact zero_bd | exact iVal_bd' _ _ _ | exact iVal_bd2 _ _ _ | (subst_vars; exact VS.get_bd _ _) | (simp only [decide_eq_true_eq, decide_eq_false_iff_not, Bool.or_eq_false_iff] at *; omega) | omega, fun y9 => fun r10 e10 => ⟨by first | exact wu32_bd _ | exact VS.get_bd _ _ | exact zero_bd | exact iVal_bd' _ _ _ | exact iVal_bd2 _ _ _ | (subst_vars; exact VS.get_bd _ _) | (simp only [decide_eq_true_eq, decide_eq_false_iff_not, Bool.or_eq_false_iff] at *; omega) | omega, fun y11 => fun r12 e12 => ⟨by first | exact wu32_bd _ | exact VS.get_bd _ _ | exact zero_bd | exact iVal_bd' _ _ _ | exact iVal_bd2 _ _ _ | (subst_vars; exact VS.get_bd _ _) | (simp only [decide_eq_true_eq, decide_eq_false_iff_not, Bool.or_eq_false_iff] at *; omega) | omega, fun y13 => RetOk.at (outf := r13_Pull_out) (nwf := r13_Pull_nw p_0) (rowsf := r13_Pull_rows) (r := r12) (by subst e2; subst e3; subst e5; subst e8; subst e10; subst e12; first | exact Eq.symm ((cF z1).trans ((cF z4).trans ((cT z7).trans rfl))) | (simp only [r13_Pull, z1, z4, z7, cond_true, cond_false]; done) | (exfalso; simp_all; done) | decide) ⟨[], [0], (by decide), rfl, rfl, ⟨.inl rfl, trivial⟩⟩⟩⟩⟩, fun z7 => fun r8 e8 => ⟨by first | exact wu32_bd _ | exact VS.get_bd _ _ | exact zero_bd | exact iVal_bd' _ _ _ | exact iVal_bd2 _ _ _ | (subst_vars; exact VS.get_bd _ _) | (simp only [decide_eq_true_eq, decide_eq_false_iff_not, Bool.or_eq_false_iff] at *; omega) | omega, fun y9 => fun r10 e10 => ⟨by first | exact wu32_bd _ | exact VS.get_bd _ _ | exact zero_bd | exact iVal_bd' _ _ _ | exact iVal_bd2 _ _ _ | (subst_vars; exact VS.get_bd _ _) | (simp only [decide_eq_true_eq, decide_eq_false_iff_not, Bool.or_eq_false_iff] at *; omega) | omega, fun y11 => RetOk.at (outf := r13_Pull_out) (nwf := r13_Pull_nw p_0) (rowsf := r13_Pull_rows) (r := r10) (by subst e2; subst e3; subst e5; subst e8; subst e10; first | exact Eq.symm ((cF z1).trans ((cF z4).trans ((cF z7).trans rfl))) | (simp only [r13_Pull, z1, z4, z7, cond_true, cond_false]; done) | (exfalso; simp_all; done) | decide) ⟨[], [0], (by decide), rfl, rfl, ⟨.inl rfl, trivial⟩⟩⟩⟩⟩⟩⟩⟩)
end
def r13_Pull_e : Entry Sg := fun
  | [(.pointer (some p_0), .obj (.ref s)), (.agg ⟨[.int .i64 t, .int .i64 p, .int .i64 h]⟩, .none), (.int .i64 hd, _), (.int .i64 g, _)] => some ⟨(r13_Pull s t p h hd g), fun (r_ : VS) => ⟨[], some (.ref (r_)), [], fun ss => undef, fun k_ => .no⟩⟩
  | _ => none
theorem r13_Pull_ok : EntryOk Dg Try.prog 79 r13_Pull_e := by
  intro args c r h hr_
  unfold r13_Pull_e at h
  split at h
  · injection h with h; subst h; subst hr_
    refine ⟨fun K acs _ => pOk_no, fun hpre E G w hi hS => ?_⟩
    exact entry_post Dg (by exact rfl) (r13_Pull_calls _ _ _ _ _ _ _  hS)
  · cases h
def T_r13_Pull : List (Nat × Entry Sg) := (79, r13_Pull_e) :: T_r13_Push
theorem T_r13_Pull_ok : TableOk Dg Try.prog T_r13_Pull := TableOk.cons Dg r13_Pull_ok T_r13_Push_ok

/- bin.Of -/
def bin_Of (n : Int) : Int := (bif decide (n > (1024 : Int)) then (-1 : Int) else half_Log n)
def bin_Of_out (r_ : Int) : List Value → Value := fun ss => .int .i64 (r_)
def bin_Of_nw (r_ : Int) : List (Chunk Sg) := []
def bin_Of_rows (r_ : Int) : List (Mk Sg) := []
section
variable (n : Int)
theorem bin_Of_calls {E_ : World} {G_ : Hp} {w_ : World} (hS : Sat E_ G_ w_ []) : Calls Try.prog 50 #[(.int .i64 n)] w_ (Post Dg E_ G_ (bin_Of_out (bin_Of n)) (bin_Of_nw (bin_Of n)) (bin_Of_rows (bin_Of n))) :=
  calls_post Dg T_r13_Pull_ok (I := []) Try.func50 mix (B := bodyOf Try.f50) (by kernel_rfl) [(.int .i64 n)] [.no] (by kernel_rfl) (objs := []) (ros := []) (psOk_cons pOk_no (psOk_nil)) (by kernel_rfl) (trivial) hS 400
    (t := Tree.br (decide (n > (1024 : Int))) (Tree.ret (vi_ (-1 : Int)) pn_ []) (Tree.ret (vi_ (half_Log n)) pn_ []))
    (by kernel_rfl)
    (⟨fun z0 => RetOk.at (outf := bin_Of_out) (nwf := bin_Of_nw) (rowsf := bin_Of_rows) (r := (-1 : Int)) (by first | exact Eq.symm ((cT z0).trans rfl) | (simp only [bin_Of, z0, cond_true, cond_false]; done) | (exfalso; simp_all; done) | decide) ⟨[], [], (by decide), rfl, rfl, trivial⟩, fun z0 => RetOk.at (outf := bin_Of_out) (nwf := bin_Of_nw) (rowsf := bin_Of_rows) (r := half_Log n) (by first | exact Eq.symm ((cF z0).trans rfl) | (simp only [bin_Of, z0, cond_true, cond_false]; done) | (exfalso; simp_all; done) | decide) ⟨[], [], (by decide), rfl, rfl, trivial⟩⟩)
end
def bin_Of_e : Entry Sg := fun
  | [(.int .i64 n, _)] => some ⟨(bin_Of n), fun (r_ : Int) => ⟨[], none, [], fun ss => .int .i64 (r_), fun k_ => .no⟩⟩
  | _ => none
theorem bin_Of_ok : EntryOk Dg Try.prog 50 bin_Of_e := by
  intro args c r h hr_
  unfold bin_Of_e at h
  split at h
  · injection h with h; subst h; subst hr_
    refine ⟨fun K acs _ => pOk_no, fun hpre E G w hi hS => ?_⟩
    exact entry_post Dg (by exact rfl) (bin_Of_calls _  hS)
  · cases h
def T_bin_Of : List (Nat × Entry Sg) := (50, bin_Of_e) :: T_r13_Pull
theorem T_bin_Of_ok : TableOk Dg Try.prog T_bin_Of := TableOk.cons Dg bin_Of_ok T_r13_Pull_ok

/- nacreref14.Of -/
def r14_Of (n : Int) : Int := (bif decide (n < (1 : Int)) || decide (n > (1024 : Int)) then (-1 : Int) else r01_Log n)
def r14_Of_out (r_ : Int) : List Value → Value := fun ss => .int .i64 (r_)
def r14_Of_nw (r_ : Int) : List (Chunk Sg) := []
def r14_Of_rows (r_ : Int) : List (Mk Sg) := []
section
variable (n : Int)
theorem r14_Of_calls {E_ : World} {G_ : Hp} {w_ : World} (hS : Sat E_ G_ w_ []) : Calls Try.prog 51 #[(.int .i64 n)] w_ (Post Dg E_ G_ (r14_Of_out (r14_Of n)) (r14_Of_nw (r14_Of n)) (r14_Of_rows (r14_Of n))) :=
  calls_post Dg T_bin_Of_ok (I := []) Try.func51 mix (B := bodyOf Try.f51) (by kernel_rfl) [(.int .i64 n)] [.no] (by kernel_rfl) (objs := []) (ros := []) (psOk_cons pOk_no (psOk_nil)) (by kernel_rfl) (trivial) hS 400
    (t := Tree.br (decide (n < (1 : Int)) || decide (n > (1024 : Int))) (Tree.ret (vi_ (-1 : Int)) pn_ []) (Tree.need (n ≤ (9223372036854775807 : Int)) (Tree.ret (vi_ (r01_Log n)) pn_ [])))
    (by kernel_rfl)
    (⟨fun z0 => RetOk.at (outf := r14_Of_out) (nwf := r14_Of_nw) (rowsf := r14_Of_rows) (r := (-1 : Int)) (by first | exact Eq.symm ((cT z0).trans rfl) | (simp only [r14_Of, z0, cond_true, cond_false]; done) | (exfalso; simp_all; done) | decide) ⟨[], [], (by decide), rfl, rfl, trivial⟩, fun z0 => ⟨by first | omega | (simp only [Bool.or_eq_false_iff, decide_eq_false_iff_not] at *; omega), fun y1 => RetOk.at (outf := r14_Of_out) (nwf := r14_Of_nw) (rowsf := r14_Of_rows) (r := r01_Log n) (by first | exact Eq.symm ((cF z0).trans rfl) | (simp only [r14_Of, z0, cond_true, cond_false]; done) | (exfalso; simp_all; done) | decide) ⟨[], [], (by decide), rfl, rfl, trivial⟩⟩⟩)
end
def r14_Of_e : Entry Sg := fun
  | [(.int .i64 n, _)] => some ⟨(r14_Of n), fun (r_ : Int) => ⟨[], none, [], fun ss => .int .i64 (r_), fun k_ => .no⟩⟩
  | _ => none
theorem r14_Of_ok : EntryOk Dg Try.prog 51 r14_Of_e := by
  intro args c r h hr_
  unfold r14_Of_e at h
  split at h
  · injection h with h; subst h; subst hr_
    refine ⟨fun K acs _ => pOk_no, fun hpre E G w hi hS => ?_⟩
    exact entry_post Dg (by exact rfl) (r14_Of_calls _  hS)
  · cases h
def T_r14_Of : List (Nat × Entry Sg) := (51, r14_Of_e) :: T_bin_Of
theorem T_r14_Of_ok : TableOk Dg Try.prog T_r14_Of := TableOk.cons Dg r14_Of_ok T_bin_Of_ok

/- bin.page -/
def bin_page (t : Int) (p : Int) (h : Int) (g : Int) : Bool := decide (g ≥ (0 : Int)) && decide (g < p)
def bin_page_out (r_ : Bool) : List Value → Value := fun ss => .bool (r_)
def bin_page_nw (r_ : Bool) : List (Chunk Sg) := []
def bin_page_rows (r_ : Bool) : List (Mk Sg) := []
section
variable (t : Int) (p : Int) (h : Int) (g : Int)
theorem bin_page_calls {E_ : World} {G_ : Hp} {w_ : World} (hS : Sat E_ G_ w_ []) : Calls Try.prog 71 #[(.agg #[.int .i64 t, .int .i64 p, .int .i64 h]), (.int .i64 g)] w_ (Post Dg E_ G_ (bin_page_out (bin_page t p h g)) (bin_page_nw (bin_page t p h g)) (bin_page_rows (bin_page t p h g))) :=
  calls_post Dg T_r14_Of_ok (I := []) Try.func71 mix (B := bodyOf Try.f71) (by kernel_rfl) [(.agg #[.int .i64 t, .int .i64 p, .int .i64 h]), (.int .i64 g)] [.no, .no] (by kernel_rfl) (objs := []) (ros := []) (psOk_cons pOk_no (psOk_cons pOk_no (psOk_nil))) (by kernel_rfl) (trivial) hS 400
    (t := Tree.fresh fun b => Tree.ret (Value.bool (decide (g ≥ (0 : Int)) && decide (g < p))) pn_ [kc_ b 77 [(vi_ t, pn_), (vi_ p, pn_), (vi_ h, pn_)]])
    (by kernel_rfl)
    (fun b0_0 => RetOk.at (outf := bin_page_out) (nwf := bin_page_nw) (rowsf := bin_page_rows) (r := decide (g ≥ (0 : Int)) && decide (g < p)) (by first | exact Eq.symm rfl | (simp only [bin_page, cond_true, cond_false]; done) | (exfalso; simp_all; done) | decide) ⟨[], [], (by decide), rfl, rfl, trivial⟩)
end
def bin_page_e : Entry Sg := fun
  | [(.agg ⟨[.int .i64 t, .int .i64 p, .int .i64 h]⟩, .none), (.int .i64 g, _)] => some ⟨(bin_page t p h g), fun (r_ : Bool) => ⟨[], none, [], fun ss => .bool (r_), fun k_ => .no⟩⟩
  | _ => none
theorem bin_page_ok : EntryOk Dg Try.prog 71 bin_page_e := by
  intro args c r h hr_
  unfold bin_page_e at h
  split at h
  · injection h with h; subst h; subst hr_
    refine ⟨fun K acs _ => pOk_no, fun hpre E G w hi hS => ?_⟩
    exact entry_post Dg (by exact rfl) (bin_page_calls _ _ _ _  hS)
  · cases h
def T_bin_page : List (Nat × Entry Sg) := (71, bin_page_e) :: T_r14_Of
theorem T_bin_page_ok : TableOk Dg Try.prog T_bin_page := TableOk.cons Dg bin_page_ok T_r14_Of_ok

/- bin.Add -/
def bin_Add (s : VS) (t : Int) (p : Int) (h : Int) (g : Int) (n : Int) : VS := (bif !bin_page t p h g || decide (n < (1 : Int)) || decide (n > IntKind.wrap IntKind.i64 (p - g)) then s else (let r2 : VS := VS.set s (place_Info t p h g) (Prod.fst (info_Put (1 : Int) n (0 : Int))); (let r4 : VS := VS.set r2 (place_Foot t p h (IntKind.wrap IntKind.i64 (IntKind.wrap IntKind.i64 (g + n) - (1 : Int)))) (IntKind.wrap IntKind.u32 (IntKind.wrap IntKind.i64 (g + (1 : Int)))); (let r6 : VS := link_Push r4 t p h (place_Bin (bin_Of n)) g; r6))))
def bin_Add_out (r_ : VS) : List Value → Value := fun ss => undef
def bin_Add_nw (p_0 : Addr) (r_ : VS) : List (Chunk Sg) := [.obj p_0 (.view (r_))]
def bin_Add_rows (r_ : VS) : List (Mk Sg) := []
section
variable (s : VS) (t : Int) (p : Int) (h : Int) (g : Int) (n : Int) (p_0 : Addr)
theorem bin_Add_calls {E_ : World} {G_ : Hp} {w_ : World} (hS : Sat E_ G_ w_ [Dg p_0 ((.view s))]) : Calls Try.prog 48 #[(.pointer (some p_0)), (.agg #[.int .i64 t, .int .i64 p, .int .i64 h]), (.int .i64 g), (.int .i64 n)] w_ (Post Dg E_ G_ (bin_Add_out (bin_Add s t p h g n)) (bin_Add_nw p_0 (bin_Add s t p h g n)) (bin_Add_rows (bin_Add s t p h g n))) :=
  calls_post Dg T_bin_page_ok (I := []) Try.func48 mix (B := bodyOf Try.f48) (by kernel_rfl) [(.pointer (some p_0)), (.agg #[.int .i64 t, .int .i64 p, .int .i64 h]), (.int .i64 g), (.int .i64 n)] [.pt 0 .obj, .no, .no, .no] (by kernel_rfl) (objs := [.obj p_0 (.view s)]) (ros := []) (psOk_cons (pOk_at rfl rfl) (psOk_cons pOk_no (psOk_cons pOk_no (psOk_cons pOk_no (psOk_nil))))) (by kernel_rfl) (trivial) hS 400
    (t := Tree.fresh fun b => Tree.br (!bin_page t p h g || decide (n < (1 : Int)) || decide (n > IntKind.wrap IntKind.i64 (p - g))) (Tree.ret (Value.tuple { toList := [] }) pn_ [Chunk.obj p_0 (Sg.view s), kc_ b 77 [(vi_ t, pn_), (vi_ p, pn_), (vi_ h, pn_)]]) (Tree.bind (VS.set s (place_Info t p h g) (Prod.fst (info_Put (1 : Int) n (0 : Int)))) fun a => Tree.need (bd32 (Prod.fst (info_Put (1 : Int) n (0 : Int)))) (Tree.bind (VS.set a (place_Foot t p h (IntKind.wrap IntKind.i64 (IntKind.wrap IntKind.i64 (g + n) - (1 : Int)))) (IntKind.wrap IntKind.u32 (IntKind.wrap IntKind.i64 (g + (1 : Int))))) fun a_1 => Tree.need (bd32 (IntKind.wrap IntKind.u32 (IntKind.wrap IntKind.i64 (g + (1 : Int))))) (Tree.bind (link_Push a_1 t p h (place_Bin (bin_Of n)) g) fun a_2 => Tree.ret (Value.tuple { toList := [] }) pn_ [Chunk.obj p_0 (Option.getD (some (Sg.view a_2)) (Option.getD (some (Sg.view a_1)) (Option.getD (some (Sg.view a)) (Sg.view s)))), kc_ b 77 [(vi_ t, pn_), (vi_ p, pn_), (vi_ h, pn_)]]))))
    (by kernel_rfl)
    (fun b0_0 => ⟨fun z1 => RetOk.at (outf := bin_Add_out) (nwf := bin_Add_nw p_0) (rowsf := bin_Add_rows) (r := s) (by first | exact Eq.symm ((cT z1).trans rfl) | (simp only [bin_Add, z1, cond_true, cond_false]; done) | (exfalso; simp_all; done) | decide) ⟨[], [0], (by decide), rfl, rfl, ⟨.inl rfl, trivial⟩⟩, fun z1 => fun r2 e2 => ⟨by first | exact wu32_bd _ | exact VS.get_bd _ _ | exact zero_bd | exact iVal_bd' _ _ _ | exact iVal_bd2 _ _ _ | (subst_vars; exact VS.get_bd _ _) | (simp only [decide_eq_true_eq, decide_eq_false_iff_not, Bool.or_eq_false_iff] at *; omega) | omega, fun y3 => fun r4 e4 => ⟨by first | exact wu32_bd _ | exact VS.get_bd _ _ | exact zero_bd | exact iVal_bd' _ _ _ | exact iVal_bd2 _ _ _ | (subst_vars; exact VS.get_bd _ _) | (simp only [decide_eq_true_eq, decide_eq_false_iff_not, Bool.or_eq_false_iff] at *; omega) | omega, fun y5 => fun r6 e6 => RetOk.at (outf := bin_Add_out) (nwf := bin_Add_nw p_0) (rowsf := bin_Add_rows) (r := r6) (by subst e2; subst e4; subst e6; first | exact Eq.symm ((cF z1).trans rfl) | (simp only [bin_Add, z1, cond_true, cond_false]; done) | (exfalso; simp_all; done) | decide) ⟨[], [0], (by decide), rfl, rfl, ⟨.inl rfl, trivial⟩⟩⟩⟩⟩)
end
def bin_Add_e : Entry Sg := fun
  | [(.pointer (some p_0), .obj (.view s)), (.agg ⟨[.int .i64 t, .int .i64 p, .int .i64 h]⟩, .none), (.int .i64 g, _), (.int .i64 n, _)] => some ⟨(bin_Add s t p h g n), fun (r_ : VS) => ⟨[], some (.view (r_)), [], fun ss => undef, fun k_ => .no⟩⟩
  | _ => none
theorem bin_Add_ok : EntryOk Dg Try.prog 48 bin_Add_e := by
  intro args c r h hr_
  unfold bin_Add_e at h
  split at h
  · injection h with h; subst h; subst hr_
    refine ⟨fun K acs _ => pOk_no, fun hpre E G w hi hS => ?_⟩
    exact entry_post Dg (by exact rfl) (bin_Add_calls _ _ _ _ _ _ _  hS)
  · cases h
def T_bin_Add : List (Nat × Entry Sg) := (48, bin_Add_e) :: T_bin_page
theorem T_bin_Add_ok : TableOk Dg Try.prog T_bin_Add := TableOk.cons Dg bin_Add_ok T_bin_page_ok

/- bin.free -/
def bin_free (s : VS) (t : Int) (p : Int) (h : Int) (g : Int) : VS × Int := (let r1 : VS × Int := (VS.read s (place_Info t p h g), VS.get s (place_Info t p h g)); (bif Prod.fst (info_Get (Prod.snd r1)) != (1 : Int) then (Prod.fst r1, (0 : Int)) else (Prod.fst r1, Prod.fst (Prod.snd (info_Get (Prod.snd r1))))))
def bin_free_out (r_ : VS × Int) : List Value → Value := fun ss => .int .i64 (r_.2)
def bin_free_nw (p_0 : Addr) (r_ : VS × Int) : List (Chunk Sg) := [.obj p_0 (.view (r_.1))]
def bin_free_rows (r_ : VS × Int) : List (Mk Sg) := []
section
variable (s : VS) (t : Int) (p : Int) (h : Int) (g : Int) (p_0 : Addr)
theorem bin_free_calls {E_ : World} {G_ : Hp} {w_ : World} (hS : Sat E_ G_ w_ [Dg p_0 ((.view s))]) : Calls Try.prog 77 #[(.pointer (some p_0)), (.agg #[.int .i64 t, .int .i64 p, .int .i64 h]), (.int .i64 g)] w_ (Post Dg E_ G_ (bin_free_out (bin_free s t p h g)) (bin_free_nw p_0 (bin_free s t p h g)) (bin_free_rows (bin_free s t p h g))) :=
  calls_post Dg T_bin_Add_ok (I := []) Try.func77 mix (B := bodyOf Try.f77) (by kernel_rfl) [(.pointer (some p_0)), (.agg #[.int .i64 t, .int .i64 p, .int .i64 h]), (.int .i64 g)] [.pt 0 .obj, .no, .no] (by kernel_rfl) (objs := [.obj p_0 (.view s)]) (ros := []) (psOk_cons (pOk_at rfl rfl) (psOk_cons pOk_no (psOk_cons pOk_no (psOk_nil)))) (by kernel_rfl) (trivial) hS 400
    (t := Tree.fresh fun b => Tree.bind (VS.read s (place_Info t p h g), VS.get s (place_Info t p h g)) fun a => Tree.fresh fun b_1 => Tree.br (Prod.fst (info_Get (Prod.snd a)) != (1 : Int)) (Tree.ret (vi_ (0 : Int)) pn_ [Chunk.obj p_0 (Option.getD (some (Sg.view (Prod.fst a))) (Sg.view s)), kc_ b 77 [(vi_ t, pn_), (vi_ p, pn_), (vi_ h, pn_)], kc_ b_1 86 [(vi_ (Prod.fst (info_Get (Prod.snd a))), pn_), (vi_ (Prod.fst (Prod.snd (info_Get (Prod.snd a)))), pn_), (vi_ (Prod.fst (Prod.snd (Prod.snd (info_Get (Prod.snd a))))), pn_)]]) (Tree.ret (vi_ (Prod.fst (Prod.snd (info_Get (Prod.snd a))))) pn_ [Chunk.obj p_0 (Option.getD (some (Sg.view (Prod.fst a))) (Sg.view s)), kc_ b 77 [(vi_ t, pn_), (vi_ p, pn_), (vi_ h, pn_)], kc_ b_1 86 [(vi_ (Prod.fst (info_Get (Prod.snd a))), pn_), (vi_ (Prod.fst (Prod.snd (info_Get (Prod.snd a)))), pn_), (vi_ (Prod.fst (Prod.snd (Prod.snd (info_Get (Prod.snd a))))), pn_)]]))
    (by kernel_rfl)
    (fun b0_0 => fun r1 e1 => fun b2_0 => ⟨fun z3 => RetOk.at (outf := bin_free_out) (nwf := bin_free_nw p_0) (rowsf := bin_free_rows) (r := (Prod.fst r1, (0 : Int))) (by subst e1; first | exact Eq.symm ((cT z3).trans rfl) | (simp only [bin_free, z3, cond_true, cond_false]; done) | (exfalso; simp_all; done) | decide) ⟨[], [0], (by decide), rfl, rfl, ⟨.inl rfl, trivial⟩⟩, fun z3 => RetOk.at (outf := bin_free_out) (nwf := bin_free_nw p_0) (rowsf := bin_free_rows) (r := (Prod.fst r1, Prod.fst (Prod.snd (info_Get (Prod.snd r1))))) (by subst e1; first | exact Eq.symm ((cF z3).trans rfl) | (simp only [bin_free, z3, cond_true, cond_false]; done) | (exfalso; simp_all; done) | decide) ⟨[], [0], (by decide), rfl, rfl, ⟨.inl rfl, trivial⟩⟩⟩)
end
def bin_free_e : Entry Sg := fun
  | [(.pointer (some p_0), .obj (.view s)), (.agg ⟨[.int .i64 t, .int .i64 p, .int .i64 h]⟩, .none), (.int .i64 g, _)] => some ⟨(bin_free s t p h g), fun (r_ : VS × Int) => ⟨[], some (.view (r_.1)), [], fun ss => .int .i64 (r_.2), fun k_ => .no⟩⟩
  | _ => none
theorem bin_free_ok : EntryOk Dg Try.prog 77 bin_free_e := by
  intro args c r h hr_
  unfold bin_free_e at h
  split at h
  · injection h with h; subst h; subst hr_
    refine ⟨fun K acs _ => pOk_no, fun hpre E G w hi hS => ?_⟩
    exact entry_post Dg (by exact rfl) (bin_free_calls _ _ _ _ _ _  hS)
  · cases h
def T_bin_free : List (Nat × Entry Sg) := (77, bin_free_e) :: T_bin_Add
theorem T_bin_free_ok : TableOk Dg Try.prog T_bin_free := TableOk.cons Dg bin_free_ok T_bin_Add_ok

/- bin.Drop -/
def bin_Drop (s : VS) (t : Int) (p : Int) (h : Int) (g : Int) : VS × Int := (bif !bin_page t p h g then (s, (0 : Int)) else (let r2 : VS × Int := bin_free s t p h g; (bif decide (Prod.snd r2 > (0 : Int)) then (let r4 : VS := link_Pull (Prod.fst r2) t p h (place_Bin (bin_Of (Prod.snd r2))) g; (r4, Prod.snd r2)) else (Prod.fst r2, Prod.snd r2))))
def bin_Drop_out (r_ : VS × Int) : List Value → Value := fun ss => .int .i64 (r_.2)
def bin_Drop_nw (p_0 : Addr) (r_ : VS × Int) : List (Chunk Sg) := [.obj p_0 (.view (r_.1))]
def bin_Drop_rows (r_ : VS × Int) : List (Mk Sg) := []
section
variable (s : VS) (t : Int) (p : Int) (h : Int) (g : Int) (p_0 : Addr)
theorem bin_Drop_calls {E_ : World} {G_ : Hp} {w_ : World} (hS : Sat E_ G_ w_ [Dg p_0 ((.view s))]) : Calls Try.prog 46 #[(.pointer (some p_0)), (.agg #[.int .i64 t, .int .i64 p, .int .i64 h]), (.int .i64 g)] w_ (Post Dg E_ G_ (bin_Drop_out (bin_Drop s t p h g)) (bin_Drop_nw p_0 (bin_Drop s t p h g)) (bin_Drop_rows (bin_Drop s t p h g))) :=
  calls_post Dg T_bin_free_ok (I := []) Try.func46 mix (B := bodyOf Try.f46) (by kernel_rfl) [(.pointer (some p_0)), (.agg #[.int .i64 t, .int .i64 p, .int .i64 h]), (.int .i64 g)] [.pt 0 .obj, .no, .no] (by kernel_rfl) (objs := [.obj p_0 (.view s)]) (ros := []) (psOk_cons (pOk_at rfl rfl) (psOk_cons pOk_no (psOk_cons pOk_no (psOk_nil)))) (by kernel_rfl) (trivial) hS 400
    (t := Tree.fresh fun b => Tree.br (!bin_page t p h g) (Tree.ret (vi_ (0 : Int)) pn_ [Chunk.obj p_0 (Sg.view s), kc_ b 77 [(vi_ t, pn_), (vi_ p, pn_), (vi_ h, pn_)]]) (Tree.bind (bin_free s t p h g) fun a => Tree.br (decide (Prod.snd a > (0 : Int))) (Tree.bind (link_Pull (Prod.fst a) t p h (place_Bin (bin_Of (Prod.snd a))) g) fun a_1 => Tree.ret (vi_ (Prod.snd a)) pn_ [Chunk.obj p_0 (Option.getD (some (Sg.view a_1)) (Option.getD (some (Sg.view (Prod.fst a))) (Sg.view s))), kc_ b 77 [(vi_ t, pn_), (vi_ p, pn_), (vi_ h, pn_)]]) (Tree.ret (vi_ (Prod.snd a)) pn_ [Chunk.obj p_0 (Option.getD (some (Sg.view (Prod.fst a))) (Sg.view s)), kc_ b 77 [(vi_ t, pn_), (vi_ p, pn_), (vi_ h, pn_)]])))
    (by kernel_rfl)
    (fun b0_0 => ⟨fun z1 => RetOk.at (outf := bin_Drop_out) (nwf := bin_Drop_nw p_0) (rowsf := bin_Drop_rows) (r := (s, (0 : Int))) (by first | exact Eq.symm ((cT z1).trans rfl) | (simp only [bin_Drop, z1, cond_true, cond_false]; done) | (exfalso; simp_all; done) | decide) ⟨[], [0], (by decide), rfl, rfl, ⟨.inl rfl, trivial⟩⟩, fun z1 => fun r2 e2 => ⟨fun z3 => fun r4 e4 => RetOk.at (outf := bin_Drop_out) (nwf := bin_Drop_nw p_0) (rowsf := bin_Drop_rows) (r := (r4, Prod.snd r2)) (by subst e2; subst e4; first | exact Eq.symm ((cF z1).trans ((cT z3).trans rfl)) | (simp only [bin_Drop, z1, z3, cond_true, cond_false]; done) | (exfalso; simp_all; done) | decide) ⟨[], [0], (by decide), rfl, rfl, ⟨.inl rfl, trivial⟩⟩, fun z3 => RetOk.at (outf := bin_Drop_out) (nwf := bin_Drop_nw p_0) (rowsf := bin_Drop_rows) (r := (Prod.fst r2, Prod.snd r2)) (by subst e2; first | exact Eq.symm ((cF z1).trans ((cF z3).trans rfl)) | (simp only [bin_Drop, z1, z3, cond_true, cond_false]; done) | (exfalso; simp_all; done) | decide) ⟨[], [0], (by decide), rfl, rfl, ⟨.inl rfl, trivial⟩⟩⟩⟩)
end
def bin_Drop_e : Entry Sg := fun
  | [(.pointer (some p_0), .obj (.view s)), (.agg ⟨[.int .i64 t, .int .i64 p, .int .i64 h]⟩, .none), (.int .i64 g, _)] => some ⟨(bin_Drop s t p h g), fun (r_ : VS × Int) => ⟨[], some (.view (r_.1)), [], fun ss => .int .i64 (r_.2), fun k_ => .no⟩⟩
  | _ => none
theorem bin_Drop_ok : EntryOk Dg Try.prog 46 bin_Drop_e := by
  intro args c r h hr_
  unfold bin_Drop_e at h
  split at h
  · injection h with h; subst h; subst hr_
    refine ⟨fun K acs _ => pOk_no, fun hpre E G w hi hS => ?_⟩
    exact entry_post Dg (by exact rfl) (bin_Drop_calls _ _ _ _ _ _  hS)
  · cases h
def T_bin_Drop : List (Nat × Entry Sg) := (46, bin_Drop_e) :: T_bin_free
theorem T_bin_Drop_ok : TableOk Dg Try.prog T_bin_Drop := TableOk.cons Dg bin_Drop_ok T_bin_free_ok

/- nacreref14.Info -/
def r14_Info (s : VS) (t : Int) (p : Int) (h : Int) (g : Int) : VS × Int × Int × Int := (let r2 : VS × Int := (VS.read s (r07_Info t p h g), VS.get s (r07_Info t p h g)); (Prod.fst r2, Prod.fst (r09_Get (Prod.snd r2)), Prod.fst (Prod.snd (r09_Get (Prod.snd r2))), Prod.fst (Prod.snd (Prod.snd (r09_Get (Prod.snd r2))))))
def r14_Info_out (r_ : VS × Int × Int × Int) : List Value → Value := fun ss => .agg #[.int .i64 (r_.2.1), .int .i64 (r_.2.2.1), .int .i64 (r_.2.2.2)]
def r14_Info_nw (p_0 : Addr) (r_ : VS × Int × Int × Int) : List (Chunk Sg) := [.obj p_0 (.ref (r_.1))]
def r14_Info_rows (r_ : VS × Int × Int × Int) : List (Mk Sg) := []
section
variable (s : VS) (t : Int) (p : Int) (h : Int) (g : Int) (p_0 : Addr)
theorem r14_Info_calls {E_ : World} {G_ : Hp} {w_ : World} (hS : Sat E_ G_ w_ [Dg p_0 ((.ref s))]) : Calls Try.prog 75 #[(.pointer (some p_0)), (.agg #[.int .i64 t, .int .i64 p, .int .i64 h]), (.int .i64 g)] w_ (Post Dg E_ G_ (r14_Info_out (r14_Info s t p h g)) (r14_Info_nw p_0 (r14_Info s t p h g)) (r14_Info_rows (r14_Info s t p h g))) :=
  calls_post Dg T_bin_Drop_ok (I := []) Try.func75 mix (B := bodyOf Try.f75) (by kernel_rfl) [(.pointer (some p_0)), (.agg #[.int .i64 t, .int .i64 p, .int .i64 h]), (.int .i64 g)] [.pt 0 .obj, .no, .no] (by kernel_rfl) (objs := [.obj p_0 (.ref s)]) (ros := []) (psOk_cons (pOk_at rfl rfl) (psOk_cons pOk_no (psOk_cons pOk_no (psOk_nil)))) (by kernel_rfl) (trivial) hS 400
    (t := Tree.fresh fun b => Tree.fresh fun b_1 => Tree.bind (VS.read s (r07_Info t p h g), VS.get s (r07_Info t p h g)) fun a => Tree.fresh fun b_2 => Tree.ret (Value.agg { toList := [vi_ (Prod.fst (r09_Get (Prod.snd a))), vi_ (Prod.fst (Prod.snd (r09_Get (Prod.snd a)))), vi_ (Prod.fst (Prod.snd (Prod.snd (r09_Get (Prod.snd a)))))] }) pn_ [Chunk.obj p_0 (Option.getD (some (Sg.ref (Prod.fst a))) (Sg.ref s)), kc_ b 77 [(vi_ t, pn_), (vi_ p, pn_), (vi_ h, pn_)], kc_ b_1 86 [(vi_ (Prod.fst (r09_Get (Prod.snd a))), pn_), (vi_ (Prod.fst (Prod.snd (r09_Get (Prod.snd a)))), pn_), (vi_ (Prod.fst (Prod.snd (Prod.snd (r09_Get (Prod.snd a))))), pn_)], kc_ b_2 86 [(vi_ (Prod.fst (r09_Get (Prod.snd a))), pn_), (vi_ (Prod.fst (Prod.snd (r09_Get (Prod.snd a)))), pn_), (vi_ (Prod.fst (Prod.snd (Prod.snd (r09_Get (Prod.snd a))))), pn_)]])
    (by kernel_rfl)
    (fun b0_0 => fun b1_0 => fun r2 e2 => fun b3_0 => RetOk.at (outf := r14_Info_out) (nwf := r14_Info_nw p_0) (rowsf := r14_Info_rows) (r := (Prod.fst r2, Prod.fst (r09_Get (Prod.snd r2)), Prod.fst (Prod.snd (r09_Get (Prod.snd r2))), Prod.fst (Prod.snd (Prod.snd (r09_Get (Prod.snd r2)))))) (by subst e2; first | exact Eq.symm rfl | (simp only [r14_Info, cond_true, cond_false]; done) | (exfalso; simp_all; done) | decide) ⟨[], [0], (by decide), rfl, rfl, ⟨.inl rfl, trivial⟩⟩)
end
def r14_Info_e : Entry Sg := fun
  | [(.pointer (some p_0), .obj (.ref s)), (.agg ⟨[.int .i64 t, .int .i64 p, .int .i64 h]⟩, .none), (.int .i64 g, _)] => some ⟨(r14_Info s t p h g), fun (r_ : VS × Int × Int × Int) => ⟨[], some (.ref (r_.1)), [], fun ss => .agg #[.int .i64 (r_.2.1), .int .i64 (r_.2.2.1), .int .i64 (r_.2.2.2)], fun k_ => .no⟩⟩
  | _ => none
theorem r14_Info_ok : EntryOk Dg Try.prog 75 r14_Info_e := by
  intro args c r h hr_
  unfold r14_Info_e at h
  split at h
  · injection h with h; subst h; subst hr_
    refine ⟨fun K acs _ => pOk_no, fun hpre E G w hi hS => ?_⟩
    exact entry_post Dg (by exact rfl) (r14_Info_calls _ _ _ _ _ _  hS)
  · cases h
def T_r14_Info : List (Nat × Entry Sg) := (75, r14_Info_e) :: T_bin_Drop
theorem T_r14_Info_ok : TableOk Dg Try.prog T_r14_Info := TableOk.cons Dg r14_Info_ok T_bin_Drop_ok

/- nacreref14.Add -/
def r14_Add (s : VS) (t : Int) (p : Int) (h : Int) (g : Int) (n : Int) : VS := (bif decide (g < (0 : Int)) || decide (g ≥ p) || decide (n < (1 : Int)) || decide (n > IntKind.wrap IntKind.i64 (p - g)) then s else (let r2 : VS := VS.set s (r07_Info t p h g) (r09_Value (1 : Int) n (0 : Int)); (let r4 : VS := VS.set r2 (r07_Foot t p h (IntKind.wrap IntKind.i64 (IntKind.wrap IntKind.i64 (g + n) - (1 : Int)))) (IntKind.wrap IntKind.u32 (IntKind.wrap IntKind.u32 g + (1 : Int))); (let r6 : VS := r13_Push r4 t p h (r07_Bin (r14_Of n)) g; r6))))
def r14_Add_out (r_ : VS) : List Value → Value := fun ss => undef
def r14_Add_nw (p_0 : Addr) (r_ : VS) : List (Chunk Sg) := [.obj p_0 (.ref (r_))]
def r14_Add_rows (r_ : VS) : List (Mk Sg) := []
section
variable (s : VS) (t : Int) (p : Int) (h : Int) (g : Int) (n : Int) (p_0 : Addr)
theorem r14_Add_calls {E_ : World} {G_ : Hp} {w_ : World} (hS : Sat E_ G_ w_ [Dg p_0 ((.ref s))]) : Calls Try.prog 49 #[(.pointer (some p_0)), (.agg #[.int .i64 t, .int .i64 p, .int .i64 h]), (.int .i64 g), (.int .i64 n)] w_ (Post Dg E_ G_ (r14_Add_out (r14_Add s t p h g n)) (r14_Add_nw p_0 (r14_Add s t p h g n)) (r14_Add_rows (r14_Add s t p h g n))) :=
  calls_post Dg T_r14_Info_ok (I := []) Try.func49 mix (B := bodyOf Try.f49) (by kernel_rfl) [(.pointer (some p_0)), (.agg #[.int .i64 t, .int .i64 p, .int .i64 h]), (.int .i64 g), (.int .i64 n)] [.pt 0 .obj, .no, .no, .no] (by kernel_rfl) (objs := [.obj p_0 (.ref s)]) (ros := []) (psOk_cons (pOk_at rfl rfl) (psOk_cons pOk_no (psOk_cons pOk_no (psOk_cons pOk_no (psOk_nil))))) (by kernel_rfl) (trivial) hS 400
    (t := Tree.fresh fun b => Tree.br (decide (g < (0 : Int)) || decide (g ≥ p) || decide (n < (1 : Int)) || decide (n > IntKind.wrap IntKind.i64 (p - g))) (Tree.ret (Value.tuple { toList := [] }) pn_ [Chunk.obj p_0 (Sg.ref s), kc_ b 77 [(vi_ t, pn_), (vi_ p, pn_), (vi_ h, pn_)]]) (Tree.bind (VS.set s (r07_Info t p h g) (r09_Value (1 : Int) n (0 : Int))) fun a => Tree.need (bd32 (r09_Value (1 : Int) n (0 : Int))) (Tree.bind (VS.set a (r07_Foot t p h (IntKind.wrap IntKind.i64 (IntKind.wrap IntKind.i64 (g + n) - (1 : Int)))) (IntKind.wrap IntKind.u32 (IntKind.wrap IntKind.u32 g + (1 : Int)))) fun a_1 => Tree.need (bd32 (IntKind.wrap IntKind.u32 (IntKind.wrap IntKind.u32 g + (1 : Int)))) (Tree.bind (r13_Push a_1 t p h (r07_Bin (r14_Of n)) g) fun a_2 => Tree.ret (Value.tuple { toList := [] }) pn_ [Chunk.obj p_0 (Option.getD (some (Sg.ref a_2)) (Option.getD (some (Sg.ref a_1)) (Option.getD (some (Sg.ref a)) (Sg.ref s)))), kc_ b 77 [(vi_ t, pn_), (vi_ p, pn_), (vi_ h, pn_)]]))))
    (by kernel_rfl)
    (fun b0_0 => ⟨fun z1 => RetOk.at (outf := r14_Add_out) (nwf := r14_Add_nw p_0) (rowsf := r14_Add_rows) (r := s) (by first | exact Eq.symm ((cT z1).trans rfl) | (simp only [r14_Add, z1, cond_true, cond_false]; done) | (exfalso; simp_all; done) | decide) ⟨[], [0], (by decide), rfl, rfl, ⟨.inl rfl, trivial⟩⟩, fun z1 => fun r2 e2 => ⟨by first | exact wu32_bd _ | exact VS.get_bd _ _ | exact zero_bd | exact iVal_bd' _ _ _ | exact iVal_bd2 _ _ _ | (subst_vars; exact VS.get_bd _ _) | (simp only [decide_eq_true_eq, decide_eq_false_iff_not, Bool.or_eq_false_iff] at *; omega) | omega, fun y3 => fun r4 e4 => ⟨by first | exact wu32_bd _ | exact VS.get_bd _ _ | exact zero_bd | exact iVal_bd' _ _ _ | exact iVal_bd2 _ _ _ | (subst_vars; exact VS.get_bd _ _) | (simp only [decide_eq_true_eq, decide_eq_false_iff_not, Bool.or_eq_false_iff] at *; omega) | omega, fun y5 => fun r6 e6 => RetOk.at (outf := r14_Add_out) (nwf := r14_Add_nw p_0) (rowsf := r14_Add_rows) (r := r6) (by subst e2; subst e4; subst e6; first | exact Eq.symm ((cF z1).trans rfl) | (simp only [r14_Add, z1, cond_true, cond_false]; done) | (exfalso; simp_all; done) | decide) ⟨[], [0], (by decide), rfl, rfl, ⟨.inl rfl, trivial⟩⟩⟩⟩⟩)
end
def r14_Add_e : Entry Sg := fun
  | [(.pointer (some p_0), .obj (.ref s)), (.agg ⟨[.int .i64 t, .int .i64 p, .int .i64 h]⟩, .none), (.int .i64 g, _), (.int .i64 n, _)] => some ⟨(r14_Add s t p h g n), fun (r_ : VS) => ⟨[], some (.ref (r_)), [], fun ss => undef, fun k_ => .no⟩⟩
  | _ => none
theorem r14_Add_ok : EntryOk Dg Try.prog 49 r14_Add_e := by
  intro args c r h hr_
  unfold r14_Add_e at h
  split at h
  · injection h with h; subst h; subst hr_
    refine ⟨fun K acs _ => pOk_no, fun hpre E G w hi hS => ?_⟩
    exact entry_post Dg (by exact rfl) (r14_Add_calls _ _ _ _ _ _ _  hS)
  · cases h
def T_r14_Add : List (Nat × Entry Sg) := (49, r14_Add_e) :: T_r14_Info
theorem T_r14_Add_ok : TableOk Dg Try.prog T_r14_Add := TableOk.cons Dg r14_Add_ok T_r14_Info_ok

/- nacreref14.Drop -/
def r14_Drop (s : VS) (t : Int) (p : Int) (h : Int) (g : Int) : VS × Int := (bif decide (g < (0 : Int)) || decide (g ≥ p) then (s, (0 : Int)) else (let r2 : VS × Int × Int × Int := r14_Info s t p h g; (bif Prod.fst (Prod.snd r2) != (1 : Int) then (Prod.fst r2, (0 : Int)) else (let r5 : VS := r13_Pull (Prod.fst r2) t p h (r07_Bin (r14_Of (Prod.fst (Prod.snd (Prod.snd r2))))) g; (r5, Prod.fst (Prod.snd (Prod.snd r2)))))))
def r14_Drop_out (r_ : VS × Int) : List Value → Value := fun ss => .int .i64 (r_.2)
def r14_Drop_nw (p_0 : Addr) (r_ : VS × Int) : List (Chunk Sg) := [.obj p_0 (.ref (r_.1))]
def r14_Drop_rows (r_ : VS × Int) : List (Mk Sg) := []
section
variable (s : VS) (t : Int) (p : Int) (h : Int) (g : Int) (p_0 : Addr)
theorem r14_Drop_calls {E_ : World} {G_ : Hp} {w_ : World} (hS : Sat E_ G_ w_ [Dg p_0 ((.ref s))]) : Calls Try.prog 47 #[(.pointer (some p_0)), (.agg #[.int .i64 t, .int .i64 p, .int .i64 h]), (.int .i64 g)] w_ (Post Dg E_ G_ (r14_Drop_out (r14_Drop s t p h g)) (r14_Drop_nw p_0 (r14_Drop s t p h g)) (r14_Drop_rows (r14_Drop s t p h g))) :=
  calls_post Dg T_r14_Add_ok (I := []) Try.func47 mix (B := bodyOf Try.f47) (by kernel_rfl) [(.pointer (some p_0)), (.agg #[.int .i64 t, .int .i64 p, .int .i64 h]), (.int .i64 g)] [.pt 0 .obj, .no, .no] (by kernel_rfl) (objs := [.obj p_0 (.ref s)]) (ros := []) (psOk_cons (pOk_at rfl rfl) (psOk_cons pOk_no (psOk_cons pOk_no (psOk_nil)))) (by kernel_rfl) (trivial) hS 400
    (t := Tree.fresh fun b => Tree.br (decide (g < (0 : Int)) || decide (g ≥ p)) (Tree.ret (vi_ (0 : Int)) pn_ [Chunk.obj p_0 (Sg.ref s), kc_ b 77 [(vi_ t, pn_), (vi_ p, pn_), (vi_ h, pn_)]]) (Tree.bind (r14_Info s t p h g) fun a => Tree.fresh fun b_1 => Tree.br (Prod.fst (Prod.snd a) != (1 : Int)) (Tree.ret (vi_ (0 : Int)) pn_ [Chunk.obj p_0 (Option.getD (some (Sg.ref (Prod.fst a))) (Sg.ref s)), kc_ b 77 [(vi_ t, pn_), (vi_ p, pn_), (vi_ h, pn_)], kc_ b_1 86 [(vi_ (Prod.fst (Prod.snd a)), pn_), (vi_ (Prod.fst (Prod.snd (Prod.snd a))), pn_), (vi_ (Prod.snd (Prod.snd (Prod.snd a))), pn_)]]) (Tree.bind (r13_Pull (Prod.fst a) t p h (r07_Bin (r14_Of (Prod.fst (Prod.snd (Prod.snd a))))) g) fun a_1 => Tree.ret (vi_ (Prod.fst (Prod.snd (Prod.snd a)))) pn_ [Chunk.obj p_0 (Option.getD (some (Sg.ref a_1)) (Option.getD (some (Sg.ref (Prod.fst a))) (Sg.ref s))), kc_ b 77 [(vi_ t, pn_), (vi_ p, pn_), (vi_ h, pn_)], kc_ b_1 86 [(vi_ (Prod.fst (Prod.snd a)), pn_), (vi_ (Prod.fst (Prod.snd (Prod.snd a))), pn_), (vi_ (Prod.snd (Prod.snd (Prod.snd a))), pn_)]])))
    (by kernel_rfl)
    (fun b0_0 => ⟨fun z1 => RetOk.at (outf := r14_Drop_out) (nwf := r14_Drop_nw p_0) (rowsf := r14_Drop_rows) (r := (s, (0 : Int))) (by first | exact Eq.symm ((cT z1).trans rfl) | (simp only [r14_Drop, z1, cond_true, cond_false]; done) | (exfalso; simp_all; done) | decide) ⟨[], [0], (by decide), rfl, rfl, ⟨.inl rfl, trivial⟩⟩, fun z1 => fun r2 e2 => fun b3_0 => ⟨fun z4 => RetOk.at (outf := r14_Drop_out) (nwf := r14_Drop_nw p_0) (rowsf := r14_Drop_rows) (r := (Prod.fst r2, (0 : Int))) (by subst e2; first | exact Eq.symm ((cF z1).trans ((cT z4).trans rfl)) | (simp only [r14_Drop, z1, z4, cond_true, cond_false]; done) | (exfalso; simp_all; done) | decide) ⟨[], [0], (by decide), rfl, rfl, ⟨.inl rfl, trivial⟩⟩, fun z4 => fun r5 e5 => RetOk.at (outf := r14_Drop_out) (nwf := r14_Drop_nw p_0) (rowsf := r14_Drop_rows) (r := (r5, Prod.fst (Prod.snd (Prod.snd r2)))) (by subst e2; subst e5; first | exact Eq.symm ((cF z1).trans ((cF z4).trans rfl)) | (simp only [r14_Drop, z1, z4, cond_true, cond_false]; done) | (exfalso; simp_all; done) | decide) ⟨[], [0], (by decide), rfl, rfl, ⟨.inl rfl, trivial⟩⟩⟩⟩)
end
def r14_Drop_e : Entry Sg := fun
  | [(.pointer (some p_0), .obj (.ref s)), (.agg ⟨[.int .i64 t, .int .i64 p, .int .i64 h]⟩, .none), (.int .i64 g, _)] => some ⟨(r14_Drop s t p h g), fun (r_ : VS × Int) => ⟨[], some (.ref (r_.1)), [], fun ss => .int .i64 (r_.2), fun k_ => .no⟩⟩
  | _ => none
theorem r14_Drop_ok : EntryOk Dg Try.prog 47 r14_Drop_e := by
  intro args c r h hr_
  unfold r14_Drop_e at h
  split at h
  · injection h with h; subst h; subst hr_
    refine ⟨fun K acs _ => pOk_no, fun hpre E G w hi hS => ?_⟩
    exact entry_post Dg (by exact rfl) (r14_Drop_calls _ _ _ _ _ _  hS)
  · cases h
def T_r14_Drop : List (Nat × Entry Sg) := (47, r14_Drop_e) :: T_r14_Add
theorem T_r14_Drop_ok : TableOk Dg Try.prog T_r14_Drop := TableOk.cons Dg r14_Drop_ok T_r14_Add_ok
end Go.Proofs.Ytdbpiopcbhmieaa
