/-
  DERIVED. What functions of the program compute, read off their bodies by the machine of SlB, and that it is so. Printed by a program of this claim's own (wip/gen/gen2.py).
-/
import Derived.Test.YtdbpiopcbhmieaaPlRef5
import Derived.Test.YtdbpiopcbhmieaaPlKnow
namespace Go.Proofs.Ytdbpiopcbhmieaa
open Go.Sl
set_option linter.unusedSimpArgs false
set_option linter.unusedVariables false

/- nacrelaw11.touch -/
def l11_touch (s : VS) (pt : Bool) (i : Int) (y : Int) : VS × Int := (bif pt then (let r2 : VS := VS.set s i y; (r2, (0 : Int))) else (let r2 : VS × Int := (VS.read s i, VS.get s i); (Prod.fst r2, Prod.snd r2)))
def l11_touch_out (r_ : VS × Int) : List Value → Value := fun ss => .int .u32 (r_.2)
def l11_touch_nw (p_0 : Addr) (r_ : VS × Int) : List (Chunk Sg) := [.obj p_0 (.view (r_.1))]
def l11_touch_rows (r_ : VS × Int) : List (Mk Sg) := []
section
variable (s : VS) (pt : Bool) (i : Int) (y : Int) (p_0 : Addr)
theorem l11_touch_calls {E_ : World} {G_ : Hp} {w_ : World} (hp0 : bd32 y) (hS : Sat E_ G_ w_ [Dg p_0 ((.view s))]) : Calls Try.prog 16 #[(.pointer (some p_0)), (.agg #[.bool pt, .int .i64 i, .int .u32 y])] w_ (Post Dg E_ G_ (l11_touch_out (l11_touch s pt i y)) (l11_touch_nw p_0 (l11_touch s pt i y)) (l11_touch_rows (l11_touch s pt i y))) :=
  calls_post Dg T_same_ok (I := []) Try.func16 mix (B := bodyOf Try.f16) (by kernel_rfl) [(.pointer (some p_0)), (.agg #[.bool pt, .int .i64 i, .int .u32 y])] [.pt 0 .obj, .no] (by kernel_rfl) (objs := [.obj p_0 (.view s)]) (ros := []) (psOk_cons (pOk_at rfl rfl) (psOk_cons pOk_no (psOk_nil))) (by kernel_rfl) (trivial) hS 400
    (t := Tree.fresh fun b => Tree.br pt (Tree.bind (VS.set s i y) fun a => Tree.need (bd32 y) (Tree.ret (vu_ (0 : Int)) pn_ [Chunk.obj p_0 (Option.getD (some (Sg.view a)) (Sg.view s)), kc_ b 35 [(Value.bool pt, pn_), (vi_ i, pn_), (vu_ y, pn_)]])) (Tree.bind (VS.read s i, VS.get s i) fun a => Tree.ret (vu_ (Prod.snd a)) pn_ [Chunk.obj p_0 (Option.getD (some (Sg.view (Prod.fst a))) (Sg.view s)), kc_ b 35 [(Value.bool pt, pn_), (vi_ i, pn_), (vu_ y, pn_)]]))
    (by kernel_rfl)
    (fun b0_0 => ⟨fun z1 => fun r2 e2 => ⟨by exact hp0, fun y3 => RetOk.at (outf := l11_touch_out) (nwf := l11_touch_nw p_0) (rowsf := l11_touch_rows) (r := (r2, (0 : Int))) (by subst e2; first | exact Eq.symm ((cT z1).trans rfl) | (simp only [l11_touch, z1, cond_true, cond_false]; done) | (exfalso; simp_all; done) | decide) ⟨[], [0], (by decide), rfl, rfl, ⟨.inl rfl, trivial⟩⟩⟩, fun z1 => fun r2 e2 => RetOk.at (outf := l11_touch_out) (nwf := l11_touch_nw p_0) (rowsf := l11_touch_rows) (r := (Prod.fst r2, Prod.snd r2)) (by subst e2; first | exact Eq.symm ((cF z1).trans rfl) | (simp only [l11_touch, z1, cond_true, cond_false]; done) | (exfalso; simp_all; done) | decide) ⟨[], [0], (by decide), rfl, rfl, ⟨.inl rfl, trivial⟩⟩⟩)
end
def l11_touch_e : Entry Sg := fun
  | [(.pointer (some p_0), .obj (.view s)), (.agg ⟨[.bool pt, .int .i64 i, .int .u32 y]⟩, .none)] => some ⟨(l11_touch s pt i y), fun (r_ : VS × Int) => ⟨[(bd32 y : Prop)], some (.view (r_.1)), [], fun ss => .int .u32 (r_.2), fun k_ => .no⟩⟩
  | _ => none
theorem l11_touch_ok : EntryOk Dg Try.prog 16 l11_touch_e := by
  intro args c r h hr_
  unfold l11_touch_e at h
  split at h
  · injection h with h; subst h; subst hr_
    refine ⟨fun K acs _ => pOk_no, fun hpre E G w hi hS => ?_⟩
    exact entry_post Dg (by exact rfl) (l11_touch_calls _ _ _ _ _ (hpre _ (by simp)) hS)
  · cases h
def T_l11_touch : List (Nat × Entry Sg) := (16, l11_touch_e) :: T_same
theorem T_l11_touch_ok : TableOk Dg Try.prog T_l11_touch := TableOk.cons Dg l11_touch_ok T_same_ok

/- nacrelaw11.want -/
def l11_want (s : VS) (pt : Bool) (i : Int) (y : Int) : VS × Int := (bif pt then (let r2 : VS := VS.set s i y; (r2, (0 : Int))) else (let r2 : VS × Int := (VS.read s i, VS.get s i); (Prod.fst r2, Prod.snd r2)))
def l11_want_out (r_ : VS × Int) : List Value → Value := fun ss => .int .u32 (r_.2)
def l11_want_nw (p_0 : Addr) (r_ : VS × Int) : List (Chunk Sg) := [.obj p_0 (.ref (r_.1))]
def l11_want_rows (r_ : VS × Int) : List (Mk Sg) := []
section
variable (s : VS) (pt : Bool) (i : Int) (y : Int) (p_0 : Addr)
theorem l11_want_calls {E_ : World} {G_ : Hp} {w_ : World} (hp0 : bd32 y) (hS : Sat E_ G_ w_ [Dg p_0 ((.ref s))]) : Calls Try.prog 17 #[(.pointer (some p_0)), (.agg #[.bool pt, .int .i64 i, .int .u32 y])] w_ (Post Dg E_ G_ (l11_want_out (l11_want s pt i y)) (l11_want_nw p_0 (l11_want s pt i y)) (l11_want_rows (l11_want s pt i y))) :=
  calls_post Dg T_l11_touch_ok (I := []) Try.func17 mix (B := bodyOf Try.f17) (by kernel_rfl) [(.pointer (some p_0)), (.agg #[.bool pt, .int .i64 i, .int .u32 y])] [.pt 0 .obj, .no] (by kernel_rfl) (objs := [.obj p_0 (.ref s)]) (ros := []) (psOk_cons (pOk_at rfl rfl) (psOk_cons pOk_no (psOk_nil))) (by kernel_rfl) (trivial) hS 400
    (t := Tree.fresh fun b => Tree.br pt (Tree.bind (VS.set s i y) fun a => Tree.need (bd32 y) (Tree.ret (vu_ (0 : Int)) pn_ [Chunk.obj p_0 (Option.getD (some (Sg.ref a)) (Sg.ref s)), kc_ b 35 [(Value.bool pt, pn_), (vi_ i, pn_), (vu_ y, pn_)]])) (Tree.bind (VS.read s i, VS.get s i) fun a => Tree.ret (vu_ (Prod.snd a)) pn_ [Chunk.obj p_0 (Option.getD (some (Sg.ref (Prod.fst a))) (Sg.ref s)), kc_ b 35 [(Value.bool pt, pn_), (vi_ i, pn_), (vu_ y, pn_)]]))
    (by kernel_rfl)
    (fun b0_0 => ⟨fun z1 => fun r2 e2 => ⟨by exact hp0, fun y3 => RetOk.at (outf := l11_want_out) (nwf := l11_want_nw p_0) (rowsf := l11_want_rows) (r := (r2, (0 : Int))) (by subst e2; first | exact Eq.symm ((cT z1).trans rfl) | (simp only [l11_want, z1, cond_true, cond_false]; done) | (exfalso; simp_all; done) | decide) ⟨[], [0], (by decide), rfl, rfl, ⟨.inl rfl, trivial⟩⟩⟩, fun z1 => fun r2 e2 => RetOk.at (outf := l11_want_out) (nwf := l11_want_nw p_0) (rowsf := l11_want_rows) (r := (Prod.fst r2, Prod.snd r2)) (by subst e2; first | exact Eq.symm ((cF z1).trans rfl) | (simp only [l11_want, z1, cond_true, cond_false]; done) | (exfalso; simp_all; done) | decide) ⟨[], [0], (by decide), rfl, rfl, ⟨.inl rfl, trivial⟩⟩⟩)
end
def l11_want_e : Entry Sg := fun
  | [(.pointer (some p_0), .obj (.ref s)), (.agg ⟨[.bool pt, .int .i64 i, .int .u32 y]⟩, .none)] => some ⟨(l11_want s pt i y), fun (r_ : VS × Int) => ⟨[(bd32 y : Prop)], some (.ref (r_.1)), [], fun ss => .int .u32 (r_.2), fun k_ => .no⟩⟩
  | _ => none
theorem l11_want_ok : EntryOk Dg Try.prog 17 l11_want_e := by
  intro args c r h hr_
  unfold l11_want_e at h
  split at h
  · injection h with h; subst h; subst hr_
    refine ⟨fun K acs _ => pOk_no, fun hpre E G w hi hS => ?_⟩
    exact entry_post Dg (by exact rfl) (l11_want_calls _ _ _ _ _ (hpre _ (by simp)) hS)
  · cases h
def T_l11_want : List (Nat × Entry Sg) := (17, l11_want_e) :: T_l11_touch
theorem T_l11_want_ok : TableOk Dg Try.prog T_l11_want := TableOk.cons Dg l11_want_ok T_l11_touch_ok

/- nacrelaw11.live -/
def l11_live : Bool := (let r1 : VS := VS.whole [(5 : Int), (6 : Int)]; (let r5 : VS × Int := (VS.read r1 (1 : Int), VS.get r1 (1 : Int)); (let r6 : VS := VS.set (Prod.fst r5) (1 : Int) (7 : Int); (let r9 : VS := VS.known (2 : Int) [(0 : Int)] [(5 : Int)]; (bif Prod.snd r5 == (6 : Int) then (let r15 : VS × Int := (VS.read r6 (1 : Int), VS.get r6 (1 : Int)); (bif Prod.snd r15 == (7 : Int) then (let r17 : List Int := VS.reads (Prod.fst r15); (bif eqInts r17 [(1 : Int)] then (let r21 : List Int := VS.vals (Prod.fst r15); (bif eqVals r21 [(5 : Int), (7 : Int)] then (let r25 : VS × Int := (VS.read r9 (1 : Int), VS.get r9 (1 : Int)); (bif Prod.snd r25 == (0 : Int) then (let r27 : Int := VS.miss (Prod.fst r25); (bif r27 == (1 : Int) then (let r29 : VS × Int := (VS.read (Prod.fst r25) (0 : Int), VS.get (Prod.fst r25) (0 : Int)); Prod.snd r29 == (0 : Int)) else false)) else false)) else false)) else false)) else false)) else false)))))
def l11_live_out (r_ : Bool) : List Value → Value := fun ss => .bool (r_)
def l11_live_nw (r_ : Bool) : List (Chunk Sg) := []
def l11_live_rows (r_ : Bool) : List (Mk Sg) := []
theorem l11_live_calls {E_ : World} {G_ : Hp} {w_ : World} (hS : Sat E_ G_ w_ []) : Calls Try.prog 11 #[] w_ (Post Dg E_ G_ (l11_live_out l11_live) (l11_live_nw l11_live) (l11_live_rows l11_live)) :=
  calls_post Dg T_l11_want_ok (I := []) Try.func11 mix (B := bodyOf Try.f11) (by kernel_rfl) [] [] (by kernel_rfl) (objs := []) (ros := []) (psOk_nil) (by kernel_rfl) (trivial) hS 400
    (t := Tree.fresh fun b => Tree.bind (VS.whole [(5 : Int), (6 : Int)]) fun a => Tree.need (2 ≤ 1000000) (Tree.need (∀ (v : Int), v ∈ [] ++ [(5 : Int)] ++ [(6 : Int)] → bd32 v) (Tree.fresh fun b_1 => Tree.bind (VS.read a (1 : Int), VS.get a (1 : Int)) fun a_1 => Tree.bind (VS.set (Prod.fst a_1) (1 : Int) (7 : Int)) fun a_2 => Tree.need (bd32 (7 : Int)) (Tree.fresh fun b_2 => Tree.bind (VS.known (2 : Int) [(0 : Int)] [(5 : Int)]) fun a_3 => Tree.need ((2 : Int) ≤ (1000000 : Int)) (Tree.need (∀ (v : Int), v ∈ [] ++ [(5 : Int)] → bd32 v) (Tree.need (1 = 1) (Tree.fresh fun b_3 => Tree.br (Prod.snd a_1 == (6 : Int)) (Tree.bind (VS.read a_2 (1 : Int), VS.get a_2 (1 : Int)) fun a_4 => Tree.br (Prod.snd a_4 == (7 : Int)) (Tree.bind (VS.reads (Prod.fst a_4)) fun a_5 => Tree.freshS fun a_6 cap => Tree.fresh fun b_4 => Tree.br (eqInts a_5 [(1 : Int)]) (Tree.bind (VS.vals (Prod.fst a_4)) fun a_7 => Tree.freshS fun a_8 cap_1 => Tree.fresh fun b_5 => Tree.br (eqVals a_7 [(5 : Int), (7 : Int)]) (Tree.bind (VS.read a_3 (1 : Int), VS.get a_3 (1 : Int)) fun a_9 => Tree.br (Prod.snd a_9 == (0 : Int)) (Tree.bind (VS.miss (Prod.fst a_9)) fun a_10 => Tree.br (a_10 == (1 : Int)) (Tree.bind (VS.read (Prod.fst a_9) (0 : Int), VS.get (Prod.fst a_9) (0 : Int)) fun a_11 => Tree.ret (Value.bool (Prod.snd a_11 == (0 : Int))) pn_ [kr_ (some b) 32 2 2 [cu_ [(5 : Int), (6 : Int)]], Chunk.obj { block := b_1, off := 0 } (Option.getD (some (Sg.view (Prod.fst a_4))) (Option.getD (some (Sg.view (Prod.fst a_4))) (Option.getD (some (Sg.view (Prod.fst a_4))) (Option.getD (some (Sg.view a_2)) (Option.getD (some (Sg.view (Prod.fst a_1))) (Sg.view a)))))), kr_ (some b_2) 46 1 1 [ci_ [(0 : Int)], cu_ [(5 : Int)]], Chunk.obj { block := b_3, off := 0 } (Option.getD (some (Sg.view (Prod.fst a_11))) (Option.getD (some (Sg.view (Prod.fst a_9))) (Option.getD (some (Sg.view (Prod.fst a_9))) (Sg.view a_3)))), kr_ a_6 3 (List.length a_5) cap [ci_ a_5], kr_ (some b_4) 3 1 1 [ci_ [(1 : Int)]], kr_ a_8 32 (List.length a_7) cap_1 [cu_ a_7], kr_ (some b_5) 32 2 2 [cu_ [(5 : Int), (7 : Int)]]]) (Tree.ret (Value.bool false) pn_ [kr_ (some b) 32 2 2 [cu_ [(5 : Int), (6 : Int)]], Chunk.obj { block := b_1, off := 0 } (Option.getD (some (Sg.view (Prod.fst a_4))) (Option.getD (some (Sg.view (Prod.fst a_4))) (Option.getD (some (Sg.view (Prod.fst a_4))) (Option.getD (some (Sg.view a_2)) (Option.getD (some (Sg.view (Prod.fst a_1))) (Sg.view a)))))), kr_ (some b_2) 46 1 1 [ci_ [(0 : Int)], cu_ [(5 : Int)]], Chunk.obj { block := b_3, off := 0 } (Option.getD (some (Sg.view (Prod.fst a_9))) (Option.getD (some (Sg.view (Prod.fst a_9))) (Sg.view a_3))), kr_ a_6 3 (List.length a_5) cap [ci_ a_5], kr_ (some b_4) 3 1 1 [ci_ [(1 : Int)]], kr_ a_8 32 (List.length a_7) cap_1 [cu_ a_7], kr_ (some b_5) 32 2 2 [cu_ [(5 : Int), (7 : Int)]]])) (Tree.ret (Value.bool false) pn_ [kr_ (some b) 32 2 2 [cu_ [(5 : Int), (6 : Int)]], Chunk.obj { block := b_1, off := 0 } (Option.getD (some (Sg.view (Prod.fst a_4))) (Option.getD (some (Sg.view (Prod.fst a_4))) (Option.getD (some (Sg.view (Prod.fst a_4))) (Option.getD (some (Sg.view a_2)) (Option.getD (some (Sg.view (Prod.fst a_1))) (Sg.view a)))))), kr_ (some b_2) 46 1 1 [ci_ [(0 : Int)], cu_ [(5 : Int)]], Chunk.obj { block := b_3, off := 0 } (Option.getD (some (Sg.view (Prod.fst a_9))) (Sg.view a_3)), kr_ a_6 3 (List.length a_5) cap [ci_ a_5], kr_ (some b_4) 3 1 1 [ci_ [(1 : Int)]], kr_ a_8 32 (List.length a_7) cap_1 [cu_ a_7], kr_ (some b_5) 32 2 2 [cu_ [(5 : Int), (7 : Int)]]])) (Tree.ret (Value.bool false) pn_ [kr_ (some b) 32 2 2 [cu_ [(5 : Int), (6 : Int)]], Chunk.obj { block := b_1, off := 0 } (Option.getD (some (Sg.view (Prod.fst a_4))) (Option.getD (some (Sg.view (Prod.fst a_4))) (Option.getD (some (Sg.view (Prod.fst a_4))) (Option.getD (some (Sg.view a_2)) (Option.getD (some (Sg.view (Prod.fst a_1))) (Sg.view a)))))), kr_ (some b_2) 46 1 1 [ci_ [(0 : Int)], cu_ [(5 : Int)]], Chunk.obj { block := b_3, off := 0 } (Sg.view a_3), kr_ a_6 3 (List.length a_5) cap [ci_ a_5], kr_ (some b_4) 3 1 1 [ci_ [(1 : Int)]], kr_ a_8 32 (List.length a_7) cap_1 [cu_ a_7], kr_ (some b_5) 32 2 2 [cu_ [(5 : Int), (7 : Int)]]])) (Tree.ret (Value.bool false) pn_ [kr_ (some b) 32 2 2 [cu_ [(5 : Int), (6 : Int)]], Chunk.obj { block := b_1, off := 0 } (Option.getD (some (Sg.view (Prod.fst a_4))) (Option.getD (some (Sg.view (Prod.fst a_4))) (Option.getD (some (Sg.view a_2)) (Option.getD (some (Sg.view (Prod.fst a_1))) (Sg.view a))))), kr_ (some b_2) 46 1 1 [ci_ [(0 : Int)], cu_ [(5 : Int)]], Chunk.obj { block := b_3, off := 0 } (Sg.view a_3), kr_ a_6 3 (List.length a_5) cap [ci_ a_5], kr_ (some b_4) 3 1 1 [ci_ [(1 : Int)]]])) (Tree.ret (Value.bool false) pn_ [kr_ (some b) 32 2 2 [cu_ [(5 : Int), (6 : Int)]], Chunk.obj { block := b_1, off := 0 } (Option.getD (some (Sg.view (Prod.fst a_4))) (Option.getD (some (Sg.view a_2)) (Option.getD (some (Sg.view (Prod.fst a_1))) (Sg.view a)))), kr_ (some b_2) 46 1 1 [ci_ [(0 : Int)], cu_ [(5 : Int)]], Chunk.obj { block := b_3, off := 0 } (Sg.view a_3)])) (Tree.ret (Value.bool false) pn_ [kr_ (some b) 32 2 2 [cu_ [(5 : Int), (6 : Int)]], Chunk.obj { block := b_1, off := 0 } (Option.getD (some (Sg.view a_2)) (Option.getD (some (Sg.view (Prod.fst a_1))) (Sg.view a))), kr_ (some b_2) 46 1 1 [ci_ [(0 : Int)], cu_ [(5 : Int)]], Chunk.obj { block := b_3, off := 0 } (Sg.view a_3)]))))))))
    (by kernel_rfl)
    (fun b0_0 => fun r1 e1 => ⟨by first | omega | (simp [bd32, VS.puts]; done), fun y2 => ⟨by first | omega | (simp [bd32, VS.puts]; done), fun y3 => fun b4_0 => fun r5 e5 => fun r6 e6 => ⟨by first | omega | (simp [bd32, VS.puts]; done), fun y7 => fun b8_0 => fun r9 e9 => ⟨by first | omega | (simp [bd32, VS.puts]; done), fun y10 => ⟨by first | omega | (simp [bd32, VS.puts]; done), fun y11 => ⟨by first | omega | (simp [bd32, VS.puts]; done), fun y12 => fun b13_0 => ⟨fun z14 => fun r15 e15 => ⟨fun z16 => fun r17 e17 => fun b18_0 b18_1 => fun b19_0 => ⟨fun z20 => fun r21 e21 => fun b22_0 b22_1 => fun b23_0 => ⟨fun z24 => fun r25 e25 => ⟨fun z26 => fun r27 e27 => ⟨fun z28 => fun r29 e29 => RetOk.at (outf := l11_live_out) (nwf := l11_live_nw) (rowsf := l11_live_rows) (r := Prod.snd r29 == (0 : Int)) (by subst e1; subst e5; subst e6; subst e9; subst e15; subst e17; subst e21; subst e25; subst e27; subst e29; first | exact Eq.symm ((cT z14).trans ((cT z16).trans ((cT z20).trans ((cT z24).trans ((cT z26).trans ((cT z28).trans rfl)))))) | (simp only [l11_live, z14, z16, z20, z24, z26, z28, cond_true, cond_false]; done) | (exfalso; simp_all; done) | decide) ⟨[], [], (by decide), rfl, rfl, trivial⟩, fun z28 => RetOk.at (outf := l11_live_out) (nwf := l11_live_nw) (rowsf := l11_live_rows) (r := false) (by subst e1; subst e5; subst e6; subst e9; subst e15; subst e17; subst e21; subst e25; subst e27; first | exact Eq.symm ((cT z14).trans ((cT z16).trans ((cT z20).trans ((cT z24).trans ((cT z26).trans ((cF z28).trans rfl)))))) | (simp only [l11_live, z14, z16, z20, z24, z26, z28, cond_true, cond_false]; done) | (exfalso; simp_all; done) | decide) ⟨[], [], (by decide), rfl, rfl, trivial⟩⟩, fun z26 => RetOk.at (outf := l11_live_out) (nwf := l11_live_nw) (rowsf := l11_live_rows) (r := false) (by subst e1; subst e5; subst e6; subst e9; subst e15; subst e17; subst e21; subst e25; first | exact Eq.symm ((cT z14).trans ((cT z16).trans ((cT z20).trans ((cT z24).trans ((cF z26).trans rfl))))) | (simp only [l11_live, z14, z16, z20, z24, z26, cond_true, cond_false]; done) | (exfalso; simp_all; done) | decide) ⟨[], [], (by decide), rfl, rfl, trivial⟩⟩, fun z24 => RetOk.at (outf := l11_live_out) (nwf := l11_live_nw) (rowsf := l11_live_rows) (r := false) (by subst e1; subst e5; subst e6; subst e9; subst e15; subst e17; subst e21; first | exact Eq.symm ((cT z14).trans ((cT z16).trans ((cT z20).trans ((cF z24).trans rfl)))) | (simp only [l11_live, z14, z16, z20, z24, cond_true, cond_false]; done) | (exfalso; simp_all; done) | decide) ⟨[], [], (by decide), rfl, rfl, trivial⟩⟩, fun z20 => RetOk.at (outf := l11_live_out) (nwf := l11_live_nw) (rowsf := l11_live_rows) (r := false) (by subst e1; subst e5; subst e6; subst e9; subst e15; subst e17; first | exact Eq.symm ((cT z14).trans ((cT z16).trans ((cF z20).trans rfl))) | (simp only [l11_live, z14, z16, z20, cond_true, cond_false]; done) | (exfalso; simp_all; done) | decide) ⟨[], [], (by decide), rfl, rfl, trivial⟩⟩, fun z16 => RetOk.at (outf := l11_live_out) (nwf := l11_live_nw) (rowsf := l11_live_rows) (r := false) (by subst e1; subst e5; subst e6; subst e9; subst e15; first | exact Eq.symm ((cT z14).trans ((cF z16).trans rfl)) | (simp only [l11_live, z14, z16, cond_true, cond_false]; done) | (exfalso; simp_all; done) | decide) ⟨[], [], (by decide), rfl, rfl, trivial⟩⟩, fun z14 => RetOk.at (outf := l11_live_out) (nwf := l11_live_nw) (rowsf := l11_live_rows) (r := false) (by subst e1; subst e5; subst e6; subst e9; first | exact Eq.symm ((cF z14).trans rfl) | (simp only [l11_live, z14, cond_true, cond_false]; done) | (exfalso; simp_all; done) | decide) ⟨[], [], (by decide), rfl, rfl, trivial⟩⟩⟩⟩⟩⟩⟩⟩)
def l11_live_e : Entry Sg := fun
  | [] => some ⟨l11_live, fun (r_ : Bool) => ⟨[], none, [], fun ss => .bool (r_), fun k_ => .no⟩⟩
  | _ => none
theorem l11_live_ok : EntryOk Dg Try.prog 11 l11_live_e := by
  intro args c r h hr_
  unfold l11_live_e at h
  split at h
  · injection h with h; subst h; subst hr_
    refine ⟨fun K acs _ => pOk_no, fun hpre E G w hi hS => ?_⟩
    exact entry_post Dg (by exact rfl) (l11_live_calls  hS)
  · cases h
def T_l11_live : List (Nat × Entry Sg) := (11, l11_live_e) :: T_l11_want
theorem T_l11_live_ok : TableOk Dg Try.prog T_l11_live := TableOk.cons Dg l11_live_ok T_l11_want_ok

theorem l11_live_true : l11_live = true := by decide +kernel

end Go.Proofs.Ytdbpiopcbhmieaa
