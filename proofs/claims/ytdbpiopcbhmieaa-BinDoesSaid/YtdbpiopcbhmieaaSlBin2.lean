/-
  DERIVED. What functions of the program compute, read off their bodies by the machine of SlB, and that it is so. Printed by a program of this claim's own (wip/gen/gen2.py).
-/
import Derived.Test.YtdbpiopcbhmieaaPlBin
namespace Go.Proofs.Ytdbpiopcbhmieaa
open Go.Sl
set_option linter.unusedSimpArgs false
set_option linter.unusedVariables false

theorem n_in (n p : Int) : (decide (1 ≤ n) && decide (n ≤ p)) = !(decide (n < 1) || decide (n > p)) := by
  apply Bool.eq_iff_iff.2
  simp only [Bool.and_eq_true, decide_eq_true_eq, Bool.not_eq_true', Bool.or_eq_false_iff, decide_eq_false_iff_not]
  omega
theorem binOf_ge (n : Int) : -1 ≤ binOf n := by
  unfold binOf
  cases decide (n > 1024) with
  | true => exact Int.le_refl _
  | false => exact logI_ge n
theorem binOf_le (n : Int) : binOf n ≤ 10 := by
  unfold binOf
  cases h : decide (n > 1024) with
  | true => exact (by decide : (-1 : Int) ≤ 10)
  | false =>
    have : n < 2 ^ 11 := by
      have h' : ¬ n > 1024 := by simpa using h
      have : (2 : Int) ^ 11 = 2048 := by decide
      omega
    exact logI_le 11 n this


/- bin.first -/
def bin_first (s : VS) (t : Int) (p : Int) (sh : Int) (n : Int) : VS × Int × Bool := (Pg.get (cBin (binOf n)) fun q => pFirst ⟨t, p, sh⟩ n p.toNat (q - 1)).run s
def bin_first_out (r_ : VS × Int × Bool) : List Value → Value := fun ss => .tuple #[.int .i64 (r_.2.1), .bool (r_.2.2)]
def bin_first_nw (p_0 : Addr) (r_ : VS × Int × Bool) : List (Chunk Sg) := [.obj p_0 (.view (r_.1))]
def bin_first_rows (r_ : VS × Int × Bool) : List (Mk Sg) := []
section
variable (s : VS) (t : Int) (p : Int) (sh : Int) (n : Int) (p_0 : Addr)
abbrev bin_first_T1 : Type := Int → Int → Nat → VS → Prop
abbrev bin_first_L1 (s : VS) (t : Int) (p : Int) (sh : Int) (n : Int) (p_0 : Addr) (i : Int) (g : Int) (b0 : Nat) (sv : VS) : List Ent := [⟨18, none, .int .i64 i, .no⟩, ⟨17, none, .int .i64 p, .no⟩, ⟨8, none, .int .i64 g, .no⟩, ⟨4, none, .pointer (some ⟨b0, 0, none⟩), .pt 1 (.cell 0)⟩, ⟨0, none, .pointer (some p_0), .pt 0 .obj⟩, ⟨2, none, .int .i64 n, .no⟩]
abbrev bin_first_K1 (s : VS) (t : Int) (p : Int) (sh : Int) (n : Int) (p_0 : Addr) (i : Int) (g : Int) (b0 : Nat) (sv : VS) : List (Chunk Sg) := [.obj p_0 (.view sv), .cells b0 77 [(.int .i64 t, .no), (.int .i64 p, .no), (.int .i64 sh, .no)]]
abbrev bin_first_H (E_ : World) (G_ : Hp) (s : VS) (t : Int) (p : Int) (sh : Int) (n : Int) (p_0 : Addr) (r_ : VS × Int × Bool) (Q1 : bin_first_T1) : Prop := (∀ (i : Int) (g : Int) (b0 : Nat) (sv : VS), Q1 i g b0 sv → SW Dg Try.prog 69 (Post Dg E_ G_ (bin_first_out r_) (bin_first_nw p_0 r_) (bin_first_rows r_)) (bodyOf Try.f69) Try.f69.ntmps E_ G_ (.code (0 :: [0,1,0,1,1,0,1]) :: .again [0,1,0,1,1,0,1] :: [.blk 0, .code [1,1,1,0,1], .scp [1]]) (bin_first_L1 s t p sh n p_0 i g b0 sv) (bin_first_K1 s t p sh n p_0 i g b0 sv))
abbrev bin_first_wp0 (s : VS) (t : Int) (p : Int) (sh : Int) (n : Int) (p_0 : Addr) (Q1 : bin_first_T1) (R_ : VS × Int × Bool → Prop) : Prop := (∀ b0_0 : Nat, (∀ r1 : VS × Int, r1 = ((VS.read s (place_Bin (bin_Of n)), VS.get s (place_Bin (bin_Of n)))) → (Q1 ((0 : Int)) (IntKind.wrap IntKind.i64 (IntKind.wrap IntKind.i64 (Prod.snd r1) - (1 : Int))) (b0_0) (Prod.fst r1))))
abbrev bin_first_t0 (s : VS) (t : Int) (p : Int) (sh : Int) (n : Int) (p_0 : Addr) : Tree Sg := Tree.fresh fun b => Tree.bind (VS.read s (place_Bin (bin_Of n)), VS.get s (place_Bin (bin_Of n))) fun a => Tree.stuck [Ab.code [0, 1, 0, 1, 1, 0, 1], Ab.blk 0, Ab.code [1, 1, 1, 0, 1], Ab.scp [1]] [e0_ 1000018 (Value.tuple { toList := [] }) pn_, e0_ 18 (vi_ (0 : Int)) pn_, e0_ 17 (vi_ p) pn_, e0_ 16 (Value.pointer (some { block := b, off := 0 + 1 })) (pc_ 1 1), e0_ 8 (vi_ (IntKind.wrap IntKind.i64 (IntKind.wrap IntKind.i64 (Prod.snd a) - (1 : Int)))) pn_, e0_ 15 (vi_ (IntKind.wrap IntKind.i64 (IntKind.wrap IntKind.i64 (Prod.snd a) - (1 : Int)))) pn_, e0_ 14 (vi_ (IntKind.wrap IntKind.i64 (Prod.snd a))) pn_, e0_ 13 (vu_ (Prod.snd a)) pn_, e0_ 12 (vi_ (place_Bin (bin_Of n))) pn_, e0_ 11 (vi_ (bin_Of n)) pn_, e0_ 10 (vi_ n) pn_, e0_ 9 (Value.pointer (some p_0)) (po_ 0), e0_ 1000007 (Value.tuple { toList := [] }) pn_, e0_ 7 (Value.bool false) pn_, e0_ 1000006 (Value.tuple { toList := [] }) pn_, e0_ 6 (vi_ (0 : Int)) pn_, e0_ 4 (vp_ b) (pc_ 1 0), e0_ 0 (Value.pointer (some p_0)) (po_ 0), e0_ 1 (Value.agg { toList := [vi_ t, vi_ p, vi_ sh] }) pn_, e0_ 2 (vi_ n) pn_] [Chunk.obj p_0 (Option.getD (some (Sg.view (Prod.fst a))) (Sg.view s)), kc_ b 77 [(vi_ t, pn_), (vi_ p, pn_), (vi_ sh, pn_)]]
theorem bin_first_pc0 {E_ : World} {G_ : Hp} {r_ : VS × Int × Bool} {Q1 : bin_first_T1} (hQ : bin_first_H E_ G_ s t p sh n p_0 r_ Q1) (h : bin_first_wp0 s t p sh n p_0 Q1 (fun x => x = r_)) : (bin_first_t0 s t p sh n p_0 ).holds (RetOk (bin_first_out r_) (bin_first_nw p_0 r_) (bin_first_rows r_)) (SW Dg Try.prog 69 (Post Dg E_ G_ (bin_first_out r_) (bin_first_nw p_0 r_) (bin_first_rows r_)) (bodyOf Try.f69) Try.f69.ntmps E_ G_) :=
  fun b0_0 => fun r1 e1 => SW.move Dg [18, 17, 8, 4, 0, 2] [0, 1] (by decide) (by kernel_rfl) (by kernel_rfl) (SW.enter Dg (by kernel_rfl) (hQ ((0 : Int)) (IntKind.wrap IntKind.i64 (IntKind.wrap IntKind.i64 (Prod.snd r1) - (1 : Int))) (b0_0) (Prod.fst r1) ((h b0_0) r1 e1)))
abbrev bin_first_wp1 (s : VS) (t : Int) (p : Int) (sh : Int) (n : Int) (p_0 : Addr) (i : Int) (g : Int) (b0 : Nat) (sv : VS) (Q1 : bin_first_T1) (R_ : VS × Int × Bool → Prop) : Prop := (((decide (i < p)) = true → (((!bin_page t p sh g) = true → (R_ ((sv, (0 : Int), false)))) ∧ ((!bin_page t p sh g) = false → (∀ r2 : VS × Int, r2 = (bin_free sv t p sh g) → (((decide (Prod.snd r2 ≥ n)) = true → (R_ ((Prod.fst r2, g, true)))) ∧ ((decide (Prod.snd r2 ≥ n)) = false → (∀ r4 : VS × Int, r4 = ((VS.read (Prod.fst r2) (place_Next t p sh g), VS.get (Prod.fst r2) (place_Next t p sh g))) → (Q1 (IntKind.wrap IntKind.i64 (i + (1 : Int))) (IntKind.wrap IntKind.i64 (IntKind.wrap IntKind.i64 (Prod.snd r4) - (1 : Int))) (b0) (Prod.fst r4))))))))) ∧ ((decide (i < p)) = false → (R_ ((sv, (0 : Int), false)))))
abbrev bin_first_t1 (s : VS) (t : Int) (p : Int) (sh : Int) (n : Int) (p_0 : Addr) (i : Int) (g : Int) (b0 : Nat) (sv : VS) : Tree Sg := Tree.br (decide (i < p)) (Tree.br (!bin_page t p sh g) (Tree.ret (Value.tuple { toList := [vi_ (0 : Int), Value.bool false] }) pn_ [Chunk.obj p_0 (Sg.view sv), kc_ b0 77 [(vi_ t, pn_), (vi_ p, pn_), (vi_ sh, pn_)]]) (Tree.bind (bin_free sv t p sh g) fun a => Tree.br (decide (Prod.snd a ≥ n)) (Tree.ret (Value.tuple { toList := [vi_ g, Value.bool true] }) pn_ [Chunk.obj p_0 (Option.getD (some (Sg.view (Prod.fst a))) (Sg.view sv)), kc_ b0 77 [(vi_ t, pn_), (vi_ p, pn_), (vi_ sh, pn_)]]) (Tree.bind (VS.read (Prod.fst a) (place_Next t p sh g), VS.get (Prod.fst a) (place_Next t p sh g)) fun a_1 => Tree.stuck [Ab.again [0, 1, 0, 1, 1, 0, 1], Ab.blk 0, Ab.code [1, 1, 1, 0, 1], Ab.scp [1]] [e0_ 18 (vi_ (IntKind.wrap IntKind.i64 (i + (1 : Int)))) pn_, e0_ 40 (vi_ (IntKind.wrap IntKind.i64 (i + (1 : Int)))) pn_, e0_ 8 (vi_ (IntKind.wrap IntKind.i64 (IntKind.wrap IntKind.i64 (Prod.snd a_1) - (1 : Int)))) pn_, e0_ 39 (vi_ (IntKind.wrap IntKind.i64 (IntKind.wrap IntKind.i64 (Prod.snd a_1) - (1 : Int)))) pn_, e0_ 38 (vi_ (IntKind.wrap IntKind.i64 (Prod.snd a_1))) pn_, e0_ 37 (vu_ (Prod.snd a_1)) pn_, e0_ 36 (vi_ (place_Next t p sh g)) pn_, e0_ 35 (vi_ g) pn_, e0_ 34 (Value.agg { toList := [vi_ t, vi_ p, vi_ sh] }) pn_, e0_ 33 (Value.pointer (some p_0)) (po_ 0), e0_ 25 (Value.bool (decide (Prod.snd a ≥ n))) pn_, e0_ 31 (Value.bool (decide (Prod.snd a ≥ n))) pn_, e0_ 30 (vi_ n) pn_, e0_ 29 (vi_ (Prod.snd a)) pn_, e0_ 28 (vi_ g) pn_, e0_ 27 (Value.agg { toList := [vi_ t, vi_ p, vi_ sh] }) pn_, e0_ 26 (Value.pointer (some p_0)) (po_ 0), e0_ 20 (Value.bool !bin_page t p sh g) pn_, e0_ 24 (Value.bool !bin_page t p sh g) pn_, e0_ 23 (Value.bool (bin_page t p sh g)) pn_, e0_ 22 (vi_ g) pn_, e0_ 21 (Value.agg { toList := [vi_ t, vi_ p, vi_ sh] }) pn_, e0_ 19 (Value.bool (decide (i < p))) pn_, e0_ 17 (vi_ p) pn_, e0_ 4 (vp_ b0) (pc_ 1 0), e0_ 0 (Value.pointer (some p_0)) (po_ 0), e0_ 2 (vi_ n) pn_] [Chunk.obj p_0 (Option.getD (some (Sg.view (Prod.fst a_1))) (Option.getD (some (Sg.view (Prod.fst a))) (Sg.view sv))), kc_ b0 77 [(vi_ t, pn_), (vi_ p, pn_), (vi_ sh, pn_)]]))) (Tree.ret (Value.tuple { toList := [vi_ (0 : Int), Value.bool false] }) pn_ [Chunk.obj p_0 (Sg.view sv), kc_ b0 77 [(vi_ t, pn_), (vi_ p, pn_), (vi_ sh, pn_)]])
theorem bin_first_pc1 {E_ : World} {G_ : Hp} (i : Int) (g : Int) (b0 : Nat) (sv : VS) {r_ : VS × Int × Bool} {Q1 : bin_first_T1} (hQ : bin_first_H E_ G_ s t p sh n p_0 r_ Q1) (h : bin_first_wp1 s t p sh n p_0 i g b0 sv Q1 (fun x => x = r_)) : (bin_first_t1 s t p sh n p_0 i g b0 sv ).holds (RetOk (bin_first_out r_) (bin_first_nw p_0 r_) (bin_first_rows r_)) (SW Dg Try.prog 69 (Post Dg E_ G_ (bin_first_out r_) (bin_first_nw p_0 r_) (bin_first_rows r_)) (bodyOf Try.f69) Try.f69.ntmps E_ G_) :=
  ⟨fun z0 => ⟨fun z1 => RetOk.at (outf := bin_first_out) (nwf := bin_first_nw p_0) (rowsf := bin_first_rows) (r := (sv, (0 : Int), false)) ((h.1 z0).1 z1) ⟨[], [0], (by decide), rfl, rfl, ⟨.inl rfl, trivial⟩⟩, fun z1 => fun r2 e2 => ⟨fun z3 => RetOk.at (outf := bin_first_out) (nwf := bin_first_nw p_0) (rowsf := bin_first_rows) (r := (Prod.fst r2, g, true)) ((((h.1 z0).2 z1) r2 e2).1 z3) ⟨[], [0], (by decide), rfl, rfl, ⟨.inl rfl, trivial⟩⟩, fun z3 => fun r4 e4 => SW.move Dg [18, 17, 8, 4, 0, 2] [0, 1] (by decide) (by kernel_rfl) (by kernel_rfl) (SW.again Dg (hQ (IntKind.wrap IntKind.i64 (i + (1 : Int))) (IntKind.wrap IntKind.i64 (IntKind.wrap IntKind.i64 (Prod.snd r4) - (1 : Int))) (b0) (Prod.fst r4) (((((h.1 z0).2 z1) r2 e2).2 z3) r4 e4)))⟩⟩, fun z0 => RetOk.at (outf := bin_first_out) (nwf := bin_first_nw p_0) (rowsf := bin_first_rows) (r := (sv, (0 : Int), false)) (h.2 z0) ⟨[], [0], (by decide), rfl, rfl, ⟨.inl rfl, trivial⟩⟩⟩
theorem bin_first_go1 {E_ : World} {G_ : Hp} (i : Int) (g : Int) (b0 : Nat) (sv : VS) {r_ : VS × Int × Bool} {Q1 : bin_first_T1} (hQ : bin_first_H E_ G_ s t p sh n p_0 r_ Q1) (h : bin_first_wp1 s t p sh n p_0 i g b0 sv Q1 (fun x => x = r_)) : SW Dg Try.prog 69 (Post Dg E_ G_ (bin_first_out r_) (bin_first_nw p_0 r_) (bin_first_rows r_)) (bodyOf Try.f69) Try.f69.ntmps E_ G_ (.code (0 :: [0,1,0,1,1,0,1]) :: .again [0,1,0,1,1,0,1] :: [.blk 0, .code [1,1,1,0,1], .scp [1]]) (bin_first_L1 s t p sh n p_0 i g b0 sv) (bin_first_K1 s t p sh n p_0 i g b0 sv) :=
  SW.go Dg T_r14_Drop_ok (I := []) Try.func69 mix 400 (t := bin_first_t1 s t p sh n p_0 i g b0 sv ) (by kernel_rfl) (bin_first_pc1 s t p sh n p_0 i g b0 sv hQ h)
theorem bin_first_start {E_ : World} {G_ : Hp} {w_ : World} {r_ : VS × Int × Bool} {Q1 : bin_first_T1} (hQ : bin_first_H E_ G_ s t p sh n p_0 r_ Q1) (hS : Sat E_ G_ w_ [Dg p_0 ((.view s))]) (h : bin_first_wp0 s t p sh n p_0 Q1 (fun x => x = r_)) : Calls Try.prog 69 #[(.pointer (some p_0)), (.agg #[.int .i64 t, .int .i64 p, .int .i64 sh]), (.int .i64 n)] w_ (Post Dg E_ G_ (bin_first_out r_) (bin_first_nw p_0 r_) (bin_first_rows r_)) :=
  calls_post Dg T_r14_Drop_ok (I := []) Try.func69 mix (B := bodyOf Try.f69) (by kernel_rfl) [(.pointer (some p_0)), (.agg #[.int .i64 t, .int .i64 p, .int .i64 sh]), (.int .i64 n)] [.pt 0 .obj, .no, .no] (by kernel_rfl) (objs := [.obj p_0 (.view s)]) (ros := []) (psOk_cons (pOk_at rfl rfl) (psOk_cons pOk_no (psOk_cons pOk_no (psOk_nil)))) (by kernel_rfl) (trivial) hS 400
    (t := bin_first_t0 s t p sh n p_0)
    (by kernel_rfl)
    (bin_first_pc0 s t p sh n p_0 hQ h)
def bin_first_I (s : VS) (t : Int) (p : Int) (sh : Int) (n : Int) (p_0 : Addr) (i : Int) (g : Int) (b0 : Nat) (sv : VS) (r_ : VS × Int × Bool) : Prop := 0 ≤ i ∧ (i ≤ p ∨ i = 0) ∧ (pFirst ⟨t, p, sh⟩ n (p - i).toNat g).run sv = r_
theorem bin_first_step (hp0 : p ≤ 9223372036854775807) (i : Int) (g : Int) (b0 : Nat) (sv : VS) {r_ : VS × Int × Bool} (hI : bin_first_I s t p sh n p_0 i g b0 sv r_) : bin_first_wp1 s t p sh n p_0 i g b0 sv (fun i' g' b0' sv' => bin_first_I s t p sh n p_0 i' g' b0' sv' r_ ∧ ((p - i').toNat) < ((p - i).toNat)) (fun x => x = r_) := by
  unfold bin_first_I at hI
  unfold bin_first_wp1 bin_first_I
  obtain ⟨h0, h1, h2⟩ := hI
  refine ⟨fun h => ?_, fun h => ?_⟩
  · simp only [decide_eq_true_eq] at h
    have hf : (p - i).toNat = (p - (i + 1)).toNat + 1 := by omega
    rw [hf] at h2
    simp only [pFirst] at h2
    refine ⟨fun hp => ?_, fun hp r2 e2 => ?_⟩
    · have hpg : Cf.page ⟨t, p, sh⟩ g = false := by
        have : bin_page t p sh g = false := by simpa using hp
        exact this
      rw [hpg] at h2
      exact h2
    · have hpg : Cf.page ⟨t, p, sh⟩ g = true := by
        have : bin_page t p sh g = true := by simpa using hp
        exact this
      rw [hpg, cond_true, Pg.run_bind, ← bin_free_eq, ← e2] at h2
      refine ⟨fun hc => ?_, fun hc r4 e4 => ?_⟩
      · rw [show decide (n ≤ r2.2) = true from hc] at h2
        exact h2
      · rw [show decide (n ≤ r2.2) = false from hc] at h2
        subst e4
        simp only [cond_false, Pg.run_get] at h2
        rw [place_Next_eq, w64 (n := i + 1) (by omega), w64g, w64g1]
        exact ⟨⟨by omega, by omega, h2⟩, by omega⟩
  · simp only [decide_eq_false_iff_not] at h
    rw [show (p - i).toNat = 0 by omega] at h2
    exact h2
theorem bin_first_loop {E_ : World} {G_ : Hp} (hp0 : p ≤ 9223372036854775807) {r_ : VS × Int × Bool} : ∀ s_ : Int × Int × Nat × VS, bin_first_I s t p sh n p_0 s_.1 s_.2.1 s_.2.2.1 s_.2.2.2 r_ → SW Dg Try.prog 69 (Post Dg E_ G_ (bin_first_out r_) (bin_first_nw p_0 r_) (bin_first_rows r_)) (bodyOf Try.f69) Try.f69.ntmps E_ G_ (.code (0 :: [0,1,0,1,1,0,1]) :: .again [0,1,0,1,1,0,1] :: [.blk 0, .code [1,1,1,0,1], .scp [1]]) (bin_first_L1 s t p sh n p_0 s_.1 s_.2.1 s_.2.2.1 s_.2.2.2) (bin_first_K1 s t p sh n p_0 s_.1 s_.2.1 s_.2.2.1 s_.2.2.2) :=
  SW.loop Dg (α := Int × Int × Nat × VS) (fun s_ => bin_first_L1 s t p sh n p_0 s_.1 s_.2.1 s_.2.2.1 s_.2.2.2) (fun s_ => bin_first_K1 s t p sh n p_0 s_.1 s_.2.1 s_.2.2.1 s_.2.2.2) (fun s_ => (p - s_.1).toNat) (fun s_ => bin_first_I s t p sh n p_0 s_.1 s_.2.1 s_.2.2.1 s_.2.2.2 r_) (fun ⟨i, g, b0, sv⟩ hI ih => bin_first_go1 s t p sh n p_0 i g b0 sv (fun i' g' b0' sv' h => ih (i', g', b0', sv') h.1 h.2) (bin_first_step s t p sh n p_0 hp0 i g b0 sv hI))
theorem bin_first_begin (hp0 : p ≤ 9223372036854775807) : bin_first_wp0 s t p sh n p_0 (fun i g b0 sv => bin_first_I s t p sh n p_0 i g b0 sv (bin_first s t p sh n)) (fun x => x = (bin_first s t p sh n)) := by
  unfold bin_first_wp0 bin_first_I
  intro b r1 e1
  subst e1
  rw [place_Bin_eq, bin_Of_eq, w64g, w64g1]
  refine ⟨by omega, by omega, ?_⟩
  rw [show (p - 0).toNat = p.toNat by omega]
  rfl
theorem bin_first_calls {E_ : World} {G_ : Hp} {w_ : World} (hp0 : p ≤ 9223372036854775807) (hS : Sat E_ G_ w_ [Dg p_0 ((.view s))]) : Calls Try.prog 69 #[(.pointer (some p_0)), (.agg #[.int .i64 t, .int .i64 p, .int .i64 sh]), (.int .i64 n)] w_ (Post Dg E_ G_ (bin_first_out (bin_first s t p sh n)) (bin_first_nw p_0 (bin_first s t p sh n)) (bin_first_rows (bin_first s t p sh n))) :=
  bin_first_start s t p sh n p_0 (fun i g b0 sv h => bin_first_loop s t p sh n p_0 hp0 (i, g, b0, sv) h) hS (bin_first_begin s t p sh n p_0 hp0 )
end
def bin_first_e : Entry Sg := fun
  | [(.pointer (some p_0), .obj (.view s)), (.agg ⟨[.int .i64 t, .int .i64 p, .int .i64 sh]⟩, .none), (.int .i64 n, _)] => some ⟨(bin_first s t p sh n), fun (r_ : VS × Int × Bool) => ⟨[(p ≤ 9223372036854775807 : Prop)], some (.view (r_.1)), [], fun ss => .tuple #[.int .i64 (r_.2.1), .bool (r_.2.2)], fun k_ => .no⟩⟩
  | _ => none
theorem bin_first_ok : EntryOk Dg Try.prog 69 bin_first_e := by
  intro args c r h hr_
  unfold bin_first_e at h
  split at h
  · injection h with h; subst h; subst hr_
    refine ⟨fun K acs _ => pOk_no, fun hpre E G w hi hS => ?_⟩
    exact entry_post Dg (by exact rfl) (bin_first_calls _ _ _ _ _ _ (hpre _ (by simp)) hS)
  · cases h
def T_bin_first : List (Nat × Entry Sg) := (69, bin_first_e) :: T_r14_Drop
theorem T_bin_first_ok : TableOk Dg Try.prog T_bin_first := TableOk.cons Dg bin_first_ok T_r14_Drop_ok

/- bin.Find -/
def bin_Find (s : VS) (t : Int) (p : Int) (sh : Int) (n : Int) : VS × Int × Bool := (pFind ⟨t, p, sh⟩ n).run s
def bin_Find_out (r_ : VS × Int × Bool) : List Value → Value := fun ss => .tuple #[.int .i64 (r_.2.1), .bool (r_.2.2)]
def bin_Find_nw (p_0 : Addr) (r_ : VS × Int × Bool) : List (Chunk Sg) := [.obj p_0 (.view (r_.1))]
def bin_Find_rows (r_ : VS × Int × Bool) : List (Mk Sg) := []
section
variable (s : VS) (t : Int) (p : Int) (sh : Int) (n : Int) (p_0 : Addr)
abbrev bin_Find_T1 : Type := Int → Nat → VS → Prop
abbrev bin_Find_L1 (s : VS) (t : Int) (p : Int) (sh : Int) (n : Int) (p_0 : Addr) (k : Int) (b0 : Nat) (sv : VS) : List Ent := [⟨10, none, .int .i64 k, .no⟩, ⟨4, none, .pointer (some ⟨b0, 0, none⟩), .pt 1 (.cell 0)⟩, ⟨0, none, .pointer (some p_0), .pt 0 .obj⟩]
abbrev bin_Find_K1 (s : VS) (t : Int) (p : Int) (sh : Int) (n : Int) (p_0 : Addr) (k : Int) (b0 : Nat) (sv : VS) : List (Chunk Sg) := [.obj p_0 (.view sv), .cells b0 77 [(.int .i64 t, .no), (.int .i64 p, .no), (.int .i64 sh, .no)]]
abbrev bin_Find_H (E_ : World) (G_ : Hp) (s : VS) (t : Int) (p : Int) (sh : Int) (n : Int) (p_0 : Addr) (r_ : VS × Int × Bool) (Q1 : bin_Find_T1) : Prop := (∀ (k : Int) (b0 : Nat) (sv : VS), Q1 k b0 sv → SW Dg Try.prog 42 (Post Dg E_ G_ (bin_Find_out r_) (bin_Find_nw p_0 r_) (bin_Find_rows r_)) (bodyOf Try.f42) Try.f42.ntmps E_ G_ (.code (0 :: [0,1,0,1,1,1]) :: .again [0,1,0,1,1,1] :: [.blk 0, .code [1,1,1,1]]) (bin_Find_L1 s t p sh n p_0 k b0 sv) (bin_Find_K1 s t p sh n p_0 k b0 sv))
abbrev bin_Find_wp0 (s : VS) (t : Int) (p : Int) (sh : Int) (n : Int) (p_0 : Addr) (Q1 : bin_Find_T1) (R_ : VS × Int × Bool → Prop) : Prop := (∀ b0_0 : Nat, (((decide (n < (1 : Int)) || decide (n > p)) = true → (R_ ((s, (0 : Int), false)))) ∧ ((decide (n < (1 : Int)) || decide (n > p)) = false → (∀ r2 : VS × Int × Bool, r2 = (bin_first s t p sh n) → ((p ≤ (9223372036854775807 : Int)) ∧ ((p ≤ (9223372036854775807 : Int)) → (((Prod.snd (Prod.snd r2)) = true → (R_ ((Prod.fst r2, Prod.fst (Prod.snd r2), true)))) ∧ ((Prod.snd (Prod.snd r2)) = false → (Q1 (IntKind.wrap IntKind.i64 (bin_Of n + (1 : Int))) (b0_0) (Prod.fst r2))))))))))
abbrev bin_Find_t0 (s : VS) (t : Int) (p : Int) (sh : Int) (n : Int) (p_0 : Addr) : Tree Sg := Tree.fresh fun b => Tree.br (decide (n < (1 : Int)) || decide (n > p)) (Tree.ret (Value.tuple { toList := [vi_ (0 : Int), Value.bool false] }) pn_ [Chunk.obj p_0 (Sg.view s), kc_ b 77 [(vi_ t, pn_), (vi_ p, pn_), (vi_ sh, pn_)]]) (Tree.bind (bin_first s t p sh n) fun a => Tree.need (p ≤ (9223372036854775807 : Int)) (Tree.br (Prod.snd (Prod.snd a)) (Tree.ret (Value.tuple { toList := [vi_ (Prod.fst (Prod.snd a)), Value.bool true] }) pn_ [Chunk.obj p_0 (Option.getD (some (Sg.view (Prod.fst a))) (Sg.view s)), kc_ b 77 [(vi_ t, pn_), (vi_ p, pn_), (vi_ sh, pn_)]]) (Tree.stuck [Ab.code [0, 1, 0, 1, 1, 1], Ab.blk 0, Ab.code [1, 1, 1, 1]] [e0_ 10 (vi_ (IntKind.wrap IntKind.i64 (bin_Of n + (1 : Int)))) pn_, e0_ 31 (vi_ (IntKind.wrap IntKind.i64 (bin_Of n + (1 : Int)))) pn_, e0_ 30 (vi_ (bin_Of n)) pn_, e0_ 29 (vi_ n) pn_, e0_ 27 (Value.bool (Prod.snd (Prod.snd a))) pn_, e0_ 9 (Value.bool (Prod.snd (Prod.snd a))) pn_, e0_ 8 (vi_ (Prod.fst (Prod.snd a))) pn_, e0_ 26 (Value.bool (Prod.snd (Prod.snd a))) pn_, e0_ 25 (vi_ (Prod.fst (Prod.snd a))) pn_, e0_ 20 (Value.tuple { toList := [vi_ (Prod.fst (Prod.snd a)), Value.bool (Prod.snd (Prod.snd a))] }) pn_, e0_ 24 (Value.tuple { toList := [vi_ (Prod.fst (Prod.snd a)), Value.bool (Prod.snd (Prod.snd a))] }) pn_, e0_ 23 (vi_ n) pn_, e0_ 22 (Value.agg { toList := [vi_ t, vi_ p, vi_ sh] }) pn_, e0_ 21 (Value.pointer (some p_0)) (po_ 0), e0_ 19 (Value.bool (decide (n < (1 : Int)) || decide (n > p))) pn_, eg_ 18 (14, false) (Value.bool (decide (n > p))) pn_, eg_ 17 (14, false) (vi_ p) pn_, eg_ 16 (14, false) (Value.pointer (some { block := b, off := 0 + 1 })) (pc_ 1 1), eg_ 15 (14, false) (vi_ n) pn_, e0_ 14 (Value.bool (decide (n < (1 : Int)))) pn_, e0_ 13 (Value.bool (decide (n < (1 : Int)))) pn_, e0_ 12 (vi_ n) pn_, e0_ 1000007 (Value.tuple { toList := [] }) pn_, e0_ 7 (Value.bool false) pn_, e0_ 1000006 (Value.tuple { toList := [] }) pn_, e0_ 6 (vi_ (0 : Int)) pn_, e0_ 4 (vp_ b) (pc_ 1 0), e0_ 0 (Value.pointer (some p_0)) (po_ 0), e0_ 1 (Value.agg { toList := [vi_ t, vi_ p, vi_ sh] }) pn_, e0_ 2 (vi_ n) pn_] [Chunk.obj p_0 (Option.getD (some (Sg.view (Prod.fst a))) (Sg.view s)), kc_ b 77 [(vi_ t, pn_), (vi_ p, pn_), (vi_ sh, pn_)]])))
theorem bin_Find_pc0 {E_ : World} {G_ : Hp} {r_ : VS × Int × Bool} {Q1 : bin_Find_T1} (hQ : bin_Find_H E_ G_ s t p sh n p_0 r_ Q1) (h : bin_Find_wp0 s t p sh n p_0 Q1 (fun x => x = r_)) : (bin_Find_t0 s t p sh n p_0 ).holds (RetOk (bin_Find_out r_) (bin_Find_nw p_0 r_) (bin_Find_rows r_)) (SW Dg Try.prog 42 (Post Dg E_ G_ (bin_Find_out r_) (bin_Find_nw p_0 r_) (bin_Find_rows r_)) (bodyOf Try.f42) Try.f42.ntmps E_ G_) :=
  fun b0_0 => ⟨fun z1 => RetOk.at (outf := bin_Find_out) (nwf := bin_Find_nw p_0) (rowsf := bin_Find_rows) (r := (s, (0 : Int), false)) ((h b0_0).1 z1) ⟨[], [0], (by decide), rfl, rfl, ⟨.inl rfl, trivial⟩⟩, fun z1 => fun r2 e2 => ⟨(((h b0_0).2 z1) r2 e2).1, fun z3 => ⟨fun z4 => RetOk.at (outf := bin_Find_out) (nwf := bin_Find_nw p_0) (rowsf := bin_Find_rows) (r := (Prod.fst r2, Prod.fst (Prod.snd r2), true)) (((((h b0_0).2 z1) r2 e2).2 z3).1 z4) ⟨[], [0], (by decide), rfl, rfl, ⟨.inl rfl, trivial⟩⟩, fun z4 => SW.move Dg [10, 4, 0] [0, 1] (by decide) (by kernel_rfl) (by kernel_rfl) (SW.enter Dg (by kernel_rfl) (hQ (IntKind.wrap IntKind.i64 (bin_Of n + (1 : Int))) (b0_0) (Prod.fst r2) (((((h b0_0).2 z1) r2 e2).2 z3).2 z4)))⟩⟩⟩
abbrev bin_Find_wp1 (s : VS) (t : Int) (p : Int) (sh : Int) (n : Int) (p_0 : Addr) (k : Int) (b0 : Nat) (sv : VS) (Q1 : bin_Find_T1) (R_ : VS × Int × Bool → Prop) : Prop := (((decide (k < (11 : Int))) = true → (∀ r1 : VS × Int, r1 = ((VS.read sv (place_Bin k), VS.get sv (place_Bin k))) → (((bin_page t p sh (IntKind.wrap IntKind.i64 (IntKind.wrap IntKind.i64 (Prod.snd r1) - (1 : Int)))) = true → (R_ ((Prod.fst r1, IntKind.wrap IntKind.i64 (IntKind.wrap IntKind.i64 (Prod.snd r1) - (1 : Int)), true)))) ∧ ((bin_page t p sh (IntKind.wrap IntKind.i64 (IntKind.wrap IntKind.i64 (Prod.snd r1) - (1 : Int)))) = false → (Q1 (IntKind.wrap IntKind.i64 (k + (1 : Int))) (b0) (Prod.fst r1)))))) ∧ ((decide (k < (11 : Int))) = false → (R_ ((sv, (0 : Int), false)))))
abbrev bin_Find_t1 (s : VS) (t : Int) (p : Int) (sh : Int) (n : Int) (p_0 : Addr) (k : Int) (b0 : Nat) (sv : VS) : Tree Sg := Tree.br (decide (k < (11 : Int))) (Tree.bind (VS.read sv (place_Bin k), VS.get sv (place_Bin k)) fun a => Tree.br (bin_page t p sh (IntKind.wrap IntKind.i64 (IntKind.wrap IntKind.i64 (Prod.snd a) - (1 : Int)))) (Tree.ret (Value.tuple { toList := [vi_ (IntKind.wrap IntKind.i64 (IntKind.wrap IntKind.i64 (Prod.snd a) - (1 : Int))), Value.bool true] }) pn_ [Chunk.obj p_0 (Option.getD (some (Sg.view (Prod.fst a))) (Sg.view sv)), kc_ b0 77 [(vi_ t, pn_), (vi_ p, pn_), (vi_ sh, pn_)]]) (Tree.stuck [Ab.again [0, 1, 0, 1, 1, 1], Ab.blk 0, Ab.code [1, 1, 1, 1]] [e0_ 10 (vi_ (IntKind.wrap IntKind.i64 (k + (1 : Int)))) pn_, e0_ 35 (vi_ (IntKind.wrap IntKind.i64 (k + (1 : Int)))) pn_, e0_ 34 (vi_ k) pn_, e0_ 44 (Value.bool (bin_page t p sh (IntKind.wrap IntKind.i64 (IntKind.wrap IntKind.i64 (Prod.snd a) - (1 : Int))))) pn_, e0_ 43 (vi_ (IntKind.wrap IntKind.i64 (IntKind.wrap IntKind.i64 (Prod.snd a) - (1 : Int)))) pn_, e0_ 42 (Value.agg { toList := [vi_ t, vi_ p, vi_ sh] }) pn_, e0_ 11 (vi_ (IntKind.wrap IntKind.i64 (IntKind.wrap IntKind.i64 (Prod.snd a) - (1 : Int)))) pn_, e0_ 41 (vi_ (IntKind.wrap IntKind.i64 (IntKind.wrap IntKind.i64 (Prod.snd a) - (1 : Int)))) pn_, e0_ 40 (vi_ (IntKind.wrap IntKind.i64 (Prod.snd a))) pn_, e0_ 39 (vu_ (Prod.snd a)) pn_, e0_ 38 (vi_ (place_Bin k)) pn_, e0_ 37 (vi_ k) pn_, e0_ 36 (Value.pointer (some p_0)) (po_ 0), e0_ 33 (Value.bool (decide (k < (11 : Int)))) pn_, e0_ 32 (vi_ k) pn_, e0_ 4 (vp_ b0) (pc_ 1 0), e0_ 0 (Value.pointer (some p_0)) (po_ 0)] [Chunk.obj p_0 (Option.getD (some (Sg.view (Prod.fst a))) (Sg.view sv)), kc_ b0 77 [(vi_ t, pn_), (vi_ p, pn_), (vi_ sh, pn_)]])) (Tree.ret (Value.tuple { toList := [vi_ (0 : Int), Value.bool false] }) pn_ [Chunk.obj p_0 (Sg.view sv), kc_ b0 77 [(vi_ t, pn_), (vi_ p, pn_), (vi_ sh, pn_)]])
theorem bin_Find_pc1 {E_ : World} {G_ : Hp} (k : Int) (b0 : Nat) (sv : VS) {r_ : VS × Int × Bool} {Q1 : bin_Find_T1} (hQ : bin_Find_H E_ G_ s t p sh n p_0 r_ Q1) (h : bin_Find_wp1 s t p sh n p_0 k b0 sv Q1 (fun x => x = r_)) : (bin_Find_t1 s t p sh n p_0 k b0 sv ).holds (RetOk (bin_Find_out r_) (bin_Find_nw p_0 r_) (bin_Find_rows r_)) (SW Dg Try.prog 42 (Post Dg E_ G_ (bin_Find_out r_) (bin_Find_nw p_0 r_) (bin_Find_rows r_)) (bodyOf Try.f42) Try.f42.ntmps E_ G_) :=
  ⟨fun z0 => fun r1 e1 => ⟨fun z2 => RetOk.at (outf := bin_Find_out) (nwf := bin_Find_nw p_0) (rowsf := bin_Find_rows) (r := (Prod.fst r1, IntKind.wrap IntKind.i64 (IntKind.wrap IntKind.i64 (Prod.snd r1) - (1 : Int)), true)) (((h.1 z0) r1 e1).1 z2) ⟨[], [0], (by decide), rfl, rfl, ⟨.inl rfl, trivial⟩⟩, fun z2 => SW.move Dg [10, 4, 0] [0, 1] (by decide) (by kernel_rfl) (by kernel_rfl) (SW.again Dg (hQ (IntKind.wrap IntKind.i64 (k + (1 : Int))) (b0) (Prod.fst r1) (((h.1 z0) r1 e1).2 z2)))⟩, fun z0 => RetOk.at (outf := bin_Find_out) (nwf := bin_Find_nw p_0) (rowsf := bin_Find_rows) (r := (sv, (0 : Int), false)) (h.2 z0) ⟨[], [0], (by decide), rfl, rfl, ⟨.inl rfl, trivial⟩⟩⟩
theorem bin_Find_go1 {E_ : World} {G_ : Hp} (k : Int) (b0 : Nat) (sv : VS) {r_ : VS × Int × Bool} {Q1 : bin_Find_T1} (hQ : bin_Find_H E_ G_ s t p sh n p_0 r_ Q1) (h : bin_Find_wp1 s t p sh n p_0 k b0 sv Q1 (fun x => x = r_)) : SW Dg Try.prog 42 (Post Dg E_ G_ (bin_Find_out r_) (bin_Find_nw p_0 r_) (bin_Find_rows r_)) (bodyOf Try.f42) Try.f42.ntmps E_ G_ (.code (0 :: [0,1,0,1,1,1]) :: .again [0,1,0,1,1,1] :: [.blk 0, .code [1,1,1,1]]) (bin_Find_L1 s t p sh n p_0 k b0 sv) (bin_Find_K1 s t p sh n p_0 k b0 sv) :=
  SW.go Dg T_bin_first_ok (I := []) Try.func42 mix 400 (t := bin_Find_t1 s t p sh n p_0 k b0 sv ) (by kernel_rfl) (bin_Find_pc1 s t p sh n p_0 k b0 sv hQ h)
theorem bin_Find_start {E_ : World} {G_ : Hp} {w_ : World} {r_ : VS × Int × Bool} {Q1 : bin_Find_T1} (hQ : bin_Find_H E_ G_ s t p sh n p_0 r_ Q1) (hS : Sat E_ G_ w_ [Dg p_0 ((.view s))]) (h : bin_Find_wp0 s t p sh n p_0 Q1 (fun x => x = r_)) : Calls Try.prog 42 #[(.pointer (some p_0)), (.agg #[.int .i64 t, .int .i64 p, .int .i64 sh]), (.int .i64 n)] w_ (Post Dg E_ G_ (bin_Find_out r_) (bin_Find_nw p_0 r_) (bin_Find_rows r_)) :=
  calls_post Dg T_bin_first_ok (I := []) Try.func42 mix (B := bodyOf Try.f42) (by kernel_rfl) [(.pointer (some p_0)), (.agg #[.int .i64 t, .int .i64 p, .int .i64 sh]), (.int .i64 n)] [.pt 0 .obj, .no, .no] (by kernel_rfl) (objs := [.obj p_0 (.view s)]) (ros := []) (psOk_cons (pOk_at rfl rfl) (psOk_cons pOk_no (psOk_cons pOk_no (psOk_nil)))) (by kernel_rfl) (trivial) hS 400
    (t := bin_Find_t0 s t p sh n p_0)
    (by kernel_rfl)
    (bin_Find_pc0 s t p sh n p_0 hQ h)
def bin_Find_I (s : VS) (t : Int) (p : Int) (sh : Int) (n : Int) (p_0 : Addr) (k : Int) (b0 : Nat) (sv : VS) (r_ : VS × Int × Bool) : Prop := 0 ≤ k ∧ ∃ f : Nat, 11 - k < f ∧ (pBins ⟨t, p, sh⟩ f k).run sv = r_
theorem bin_Find_step (hp0 : p ≤ 9223372036854775807) (k : Int) (b0 : Nat) (sv : VS) {r_ : VS × Int × Bool} (hI : bin_Find_I s t p sh n p_0 k b0 sv r_) : bin_Find_wp1 s t p sh n p_0 k b0 sv (fun k' b0' sv' => bin_Find_I s t p sh n p_0 k' b0' sv' r_ ∧ ((11 - k').toNat) < ((11 - k).toNat)) (fun x => x = r_) := by
  unfold bin_Find_I at hI
  unfold bin_Find_wp1 bin_Find_I
  obtain ⟨h0, f, hf, h2⟩ := hI
  refine ⟨fun h => ?_, fun h => ?_⟩
  · simp only [decide_eq_true_eq] at h
    obtain ⟨f', rfl⟩ : ∃ f', f = f' + 1 := ⟨f - 1, by omega⟩
    have hk : decide (k < 11) = true := by simpa using h
    simp only [pBins, hk, cond_true, Pg.run_get] at h2
    intro r1 e1
    subst e1
    rw [place_Bin_eq, w64g, w64g1]
    refine ⟨fun hp => ?_, fun hp => ?_⟩
    · rw [show Cf.page ⟨t, p, sh⟩ (sv.get (cBin k) - 1) = true from hp] at h2
      exact h2
    · rw [show Cf.page ⟨t, p, sh⟩ (sv.get (cBin k) - 1) = false from hp] at h2
      rw [w64 (n := k + 1) (by omega)]
      exact ⟨⟨by omega, f', by omega, h2⟩, by omega⟩
  · simp only [decide_eq_false_iff_not] at h
    have hk : decide (k < 11) = false := by simpa using h
    cases f with
    | zero => exact h2
    | succ f =>
      simp only [pBins, hk] at h2
      exact h2
theorem bin_Find_loop {E_ : World} {G_ : Hp} (hp0 : p ≤ 9223372036854775807) {r_ : VS × Int × Bool} : ∀ s_ : Int × Nat × VS, bin_Find_I s t p sh n p_0 s_.1 s_.2.1 s_.2.2 r_ → SW Dg Try.prog 42 (Post Dg E_ G_ (bin_Find_out r_) (bin_Find_nw p_0 r_) (bin_Find_rows r_)) (bodyOf Try.f42) Try.f42.ntmps E_ G_ (.code (0 :: [0,1,0,1,1,1]) :: .again [0,1,0,1,1,1] :: [.blk 0, .code [1,1,1,1]]) (bin_Find_L1 s t p sh n p_0 s_.1 s_.2.1 s_.2.2) (bin_Find_K1 s t p sh n p_0 s_.1 s_.2.1 s_.2.2) :=
  SW.loop Dg (α := Int × Nat × VS) (fun s_ => bin_Find_L1 s t p sh n p_0 s_.1 s_.2.1 s_.2.2) (fun s_ => bin_Find_K1 s t p sh n p_0 s_.1 s_.2.1 s_.2.2) (fun s_ => (11 - s_.1).toNat) (fun s_ => bin_Find_I s t p sh n p_0 s_.1 s_.2.1 s_.2.2 r_) (fun ⟨k, b0, sv⟩ hI ih => bin_Find_go1 s t p sh n p_0 k b0 sv (fun k' b0' sv' h => ih (k', b0', sv') h.1 h.2) (bin_Find_step s t p sh n p_0 hp0 k b0 sv hI))
theorem bin_Find_begin (hp0 : p ≤ 9223372036854775807) : bin_Find_wp0 s t p sh n p_0 (fun k b0 sv => bin_Find_I s t p sh n p_0 k b0 sv (bin_Find s t p sh n)) (fun x => x = (bin_Find s t p sh n)) := by
  unfold bin_Find_wp0 bin_Find_I
  intro b
  have hb := binOf_ge n
  have hb2 := binOf_le n
  refine ⟨fun hc => ?_, fun hc r2 e2 => ⟨hp0, fun _ => ⟨fun h3 => ?_, fun h3 => ?_⟩⟩⟩
  · show (s, 0, false) = bin_Find s t p sh n
    unfold bin_Find pFind
    rw [n_in, show (decide (n < 1) || decide (n > p)) = true from hc]
    rfl
  · show _ = bin_Find s t p sh n
    unfold bin_Find pFind
    have e2' := e2.symm
    unfold bin_first at e2'
    rw [n_in, hc, Bool.not_false, cond_true, Pg.run_bind]
    dsimp only
    rw [e2', h3, cond_true, Pg.run_ret]
    exact Prod.ext rfl (Prod.ext rfl h3.symm)
  · rw [bin_Of_eq, w64 (by omega)]
    refine ⟨by omega, 12, by omega, ?_⟩
    show _ = bin_Find s t p sh n
    unfold bin_Find pFind
    have e2' := e2.symm
    unfold bin_first at e2'
    rw [n_in, hc, Bool.not_false, cond_true, Pg.run_bind]
    dsimp only
    rw [e2', h3]
    rfl
theorem bin_Find_calls {E_ : World} {G_ : Hp} {w_ : World} (hp0 : p ≤ 9223372036854775807) (hS : Sat E_ G_ w_ [Dg p_0 ((.view s))]) : Calls Try.prog 42 #[(.pointer (some p_0)), (.agg #[.int .i64 t, .int .i64 p, .int .i64 sh]), (.int .i64 n)] w_ (Post Dg E_ G_ (bin_Find_out (bin_Find s t p sh n)) (bin_Find_nw p_0 (bin_Find s t p sh n)) (bin_Find_rows (bin_Find s t p sh n))) :=
  bin_Find_start s t p sh n p_0 (fun k b0 sv h => bin_Find_loop s t p sh n p_0 hp0 (k, b0, sv) h) hS (bin_Find_begin s t p sh n p_0 hp0 )
end
def bin_Find_e : Entry Sg := fun
  | [(.pointer (some p_0), .obj (.view s)), (.agg ⟨[.int .i64 t, .int .i64 p, .int .i64 sh]⟩, .none), (.int .i64 n, _)] => some ⟨(bin_Find s t p sh n), fun (r_ : VS × Int × Bool) => ⟨[(p ≤ 9223372036854775807 : Prop)], some (.view (r_.1)), [], fun ss => .tuple #[.int .i64 (r_.2.1), .bool (r_.2.2)], fun k_ => .no⟩⟩
  | _ => none
theorem bin_Find_ok : EntryOk Dg Try.prog 42 bin_Find_e := by
  intro args c r h hr_
  unfold bin_Find_e at h
  split at h
  · injection h with h; subst h; subst hr_
    refine ⟨fun K acs _ => pOk_no, fun hpre E G w hi hS => ?_⟩
    exact entry_post Dg (by exact rfl) (bin_Find_calls _ _ _ _ _ _ (hpre _ (by simp)) hS)
  · cases h
def T_bin_Find : List (Nat × Entry Sg) := (42, bin_Find_e) :: T_bin_first
theorem T_bin_Find_ok : TableOk Dg Try.prog T_bin_Find := TableOk.cons Dg bin_Find_ok T_bin_first_ok

/- nacreref14.Find -/
def r14_Find (s : VS) (t : Int) (p : Int) (sh : Int) (n : Int) : VS × Int × Bool := (pFind ⟨t, p, sh⟩ n).run s
def r14_Find_out (r_ : VS × Int × Bool) : List Value → Value := fun ss => .tuple #[.int .i64 (r_.2.1), .bool (r_.2.2)]
def r14_Find_nw (p_0 : Addr) (r_ : VS × Int × Bool) : List (Chunk Sg) := [.obj p_0 (.ref (r_.1))]
def r14_Find_rows (r_ : VS × Int × Bool) : List (Mk Sg) := []
section
variable (s : VS) (t : Int) (p : Int) (sh : Int) (n : Int) (p_0 : Addr)
abbrev r14_Find_T1 : Type := Int → Int → Nat → VS → Prop
abbrev r14_Find_L1 (s : VS) (t : Int) (p : Int) (sh : Int) (n : Int) (p_0 : Addr) (m : Int) (q : Int) (b0 : Nat) (sv : VS) : List Ent := [⟨9, none, .int .i64 m, .no⟩, ⟨8, none, .int .i64 q, .no⟩, ⟨4, none, .pointer (some ⟨b0, 0, none⟩), .pt 1 (.cell 0)⟩, ⟨0, none, .pointer (some p_0), .pt 0 .obj⟩, ⟨2, none, .int .i64 n, .no⟩]
abbrev r14_Find_K1 (s : VS) (t : Int) (p : Int) (sh : Int) (n : Int) (p_0 : Addr) (m : Int) (q : Int) (b0 : Nat) (sv : VS) : List (Chunk Sg) := [.obj p_0 (.ref sv), .cells b0 77 [(.int .i64 t, .no), (.int .i64 p, .no), (.int .i64 sh, .no)]]
abbrev r14_Find_T2 : Type := Int → Nat → VS → Prop
abbrev r14_Find_L2 (s : VS) (t : Int) (p : Int) (sh : Int) (n : Int) (p_0 : Addr) (k : Int) (b0 : Nat) (sv : VS) : List Ent := [⟨11, none, .int .i64 k, .no⟩, ⟨4, none, .pointer (some ⟨b0, 0, none⟩), .pt 1 (.cell 0)⟩, ⟨0, none, .pointer (some p_0), .pt 0 .obj⟩]
abbrev r14_Find_K2 (s : VS) (t : Int) (p : Int) (sh : Int) (n : Int) (p_0 : Addr) (k : Int) (b0 : Nat) (sv : VS) : List (Chunk Sg) := [.obj p_0 (.ref sv), .cells b0 77 [(.int .i64 t, .no), (.int .i64 p, .no), (.int .i64 sh, .no)]]
abbrev r14_Find_H (E_ : World) (G_ : Hp) (s : VS) (t : Int) (p : Int) (sh : Int) (n : Int) (p_0 : Addr) (r_ : VS × Int × Bool) (Q1 : r14_Find_T1) (Q2 : r14_Find_T2) : Prop := (∀ (m : Int) (q : Int) (b0 : Nat) (sv : VS), Q1 m q b0 sv → SW Dg Try.prog 45 (Post Dg E_ G_ (r14_Find_out r_) (r14_Find_nw p_0 r_) (r14_Find_rows r_)) (bodyOf Try.f45) Try.f45.ntmps E_ G_ (.code (0 :: [0,1,0,1,1,1]) :: .again [0,1,0,1,1,1] :: [.blk 0, .code [1,1,1,1]]) (r14_Find_L1 s t p sh n p_0 m q b0 sv) (r14_Find_K1 s t p sh n p_0 m q b0 sv)) ∧ (∀ (k : Int) (b0 : Nat) (sv : VS), Q2 k b0 sv → SW Dg Try.prog 45 (Post Dg E_ G_ (r14_Find_out r_) (r14_Find_nw p_0 r_) (r14_Find_rows r_)) (bodyOf Try.f45) Try.f45.ntmps E_ G_ (.code (0 :: [0,1,0,1,1,1,1]) :: .again [0,1,0,1,1,1,1] :: [.blk 2, .code [1,1,1,1,1]]) (r14_Find_L2 s t p sh n p_0 k b0 sv) (r14_Find_K2 s t p sh n p_0 k b0 sv))
abbrev r14_Find_wp0 (s : VS) (t : Int) (p : Int) (sh : Int) (n : Int) (p_0 : Addr) (Q1 : r14_Find_T1) (Q2 : r14_Find_T2) (R_ : VS × Int × Bool → Prop) : Prop := (∀ b0_0 : Nat, (((decide (n < (1 : Int)) || decide (n > p)) = true → (R_ ((s, (0 : Int), false)))) ∧ ((decide (n < (1 : Int)) || decide (n > p)) = false → (∀ r2 : VS × Int, r2 = ((VS.read s (r07_Bin (r14_Of n)), VS.get s (r07_Bin (r14_Of n)))) → (Q1 ((0 : Int)) (IntKind.wrap IntKind.i64 (Prod.snd r2)) (b0_0) (Prod.fst r2))))))
abbrev r14_Find_t0 (s : VS) (t : Int) (p : Int) (sh : Int) (n : Int) (p_0 : Addr) : Tree Sg := Tree.fresh fun b => Tree.br (decide (n < (1 : Int)) || decide (n > p)) (Tree.ret (Value.tuple { toList := [vi_ (0 : Int), Value.bool false] }) pn_ [Chunk.obj p_0 (Sg.ref s), kc_ b 77 [(vi_ t, pn_), (vi_ p, pn_), (vi_ sh, pn_)]]) (Tree.bind (VS.read s (r07_Bin (r14_Of n)), VS.get s (r07_Bin (r14_Of n))) fun a => Tree.stuck [Ab.code [0, 1, 0, 1, 1, 1], Ab.blk 0, Ab.code [1, 1, 1, 1]] [e0_ 1000009 (Value.tuple { toList := [] }) pn_, e0_ 9 (vi_ (0 : Int)) pn_, e0_ 8 (vi_ (IntKind.wrap IntKind.i64 (Prod.snd a))) pn_, e0_ 25 (vi_ (IntKind.wrap IntKind.i64 (Prod.snd a))) pn_, e0_ 24 (vu_ (Prod.snd a)) pn_, e0_ 23 (vi_ (r07_Bin (r14_Of n))) pn_, e0_ 22 (vi_ (r14_Of n)) pn_, e0_ 21 (vi_ n) pn_, e0_ 20 (Value.pointer (some p_0)) (po_ 0), e0_ 19 (Value.bool (decide (n < (1 : Int)) || decide (n > p))) pn_, eg_ 18 (14, false) (Value.bool (decide (n > p))) pn_, eg_ 17 (14, false) (vi_ p) pn_, eg_ 16 (14, false) (Value.pointer (some { block := b, off := 0 + 1 })) (pc_ 1 1), eg_ 15 (14, false) (vi_ n) pn_, e0_ 14 (Value.bool (decide (n < (1 : Int)))) pn_, e0_ 13 (Value.bool (decide (n < (1 : Int)))) pn_, e0_ 12 (vi_ n) pn_, e0_ 1000007 (Value.tuple { toList := [] }) pn_, e0_ 7 (Value.bool false) pn_, e0_ 1000006 (Value.tuple { toList := [] }) pn_, e0_ 6 (vi_ (0 : Int)) pn_, e0_ 4 (vp_ b) (pc_ 1 0), e0_ 0 (Value.pointer (some p_0)) (po_ 0), e0_ 1 (Value.agg { toList := [vi_ t, vi_ p, vi_ sh] }) pn_, e0_ 2 (vi_ n) pn_] [Chunk.obj p_0 (Option.getD (some (Sg.ref (Prod.fst a))) (Sg.ref s)), kc_ b 77 [(vi_ t, pn_), (vi_ p, pn_), (vi_ sh, pn_)]])
theorem r14_Find_pc0 {E_ : World} {G_ : Hp} {r_ : VS × Int × Bool} {Q1 : r14_Find_T1} {Q2 : r14_Find_T2} (hQ : r14_Find_H E_ G_ s t p sh n p_0 r_ Q1 Q2) (h : r14_Find_wp0 s t p sh n p_0 Q1 Q2 (fun x => x = r_)) : (r14_Find_t0 s t p sh n p_0 ).holds (RetOk (r14_Find_out r_) (r14_Find_nw p_0 r_) (r14_Find_rows r_)) (SW Dg Try.prog 45 (Post Dg E_ G_ (r14_Find_out r_) (r14_Find_nw p_0 r_) (r14_Find_rows r_)) (bodyOf Try.f45) Try.f45.ntmps E_ G_) :=
  fun b0_0 => ⟨fun z1 => RetOk.at (outf := r14_Find_out) (nwf := r14_Find_nw p_0) (rowsf := r14_Find_rows) (r := (s, (0 : Int), false)) ((h b0_0).1 z1) ⟨[], [0], (by decide), rfl, rfl, ⟨.inl rfl, trivial⟩⟩, fun z1 => fun r2 e2 => SW.move Dg [9, 8, 4, 0, 2] [0, 1] (by decide) (by kernel_rfl) (by kernel_rfl) (SW.enter Dg (by kernel_rfl) (hQ.1 ((0 : Int)) (IntKind.wrap IntKind.i64 (Prod.snd r2)) (b0_0) (Prod.fst r2) (((h b0_0).2 z1) r2 e2)))⟩
abbrev r14_Find_wp1 (s : VS) (t : Int) (p : Int) (sh : Int) (n : Int) (p_0 : Addr) (m : Int) (q : Int) (b0 : Nat) (sv : VS) (Q1 : r14_Find_T1) (Q2 : r14_Find_T2) (R_ : VS × Int × Bool → Prop) : Prop := (((decide (m < p) && decide (q ≥ (1 : Int)) && decide (q ≤ p)) = true → (∀ r1 : VS × Int × Int × Int, r1 = ((VS.read sv (r07_Info t p sh (IntKind.wrap IntKind.i64 (q - (1 : Int)))), Prod.fst (r09_Get (VS.get sv (r07_Info t p sh (IntKind.wrap IntKind.i64 (q - (1 : Int)))))), Prod.fst (Prod.snd (r09_Get (VS.get sv (r07_Info t p sh (IntKind.wrap IntKind.i64 (q - (1 : Int))))))), Prod.fst (Prod.snd (Prod.snd (r09_Get (VS.get sv (r07_Info t p sh (IntKind.wrap IntKind.i64 (q - (1 : Int)))))))))) → (∀ b2_0 : Nat, (((Prod.fst (Prod.snd r1) == (1 : Int) && decide (Prod.fst (Prod.snd (Prod.snd r1)) ≥ n)) = true → (R_ ((Prod.fst r1, IntKind.wrap IntKind.i64 (q - (1 : Int)), true)))) ∧ ((Prod.fst (Prod.snd r1) == (1 : Int) && decide (Prod.fst (Prod.snd (Prod.snd r1)) ≥ n)) = false → (∀ r4 : VS × Int, r4 = ((VS.read (Prod.fst r1) (r07_Next t p sh (IntKind.wrap IntKind.i64 (q - (1 : Int)))), VS.get (Prod.fst r1) (r07_Next t p sh (IntKind.wrap IntKind.i64 (q - (1 : Int)))))) → (Q1 (IntKind.wrap IntKind.i64 (m + (1 : Int))) (IntKind.wrap IntKind.i64 (Prod.snd r4)) (b0) (Prod.fst r4)))))))) ∧ ((decide (m < p) && decide (q ≥ (1 : Int)) && decide (q ≤ p)) = false → (Q2 (IntKind.wrap IntKind.i64 (r14_Of n + (1 : Int))) (b0) (sv))))
abbrev r14_Find_t1 (s : VS) (t : Int) (p : Int) (sh : Int) (n : Int) (p_0 : Addr) (m : Int) (q : Int) (b0 : Nat) (sv : VS) : Tree Sg := Tree.br (decide (m < p) && decide (q ≥ (1 : Int)) && decide (q ≤ p)) (Tree.bind (VS.read sv (r07_Info t p sh (IntKind.wrap IntKind.i64 (q - (1 : Int)))), Prod.fst (r09_Get (VS.get sv (r07_Info t p sh (IntKind.wrap IntKind.i64 (q - (1 : Int)))))), Prod.fst (Prod.snd (r09_Get (VS.get sv (r07_Info t p sh (IntKind.wrap IntKind.i64 (q - (1 : Int))))))), Prod.fst (Prod.snd (Prod.snd (r09_Get (VS.get sv (r07_Info t p sh (IntKind.wrap IntKind.i64 (q - (1 : Int))))))))) fun a => Tree.fresh fun b => Tree.br (Prod.fst (Prod.snd a) == (1 : Int) && decide (Prod.fst (Prod.snd (Prod.snd a)) ≥ n)) (Tree.ret (Value.tuple { toList := [vi_ (IntKind.wrap IntKind.i64 (q - (1 : Int))), Value.bool true] }) pn_ [Chunk.obj p_0 (Option.getD (some (Sg.ref (Prod.fst a))) (Sg.ref sv)), kc_ b0 77 [(vi_ t, pn_), (vi_ p, pn_), (vi_ sh, pn_)], kc_ b 86 [(vi_ (Prod.fst (Prod.snd a)), pn_), (vi_ (Prod.fst (Prod.snd (Prod.snd a))), pn_), (vi_ (Prod.snd (Prod.snd (Prod.snd a))), pn_)]]) (Tree.bind (VS.read (Prod.fst a) (r07_Next t p sh (IntKind.wrap IntKind.i64 (q - (1 : Int)))), VS.get (Prod.fst a) (r07_Next t p sh (IntKind.wrap IntKind.i64 (q - (1 : Int))))) fun a_1 => Tree.stuck [Ab.again [0, 1, 0, 1, 1, 1], Ab.blk 0, Ab.code [1, 1, 1, 1]] [e0_ 9 (vi_ (IntKind.wrap IntKind.i64 (m + (1 : Int)))) pn_, e0_ 41 (vi_ (IntKind.wrap IntKind.i64 (m + (1 : Int)))) pn_, e0_ 40 (vi_ m) pn_, e0_ 8 (vi_ (IntKind.wrap IntKind.i64 (Prod.snd a_1))) pn_, e0_ 64 (vi_ (IntKind.wrap IntKind.i64 (Prod.snd a_1))) pn_, e0_ 63 (vu_ (Prod.snd a_1)) pn_, e0_ 62 (vi_ (r07_Next t p sh (IntKind.wrap IntKind.i64 (q - (1 : Int))))) pn_, e0_ 61 (vi_ (IntKind.wrap IntKind.i64 (q - (1 : Int)))) pn_, e0_ 60 (vi_ q) pn_, e0_ 59 (Value.agg { toList := [vi_ t, vi_ p, vi_ sh] }) pn_, e0_ 58 (Value.pointer (some p_0)) (po_ 0), e0_ 55 (Value.bool (Prod.fst (Prod.snd a) == (1 : Int) && decide (Prod.fst (Prod.snd (Prod.snd a)) ≥ n))) pn_, eg_ 54 (50, true) (Value.bool (decide (Prod.fst (Prod.snd (Prod.snd a)) ≥ n))) pn_, eg_ 53 (50, true) (vi_ n) pn_, eg_ 52 (50, true) (vi_ (Prod.fst (Prod.snd (Prod.snd a)))) pn_, eg_ 51 (50, true) (Value.pointer (some { block := b, off := 0 + 1 })) (pc_ 2 1), e0_ 50 (Value.bool (Prod.fst (Prod.snd a) == (1 : Int))) pn_, e0_ 49 (Value.bool (Prod.fst (Prod.snd a) == (1 : Int))) pn_, e0_ 48 (vi_ (Prod.fst (Prod.snd a))) pn_, e0_ 47 (vp_ b) (pc_ 2 0), e0_ 10 (vp_ b) (pc_ 2 0), e0_ 46 (Value.agg { toList := [vi_ (Prod.fst (Prod.snd a)), vi_ (Prod.fst (Prod.snd (Prod.snd a))), vi_ (Prod.snd (Prod.snd (Prod.snd a)))] }) pn_, e0_ 45 (vi_ (IntKind.wrap IntKind.i64 (q - (1 : Int)))) pn_, e0_ 44 (vi_ q) pn_, e0_ 43 (Value.agg { toList := [vi_ t, vi_ p, vi_ sh] }) pn_, e0_ 42 (Value.pointer (some p_0)) (po_ 0), e0_ 39 (Value.bool (decide (m < p) && decide (q ≥ (1 : Int)) && decide (q ≤ p))) pn_, eg_ 38 (34, true) (Value.bool (decide (q ≤ p))) pn_, eg_ 37 (34, true) (vi_ p) pn_, eg_ 36 (34, true) (Value.pointer (some { block := b0, off := 0 + 1 })) (pc_ 1 1), eg_ 35 (34, true) (vi_ q) pn_, e0_ 34 (Value.bool (decide (m < p) && decide (q ≥ (1 : Int)))) pn_, e0_ 33 (Value.bool (decide (m < p) && decide (q ≥ (1 : Int)))) pn_, eg_ 32 (30, true) (Value.bool (decide (q ≥ (1 : Int)))) pn_, eg_ 31 (30, true) (vi_ q) pn_, e0_ 30 (Value.bool (decide (m < p))) pn_, e0_ 29 (Value.bool (decide (m < p))) pn_, e0_ 28 (vi_ p) pn_, e0_ 27 (Value.pointer (some { block := b0, off := 0 + 1 })) (pc_ 1 1), e0_ 26 (vi_ m) pn_, e0_ 4 (vp_ b0) (pc_ 1 0), e0_ 0 (Value.pointer (some p_0)) (po_ 0), e0_ 2 (vi_ n) pn_] [Chunk.obj p_0 (Option.getD (some (Sg.ref (Prod.fst a_1))) (Option.getD (some (Sg.ref (Prod.fst a))) (Sg.ref sv))), kc_ b0 77 [(vi_ t, pn_), (vi_ p, pn_), (vi_ sh, pn_)], kc_ b 86 [(vi_ (Prod.fst (Prod.snd a)), pn_), (vi_ (Prod.fst (Prod.snd (Prod.snd a))), pn_), (vi_ (Prod.snd (Prod.snd (Prod.snd a))), pn_)]])) (Tree.stuck [Ab.code [0, 1, 0, 1, 1, 1, 1], Ab.blk 2, Ab.code [1, 1, 1, 1, 1]] [e0_ 11 (vi_ (IntKind.wrap IntKind.i64 (r14_Of n + (1 : Int)))) pn_, e0_ 67 (vi_ (IntKind.wrap IntKind.i64 (r14_Of n + (1 : Int)))) pn_, e0_ 66 (vi_ (r14_Of n)) pn_, e0_ 65 (vi_ n) pn_, e0_ 39 (Value.bool (decide (m < p) && decide (q ≥ (1 : Int)) && decide (q ≤ p))) pn_, eg_ 38 (34, true) (Value.bool (decide (q ≤ p))) pn_, eg_ 37 (34, true) (vi_ p) pn_, eg_ 36 (34, true) (Value.pointer (some { block := b0, off := 0 + 1 })) (pc_ 1 1), eg_ 35 (34, true) (vi_ q) pn_, e0_ 34 (Value.bool (decide (m < p) && decide (q ≥ (1 : Int)))) pn_, e0_ 33 (Value.bool (decide (m < p) && decide (q ≥ (1 : Int)))) pn_, eg_ 32 (30, true) (Value.bool (decide (q ≥ (1 : Int)))) pn_, eg_ 31 (30, true) (vi_ q) pn_, e0_ 30 (Value.bool (decide (m < p))) pn_, e0_ 29 (Value.bool (decide (m < p))) pn_, e0_ 28 (vi_ p) pn_, e0_ 27 (Value.pointer (some { block := b0, off := 0 + 1 })) (pc_ 1 1), e0_ 26 (vi_ m) pn_, e0_ 9 (vi_ m) pn_, e0_ 8 (vi_ q) pn_, e0_ 4 (vp_ b0) (pc_ 1 0), e0_ 0 (Value.pointer (some p_0)) (po_ 0), e0_ 2 (vi_ n) pn_] [Chunk.obj p_0 (Sg.ref sv), kc_ b0 77 [(vi_ t, pn_), (vi_ p, pn_), (vi_ sh, pn_)]])
theorem r14_Find_pc1 {E_ : World} {G_ : Hp} (m : Int) (q : Int) (b0 : Nat) (sv : VS) {r_ : VS × Int × Bool} {Q1 : r14_Find_T1} {Q2 : r14_Find_T2} (hQ : r14_Find_H E_ G_ s t p sh n p_0 r_ Q1 Q2) (h : r14_Find_wp1 s t p sh n p_0 m q b0 sv Q1 Q2 (fun x => x = r_)) : (r14_Find_t1 s t p sh n p_0 m q b0 sv ).holds (RetOk (r14_Find_out r_) (r14_Find_nw p_0 r_) (r14_Find_rows r_)) (SW Dg Try.prog 45 (Post Dg E_ G_ (r14_Find_out r_) (r14_Find_nw p_0 r_) (r14_Find_rows r_)) (bodyOf Try.f45) Try.f45.ntmps E_ G_) :=
  ⟨fun z0 => fun r1 e1 => fun b2_0 => ⟨fun z3 => RetOk.at (outf := r14_Find_out) (nwf := r14_Find_nw p_0) (rowsf := r14_Find_rows) (r := (Prod.fst r1, IntKind.wrap IntKind.i64 (q - (1 : Int)), true)) ((((h.1 z0) r1 e1) b2_0).1 z3) ⟨[], [0], (by decide), rfl, rfl, ⟨.inl rfl, trivial⟩⟩, fun z3 => fun r4 e4 => SW.move Dg [9, 8, 4, 0, 2] [0, 1] (by decide) (by kernel_rfl) (by kernel_rfl) (SW.again Dg (hQ.1 (IntKind.wrap IntKind.i64 (m + (1 : Int))) (IntKind.wrap IntKind.i64 (Prod.snd r4)) (b0) (Prod.fst r4) (((((h.1 z0) r1 e1) b2_0).2 z3) r4 e4)))⟩, fun z0 => SW.move Dg [11, 4, 0] [0, 1] (by decide) (by kernel_rfl) (by kernel_rfl) (SW.enter Dg (by kernel_rfl) (hQ.2 (IntKind.wrap IntKind.i64 (r14_Of n + (1 : Int))) (b0) (sv) (h.2 z0)))⟩
theorem r14_Find_go1 {E_ : World} {G_ : Hp} (m : Int) (q : Int) (b0 : Nat) (sv : VS) {r_ : VS × Int × Bool} {Q1 : r14_Find_T1} {Q2 : r14_Find_T2} (hQ : r14_Find_H E_ G_ s t p sh n p_0 r_ Q1 Q2) (h : r14_Find_wp1 s t p sh n p_0 m q b0 sv Q1 Q2 (fun x => x = r_)) : SW Dg Try.prog 45 (Post Dg E_ G_ (r14_Find_out r_) (r14_Find_nw p_0 r_) (r14_Find_rows r_)) (bodyOf Try.f45) Try.f45.ntmps E_ G_ (.code (0 :: [0,1,0,1,1,1]) :: .again [0,1,0,1,1,1] :: [.blk 0, .code [1,1,1,1]]) (r14_Find_L1 s t p sh n p_0 m q b0 sv) (r14_Find_K1 s t p sh n p_0 m q b0 sv) :=
  SW.go Dg T_bin_Find_ok (I := []) Try.func45 mix 400 (t := r14_Find_t1 s t p sh n p_0 m q b0 sv ) (by kernel_rfl) (r14_Find_pc1 s t p sh n p_0 m q b0 sv hQ h)
abbrev r14_Find_wp2 (s : VS) (t : Int) (p : Int) (sh : Int) (n : Int) (p_0 : Addr) (k : Int) (b0 : Nat) (sv : VS) (Q1 : r14_Find_T1) (Q2 : r14_Find_T2) (R_ : VS × Int × Bool → Prop) : Prop := (((decide (k < (11 : Int))) = true → (∀ r1 : VS × Int, r1 = ((VS.read sv (r07_Bin k), VS.get sv (r07_Bin k))) → (((decide (IntKind.wrap IntKind.i64 (Prod.snd r1) ≥ (1 : Int)) && decide (IntKind.wrap IntKind.i64 (Prod.snd r1) ≤ p)) = true → (R_ ((Prod.fst r1, IntKind.wrap IntKind.i64 (IntKind.wrap IntKind.i64 (Prod.snd r1) - (1 : Int)), true)))) ∧ ((decide (IntKind.wrap IntKind.i64 (Prod.snd r1) ≥ (1 : Int)) && decide (IntKind.wrap IntKind.i64 (Prod.snd r1) ≤ p)) = false → (Q2 (IntKind.wrap IntKind.i64 (k + (1 : Int))) (b0) (Prod.fst r1)))))) ∧ ((decide (k < (11 : Int))) = false → (R_ ((sv, (0 : Int), false)))))
abbrev r14_Find_t2 (s : VS) (t : Int) (p : Int) (sh : Int) (n : Int) (p_0 : Addr) (k : Int) (b0 : Nat) (sv : VS) : Tree Sg := Tree.br (decide (k < (11 : Int))) (Tree.bind (VS.read sv (r07_Bin k), VS.get sv (r07_Bin k)) fun a => Tree.br (decide (IntKind.wrap IntKind.i64 (Prod.snd a) ≥ (1 : Int)) && decide (IntKind.wrap IntKind.i64 (Prod.snd a) ≤ p)) (Tree.ret (Value.tuple { toList := [vi_ (IntKind.wrap IntKind.i64 (IntKind.wrap IntKind.i64 (Prod.snd a) - (1 : Int))), Value.bool true] }) pn_ [Chunk.obj p_0 (Option.getD (some (Sg.ref (Prod.fst a))) (Sg.ref sv)), kc_ b0 77 [(vi_ t, pn_), (vi_ p, pn_), (vi_ sh, pn_)]]) (Tree.stuck [Ab.again [0, 1, 0, 1, 1, 1, 1], Ab.blk 2, Ab.code [1, 1, 1, 1, 1]] [e0_ 11 (vi_ (IntKind.wrap IntKind.i64 (k + (1 : Int)))) pn_, e0_ 71 (vi_ (IntKind.wrap IntKind.i64 (k + (1 : Int)))) pn_, e0_ 70 (vi_ k) pn_, e0_ 84 (Value.bool (decide (IntKind.wrap IntKind.i64 (Prod.snd a) ≥ (1 : Int)) && decide (IntKind.wrap IntKind.i64 (Prod.snd a) ≤ p))) pn_, eg_ 83 (79, true) (Value.bool (decide (IntKind.wrap IntKind.i64 (Prod.snd a) ≤ p))) pn_, eg_ 82 (79, true) (vi_ p) pn_, eg_ 81 (79, true) (Value.pointer (some { block := b0, off := 0 + 1 })) (pc_ 1 1), eg_ 80 (79, true) (vi_ (IntKind.wrap IntKind.i64 (Prod.snd a))) pn_, e0_ 79 (Value.bool (decide (IntKind.wrap IntKind.i64 (Prod.snd a) ≥ (1 : Int)))) pn_, e0_ 78 (Value.bool (decide (IntKind.wrap IntKind.i64 (Prod.snd a) ≥ (1 : Int)))) pn_, e0_ 77 (vi_ (IntKind.wrap IntKind.i64 (Prod.snd a))) pn_, e0_ 8 (vi_ (IntKind.wrap IntKind.i64 (Prod.snd a))) pn_, e0_ 76 (vi_ (IntKind.wrap IntKind.i64 (Prod.snd a))) pn_, e0_ 75 (vu_ (Prod.snd a)) pn_, e0_ 74 (vi_ (r07_Bin k)) pn_, e0_ 73 (vi_ k) pn_, e0_ 72 (Value.pointer (some p_0)) (po_ 0), e0_ 69 (Value.bool (decide (k < (11 : Int)))) pn_, e0_ 68 (vi_ k) pn_, e0_ 4 (vp_ b0) (pc_ 1 0), e0_ 0 (Value.pointer (some p_0)) (po_ 0)] [Chunk.obj p_0 (Option.getD (some (Sg.ref (Prod.fst a))) (Sg.ref sv)), kc_ b0 77 [(vi_ t, pn_), (vi_ p, pn_), (vi_ sh, pn_)]])) (Tree.ret (Value.tuple { toList := [vi_ (0 : Int), Value.bool false] }) pn_ [Chunk.obj p_0 (Sg.ref sv), kc_ b0 77 [(vi_ t, pn_), (vi_ p, pn_), (vi_ sh, pn_)]])
theorem r14_Find_pc2 {E_ : World} {G_ : Hp} (k : Int) (b0 : Nat) (sv : VS) {r_ : VS × Int × Bool} {Q1 : r14_Find_T1} {Q2 : r14_Find_T2} (hQ : r14_Find_H E_ G_ s t p sh n p_0 r_ Q1 Q2) (h : r14_Find_wp2 s t p sh n p_0 k b0 sv Q1 Q2 (fun x => x = r_)) : (r14_Find_t2 s t p sh n p_0 k b0 sv ).holds (RetOk (r14_Find_out r_) (r14_Find_nw p_0 r_) (r14_Find_rows r_)) (SW Dg Try.prog 45 (Post Dg E_ G_ (r14_Find_out r_) (r14_Find_nw p_0 r_) (r14_Find_rows r_)) (bodyOf Try.f45) Try.f45.ntmps E_ G_) :=
  ⟨fun z0 => fun r1 e1 => ⟨fun z2 => RetOk.at (outf := r14_Find_out) (nwf := r14_Find_nw p_0) (rowsf := r14_Find_rows) (r := (Prod.fst r1, IntKind.wrap IntKind.i64 (IntKind.wrap IntKind.i64 (Prod.snd r1) - (1 : Int)), true)) (((h.1 z0) r1 e1).1 z2) ⟨[], [0], (by decide), rfl, rfl, ⟨.inl rfl, trivial⟩⟩, fun z2 => SW.move Dg [11, 4, 0] [0, 1] (by decide) (by kernel_rfl) (by kernel_rfl) (SW.again Dg (hQ.2 (IntKind.wrap IntKind.i64 (k + (1 : Int))) (b0) (Prod.fst r1) (((h.1 z0) r1 e1).2 z2)))⟩, fun z0 => RetOk.at (outf := r14_Find_out) (nwf := r14_Find_nw p_0) (rowsf := r14_Find_rows) (r := (sv, (0 : Int), false)) (h.2 z0) ⟨[], [0], (by decide), rfl, rfl, ⟨.inl rfl, trivial⟩⟩⟩
theorem r14_Find_go2 {E_ : World} {G_ : Hp} (k : Int) (b0 : Nat) (sv : VS) {r_ : VS × Int × Bool} {Q1 : r14_Find_T1} {Q2 : r14_Find_T2} (hQ : r14_Find_H E_ G_ s t p sh n p_0 r_ Q1 Q2) (h : r14_Find_wp2 s t p sh n p_0 k b0 sv Q1 Q2 (fun x => x = r_)) : SW Dg Try.prog 45 (Post Dg E_ G_ (r14_Find_out r_) (r14_Find_nw p_0 r_) (r14_Find_rows r_)) (bodyOf Try.f45) Try.f45.ntmps E_ G_ (.code (0 :: [0,1,0,1,1,1,1]) :: .again [0,1,0,1,1,1,1] :: [.blk 2, .code [1,1,1,1,1]]) (r14_Find_L2 s t p sh n p_0 k b0 sv) (r14_Find_K2 s t p sh n p_0 k b0 sv) :=
  SW.go Dg T_bin_Find_ok (I := []) Try.func45 mix 400 (t := r14_Find_t2 s t p sh n p_0 k b0 sv ) (by kernel_rfl) (r14_Find_pc2 s t p sh n p_0 k b0 sv hQ h)
theorem r14_Find_start {E_ : World} {G_ : Hp} {w_ : World} {r_ : VS × Int × Bool} {Q1 : r14_Find_T1} {Q2 : r14_Find_T2} (hQ : r14_Find_H E_ G_ s t p sh n p_0 r_ Q1 Q2) (hS : Sat E_ G_ w_ [Dg p_0 ((.ref s))]) (h : r14_Find_wp0 s t p sh n p_0 Q1 Q2 (fun x => x = r_)) : Calls Try.prog 45 #[(.pointer (some p_0)), (.agg #[.int .i64 t, .int .i64 p, .int .i64 sh]), (.int .i64 n)] w_ (Post Dg E_ G_ (r14_Find_out r_) (r14_Find_nw p_0 r_) (r14_Find_rows r_)) :=
  calls_post Dg T_bin_Find_ok (I := []) Try.func45 mix (B := bodyOf Try.f45) (by kernel_rfl) [(.pointer (some p_0)), (.agg #[.int .i64 t, .int .i64 p, .int .i64 sh]), (.int .i64 n)] [.pt 0 .obj, .no, .no] (by kernel_rfl) (objs := [.obj p_0 (.ref s)]) (ros := []) (psOk_cons (pOk_at rfl rfl) (psOk_cons pOk_no (psOk_cons pOk_no (psOk_nil)))) (by kernel_rfl) (trivial) hS 400
    (t := r14_Find_t0 s t p sh n p_0)
    (by kernel_rfl)
    (r14_Find_pc0 s t p sh n p_0 hQ h)
def r14_Find_I1 (s : VS) (t : Int) (p : Int) (sh : Int) (n : Int) (p_0 : Addr) (m : Int) (q : Int) (b0 : Nat) (sv : VS) (r_ : VS × Int × Bool) : Prop := 0 ≤ m ∧ 1 ≤ n ∧ 0 ≤ q ∧ q < 4294967296 ∧ ((pFirst ⟨t, p, sh⟩ n (p - m).toNat (q - 1)).bind fun r => bif r.2 then .ret r else pBins ⟨t, p, sh⟩ 12 (binOf n + 1)).run sv = r_
def r14_Find_I2 (s : VS) (t : Int) (p : Int) (sh : Int) (n : Int) (p_0 : Addr) (k : Int) (b0 : Nat) (sv : VS) (r_ : VS × Int × Bool) : Prop := 0 ≤ k ∧ ∃ f : Nat, 11 - k < f ∧ (pBins ⟨t, p, sh⟩ f k).run sv = r_
theorem r14_Find_step2 (hp0 : p ≤ 9223372036854775807) (k : Int) (b0 : Nat) (sv : VS) {r_ : VS × Int × Bool} (hI : r14_Find_I2 s t p sh n p_0 k b0 sv r_) : r14_Find_wp2 s t p sh n p_0 k b0 sv (fun m q b0 sv => False) (fun k' b0' sv' => r14_Find_I2 s t p sh n p_0 k' b0' sv' r_ ∧ ((11 - k').toNat) < ((11 - k).toNat)) (fun x => x = r_) := by
  unfold r14_Find_I2 at hI
  unfold r14_Find_wp2
  try unfold r14_Find_I2
  obtain ⟨h0, f, hf, h2⟩ := hI
  refine ⟨fun h => ?_, fun h => ?_⟩
  · simp only [decide_eq_true_eq] at h
    obtain ⟨f', rfl⟩ : ∃ f', f = f' + 1 := ⟨f - 1, by omega⟩
    have hk : decide (k < 11) = true := by simpa using h
    simp only [pBins, hk, cond_true, Pg.run_get] at h2
    intro r1 e1
    subst e1
    rw [r07_Bin_eq, w64g, w64g1]
    have e : Cf.page ⟨t, p, sh⟩ (sv.get (cBin k) - 1) = (decide (sv.get (cBin k) ≥ 1) && decide (sv.get (cBin k) ≤ p)) := by
      apply Bool.eq_iff_iff.2
      simp only [Cf.page, Bool.and_eq_true, decide_eq_true_eq]
      omega
    refine ⟨fun hp => ?_, fun hp => ?_⟩
    · rw [e.trans hp] at h2
      exact h2
    · rw [e.trans hp] at h2
      rw [w64 (n := k + 1) (by omega)]
      exact ⟨⟨by omega, f', by omega, h2⟩, by omega⟩
  · simp only [decide_eq_false_iff_not] at h
    have hk : decide (k < 11) = false := by simpa using h
    cases f with
    | zero => exact h2
    | succ f =>
      simp only [pBins, hk] at h2
      exact h2
theorem r14_Find_loop2 {E_ : World} {G_ : Hp} (hp0 : p ≤ 9223372036854775807) {r_ : VS × Int × Bool} : ∀ s_ : Int × Nat × VS, r14_Find_I2 s t p sh n p_0 s_.1 s_.2.1 s_.2.2 r_ → SW Dg Try.prog 45 (Post Dg E_ G_ (r14_Find_out r_) (r14_Find_nw p_0 r_) (r14_Find_rows r_)) (bodyOf Try.f45) Try.f45.ntmps E_ G_ (.code (0 :: [0,1,0,1,1,1,1]) :: .again [0,1,0,1,1,1,1] :: [.blk 2, .code [1,1,1,1,1]]) (r14_Find_L2 s t p sh n p_0 s_.1 s_.2.1 s_.2.2) (r14_Find_K2 s t p sh n p_0 s_.1 s_.2.1 s_.2.2) :=
  SW.loop Dg (α := Int × Nat × VS) (fun s_ => r14_Find_L2 s t p sh n p_0 s_.1 s_.2.1 s_.2.2) (fun s_ => r14_Find_K2 s t p sh n p_0 s_.1 s_.2.1 s_.2.2) (fun s_ => (11 - s_.1).toNat) (fun s_ => r14_Find_I2 s t p sh n p_0 s_.1 s_.2.1 s_.2.2 r_) (fun ⟨k, b0, sv⟩ hI ih => r14_Find_go2 s t p sh n p_0 k b0 sv ⟨fun _ _ _ _ h => h.elim, fun k' b0' sv' h => ih (k', b0', sv') h.1 h.2⟩ (r14_Find_step2 s t p sh n p_0 hp0 k b0 sv hI))
theorem r14_Find_step1 (hp0 : p ≤ 9223372036854775807) (m : Int) (q : Int) (b0 : Nat) (sv : VS) {r_ : VS × Int × Bool} (hI : r14_Find_I1 s t p sh n p_0 m q b0 sv r_) : r14_Find_wp1 s t p sh n p_0 m q b0 sv (fun m' q' b0' sv' => r14_Find_I1 s t p sh n p_0 m' q' b0' sv' r_ ∧ ((p - m').toNat) < ((p - m).toNat)) (fun k b0 sv => r14_Find_I2 s t p sh n p_0 k b0 sv r_) (fun x => x = r_) := by
  unfold r14_Find_I1 at hI
  unfold r14_Find_wp1
  try unfold r14_Find_I1
  try unfold r14_Find_I2
  obtain ⟨h0, h1, hq0, hq1, h2⟩ := hI
  have hb := binOf_ge n
  have hb2 := binOf_le n
  refine ⟨fun h => ?_, fun h => ?_⟩
  · simp only [Bool.and_eq_true, decide_eq_true_eq] at h
    have hf : (p - m).toNat = (p - (m + 1)).toNat + 1 := by omega
    have hpg : Cf.page ⟨t, p, sh⟩ (q - 1) = true := by
      simp only [Cf.page, Bool.and_eq_true, decide_eq_true_eq]
      omega
    rw [hf] at h2
    simp only [pFirst, hpg, cond_true, pFree, Pg.bind, Pg.run_get] at h2
    intro r1 e1
    rw [w64 (n := q - 1) (by omega)] at e1
    have e1' := e1.trans (show _ = r14_Info sv t p sh (q - 1) from rfl)
    rw [r14_Info_eq] at e1'
    subst e1'
    simp only
    by_cases hk : (iGet (sv.get (Cf.info ⟨t, p, sh⟩ (q - 1)))).k = 1
    · have e2 : ((iGet (sv.get (Cf.info ⟨t, p, sh⟩ (q - 1)))).k == 1) = true := by simpa using hk
      simp only [e2, cond_true] at h2
      intro b2
      rw [e2, Bool.true_and]
      refine ⟨fun hc => ?_, fun hc r4 e4 => ?_⟩
      · rw [show decide (n ≤ (iGet (sv.get (Cf.info ⟨t, p, sh⟩ (q - 1)))).l) = true from hc] at h2
        rw [w64 (n := q - 1) (by omega)]
        exact h2
      · rw [show decide (n ≤ (iGet (sv.get (Cf.info ⟨t, p, sh⟩ (q - 1)))).l) = false from hc] at h2
        subst e4
        simp only [cond_false, Pg.bind, Pg.run_get] at h2
        have bd := VS.get_bd (sv.read (Cf.info ⟨t, p, sh⟩ (q - 1))) (Cf.next ⟨t, p, sh⟩ (q - 1))
        rw [r07_Next_eq, w64 (n := q - 1) (by omega), w64 (n := m + 1) (by omega), w64g]
        exact ⟨⟨by omega, h1, bd.1, bd.2, h2⟩, by omega⟩
    · have e2 : ((iGet (sv.get (Cf.info ⟨t, p, sh⟩ (q - 1)))).k == 1) = false := by simpa using hk
      have e3 : decide (n ≤ 0) = false := by simp; omega
      simp only [e2, e3, cond_false, Pg.bind, Pg.run_get] at h2
      intro b2
      rw [e2, Bool.false_and]
      refine ⟨(fun h => by cases h), fun _ r4 e4 => ?_⟩
      subst e4
      have bd := VS.get_bd (sv.read (Cf.info ⟨t, p, sh⟩ (q - 1))) (Cf.next ⟨t, p, sh⟩ (q - 1))
      rw [r07_Next_eq, w64 (n := q - 1) (by omega), w64 (n := m + 1) (by omega), w64g]
      exact ⟨⟨by omega, h1, bd.1, bd.2, h2⟩, by omega⟩
  · have hpf : pFirst ⟨t, p, sh⟩ n (p - m).toNat (q - 1) = .ret (0, false) := by
      cases hf : (p - m).toNat with
      | zero => rfl
      | succ f =>
        have hpg : Cf.page ⟨t, p, sh⟩ (q - 1) = false := by
          cases hx : Cf.page ⟨t, p, sh⟩ (q - 1) with
          | false => rfl
          | true =>
            simp only [Cf.page, Bool.and_eq_true, decide_eq_true_eq] at hx
            simp only [Bool.and_eq_false_iff, decide_eq_false_iff_not] at h
            omega
        simp only [pFirst, hpg, cond_false]
    rw [hpf] at h2
    rw [r14_Of_eq, w64 (by omega)]
    exact ⟨by omega, 12, by omega, h2⟩
theorem r14_Find_loop1 {E_ : World} {G_ : Hp} (hp0 : p ≤ 9223372036854775807) {r_ : VS × Int × Bool} : ∀ s_ : Int × Int × Nat × VS, r14_Find_I1 s t p sh n p_0 s_.1 s_.2.1 s_.2.2.1 s_.2.2.2 r_ → SW Dg Try.prog 45 (Post Dg E_ G_ (r14_Find_out r_) (r14_Find_nw p_0 r_) (r14_Find_rows r_)) (bodyOf Try.f45) Try.f45.ntmps E_ G_ (.code (0 :: [0,1,0,1,1,1]) :: .again [0,1,0,1,1,1] :: [.blk 0, .code [1,1,1,1]]) (r14_Find_L1 s t p sh n p_0 s_.1 s_.2.1 s_.2.2.1 s_.2.2.2) (r14_Find_K1 s t p sh n p_0 s_.1 s_.2.1 s_.2.2.1 s_.2.2.2) :=
  SW.loop Dg (α := Int × Int × Nat × VS) (fun s_ => r14_Find_L1 s t p sh n p_0 s_.1 s_.2.1 s_.2.2.1 s_.2.2.2) (fun s_ => r14_Find_K1 s t p sh n p_0 s_.1 s_.2.1 s_.2.2.1 s_.2.2.2) (fun s_ => (p - s_.1).toNat) (fun s_ => r14_Find_I1 s t p sh n p_0 s_.1 s_.2.1 s_.2.2.1 s_.2.2.2 r_) (fun ⟨m, q, b0, sv⟩ hI ih => r14_Find_go1 s t p sh n p_0 m q b0 sv ⟨fun m' q' b0' sv' h => ih (m', q', b0', sv') h.1 h.2, fun k b0 sv h => r14_Find_loop2 s t p sh n p_0 hp0 (k, b0, sv) h⟩ (r14_Find_step1 s t p sh n p_0 hp0 m q b0 sv hI))
theorem r14_Find_begin (hp0 : p ≤ 9223372036854775807) : r14_Find_wp0 s t p sh n p_0 (fun m q b0 sv => r14_Find_I1 s t p sh n p_0 m q b0 sv (r14_Find s t p sh n)) (fun k b0 sv => r14_Find_I2 s t p sh n p_0 k b0 sv (r14_Find s t p sh n)) (fun x => x = (r14_Find s t p sh n)) := by
  unfold r14_Find_wp0
  try unfold r14_Find_I1
  try unfold r14_Find_I2
  intro b
  refine ⟨fun hc => ?_, fun hc r2 e2 => ?_⟩
  · show (s, 0, false) = r14_Find s t p sh n
    unfold r14_Find pFind
    rw [n_in, show (decide (n < 1) || decide (n > p)) = true from hc]
    rfl
  · subst e2
    have := VS.get_bd s (r07_Bin (r14_Of n))
    simp only [Bool.or_eq_false_iff, decide_eq_false_iff_not] at hc
    rw [w64g]
    refine ⟨by omega, by omega, by omega, by omega, ?_⟩
    unfold r14_Find pFind
    have e : (decide (1 ≤ n) && decide (n ≤ p)) = true := by simp; omega
    rw [e, show (p - 0).toNat = p.toNat by omega, r07_Bin_eq, r14_Of_eq]
    rfl
theorem r14_Find_calls {E_ : World} {G_ : Hp} {w_ : World} (hp0 : p ≤ 9223372036854775807) (hS : Sat E_ G_ w_ [Dg p_0 ((.ref s))]) : Calls Try.prog 45 #[(.pointer (some p_0)), (.agg #[.int .i64 t, .int .i64 p, .int .i64 sh]), (.int .i64 n)] w_ (Post Dg E_ G_ (r14_Find_out (r14_Find s t p sh n)) (r14_Find_nw p_0 (r14_Find s t p sh n)) (r14_Find_rows (r14_Find s t p sh n))) :=
  r14_Find_start s t p sh n p_0 ⟨fun m q b0 sv h => r14_Find_loop1 s t p sh n p_0 hp0 (m, q, b0, sv) h, fun k b0 sv h => r14_Find_loop2 s t p sh n p_0 hp0 (k, b0, sv) h⟩ hS (r14_Find_begin s t p sh n p_0 hp0 )
end
def r14_Find_e : Entry Sg := fun
  | [(.pointer (some p_0), .obj (.ref s)), (.agg ⟨[.int .i64 t, .int .i64 p, .int .i64 sh]⟩, .none), (.int .i64 n, _)] => some ⟨(r14_Find s t p sh n), fun (r_ : VS × Int × Bool) => ⟨[(p ≤ 9223372036854775807 : Prop)], some (.ref (r_.1)), [], fun ss => .tuple #[.int .i64 (r_.2.1), .bool (r_.2.2)], fun k_ => .no⟩⟩
  | _ => none
theorem r14_Find_ok : EntryOk Dg Try.prog 45 r14_Find_e := by
  intro args c r h hr_
  unfold r14_Find_e at h
  split at h
  · injection h with h; subst h; subst hr_
    refine ⟨fun K acs _ => pOk_no, fun hpre E G w hi hS => ?_⟩
    exact entry_post Dg (by exact rfl) (r14_Find_calls _ _ _ _ _ _ (hpre _ (by simp)) hS)
  · cases h
def T_r14_Find : List (Nat × Entry Sg) := (45, r14_Find_e) :: T_bin_Find
theorem T_r14_Find_ok : TableOk Dg Try.prog T_r14_Find := TableOk.cons Dg r14_Find_ok T_bin_Find_ok
end Go.Proofs.Ytdbpiopcbhmieaa
