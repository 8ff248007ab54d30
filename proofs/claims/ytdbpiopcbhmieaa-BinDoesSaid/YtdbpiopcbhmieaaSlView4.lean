/-
  DERIVED. What functions of the program compute, read off their bodies by the machine of SlB, and that it is so. Printed by a program of this claim's own (wip/gen/gen2.py).
-/
import Derived.Test.YtdbpiopcbhmieaaPlRef
namespace Go.Proofs.Ytdbpiopcbhmieaa
open Go.Sl
set_option linter.unusedSimpArgs false
set_option linter.unusedVariables false

def T_ref : List (Nat × Entry Sg) := (55, ref_Put_e) :: (56, ref_Get_e) :: T_rhas
theorem T_ref_ok : TableOk Dg Try.prog T_ref := TableOk.cons Dg ref_Put_ok (TableOk.cons Dg ref_Get_ok T_rhas_ok)
theorem nil_ok {k : Bool} {n : Int} {aw : Option Nat} {cw : Nat} {vals : List Int} {ms : Nat} {fs : IM} {mr : Nat} {mp : Nat} {s : VS} (h1 : s.n = n) (h2 : s.all = k) (h3 : k = true → n = vals.length) (h4 : ∀ i : Int, 0 ≤ i → i < n → s.src i = bif k then some (vals.getD i.toNat 0) else fs i)
    (h5 : ∀ v ∈ vals, bd32 v) (h6 : ∀ i v, fs i = some v → bd32 v) (h7 : s.reads = []) (h8 : s.wrote = []) (h9 : s.put = mnil) (h10 : s.miss = -1) (h11 : n ≤ 1000000) :
    VOk k ⟨n, aw, cw, vals, ms, fs, mr, mnil, none, 0, 0, [], mp, mnil, none, 0, 0, [], [], -1, false⟩ s := by
  exact { n := h1, nr := rfl, nq := rfl, all := h2, len := h3, src := h4, bv := h5, bs := h6, reads := h7, fr := fun i => rfl, wrote := h8, ql := rfl, fp := fun i => rfl, put := fun i => by rw [h9]; rfl
          bq := fun v h => by cases h
          miss := h10
          m0 := fun h => by cases h
          rl := by simp
          wl := by simp
          rn := List.nodup_nil
          wn := List.nodup_nil
          ri := fun i h => by cases h
          wi := fun i h => by cases h
          nb := h11 }
theorem whole_src {xs : List Int} : ∀ i : Int, 0 ≤ i → i < (xs.length : Int) → (VS.whole xs).src i = bif true then some (xs.getD i.toNat 0) else mnil i := fun i h0 h1 => by
  have e1 : decide (0 ≤ i) = true := by simpa using h0
  have e2 : decide (i < (xs.length : Int)) = true := by simpa using h1
  simp only [VS.whole, e1, e2, Bool.and_self, cond_true]
theorem fsUpto_bd {xs ys : List Int} {k : Nat} (hk : k ≤ ys.length) (hb : ∀ v ∈ ys, bd32 v) : ∀ i v, fsUpto xs ys k i = some v → bd32 v := fun i v h => by
  unfold fsUpto at h
  cases hf : (List.range k).find? (fun j => xs.getD j 0 == i) with
  | none => rw [hf] at h; cases h
  | some j =>
    rw [hf] at h
    injection h with h
    subst h
    have := List.mem_of_find?_eq_some hf
    rw [List.mem_range] at this
    exact hb _ (getD_mem (by omega))


/- view.Whole -/
section
variable (xs : List Int) (a_0 : Option Addr) (c_0 : Nat)
abbrev whole_st : Type := Nat × Int × Option Nat × Nat × List Int × Nat × IM × Option Nat × Nat × Nat × List Int × Nat × IM × Option Nat × Nat × Nat × List Int × List Int × Int × Bool
abbrev whole_Rd (xs : List Int) (a_0 : Option Addr) (c_0 : Nat) (ok_ : whole_st → Unit → Prop) : Value → Pr → List (Chunk Sg) → Prop := ObjRet (α := Nat × Int × Option Nat × Nat × List Int × Nat × IM × Option Nat × Nat × Nat × List Int × Nat × IM × Option Nat × Nat × Nat × List Int × List Int × Int × Bool) (β := Value) (fun ⟨b', n', aw', cw', vals', mr', fr', ar', cr', nr', reads', mp', fp', aq', cq', nq', qc', qv', miss', stuck'⟩ => [.cells b' 55 [(.int .i64 n', .no), (.iface 52 (.slice (aw'.map fun b => ⟨b, 0, none⟩) vals'.length cw'), .box (.pt 1 .slice)), (.slice (aw'.map fun b => ⟨b, 0, none⟩) vals'.length cw', .pt 1 .slice), (.map (some mr'), .pt 2 .map), (.slice (ar'.map fun b => ⟨b, 0, none⟩) nr' cr', .pt 3 .slice), (.map (some mp'), .pt 4 .map), (.slice (aq'.map fun b => ⟨b, 0, none⟩) nq' cq', .pt 5 .slice), (.int .i64 miss', .no), (.bool stuck', .no)], .row aw' 32 vals'.length cw' [.ints .u32 vals'], .map mr' .i64 .i64 fr', .row ar' 3 nr' cr' [.ints .i64 reads'], .map mp' .i64 .i64 fp', .row aq' 46 nq' cq' [.ints .i64 qc', .ints .u32 qv']]) (fun r_ ss => r_) (fun r_ => []) (fun st_ r_ => ok_ st_ () ∧ r_ = (match st_ with | ⟨b', n', aw', cw', vals', mr', fr', ar', cr', nr', reads', mp', fp', aq', cq', nq', qc', qv', miss', stuck'⟩ => .pointer (some ⟨b', 0, none⟩)))
abbrev whole_wp0 (xs : List Int) (a_0 : Option Addr) (c_0 : Nat) (R_ : whole_st → Unit → Prop) : Prop := (∀ r0 : List Int, r0 = (cloneVals xs) → ((List.length xs * 16 ≤ 140737488355328) ∧ ((List.length xs * 16 ≤ 140737488355328) → (∀ (b2_0 : Option Nat) (b2_1 : Nat), (∀ b3_0 : Nat, (∀ b4_0 : Nat, (∀ b5_0 : Nat, (R_ ((b5_0), ((↑(List.length r0) : Int)), (b2_0), (b2_1), (r0), (b3_0), (mnil), (none), (0), (0), ([]), (b4_0), (mnil), (none), (0), (0), ([]), ([]), ((-1 : Int)), (false)) (())))))))))
abbrev whole_t0 (xs : List Int) (a_0 : Option Addr) (c_0 : Nat) : Tree Sg := Tree.bind (cloneVals xs) fun a => Tree.need (List.length xs * 16 ≤ 140737488355328) (Tree.freshS fun a_1 cap => Tree.fresh fun b => Tree.fresh fun b_1 => Tree.fresh fun b_2 => Tree.ret (vp_ b_2) (pc_ 4 0) [Chunk.ro a_0 (List.length xs) c_0 [cu_ xs], kr_ a_1 32 (List.length a) cap [cu_ a], Chunk.map b IntKind.i64 IntKind.i64 mnil, Chunk.map b_1 IntKind.i64 IntKind.i64 mnil, kc_ b_2 55 [(vi_ (↑(List.length a) : Int), pn_), (Value.iface 52 (vs_ (ob_ a_1) (List.length a) cap), Pr.box (ps_ 1)), (vs_ (ob_ a_1) (List.length a) cap, ps_ 1), (Value.map (some b), pm_ 2), (Value.slice none 0 0, pn_), (Value.map (some b_1), pm_ 3), (Value.slice none 0 0, pn_), (vi_ (-1 : Int), pn_), (Value.bool false, pn_)]])
theorem whole_pc0 {E_ : World} {G_ : Hp} {ok_ : whole_st → Unit → Prop} {R0_ : Ending → World → Prop} (h : whole_wp0 xs a_0 c_0 ok_) : (whole_t0 xs a_0 c_0 ).holds (whole_Rd xs a_0 c_0 ok_) (SW Dg Try.prog 12 R0_ (bodyOf Try.f12) Try.f12.ntmps E_ G_) :=
  fun r0 e0 => ⟨(h r0 e0).1, fun z1 => fun b2_0 b2_1 => fun b3_0 => fun b4_0 => fun b5_0 => ⟨((b5_0), ((↑(List.length r0) : Int)), (b2_0), (b2_1), (r0), (b3_0), (mnil), (none), (0), (0), ([]), (b4_0), (mnil), (none), (0), (0), ([]), ([]), ((-1 : Int)), (false)), _, ⟨((((((h r0 e0).2 z1) b2_0 b2_1) b3_0) b4_0) b5_0), rfl⟩, [], [4, 1, 2, 5005, 3, 5006], (by decide), rfl, rfl, ⟨.inl rfl, .inl rfl, .inl rfl, .inr (by kernel_rfl), .inl rfl, .inr (by kernel_rfl), trivial⟩⟩⟩
theorem whole_open {E_ : World} {G_ : Hp} {w_ : World} (hr0 : RowAt G_ a_0 xs.length [.ints .u32 xs]) {ok_ : whole_st → Unit → Prop} {R0_ : Ending → World → Prop} (hR_ : ∀ v p K w, whole_Rd xs a_0 c_0 ok_ v p K → SatK Dg E_ G_ w K → R0_ (.returned v) w) (hS : SatK Dg E_ G_ w_ []) (h : whole_wp0 xs a_0 c_0 ok_) : Calls Try.prog 12 #[(.slice a_0 xs.length c_0)] w_ R0_ :=
  calls_obj Dg T_ref_ok (I := [53]) Try.func12 mix (B := bodyOf Try.f12) (by kernel_rfl) [(.slice a_0 xs.length c_0)] [.pt 0 .slice] (by kernel_rfl) (K := []) (ros := [.ro a_0 xs.length c_0 [.ints .u32 xs]]) (psOk_cons (pOk_at rfl rfl) (psOk_nil)) (by simp [cellsAll, psOk, pOk, cOk]) (⟨hr0, trivial⟩) hS hR_ 400
    (t := whole_t0 xs a_0 c_0)
    (by kernel_rfl)
    (whole_pc0 xs a_0 c_0 h)
def whole_ok_ (xs : List Int) (a_0 : Option Addr) (c_0 : Nat) : whole_st → Unit → Prop := fun ⟨b', n', aw', cw', vals', mr', fr', ar', cr', nr', reads', mp', fp', aq', cq', nq', qc', qv', miss', stuck'⟩ r_ => VOk true (mkW 0 mnil ⟨n', aw', cw', vals', mr', fr', ar', cr', nr', reads', mp', fp', aq', cq', nq', qc', qv', miss', stuck'⟩) (VS.whole xs)
theorem whole_begin (hp0 : xs.length ≤ 1000000) (hp1 : ∀ v ∈ xs, bd32 v) (hl0 : xs.length ≤ 9223372036854775807) : whole_wp0 xs a_0 c_0 (whole_ok_ xs a_0 c_0) := by
  unfold whole_wp0
  intro r0 e
  rw [show r0 = xs from e]
  refine ⟨by omega, fun _ a c m1 m2 b => ?_⟩
  exact nil_ok rfl rfl (fun _ => rfl) whole_src hp1 (fun i v h => by cases h) rfl rfl rfl rfl (by show (xs.length : Int) ≤ 1000000; omega)
theorem whole_fin {E_ : World} {G_ : Hp} {w_ : World} (hr0 : RowAt G_ a_0 xs.length [.ints .u32 xs]) (hp0 : xs.length ≤ 1000000) (hp1 : ∀ v ∈ xs, bd32 v) {R0_ : Ending → World → Prop} (hR_ : ∀ v p K w, whole_Rd xs a_0 c_0 (whole_ok_ xs a_0 c_0) v p K → SatK Dg E_ G_ w K → R0_ (.returned v) w) (hS : SatK Dg E_ G_ w_ []) : Calls Try.prog 12 #[(.slice a_0 xs.length c_0)] w_ R0_ :=
  whole_open (ok_ := (whole_ok_ xs a_0 c_0)) xs a_0 c_0 hr0 hR_ hS (whole_begin xs a_0 c_0 hp0 hp1 hr0.bound )
end

/- view.Known -/
section
variable (m : Int) (xs : List Int) (ys : List Int) (a_0 : Option Addr) (c_0 : Nat)
abbrev known_st : Type := Nat × Int × Nat × IM × Nat × IM × Option Nat × Nat × Nat × List Int × Nat × IM × Option Nat × Nat × Nat × List Int × List Int × Int × Bool
abbrev known_Rd (m : Int) (xs : List Int) (ys : List Int) (a_0 : Option Addr) (c_0 : Nat) (ok_ : known_st → Unit → Prop) : Value → Pr → List (Chunk Sg) → Prop := ObjRet (α := Nat × Int × Nat × IM × Nat × IM × Option Nat × Nat × Nat × List Int × Nat × IM × Option Nat × Nat × Nat × List Int × List Int × Int × Bool) (β := Value) (fun ⟨b', n', ms', fs', mr', fr', ar', cr', nr', reads', mp', fp', aq', cq', nq', qc', qv', miss', stuck'⟩ => [.cells b' 55 [(.int .i64 n', .no), (.iface 102 (.map (some ms')), .box (.pt 1 .map)), (.slice none 0 0, .no), (.map (some mr'), .pt 2 .map), (.slice (ar'.map fun b => ⟨b, 0, none⟩) nr' cr', .pt 3 .slice), (.map (some mp'), .pt 4 .map), (.slice (aq'.map fun b => ⟨b, 0, none⟩) nq' cq', .pt 5 .slice), (.int .i64 miss', .no), (.bool stuck', .no)], .map ms' .i64 .u32 fs', .map mr' .i64 .i64 fr', .row ar' 3 nr' cr' [.ints .i64 reads'], .map mp' .i64 .i64 fp', .row aq' 46 nq' cq' [.ints .i64 qc', .ints .u32 qv']]) (fun r_ ss => r_) (fun r_ => []) (fun st_ r_ => ok_ st_ () ∧ r_ = (match st_ with | ⟨b', n', ms', fs', mr', fr', ar', cr', nr', reads', mp', fp', aq', cq', nq', qc', qv', miss', stuck'⟩ => .pointer (some ⟨b', 0, none⟩)))
abbrev known_T1 : Type := Int → Nat → IM → Prop
abbrev known_L1 (m : Int) (xs : List Int) (ys : List Int) (a_0 : Option Addr) (c_0 : Nat) (k : Int) (bm : Nat) (fm : IM) : List Ent := [⟨13, none, .int .i64 k, .no⟩, ⟨12, none, .int .i64 xs.length, .no⟩, ⟨11, none, .slice a_0 xs.length c_0, .pt 0 .slice⟩, ⟨5, none, .map (some bm), .pt 1 .map⟩, ⟨0, none, .int .i64 m, .no⟩]
abbrev known_K1 (m : Int) (xs : List Int) (ys : List Int) (a_0 : Option Addr) (c_0 : Nat) (k : Int) (bm : Nat) (fm : IM) : List (Chunk Sg) := [.ro a_0 xs.length c_0 [.ints .i64 xs, .ints .u32 ys], .map bm .i64 .u32 fm]
abbrev known_H (E_ : World) (G_ : Hp) (m : Int) (xs : List Int) (ys : List Int) (a_0 : Option Addr) (c_0 : Nat) (R0_ : Ending → World → Prop) (Q1 : known_T1) : Prop := (∀ (k : Int) (bm : Nat) (fm : IM), Q1 k bm fm → SW Dg Try.prog 13 R0_ (bodyOf Try.f13) Try.f13.ntmps E_ G_ (.code (0 :: [0,1,0,1,1]) :: .again [0,1,0,1,1] :: [.blk 0, .code [1,1,1]]) (known_L1 m xs ys a_0 c_0 k bm fm) (known_K1 m xs ys a_0 c_0 k bm fm))
abbrev known_wp0 (m : Int) (xs : List Int) (ys : List Int) (a_0 : Option Addr) (c_0 : Nat) (Q1 : known_T1) (R_ : known_st → Unit → Prop) : Prop := (∀ b0_0 : Nat, (Q1 ((0 : Int)) (b0_0) (mnil)))
abbrev known_t0 (m : Int) (xs : List Int) (ys : List Int) (a_0 : Option Addr) (c_0 : Nat) : Tree Sg := Tree.fresh fun b => Tree.stuck [Ab.code [0, 1, 0, 1, 1], Ab.blk 0, Ab.code [1, 1, 1]] [e0_ 1000013 (Value.tuple { toList := [] }) pn_, e0_ 13 (vi_ (0 : Int)) pn_, e0_ 12 (vi_ (↑(List.length xs) : Int)) pn_, e0_ 11 (Value.slice a_0 (List.length xs) c_0) (ps_ 0), e0_ 5 (Value.map (some b)) (pm_ 1), e0_ 10 (Value.map (some b)) (pm_ 1), e0_ 1000004 (Value.tuple { toList := [] }) pn_, e0_ 4 (Value.pointer none) pn_, e0_ 0 (vi_ m) pn_, e0_ 1 (Value.slice a_0 (List.length xs) c_0) (ps_ 0)] [Chunk.ro a_0 (List.length xs) c_0 [ci_ xs, cu_ ys], Chunk.map b IntKind.i64 IntKind.u32 mnil]
theorem known_pc0 {E_ : World} {G_ : Hp} {ok_ : known_st → Unit → Prop} {R0_ : Ending → World → Prop} {Q1 : known_T1} (hQ : known_H E_ G_ m xs ys a_0 c_0 R0_ Q1 ) (h : known_wp0 m xs ys a_0 c_0 Q1 ok_) : (known_t0 m xs ys a_0 c_0 ).holds (known_Rd m xs ys a_0 c_0 ok_) (SW Dg Try.prog 13 R0_ (bodyOf Try.f13) Try.f13.ntmps E_ G_) :=
  fun b0_0 => SW.move Dg [13, 12, 11, 5, 0] [0, 1] (by decide) (by kernel_rfl) (by kernel_rfl) (SW.enter Dg (by kernel_rfl) (hQ ((0 : Int)) (b0_0) (mnil) (h b0_0)))
abbrev known_wp1 (m : Int) (xs : List Int) (ys : List Int) (a_0 : Option Addr) (c_0 : Nat) (k : Int) (bm : Nat) (fm : IM) (Q1 : known_T1) (R_ : known_st → Unit → Prop) : Prop := (((decide (k < (↑(List.length xs) : Int))) = true → (((0 : Int) ≤ k ∧ k < (↑(List.length xs) : Int)) ∧ (((0 : Int) ≤ k ∧ k < (↑(List.length xs) : Int)) → (∀ b2_0 : Nat, (((!Option.isSome (fm (List.getD xs (Int.toNat k) (0 : Int)))) = true → (Q1 (IntKind.wrap IntKind.i64 (k + (1 : Int))) (bm) (mupd fm (List.getD xs (Int.toNat k) (0 : Int)) (List.getD ys (Int.toNat k) (0 : Int))))) ∧ ((!Option.isSome (fm (List.getD xs (Int.toNat k) (0 : Int)))) = false → (Q1 (IntKind.wrap IntKind.i64 (k + (1 : Int))) (bm) (fm)))))))) ∧ ((decide (k < (↑(List.length xs) : Int))) = false → (∀ b1_0 : Nat, (∀ b2_0 : Nat, (∀ b3_0 : Nat, (R_ ((b3_0), (m), (bm), (fm), (b1_0), (mnil), (none), (0), (0), ([]), (b2_0), (mnil), (none), (0), (0), ([]), ([]), ((-1 : Int)), (false)) (())))))))
abbrev known_t1 (m : Int) (xs : List Int) (ys : List Int) (a_0 : Option Addr) (c_0 : Nat) (k : Int) (bm : Nat) (fm : IM) : Tree Sg := Tree.br (decide (k < (↑(List.length xs) : Int))) (Tree.need ((0 : Int) ≤ k ∧ k < (↑(List.length xs) : Int)) (Tree.fresh fun b => Tree.br (!Option.isSome (fm (List.getD xs (Int.toNat k) (0 : Int)))) (Tree.stuck [Ab.again [0, 1, 0, 1, 1], Ab.blk 0, Ab.code [1, 1, 1]] [e0_ 13 (vi_ (IntKind.wrap IntKind.i64 (k + (1 : Int)))) pn_, e0_ 31 (vi_ (IntKind.wrap IntKind.i64 (k + (1 : Int)))) pn_, e0_ 30 (vu_ (List.getD ys (Int.toNat k) (0 : Int))) pn_, e0_ 29 (Value.pointer (some { block := b, off := 0 + 1 })) (pc_ 2 1), e0_ 28 (vi_ (List.getD xs (Int.toNat k) (0 : Int))) pn_, e0_ 27 (vp_ b) (pc_ 2 0), e0_ 26 (Value.map (some bm)) (pm_ 1), e0_ 25 (Value.bool !Option.isSome (fm (List.getD xs (Int.toNat k) (0 : Int)))) pn_, e0_ 24 (Value.bool (Option.isSome (fm (List.getD xs (Int.toNat k) (0 : Int))))) pn_, e0_ 9 (Value.bool (Option.isSome (fm (List.getD xs (Int.toNat k) (0 : Int))))) pn_, e0_ 8 (vu_ (Option.getD (fm (List.getD xs (Int.toNat k) (0 : Int))) (0 : Int))) pn_, e0_ 23 (Value.bool (Option.isSome (fm (List.getD xs (Int.toNat k) (0 : Int))))) pn_, e0_ 22 (vu_ (Option.getD (fm (List.getD xs (Int.toNat k) (0 : Int))) (0 : Int))) pn_, e0_ 17 (Value.tuple { toList := [vu_ (Option.getD (fm (List.getD xs (Int.toNat k) (0 : Int))) (0 : Int)), Value.bool (Option.isSome (fm (List.getD xs (Int.toNat k) (0 : Int))))] }) pn_, e0_ 21 (Value.tuple { toList := [vu_ (Option.getD (fm (List.getD xs (Int.toNat k) (0 : Int))) (0 : Int)), Value.bool (Option.isSome (fm (List.getD xs (Int.toNat k) (0 : Int))))] }) pn_, e0_ 20 (vi_ (List.getD xs (Int.toNat k) (0 : Int))) pn_, e0_ 19 (vp_ b) (pc_ 2 0), e0_ 18 (Value.map (some bm)) (pm_ 1), e0_ 7 (vp_ b) (pc_ 2 0), e0_ 16 (Value.agg { toList := [vi_ (List.getD xs (Int.toNat k) (0 : Int)), vu_ (List.getD ys (Int.toNat k) (0 : Int))] }) pn_, e0_ 15 (Value.pointer (Option.map (fun a => Addr.add a (Int.toNat k * 2)) a_0)) (Pr.pt 0 (PK.elem (Int.toNat k) 0)), e0_ 14 (Value.bool (decide (k < (↑(List.length xs) : Int)))) pn_, e0_ 12 (vi_ (↑(List.length xs) : Int)) pn_, e0_ 11 (Value.slice a_0 (List.length xs) c_0) (ps_ 0), e0_ 5 (Value.map (some bm)) (pm_ 1), e0_ 0 (vi_ m) pn_] [Chunk.ro a_0 (List.length xs) c_0 [ci_ xs, cu_ ys], Chunk.map bm IntKind.i64 IntKind.u32 (mupd fm (List.getD xs (Int.toNat k) (0 : Int)) (List.getD ys (Int.toNat k) (0 : Int))), kc_ b 46 [(vi_ (List.getD xs (Int.toNat k) (0 : Int)), pn_), (vu_ (List.getD ys (Int.toNat k) (0 : Int)), pn_)]]) (Tree.stuck [Ab.again [0, 1, 0, 1, 1], Ab.blk 0, Ab.code [1, 1, 1]] [e0_ 13 (vi_ (IntKind.wrap IntKind.i64 (k + (1 : Int)))) pn_, e0_ 31 (vi_ (IntKind.wrap IntKind.i64 (k + (1 : Int)))) pn_, e0_ 25 (Value.bool !Option.isSome (fm (List.getD xs (Int.toNat k) (0 : Int)))) pn_, e0_ 24 (Value.bool (Option.isSome (fm (List.getD xs (Int.toNat k) (0 : Int))))) pn_, e0_ 9 (Value.bool (Option.isSome (fm (List.getD xs (Int.toNat k) (0 : Int))))) pn_, e0_ 8 (vu_ (Option.getD (fm (List.getD xs (Int.toNat k) (0 : Int))) (0 : Int))) pn_, e0_ 23 (Value.bool (Option.isSome (fm (List.getD xs (Int.toNat k) (0 : Int))))) pn_, e0_ 22 (vu_ (Option.getD (fm (List.getD xs (Int.toNat k) (0 : Int))) (0 : Int))) pn_, e0_ 17 (Value.tuple { toList := [vu_ (Option.getD (fm (List.getD xs (Int.toNat k) (0 : Int))) (0 : Int)), Value.bool (Option.isSome (fm (List.getD xs (Int.toNat k) (0 : Int))))] }) pn_, e0_ 21 (Value.tuple { toList := [vu_ (Option.getD (fm (List.getD xs (Int.toNat k) (0 : Int))) (0 : Int)), Value.bool (Option.isSome (fm (List.getD xs (Int.toNat k) (0 : Int))))] }) pn_, e0_ 20 (vi_ (List.getD xs (Int.toNat k) (0 : Int))) pn_, e0_ 19 (vp_ b) (pc_ 2 0), e0_ 18 (Value.map (some bm)) (pm_ 1), e0_ 7 (vp_ b) (pc_ 2 0), e0_ 16 (Value.agg { toList := [vi_ (List.getD xs (Int.toNat k) (0 : Int)), vu_ (List.getD ys (Int.toNat k) (0 : Int))] }) pn_, e0_ 15 (Value.pointer (Option.map (fun a => Addr.add a (Int.toNat k * 2)) a_0)) (Pr.pt 0 (PK.elem (Int.toNat k) 0)), e0_ 14 (Value.bool (decide (k < (↑(List.length xs) : Int)))) pn_, e0_ 12 (vi_ (↑(List.length xs) : Int)) pn_, e0_ 11 (Value.slice a_0 (List.length xs) c_0) (ps_ 0), e0_ 5 (Value.map (some bm)) (pm_ 1), e0_ 0 (vi_ m) pn_] [Chunk.ro a_0 (List.length xs) c_0 [ci_ xs, cu_ ys], Chunk.map bm IntKind.i64 IntKind.u32 fm, kc_ b 46 [(vi_ (List.getD xs (Int.toNat k) (0 : Int)), pn_), (vu_ (List.getD ys (Int.toNat k) (0 : Int)), pn_)]]))) (Tree.fresh fun b => Tree.fresh fun b_1 => Tree.fresh fun b_2 => Tree.ret (vp_ b_2) (pc_ 4 0) [Chunk.ro a_0 (List.length xs) c_0 [ci_ xs, cu_ ys], Chunk.map bm IntKind.i64 IntKind.u32 fm, Chunk.map b IntKind.i64 IntKind.i64 mnil, Chunk.map b_1 IntKind.i64 IntKind.i64 mnil, kc_ b_2 55 [(vi_ m, pn_), (Value.iface 102 (Value.map (some bm)), Pr.box (pm_ 1)), (Value.slice none 0 0, pn_), (Value.map (some b), pm_ 2), (Value.slice none 0 0, pn_), (Value.map (some b_1), pm_ 3), (Value.slice none 0 0, pn_), (vi_ (-1 : Int), pn_), (Value.bool false, pn_)]])
theorem known_pc1 {E_ : World} {G_ : Hp} (k : Int) (bm : Nat) (fm : IM) {ok_ : known_st → Unit → Prop} {R0_ : Ending → World → Prop} {Q1 : known_T1} (hQ : known_H E_ G_ m xs ys a_0 c_0 R0_ Q1 ) (h : known_wp1 m xs ys a_0 c_0 k bm fm Q1 ok_) : (known_t1 m xs ys a_0 c_0 k bm fm ).holds (known_Rd m xs ys a_0 c_0 ok_) (SW Dg Try.prog 13 R0_ (bodyOf Try.f13) Try.f13.ntmps E_ G_) :=
  ⟨fun z0 => ⟨(h.1 z0).1, fun z1 => fun b2_0 => ⟨fun z3 => SW.move Dg [13, 12, 11, 5, 0] [0, 1] (by decide) (by kernel_rfl) (by kernel_rfl) (SW.again Dg (hQ (IntKind.wrap IntKind.i64 (k + (1 : Int))) (bm) (mupd fm (List.getD xs (Int.toNat k) (0 : Int)) (List.getD ys (Int.toNat k) (0 : Int))) ((((h.1 z0).2 z1) b2_0).1 z3))), fun z3 => SW.move Dg [13, 12, 11, 5, 0] [0, 1] (by decide) (by kernel_rfl) (by kernel_rfl) (SW.again Dg (hQ (IntKind.wrap IntKind.i64 (k + (1 : Int))) (bm) (fm) ((((h.1 z0).2 z1) b2_0).2 z3)))⟩⟩, fun z0 => fun b1_0 => fun b2_0 => fun b3_0 => ⟨((b3_0), (m), (bm), (fm), (b1_0), (mnil), (none), (0), (0), ([]), (b2_0), (mnil), (none), (0), (0), ([]), ([]), ((-1 : Int)), (false)), _, ⟨((((h.2 z0) b1_0) b2_0) b3_0), rfl⟩, [], [4, 1, 2, 5005, 3, 5006], (by decide), rfl, rfl, ⟨.inl rfl, .inl rfl, .inl rfl, .inr (by kernel_rfl), .inl rfl, .inr (by kernel_rfl), trivial⟩⟩⟩
theorem known_go1 {E_ : World} {G_ : Hp} (k : Int) (bm : Nat) (fm : IM) {ok_ : known_st → Unit → Prop} {R0_ : Ending → World → Prop} {Q1 : known_T1} (hR_ : ∀ v p K w, known_Rd m xs ys a_0 c_0 ok_ v p K → SatK Dg E_ G_ w K → R0_ (.returned v) w) (hQ : known_H E_ G_ m xs ys a_0 c_0 R0_ Q1 ) (h : known_wp1 m xs ys a_0 c_0 k bm fm Q1 ok_) : SW Dg Try.prog 13 R0_ (bodyOf Try.f13) Try.f13.ntmps E_ G_ (.code (0 :: [0,1,0,1,1]) :: .again [0,1,0,1,1] :: [.blk 0, .code [1,1,1]]) (known_L1 m xs ys a_0 c_0 k bm fm) (known_K1 m xs ys a_0 c_0 k bm fm) :=
  SW.run Dg T_ref_ok (I := [53]) Try.func13 mix hR_ 400 (t := known_t1 m xs ys a_0 c_0 k bm fm ) (by kernel_rfl) (known_pc1 m xs ys a_0 c_0 k bm fm hQ h)
theorem known_open {E_ : World} {G_ : Hp} {w_ : World} (hr0 : RowAt G_ a_0 xs.length [.ints .i64 xs, .ints .u32 ys]) {ok_ : known_st → Unit → Prop} {R0_ : Ending → World → Prop} {Q1 : known_T1} (hR_ : ∀ v p K w, known_Rd m xs ys a_0 c_0 ok_ v p K → SatK Dg E_ G_ w K → R0_ (.returned v) w) (hS : SatK Dg E_ G_ w_ []) (hQ : known_H E_ G_ m xs ys a_0 c_0 R0_ Q1 ) (h : known_wp0 m xs ys a_0 c_0 Q1 ok_) : Calls Try.prog 13 #[(.int .i64 m), (.slice a_0 xs.length c_0)] w_ R0_ :=
  calls_obj Dg T_ref_ok (I := [53]) Try.func13 mix (B := bodyOf Try.f13) (by kernel_rfl) [(.int .i64 m), (.slice a_0 xs.length c_0)] [.no, .pt 0 .slice] (by kernel_rfl) (K := []) (ros := [.ro a_0 xs.length c_0 [.ints .i64 xs, .ints .u32 ys]]) (psOk_cons pOk_no (psOk_cons (pOk_at rfl rfl) (psOk_nil))) (by simp [cellsAll, psOk, pOk, cOk]) (⟨hr0, trivial⟩) hS hR_ 400
    (t := known_t0 m xs ys a_0 c_0)
    (by kernel_rfl)
    (known_pc0 m xs ys a_0 c_0 hQ h)
def known_ok_ (m : Int) (xs : List Int) (ys : List Int) (a_0 : Option Addr) (c_0 : Nat) : known_st → Unit → Prop := fun ⟨b', n', ms', fs', mr', fr', ar', cr', nr', reads', mp', fp', aq', cq', nq', qc', qv', miss', stuck'⟩ r_ => VOk false (mkK none 0 [] ⟨n', ms', fs', mr', fr', ar', cr', nr', reads', mp', fp', aq', cq', nq', qc', qv', miss', stuck'⟩) (VS.known m xs ys)
def known_I (m : Int) (xs : List Int) (ys : List Int) (a_0 : Option Addr) (c_0 : Nat) (k : Int) (bm : Nat) (fm : IM) : Prop := 0 ≤ k ∧ k ≤ xs.length ∧ fm = fsUpto xs ys k.toNat ∧ xs.length ≤ 9223372036854775807
theorem known_step (hp0 : m ≤ 1000000) (hp1 : ∀ v ∈ ys, bd32 v) (hp2 : xs.length = ys.length) (k : Int) (bm : Nat) (fm : IM) (hI : known_I m xs ys a_0 c_0 k bm fm) : known_wp1 m xs ys a_0 c_0 k bm fm (fun k' bm' fm' => known_I m xs ys a_0 c_0 k' bm' fm' ∧ ((xs.length - k').toNat) < ((xs.length - k).toNat)) (known_ok_ m xs ys a_0 c_0) := by
  unfold known_I at hI
  unfold known_wp1 known_I
  obtain ⟨h0, h1, h2, hl⟩ := hI
  refine ⟨fun h => ?_, fun h => ?_⟩
  · simp only [decide_eq_true_eq] at h
    have hs := fsUpto_succ xs ys k.toNat
    rw [w64 (by omega)]
    refine ⟨by omega, fun _ b => ⟨fun hg => ?_, fun hg => ?_⟩⟩
    · refine ⟨⟨by omega, by omega, ?_, hl⟩, by omega⟩
      rw [toNat_succ h0, hs, ← h2]
      simp only [Bool.not_eq_true'] at hg
      rw [hg]; rfl
    · refine ⟨⟨by omega, by omega, ?_, hl⟩, by omega⟩
      rw [toNat_succ h0, hs, ← h2]
      simp only [Bool.not_eq_false'] at hg
      rw [hg]; rfl
  · simp only [decide_eq_false_iff_not] at h
    intro b1 b2 b3
    have hk : k.toNat = xs.length := by omega
    rw [hk] at h2
    subst h2
    exact nil_ok rfl rfl (fun h => by cases h) (fun i _ _ => rfl) (fun v h => by cases h) (fsUpto_bd (by omega) hp1) rfl rfl rfl rfl hp0
theorem known_begin (hp0 : m ≤ 1000000) (hp1 : ∀ v ∈ ys, bd32 v) (hp2 : xs.length = ys.length) (hl0 : xs.length ≤ 9223372036854775807) : known_wp0 m xs ys a_0 c_0 (fun k bm fm => known_I m xs ys a_0 c_0 k bm fm) (known_ok_ m xs ys a_0 c_0) := by
  unfold known_wp0 known_I
  intro b
  exact ⟨by omega, by omega, rfl, hl0⟩
theorem known_fin {E_ : World} {G_ : Hp} {w_ : World} (hr0 : RowAt G_ a_0 xs.length [.ints .i64 xs, .ints .u32 ys]) (hp0 : m ≤ 1000000) (hp1 : ∀ v ∈ ys, bd32 v) (hp2 : xs.length = ys.length) {R0_ : Ending → World → Prop} (hR_ : ∀ v p K w, known_Rd m xs ys a_0 c_0 (known_ok_ m xs ys a_0 c_0) v p K → SatK Dg E_ G_ w K → R0_ (.returned v) w) (hS : SatK Dg E_ G_ w_ []) : Calls Try.prog 13 #[(.int .i64 m), (.slice a_0 xs.length c_0)] w_ R0_ :=
  known_open (ok_ := (known_ok_ m xs ys a_0 c_0)) m xs ys a_0 c_0 hr0 hR_ hS (fun k bm fm hI_ => SW.loop Dg (α := Int × Nat × IM) (fun s_ => known_L1 m xs ys a_0 c_0 s_.1 s_.2.1 s_.2.2) (fun s_ => known_K1 m xs ys a_0 c_0 s_.1 s_.2.1 s_.2.2) (fun s_ => (xs.length - s_.1).toNat) (fun s_ => known_I m xs ys a_0 c_0 s_.1 s_.2.1 s_.2.2) (fun ⟨k, bm, fm⟩ hI ih => known_go1 m xs ys a_0 c_0 k bm fm hR_ (fun k' bm' fm' h => ih (k', bm', fm') h.1 h.2) (known_step m xs ys a_0 c_0 hp0 hp1 hp2 k bm fm hI)) (k, bm, fm) hI_) (known_begin m xs ys a_0 c_0 hp0 hp1 hp2 hr0.bound )
end
end Go.Proofs.Ytdbpiopcbhmieaa
