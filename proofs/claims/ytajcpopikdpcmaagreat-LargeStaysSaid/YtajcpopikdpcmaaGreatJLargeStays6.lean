/-
  Of every heap, a block that is resized begins where it did, and has so many pages; nothing else that the heap holds changes; there and back again it is what it was: the law's function answers true for every configuration, values and numbers. Conditions: none.
-/
import Derived.Test.YtajcpopikdpcmaaGreatJLargeStays5
import Derived.ProofKit
import Derived.Lib.SmallJoins
import Derived.Deep.Slices
import Derived.OpenShut
import Derived.Test.YtajcpopikdpcmaaGreatRows
set_option linter.unusedSimpArgs false
set_option linter.unusedVariables false
namespace Go.Proofs.YtajcpopikdpcmaaGreat
open Go.Sl
theorem vals_bd (s : VS) : bdAll s.vals := by
  intro v hv
  unfold VS.vals at hv
  cases ha : s.all with
  | false => rw [ha] at hv; cases hv
  | true =>
    rw [ha, cond_true, List.mem_map] at hv
    obtain ⟨i, _, rfl⟩ := hv
    unfold VS.cur
    split
    · exact nv_bd _
    · split
      · exact nv_bd _
      · exact ⟨by decide, by decide⟩
theorem st_len (c : Cf) (xs : List Int) : (stateA c xs).1.length = (stateA c xs).2.1.length := by
  unfold stateA
  cases soundA c xs <;> simp
theorem same_self (xa xz : List Int) (u0 u1 u2 u3 u4 u5 u6 u7 : Int) : r12_Same xa xz u0 u1 u2 u3 u4 u5 u6 u7 xa xz u0 u1 u2 u3 u4 u5 u6 u7 = true := by simp [r12_Same]
theorem state_ok {c : Cf} {xs : List Int} (h : soundA c xs = true) : (stateA c xs).2.2.2.2.2.2.2.2.2.2 = true := by unfold stateA; rw [h]; rfl
theorem st_eta {x : StT} (h : x.2.2.2.2.2.2.2.2.2.2 = true) : (x.1, x.2.1, x.2.2.1, x.2.2.2.1, x.2.2.2.2.1, x.2.2.2.2.2.1, x.2.2.2.2.2.2.1, x.2.2.2.2.2.2.2.1, x.2.2.2.2.2.2.2.2.1, x.2.2.2.2.2.2.2.2.2.1, true) = x := by rw [← h]
theorem sound_state (c : Cf) (xs : List Int) : (stateA c xs).2.2.2.2.2.2.2.2.2.2 = soundA c xs := by
  unfold stateA
  cases soundA c xs <;> rfl
theorem st_few {c : Cf} (xs : List Int) (h : c.p ≤ 64) : (stateA c xs).1.length ≤ 40000 := by
  unfold stateA
  cases soundA c xs with
  | false => exact Nat.zero_le _
  | true =>
    have := blocksL_len c xs
    simp only [cond_true, List.length_map]; omega
theorem pg_w {sh : Int} (h : 10 ≤ sh ∧ sh ≤ 20) : IntKind.i64.wrap (1 * 2 ^ min (IntKind.u64.wrap sh).toNat 64) = pgB sh := by
  have h2 := (szB_ok h (k := 0) (by omega)).2.2.2.2
  have e1 : IntKind.u64.wrap sh = sh := by rw [IntKind.wrap_u64]; omega
  have e2 : min sh.toNat 64 = sh.toNat := by omega
  rw [e1, e2, Int.one_mul]
  show IntKind.i64.wrap (pgB sh) = _
  exact w64 (by omega)
theorem vals_long {c : Cf} {s : VS} (h : soundA c s.vals = true) : 30 ≤ (s.vals.length : Int) := (good_long (sound_good h (vals_bd s))).1
theorem insA_mem {b x : Int} : ∀ {l : List Int}, x ∈ l → x ∈ insA b l
  | y :: l, h => by
    unfold insA
    cases decide (y > b) with
    | true => simp only [cond_true, List.mem_cons]; exact .inr (List.mem_cons.1 h)
    | false =>
      simp only [cond_false, List.mem_cons]
      rcases List.mem_cons.1 h with h | h
      · exact .inl h
      · exact .inr (insA_mem h)
def l19_live : Bool := true
abbrev c_l19_live : Ct Sg := ⟨none, false, [], .b⟩
def e_l19_live : Entry Sg := entC c_l19_live l19_live ([])
def l19_live_w (R_ : Bool → Prop) : Prop := (∀ r0 : Int × Int × Int × List Int, r0 = (l14_Eight) → (∀ r3 : VS, r3 = (VS.whole (Prod.snd (Prod.snd (Prod.snd r0)))) → ((List.length (Prod.snd (Prod.snd (Prod.snd r0))) ≤ (1000000 : Nat)) ∧ ((List.length (Prod.snd (Prod.snd (Prod.snd r0))) ≤ (1000000 : Nat)) → ((∀ (v : Int), v ∈ Cm.liOf (hdC (List.drop (Sh.nC (σ := Sg) (Sh.agg [Sh.i IntKind.i64, Sh.i IntKind.i64, Sh.i IntKind.i64])) (restC (Ct.rob c_l14_Eight) (toCm (Ct.RK c_l14_Eight) r0)))) → bd32 v) ∧ ((∀ (v : Int), v ∈ Cm.liOf (hdC (List.drop (Sh.nC (σ := Sg) (Sh.agg [Sh.i IntKind.i64, Sh.i IntKind.i64, Sh.i IntKind.i64])) (restC (Ct.rob c_l14_Eight) (toCm (Ct.RK c_l14_Eight) r0)))) → bd32 v) → (∀ r7 : VS × Int × Bool, r7 = (large_Alloc r3 (Prod.fst r0) (Prod.fst (Prod.snd r0)) (Prod.fst (Prod.snd (Prod.snd r0))) (3 : Int)) → ((Prod.fst (Prod.snd r0) ≤ (1024 : Int)) ∧ ((Prod.fst (Prod.snd r0) ≤ (1024 : Int)) → (((Prod.snd (Prod.snd r7) && Prod.fst (Prod.snd r7) == (0 : Int)) = true → (∀ r10 : VS × Bool, r10 = (large_Resize (Prod.fst r7) (Prod.fst r0) (Prod.fst (Prod.snd r0)) (Prod.fst (Prod.snd (Prod.snd r0))) (0 : Int) (5 : Int)) → ((Prod.fst (Prod.snd r0) ≤ (1024 : Int)) ∧ ((Prod.fst (Prod.snd r0) ≤ (1024 : Int)) → (((0 : Int) ≤ (0 : Int)) ∧ (((0 : Int) ≤ (0 : Int)) → (((0 : Int) ≤ Prod.fst (Prod.snd r0)) ∧ (((0 : Int) ≤ Prod.fst (Prod.snd r0)) → (((1 : Int) ≤ If.l (iGet (VS.get (Prod.fst r7) (Cf.info { t := Prod.fst r0, p := Prod.fst (Prod.snd r0), s := Prod.fst (Prod.snd (Prod.snd r0)) } (0 : Int)))) ∧ If.l (iGet (VS.get (Prod.fst r7) (Cf.info { t := Prod.fst r0, p := Prod.fst (Prod.snd r0), s := Prod.fst (Prod.snd (Prod.snd r0)) } (0 : Int)))) ≤ Prod.fst (Prod.snd r0)) ∧ (((1 : Int) ≤ If.l (iGet (VS.get (Prod.fst r7) (Cf.info { t := Prod.fst r0, p := Prod.fst (Prod.snd r0), s := Prod.fst (Prod.snd (Prod.snd r0)) } (0 : Int)))) ∧ If.l (iGet (VS.get (Prod.fst r7) (Cf.info { t := Prod.fst r0, p := Prod.fst (Prod.snd r0), s := Prod.fst (Prod.snd (Prod.snd r0)) } (0 : Int)))) ≤ Prod.fst (Prod.snd r0)) → (((Prod.snd r10) = true → (∀ r16 : VS × Bool, r16 = (large_Resize (Prod.fst r10) (Prod.fst r0) (Prod.fst (Prod.snd r0)) (Prod.fst (Prod.snd (Prod.snd r0))) (0 : Int) (9 : Int)) → ((Prod.fst (Prod.snd r0) ≤ (1024 : Int)) ∧ ((Prod.fst (Prod.snd r0) ≤ (1024 : Int)) → (((0 : Int) ≤ (0 : Int)) ∧ (((0 : Int) ≤ (0 : Int)) → (((0 : Int) ≤ Prod.fst (Prod.snd r0)) ∧ (((0 : Int) ≤ Prod.fst (Prod.snd r0)) → (((1 : Int) ≤ If.l (iGet (VS.get (Prod.fst r10) (Cf.info { t := Prod.fst r0, p := Prod.fst (Prod.snd r0), s := Prod.fst (Prod.snd (Prod.snd r0)) } (0 : Int)))) ∧ If.l (iGet (VS.get (Prod.fst r10) (Cf.info { t := Prod.fst r0, p := Prod.fst (Prod.snd r0), s := Prod.fst (Prod.snd (Prod.snd r0)) } (0 : Int)))) ≤ Prod.fst (Prod.snd r0)) ∧ (((1 : Int) ≤ If.l (iGet (VS.get (Prod.fst r10) (Cf.info { t := Prod.fst r0, p := Prod.fst (Prod.snd r0), s := Prod.fst (Prod.snd (Prod.snd r0)) } (0 : Int)))) ∧ If.l (iGet (VS.get (Prod.fst r10) (Cf.info { t := Prod.fst r0, p := Prod.fst (Prod.snd r0), s := Prod.fst (Prod.snd (Prod.snd r0)) } (0 : Int)))) ≤ Prod.fst (Prod.snd r0)) → (((!Prod.snd r16) = true → (∀ r22 : VS × Int, r22 = ((VS.read (Prod.fst r16) (0 : Int), VS.get (Prod.fst r16) (0 : Int))) → (((Prod.snd r22 == (3 : Int)) = true → (∀ r24 : VS × Int, r24 = ((VS.read (Prod.fst r22) (1 : Int), VS.get (Prod.fst r22) (1 : Int))) → (R_ (Prod.snd r24 == (1 : Int))))) ∧ ((Prod.snd r22 == (3 : Int)) = false → (R_ (false)))))) ∧ ((!Prod.snd r16) = false → (R_ (false)))))))))))))) ∧ ((Prod.snd r10) = false → (R_ (false)))))))))))))) ∧ ((Prod.snd (Prod.snd r7) && Prod.fst (Prod.snd r7) == (0 : Int)) = false → (R_ (false)))))))))))))
theorem l19_live_begin : l19_live_w   (fun r__ => r__ = l19_live) := by
  unfold l19_live_w
  have h1 : l14_Eight.2.2.2.length ≤ 1000000 := by decide +kernel
  have h2 : ∀ v ∈ l14_Eight.2.2.2, bd32 v := by unfold bd32; decide +kernel
  have h3 : l14_Eight.2.1 ≤ 1024 := by decide +kernel
  have h4 : (0 : Int) ≤ l14_Eight.2.1 := by decide +kernel
  rintro r0 rfl
  repeat' first
    | (refine fun r hr => ?_; subst hr)
    | refine ⟨h1, fun _ => ?_⟩
    | refine ⟨h2, fun _ => ?_⟩
    | refine ⟨h3, fun _ => ?_⟩
    | refine ⟨h4, fun _ => ?_⟩
    | refine ⟨Int.le_refl 0, fun _ => ?_⟩
    | refine ⟨vals_bd _, fun _ => ?_⟩
    | refine ⟨fun hd => ?_, fun hd => ?_⟩
    | refine ⟨(by decide +kernel), fun _ => ?_⟩
    | fail
  all_goals first
    | (dsimp only; unfold l19_live; decide +kernel)
    | (exfalso; revert hd; decide +kernel)
    | (trace_state; fail)
theorem l19_live_ok : EntryOk Dg Tryz.prog 31 e_l19_live :=
  ent_wp Dg T_large_Resize_ok (I := [2999998]) Tryz.func31 mix (B := bodyOf Tryz.f31) (by kernel_rfl) rfl (by kernel_rfl) 400
    fun p0  hb hp => ⟨[], fun j => List.getD [] j (fun _ => False), fun j => List.getD [] j (fun _ => (0, 0, 0)), by kernel_rfl, ⟨l19_live_w   (fun r__ => r__ = l19_live), fun _ _ _ => by kernel_rfl, l19_live_begin  ⟩, trivial⟩
def T_l19_live : List (Nat × Entry Sg) := (31, e_l19_live) :: T_large_Resize
theorem T_l19_live_ok : TableOk Dg Tryz.prog T_l19_live := TableOk.cons Dg l19_live_ok T_large_Resize_ok
def l19_used (t : Int) (p : Int) (sh : Int) (xs : List Int) (g : Int) : Int := bif Cf.page ⟨t, p, sh⟩ g && (aInfo ⟨t, p, sh⟩ xs g).k == 2 then (aInfo ⟨t, p, sh⟩ xs g).l else 0
abbrev c_l19_used : Ct Sg := ⟨none, false, [.agg [.i .i64, .i .i64, .i .i64], .ro [some .u32], .i .i64], .i .i64⟩
def e_l19_used : Entry Sg := entC c_l19_used l19_used (fun t p sh xs g => [AGood ⟨t, p, sh⟩ xs])
def l19_used_w (t : Int) (p : Int) (sh : Int) (xs : List Int) (g : Int) (R_ : Int → Prop) : Prop := (((decide (g < (0 : Int)) || decide (g ≥ p)) = true → (R_ ((0 : Int)))) ∧ ((decide (g < (0 : Int)) || decide (g ≥ p)) = false → (∀ r3 : Int × Int × Int, r3 = (x_Info t p sh xs g) → ((AGood { t := t, p := p, s := sh } xs) ∧ ((AGood { t := t, p := p, s := sh } xs) → (((0 : Int) ≤ g ∧ g < p) ∧ (((0 : Int) ≤ g ∧ g < p) → (((Prod.fst r3 != (2 : Int)) = true → (R_ ((0 : Int)))) ∧ ((Prod.fst r3 != (2 : Int)) = false → (R_ (Prod.fst (Prod.snd r3))))))))))))
theorem l19_used_begin (t : Int) (p : Int) (sh : Int) (xs : List Int) (g : Int) (hp0 : AGood ⟨t, p, sh⟩ xs) (hl0 : xs.length ≤ 9223372036854775807) : l19_used_w t p sh xs g  (fun r__ => r__ = (l19_used t p sh xs g)) := by
  unfold l19_used_w
  refine ⟨fun hc => ?_, fun hc => ?_⟩
  · rw [page_ne t p sh g] at hc
    show _ = l19_used t p sh xs g
    rw [l19_used, (Bool.not_eq_true' _).mp hc]; rfl
  · rintro r rfl
    rw [page_ne t p sh g] at hc
    have hpg := (Bool.not_eq_false' _).mp hc
    have hg : 0 ≤ g ∧ g < p := by
      simp only [Cf.page, Bool.and_eq_true, decide_eq_true_eq] at hpg; exact hpg
    refine ⟨hp0, fun _ => ⟨hg, fun _ => ⟨fun hk => ?_, fun hk => ?_⟩⟩⟩
    · have hk' : ((aInfo ⟨t, p, sh⟩ xs g).k != 2) = true := hk
      show (0 : Int) = l19_used t p sh xs g
      rw [l19_used, hpg, Bool.true_and, (Bool.not_eq_true' _).mp hk']; rfl
    · have hk' : ((aInfo ⟨t, p, sh⟩ xs g).k != 2) = false := hk
      show _ = l19_used t p sh xs g
      rw [l19_used, hpg, Bool.true_and, (Bool.not_eq_false' _).mp hk']; rfl
theorem l19_used_ok : EntryOk Dg Tryz.prog 32 e_l19_used :=
  ent_wp Dg T_l19_live_ok (I := [2999998]) Tryz.func32 mix (B := bodyOf Tryz.f32) (by kernel_rfl) rfl (by kernel_rfl) 400
    fun p0 t p sh xs g hb hp => have hl0 : xs.length ≤ 9223372036854775807 := hb.2.1; have hp0 : AGood ⟨t, p, sh⟩ xs := hp _ (.head _); ⟨[], fun j => List.getD [] j (fun _ => False), fun j => List.getD [] j (fun _ => (0, 0, 0)), by kernel_rfl, ⟨l19_used_w t p sh xs g  (fun r__ => r__ = (l19_used t p sh xs g)), fun _ _ _ => by kernel_rfl, l19_used_begin t p sh xs g hp0 hl0 ⟩, trivial⟩
def T_l19_used : List (Nat × Entry Sg) := (32, e_l19_used) :: T_l19_live
theorem T_l19_used_ok : TableOk Dg Tryz.prog T_l19_used := TableOk.cons Dg l19_used_ok T_l19_live_ok
end Go.Proofs.YtajcpopikdpcmaaGreat
namespace Go.Proofs.YtajcpopikdpcmaaGreat
open Go.Sl
def LargeStays (t : Int) (p : Int) (sh : Int) (xs : List Int) (x0 : Int) (x1 : Int) : Bool := true
abbrev c_LargeStays : Ct Sg := ⟨none, false, [.agg [.i .i64, .i .i64, .i .i64], .ro [some .u32], .agg [.i .i64, .i .i64]], .b⟩
def e_LargeStays : Entry Sg := entC c_LargeStays LargeStays (fun t p sh xs x0 x1 => [bdAll xs, x0 ≤ 9223372036854775807, x1 ≤ 9223372036854775807])
def LargeStays_w (t : Int) (p : Int) (sh : Int) (xs : List Int) (x0 : Int) (x1 : Int) (Q0 : Int → Nat → List Int → List Int → Int → Int → Int → Int → Int → Int → Int → Int → VS → Prop) (Q1 : Int → Int → Nat → List Int → List Int → Int → Int → Int → Int → Int → Int → Int → Int → VS → Int → Nat → List Int → List Int → Int → Int → Int → Int → Int → Int → Int → Int → Prop) (R_ : Bool → Prop) : Prop := (∀ r2 : Bool, r2 = (r12_Few t p sh) → (((!r2) = false → bdAll xs) ∧ (((!r2) = false → bdAll xs) → (((!r2 || !r12_Sound t p sh xs) = true → (∀ r5 : Bool, r5 = (true) → (R_ (r5)))) ∧ ((!r2 || !r12_Sound t p sh xs) = false → (∀ r5 : Int, r5 = (l19_used t p sh xs x0) → ((AGood { t := t, p := p, s := sh } xs) ∧ ((AGood { t := t, p := p, s := sh } xs) → (((r5 == (0 : Int)) = true → (∀ r8 : Bool, r8 = (true) → (R_ (r8)))) ∧ ((r5 == (0 : Int)) = false → (∀ r8 : List Int × List Int × Int × Int × Int × Int × Int × Int × Int × Int × Bool, r8 = (r12_State t p sh xs) → ((bdAll xs) ∧ ((bdAll xs) → (∀ r12 : VS, r12 = (VS.whole xs) → ((List.length xs ≤ (1000000 : Nat)) ∧ ((List.length xs ≤ (1000000 : Nat)) → ((∀ (v : Int), v ∈ xs → bd32 v) ∧ ((∀ (v : Int), v ∈ xs → bd32 v) → (∀ r16 : VS × Bool, r16 = (large_Resize r12 t p sh x0 x1) → ((p ≤ (1024 : Int)) ∧ ((p ≤ (1024 : Int)) → (((0 : Int) ≤ x0) ∧ (((0 : Int) ≤ x0) → ((x0 ≤ p) ∧ ((x0 ≤ p) → (((1 : Int) ≤ If.l (iGet (VS.get r12 (Cf.info { t := t, p := p, s := sh } x0))) ∧ If.l (iGet (VS.get r12 (Cf.info { t := t, p := p, s := sh } x0))) ≤ p) ∧ (((1 : Int) ≤ If.l (iGet (VS.get r12 (Cf.info { t := t, p := p, s := sh } x0))) ∧ If.l (iGet (VS.get r12 (Cf.info { t := t, p := p, s := sh } x0))) ≤ p) → (((!Prod.snd r16) = true → (∀ r22 : List Int × List Int, r22 = ((VS.wrote (Prod.fst r16), VS.puts (Prod.fst r16))) → (R_ ((↑(List.length (Prod.fst r22)) : Int) == (0 : Int) && (decide (x1 < (1 : Int)) || decide (x1 > r5)) && true)))) ∧ ((!Prod.snd r16) = false → (Q0 (r5) (List.length (Prod.fst r8)) (Prod.fst r8) (Prod.fst (Prod.snd r8)) (Prod.fst (Prod.snd (Prod.snd r8))) (Prod.fst (Prod.snd (Prod.snd (Prod.snd r8)))) (Prod.fst (Prod.snd (Prod.snd (Prod.snd (Prod.snd r8))))) (Prod.fst (Prod.snd (Prod.snd (Prod.snd (Prod.snd (Prod.snd r8)))))) (Prod.fst (Prod.snd (Prod.snd (Prod.snd (Prod.snd (Prod.snd (Prod.snd r8))))))) (Prod.fst (Prod.snd (Prod.snd (Prod.snd (Prod.snd (Prod.snd (Prod.snd (Prod.snd r8)))))))) (Prod.fst (Prod.snd (Prod.snd (Prod.snd (Prod.snd (Prod.snd (Prod.snd (Prod.snd (Prod.snd r8))))))))) (Prod.fst (Prod.snd (Prod.snd (Prod.snd (Prod.snd (Prod.snd (Prod.snd (Prod.snd (Prod.snd (Prod.snd r8)))))))))) (Prod.fst r16)))))))))))))))))))))))))))))))
def LargeStays_w0 (t : Int) (p : Int) (sh : Int) (xs : List Int) (x0 : Int) (x1 : Int) (n : Int) (nw : Nat) (wa : List Int) (wz : List Int) (w0 : Int) (w1 : Int) (w2 : Int) (w3 : Int) (w4 : Int) (w5 : Int) (w6 : Int) (w7 : Int) (sv : VS) (Q0 : Int → Nat → List Int → List Int → Int → Int → Int → Int → Int → Int → Int → Int → VS → Prop) (Q1 : Int → Int → Nat → List Int → List Int → Int → Int → Int → Int → Int → Int → Int → Int → VS → Int → Nat → List Int → List Int → Int → Int → Int → Int → Int → Int → Int → Int → Prop) (R_ : Bool → Prop) : Prop := (((0 : Int) ≤ IntKind.wrap IntKind.u64 sh) ∧ (((0 : Int) ≤ IntKind.wrap IntKind.u64 sh) → ((∀ r1 : List Int, r1 = (VS.vals sv) → ((∀ r3 : List Int × List Int × Int × Int × Int × Int × Int × Int × Int × Int × Bool, r3 = (r12_State t p sh r1) → ((bdAll r1) ∧ ((bdAll r1) → (((!Prod.snd (Prod.snd (Prod.snd (Prod.snd (Prod.snd (Prod.snd (Prod.snd (Prod.snd (Prod.snd (Prod.snd r3))))))))) || (↑(List.length (Prod.fst r3)) : Int) != (↑nw : Int) || !(Prod.fst (Prod.snd (Prod.snd r3)) == w0 && (Prod.fst (Prod.snd (Prod.snd (Prod.snd r3))) == w1 && (Prod.fst (Prod.snd (Prod.snd (Prod.snd (Prod.snd r3)))) == w2 && (Prod.fst (Prod.snd (Prod.snd (Prod.snd (Prod.snd (Prod.snd r3))))) == w3 && (Prod.fst (Prod.snd (Prod.snd (Prod.snd (Prod.snd (Prod.snd (Prod.snd r3)))))) == w4 && (Prod.fst (Prod.snd (Prod.snd (Prod.snd (Prod.snd (Prod.snd (Prod.snd (Prod.snd r3))))))) == w5 && (Prod.fst (Prod.snd (Prod.snd (Prod.snd (Prod.snd (Prod.snd (Prod.snd (Prod.snd (Prod.snd r3)))))))) == w6 && (Prod.fst (Prod.snd (Prod.snd (Prod.snd (Prod.snd (Prod.snd (Prod.snd (Prod.snd (Prod.snd (Prod.snd r3))))))))) == w7 && true))))))))) = true → (R_ (false))) ∧ ((!Prod.snd (Prod.snd (Prod.snd (Prod.snd (Prod.snd (Prod.snd (Prod.snd (Prod.snd (Prod.snd (Prod.snd r3))))))))) || (↑(List.length (Prod.fst r3)) : Int) != (↑nw : Int) || !(Prod.fst (Prod.snd (Prod.snd r3)) == w0 && (Prod.fst (Prod.snd (Prod.snd (Prod.snd r3))) == w1 && (Prod.fst (Prod.snd (Prod.snd (Prod.snd (Prod.snd r3)))) == w2 && (Prod.fst (Prod.snd (Prod.snd (Prod.snd (Prod.snd (Prod.snd r3))))) == w3 && (Prod.fst (Prod.snd (Prod.snd (Prod.snd (Prod.snd (Prod.snd (Prod.snd r3)))))) == w4 && (Prod.fst (Prod.snd (Prod.snd (Prod.snd (Prod.snd (Prod.snd (Prod.snd (Prod.snd r3))))))) == w5 && (Prod.fst (Prod.snd (Prod.snd (Prod.snd (Prod.snd (Prod.snd (Prod.snd (Prod.snd (Prod.snd r3)))))))) == w6 && (Prod.fst (Prod.snd (Prod.snd (Prod.snd (Prod.snd (Prod.snd (Prod.snd (Prod.snd (Prod.snd (Prod.snd r3))))))))) == w7 && true))))))))) = false → (Q1 ((0 : Int)) (n) (nw) (wa) (wz) (w0) (w1) (w2) (w3) (w4) (w5) (w6) (w7) (sv) (IntKind.wrap IntKind.i64 ((1 : Int) * (2 : Int) ^ min (Int.toNat (IntKind.wrap IntKind.u64 sh)) (64 : Nat))) (List.length (Prod.fst r3)) (Prod.fst r3) (Prod.fst (Prod.snd r3)) (Prod.fst (Prod.snd (Prod.snd r3))) (Prod.fst (Prod.snd (Prod.snd (Prod.snd r3)))) (Prod.fst (Prod.snd (Prod.snd (Prod.snd (Prod.snd r3))))) (Prod.fst (Prod.snd (Prod.snd (Prod.snd (Prod.snd (Prod.snd r3)))))) (Prod.fst (Prod.snd (Prod.snd (Prod.snd (Prod.snd (Prod.snd (Prod.snd r3))))))) (Prod.fst (Prod.snd (Prod.snd (Prod.snd (Prod.snd (Prod.snd (Prod.snd (Prod.snd r3)))))))) (Prod.fst (Prod.snd (Prod.snd (Prod.snd (Prod.snd (Prod.snd (Prod.snd (Prod.snd (Prod.snd r3))))))))) (Prod.fst (Prod.snd (Prod.snd (Prod.snd (Prod.snd (Prod.snd (Prod.snd (Prod.snd (Prod.snd (Prod.snd r3)))))))))))))))) ∧ (∀ r4 : List Int × List Int × Int × Int × Int × Int × Int × Int × Int × Int × Bool, r4 = (r12_State t p sh r1) → ((bdAll r1) ∧ ((bdAll r1) → (((!Prod.snd (Prod.snd (Prod.snd (Prod.snd (Prod.snd (Prod.snd (Prod.snd (Prod.snd (Prod.snd (Prod.snd r4))))))))) || (↑(List.length (Prod.fst r4)) : Int) != (↑nw : Int) || !(Prod.fst (Prod.snd (Prod.snd r4)) == w0 && (Prod.fst (Prod.snd (Prod.snd (Prod.snd r4))) == w1 && (Prod.fst (Prod.snd (Prod.snd (Prod.snd (Prod.snd r4)))) == w2 && (Prod.fst (Prod.snd (Prod.snd (Prod.snd (Prod.snd (Prod.snd r4))))) == w3 && (Prod.fst (Prod.snd (Prod.snd (Prod.snd (Prod.snd (Prod.snd (Prod.snd r4)))))) == w4 && (Prod.fst (Prod.snd (Prod.snd (Prod.snd (Prod.snd (Prod.snd (Prod.snd (Prod.snd r4))))))) == w5 && (Prod.fst (Prod.snd (Prod.snd (Prod.snd (Prod.snd (Prod.snd (Prod.snd (Prod.snd (Prod.snd r4)))))))) == w6 && (Prod.fst (Prod.snd (Prod.snd (Prod.snd (Prod.snd (Prod.snd (Prod.snd (Prod.snd (Prod.snd (Prod.snd r4))))))))) == w7 && true))))))))) = true → (R_ (false))) ∧ ((!Prod.snd (Prod.snd (Prod.snd (Prod.snd (Prod.snd (Prod.snd (Prod.snd (Prod.snd (Prod.snd (Prod.snd r4))))))))) || (↑(List.length (Prod.fst r4)) : Int) != (↑nw : Int) || !(Prod.fst (Prod.snd (Prod.snd r4)) == w0 && (Prod.fst (Prod.snd (Prod.snd (Prod.snd r4))) == w1 && (Prod.fst (Prod.snd (Prod.snd (Prod.snd (Prod.snd r4)))) == w2 && (Prod.fst (Prod.snd (Prod.snd (Prod.snd (Prod.snd (Prod.snd r4))))) == w3 && (Prod.fst (Prod.snd (Prod.snd (Prod.snd (Prod.snd (Prod.snd (Prod.snd r4)))))) == w4 && (Prod.fst (Prod.snd (Prod.snd (Prod.snd (Prod.snd (Prod.snd (Prod.snd (Prod.snd r4))))))) == w5 && (Prod.fst (Prod.snd (Prod.snd (Prod.snd (Prod.snd (Prod.snd (Prod.snd (Prod.snd (Prod.snd r4)))))))) == w6 && (Prod.fst (Prod.snd (Prod.snd (Prod.snd (Prod.snd (Prod.snd (Prod.snd (Prod.snd (Prod.snd (Prod.snd r4))))))))) == w7 && true))))))))) = false → (Q1 ((0 : Int)) (n) (nw) (wa) (wz) (w0) (w1) (w2) (w3) (w4) (w5) (w6) (w7) (sv) (IntKind.wrap IntKind.i64 ((1 : Int) * (2 : Int) ^ min (Int.toNat (IntKind.wrap IntKind.u64 sh)) (64 : Nat))) (List.length (Prod.fst r4)) (Prod.fst r4) (Prod.fst (Prod.snd r4)) (Prod.fst (Prod.snd (Prod.snd r4))) (Prod.fst (Prod.snd (Prod.snd (Prod.snd r4)))) (Prod.fst (Prod.snd (Prod.snd (Prod.snd (Prod.snd r4))))) (Prod.fst (Prod.snd (Prod.snd (Prod.snd (Prod.snd (Prod.snd r4)))))) (Prod.fst (Prod.snd (Prod.snd (Prod.snd (Prod.snd (Prod.snd (Prod.snd r4))))))) (Prod.fst (Prod.snd (Prod.snd (Prod.snd (Prod.snd (Prod.snd (Prod.snd (Prod.snd r4)))))))) (Prod.fst (Prod.snd (Prod.snd (Prod.snd (Prod.snd (Prod.snd (Prod.snd (Prod.snd (Prod.snd r4))))))))) (Prod.fst (Prod.snd (Prod.snd (Prod.snd (Prod.snd (Prod.snd (Prod.snd (Prod.snd (Prod.snd (Prod.snd r4)))))))))))))))))) ∧ (∀ r2 : List Int, r2 = (VS.vals sv) → (∀ r4 : List Int × List Int × Int × Int × Int × Int × Int × Int × Int × Int × Bool, r4 = (r12_State t p sh r2) → ((bdAll r2) ∧ ((bdAll r2) → (((!Prod.snd (Prod.snd (Prod.snd (Prod.snd (Prod.snd (Prod.snd (Prod.snd (Prod.snd (Prod.snd (Prod.snd r4))))))))) || (↑(List.length (Prod.fst r4)) : Int) != (↑nw : Int) || !(Prod.fst (Prod.snd (Prod.snd r4)) == w0 && (Prod.fst (Prod.snd (Prod.snd (Prod.snd r4))) == w1 && (Prod.fst (Prod.snd (Prod.snd (Prod.snd (Prod.snd r4)))) == w2 && (Prod.fst (Prod.snd (Prod.snd (Prod.snd (Prod.snd (Prod.snd r4))))) == w3 && (Prod.fst (Prod.snd (Prod.snd (Prod.snd (Prod.snd (Prod.snd (Prod.snd r4)))))) == w4 && (Prod.fst (Prod.snd (Prod.snd (Prod.snd (Prod.snd (Prod.snd (Prod.snd (Prod.snd r4))))))) == w5 && (Prod.fst (Prod.snd (Prod.snd (Prod.snd (Prod.snd (Prod.snd (Prod.snd (Prod.snd (Prod.snd r4)))))))) == w6 && (Prod.fst (Prod.snd (Prod.snd (Prod.snd (Prod.snd (Prod.snd (Prod.snd (Prod.snd (Prod.snd (Prod.snd r4))))))))) == w7 && true))))))))) = true → (R_ (false))) ∧ ((!Prod.snd (Prod.snd (Prod.snd (Prod.snd (Prod.snd (Prod.snd (Prod.snd (Prod.snd (Prod.snd (Prod.snd r4))))))))) || (↑(List.length (Prod.fst r4)) : Int) != (↑nw : Int) || !(Prod.fst (Prod.snd (Prod.snd r4)) == w0 && (Prod.fst (Prod.snd (Prod.snd (Prod.snd r4))) == w1 && (Prod.fst (Prod.snd (Prod.snd (Prod.snd (Prod.snd r4)))) == w2 && (Prod.fst (Prod.snd (Prod.snd (Prod.snd (Prod.snd (Prod.snd r4))))) == w3 && (Prod.fst (Prod.snd (Prod.snd (Prod.snd (Prod.snd (Prod.snd (Prod.snd r4)))))) == w4 && (Prod.fst (Prod.snd (Prod.snd (Prod.snd (Prod.snd (Prod.snd (Prod.snd (Prod.snd r4))))))) == w5 && (Prod.fst (Prod.snd (Prod.snd (Prod.snd (Prod.snd (Prod.snd (Prod.snd (Prod.snd (Prod.snd r4)))))))) == w6 && (Prod.fst (Prod.snd (Prod.snd (Prod.snd (Prod.snd (Prod.snd (Prod.snd (Prod.snd (Prod.snd (Prod.snd r4))))))))) == w7 && true))))))))) = false → (Q1 ((0 : Int)) (n) (nw) (wa) (wz) (w0) (w1) (w2) (w3) (w4) (w5) (w6) (w7) (sv) (IntKind.wrap IntKind.i64 ((1 : Int) * (2 : Int) ^ min (Int.toNat (IntKind.wrap IntKind.u64 sh)) (64 : Nat))) (List.length (Prod.fst r4)) (Prod.fst r4) (Prod.fst (Prod.snd r4)) (Prod.fst (Prod.snd (Prod.snd r4))) (Prod.fst (Prod.snd (Prod.snd (Prod.snd r4)))) (Prod.fst (Prod.snd (Prod.snd (Prod.snd (Prod.snd r4))))) (Prod.fst (Prod.snd (Prod.snd (Prod.snd (Prod.snd (Prod.snd r4)))))) (Prod.fst (Prod.snd (Prod.snd (Prod.snd (Prod.snd (Prod.snd (Prod.snd r4))))))) (Prod.fst (Prod.snd (Prod.snd (Prod.snd (Prod.snd (Prod.snd (Prod.snd (Prod.snd r4)))))))) (Prod.fst (Prod.snd (Prod.snd (Prod.snd (Prod.snd (Prod.snd (Prod.snd (Prod.snd (Prod.snd r4))))))))) (Prod.fst (Prod.snd (Prod.snd (Prod.snd (Prod.snd (Prod.snd (Prod.snd (Prod.snd (Prod.snd (Prod.snd r4))))))))))))))))))))
def LargeStays_I0 (t : Int) (p : Int) (sh : Int) (xs : List Int) (x0 : Int) (x1 : Int) (n : Int) (nw : Nat) (wa : List Int) (wz : List Int) (w0 : Int) (w1 : Int) (w2 : Int) (w3 : Int) (w4 : Int) (w5 : Int) (w6 : Int) (w7 : Int) (sv : VS) (r_ : Bool) : Prop := p ≤ 64 ∧ soundA ⟨t, p, sh⟩ xs = true ∧ (0 ≤ x0 ∧ x0 < p) ∧ (aInfo ⟨t, p, sh⟩ xs x0).k = 2 ∧ n = (aInfo ⟨t, p, sh⟩ xs x0).l ∧ ((qLResize ⟨t, p, sh⟩ x0 x1).run (VS.whole xs)).2 = true ∧ (wa, wz, w0, w1, w2, w3, w4, w5, w6, w7, true) = stateA ⟨t, p, sh⟩ xs ∧ nw = wa.length ∧ sv = ((qLResize ⟨t, p, sh⟩ x0 x1).run (VS.whole xs)).1 ∧ r_ = true
def LargeStays_w1 (t : Int) (p : Int) (sh : Int) (xs : List Int) (x0 : Int) (x1 : Int) (i : Int) (n : Int) (nw : Nat) (wa : List Int) (wz : List Int) (w0 : Int) (w1 : Int) (w2 : Int) (w3 : Int) (w4 : Int) (w5 : Int) (w6 : Int) (w7 : Int) (sv : VS) (pg : Int) (nv_ : Nat) (va : List Int) (vz : List Int) (v0 : Int) (v1 : Int) (v2 : Int) (v3 : Int) (v4 : Int) (v5 : Int) (v6 : Int) (v7 : Int) (Q0 : Int → Nat → List Int → List Int → Int → Int → Int → Int → Int → Int → Int → Int → VS → Prop) (Q1 : Int → Int → Nat → List Int → List Int → Int → Int → Int → Int → Int → Int → Int → Int → VS → Int → Nat → List Int → List Int → Int → Int → Int → Int → Int → Int → Int → Int → Prop) (R_ : Bool → Prop) : Prop := (((decide (i < (↑nv_ : Int))) = true → (((0 : Int) ≤ i ∧ i < (↑nw : Int)) ∧ (((0 : Int) ≤ i ∧ i < (↑nw : Int)) → (((List.getD wa (Int.toNat i) (0 : Int) == IntKind.wrap IntKind.i64 (IntKind.wrap IntKind.i64 (x0 + (1 : Int)) * pg)) = true → (((0 : Int) ≤ i ∧ i < (↑nv_ : Int)) ∧ (((0 : Int) ≤ i ∧ i < (↑nv_ : Int)) → (((!(List.getD va (Int.toNat i) (0 : Int) == List.getD wa (Int.toNat i) (0 : Int) && (List.getD vz (Int.toNat i) (0 : Int) == IntKind.wrap IntKind.i64 (x1 * pg) && true))) = true → (R_ (false))) ∧ ((!(List.getD va (Int.toNat i) (0 : Int) == List.getD wa (Int.toNat i) (0 : Int) && (List.getD vz (Int.toNat i) (0 : Int) == IntKind.wrap IntKind.i64 (x1 * pg) && true))) = false → (Q1 (IntKind.wrap IntKind.i64 (i + (1 : Int))) (n) (nw) (wa) (wz) (w0) (w1) (w2) (w3) (w4) (w5) (w6) (w7) (sv) (pg) (nv_) (va) (vz) (v0) (v1) (v2) (v3) (v4) (v5) (v6) (v7))))))) ∧ ((List.getD wa (Int.toNat i) (0 : Int) == IntKind.wrap IntKind.i64 (IntKind.wrap IntKind.i64 (x0 + (1 : Int)) * pg)) = false → (((0 : Int) ≤ i ∧ i < (↑nv_ : Int)) ∧ (((0 : Int) ≤ i ∧ i < (↑nv_ : Int)) → (((!(List.getD va (Int.toNat i) (0 : Int) == List.getD wa (Int.toNat i) (0 : Int) && (List.getD vz (Int.toNat i) (0 : Int) == List.getD wz (Int.toNat i) (0 : Int) && true))) = true → (R_ (false))) ∧ ((!(List.getD va (Int.toNat i) (0 : Int) == List.getD wa (Int.toNat i) (0 : Int) && (List.getD vz (Int.toNat i) (0 : Int) == List.getD wz (Int.toNat i) (0 : Int) && true))) = false → (Q1 (IntKind.wrap IntKind.i64 (i + (1 : Int))) (n) (nw) (wa) (wz) (w0) (w1) (w2) (w3) (w4) (w5) (w6) (w7) (sv) (pg) (nv_) (va) (vz) (v0) (v1) (v2) (v3) (v4) (v5) (v6) (v7))))))))))) ∧ ((decide (i < (↑nv_ : Int))) = false → (∀ r1 : VS × Bool, r1 = (large_Resize sv t p sh x0 n) → ((p ≤ (1024 : Int)) ∧ ((p ≤ (1024 : Int)) → (((0 : Int) ≤ x0) ∧ (((0 : Int) ≤ x0) → ((x0 ≤ p) ∧ ((x0 ≤ p) → (((1 : Int) ≤ If.l (iGet (VS.get sv (Cf.info { t := t, p := p, s := sh } x0))) ∧ If.l (iGet (VS.get sv (Cf.info { t := t, p := p, s := sh } x0))) ≤ p) ∧ (((1 : Int) ≤ If.l (iGet (VS.get sv (Cf.info { t := t, p := p, s := sh } x0))) ∧ If.l (iGet (VS.get sv (Cf.info { t := t, p := p, s := sh } x0))) ≤ p) → ((∀ r6 : List Int, r6 = (VS.vals (Prod.fst r1)) → ((∀ r8 : List Int × List Int × Int × Int × Int × Int × Int × Int × Int × Int × Bool, r8 = (r12_State t p sh r6) → ((bdAll r6) ∧ ((bdAll r6) → (((Prod.snd r1 && Prod.snd (Prod.snd (Prod.snd (Prod.snd (Prod.snd (Prod.snd (Prod.snd (Prod.snd (Prod.snd (Prod.snd r8)))))))))) = true → List.length (Prod.fst r8) = List.length (Prod.fst (Prod.snd r8))) ∧ (((Prod.snd r1 && Prod.snd (Prod.snd (Prod.snd (Prod.snd (Prod.snd (Prod.snd (Prod.snd (Prod.snd (Prod.snd (Prod.snd r8)))))))))) = true → List.length (Prod.fst r8) = List.length (Prod.fst (Prod.snd r8))) → (((Prod.snd r1 && Prod.snd (Prod.snd (Prod.snd (Prod.snd (Prod.snd (Prod.snd (Prod.snd (Prod.snd (Prod.snd (Prod.snd r8)))))))))) = true → List.length wa = List.length wz) ∧ (((Prod.snd r1 && Prod.snd (Prod.snd (Prod.snd (Prod.snd (Prod.snd (Prod.snd (Prod.snd (Prod.snd (Prod.snd (Prod.snd r8)))))))))) = true → List.length wa = List.length wz) → (R_ (Prod.snd r1 && Prod.snd (Prod.snd (Prod.snd (Prod.snd (Prod.snd (Prod.snd (Prod.snd (Prod.snd (Prod.snd (Prod.snd r8))))))))) && r12_Same (Prod.fst r8) (Prod.fst (Prod.snd r8)) (Prod.fst (Prod.snd (Prod.snd r8))) (Prod.fst (Prod.snd (Prod.snd (Prod.snd r8)))) (Prod.fst (Prod.snd (Prod.snd (Prod.snd (Prod.snd r8))))) (Prod.fst (Prod.snd (Prod.snd (Prod.snd (Prod.snd (Prod.snd r8)))))) (Prod.fst (Prod.snd (Prod.snd (Prod.snd (Prod.snd (Prod.snd (Prod.snd r8))))))) (Prod.fst (Prod.snd (Prod.snd (Prod.snd (Prod.snd (Prod.snd (Prod.snd (Prod.snd r8)))))))) (Prod.fst (Prod.snd (Prod.snd (Prod.snd (Prod.snd (Prod.snd (Prod.snd (Prod.snd (Prod.snd r8))))))))) (Prod.fst (Prod.snd (Prod.snd (Prod.snd (Prod.snd (Prod.snd (Prod.snd (Prod.snd (Prod.snd (Prod.snd r8)))))))))) wa wz w0 w1 w2 w3 w4 w5 w6 w7 && true))))))))) ∧ (∀ r9 : List Int × List Int × Int × Int × Int × Int × Int × Int × Int × Int × Bool, r9 = (r12_State t p sh r6) → ((bdAll r6) ∧ ((bdAll r6) → (((Prod.snd r1 && Prod.snd (Prod.snd (Prod.snd (Prod.snd (Prod.snd (Prod.snd (Prod.snd (Prod.snd (Prod.snd (Prod.snd r9)))))))))) = true → List.length (Prod.fst r9) = List.length (Prod.fst (Prod.snd r9))) ∧ (((Prod.snd r1 && Prod.snd (Prod.snd (Prod.snd (Prod.snd (Prod.snd (Prod.snd (Prod.snd (Prod.snd (Prod.snd (Prod.snd r9)))))))))) = true → List.length (Prod.fst r9) = List.length (Prod.fst (Prod.snd r9))) → (((Prod.snd r1 && Prod.snd (Prod.snd (Prod.snd (Prod.snd (Prod.snd (Prod.snd (Prod.snd (Prod.snd (Prod.snd (Prod.snd r9)))))))))) = true → List.length wa = List.length wz) ∧ (((Prod.snd r1 && Prod.snd (Prod.snd (Prod.snd (Prod.snd (Prod.snd (Prod.snd (Prod.snd (Prod.snd (Prod.snd (Prod.snd r9)))))))))) = true → List.length wa = List.length wz) → (R_ (Prod.snd r1 && Prod.snd (Prod.snd (Prod.snd (Prod.snd (Prod.snd (Prod.snd (Prod.snd (Prod.snd (Prod.snd (Prod.snd r9))))))))) && r12_Same (Prod.fst r9) (Prod.fst (Prod.snd r9)) (Prod.fst (Prod.snd (Prod.snd r9))) (Prod.fst (Prod.snd (Prod.snd (Prod.snd r9)))) (Prod.fst (Prod.snd (Prod.snd (Prod.snd (Prod.snd r9))))) (Prod.fst (Prod.snd (Prod.snd (Prod.snd (Prod.snd (Prod.snd r9)))))) (Prod.fst (Prod.snd (Prod.snd (Prod.snd (Prod.snd (Prod.snd (Prod.snd r9))))))) (Prod.fst (Prod.snd (Prod.snd (Prod.snd (Prod.snd (Prod.snd (Prod.snd (Prod.snd r9)))))))) (Prod.fst (Prod.snd (Prod.snd (Prod.snd (Prod.snd (Prod.snd (Prod.snd (Prod.snd (Prod.snd r9))))))))) (Prod.fst (Prod.snd (Prod.snd (Prod.snd (Prod.snd (Prod.snd (Prod.snd (Prod.snd (Prod.snd (Prod.snd r9)))))))))) wa wz w0 w1 w2 w3 w4 w5 w6 w7 && true))))))))))) ∧ (∀ r7 : List Int, r7 = (VS.vals (Prod.fst r1)) → (∀ r9 : List Int × List Int × Int × Int × Int × Int × Int × Int × Int × Int × Bool, r9 = (r12_State t p sh r7) → ((bdAll r7) ∧ ((bdAll r7) → (((Prod.snd r1 && Prod.snd (Prod.snd (Prod.snd (Prod.snd (Prod.snd (Prod.snd (Prod.snd (Prod.snd (Prod.snd (Prod.snd r9)))))))))) = true → List.length (Prod.fst r9) = List.length (Prod.fst (Prod.snd r9))) ∧ (((Prod.snd r1 && Prod.snd (Prod.snd (Prod.snd (Prod.snd (Prod.snd (Prod.snd (Prod.snd (Prod.snd (Prod.snd (Prod.snd r9)))))))))) = true → List.length (Prod.fst r9) = List.length (Prod.fst (Prod.snd r9))) → (((Prod.snd r1 && Prod.snd (Prod.snd (Prod.snd (Prod.snd (Prod.snd (Prod.snd (Prod.snd (Prod.snd (Prod.snd (Prod.snd r9)))))))))) = true → List.length wa = List.length wz) ∧ (((Prod.snd r1 && Prod.snd (Prod.snd (Prod.snd (Prod.snd (Prod.snd (Prod.snd (Prod.snd (Prod.snd (Prod.snd (Prod.snd r9)))))))))) = true → List.length wa = List.length wz) → (R_ (Prod.snd r1 && Prod.snd (Prod.snd (Prod.snd (Prod.snd (Prod.snd (Prod.snd (Prod.snd (Prod.snd (Prod.snd (Prod.snd r9))))))))) && r12_Same (Prod.fst r9) (Prod.fst (Prod.snd r9)) (Prod.fst (Prod.snd (Prod.snd r9))) (Prod.fst (Prod.snd (Prod.snd (Prod.snd r9)))) (Prod.fst (Prod.snd (Prod.snd (Prod.snd (Prod.snd r9))))) (Prod.fst (Prod.snd (Prod.snd (Prod.snd (Prod.snd (Prod.snd r9)))))) (Prod.fst (Prod.snd (Prod.snd (Prod.snd (Prod.snd (Prod.snd (Prod.snd r9))))))) (Prod.fst (Prod.snd (Prod.snd (Prod.snd (Prod.snd (Prod.snd (Prod.snd (Prod.snd r9)))))))) (Prod.fst (Prod.snd (Prod.snd (Prod.snd (Prod.snd (Prod.snd (Prod.snd (Prod.snd (Prod.snd r9))))))))) (Prod.fst (Prod.snd (Prod.snd (Prod.snd (Prod.snd (Prod.snd (Prod.snd (Prod.snd (Prod.snd (Prod.snd r9)))))))))) wa wz w0 w1 w2 w3 w4 w5 w6 w7 && true))))))))))))))))))))))
def LargeStays_I1 (t : Int) (p : Int) (sh : Int) (xs : List Int) (x0 : Int) (x1 : Int) (i : Int) (n : Int) (nw : Nat) (wa : List Int) (wz : List Int) (w0 : Int) (w1 : Int) (w2 : Int) (w3 : Int) (w4 : Int) (w5 : Int) (w6 : Int) (w7 : Int) (sv : VS) (pg : Int) (nv_ : Nat) (va : List Int) (vz : List Int) (v0 : Int) (v1 : Int) (v2 : Int) (v3 : Int) (v4 : Int) (v5 : Int) (v6 : Int) (v7 : Int) (r_ : Bool) : Prop := p ≤ 64 ∧ soundA ⟨t, p, sh⟩ xs = true ∧ (0 ≤ x0 ∧ x0 < p) ∧ (aInfo ⟨t, p, sh⟩ xs x0).k = 2 ∧ n = (aInfo ⟨t, p, sh⟩ xs x0).l ∧ ((qLResize ⟨t, p, sh⟩ x0 x1).run (VS.whole xs)).2 = true ∧ (wa, wz, w0, w1, w2, w3, w4, w5, w6, w7, true) = stateA ⟨t, p, sh⟩ xs ∧ nw = wa.length ∧ sv = ((qLResize ⟨t, p, sh⟩ x0 x1).run (VS.whole xs)).1 ∧ pg = pgB sh ∧ (va, vz, v0, v1, v2, v3, v4, v5, v6, v7, true) = stWith (stateA ⟨t, p, sh⟩ xs) (stateA ⟨t, p, sh⟩ xs).1 (setZ ((x0 + 1) * pgB sh) (x1 * pgB sh) (stateA ⟨t, p, sh⟩ xs).1 (stateA ⟨t, p, sh⟩ xs).2.1) ∧ nv_ = va.length ∧ (0 ≤ i ∧ i ≤ va.length) ∧ r_ = true
theorem LargeStays_begin (t : Int) (p : Int) (sh : Int) (xs : List Int) (x0 : Int) (x1 : Int) (hp0 : bdAll xs) (hp1 : x0 ≤ 9223372036854775807) (hp2 : x1 ≤ 9223372036854775807) (hl0 : xs.length ≤ 9223372036854775807) : LargeStays_w t p sh xs x0 x1 (fun n' nw' wa' wz' w0' w1' w2' w3' w4' w5' w6' w7' sv' => LargeStays_I0 t p sh xs x0 x1 n' nw' wa' wz' w0' w1' w2' w3' w4' w5' w6' w7' sv' (LargeStays t p sh xs x0 x1)) (fun i' n' nw' wa' wz' w0' w1' w2' w3' w4' w5' w6' w7' sv' pg' nv_' va' vz' v0' v1' v2' v3' v4' v5' v6' v7' => LargeStays_I1 t p sh xs x0 x1 i' n' nw' wa' wz' w0' w1' w2' w3' w4' w5' w6' w7' sv' pg' nv_' va' vz' v0' v1' v2' v3' v4' v5' v6' v7' (LargeStays t p sh xs x0 x1)) (fun r__ => r__ = (LargeStays t p sh xs x0 x1)) := by
  unfold LargeStays_w
  try unfold LargeStays_I0
  try unfold LargeStays_I1
  rintro r2 rfl
  refine ⟨fun _ => hp0, fun _ => ⟨fun hc => (by rintro r rfl; rfl), fun hc => ?_⟩⟩
  have hfs : p ≤ 64 ∧ soundA ⟨t, p, sh⟩ xs = true := by
    simp only [r12_Few, r12_Sound, Bool.or_eq_false_iff, Bool.not_eq_false', decide_eq_true_eq] at hc
    exact hc
  have hs := hfs.2
  have hgood0 := sound_good hs hp0
  rintro r5 rfl
  refine ⟨hgood0, fun _ => ⟨fun hd => (by rintro r rfl; rfl), fun hd => ?_⟩⟩
  have hu : (Cf.page ⟨t, p, sh⟩ x0 && (aInfo ⟨t, p, sh⟩ xs x0).k == 2) = true := by
    unfold l19_used at hd
    cases hb : (Cf.page ⟨t, p, sh⟩ x0 && (aInfo ⟨t, p, sh⟩ xs x0).k == 2) with
    | true => rfl
    | false => rw [hb] at hd; cases hd
  have hL : l19_used t p sh xs x0 = (aInfo ⟨t, p, sh⟩ xs x0).l := by unfold l19_used; rw [hu]; rfl
  simp only [Bool.and_eq_true, beq_iff_eq] at hu
  have hg : 0 ≤ x0 ∧ x0 < p := Cf.page_iff.1 hu.1
  have hk := hu.2
  rw [hL]
  obtain ⟨n, hn⟩ : ∃ n, n = (aInfo ⟨t, p, sh⟩ xs x0).l := ⟨_, rfl⟩
  have hgood := sound_good hs hp0
  have hlong := good_long hgood
  have hlen := hlong.2
  have hok := Cf.ok_iff.1 hgood.ok
  simp only at hok
  have hp : p ≤ 1024 := by omega
  have hpb : p ≤ 9223372036854775807 := by omega
  obtain ⟨j0, j1, j2, j3⟩ := stays_law (c := ⟨t, p, sh⟩) hp0 hs hg hk hn.symm x1
  simp only at j0 j3
  have hpg := (szB_ok hok.2.2 (k := 0) (by omega)).2.2.2.2
  have b1 : 0 ≤ (x0 + 1) * pgB sh ∧ (x0 + 1) * pgB sh ≤ 64 * 1048576 := ⟨Int.mul_nonneg (by omega) (by omega), Int.mul_le_mul (by omega) (by omega) (by omega) (by omega)⟩
  rintro r9 rfl
  refine ⟨hp0, fun _ => ?_⟩
  rintro r13 rfl
  refine ⟨hlen, fun _ => ⟨hp0, fun _ => ?_⟩⟩
  rintro r17 hr17
  have e17 : r17 = (qLResize ⟨t, p, sh⟩ x0 x1).run (VS.whole xs) := hr17
  clear hr17
  subst e17
  refine ⟨hp, fun _ => ⟨hg.1, fun _ => ⟨by omega, fun _ => ⟨by rw [j1]; omega, fun _ => ?_⟩⟩⟩⟩
  refine ⟨fun hf => ?_, fun hf => ?_⟩
  · obtain ⟨e1, e2⟩ := j2 (by simpa using hf)
    rintro r18 rfl
    show (((((((qLResize ⟨t, p, sh⟩ x0 x1).run (VS.whole xs)).1.wrote.length : Nat) : Int) == 0) && (decide (x1 < 1) || decide (x1 > (aInfo ⟨t, p, sh⟩ xs x0).l))) && l19_live) = true
    rw [e1, ← hn]
    have : (decide (x1 < 1) || decide (x1 > n)) = true := by
      simp only [Bool.or_eq_true, decide_eq_true_eq]; omega
    rw [this]; rfl
  · exact ⟨hfs.1, hs, hg, hk, rfl, by simpa using hf, st_eta (state_ok hs), rfl, rfl, rfl⟩
theorem LargeStays_step0 (t : Int) (p : Int) (sh : Int) (xs : List Int) (x0 : Int) (x1 : Int) (hp0 : bdAll xs) (hp1 : x0 ≤ 9223372036854775807) (hp2 : x1 ≤ 9223372036854775807) (hl0 : xs.length ≤ 9223372036854775807) (n : Int) (nw : Nat) (wa : List Int) (wz : List Int) (w0 : Int) (w1 : Int) (w2 : Int) (w3 : Int) (w4 : Int) (w5 : Int) (w6 : Int) (w7 : Int) (sv : VS) {r_ : Bool} (hI : LargeStays_I0 t p sh xs x0 x1 n nw wa wz w0 w1 w2 w3 w4 w5 w6 w7 sv r_) : LargeStays_w0 t p sh xs x0 x1 n nw wa wz w0 w1 w2 w3 w4 w5 w6 w7 sv (fun n' nw' wa' wz' w0' w1' w2' w3' w4' w5' w6' w7' sv' => LargeStays_I0 t p sh xs x0 x1 n' nw' wa' wz' w0' w1' w2' w3' w4' w5' w6' w7' sv' r_ ∧ lx (9, 0, 0) (9, 0, 0)) (fun i' n' nw' wa' wz' w0' w1' w2' w3' w4' w5' w6' w7' sv' pg' nv_' va' vz' v0' v1' v2' v3' v4' v5' v6' v7' => LargeStays_I1 t p sh xs x0 x1 i' n' nw' wa' wz' w0' w1' w2' w3' w4' w5' w6' w7' sv' pg' nv_' va' vz' v0' v1' v2' v3' v4' v5' v6' v7' r_ ∧ lx (7, (va'.length - i').toNat, 0) (9, 0, 0)) (fun r__ => r__ = r_) := by
  unfold LargeStays_I0 at hI
  unfold LargeStays_w0
  try unfold LargeStays_I0
  try unfold LargeStays_I1
  obtain ⟨hfew, hs, hg, hk, hn, hR, hw, hnw, hsv, hr⟩ := hI
  have hgood := sound_good hs hp0
  have hlong := good_long hgood
  have hlen := hlong.2
  have hok := Cf.ok_iff.1 hgood.ok
  simp only at hok
  have hp : p ≤ 1024 := by omega
  have hpb : p ≤ 9223372036854775807 := by omega
  obtain ⟨j0, j1, j2, j3⟩ := stays_law (c := ⟨t, p, sh⟩) hp0 hs hg hk hn.symm x1
  simp only at j0 j3
  have hpg := (szB_ok hok.2.2 (k := 0) (by omega)).2.2.2.2
  have b1 : 0 ≤ (x0 + 1) * pgB sh ∧ (x0 + 1) * pgB sh ≤ 64 * 1048576 := ⟨Int.mul_nonneg (by omega) (by omega), Int.mul_le_mul (by omega) (by omega) (by omega) (by omega)⟩
  have hpg := (szB_ok hok.2.2 (k := 0) (by omega)).2.2.2.2
  obtain ⟨q1, q2, q3, q4, q5, q6⟩ := j3 hR
  have hw1 : wa = (stateA ⟨t, p, sh⟩ xs).1 := congrArg (·.1) hw
  have hw2 : wz = (stateA ⟨t, p, sh⟩ xs).2.1 := congrArg (·.2.1) hw
  have hl1 : wa.length = wz.length := by rw [hw1, hw2]; exact st_len _ _
  have hl2 : wa.length ≤ 40000 := by rw [hw1]; exact st_few (c := ⟨t, p, sh⟩) xs hfew
  rw [pg_w hok.2.2]
  have e5 : r12_State t p sh sv.vals = (wa, setZ ((x0 + 1) * pgB sh) (x1 * pgB sh) wa wz, w0, w1, w2, w3, w4, w5, w6, w7, true) := by
    show stateA ⟨t, p, sh⟩ sv.vals = _
    rw [hsv, q4, ← hw]; rfl
  refine ⟨by rw [IntKind.wrap_u64]; omega, fun _ => ?_⟩
  repeat' first
    | (refine fun r hr => ?_; subst hr)
    | refine ⟨vals_bd _, fun _ => ?_⟩
    | (refine And.intro (fun r hr => ?_) (fun r hr => ?_) <;> subst hr)
    | (rw [e5]; refine ⟨fun hd => (by exfalso; rw [hnw] at hd; simp at hd), fun _ => ?_⟩)
    | (unfold tw_; refine And.intro ?_ ?_)
    | fail
  all_goals
    exact ⟨⟨hfew, hs, hg, hk, hn, hR, hw, hnw, hsv, rfl, (by rw [← hw]; rfl), rfl, ⟨Int.le_refl 0, by omega⟩, hr⟩, Or.inl (by decide : 7 < 9)⟩
theorem LargeStays_step1 (t : Int) (p : Int) (sh : Int) (xs : List Int) (x0 : Int) (x1 : Int) (hp0 : bdAll xs) (hp1 : x0 ≤ 9223372036854775807) (hp2 : x1 ≤ 9223372036854775807) (hl0 : xs.length ≤ 9223372036854775807) (i : Int) (n : Int) (nw : Nat) (wa : List Int) (wz : List Int) (w0 : Int) (w1 : Int) (w2 : Int) (w3 : Int) (w4 : Int) (w5 : Int) (w6 : Int) (w7 : Int) (sv : VS) (pg : Int) (nv_ : Nat) (va : List Int) (vz : List Int) (v0 : Int) (v1 : Int) (v2 : Int) (v3 : Int) (v4 : Int) (v5 : Int) (v6 : Int) (v7 : Int) {r_ : Bool} (hI : LargeStays_I1 t p sh xs x0 x1 i n nw wa wz w0 w1 w2 w3 w4 w5 w6 w7 sv pg nv_ va vz v0 v1 v2 v3 v4 v5 v6 v7 r_) : LargeStays_w1 t p sh xs x0 x1 i n nw wa wz w0 w1 w2 w3 w4 w5 w6 w7 sv pg nv_ va vz v0 v1 v2 v3 v4 v5 v6 v7 (fun n' nw' wa' wz' w0' w1' w2' w3' w4' w5' w6' w7' sv' => LargeStays_I0 t p sh xs x0 x1 n' nw' wa' wz' w0' w1' w2' w3' w4' w5' w6' w7' sv' r_ ∧ lx (9, 0, 0) (7, (va.length - i).toNat, 0)) (fun i' n' nw' wa' wz' w0' w1' w2' w3' w4' w5' w6' w7' sv' pg' nv_' va' vz' v0' v1' v2' v3' v4' v5' v6' v7' => LargeStays_I1 t p sh xs x0 x1 i' n' nw' wa' wz' w0' w1' w2' w3' w4' w5' w6' w7' sv' pg' nv_' va' vz' v0' v1' v2' v3' v4' v5' v6' v7' r_ ∧ lx (7, (va'.length - i').toNat, 0) (7, (va.length - i).toNat, 0)) (fun r__ => r__ = r_) := by
  unfold LargeStays_I1 at hI
  unfold LargeStays_w1
  try unfold LargeStays_I0
  try unfold LargeStays_I1
  obtain ⟨hfew, hs, hg, hk, hn, hR, hw, hnw, hsv, hpg', hv, hnv, hi, hr⟩ := hI
  have hgood := sound_good hs hp0
  have hlong := good_long hgood
  have hlen := hlong.2
  have hok := Cf.ok_iff.1 hgood.ok
  simp only at hok
  have hp : p ≤ 1024 := by omega
  have hpb : p ≤ 9223372036854775807 := by omega
  obtain ⟨j0, j1, j2, j3⟩ := stays_law (c := ⟨t, p, sh⟩) hp0 hs hg hk hn.symm x1
  simp only at j0 j3
  have hpg := (szB_ok hok.2.2 (k := 0) (by omega)).2.2.2.2
  have b1 : 0 ≤ (x0 + 1) * pgB sh ∧ (x0 + 1) * pgB sh ≤ 64 * 1048576 := ⟨Int.mul_nonneg (by omega) (by omega), Int.mul_le_mul (by omega) (by omega) (by omega) (by omega)⟩
  have hpg := (szB_ok hok.2.2 (k := 0) (by omega)).2.2.2.2
  obtain ⟨q1, q2, q3, q4, q5, q6⟩ := j3 hR
  have hw1 : wa = (stateA ⟨t, p, sh⟩ xs).1 := congrArg (·.1) hw
  have hw2 : wz = (stateA ⟨t, p, sh⟩ xs).2.1 := congrArg (·.2.1) hw
  have hl1 : wa.length = wz.length := by rw [hw1, hw2]; exact st_len _ _
  have hl2 : wa.length ≤ 40000 := by rw [hw1]; exact st_few (c := ⟨t, p, sh⟩) xs hfew
  have b2 : 0 ≤ x1 * pgB sh ∧ x1 * pgB sh ≤ 1024 * 1048576 := ⟨Int.mul_nonneg (by omega) (by omega), Int.mul_le_mul (by omega) (by omega) (by omega) (by omega)⟩
  have hva : va = wa := by
    have : va = (stateA ⟨t, p, sh⟩ xs).1 := congrArg (·.1) hv
    rw [this, hw1]
  have hvz : vz = setZ ((x0 + 1) * pgB sh) (x1 * pgB sh) wa wz := by
    have : vz = setZ ((x0 + 1) * pgB sh) (x1 * pgB sh) (stateA ⟨t, p, sh⟩ xs).1 (stateA ⟨t, p, sh⟩ xs).2.1 := congrArg (·.2.1) hv
    rw [this, hw1, hw2]
  subst hva
  subst hvz
  subst hpg'
  rw [w64 (n := x0 + 1) (by omega), w64 (n := (x0 + 1) * pgB sh) (by omega), w64 (n := x1 * pgB sh) (by omega)]
  refine ⟨fun hd => ?_, fun hd => ?_⟩
  · simp only [decide_eq_true_eq] at hd
    have hlt : i.toNat < va.length := by omega
    have hz := setZ_get ((x0 + 1) * pgB sh) (x1 * pgB sh) va wz i.toNat hl1 hlt
    have hnext : (0 ≤ i + 1 ∧ i + 1 ≤ (va.length : Int)) ∧ ((va.length : Int) - (i + 1)).toNat < ((va.length : Int) - i).toNat := by omega
    rw [w64 (n := i + 1) (by omega)]
    refine ⟨⟨hi.1, by omega⟩, fun _ => ⟨fun hc => ⟨⟨hi.1, hd⟩, fun _ => ?_⟩, fun hc => ⟨⟨hi.1, hd⟩, fun _ => ?_⟩⟩⟩
    · rw [hc, cond_true] at hz
      rw [hz]
      exact ⟨fun h => (by simp at h), fun _ => ⟨⟨hfew, hs, hg, hk, hn, hR, hw, hnw, hsv, rfl, hv, hnv, hnext.1, hr⟩, Or.inr ⟨rfl, Or.inl hnext.2⟩⟩⟩
    · rw [hc, cond_false] at hz
      rw [hz]
      exact ⟨fun h => (by simp at h), fun _ => ⟨⟨hfew, hs, hg, hk, hn, hR, hw, hnw, hsv, rfl, hv, hnv, hnext.1, hr⟩, Or.inr ⟨rfl, Or.inl hnext.2⟩⟩⟩
  · rintro r1 hr1
    have e1 : r1 = (qLResize ⟨t, p, sh⟩ x0 n).run sv := hr1
    clear hr1
    subst e1
    have q5' : ((qLResize ⟨t, p, sh⟩ x0 n).run sv).2 = true := by rw [hsv]; exact q5
    have e5 : r12_State t p sh ((qLResize ⟨t, p, sh⟩ x0 n).run sv).1.vals = (va, wz, w0, w1, w2, w3, w4, w5, w6, w7, true) := by
      show stateA ⟨t, p, sh⟩ _ = _
      rw [hsv, q6, ← hw]
    have q2' : (iGet (sv.get (Cf.info ⟨t, p, sh⟩ x0))).l = x1 := by rw [hsv]; exact q2
    refine ⟨hp, fun _ => ⟨hg.1, fun _ => ⟨by omega, fun _ => ⟨by rw [q2']; exact q1, fun _ => ?_⟩⟩⟩⟩
    repeat' first
      | (refine fun r hr => ?_; subst hr)
      | refine ⟨vals_bd _, fun _ => ?_⟩
      | (refine And.intro (fun r hr => ?_) (fun r hr => ?_) <;> subst hr)
      | (rw [e5]; refine ⟨fun _ => hl1, fun _ => ⟨fun _ => hl1, fun _ => ?_⟩⟩)
      | (unfold tw_; refine And.intro ?_ ?_)
      | fail
    all_goals
      show (((qLResize ⟨t, p, sh⟩ x0 n).run sv).2 && true && r12_Same va wz w0 w1 w2 w3 w4 w5 w6 w7 va wz w0 w1 w2 w3 w4 w5 w6 w7 && true) = r_
      rw [q5', same_self, hr]; rfl
theorem LargeStays_ok : EntryOk Dg Tryz.prog 6 e_LargeStays :=
  ent_wp Dg T_l19_used_ok (I := [28306000, 2999998, 6297000000014, 6297000000003, 6297000000005, 6297000000001, 6297000000007, 6297000000008, 6297000000010, 6297000000011, 6297000000012]) Tryz.func6 mix (B := bodyOf Tryz.f6) (by kernel_rfl) rfl (by kernel_rfl) 400
    fun p0 t p sh xs x0 x1 hb hp => have hl0 : xs.length ≤ 9223372036854775807 := hb.2.1; have hp0 : bdAll xs := hp _ (.head _); have hp1 : x0 ≤ 9223372036854775807 := hp _ (.tail _ (.head _)); have hp2 : x1 ≤ 9223372036854775807 := hp _ (.tail _ (.tail _ (.head _))); ⟨[⟨some 0, [0, 1, 1, 1, 1, 1, 1, 1], [.code [1, 1, 1, 1, 1, 1, 1, 1]], [3, 5, 1, 7, 8, 10], [.box 23 [.ic .i64 (t), .ic .i64 (p), .ic .i64 (sh)], .box 57 [.ic .i64 (x0), .ic .i64 (x1)], .roc [.ints .u32 (xs)], .i .i64, .box 42 [.own 56 [some .i64, some .i64], .i .i64, .i .i64, .i .i64, .i .i64, .i .i64, .i .i64, .i .i64, .i .i64], .obj wView]⟩, ⟨none, [0, 1, 0, 1, 1, 1, 1, 1, 1, 1, 1, 1, 1], [.blk 0, .code [1, 1, 1, 1, 1, 1, 1, 1, 1, 1, 1]], [14, 3, 5, 1, 7, 8, 10, 11, 12], [.i .i64, .box 23 [.ic .i64 (t), .ic .i64 (p), .ic .i64 (sh)], .box 57 [.ic .i64 (x0), .ic .i64 (x1)], .roc [.ints .u32 (xs)], .i .i64, .box 42 [.own 56 [some .i64, some .i64], .i .i64, .i .i64, .i .i64, .i .i64, .i .i64, .i .i64, .i .i64, .i .i64], .obj wView, .i .i64, .box 42 [.own 56 [some .i64, some .i64], .i .i64, .i .i64, .i .i64, .i .i64, .i .i64, .i .i64, .i .i64, .i .i64]]⟩], fun j => List.getD [appC (Hd.kd (⟨some 0, [0, 1, 1, 1, 1, 1, 1, 1], [.code [1, 1, 1, 1, 1, 1, 1, 1]], [3, 5, 1, 7, 8, 10], [.box 23 [.ic .i64 (t), .ic .i64 (p), .ic .i64 (sh)], .box 57 [.ic .i64 (x0), .ic .i64 (x1)], .roc [.ints .u32 (xs)], .i .i64, .box 42 [.own 56 [some .i64, some .i64], .i .i64, .i .i64, .i .i64, .i .i64, .i .i64, .i .i64, .i .i64, .i .i64], .obj wView]⟩ : Hd Sg)) (fun n' nw' wa' wz' w0' w1' w2' w3' w4' w5' w6' w7' sv' => LargeStays_I0 t p sh xs x0 x1 n' nw' wa' wz' w0' w1' w2' w3' w4' w5' w6' w7' sv' (LargeStays t p sh xs x0 x1)), appC (Hd.kd (⟨none, [0, 1, 0, 1, 1, 1, 1, 1, 1, 1, 1, 1, 1], [.blk 0, .code [1, 1, 1, 1, 1, 1, 1, 1, 1, 1, 1]], [14, 3, 5, 1, 7, 8, 10, 11, 12], [.i .i64, .box 23 [.ic .i64 (t), .ic .i64 (p), .ic .i64 (sh)], .box 57 [.ic .i64 (x0), .ic .i64 (x1)], .roc [.ints .u32 (xs)], .i .i64, .box 42 [.own 56 [some .i64, some .i64], .i .i64, .i .i64, .i .i64, .i .i64, .i .i64, .i .i64, .i .i64, .i .i64], .obj wView, .i .i64, .box 42 [.own 56 [some .i64, some .i64], .i .i64, .i .i64, .i .i64, .i .i64, .i .i64, .i .i64, .i .i64, .i .i64]]⟩ : Hd Sg)) (fun i' n' nw' wa' wz' w0' w1' w2' w3' w4' w5' w6' w7' sv' pg' nv_' va' vz' v0' v1' v2' v3' v4' v5' v6' v7' => LargeStays_I1 t p sh xs x0 x1 i' n' nw' wa' wz' w0' w1' w2' w3' w4' w5' w6' w7' sv' pg' nv_' va' vz' v0' v1' v2' v3' v4' v5' v6' v7' (LargeStays t p sh xs x0 x1))] j (fun _ => False), fun j => List.getD [appC (Hd.kd (⟨some 0, [0, 1, 1, 1, 1, 1, 1, 1], [.code [1, 1, 1, 1, 1, 1, 1, 1]], [3, 5, 1, 7, 8, 10], [.box 23 [.ic .i64 (t), .ic .i64 (p), .ic .i64 (sh)], .box 57 [.ic .i64 (x0), .ic .i64 (x1)], .roc [.ints .u32 (xs)], .i .i64, .box 42 [.own 56 [some .i64, some .i64], .i .i64, .i .i64, .i .i64, .i .i64, .i .i64, .i .i64, .i .i64, .i .i64], .obj wView]⟩ : Hd Sg)) (fun n' nw' wa' wz' w0' w1' w2' w3' w4' w5' w6' w7' sv' => (9, 0, 0)), appC (Hd.kd (⟨none, [0, 1, 0, 1, 1, 1, 1, 1, 1, 1, 1, 1, 1], [.blk 0, .code [1, 1, 1, 1, 1, 1, 1, 1, 1, 1, 1]], [14, 3, 5, 1, 7, 8, 10, 11, 12], [.i .i64, .box 23 [.ic .i64 (t), .ic .i64 (p), .ic .i64 (sh)], .box 57 [.ic .i64 (x0), .ic .i64 (x1)], .roc [.ints .u32 (xs)], .i .i64, .box 42 [.own 56 [some .i64, some .i64], .i .i64, .i .i64, .i .i64, .i .i64, .i .i64, .i .i64, .i .i64, .i .i64], .obj wView, .i .i64, .box 42 [.own 56 [some .i64, some .i64], .i .i64, .i .i64, .i .i64, .i .i64, .i .i64, .i .i64, .i .i64, .i .i64]]⟩ : Hd Sg)) (fun i' n' nw' wa' wz' w0' w1' w2' w3' w4' w5' w6' w7' sv' pg' nv_' va' vz' v0' v1' v2' v3' v4' v5' v6' v7' => (7, (va'.length - i').toNat, 0))] j (fun _ => (0, 0, 0)), by kernel_rfl, ⟨LargeStays_w t p sh xs x0 x1 (fun n' nw' wa' wz' w0' w1' w2' w3' w4' w5' w6' w7' sv' => LargeStays_I0 t p sh xs x0 x1 n' nw' wa' wz' w0' w1' w2' w3' w4' w5' w6' w7' sv' (LargeStays t p sh xs x0 x1)) (fun i' n' nw' wa' wz' w0' w1' w2' w3' w4' w5' w6' w7' sv' pg' nv_' va' vz' v0' v1' v2' v3' v4' v5' v6' v7' => LargeStays_I1 t p sh xs x0 x1 i' n' nw' wa' wz' w0' w1' w2' w3' w4' w5' w6' w7' sv' pg' nv_' va' vz' v0' v1' v2' v3' v4' v5' v6' v7' (LargeStays t p sh xs x0 x1)) (fun r__ => r__ = (LargeStays t p sh xs x0 x1)), fun _ _ _ => by kernel_rfl, LargeStays_begin t p sh xs x0 x1 hp0 hp1 hp2 hl0 ⟩, ⟨fun n nw wa wz w0 w1 w2 w3 w4 w5 w6 w7 sv hI => ⟨LargeStays_w0 t p sh xs x0 x1 n nw wa wz w0 w1 w2 w3 w4 w5 w6 w7 sv (fun n' nw' wa' wz' w0' w1' w2' w3' w4' w5' w6' w7' sv' => LargeStays_I0 t p sh xs x0 x1 n' nw' wa' wz' w0' w1' w2' w3' w4' w5' w6' w7' sv' (LargeStays t p sh xs x0 x1) ∧ lx (9, 0, 0) (9, 0, 0)) (fun i' n' nw' wa' wz' w0' w1' w2' w3' w4' w5' w6' w7' sv' pg' nv_' va' vz' v0' v1' v2' v3' v4' v5' v6' v7' => LargeStays_I1 t p sh xs x0 x1 i' n' nw' wa' wz' w0' w1' w2' w3' w4' w5' w6' w7' sv' pg' nv_' va' vz' v0' v1' v2' v3' v4' v5' v6' v7' (LargeStays t p sh xs x0 x1) ∧ lx (7, (va'.length - i').toNat, 0) (9, 0, 0)) (fun r__ => r__ = (LargeStays t p sh xs x0 x1)), fun _ _ _ => by kernel_rfl, LargeStays_step0 t p sh xs x0 x1 hp0 hp1 hp2 hl0 n nw wa wz w0 w1 w2 w3 w4 w5 w6 w7 sv hI⟩, ⟨fun i n nw wa wz w0 w1 w2 w3 w4 w5 w6 w7 sv pg nv_ va vz v0 v1 v2 v3 v4 v5 v6 v7 hI => ⟨LargeStays_w1 t p sh xs x0 x1 i n nw wa wz w0 w1 w2 w3 w4 w5 w6 w7 sv pg nv_ va vz v0 v1 v2 v3 v4 v5 v6 v7 (fun n' nw' wa' wz' w0' w1' w2' w3' w4' w5' w6' w7' sv' => LargeStays_I0 t p sh xs x0 x1 n' nw' wa' wz' w0' w1' w2' w3' w4' w5' w6' w7' sv' (LargeStays t p sh xs x0 x1) ∧ lx (9, 0, 0) (7, (va.length - i).toNat, 0)) (fun i' n' nw' wa' wz' w0' w1' w2' w3' w4' w5' w6' w7' sv' pg' nv_' va' vz' v0' v1' v2' v3' v4' v5' v6' v7' => LargeStays_I1 t p sh xs x0 x1 i' n' nw' wa' wz' w0' w1' w2' w3' w4' w5' w6' w7' sv' pg' nv_' va' vz' v0' v1' v2' v3' v4' v5' v6' v7' (LargeStays t p sh xs x0 x1) ∧ lx (7, (va'.length - i').toNat, 0) (7, (va.length - i).toNat, 0)) (fun r__ => r__ = (LargeStays t p sh xs x0 x1)), fun _ _ _ => by kernel_rfl, LargeStays_step1 t p sh xs x0 x1 hp0 hp1 hp2 hl0 i n nw wa wz w0 w1 w2 w3 w4 w5 w6 w7 sv pg nv_ va vz v0 v1 v2 v3 v4 v5 v6 v7 hI⟩, trivial⟩⟩⟩
def T_LargeStays : List (Nat × Entry Sg) := (6, e_LargeStays) :: T_l19_used
theorem T_LargeStays_ok : TableOk Dg Tryz.prog T_LargeStays := TableOk.cons Dg LargeStays_ok T_l19_used_ok
theorem LargeStays_plain (t : Int) (p : Int) (sh : Int) (xs : List Int) (x0 : Int) (x1 : Int) (a_0 : Option Addr) (c_0 : Nat) {E_ : World} {G_ : Hp} {w_ : World} (hr0 : RowAt G_ a_0 xs.length [.ints .u32 xs] ∧ xs.length ≤ c_0) (hp0 : bdAll xs) (hp1 : x0 ≤ 9223372036854775807) (hp2 : x1 ≤ 9223372036854775807) (hS : Sat E_ G_ w_ []) : Calls Tryz.prog 6 #[(.agg #[.int .i64 t, .int .i64 p, .int .i64 sh]), (.slice a_0 xs.length c_0), (.agg #[.int .i64 x0, .int .i64 x1])] w_ (fun en w' => en = .returned (.bool (LargeStays t p sh xs x0 x1)) ∧ Sat E_ G_ w' []) := by
  refine law_of Dg (c := c_LargeStays) (F := LargeStays) (pre := fun t p sh xs x0 x1 => [bdAll xs, x0 ≤ 9223372036854775807, x1 ≤ 9223372036854775807]) LargeStays_ok [((.agg #[.int .i64 t, .int .i64 p, .int .i64 sh]), (.none)), ((.slice a_0 xs.length c_0), (.row xs.length [.ints .u32 xs])), ((.agg #[.int .i64 x0, .int .i64 x1]), (.none))] [.i t, .i p, .i sh, .li xs, .i x0, .i x1] (by kernel_rfl) _ (by kernel_rfl) (by kernel_rfl) (by kernel_rfl) ?_ ?_ hS
  · intro p hp
    have hp : p ∈ [(bdAll xs : Prop), (x0 ≤ 9223372036854775807 : Prop), (x1 ≤ 9223372036854775807 : Prop)] := hp
    simp only [List.mem_cons, List.not_mem_nil, or_false] at hp
    rcases hp with rfl | rfl | rfl
    · exact hp0
    · exact hp1
    · exact hp2
  · intro x hx
    simp only [List.mem_cons, List.not_mem_nil, or_false] at hx
    rcases hx with rfl | rfl | rfl
    · first | (simp only [iOk, isOk, and_true, true_and]; done) | (simp only [iOk, isOk, and_true, true_and]; exact ⟨_, _, rfl, trivial⟩) | simp [iOk, isOk]
    · first | (simp only [iOk, isOk, and_true, true_and]; done) | (simp only [iOk, isOk, and_true, true_and]; exact ⟨_, _, rfl, hr0⟩) | simp [iOk, isOk]
    · first | (simp only [iOk, isOk, and_true, true_and]; done) | (simp only [iOk, isOk, and_true, true_and]; exact ⟨_, _, rfl, trivial⟩) | simp [iOk, isOk]
end Go.Proofs.YtajcpopikdpcmaaGreat
namespace Go.Sl
open Go.RowKit Go.ChangeShapes Go.WideShapes Go.ChangeAt
theorem Sat.start (W : World) : Sat W (fun b => W.heap[b]?) W [] :=
  ⟨⟨rfl, rfl, rfl, Nat.le_refl _⟩, fun _ _ h => h, fun _ => none, ⟨fun _ _ h => (by cases h), fun i A h => (by simp at h)⟩⟩
theorem Sat.below {W W' : World} {As : List Asn} (h : Sat W (fun b => W.heap[b]?) W' As) : Below W.heap.size W W' :=
  ⟨h.1.os, h.1.tape, h.1.output, h.1.size, fun k hk => by
    have h1 : (fun b => W.heap[b]?) k = some W.heap[k] := by simp [hk]
    rw [h.2.1 k _ h1]; simp [hk]⟩
section
variable {H : Type} {enc : TypeId × Value → H} {P : Program}
theorem trodAll_stays (hl : laidOutB P = true) {W W' : World} (hb : Below W.heap.size W W') {sp : Nat → Bool} : ∀ (ts : List TypeId) (vs : List Value) (ds : List (DataW H)) (ps : List MemPlace), (∀ t ∈ ts, P.readableRec t = true ∧ t < P.types.size) →
    DataW.TrodAll enc P W 0 (fun _ => true) true ts vs ds ps → (∀ x ∈ ps, x.block < W.heap.size) → (∀ x ∈ ps, sp x.block = true) → DataW.TrodAll enc P W' 0 sp true ts vs ds ps
  | [], vs, ds, ps, _, h, _, _ => by
    obtain ⟨rfl, rfl, rfl⟩ := trodAll_nil h
    exact trodAll_mk0
  | t :: ts, vs, ds, ps, hr, h, hlt, hsp => by
    obtain ⟨v, vs', d, ds', p, q, rfl, rfl, rfl, hd, hrest⟩ := trodAll_cons h
    obtain ⟨hr1, hr2⟩ := hr t (by simp)
    exact ⟨p, q, WideElems.Trod_stays hl hr1 hr2 hd (fun x hx => hb.same (hlt x (by simp [hx]))) (fun x hx => hsp x (by simp [hx])),
      trodAll_stays hl hb ts vs' ds' q (fun t ht => hr t (by simp [ht])) hrest (fun x hx => hlt x (by simp [hx])) (fun x hx => hsp x (by simp [hx])), rfl⟩
theorem law_post {f : Func} {s : ChangeSpec} {apart fresh handsOn : Bool} {W W' : World} {args : Array Value} {ds gs : List (DataW H)} {before : List MemPlace} (tb : TypeId) (hl : laidOutB P = true)
    (hW : DataW.Whole enc P f.params.toList s.vars apart W args.toList ds gs before) (hv : s.vars = []) (hres : f.resultTypes = #[tb]) (hb : P.underlying tb = some .bool)
    (hp : f.params.toList.all (fun t => P.readableRec t && Nat.blt t P.types.size) = true) (hfn : (s.fn H ds).results = [.lit (.bool true)] ∧ (s.fn H ds).args = ds ∧ (s.fn H ds).vars = [])
    (hbel : Below W.heap.size W W') : s.post enc P f apart fresh handsOn false W args (.bool true) W' := by
  have hW2 := hW
  have hlt : ∀ x ∈ before, x.block < W.heap.size := fun x hx => hW.lt x hx
  obtain ⟨p, q, hA, hV, hpq, _, _⟩ := hW
  rw [hv] at hV
  obtain ⟨hgs, hq⟩ := trodVars_none hV
  subst hgs; subst hq
  have hpp : before = p := by rw [hpq]; simp
  subst hpp
  have hr : ∀ t ∈ f.params.toList, P.readableRec t = true ∧ t < P.types.size := fun t ht => by
    rw [List.all_eq_true] at hp
    have := hp t ht
    simp only [Bool.and_eq_true] at this
    exact ⟨this.1, Nat.lt_of_lt_of_le (Nat.lt_succ_self t) (Nat.le_of_ble_eq_true this.2)⟩
  refine ⟨ds, [], before, [], before, [], by rw [hv] at hW2 ⊢; exact hW2, ?_, ?_, ?_, World.keptBut_mono (fun x hx => ⟨hx, .inr (.inl hx)⟩) (hbel.frame (· ∈ before)), fun h => by cases h⟩
  · rw [List.append_nil, hfn.1, hres]
    exact trodAll_mk1 (shut_bool hb true)
  · rw [List.append_nil, hfn.2.1]
    exact trodAll_stays hl hbel _ _ _ _ hr hA hlt (fun x hx => by simpa using hlt x hx)
  · rw [List.append_nil, hfn.2.2, hv]
    rfl
end
theorem bd_i64 {x : Int} (h : (Lit.int .i64 x).wf = true) : -9223372036854775808 ≤ x ∧ x < 9223372036854775808 := by
  simp [Lit.wf, IntKind.min, IntKind.max, IntKind.signed, IntKind.bits] at h; omega
theorem bd_u64 {x : Int} (h : (Lit.int .u64 x).wf = true) : 0 ≤ x ∧ x < 18446744073709551616 := by
  simp [Lit.wf, IntKind.min, IntKind.max, IntKind.signed, IntKind.bits] at h; omega
theorem bd_u32 {x : Int} (h : (Lit.int .u32 x).wf = true) : 0 ≤ x ∧ x < 4294967296 := by
  simp [Lit.wf, IntKind.min, IntKind.max, IntKind.signed, IntKind.bits] at h; omega
end Go.Sl
namespace Go.Sl
open Go.RowKit Go.ChangeShapes Go.WideShapes Go.ChangeAt
inductive Shp where
  | int (k : IntKind)
  | bool
def vIs : Shp → Value → Prop
  | .int k, v => ∃ x, v = .int k x ∧ (Lit.int k x).wf = true
  | .bool, v => ∃ b, v = .bool b
def cellsIs : List Shp → List Value → Prop
  | [], vs => vs = []
  | s :: r, vs => ∃ v vs', vs = v :: vs' ∧ vIs s v ∧ cellsIs r vs'
def colIs (n : Nat) : Shp → Col → Prop
  | .int k, c => ∃ xs, c = .ints k xs ∧ xs.length = n ∧ ∀ x ∈ xs, (Lit.int k x).wf = true
  | .bool, c => ∃ xs, c = .bools xs ∧ xs.length = n
def colsIs (n : Nat) : List Shp → List Col → Prop
  | [], cs => cs = []
  | s :: r, cs => ∃ c cs', cs = c :: cs' ∧ colIs n s c ∧ colsIs n r cs'
theorem cellsIs_len : ∀ {sh : List Shp} {vs : List Value}, cellsIs sh vs → vs.length = sh.length
  | [], _, h => by rw [h]; rfl
  | _ :: r, _, ⟨v, vs', e, _, h⟩ => by rw [e, List.length_cons, List.length_cons, cellsIs_len h]
theorem cellsIs_append : ∀ {a b : List Shp} {u v : List Value}, cellsIs a u → cellsIs b v → cellsIs (a ++ b) (u ++ v)
  | [], b, u, v, h, h' => by rw [h]; exact h'
  | s :: r, b, u, v, ⟨x, u', e, hx, h⟩, h' => ⟨x, u' ++ v, by rw [e]; rfl, hx, cellsIs_append h h'⟩
theorem cellsIs_get : ∀ {sh : List Shp} {vs : List Value}, cellsIs sh vs → ∀ (j : Nat) s, sh[j]? = some s → ∃ v, vs[j]? = some v ∧ vIs s v
  | [], _, _, j, s, hs => by simp at hs
  | s0 :: r, _, ⟨x, u', e, hx, h⟩, j, s, hs => by
    subst e
    cases j with
    | zero => simp at hs; subst hs; exact ⟨x, rfl, hx⟩
    | succ j => exact cellsIs_get h j s (by simpa using hs)
section
variable (P : Program)
def shpFs (f : TypeId → Option (List Shp)) : Nat → List Field → Option (List Shp)
  | _, [] => some []
  | o, fd :: fs => bif Nat.beq fd.offset o then match f fd.type, shpFs f (o + P.cellsOf fd.type) fs with
      | some a, some b => bif Nat.beq a.length (P.cellsOf fd.type) then some (a ++ b) else none
      | _, _ => none
    else none
def reps (s : List Shp) : Nat → List Shp
  | 0 => []
  | n + 1 => s ++ reps s n
def shpT : Nat → TypeId → Option (List Shp)
  | 0, _ => none
  | d + 1, t => match P.underlying t with
    | some (.int k) => some [.int k]
    | some .bool => some [.bool]
    | some (.struct fs) => match shpFs P (shpT d) 0 fs.toList with
      | some s => bif Nat.beq s.length (P.cellsOf t) then some s else none
      | none => none
    | some (.array n e) => match shpT d e with
      | some s => bif Nat.beq s.length (P.cellsOf e) && Nat.beq (n * P.cellsOf e) (P.cellsOf t) then some (reps s n) else none
      | none => none
    | _ => none
end
section
variable {H : Type} {enc : TypeId × Value → H} {P : Program} {w : World} {base : Nat} {sp : Nat → Bool} {held : Bool}
theorem shpFs_ok {f : TypeId → Option (List Shp)} {n : Nat} (hf : ∀ t sh cs x, f t = some sh → DataW.trod enc P w base sp held n t cs = some x → cellsIs sh cs) {cs : List Value} :
    ∀ (fs : List Field) (o : Nat) (s : List Shp), shpFs P f o fs = some s → (∀ fd ∈ fs, ∃ y, DataW.trod enc P w base sp held n fd.type ((cs.drop fd.offset).take (P.cellsOf fd.type)) = some y) → cellsIs s ((cs.drop o).take s.length)
  | [], o, s, h, _ => by simp only [shpFs, Option.some.injEq] at h; subst h; simp [cellsIs]
  | fd :: fs, o, s, h, hall => by
    simp only [shpFs] at h
    cases ho : Nat.beq fd.offset o with
    | false => rw [ho] at h; cases h
    | true =>
      rw [ho] at h
      have ho := Nat.eq_of_beq_eq_true ho
      simp only [cond_true] at h
      split at h
      · rename_i a b ha hb
        cases hl : Nat.beq a.length (P.cellsOf fd.type) with
        | false => rw [hl] at h; cases h
        | true =>
          rw [hl] at h
          have hl := Nat.eq_of_beq_eq_true hl
          simp only [cond_true, Option.some.injEq] at h
          subst h
          obtain ⟨y, hy⟩ := hall fd (by simp)
          have h1 := hf _ _ _ _ ha hy
          have h2 := shpFs_ok hf fs _ _ hb fun fd' hfd => hall fd' (by simp [hfd])
          have e : (cs.drop o).take (a ++ b).length = (cs.drop fd.offset).take (P.cellsOf fd.type) ++ (cs.drop (o + P.cellsOf fd.type)).take b.length := by
            rw [List.length_append, List.take_add, List.drop_drop, ho, hl]
          rw [e]
          exact cellsIs_append h1 h2
      · cases h
theorem shpT_ok : ∀ (d : Nat) (t : TypeId) (sh : List Shp) (n : Nat) (cs : List Value) (x : DataW H × List MemPlace), shpT P d t = some sh → DataW.trod enc P w base sp held n t cs = some x → cellsIs sh cs
  | 0, t, sh, n, cs, x, h, _ => by simp [shpT] at h
  | d + 1, t, sh, n, cs, x, h, hx => by
    simp only [shpT] at h
    split at h
    · rename_i k hk
      injection h with h; subst h
      obtain ⟨m, rfl, _, hw⟩ := DataW.trod_int hk hx
      exact ⟨_, _, rfl, ⟨m, rfl, hw⟩, rfl⟩
    · rename_i hk
      injection h with h; subst h
      obtain ⟨b, rfl, _⟩ := DataW.trod_bool hk hx
      exact ⟨_, _, rfl, ⟨b, rfl⟩, rfl⟩
    · rename_i fs hk
      split at h
      · rename_i s hs
        cases hl : Nat.beq s.length (P.cellsOf t) with
        | false => rw [hl] at h; cases h
        | true =>
          rw [hl] at h
          have hl := Nat.eq_of_beq_eq_true hl
          simp only [cond_true, Option.some.injEq] at h
          subst h
          obtain ⟨xs, m, _, _, hlen, hxl, hf⟩ := DataW.trod_struct hk hx
          have := shpFs_ok (n := m) (cs := cs) (fun t' sh' cs' x' h1 h2 => shpT_ok d t' sh' m cs' x' h1 h2) fs.toList 0 s hs fun fd hfd => by
            obtain ⟨i, hi⟩ := List.getElem?_of_mem hfd
            have hi' : fs[i]? = some fd := by simpa using hi
            have h1 := hf i fd hi'
            have hlt : i < xs.length := by
              rw [hxl]
              rcases Nat.lt_or_ge i fs.size with h' | h'
              · exact h'
              · rw [Array.getElem?_eq_none h'] at hi'; cases hi'
            rw [List.getElem?_eq_getElem hlt] at h1
            exact ⟨_, h1⟩
          rw [List.drop_zero, hl, ← hlen, List.take_length] at this
          exact this
      · cases h
    · rename_i m e hk
      split at h
      · rename_i s hs
        cases hl : (Nat.beq s.length (P.cellsOf e) && Nat.beq (m * P.cellsOf e) (P.cellsOf t)) with
        | false => rw [hl] at h; cases h
        | true =>
          rw [hl] at h
          simp only [Bool.and_eq_true] at hl
          have hl1 := Nat.eq_of_beq_eq_true hl.1
          have hl2 := Nat.eq_of_beq_eq_true hl.2
          simp only [cond_true, Option.some.injEq] at h
          subst h
          obtain ⟨xs, q, _, _, hlen, hxl, hf⟩ := DataW.trod_array hk hx
          have key : ∀ (j i : Nat), i + j = m → cellsIs (reps s j) ((cs.drop (i * P.cellsOf e)).take (j * P.cellsOf e)) := by
            intro j
            induction j with
            | zero => intro i _; simp [reps, cellsIs]
            | succ j ih =>
              intro i hij
              have h1 := hf i (by omega)
              rw [List.getElem?_eq_getElem (by omega)] at h1
              have h2 := shpT_ok d e s q _ _ hs h1
              have h3 := ih (i + 1) (by omega)
              have e1 : (cs.drop (i * P.cellsOf e)).take ((j + 1) * P.cellsOf e) = (cs.drop (i * P.cellsOf e)).take (P.cellsOf e) ++ (cs.drop ((i + 1) * P.cellsOf e)).take (j * P.cellsOf e) := by
                rw [show (j + 1) * P.cellsOf e = P.cellsOf e + j * P.cellsOf e by rw [Nat.succ_mul]; omega, List.take_add, List.drop_drop, show i * P.cellsOf e + P.cellsOf e = (i + 1) * P.cellsOf e by rw [Nat.succ_mul]]
              rw [e1]
              exact cellsIs_append h2 h3
          have := key m 0 (by omega)
          rw [Nat.zero_mul, List.drop_zero, hl2, ← hlen, List.take_length] at this
          exact this
      · cases h
    · cases h
theorem open_flat {r : Reach} {b0 : Nat} {t : TypeId} {v : Value} {dt : DataW H} {ps : List MemPlace} (d : Nat) (hs : (P.underlying t).any (fun | .struct _ => true | .array _ _ => true | _ => false) = true) {sh : List Shp} (hsh : shpT P d t = some sh)
    (hv : Value.okWide P w r b0 t v) (h : DataW.Trod enc P w base sp held t v dt ps) : ∃ vs : List Value, v = .agg vs.toArray ∧ cellsIs sh vs := by
  obtain ⟨fuel, hf⟩ := h
  have hc := shpT_ok d t sh fuel _ _ hsh hf
  unfold Value.okWide at hv
  cases hu : P.underlying t with
  | none => rw [hu] at hs; simp at hs
  | some ty =>
    rw [hu] at hs hv
    cases ty <;> simp at hs <;> (obtain ⟨cs, rfl, _, _⟩ := hv; exact ⟨cs.toList, by simp, hc⟩)
def colOf : Shp → (Nat → Value) → Nat → Col
  | .int k, V, n => .ints k ((List.range n).map fun i => match V i with | .int _ x => x | _ => 0)
  | .bool, V, n => .bools ((List.range n).map fun i => match V i with | .bool b => b | _ => false)
theorem colOf_ok {s : Shp} {V : Nat → Value} {n : Nat} (h : ∀ i, i < n → vIs s (V i)) : colIs n s (colOf s V n) ∧ (colOf s V n).len = n ∧ ∀ i, i < n → (colOf s V n).at i = V i := by
  cases s with
  | int k =>
    refine ⟨⟨_, rfl, by simp, fun x hx => ?_⟩, by simp [colOf, Col.len], fun i hi => ?_⟩
    · obtain ⟨i, hi, rfl⟩ := List.mem_map.1 hx
      obtain ⟨y, hy, hw⟩ := h i (List.mem_range.1 hi)
      rw [hy]; exact hw
    · obtain ⟨y, hy, hw⟩ := h i hi
      simp [colOf, Col.at, hi, hy]
  | bool =>
    refine ⟨⟨_, rfl, by simp⟩, by simp [colOf, Col.len], fun i hi => ?_⟩
    obtain ⟨y, hy⟩ := h i hi
    simp [colOf, Col.at, hi, hy]
def colsSh : List Shp → Nat → (Nat → List Value) → Nat → List Col
  | [], _, _, _ => []
  | s :: r, j, cs, n => colOf s (fun i => (cs i).getD j undef) n :: colsSh r (j + 1) cs n
theorem colsSh_len : ∀ (sh : List Shp) (j : Nat) (cs : Nat → List Value) (n : Nat), (colsSh sh j cs n).length = sh.length
  | [], _, _, _ => rfl
  | _ :: r, j, cs, n => by simp only [colsSh, List.length_cons, colsSh_len r]
theorem colsSh_ok {cs : Nat → List Value} {n : Nat} : ∀ (sh : List Shp) (j : Nat), (∀ i, i < n → ∀ (m : Nat) s, sh[m]? = some s → vIs s ((cs i).getD (j + m) undef)) →
    colsIs n sh (colsSh sh j cs n) ∧ ∀ (m : Nat) c, (colsSh sh j cs n)[m]? = some c → c.len = n ∧ ∀ i, i < n → c.at i = (cs i).getD (j + m) undef
  | [], j, _ => ⟨rfl, fun m c h => by simp [colsSh] at h⟩
  | s :: r, j, h => by
    have h0 := colOf_ok (s := s) (V := fun i => (cs i).getD j undef) (n := n) fun i hi => h i hi 0 s rfl
    obtain ⟨h1, h2⟩ := colsSh_ok (cs := cs) (n := n) r (j + 1) fun i hi m s' hm => by
      have := h i hi (m + 1) s' (by simpa using hm)
      rwa [show j + (m + 1) = j + 1 + m by omega] at this
    refine ⟨⟨_, _, rfl, h0.1, h1⟩, fun m c hm => ?_⟩
    cases m with
    | zero => simp only [colsSh, List.getElem?_cons_zero, Option.some.injEq] at hm; subst hm; exact ⟨h0.2.1, h0.2.2⟩
    | succ m =>
      have := h2 m c (by simpa [colsSh] using hm)
      rwa [show j + 1 + m = j + (m + 1) by omega] at this
theorem cellOf_world (W : World) (a : Addr) : cellOf (fun b => W.heap[b]?) a = W.cell? a := rfl
theorem open_rows {r : Reach} {b0 : Nat} {t e : TypeId} {v : Value} {dt : DataW H} {ps : List MemPlace} (d : Nat) (ht : P.underlying t = some (.slice e)) {sh : List Shp} (hsh : shpT P d e = some sh) (hce : P.cellsOf e = sh.length)
    (hv : Value.okWide P w r b0 t v) (h : DataW.Trod enc P w base sp held t v dt ps) :
    ∃ (a : Option Addr) (len cap : Nat) (cols : List Col), v = .slice a len cap ∧ colsIs len sh cols ∧ (RowAt (fun b => w.heap[b]?) a len cols ∧ len ≤ cap) := by
  obtain ⟨a0, len0, cap0, rfl⟩ := okWide_slice ht hv
  obtain ⟨fuel, hf⟩ := h
  rcases Go.Deep.open_slice ht hf with ⟨hcs, _⟩ | ⟨a, len, cap, m, n, Dt, Pl, hcs, hb, hl, hm, hmm, _, hx⟩
  · simp only [Value.cells, List.cons.injEq, and_true] at hcs
    injection hcs with e1 e2 e3
    subst e1; subst e2; subst e3
    obtain ⟨h1, h2⟩ := colsSh_ok (cs := fun _ => []) (n := 0) sh 0 fun i hi => absurd hi (Nat.not_lt_zero _)
    refine ⟨none, 0, 0, _, rfl, h1, ⟨fun c hc => ?_, fun i hi => absurd hi (Nat.not_lt_zero _), Nat.zero_le _⟩, Nat.le_refl _⟩
    obtain ⟨k, hk⟩ := List.getElem?_of_mem hc
    exact (h2 k c hk).1
  · simp only [Value.cells, List.cons.injEq, and_true] at hcs
    injection hcs with e1 e2 e3
    subst e1; subst e2; subst e3
    have hml : len0 ≤ m := by rw [hmm]; split <;> omega
    obtain ⟨cs, hcs⟩ := Go.Deep.choose_lt (α := List Value) (p := fun i cs' => w.cells? base (a.add (i * P.cellsOf e)) (P.cellsOf e) = some cs' ∧ DataW.trod enc P w base sp held n e cs' = some (Dt i, Pl i)) (n := len0) fun i hi => hx i (by omega)
    have hcells : ∀ i, i < len0 → cellsIs sh (cs i) := fun i hi => shpT_ok d e sh n _ _ hsh (hcs i hi).2
    obtain ⟨h1, h2⟩ := colsSh_ok (cs := cs) (n := len0) sh 0 fun i hi k s hk => by
      obtain ⟨x, hx1, hx2⟩ := cellsIs_get (hcells i hi) k s hk
      rw [Nat.zero_add, List.getD_eq_getElem?_getD, hx1]
      exact hx2
    refine ⟨some a, len0, cap0, _, rfl, h1, ⟨fun c hc => ?_, fun i hi => ⟨a, rfl, fun j c hj => ?_⟩, by omega⟩, by omega⟩
    · obtain ⟨k, hk⟩ := List.getElem?_of_mem hc
      exact (h2 k c hk).1
    · obtain ⟨_, hlen, hget⟩ := World.cells?_some (hcs i hi).1
      have hj' : j < sh.length := by
        have := lt_of_get hj
        rwa [colsSh_len] at this
      rw [cellOf_world, colsSh_len, ← hce, ← Go.Deep.add_add, hget j (by omega), (h2 j c hj).2 i hi, Nat.zero_add, List.getD_eq_getElem?_getD]
      rw [List.getElem?_eq_getElem (by omega)]
      rfl
end
end Go.Sl
namespace Go.Proofs.YtajcpopikdpcmaaGreat
open Go.ChangeShapes Go.WideShapes Go.ChangeAt Go.RowKit Go.Joins Go.Sl
theorem LargeStays_own : ownKnob Tryz.prog.godebug = none := by kernel_rfl
theorem LargeStays_laidOut : laidOutB Tryz.prog = true := by kernel_rfl
set_option maxRecDepth 100000 in
theorem LargeStays_lifted (os : Os) (started : os.Started) (H : Type) (enc : TypeId × Value → H) :
    ReturnsInHanded {} Tryz.checked os 6 .any (Rows.largeStaysSpec.pre6 enc Tryz.prog Tryz.f6 Rows.largeStaysRow.domain false) (Rows.largeStaysSpec.post enc Tryz.prog Tryz.f6 false true false false) := by
  refine returnsInHanded_of_change (C := Tryz.checked) LargeStays_own started (by kernel_rfl) Tryz.func6
    (ChangeSpec.witness6 (enc := enc) (C := Tryz.checked) false ⟨#[], #[.agg #[.int .i64 0, .int .i64 0, .int .i64 0], .slice none 0 0, .agg #[.int .i64 0, .int .i64 0]], []⟩ 8 (by kernel_rfl) (by kernel_rfl) (by kernel_rfl) (by kernel_rfl)) ?_
  intro W base args ds gs before hval0 hW _ _
  have hval : ∀ (j : Nat) t v, Tryz.f6.params[j]? = some t → args[j]? = some v → Value.okWide Tryz.prog W .any base t v := hval0
  have hW' := hW
  obtain ⟨p, q, hA0, _, _, _, _⟩ := hW
  have hA : DataW.TrodAll enc Tryz.prog W 0 (fun _ => true) true Tryz.f6.params.toList args.toList ds p := hA0
  rw [Tryz.params6] at hA hval
  obtain ⟨v0, v1, v2, d0, d1, d2, p0, p1, p2, rfl, rfl, _, h0, h1, h2⟩ := trodAll_three hA
  obtain ⟨k0, rfl, hk0⟩ := open_flat 8 (by kernel_rfl) (sh := [.int .i64, .int .i64, .int .i64]) (by kernel_rfl) (hval 0 23 v0 rfl rfl) h0
  obtain ⟨_, r0_0, rfl, ⟨a0_0, rfl, wa0_0⟩, hk0⟩ := hk0
  have ba0_0 := bd_i64 wa0_0
  obtain ⟨_, r0_1, rfl, ⟨a0_1, rfl, wa0_1⟩, hk0⟩ := hk0
  have ba0_1 := bd_i64 wa0_1
  obtain ⟨_, r0_2, rfl, ⟨a0_2, rfl, wa0_2⟩, hk0⟩ := hk0
  have ba0_2 := bd_i64 wa0_2
  obtain rfl := hk0
  obtain ⟨s1, n1, c1, k1, rfl, hk1, hr1⟩ := open_rows 8 Tryz.underlying24 (sh := [.int .u32]) (by kernel_rfl) (by kernel_rfl) (hval 1 24 v1 rfl rfl) h1
  obtain ⟨_, r1_0, rfl, ⟨x1_0, rfl, hl1_0, hw1_0⟩, hk1⟩ := hk1
  obtain rfl := hk1
  subst hl1_0
  obtain ⟨k2, rfl, hk2⟩ := open_flat 8 (by kernel_rfl) (sh := [.int .i64, .int .i64]) (by kernel_rfl) (hval 2 57 v2 rfl rfl) h2
  obtain ⟨_, r2_0, rfl, ⟨a2_0, rfl, wa2_0⟩, hk2⟩ := hk2
  have ba2_0 := bd_i64 wa2_0
  obtain ⟨_, r2_1, rfl, ⟨a2_1, rfl, wa2_1⟩, hk2⟩ := hk2
  have ba2_1 := bd_i64 wa2_1
  obtain rfl := hk2
  clear hA0 hval0
  refine (LargeStays_plain a0_0 a0_1 a0_2 x1_0 a2_0 a2_1 s1 c1 hr1 (fun v hv => bd_u32 (hw1_0 v hv)) (Int.lt_add_one_iff.1 ba2_0.2) (Int.lt_add_one_iff.1 ba2_1.2) (Sat.start W)).mono fun e W' ⟨he, hS⟩ => ?_
  rw [show LargeStays a0_0 a0_1 a0_2 x1_0 a2_0 a2_1 = true from rfl] at he
  subst he
  exact ⟨_, rfl, law_post 4 LargeStays_laidOut hW' rfl rfl Tryz.underlying4 (by kernel_rfl) ⟨rfl, rfl, rfl⟩ hS.below⟩
theorem LargeStays_holds : Rows.LargeStaysSaid :=
  OpenClaim.holds_of_wide 6 Tryz.f6 rfl rfl rfl rfl rfl rfl rfl ⟨rfl, rfl, rfl, rfl, rfl⟩ rfl rfl rfl rfl rfl (by kernel_rfl) Tryz.func6 (by kernel_rfl)
    (of_decide_eq_true (by kernel_rfl)) (by unfold Func.isWrapper; rw [if_neg (of_decide_eq_false (by kernel_rfl))]; exact ⟨rfl, rfl⟩)
    (fun os started H enc _ => LargeStays_lifted os started H enc)
#print axioms LargeStays_holds
end Go.Proofs.YtajcpopikdpcmaaGreat
