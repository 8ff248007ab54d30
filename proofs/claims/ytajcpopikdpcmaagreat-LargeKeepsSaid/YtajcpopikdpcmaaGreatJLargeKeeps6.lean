/-
  Of every heap, behind Alloc just one block more is live, of so many pages, where none was; freed, the heap holds what it held, and as many pages are free: the law's function answers true for every configuration, values and number. Conditions: none.
-/
import Derived.Test.YtajcpopikdpcmaaGreatJLargeKeeps5
import Derived.ProofKit
import Derived.Lib.SmallJoins
import Derived.Deep.Slices
import Derived.OpenShut
import Derived.Test.YtajcpopikdpcmaaGreatRows
set_option linter.unusedSimpArgs false
set_option linter.unusedVariables false
namespace Go.Proofs.YtajcpopikdpcmaaGreat
open Go.Sl
theorem vals_bd (s : VS) : bdAll s.vals := by
  intro v hv
  unfold VS.vals at hv
  cases ha : s.all with
  | false => rw [ha] at hv; cases hv
  | true =>
    rw [ha, cond_true, List.mem_map] at hv
    obtain ⟨i, _, rfl⟩ := hv
    unfold VS.cur
    split
    · exact nv_bd _
    · split
      · exact nv_bd _
      · exact ⟨by decide, by decide⟩
theorem st_len (c : Cf) (xs : List Int) : (stateA c xs).1.length = (stateA c xs).2.1.length := by
  unfold stateA
  cases soundA c xs <;> simp
theorem same_self (xa xz : List Int) (u0 u1 u2 u3 u4 u5 u6 u7 : Int) : r12_Same xa xz u0 u1 u2 u3 u4 u5 u6 u7 xa xz u0 u1 u2 u3 u4 u5 u6 u7 = true := by simp [r12_Same]
theorem state_ok {c : Cf} {xs : List Int} (h : soundA c xs = true) : (stateA c xs).2.2.2.2.2.2.2.2.2.2 = true := by unfold stateA; rw [h]; rfl
theorem st_eta {x : StT} (h : x.2.2.2.2.2.2.2.2.2.2 = true) : (x.1, x.2.1, x.2.2.1, x.2.2.2.1, x.2.2.2.2.1, x.2.2.2.2.2.1, x.2.2.2.2.2.2.1, x.2.2.2.2.2.2.2.1, x.2.2.2.2.2.2.2.2.1, x.2.2.2.2.2.2.2.2.2.1, true) = x := by rw [← h]
theorem sound_state (c : Cf) (xs : List Int) : (stateA c xs).2.2.2.2.2.2.2.2.2.2 = soundA c xs := by
  unfold stateA
  cases soundA c xs <;> rfl
theorem st_few {c : Cf} (xs : List Int) (h : c.p ≤ 64) : (stateA c xs).1.length ≤ 40000 := by
  unfold stateA
  cases soundA c xs with
  | false => exact Nat.zero_le _
  | true =>
    have := blocksL_len c xs
    simp only [cond_true, List.length_map]; omega
theorem pg_w {sh : Int} (h : 10 ≤ sh ∧ sh ≤ 20) : IntKind.i64.wrap (1 * 2 ^ min (IntKind.u64.wrap sh).toNat 64) = pgB sh := by
  have h2 := (szB_ok h (k := 0) (by omega)).2.2.2.2
  have e1 : IntKind.u64.wrap sh = sh := by rw [IntKind.wrap_u64]; omega
  have e2 : min sh.toNat 64 = sh.toNat := by omega
  rw [e1, e2, Int.one_mul]
  show IntKind.i64.wrap (pgB sh) = _
  exact w64 (by omega)
theorem vals_long {c : Cf} {s : VS} (h : soundA c s.vals = true) : 30 ≤ (s.vals.length : Int) := (good_long (sound_good h (vals_bd s))).1
theorem insA_mem {b x : Int} : ∀ {l : List Int}, x ∈ l → x ∈ insA b l
  | y :: l, h => by
    unfold insA
    cases decide (y > b) with
    | true => simp only [cond_true, List.mem_cons]; exact .inr (List.mem_cons.1 h)
    | false =>
      simp only [cond_false, List.mem_cons]
      rcases List.mem_cons.1 h with h | h
      · exact .inl h
      · exact .inr (insA_mem h)
def l19_live : Bool := true
abbrev c_l19_live : Ct Sg := ⟨none, false, [], .b⟩
def e_l19_live : Entry Sg := entC c_l19_live l19_live ([])
def l19_live_w (R_ : Bool → Prop) : Prop := (∀ r0 : Int × Int × Int × List Int, r0 = (l14_Eight) → (∀ r3 : VS, r3 = (VS.whole (Prod.snd (Prod.snd (Prod.snd r0)))) → ((List.length (Prod.snd (Prod.snd (Prod.snd r0))) ≤ (1000000 : Nat)) ∧ ((List.length (Prod.snd (Prod.snd (Prod.snd r0))) ≤ (1000000 : Nat)) → ((∀ (v : Int), v ∈ Cm.liOf (hdC (List.drop (Sh.nC (σ := Sg) (Sh.agg [Sh.i IntKind.i64, Sh.i IntKind.i64, Sh.i IntKind.i64])) (restC (Ct.rob c_l14_Eight) (toCm (Ct.RK c_l14_Eight) r0)))) → bd32 v) ∧ ((∀ (v : Int), v ∈ Cm.liOf (hdC (List.drop (Sh.nC (σ := Sg) (Sh.agg [Sh.i IntKind.i64, Sh.i IntKind.i64, Sh.i IntKind.i64])) (restC (Ct.rob c_l14_Eight) (toCm (Ct.RK c_l14_Eight) r0)))) → bd32 v) → (∀ r7 : VS × Int × Bool, r7 = (large_Alloc r3 (Prod.fst r0) (Prod.fst (Prod.snd r0)) (Prod.fst (Prod.snd (Prod.snd r0))) (3 : Int)) → ((Prod.fst (Prod.snd r0) ≤ (1024 : Int)) ∧ ((Prod.fst (Prod.snd r0) ≤ (1024 : Int)) → (((Prod.snd (Prod.snd r7) && Prod.fst (Prod.snd r7) == (0 : Int)) = true → (∀ r10 : VS × Bool, r10 = (large_Resize (Prod.fst r7) (Prod.fst r0) (Prod.fst (Prod.snd r0)) (Prod.fst (Prod.snd (Prod.snd r0))) (0 : Int) (5 : Int)) → ((Prod.fst (Prod.snd r0) ≤ (1024 : Int)) ∧ ((Prod.fst (Prod.snd r0) ≤ (1024 : Int)) → (((0 : Int) ≤ (0 : Int)) ∧ (((0 : Int) ≤ (0 : Int)) → (((0 : Int) ≤ Prod.fst (Prod.snd r0)) ∧ (((0 : Int) ≤ Prod.fst (Prod.snd r0)) → (((1 : Int) ≤ If.l (iGet (VS.get (Prod.fst r7) (Cf.info { t := Prod.fst r0, p := Prod.fst (Prod.snd r0), s := Prod.fst (Prod.snd (Prod.snd r0)) } (0 : Int)))) ∧ If.l (iGet (VS.get (Prod.fst r7) (Cf.info { t := Prod.fst r0, p := Prod.fst (Prod.snd r0), s := Prod.fst (Prod.snd (Prod.snd r0)) } (0 : Int)))) ≤ Prod.fst (Prod.snd r0)) ∧ (((1 : Int) ≤ If.l (iGet (VS.get (Prod.fst r7) (Cf.info { t := Prod.fst r0, p := Prod.fst (Prod.snd r0), s := Prod.fst (Prod.snd (Prod.snd r0)) } (0 : Int)))) ∧ If.l (iGet (VS.get (Prod.fst r7) (Cf.info { t := Prod.fst r0, p := Prod.fst (Prod.snd r0), s := Prod.fst (Prod.snd (Prod.snd r0)) } (0 : Int)))) ≤ Prod.fst (Prod.snd r0)) → (((Prod.snd r10) = true → (∀ r16 : VS × Bool, r16 = (large_Resize (Prod.fst r10) (Prod.fst r0) (Prod.fst (Prod.snd r0)) (Prod.fst (Prod.snd (Prod.snd r0))) (0 : Int) (9 : Int)) → ((Prod.fst (Prod.snd r0) ≤ (1024 : Int)) ∧ ((Prod.fst (Prod.snd r0) ≤ (1024 : Int)) → (((0 : Int) ≤ (0 : Int)) ∧ (((0 : Int) ≤ (0 : Int)) → (((0 : Int) ≤ Prod.fst (Prod.snd r0)) ∧ (((0 : Int) ≤ Prod.fst (Prod.snd r0)) → (((1 : Int) ≤ If.l (iGet (VS.get (Prod.fst r10) (Cf.info { t := Prod.fst r0, p := Prod.fst (Prod.snd r0), s := Prod.fst (Prod.snd (Prod.snd r0)) } (0 : Int)))) ∧ If.l (iGet (VS.get (Prod.fst r10) (Cf.info { t := Prod.fst r0, p := Prod.fst (Prod.snd r0), s := Prod.fst (Prod.snd (Prod.snd r0)) } (0 : Int)))) ≤ Prod.fst (Prod.snd r0)) ∧ (((1 : Int) ≤ If.l (iGet (VS.get (Prod.fst r10) (Cf.info { t := Prod.fst r0, p := Prod.fst (Prod.snd r0), s := Prod.fst (Prod.snd (Prod.snd r0)) } (0 : Int)))) ∧ If.l (iGet (VS.get (Prod.fst r10) (Cf.info { t := Prod.fst r0, p := Prod.fst (Prod.snd r0), s := Prod.fst (Prod.snd (Prod.snd r0)) } (0 : Int)))) ≤ Prod.fst (Prod.snd r0)) → (((!Prod.snd r16) = true → (∀ r22 : VS × Int, r22 = ((VS.read (Prod.fst r16) (0 : Int), VS.get (Prod.fst r16) (0 : Int))) → (((Prod.snd r22 == (3 : Int)) = true → (∀ r24 : VS × Int, r24 = ((VS.read (Prod.fst r22) (1 : Int), VS.get (Prod.fst r22) (1 : Int))) → (R_ (Prod.snd r24 == (1 : Int))))) ∧ ((Prod.snd r22 == (3 : Int)) = false → (R_ (false)))))) ∧ ((!Prod.snd r16) = false → (R_ (false)))))))))))))) ∧ ((Prod.snd r10) = false → (R_ (false)))))))))))))) ∧ ((Prod.snd (Prod.snd r7) && Prod.fst (Prod.snd r7) == (0 : Int)) = false → (R_ (false)))))))))))))
theorem l19_live_begin : l19_live_w   (fun r__ => r__ = l19_live) := by
  unfold l19_live_w
  have h1 : l14_Eight.2.2.2.length ≤ 1000000 := by decide +kernel
  have h2 : ∀ v ∈ l14_Eight.2.2.2, bd32 v := by unfold bd32; decide +kernel
  have h3 : l14_Eight.2.1 ≤ 1024 := by decide +kernel
  have h4 : (0 : Int) ≤ l14_Eight.2.1 := by decide +kernel
  rintro r0 rfl
  repeat' first
    | (refine fun r hr => ?_; subst hr)
    | refine ⟨h1, fun _ => ?_⟩
    | refine ⟨h2, fun _ => ?_⟩
    | refine ⟨h3, fun _ => ?_⟩
    | refine ⟨h4, fun _ => ?_⟩
    | refine ⟨Int.le_refl 0, fun _ => ?_⟩
    | refine ⟨vals_bd _, fun _ => ?_⟩
    | refine ⟨fun hd => ?_, fun hd => ?_⟩
    | refine ⟨(by decide +kernel), fun _ => ?_⟩
    | fail
  all_goals first
    | (dsimp only; unfold l19_live; decide +kernel)
    | (exfalso; revert hd; decide +kernel)
    | (trace_state; fail)
theorem l19_live_ok : EntryOk Dg Tryz.prog 31 e_l19_live :=
  ent_wp Dg T_large_Resize_ok (I := [2999998]) Tryz.func31 mix (B := bodyOf Tryz.f31) (by kernel_rfl) rfl (by kernel_rfl) 400
    fun p0  hb hp => ⟨[], fun j => List.getD [] j (fun _ => False), fun j => List.getD [] j (fun _ => (0, 0, 0)), by kernel_rfl, ⟨l19_live_w   (fun r__ => r__ = l19_live), fun _ _ _ => by kernel_rfl, l19_live_begin  ⟩, trivial⟩
def T_l19_live : List (Nat × Entry Sg) := (31, e_l19_live) :: T_large_Resize
theorem T_l19_live_ok : TableOk Dg Tryz.prog T_l19_live := TableOk.cons Dg l19_live_ok T_large_Resize_ok
def l19_used (t : Int) (p : Int) (sh : Int) (xs : List Int) (g : Int) : Int := bif Cf.page ⟨t, p, sh⟩ g && (aInfo ⟨t, p, sh⟩ xs g).k == 2 then (aInfo ⟨t, p, sh⟩ xs g).l else 0
abbrev c_l19_used : Ct Sg := ⟨none, false, [.agg [.i .i64, .i .i64, .i .i64], .ro [some .u32], .i .i64], .i .i64⟩
def e_l19_used : Entry Sg := entC c_l19_used l19_used (fun t p sh xs g => [AGood ⟨t, p, sh⟩ xs])
def l19_used_w (t : Int) (p : Int) (sh : Int) (xs : List Int) (g : Int) (R_ : Int → Prop) : Prop := (((decide (g < (0 : Int)) || decide (g ≥ p)) = true → (R_ ((0 : Int)))) ∧ ((decide (g < (0 : Int)) || decide (g ≥ p)) = false → (∀ r3 : Int × Int × Int, r3 = (x_Info t p sh xs g) → ((AGood { t := t, p := p, s := sh } xs) ∧ ((AGood { t := t, p := p, s := sh } xs) → (((0 : Int) ≤ g ∧ g < p) ∧ (((0 : Int) ≤ g ∧ g < p) → (((Prod.fst r3 != (2 : Int)) = true → (R_ ((0 : Int)))) ∧ ((Prod.fst r3 != (2 : Int)) = false → (R_ (Prod.fst (Prod.snd r3))))))))))))
theorem l19_used_begin (t : Int) (p : Int) (sh : Int) (xs : List Int) (g : Int) (hp0 : AGood ⟨t, p, sh⟩ xs) (hl0 : xs.length ≤ 9223372036854775807) : l19_used_w t p sh xs g  (fun r__ => r__ = (l19_used t p sh xs g)) := by
  unfold l19_used_w
  refine ⟨fun hc => ?_, fun hc => ?_⟩
  · rw [page_ne t p sh g] at hc
    show _ = l19_used t p sh xs g
    rw [l19_used, (Bool.not_eq_true' _).mp hc]; rfl
  · rintro r rfl
    rw [page_ne t p sh g] at hc
    have hpg := (Bool.not_eq_false' _).mp hc
    have hg : 0 ≤ g ∧ g < p := by
      simp only [Cf.page, Bool.and_eq_true, decide_eq_true_eq] at hpg; exact hpg
    refine ⟨hp0, fun _ => ⟨hg, fun _ => ⟨fun hk => ?_, fun hk => ?_⟩⟩⟩
    · have hk' : ((aInfo ⟨t, p, sh⟩ xs g).k != 2) = true := hk
      show (0 : Int) = l19_used t p sh xs g
      rw [l19_used, hpg, Bool.true_and, (Bool.not_eq_true' _).mp hk']; rfl
    · have hk' : ((aInfo ⟨t, p, sh⟩ xs g).k != 2) = false := hk
      show _ = l19_used t p sh xs g
      rw [l19_used, hpg, Bool.true_and, (Bool.not_eq_false' _).mp hk']; rfl
theorem l19_used_ok : EntryOk Dg Tryz.prog 32 e_l19_used :=
  ent_wp Dg T_l19_live_ok (I := [2999998]) Tryz.func32 mix (B := bodyOf Tryz.f32) (by kernel_rfl) rfl (by kernel_rfl) 400
    fun p0 t p sh xs g hb hp => have hl0 : xs.length ≤ 9223372036854775807 := hb.2.1; have hp0 : AGood ⟨t, p, sh⟩ xs := hp _ (.head _); ⟨[], fun j => List.getD [] j (fun _ => False), fun j => List.getD [] j (fun _ => (0, 0, 0)), by kernel_rfl, ⟨l19_used_w t p sh xs g  (fun r__ => r__ = (l19_used t p sh xs g)), fun _ _ _ => by kernel_rfl, l19_used_begin t p sh xs g hp0 hl0 ⟩, trivial⟩
def T_l19_used : List (Nat × Entry Sg) := (32, e_l19_used) :: T_l19_live
theorem T_l19_used_ok : TableOk Dg Tryz.prog T_l19_used := TableOk.cons Dg l19_used_ok T_l19_live_ok
end Go.Proofs.YtajcpopikdpcmaaGreat
namespace Go.Proofs.YtajcpopikdpcmaaGreat
open Go.Sl
def LargeKeeps (t : Int) (p : Int) (sh : Int) (xs : List Int) (n : Int) : Bool := true
abbrev c_LargeKeeps : Ct Sg := ⟨none, false, [.agg [.i .i64, .i .i64, .i .i64], .ro [some .u32], .i .i64], .b⟩
def e_LargeKeeps : Entry Sg := entC c_LargeKeeps LargeKeeps (fun t p sh xs n => [bdAll xs])
def LargeKeeps_w (t : Int) (p : Int) (sh : Int) (xs : List Int) (n : Int) (Q0 : Nat → List Int → List Int → Int → Int → Int → Int → Int → Int → Int → Int → VS → Int → Bool → Prop) (Q1 : Nat → List Int → List Int → Int → Int → Int → Int → Int → Int → Int → Int → VS → Int → Prop) (Q2 : Int → Nat → List Int → List Int → Int → Int → Int → Int → Int → Int → Int → Int → VS → Int → Nat → List Int → List Int → Int → Int → Int → Int → Int → Int → Int → Int → Prop) (R_ : Bool → Prop) : Prop := (∀ r1 : Bool, r1 = (r12_Few t p sh) → (((!r1) = false → bdAll xs) ∧ (((!r1) = false → bdAll xs) → (((!r1 || !r12_Sound t p sh xs) = true → (∀ r4 : Bool, r4 = (true) → (R_ (r4)))) ∧ ((!r1 || !r12_Sound t p sh xs) = false → (∀ r4 : List Int × List Int × Int × Int × Int × Int × Int × Int × Int × Int × Bool, r4 = (r12_State t p sh xs) → ((bdAll xs) ∧ ((bdAll xs) → (∀ r8 : VS, r8 = (VS.whole xs) → ((List.length xs ≤ (1000000 : Nat)) ∧ ((List.length xs ≤ (1000000 : Nat)) → ((∀ (v : Int), v ∈ xs → bd32 v) ∧ ((∀ (v : Int), v ∈ xs → bd32 v) → (∀ r12 : VS × Int × Bool, r12 = (large_Alloc r8 t p sh n) → ((p ≤ (1024 : Int)) ∧ ((p ≤ (1024 : Int)) → (Q0 (List.length (Prod.fst r4)) (Prod.fst r4) (Prod.fst (Prod.snd r4)) (Prod.fst (Prod.snd (Prod.snd r4))) (Prod.fst (Prod.snd (Prod.snd (Prod.snd r4)))) (Prod.fst (Prod.snd (Prod.snd (Prod.snd (Prod.snd r4))))) (Prod.fst (Prod.snd (Prod.snd (Prod.snd (Prod.snd (Prod.snd r4)))))) (Prod.fst (Prod.snd (Prod.snd (Prod.snd (Prod.snd (Prod.snd (Prod.snd r4))))))) (Prod.fst (Prod.snd (Prod.snd (Prod.snd (Prod.snd (Prod.snd (Prod.snd (Prod.snd r4)))))))) (Prod.fst (Prod.snd (Prod.snd (Prod.snd (Prod.snd (Prod.snd (Prod.snd (Prod.snd (Prod.snd r4))))))))) (Prod.fst (Prod.snd (Prod.snd (Prod.snd (Prod.snd (Prod.snd (Prod.snd (Prod.snd (Prod.snd (Prod.snd r4)))))))))) (Prod.fst r12) (Prod.fst (Prod.snd r12)) (Prod.snd (Prod.snd r12)))))))))))))))))))
def LargeKeeps_w0 (t : Int) (p : Int) (sh : Int) (xs : List Int) (n : Int) (nw : Nat) (wa : List Int) (wz : List Int) (w0 : Int) (w1 : Int) (w2 : Int) (w3 : Int) (w4 : Int) (w5 : Int) (w6 : Int) (w7 : Int) (sv : VS) (q : Int) (ok : Bool) (Q0 : Nat → List Int → List Int → Int → Int → Int → Int → Int → Int → Int → Int → VS → Int → Bool → Prop) (Q1 : Nat → List Int → List Int → Int → Int → Int → Int → Int → Int → Int → Int → VS → Int → Prop) (Q2 : Int → Nat → List Int → List Int → Int → Int → Int → Int → Int → Int → Int → Int → VS → Int → Nat → List Int → List Int → Int → Int → Int → Int → Int → Int → Int → Int → Prop) (R_ : Bool → Prop) : Prop := (((!ok) = true → (∀ r1 : List Int × List Int, r1 = ((VS.wrote sv, VS.puts sv)) → (R_ ((↑(List.length (Prod.fst r1)) : Int) == (0 : Int) && true)))) ∧ ((!ok) = false → (Q1 (nw) (wa) (wz) (w0) (w1) (w2) (w3) (w4) (w5) (w6) (w7) (sv) (q))))
def LargeKeeps_I0 (t : Int) (p : Int) (sh : Int) (xs : List Int) (n : Int) (nw : Nat) (wa : List Int) (wz : List Int) (w0 : Int) (w1 : Int) (w2 : Int) (w3 : Int) (w4 : Int) (w5 : Int) (w6 : Int) (w7 : Int) (sv : VS) (q : Int) (ok : Bool) (r_ : Bool) : Prop := p ≤ 64 ∧ soundA ⟨t, p, sh⟩ xs = true ∧ (wa, wz, w0, w1, w2, w3, w4, w5, w6, w7, true) = stateA ⟨t, p, sh⟩ xs ∧ nw = wa.length ∧ sv = ((qLAlloc ⟨t, p, sh⟩ n).run (VS.whole xs)).1 ∧ q = ((qLAlloc ⟨t, p, sh⟩ n).run (VS.whole xs)).2.1 ∧ ok = ((qLAlloc ⟨t, p, sh⟩ n).run (VS.whole xs)).2.2 ∧ r_ = true
def LargeKeeps_w1 (t : Int) (p : Int) (sh : Int) (xs : List Int) (n : Int) (nw : Nat) (wa : List Int) (wz : List Int) (w0 : Int) (w1 : Int) (w2 : Int) (w3 : Int) (w4 : Int) (w5 : Int) (w6 : Int) (w7 : Int) (sv : VS) (q : Int) (Q0 : Nat → List Int → List Int → Int → Int → Int → Int → Int → Int → Int → Int → VS → Int → Bool → Prop) (Q1 : Nat → List Int → List Int → Int → Int → Int → Int → Int → Int → Int → Int → VS → Int → Prop) (Q2 : Int → Nat → List Int → List Int → Int → Int → Int → Int → Int → Int → Int → Int → VS → Int → Nat → List Int → List Int → Int → Int → Int → Int → Int → Int → Int → Int → Prop) (R_ : Bool → Prop) : Prop := (((0 : Int) ≤ IntKind.wrap IntKind.u64 sh) ∧ (((0 : Int) ≤ IntKind.wrap IntKind.u64 sh) → ((∀ r1 : List Int, r1 = (VS.vals sv) → ((∀ r3 : List Int × List Int × Int × Int × Int × Int × Int × Int × Int × Int × Bool, r3 = (r12_State t p sh r1) → ((bdAll r1) ∧ ((bdAll r1) → (((!Prod.snd (Prod.snd (Prod.snd (Prod.snd (Prod.snd (Prod.snd (Prod.snd (Prod.snd (Prod.snd (Prod.snd r3)))))))))) = true → (R_ (false))) ∧ ((!Prod.snd (Prod.snd (Prod.snd (Prod.snd (Prod.snd (Prod.snd (Prod.snd (Prod.snd (Prod.snd (Prod.snd r3)))))))))) = false → (∀ r8 : Bool, r8 = (r12_Has wa wz (IntKind.wrap IntKind.i64 (IntKind.wrap IntKind.i64 (q + (1 : Int)) * IntKind.wrap IntKind.i64 ((1 : Int) * (2 : Int) ^ min (Int.toNat (IntKind.wrap IntKind.u64 sh)) (64 : Nat))))) → (tw_ (((r8) = true → (R_ (false))) ∧ ((r8) = false → ((((↑(List.length (Prod.fst r3)) : Int) != IntKind.wrap IntKind.i64 ((↑nw : Int) + (1 : Int))) = true → (R_ (false))) ∧ (((↑(List.length (Prod.fst r3)) : Int) != IntKind.wrap IntKind.i64 ((↑nw : Int) + (1 : Int))) = false → (∀ r11 : List Int, r11 = (VS.vals sv) → (∀ r13 : Int, r13 = (l19_used t p sh r11 q) → ((AGood { t := t, p := p, s := sh } r11) ∧ ((AGood { t := t, p := p, s := sh } r11) → (((r13 != n) = false → (0 : Int) ≤ (0 : Int) ∧ (0 : Int) < (↑(List.length xs) : Int)) ∧ (((r13 != n) = false → (0 : Int) ≤ (0 : Int) ∧ (0 : Int) < (↑(List.length xs) : Int)) → (((r13 != n) = true → (R_ (false))) ∧ ((r13 != n) = false → (∀ r17 : List Int, r17 = (VS.vals sv) → ((false = false → (0 : Int) ≤ (0 : Int) ∧ (0 : Int) < (↑(List.length r17) : Int)) ∧ ((false = false → (0 : Int) ≤ (0 : Int) ∧ (0 : Int) < (↑(List.length r17) : Int)) → (((List.getD r17 (0 : Nat) (0 : Int) != IntKind.wrap IntKind.u32 (List.getD xs (0 : Nat) (0 : Int) - IntKind.wrap IntKind.u32 n)) = true → (R_ (false))) ∧ ((List.getD r17 (0 : Nat) (0 : Int) != IntKind.wrap IntKind.u32 (List.getD xs (0 : Nat) (0 : Int) - IntKind.wrap IntKind.u32 n)) = false → (Q2 ((0 : Int)) (nw) (wa) (wz) (w0) (w1) (w2) (w3) (w4) (w5) (w6) (w7) (sv) (q) (List.length (Prod.fst r3)) (Prod.fst r3) (Prod.fst (Prod.snd r3)) (Prod.fst (Prod.snd (Prod.snd r3))) (Prod.fst (Prod.snd (Prod.snd (Prod.snd r3)))) (Prod.fst (Prod.snd (Prod.snd (Prod.snd (Prod.snd r3))))) (Prod.fst (Prod.snd (Prod.snd (Prod.snd (Prod.snd (Prod.snd r3)))))) (Prod.fst (Prod.snd (Prod.snd (Prod.snd (Prod.snd (Prod.snd (Prod.snd r3))))))) (Prod.fst (Prod.snd (Prod.snd (Prod.snd (Prod.snd (Prod.snd (Prod.snd (Prod.snd r3)))))))) (Prod.fst (Prod.snd (Prod.snd (Prod.snd (Prod.snd (Prod.snd (Prod.snd (Prod.snd (Prod.snd r3))))))))) (Prod.fst (Prod.snd (Prod.snd (Prod.snd (Prod.snd (Prod.snd (Prod.snd (Prod.snd (Prod.snd (Prod.snd r3))))))))))))))))))))))))))))))))))) ∧ (∀ r4 : List Int × List Int × Int × Int × Int × Int × Int × Int × Int × Int × Bool, r4 = (r12_State t p sh r1) → ((bdAll r1) ∧ ((bdAll r1) → (((!Prod.snd (Prod.snd (Prod.snd (Prod.snd (Prod.snd (Prod.snd (Prod.snd (Prod.snd (Prod.snd (Prod.snd r4)))))))))) = true → (R_ (false))) ∧ ((!Prod.snd (Prod.snd (Prod.snd (Prod.snd (Prod.snd (Prod.snd (Prod.snd (Prod.snd (Prod.snd (Prod.snd r4)))))))))) = false → (∀ r8 : Bool, r8 = (r12_Has wa wz (IntKind.wrap IntKind.i64 (IntKind.wrap IntKind.i64 (q + (1 : Int)) * IntKind.wrap IntKind.i64 ((1 : Int) * (2 : Int) ^ min (Int.toNat (IntKind.wrap IntKind.u64 sh)) (64 : Nat))))) → (tw_ (((r8) = true → (R_ (false))) ∧ ((r8) = false → ((((↑(List.length (Prod.fst r4)) : Int) != IntKind.wrap IntKind.i64 ((↑nw : Int) + (1 : Int))) = true → (R_ (false))) ∧ (((↑(List.length (Prod.fst r4)) : Int) != IntKind.wrap IntKind.i64 ((↑nw : Int) + (1 : Int))) = false → (∀ r11 : List Int, r11 = (VS.vals sv) → (∀ r13 : Int, r13 = (l19_used t p sh r11 q) → ((AGood { t := t, p := p, s := sh } r11) ∧ ((AGood { t := t, p := p, s := sh } r11) → (((r13 != n) = false → (0 : Int) ≤ (0 : Int) ∧ (0 : Int) < (↑(List.length xs) : Int)) ∧ (((r13 != n) = false → (0 : Int) ≤ (0 : Int) ∧ (0 : Int) < (↑(List.length xs) : Int)) → (((r13 != n) = true → (R_ (false))) ∧ ((r13 != n) = false → (∀ r17 : List Int, r17 = (VS.vals sv) → ((false = false → (0 : Int) ≤ (0 : Int) ∧ (0 : Int) < (↑(List.length r17) : Int)) ∧ ((false = false → (0 : Int) ≤ (0 : Int) ∧ (0 : Int) < (↑(List.length r17) : Int)) → (((List.getD r17 (0 : Nat) (0 : Int) != IntKind.wrap IntKind.u32 (List.getD xs (0 : Nat) (0 : Int) - IntKind.wrap IntKind.u32 n)) = true → (R_ (false))) ∧ ((List.getD r17 (0 : Nat) (0 : Int) != IntKind.wrap IntKind.u32 (List.getD xs (0 : Nat) (0 : Int) - IntKind.wrap IntKind.u32 n)) = false → (Q2 ((0 : Int)) (nw) (wa) (wz) (w0) (w1) (w2) (w3) (w4) (w5) (w6) (w7) (sv) (q) (List.length (Prod.fst r4)) (Prod.fst r4) (Prod.fst (Prod.snd r4)) (Prod.fst (Prod.snd (Prod.snd r4))) (Prod.fst (Prod.snd (Prod.snd (Prod.snd r4)))) (Prod.fst (Prod.snd (Prod.snd (Prod.snd (Prod.snd r4))))) (Prod.fst (Prod.snd (Prod.snd (Prod.snd (Prod.snd (Prod.snd r4)))))) (Prod.fst (Prod.snd (Prod.snd (Prod.snd (Prod.snd (Prod.snd (Prod.snd r4))))))) (Prod.fst (Prod.snd (Prod.snd (Prod.snd (Prod.snd (Prod.snd (Prod.snd (Prod.snd r4)))))))) (Prod.fst (Prod.snd (Prod.snd (Prod.snd (Prod.snd (Prod.snd (Prod.snd (Prod.snd (Prod.snd r4))))))))) (Prod.fst (Prod.snd (Prod.snd (Prod.snd (Prod.snd (Prod.snd (Prod.snd (Prod.snd (Prod.snd (Prod.snd r4))))))))))))))))))))))))))))))))))))) ∧ (∀ r2 : List Int, r2 = (VS.vals sv) → (∀ r4 : List Int × List Int × Int × Int × Int × Int × Int × Int × Int × Int × Bool, r4 = (r12_State t p sh r2) → ((bdAll r2) ∧ ((bdAll r2) → (((!Prod.snd (Prod.snd (Prod.snd (Prod.snd (Prod.snd (Prod.snd (Prod.snd (Prod.snd (Prod.snd (Prod.snd r4)))))))))) = true → (R_ (false))) ∧ ((!Prod.snd (Prod.snd (Prod.snd (Prod.snd (Prod.snd (Prod.snd (Prod.snd (Prod.snd (Prod.snd (Prod.snd r4)))))))))) = false → (∀ r8 : Bool, r8 = (r12_Has wa wz (IntKind.wrap IntKind.i64 (IntKind.wrap IntKind.i64 (q + (1 : Int)) * IntKind.wrap IntKind.i64 ((1 : Int) * (2 : Int) ^ min (Int.toNat (IntKind.wrap IntKind.u64 sh)) (64 : Nat))))) → (tw_ (((r8) = true → (R_ (false))) ∧ ((r8) = false → ((((↑(List.length (Prod.fst r4)) : Int) != IntKind.wrap IntKind.i64 ((↑nw : Int) + (1 : Int))) = true → (R_ (false))) ∧ (((↑(List.length (Prod.fst r4)) : Int) != IntKind.wrap IntKind.i64 ((↑nw : Int) + (1 : Int))) = false → (∀ r11 : List Int, r11 = (VS.vals sv) → (∀ r13 : Int, r13 = (l19_used t p sh r11 q) → ((AGood { t := t, p := p, s := sh } r11) ∧ ((AGood { t := t, p := p, s := sh } r11) → (((r13 != n) = false → (0 : Int) ≤ (0 : Int) ∧ (0 : Int) < (↑(List.length xs) : Int)) ∧ (((r13 != n) = false → (0 : Int) ≤ (0 : Int) ∧ (0 : Int) < (↑(List.length xs) : Int)) → (((r13 != n) = true → (R_ (false))) ∧ ((r13 != n) = false → (∀ r17 : List Int, r17 = (VS.vals sv) → ((false = false → (0 : Int) ≤ (0 : Int) ∧ (0 : Int) < (↑(List.length r17) : Int)) ∧ ((false = false → (0 : Int) ≤ (0 : Int) ∧ (0 : Int) < (↑(List.length r17) : Int)) → (((List.getD r17 (0 : Nat) (0 : Int) != IntKind.wrap IntKind.u32 (List.getD xs (0 : Nat) (0 : Int) - IntKind.wrap IntKind.u32 n)) = true → (R_ (false))) ∧ ((List.getD r17 (0 : Nat) (0 : Int) != IntKind.wrap IntKind.u32 (List.getD xs (0 : Nat) (0 : Int) - IntKind.wrap IntKind.u32 n)) = false → (Q2 ((0 : Int)) (nw) (wa) (wz) (w0) (w1) (w2) (w3) (w4) (w5) (w6) (w7) (sv) (q) (List.length (Prod.fst r4)) (Prod.fst r4) (Prod.fst (Prod.snd r4)) (Prod.fst (Prod.snd (Prod.snd r4))) (Prod.fst (Prod.snd (Prod.snd (Prod.snd r4)))) (Prod.fst (Prod.snd (Prod.snd (Prod.snd (Prod.snd r4))))) (Prod.fst (Prod.snd (Prod.snd (Prod.snd (Prod.snd (Prod.snd r4)))))) (Prod.fst (Prod.snd (Prod.snd (Prod.snd (Prod.snd (Prod.snd (Prod.snd r4))))))) (Prod.fst (Prod.snd (Prod.snd (Prod.snd (Prod.snd (Prod.snd (Prod.snd (Prod.snd r4)))))))) (Prod.fst (Prod.snd (Prod.snd (Prod.snd (Prod.snd (Prod.snd (Prod.snd (Prod.snd (Prod.snd r4))))))))) (Prod.fst (Prod.snd (Prod.snd (Prod.snd (Prod.snd (Prod.snd (Prod.snd (Prod.snd (Prod.snd (Prod.snd r4)))))))))))))))))))))))))))))))))))))))
def LargeKeeps_I1 (t : Int) (p : Int) (sh : Int) (xs : List Int) (n : Int) (nw : Nat) (wa : List Int) (wz : List Int) (w0 : Int) (w1 : Int) (w2 : Int) (w3 : Int) (w4 : Int) (w5 : Int) (w6 : Int) (w7 : Int) (sv : VS) (q : Int) (r_ : Bool) : Prop := p ≤ 64 ∧ soundA ⟨t, p, sh⟩ xs = true ∧ (wa, wz, w0, w1, w2, w3, w4, w5, w6, w7, true) = stateA ⟨t, p, sh⟩ xs ∧ nw = wa.length ∧ ((qTake ⟨t, p, sh⟩ n).run (VS.whole xs)).2.2 = true ∧ q = ((qTake ⟨t, p, sh⟩ n).run (VS.whole xs)).2.1 ∧ sv = (lvAdd ((qTake ⟨t, p, sh⟩ n).run (VS.whole xs)).1 1) ∧ r_ = true
def LargeKeeps_w2 (t : Int) (p : Int) (sh : Int) (xs : List Int) (n : Int) (i : Int) (nw : Nat) (wa : List Int) (wz : List Int) (w0 : Int) (w1 : Int) (w2 : Int) (w3 : Int) (w4 : Int) (w5 : Int) (w6 : Int) (w7 : Int) (sv : VS) (q : Int) (nv_ : Nat) (va : List Int) (vz : List Int) (v0 : Int) (v1 : Int) (v2 : Int) (v3 : Int) (v4 : Int) (v5 : Int) (v6 : Int) (v7 : Int) (Q0 : Nat → List Int → List Int → Int → Int → Int → Int → Int → Int → Int → Int → VS → Int → Bool → Prop) (Q1 : Nat → List Int → List Int → Int → Int → Int → Int → Int → Int → Int → Int → VS → Int → Prop) (Q2 : Int → Nat → List Int → List Int → Int → Int → Int → Int → Int → Int → Int → Int → VS → Int → Nat → List Int → List Int → Int → Int → Int → Int → Int → Int → Int → Int → Prop) (R_ : Bool → Prop) : Prop := (((decide (i < (↑nw : Int))) = true → (((0 : Int) ≤ i ∧ i < (↑nw : Int)) ∧ (((0 : Int) ≤ i ∧ i < (↑nw : Int)) → (((!r12_Has va vz (List.getD wa (Int.toNat i) (0 : Int))) = true → (R_ (false))) ∧ ((!r12_Has va vz (List.getD wa (Int.toNat i) (0 : Int))) = false → (Q2 (IntKind.wrap IntKind.i64 (i + (1 : Int))) (nw) (wa) (wz) (w0) (w1) (w2) (w3) (w4) (w5) (w6) (w7) (sv) (q) (nv_) (va) (vz) (v0) (v1) (v2) (v3) (v4) (v5) (v6) (v7))))))) ∧ ((decide (i < (↑nw : Int))) = false → (∀ r1 : VS, r1 = (large_Free sv t p sh q) → ((p ≤ (1024 : Int)) ∧ ((p ≤ (1024 : Int)) → (((0 : Int) ≤ q) ∧ (((0 : Int) ≤ q) → ((∀ r4 : List Int, r4 = (VS.vals r1) → ((∀ r6 : List Int × List Int × Int × Int × Int × Int × Int × Int × Int × Int × Bool, r6 = (r12_State t p sh r4) → ((bdAll r4) ∧ ((bdAll r4) → (((Prod.snd (Prod.snd (Prod.snd (Prod.snd (Prod.snd (Prod.snd (Prod.snd (Prod.snd (Prod.snd (Prod.snd r6)))))))))) = true → (∀ r11 : Bool, r11 = (r12_Same (Prod.fst r6) (Prod.fst (Prod.snd r6)) (Prod.fst (Prod.snd (Prod.snd r6))) (Prod.fst (Prod.snd (Prod.snd (Prod.snd r6)))) (Prod.fst (Prod.snd (Prod.snd (Prod.snd (Prod.snd r6))))) (Prod.fst (Prod.snd (Prod.snd (Prod.snd (Prod.snd (Prod.snd r6)))))) (Prod.fst (Prod.snd (Prod.snd (Prod.snd (Prod.snd (Prod.snd (Prod.snd r6))))))) (Prod.fst (Prod.snd (Prod.snd (Prod.snd (Prod.snd (Prod.snd (Prod.snd (Prod.snd r6)))))))) (Prod.fst (Prod.snd (Prod.snd (Prod.snd (Prod.snd (Prod.snd (Prod.snd (Prod.snd (Prod.snd r6))))))))) (Prod.fst (Prod.snd (Prod.snd (Prod.snd (Prod.snd (Prod.snd (Prod.snd (Prod.snd (Prod.snd (Prod.snd r6)))))))))) wa wz w0 w1 w2 w3 w4 w5 w6 w7) → ((List.length (Prod.fst r6) = List.length (Prod.fst (Prod.snd r6))) ∧ ((List.length (Prod.fst r6) = List.length (Prod.fst (Prod.snd r6))) → ((List.length wa = List.length wz) ∧ ((List.length wa = List.length wz) → ((r11 = true → (0 : Int) ≤ (0 : Int) ∧ (0 : Int) < (↑(List.length xs) : Int)) ∧ ((r11 = true → (0 : Int) ≤ (0 : Int) ∧ (0 : Int) < (↑(List.length xs) : Int)) → (((r11) = true → (∀ r16 : List Int, r16 = (VS.vals r1) → ((true = true → (0 : Int) ≤ (0 : Int) ∧ (0 : Int) < (↑(List.length r16) : Int)) ∧ ((true = true → (0 : Int) ≤ (0 : Int) ∧ (0 : Int) < (↑(List.length r16) : Int)) → (((List.getD r16 (0 : Nat) (0 : Int) == List.getD xs (0 : Nat) (0 : Int)) = true → (∀ r20 : Bool, r20 = (true) → (R_ (r20)))) ∧ ((List.getD r16 (0 : Nat) (0 : Int) == List.getD xs (0 : Nat) (0 : Int)) = false → (R_ (false)))))))) ∧ ((r11) = false → (R_ (false)))))))))))) ∧ ((Prod.snd (Prod.snd (Prod.snd (Prod.snd (Prod.snd (Prod.snd (Prod.snd (Prod.snd (Prod.snd (Prod.snd r6)))))))))) = false → (R_ (false))))))) ∧ (∀ r7 : List Int × List Int × Int × Int × Int × Int × Int × Int × Int × Int × Bool, r7 = (r12_State t p sh r4) → ((bdAll r4) ∧ ((bdAll r4) → (((Prod.snd (Prod.snd (Prod.snd (Prod.snd (Prod.snd (Prod.snd (Prod.snd (Prod.snd (Prod.snd (Prod.snd r7)))))))))) = true → (∀ r11 : Bool, r11 = (r12_Same (Prod.fst r7) (Prod.fst (Prod.snd r7)) (Prod.fst (Prod.snd (Prod.snd r7))) (Prod.fst (Prod.snd (Prod.snd (Prod.snd r7)))) (Prod.fst (Prod.snd (Prod.snd (Prod.snd (Prod.snd r7))))) (Prod.fst (Prod.snd (Prod.snd (Prod.snd (Prod.snd (Prod.snd r7)))))) (Prod.fst (Prod.snd (Prod.snd (Prod.snd (Prod.snd (Prod.snd (Prod.snd r7))))))) (Prod.fst (Prod.snd (Prod.snd (Prod.snd (Prod.snd (Prod.snd (Prod.snd (Prod.snd r7)))))))) (Prod.fst (Prod.snd (Prod.snd (Prod.snd (Prod.snd (Prod.snd (Prod.snd (Prod.snd (Prod.snd r7))))))))) (Prod.fst (Prod.snd (Prod.snd (Prod.snd (Prod.snd (Prod.snd (Prod.snd (Prod.snd (Prod.snd (Prod.snd r7)))))))))) wa wz w0 w1 w2 w3 w4 w5 w6 w7) → ((List.length (Prod.fst r7) = List.length (Prod.fst (Prod.snd r7))) ∧ ((List.length (Prod.fst r7) = List.length (Prod.fst (Prod.snd r7))) → ((List.length wa = List.length wz) ∧ ((List.length wa = List.length wz) → ((r11 = true → (0 : Int) ≤ (0 : Int) ∧ (0 : Int) < (↑(List.length xs) : Int)) ∧ ((r11 = true → (0 : Int) ≤ (0 : Int) ∧ (0 : Int) < (↑(List.length xs) : Int)) → (((r11) = true → (∀ r16 : List Int, r16 = (VS.vals r1) → ((true = true → (0 : Int) ≤ (0 : Int) ∧ (0 : Int) < (↑(List.length r16) : Int)) ∧ ((true = true → (0 : Int) ≤ (0 : Int) ∧ (0 : Int) < (↑(List.length r16) : Int)) → (((List.getD r16 (0 : Nat) (0 : Int) == List.getD xs (0 : Nat) (0 : Int)) = true → (∀ r20 : Bool, r20 = (true) → (R_ (r20)))) ∧ ((List.getD r16 (0 : Nat) (0 : Int) == List.getD xs (0 : Nat) (0 : Int)) = false → (R_ (false)))))))) ∧ ((r11) = false → (R_ (false)))))))))))) ∧ ((Prod.snd (Prod.snd (Prod.snd (Prod.snd (Prod.snd (Prod.snd (Prod.snd (Prod.snd (Prod.snd (Prod.snd r7)))))))))) = false → (R_ (false))))))))) ∧ (∀ r5 : List Int, r5 = (VS.vals r1) → (∀ r7 : List Int × List Int × Int × Int × Int × Int × Int × Int × Int × Int × Bool, r7 = (r12_State t p sh r5) → ((bdAll r5) ∧ ((bdAll r5) → (((Prod.snd (Prod.snd (Prod.snd (Prod.snd (Prod.snd (Prod.snd (Prod.snd (Prod.snd (Prod.snd (Prod.snd r7)))))))))) = true → (∀ r11 : Bool, r11 = (r12_Same (Prod.fst r7) (Prod.fst (Prod.snd r7)) (Prod.fst (Prod.snd (Prod.snd r7))) (Prod.fst (Prod.snd (Prod.snd (Prod.snd r7)))) (Prod.fst (Prod.snd (Prod.snd (Prod.snd (Prod.snd r7))))) (Prod.fst (Prod.snd (Prod.snd (Prod.snd (Prod.snd (Prod.snd r7)))))) (Prod.fst (Prod.snd (Prod.snd (Prod.snd (Prod.snd (Prod.snd (Prod.snd r7))))))) (Prod.fst (Prod.snd (Prod.snd (Prod.snd (Prod.snd (Prod.snd (Prod.snd (Prod.snd r7)))))))) (Prod.fst (Prod.snd (Prod.snd (Prod.snd (Prod.snd (Prod.snd (Prod.snd (Prod.snd (Prod.snd r7))))))))) (Prod.fst (Prod.snd (Prod.snd (Prod.snd (Prod.snd (Prod.snd (Prod.snd (Prod.snd (Prod.snd (Prod.snd r7)))))))))) wa wz w0 w1 w2 w3 w4 w5 w6 w7) → ((List.length (Prod.fst r7) = List.length (Prod.fst (Prod.snd r7))) ∧ ((List.length (Prod.fst r7) = List.length (Prod.fst (Prod.snd r7))) → ((List.length wa = List.length wz) ∧ ((List.length wa = List.length wz) → ((r11 = true → (0 : Int) ≤ (0 : Int) ∧ (0 : Int) < (↑(List.length xs) : Int)) ∧ ((r11 = true → (0 : Int) ≤ (0 : Int) ∧ (0 : Int) < (↑(List.length xs) : Int)) → (((r11) = true → (∀ r16 : List Int, r16 = (VS.vals r1) → ((true = true → (0 : Int) ≤ (0 : Int) ∧ (0 : Int) < (↑(List.length r16) : Int)) ∧ ((true = true → (0 : Int) ≤ (0 : Int) ∧ (0 : Int) < (↑(List.length r16) : Int)) → (((List.getD r16 (0 : Nat) (0 : Int) == List.getD xs (0 : Nat) (0 : Int)) = true → (∀ r20 : Bool, r20 = (true) → (R_ (r20)))) ∧ ((List.getD r16 (0 : Nat) (0 : Int) == List.getD xs (0 : Nat) (0 : Int)) = false → (R_ (false)))))))) ∧ ((r11) = false → (R_ (false)))))))))))) ∧ ((Prod.snd (Prod.snd (Prod.snd (Prod.snd (Prod.snd (Prod.snd (Prod.snd (Prod.snd (Prod.snd (Prod.snd r7)))))))))) = false → (R_ (false))))))))))))))))
def LargeKeeps_I2 (t : Int) (p : Int) (sh : Int) (xs : List Int) (n : Int) (i : Int) (nw : Nat) (wa : List Int) (wz : List Int) (w0 : Int) (w1 : Int) (w2 : Int) (w3 : Int) (w4 : Int) (w5 : Int) (w6 : Int) (w7 : Int) (sv : VS) (q : Int) (nv_ : Nat) (va : List Int) (vz : List Int) (v0 : Int) (v1 : Int) (v2 : Int) (v3 : Int) (v4 : Int) (v5 : Int) (v6 : Int) (v7 : Int) (r_ : Bool) : Prop := p ≤ 64 ∧ soundA ⟨t, p, sh⟩ xs = true ∧ (wa, wz, w0, w1, w2, w3, w4, w5, w6, w7, true) = stateA ⟨t, p, sh⟩ xs ∧ nw = wa.length ∧ ((qTake ⟨t, p, sh⟩ n).run (VS.whole xs)).2.2 = true ∧ q = ((qTake ⟨t, p, sh⟩ n).run (VS.whole xs)).2.1 ∧ sv = (lvAdd ((qTake ⟨t, p, sh⟩ n).run (VS.whole xs)).1 1) ∧ (va, vz, v0, v1, v2, v3, v4, v5, v6, v7, true) = stateA ⟨t, p, sh⟩ (lvAdd ((qTake ⟨t, p, sh⟩ n).run (VS.whole xs)).1 1).vals ∧ nv_ = va.length ∧ (0 ≤ i ∧ i ≤ wa.length) ∧ r_ = true
theorem LargeKeeps_begin (t : Int) (p : Int) (sh : Int) (xs : List Int) (n : Int) (hp0 : bdAll xs) (hl0 : xs.length ≤ 9223372036854775807) : LargeKeeps_w t p sh xs n (fun nw' wa' wz' w0' w1' w2' w3' w4' w5' w6' w7' sv' q' ok' => LargeKeeps_I0 t p sh xs n nw' wa' wz' w0' w1' w2' w3' w4' w5' w6' w7' sv' q' ok' (LargeKeeps t p sh xs n)) (fun nw' wa' wz' w0' w1' w2' w3' w4' w5' w6' w7' sv' q' => LargeKeeps_I1 t p sh xs n nw' wa' wz' w0' w1' w2' w3' w4' w5' w6' w7' sv' q' (LargeKeeps t p sh xs n)) (fun i' nw' wa' wz' w0' w1' w2' w3' w4' w5' w6' w7' sv' q' nv_' va' vz' v0' v1' v2' v3' v4' v5' v6' v7' => LargeKeeps_I2 t p sh xs n i' nw' wa' wz' w0' w1' w2' w3' w4' w5' w6' w7' sv' q' nv_' va' vz' v0' v1' v2' v3' v4' v5' v6' v7' (LargeKeeps t p sh xs n)) (fun r__ => r__ = (LargeKeeps t p sh xs n)) := by
  unfold LargeKeeps_w
  try unfold LargeKeeps_I0
  try unfold LargeKeeps_I1
  try unfold LargeKeeps_I2
  rintro r1 rfl
  refine ⟨fun _ => hp0, fun _ => ⟨fun hc => (by rintro r rfl; rfl), fun hc => ?_⟩⟩
  have hfs : p ≤ 64 ∧ soundA ⟨t, p, sh⟩ xs = true := by
    simp only [r12_Few, r12_Sound, Bool.or_eq_false_iff, Bool.not_eq_false', decide_eq_true_eq] at hc
    exact hc
  have hs := hfs.2
  have hgood := sound_good hs hp0
  have hlong := good_long hgood
  have hlen := hlong.2
  have hok := Cf.ok_iff.1 hgood.ok
  simp only at hok
  have hp : p ≤ 1024 := by omega
  have hpb : p ≤ 9223372036854775807 := by omega
  rintro r4 rfl
  refine ⟨hp0, fun _ => ?_⟩
  rintro r8 rfl
  refine ⟨hlen, fun _ => ⟨hp0, fun _ => ?_⟩⟩
  rintro r12 rfl
  exact ⟨hp, fun _ => ⟨hfs.1, hs, st_eta (state_ok hs), rfl, rfl, rfl, rfl, rfl⟩⟩
theorem LargeKeeps_step0 (t : Int) (p : Int) (sh : Int) (xs : List Int) (n : Int) (hp0 : bdAll xs) (hl0 : xs.length ≤ 9223372036854775807) (nw : Nat) (wa : List Int) (wz : List Int) (w0 : Int) (w1 : Int) (w2 : Int) (w3 : Int) (w4 : Int) (w5 : Int) (w6 : Int) (w7 : Int) (sv : VS) (q : Int) (ok : Bool) {r_ : Bool} (hI : LargeKeeps_I0 t p sh xs n nw wa wz w0 w1 w2 w3 w4 w5 w6 w7 sv q ok r_) : LargeKeeps_w0 t p sh xs n nw wa wz w0 w1 w2 w3 w4 w5 w6 w7 sv q ok (fun nw' wa' wz' w0' w1' w2' w3' w4' w5' w6' w7' sv' q' ok' => LargeKeeps_I0 t p sh xs n nw' wa' wz' w0' w1' w2' w3' w4' w5' w6' w7' sv' q' ok' r_ ∧ lx (9, 0, 0) (9, 0, 0)) (fun nw' wa' wz' w0' w1' w2' w3' w4' w5' w6' w7' sv' q' => LargeKeeps_I1 t p sh xs n nw' wa' wz' w0' w1' w2' w3' w4' w5' w6' w7' sv' q' r_ ∧ lx (8, 0, 0) (9, 0, 0)) (fun i' nw' wa' wz' w0' w1' w2' w3' w4' w5' w6' w7' sv' q' nv_' va' vz' v0' v1' v2' v3' v4' v5' v6' v7' => LargeKeeps_I2 t p sh xs n i' nw' wa' wz' w0' w1' w2' w3' w4' w5' w6' w7' sv' q' nv_' va' vz' v0' v1' v2' v3' v4' v5' v6' v7' r_ ∧ lx (7, (wa'.length - i').toNat, 0) (9, 0, 0)) (fun r__ => r__ = r_) := by
  unfold LargeKeeps_I0 at hI
  unfold LargeKeeps_w0
  try unfold LargeKeeps_I0
  try unfold LargeKeeps_I1
  try unfold LargeKeeps_I2
  obtain ⟨hfew, hs, hw, hnw, hsv, hq, hk, hr⟩ := hI
  have hgood := sound_good hs hp0
  have hlong := good_long hgood
  have hlen := hlong.2
  have hok := Cf.ok_iff.1 hgood.ok
  simp only at hok
  have hp : p ≤ 1024 := by omega
  have hpb : p ≤ 9223372036854775807 := by omega
  obtain ⟨k1, k2⟩ := keep_law (c := ⟨t, p, sh⟩) hp0 hs n
  obtain ⟨y1, y2⟩ := lalloc_run (c := ⟨t, p, sh⟩) n (VS.whole xs)
  by_cases hT : ((qTake ⟨t, p, sh⟩ n).run (VS.whole xs)).2.2 = true
  case neg =>
    have hT : ((qTake ⟨t, p, sh⟩ n).run (VS.whole xs)).2.2 = false := by simpa using hT
    rw [y2 hT] at hsv hk
    have hk : ok = false := hk
    have e : sv.wrote = [] := by rw [hsv]; exact (k1 hT).2
    rw [hk]
    refine ⟨fun _ => ?_, fun hd => by cases hd⟩
    rintro r1 rfl
    show (((sv.wrote.length : Nat) : Int) == 0 && l19_live) = r_
    rw [e, hr]; rfl
  case pos =>
    rw [y1 hT] at hsv hq hk
    have hk : ok = true := hk
    rw [hk]
    exact ⟨fun hd => (by cases hd), fun _ => ⟨⟨hfew, hs, hw, hnw, hT, hq, hsv, hr⟩, lxo_⟩⟩
theorem LargeKeeps_step1 (t : Int) (p : Int) (sh : Int) (xs : List Int) (n : Int) (hp0 : bdAll xs) (hl0 : xs.length ≤ 9223372036854775807) (nw : Nat) (wa : List Int) (wz : List Int) (w0 : Int) (w1 : Int) (w2 : Int) (w3 : Int) (w4 : Int) (w5 : Int) (w6 : Int) (w7 : Int) (sv : VS) (q : Int) {r_ : Bool} (hI : LargeKeeps_I1 t p sh xs n nw wa wz w0 w1 w2 w3 w4 w5 w6 w7 sv q r_) : LargeKeeps_w1 t p sh xs n nw wa wz w0 w1 w2 w3 w4 w5 w6 w7 sv q (fun nw' wa' wz' w0' w1' w2' w3' w4' w5' w6' w7' sv' q' ok' => LargeKeeps_I0 t p sh xs n nw' wa' wz' w0' w1' w2' w3' w4' w5' w6' w7' sv' q' ok' r_ ∧ lx (9, 0, 0) (8, 0, 0)) (fun nw' wa' wz' w0' w1' w2' w3' w4' w5' w6' w7' sv' q' => LargeKeeps_I1 t p sh xs n nw' wa' wz' w0' w1' w2' w3' w4' w5' w6' w7' sv' q' r_ ∧ lx (8, 0, 0) (8, 0, 0)) (fun i' nw' wa' wz' w0' w1' w2' w3' w4' w5' w6' w7' sv' q' nv_' va' vz' v0' v1' v2' v3' v4' v5' v6' v7' => LargeKeeps_I2 t p sh xs n i' nw' wa' wz' w0' w1' w2' w3' w4' w5' w6' w7' sv' q' nv_' va' vz' v0' v1' v2' v3' v4' v5' v6' v7' r_ ∧ lx (7, (wa'.length - i').toNat, 0) (8, 0, 0)) (fun r__ => r__ = r_) := by
  unfold LargeKeeps_I1 at hI
  unfold LargeKeeps_w1
  try unfold LargeKeeps_I0
  try unfold LargeKeeps_I1
  try unfold LargeKeeps_I2
  obtain ⟨hfew, hs, hw, hnw, hT, hq, hsv, hr⟩ := hI
  have hgood := sound_good hs hp0
  have hlong := good_long hgood
  have hlen := hlong.2
  have hok := Cf.ok_iff.1 hgood.ok
  simp only at hok
  have hp : p ≤ 1024 := by omega
  have hpb : p ≤ 9223372036854775807 := by omega
  obtain ⟨k1, k2⟩ := keep_law (c := ⟨t, p, sh⟩) hp0 hs n
  obtain ⟨q', g1, g2, s1, s2, a1, a2, f1, ne, _⟩ := k2 hT
  have hqq : q = q' := hq.trans g1
  subst hqq
  simp only at g2 s1 s2 a1 a2 f1 ne
  rw [← hsv] at s1 s2 a1 a2 f1
  have hpg := (szB_ok hok.2.2 (k := 0) (by omega)).2.2.2.2
  have b1 : 0 ≤ (q + 1) * pgB sh ∧ (q + 1) * pgB sh ≤ 64 * 1048576 := ⟨Int.mul_nonneg (by omega) (by omega), Int.mul_le_mul (by omega) (by omega) (by omega) (by omega)⟩
  rw [pg_w hok.2.2, w64 (n := q + 1) (by omega), w64 (n := (q + 1) * pgB sh) (by omega)]
  have hw1 : wa = (stateA ⟨t, p, sh⟩ xs).1 := congrArg (·.1) hw
  have hw2 : wz = (stateA ⟨t, p, sh⟩ xs).2.1 := congrArg (·.2.1) hw
  have hl2 : wa.length ≤ 40000 := by rw [hw1]; exact st_few (c := ⟨t, p, sh⟩) xs hfew
  have e5 : r12_State t p sh sv.vals = (insA ((q + 1) * pgB sh) wa, insZ ((q + 1) * pgB sh) (n * pgB sh) wa wz, w0, w1, w2, w3, w4, w5, w6, w7, true) := by
    show stateA ⟨t, p, sh⟩ sv.vals = _
    rw [s2, ← hw]; rfl
  have hH : r12_Has wa wz ((q + 1) * pgB sh) = false := by
    show wa.contains ((q + 1) * pgB sh) = false
    rw [← Bool.not_eq_true, List.contains_iff_mem]
    intro h
    rw [hw1] at h
    exact ne _ h rfl
  have hgd : AGood ⟨t, p, sh⟩ sv.vals := sound_good s1 (vals_bd _)
  have hU : (l19_used t p sh sv.vals q != n) = false := by
    have hpq : Cf.page ⟨t, p, sh⟩ q = true := Cf.page_iff.2 ⟨g2.1, by show q < p; omega⟩
    unfold l19_used
    rw [hpq, a1, a2]; simp
  have hlv := vals_long s1
  have hL : ((((insA ((q + 1) * pgB sh) wa).length : Nat) : Int) != IntKind.wrap IntKind.i64 ((nw : Int) + 1)) = false := by
    rw [insA_len, hnw, w64 (n := ((wa.length : Nat) : Int) + 1) (by omega)]; simp
  have h0 : (sv.vals.getD 0 0 != IntKind.wrap IntKind.u32 (xs.getD 0 0 - IntKind.wrap IntKind.u32 n)) = false := by
    have h1 : sv.vals.getD 0 0 = cel sv.vals 0 := rfl
    have h2 : xs.getD 0 0 = cel xs 0 := rfl
    rw [h1, h2, f1]
    simp only [wrapu_nv, nvsub, bne_eq_false_iff_eq]; rfl
  refine ⟨by rw [IntKind.wrap_u64]; omega, fun _ => ?_⟩
  repeat' first
    | (refine fun r hr => ?_; subst hr)
    | refine ⟨vals_bd _, fun _ => ?_⟩
    | refine ⟨hgd, fun _ => ?_⟩
    | (refine And.intro (fun r hr => ?_) (fun r hr => ?_) <;> subst hr)
    | (rw [e5]; refine ⟨fun hd => (by cases hd), fun _ => ?_⟩)
    | (unfold tw_; refine And.intro ?_ ?_)
    | (rw [hH]; refine ⟨fun hd => (by cases hd), fun _ => ?_⟩)
    | (dsimp only; rw [hL]; refine ⟨fun hd => (by cases hd), fun _ => ?_⟩)
    | (rw [hU]; refine ⟨fun _ => ⟨Int.le_refl 0, by omega⟩, fun _ => ⟨fun hd => (by cases hd), fun _ => ?_⟩⟩)
    | (rw [h0]; refine ⟨fun _ => ⟨Int.le_refl 0, by omega⟩, fun _ => ⟨fun hd => (by cases hd), fun _ => ?_⟩⟩)
    | fail
  all_goals
    exact ⟨⟨hfew, hs, hw, hnw, hT, hq, hsv, by rw [← hsv]; exact e5.symm, rfl, ⟨Int.le_refl 0, by omega⟩, hr⟩, lxo_⟩
theorem LargeKeeps_step2 (t : Int) (p : Int) (sh : Int) (xs : List Int) (n : Int) (hp0 : bdAll xs) (hl0 : xs.length ≤ 9223372036854775807) (i : Int) (nw : Nat) (wa : List Int) (wz : List Int) (w0 : Int) (w1 : Int) (w2 : Int) (w3 : Int) (w4 : Int) (w5 : Int) (w6 : Int) (w7 : Int) (sv : VS) (q : Int) (nv_ : Nat) (va : List Int) (vz : List Int) (v0 : Int) (v1 : Int) (v2 : Int) (v3 : Int) (v4 : Int) (v5 : Int) (v6 : Int) (v7 : Int) {r_ : Bool} (hI : LargeKeeps_I2 t p sh xs n i nw wa wz w0 w1 w2 w3 w4 w5 w6 w7 sv q nv_ va vz v0 v1 v2 v3 v4 v5 v6 v7 r_) : LargeKeeps_w2 t p sh xs n i nw wa wz w0 w1 w2 w3 w4 w5 w6 w7 sv q nv_ va vz v0 v1 v2 v3 v4 v5 v6 v7 (fun nw' wa' wz' w0' w1' w2' w3' w4' w5' w6' w7' sv' q' ok' => LargeKeeps_I0 t p sh xs n nw' wa' wz' w0' w1' w2' w3' w4' w5' w6' w7' sv' q' ok' r_ ∧ lx (9, 0, 0) (7, (wa.length - i).toNat, 0)) (fun nw' wa' wz' w0' w1' w2' w3' w4' w5' w6' w7' sv' q' => LargeKeeps_I1 t p sh xs n nw' wa' wz' w0' w1' w2' w3' w4' w5' w6' w7' sv' q' r_ ∧ lx (8, 0, 0) (7, (wa.length - i).toNat, 0)) (fun i' nw' wa' wz' w0' w1' w2' w3' w4' w5' w6' w7' sv' q' nv_' va' vz' v0' v1' v2' v3' v4' v5' v6' v7' => LargeKeeps_I2 t p sh xs n i' nw' wa' wz' w0' w1' w2' w3' w4' w5' w6' w7' sv' q' nv_' va' vz' v0' v1' v2' v3' v4' v5' v6' v7' r_ ∧ lx (7, (wa'.length - i').toNat, 0) (7, (wa.length - i).toNat, 0)) (fun r__ => r__ = r_) := by
  unfold LargeKeeps_I2 at hI
  unfold LargeKeeps_w2
  try unfold LargeKeeps_I0
  try unfold LargeKeeps_I1
  try unfold LargeKeeps_I2
  obtain ⟨hfew, hs, hw, hnw, hT, hq, hsv, hv, hnv, hi, hr⟩ := hI
  have hgood := sound_good hs hp0
  have hlong := good_long hgood
  have hlen := hlong.2
  have hok := Cf.ok_iff.1 hgood.ok
  simp only at hok
  have hp : p ≤ 1024 := by omega
  have hpb : p ≤ 9223372036854775807 := by omega
  obtain ⟨k1, k2⟩ := keep_law (c := ⟨t, p, sh⟩) hp0 hs n
  obtain ⟨q', g1, g2, s1, s2, a1, a2, f1, ne, s78⟩ := k2 hT
  have hqq : q = q' := hq.trans g1
  subst hqq
  simp only at g2 s1 s2 a1 a2 f1 ne
  have hw1 : wa = (stateA ⟨t, p, sh⟩ xs).1 := congrArg (·.1) hw
  have hw2 : wz = (stateA ⟨t, p, sh⟩ xs).2.1 := congrArg (·.2.1) hw
  have hl1 : wa.length = wz.length := by rw [hw1, hw2]; exact st_len _ _
  have hl2 : wa.length ≤ 40000 := by rw [hw1]; exact st_few (c := ⟨t, p, sh⟩) xs hfew
  refine ⟨fun hd => ?_, fun hd => ?_⟩
  · simp only [decide_eq_true_eq] at hd
    refine ⟨⟨hi.1, hd⟩, fun _ => ?_⟩
    have hva : va = insA ((q + 1) * pgB sh) wa := by
      have : va = (stateA ⟨t, p, sh⟩ (lvAdd ((qTake ⟨t, p, sh⟩ n).run (VS.whole xs)).1 1).vals).1 := congrArg (·.1) hv
      rw [this, s2, hw1]; rfl
    have hin : r12_Has va vz (wa.getD i.toNat 0) = true := by
      show va.contains (wa.getD i.toNat 0) = true
      rw [List.contains_iff_mem, hva]
      have hm : wa.getD i.toNat 0 ∈ wa := by
        have hlt : i.toNat < wa.length := by omega
        rw [List.getD_eq_getElem?_getD, List.getElem?_eq_getElem hlt]
        exact List.getElem_mem hlt
      exact insA_mem hm
    rw [hin, w64 (n := i + 1) (by omega)]
    exact ⟨fun h => (by cases h), fun _ => ⟨⟨hfew, hs, hw, hnw, hT, hq, hsv, hv, hnv, by omega, hr⟩, Or.inr ⟨rfl, Or.inl (by show ((wa.length : Int) - (i + 1)).toNat < ((wa.length : Int) - i).toNat; omega)⟩⟩⟩
  · obtain ⟨hlen2, s7, s8⟩ := s78 (sv.read (Cf.info ⟨t, p, sh⟩ q)) (fun m h => by rw [hsv]; exact h.read _) (by rw [read_all, hsv, lv_all, run_all]; rfl)
    have ef : ((qLFree ⟨t, p, sh⟩ q).run sv).1 = lvAdd ((qRelease ⟨t, p, sh⟩ q n).run (sv.read (Cf.info ⟨t, p, sh⟩ q))).1 (-1) := by
      rw [lfree_run]
      have : ((pLen ⟨t, p, sh⟩ q).run sv).2 = n := by rw [hsv]; exact hlen2
      rw [this]
    rw [← ef] at s7 s8
    have hs3 : soundA ⟨t, p, sh⟩ ((qLFree ⟨t, p, sh⟩ q).run sv).1.vals = true := by rw [← sound_state, s7, sound_state]; exact hs
    have hl3 := vals_long hs3
    rintro r1 hr1
    have e1 : r1 = ((qLFree ⟨t, p, sh⟩ q).run sv).1 := hr1
    clear hr1
    subst e1
    refine ⟨hp, fun _ => ⟨g2.1, fun _ => ?_⟩⟩
    have e5 : r12_State t p sh ((qLFree ⟨t, p, sh⟩ q).run sv).1.vals = (wa, wz, w0, w1, w2, w3, w4, w5, w6, w7, true) := s7.trans hw.symm
    have e6 : (((qLFree ⟨t, p, sh⟩ q).run sv).1.vals.getD 0 0 == xs.getD 0 0) = true := by
      have : ((qLFree ⟨t, p, sh⟩ q).run sv).1.vals.getD 0 0 = xs.getD 0 0 := s8
      rw [this]; simp
    repeat' first
      | (refine fun r hr => ?_; subst hr)
      | refine ⟨vals_bd _, fun _ => ?_⟩
      | (refine And.intro (fun r hr => ?_) (fun r hr => ?_) <;> subst hr)
      | (rw [e5]; simp only [same_self])
      | refine ⟨hl1, fun _ => ?_⟩
      | refine ⟨fun _ => ⟨Int.le_refl 0, by omega⟩, fun _ => ?_⟩
      | (rw [e6])
      | refine ⟨fun hd => ?_, fun hd => (by cases hd)⟩
      | exact hr.symm
      | fail
theorem LargeKeeps_ok : EntryOk Dg Tryz.prog 7 e_LargeKeeps :=
  ent_wp Dg T_l19_used_ok (I := [6802000, 7826000, 2999998, 6297000000016, 6297000000003, 6297000000001, 6297000000007, 6297000000009, 6297000000010, 6297000000014]) Tryz.func7 mix (B := bodyOf Tryz.f7) (by kernel_rfl) rfl (by kernel_rfl) 400
    fun p0 t p sh xs n hb hp => have hl0 : xs.length ≤ 9223372036854775807 := hb.2.1; have hp0 : bdAll xs := hp _ (.head _); ⟨[⟨some 0, [0, 0, 1, 1, 1, 1, 1], [.code [1, 0, 1, 1, 1, 1, 1], .code [1, 1, 1, 1, 1, 1]], [3, 1, 2, 7, 9, 10, 11], [.box 23 [.ic .i64 (t), .ic .i64 (p), .ic .i64 (sh)], .roc [.ints .u32 (xs)], .ic .i64 (n), .box 42 [.own 56 [some .i64, some .i64], .i .i64, .i .i64, .i .i64, .i .i64, .i .i64, .i .i64, .i .i64, .i .i64], .obj wView, .i .i64, .b]⟩, ⟨some 0, [0, 1, 1, 1, 1, 1, 1], [.code [1, 1, 1, 1, 1, 1, 1]], [3, 1, 2, 7, 9, 10], [.box 23 [.ic .i64 (t), .ic .i64 (p), .ic .i64 (sh)], .roc [.ints .u32 (xs)], .ic .i64 (n), .box 42 [.own 56 [some .i64, some .i64], .i .i64, .i .i64, .i .i64, .i .i64, .i .i64, .i .i64, .i .i64, .i .i64], .obj wView, .i .i64]⟩, ⟨none, [0, 1, 0, 1, 1, 1, 1, 1, 1, 1, 1, 1, 1], [.blk 0, .code [1, 1, 1, 1, 1, 1, 1, 1, 1, 1, 1]], [16, 3, 1, 7, 9, 10, 14], [.i .i64, .box 23 [.ic .i64 (t), .ic .i64 (p), .ic .i64 (sh)], .roc [.ints .u32 (xs)], .box 42 [.own 56 [some .i64, some .i64], .i .i64, .i .i64, .i .i64, .i .i64, .i .i64, .i .i64, .i .i64, .i .i64], .obj wView, .i .i64, .box 42 [.own 56 [some .i64, some .i64], .i .i64, .i .i64, .i .i64, .i .i64, .i .i64, .i .i64, .i .i64, .i .i64]]⟩], fun j => List.getD [appC (Hd.kd (⟨some 0, [0, 0, 1, 1, 1, 1, 1], [.code [1, 0, 1, 1, 1, 1, 1], .code [1, 1, 1, 1, 1, 1]], [3, 1, 2, 7, 9, 10, 11], [.box 23 [.ic .i64 (t), .ic .i64 (p), .ic .i64 (sh)], .roc [.ints .u32 (xs)], .ic .i64 (n), .box 42 [.own 56 [some .i64, some .i64], .i .i64, .i .i64, .i .i64, .i .i64, .i .i64, .i .i64, .i .i64, .i .i64], .obj wView, .i .i64, .b]⟩ : Hd Sg)) (fun nw' wa' wz' w0' w1' w2' w3' w4' w5' w6' w7' sv' q' ok' => LargeKeeps_I0 t p sh xs n nw' wa' wz' w0' w1' w2' w3' w4' w5' w6' w7' sv' q' ok' (LargeKeeps t p sh xs n)), appC (Hd.kd (⟨some 0, [0, 1, 1, 1, 1, 1, 1], [.code [1, 1, 1, 1, 1, 1, 1]], [3, 1, 2, 7, 9, 10], [.box 23 [.ic .i64 (t), .ic .i64 (p), .ic .i64 (sh)], .roc [.ints .u32 (xs)], .ic .i64 (n), .box 42 [.own 56 [some .i64, some .i64], .i .i64, .i .i64, .i .i64, .i .i64, .i .i64, .i .i64, .i .i64, .i .i64], .obj wView, .i .i64]⟩ : Hd Sg)) (fun nw' wa' wz' w0' w1' w2' w3' w4' w5' w6' w7' sv' q' => LargeKeeps_I1 t p sh xs n nw' wa' wz' w0' w1' w2' w3' w4' w5' w6' w7' sv' q' (LargeKeeps t p sh xs n)), appC (Hd.kd (⟨none, [0, 1, 0, 1, 1, 1, 1, 1, 1, 1, 1, 1, 1], [.blk 0, .code [1, 1, 1, 1, 1, 1, 1, 1, 1, 1, 1]], [16, 3, 1, 7, 9, 10, 14], [.i .i64, .box 23 [.ic .i64 (t), .ic .i64 (p), .ic .i64 (sh)], .roc [.ints .u32 (xs)], .box 42 [.own 56 [some .i64, some .i64], .i .i64, .i .i64, .i .i64, .i .i64, .i .i64, .i .i64, .i .i64, .i .i64], .obj wView, .i .i64, .box 42 [.own 56 [some .i64, some .i64], .i .i64, .i .i64, .i .i64, .i .i64, .i .i64, .i .i64, .i .i64, .i .i64]]⟩ : Hd Sg)) (fun i' nw' wa' wz' w0' w1' w2' w3' w4' w5' w6' w7' sv' q' nv_' va' vz' v0' v1' v2' v3' v4' v5' v6' v7' => LargeKeeps_I2 t p sh xs n i' nw' wa' wz' w0' w1' w2' w3' w4' w5' w6' w7' sv' q' nv_' va' vz' v0' v1' v2' v3' v4' v5' v6' v7' (LargeKeeps t p sh xs n))] j (fun _ => False), fun j => List.getD [appC (Hd.kd (⟨some 0, [0, 0, 1, 1, 1, 1, 1], [.code [1, 0, 1, 1, 1, 1, 1], .code [1, 1, 1, 1, 1, 1]], [3, 1, 2, 7, 9, 10, 11], [.box 23 [.ic .i64 (t), .ic .i64 (p), .ic .i64 (sh)], .roc [.ints .u32 (xs)], .ic .i64 (n), .box 42 [.own 56 [some .i64, some .i64], .i .i64, .i .i64, .i .i64, .i .i64, .i .i64, .i .i64, .i .i64, .i .i64], .obj wView, .i .i64, .b]⟩ : Hd Sg)) (fun nw' wa' wz' w0' w1' w2' w3' w4' w5' w6' w7' sv' q' ok' => (9, 0, 0)), appC (Hd.kd (⟨some 0, [0, 1, 1, 1, 1, 1, 1], [.code [1, 1, 1, 1, 1, 1, 1]], [3, 1, 2, 7, 9, 10], [.box 23 [.ic .i64 (t), .ic .i64 (p), .ic .i64 (sh)], .roc [.ints .u32 (xs)], .ic .i64 (n), .box 42 [.own 56 [some .i64, some .i64], .i .i64, .i .i64, .i .i64, .i .i64, .i .i64, .i .i64, .i .i64, .i .i64], .obj wView, .i .i64]⟩ : Hd Sg)) (fun nw' wa' wz' w0' w1' w2' w3' w4' w5' w6' w7' sv' q' => (8, 0, 0)), appC (Hd.kd (⟨none, [0, 1, 0, 1, 1, 1, 1, 1, 1, 1, 1, 1, 1], [.blk 0, .code [1, 1, 1, 1, 1, 1, 1, 1, 1, 1, 1]], [16, 3, 1, 7, 9, 10, 14], [.i .i64, .box 23 [.ic .i64 (t), .ic .i64 (p), .ic .i64 (sh)], .roc [.ints .u32 (xs)], .box 42 [.own 56 [some .i64, some .i64], .i .i64, .i .i64, .i .i64, .i .i64, .i .i64, .i .i64, .i .i64, .i .i64], .obj wView, .i .i64, .box 42 [.own 56 [some .i64, some .i64], .i .i64, .i .i64, .i .i64, .i .i64, .i .i64, .i .i64, .i .i64, .i .i64]]⟩ : Hd Sg)) (fun i' nw' wa' wz' w0' w1' w2' w3' w4' w5' w6' w7' sv' q' nv_' va' vz' v0' v1' v2' v3' v4' v5' v6' v7' => (7, (wa'.length - i').toNat, 0))] j (fun _ => (0, 0, 0)), by kernel_rfl, ⟨LargeKeeps_w t p sh xs n (fun nw' wa' wz' w0' w1' w2' w3' w4' w5' w6' w7' sv' q' ok' => LargeKeeps_I0 t p sh xs n nw' wa' wz' w0' w1' w2' w3' w4' w5' w6' w7' sv' q' ok' (LargeKeeps t p sh xs n)) (fun nw' wa' wz' w0' w1' w2' w3' w4' w5' w6' w7' sv' q' => LargeKeeps_I1 t p sh xs n nw' wa' wz' w0' w1' w2' w3' w4' w5' w6' w7' sv' q' (LargeKeeps t p sh xs n)) (fun i' nw' wa' wz' w0' w1' w2' w3' w4' w5' w6' w7' sv' q' nv_' va' vz' v0' v1' v2' v3' v4' v5' v6' v7' => LargeKeeps_I2 t p sh xs n i' nw' wa' wz' w0' w1' w2' w3' w4' w5' w6' w7' sv' q' nv_' va' vz' v0' v1' v2' v3' v4' v5' v6' v7' (LargeKeeps t p sh xs n)) (fun r__ => r__ = (LargeKeeps t p sh xs n)), fun _ _ _ => by kernel_rfl, LargeKeeps_begin t p sh xs n hp0 hl0 ⟩, ⟨fun nw wa wz w0 w1 w2 w3 w4 w5 w6 w7 sv q ok hI => ⟨LargeKeeps_w0 t p sh xs n nw wa wz w0 w1 w2 w3 w4 w5 w6 w7 sv q ok (fun nw' wa' wz' w0' w1' w2' w3' w4' w5' w6' w7' sv' q' ok' => LargeKeeps_I0 t p sh xs n nw' wa' wz' w0' w1' w2' w3' w4' w5' w6' w7' sv' q' ok' (LargeKeeps t p sh xs n) ∧ lx (9, 0, 0) (9, 0, 0)) (fun nw' wa' wz' w0' w1' w2' w3' w4' w5' w6' w7' sv' q' => LargeKeeps_I1 t p sh xs n nw' wa' wz' w0' w1' w2' w3' w4' w5' w6' w7' sv' q' (LargeKeeps t p sh xs n) ∧ lx (8, 0, 0) (9, 0, 0)) (fun i' nw' wa' wz' w0' w1' w2' w3' w4' w5' w6' w7' sv' q' nv_' va' vz' v0' v1' v2' v3' v4' v5' v6' v7' => LargeKeeps_I2 t p sh xs n i' nw' wa' wz' w0' w1' w2' w3' w4' w5' w6' w7' sv' q' nv_' va' vz' v0' v1' v2' v3' v4' v5' v6' v7' (LargeKeeps t p sh xs n) ∧ lx (7, (wa'.length - i').toNat, 0) (9, 0, 0)) (fun r__ => r__ = (LargeKeeps t p sh xs n)), fun _ _ _ => by kernel_rfl, LargeKeeps_step0 t p sh xs n hp0 hl0 nw wa wz w0 w1 w2 w3 w4 w5 w6 w7 sv q ok hI⟩, ⟨fun nw wa wz w0 w1 w2 w3 w4 w5 w6 w7 sv q hI => ⟨LargeKeeps_w1 t p sh xs n nw wa wz w0 w1 w2 w3 w4 w5 w6 w7 sv q (fun nw' wa' wz' w0' w1' w2' w3' w4' w5' w6' w7' sv' q' ok' => LargeKeeps_I0 t p sh xs n nw' wa' wz' w0' w1' w2' w3' w4' w5' w6' w7' sv' q' ok' (LargeKeeps t p sh xs n) ∧ lx (9, 0, 0) (8, 0, 0)) (fun nw' wa' wz' w0' w1' w2' w3' w4' w5' w6' w7' sv' q' => LargeKeeps_I1 t p sh xs n nw' wa' wz' w0' w1' w2' w3' w4' w5' w6' w7' sv' q' (LargeKeeps t p sh xs n) ∧ lx (8, 0, 0) (8, 0, 0)) (fun i' nw' wa' wz' w0' w1' w2' w3' w4' w5' w6' w7' sv' q' nv_' va' vz' v0' v1' v2' v3' v4' v5' v6' v7' => LargeKeeps_I2 t p sh xs n i' nw' wa' wz' w0' w1' w2' w3' w4' w5' w6' w7' sv' q' nv_' va' vz' v0' v1' v2' v3' v4' v5' v6' v7' (LargeKeeps t p sh xs n) ∧ lx (7, (wa'.length - i').toNat, 0) (8, 0, 0)) (fun r__ => r__ = (LargeKeeps t p sh xs n)), fun _ _ _ => by kernel_rfl, LargeKeeps_step1 t p sh xs n hp0 hl0 nw wa wz w0 w1 w2 w3 w4 w5 w6 w7 sv q hI⟩, ⟨fun i nw wa wz w0 w1 w2 w3 w4 w5 w6 w7 sv q nv_ va vz v0 v1 v2 v3 v4 v5 v6 v7 hI => ⟨LargeKeeps_w2 t p sh xs n i nw wa wz w0 w1 w2 w3 w4 w5 w6 w7 sv q nv_ va vz v0 v1 v2 v3 v4 v5 v6 v7 (fun nw' wa' wz' w0' w1' w2' w3' w4' w5' w6' w7' sv' q' ok' => LargeKeeps_I0 t p sh xs n nw' wa' wz' w0' w1' w2' w3' w4' w5' w6' w7' sv' q' ok' (LargeKeeps t p sh xs n) ∧ lx (9, 0, 0) (7, (wa.length - i).toNat, 0)) (fun nw' wa' wz' w0' w1' w2' w3' w4' w5' w6' w7' sv' q' => LargeKeeps_I1 t p sh xs n nw' wa' wz' w0' w1' w2' w3' w4' w5' w6' w7' sv' q' (LargeKeeps t p sh xs n) ∧ lx (8, 0, 0) (7, (wa.length - i).toNat, 0)) (fun i' nw' wa' wz' w0' w1' w2' w3' w4' w5' w6' w7' sv' q' nv_' va' vz' v0' v1' v2' v3' v4' v5' v6' v7' => LargeKeeps_I2 t p sh xs n i' nw' wa' wz' w0' w1' w2' w3' w4' w5' w6' w7' sv' q' nv_' va' vz' v0' v1' v2' v3' v4' v5' v6' v7' (LargeKeeps t p sh xs n) ∧ lx (7, (wa'.length - i').toNat, 0) (7, (wa.length - i).toNat, 0)) (fun r__ => r__ = (LargeKeeps t p sh xs n)), fun _ _ _ => by kernel_rfl, LargeKeeps_step2 t p sh xs n hp0 hl0 i nw wa wz w0 w1 w2 w3 w4 w5 w6 w7 sv q nv_ va vz v0 v1 v2 v3 v4 v5 v6 v7 hI⟩, trivial⟩⟩⟩⟩
def T_LargeKeeps : List (Nat × Entry Sg) := (7, e_LargeKeeps) :: T_l19_used
theorem T_LargeKeeps_ok : TableOk Dg Tryz.prog T_LargeKeeps := TableOk.cons Dg LargeKeeps_ok T_l19_used_ok
theorem LargeKeeps_plain (t : Int) (p : Int) (sh : Int) (xs : List Int) (n : Int) (a_0 : Option Addr) (c_0 : Nat) {E_ : World} {G_ : Hp} {w_ : World} (hr0 : RowAt G_ a_0 xs.length [.ints .u32 xs] ∧ xs.length ≤ c_0) (hp0 : bdAll xs) (hS : Sat E_ G_ w_ []) : Calls Tryz.prog 7 #[(.agg #[.int .i64 t, .int .i64 p, .int .i64 sh]), (.slice a_0 xs.length c_0), (.int .i64 n)] w_ (fun en w' => en = .returned (.bool (LargeKeeps t p sh xs n)) ∧ Sat E_ G_ w' []) := by
  refine law_of Dg (c := c_LargeKeeps) (F := LargeKeeps) (pre := fun t p sh xs n => [bdAll xs]) LargeKeeps_ok [((.agg #[.int .i64 t, .int .i64 p, .int .i64 sh]), (.none)), ((.slice a_0 xs.length c_0), (.row xs.length [.ints .u32 xs])), ((.int .i64 n), (.none))] [.i t, .i p, .i sh, .li xs, .i n] (by kernel_rfl) _ (by kernel_rfl) (by kernel_rfl) (by kernel_rfl) ?_ ?_ hS
  · intro p hp
    have hp : p ∈ [(bdAll xs : Prop)] := hp
    simp only [List.mem_cons, List.not_mem_nil, or_false] at hp
    rcases hp with rfl
    · exact hp0
  · intro x hx
    simp only [List.mem_cons, List.not_mem_nil, or_false] at hx
    rcases hx with rfl | rfl | rfl
    · first | (simp only [iOk, isOk, and_true, true_and]; done) | (simp only [iOk, isOk, and_true, true_and]; exact ⟨_, _, rfl, trivial⟩) | simp [iOk, isOk]
    · first | (simp only [iOk, isOk, and_true, true_and]; done) | (simp only [iOk, isOk, and_true, true_and]; exact ⟨_, _, rfl, hr0⟩) | simp [iOk, isOk]
    · first | (simp only [iOk, isOk, and_true, true_and]; done) | (simp only [iOk, isOk, and_true, true_and]; exact ⟨_, _, rfl, trivial⟩) | simp [iOk, isOk]
end Go.Proofs.YtajcpopikdpcmaaGreat
namespace Go.Sl
open Go.RowKit Go.ChangeShapes Go.WideShapes Go.ChangeAt
theorem Sat.start (W : World) : Sat W (fun b => W.heap[b]?) W [] :=
  ⟨⟨rfl, rfl, rfl, Nat.le_refl _⟩, fun _ _ h => h, fun _ => none, ⟨fun _ _ h => (by cases h), fun i A h => (by simp at h)⟩⟩
theorem Sat.below {W W' : World} {As : List Asn} (h : Sat W (fun b => W.heap[b]?) W' As) : Below W.heap.size W W' :=
  ⟨h.1.os, h.1.tape, h.1.output, h.1.size, fun k hk => by
    have h1 : (fun b => W.heap[b]?) k = some W.heap[k] := by simp [hk]
    rw [h.2.1 k _ h1]; simp [hk]⟩
section
variable {H : Type} {enc : TypeId × Value → H} {P : Program}
theorem trodAll_stays (hl : laidOutB P = true) {W W' : World} (hb : Below W.heap.size W W') {sp : Nat → Bool} : ∀ (ts : List TypeId) (vs : List Value) (ds : List (DataW H)) (ps : List MemPlace), (∀ t ∈ ts, P.readableRec t = true ∧ t < P.types.size) →
    DataW.TrodAll enc P W 0 (fun _ => true) true ts vs ds ps → (∀ x ∈ ps, x.block < W.heap.size) → (∀ x ∈ ps, sp x.block = true) → DataW.TrodAll enc P W' 0 sp true ts vs ds ps
  | [], vs, ds, ps, _, h, _, _ => by
    obtain ⟨rfl, rfl, rfl⟩ := trodAll_nil h
    exact trodAll_mk0
  | t :: ts, vs, ds, ps, hr, h, hlt, hsp => by
    obtain ⟨v, vs', d, ds', p, q, rfl, rfl, rfl, hd, hrest⟩ := trodAll_cons h
    obtain ⟨hr1, hr2⟩ := hr t (by simp)
    exact ⟨p, q, WideElems.Trod_stays hl hr1 hr2 hd (fun x hx => hb.same (hlt x (by simp [hx]))) (fun x hx => hsp x (by simp [hx])),
      trodAll_stays hl hb ts vs' ds' q (fun t ht => hr t (by simp [ht])) hrest (fun x hx => hlt x (by simp [hx])) (fun x hx => hsp x (by simp [hx])), rfl⟩
theorem law_post {f : Func} {s : ChangeSpec} {apart fresh handsOn : Bool} {W W' : World} {args : Array Value} {ds gs : List (DataW H)} {before : List MemPlace} (tb : TypeId) (hl : laidOutB P = true)
    (hW : DataW.Whole enc P f.params.toList s.vars apart W args.toList ds gs before) (hv : s.vars = []) (hres : f.resultTypes = #[tb]) (hb : P.underlying tb = some .bool)
    (hp : f.params.toList.all (fun t => P.readableRec t && Nat.blt t P.types.size) = true) (hfn : (s.fn H ds).results = [.lit (.bool true)] ∧ (s.fn H ds).args = ds ∧ (s.fn H ds).vars = [])
    (hbel : Below W.heap.size W W') : s.post enc P f apart fresh handsOn false W args (.bool true) W' := by
  have hW2 := hW
  have hlt : ∀ x ∈ before, x.block < W.heap.size := fun x hx => hW.lt x hx
  obtain ⟨p, q, hA, hV, hpq, _, _⟩ := hW
  rw [hv] at hV
  obtain ⟨hgs, hq⟩ := trodVars_none hV
  subst hgs; subst hq
  have hpp : before = p := by rw [hpq]; simp
  subst hpp
  have hr : ∀ t ∈ f.params.toList, P.readableRec t = true ∧ t < P.types.size := fun t ht => by
    rw [List.all_eq_true] at hp
    have := hp t ht
    simp only [Bool.and_eq_true] at this
    exact ⟨this.1, Nat.lt_of_lt_of_le (Nat.lt_succ_self t) (Nat.le_of_ble_eq_true this.2)⟩
  refine ⟨ds, [], before, [], before, [], by rw [hv] at hW2 ⊢; exact hW2, ?_, ?_, ?_, World.keptBut_mono (fun x hx => ⟨hx, .inr (.inl hx)⟩) (hbel.frame (· ∈ before)), fun h => by cases h⟩
  · rw [List.append_nil, hfn.1, hres]
    exact trodAll_mk1 (shut_bool hb true)
  · rw [List.append_nil, hfn.2.1]
    exact trodAll_stays hl hbel _ _ _ _ hr hA hlt (fun x hx => by simpa using hlt x hx)
  · rw [List.append_nil, hfn.2.2, hv]
    rfl
end
theorem bd_i64 {x : Int} (h : (Lit.int .i64 x).wf = true) : -9223372036854775808 ≤ x ∧ x < 9223372036854775808 := by
  simp [Lit.wf, IntKind.min, IntKind.max, IntKind.signed, IntKind.bits] at h; omega
theorem bd_u64 {x : Int} (h : (Lit.int .u64 x).wf = true) : 0 ≤ x ∧ x < 18446744073709551616 := by
  simp [Lit.wf, IntKind.min, IntKind.max, IntKind.signed, IntKind.bits] at h; omega
theorem bd_u32 {x : Int} (h : (Lit.int .u32 x).wf = true) : 0 ≤ x ∧ x < 4294967296 := by
  simp [Lit.wf, IntKind.min, IntKind.max, IntKind.signed, IntKind.bits] at h; omega
end Go.Sl
namespace Go.Sl
open Go.RowKit Go.ChangeShapes Go.WideShapes Go.ChangeAt
inductive Shp where
  | int (k : IntKind)
  | bool
def vIs : Shp → Value → Prop
  | .int k, v => ∃ x, v = .int k x ∧ (Lit.int k x).wf = true
  | .bool, v => ∃ b, v = .bool b
def cellsIs : List Shp → List Value → Prop
  | [], vs => vs = []
  | s :: r, vs => ∃ v vs', vs = v :: vs' ∧ vIs s v ∧ cellsIs r vs'
def colIs (n : Nat) : Shp → Col → Prop
  | .int k, c => ∃ xs, c = .ints k xs ∧ xs.length = n ∧ ∀ x ∈ xs, (Lit.int k x).wf = true
  | .bool, c => ∃ xs, c = .bools xs ∧ xs.length = n
def colsIs (n : Nat) : List Shp → List Col → Prop
  | [], cs => cs = []
  | s :: r, cs => ∃ c cs', cs = c :: cs' ∧ colIs n s c ∧ colsIs n r cs'
theorem cellsIs_len : ∀ {sh : List Shp} {vs : List Value}, cellsIs sh vs → vs.length = sh.length
  | [], _, h => by rw [h]; rfl
  | _ :: r, _, ⟨v, vs', e, _, h⟩ => by rw [e, List.length_cons, List.length_cons, cellsIs_len h]
theorem cellsIs_append : ∀ {a b : List Shp} {u v : List Value}, cellsIs a u → cellsIs b v → cellsIs (a ++ b) (u ++ v)
  | [], b, u, v, h, h' => by rw [h]; exact h'
  | s :: r, b, u, v, ⟨x, u', e, hx, h⟩, h' => ⟨x, u' ++ v, by rw [e]; rfl, hx, cellsIs_append h h'⟩
theorem cellsIs_get : ∀ {sh : List Shp} {vs : List Value}, cellsIs sh vs → ∀ (j : Nat) s, sh[j]? = some s → ∃ v, vs[j]? = some v ∧ vIs s v
  | [], _, _, j, s, hs => by simp at hs
  | s0 :: r, _, ⟨x, u', e, hx, h⟩, j, s, hs => by
    subst e
    cases j with
    | zero => simp at hs; subst hs; exact ⟨x, rfl, hx⟩
    | succ j => exact cellsIs_get h j s (by simpa using hs)
section
variable (P : Program)
def shpFs (f : TypeId → Option (List Shp)) : Nat → List Field → Option (List Shp)
  | _, [] => some []
  | o, fd :: fs => bif Nat.beq fd.offset o then match f fd.type, shpFs f (o + P.cellsOf fd.type) fs with
      | some a, some b => bif Nat.beq a.length (P.cellsOf fd.type) then some (a ++ b) else none
      | _, _ => none
    else none
def reps (s : List Shp) : Nat → List Shp
  | 0 => []
  | n + 1 => s ++ reps s n
def shpT : Nat → TypeId → Option (List Shp)
  | 0, _ => none
  | d + 1, t => match P.underlying t with
    | some (.int k) => some [.int k]
    | some .bool => some [.bool]
    | some (.struct fs) => match shpFs P (shpT d) 0 fs.toList with
      | some s => bif Nat.beq s.length (P.cellsOf t) then some s else none
      | none => none
    | some (.array n e) => match shpT d e with
      | some s => bif Nat.beq s.length (P.cellsOf e) && Nat.beq (n * P.cellsOf e) (P.cellsOf t) then some (reps s n) else none
      | none => none
    | _ => none
end
section
variable {H : Type} {enc : TypeId × Value → H} {P : Program} {w : World} {base : Nat} {sp : Nat → Bool} {held : Bool}
theorem shpFs_ok {f : TypeId → Option (List Shp)} {n : Nat} (hf : ∀ t sh cs x, f t = some sh → DataW.trod enc P w base sp held n t cs = some x → cellsIs sh cs) {cs : List Value} :
    ∀ (fs : List Field) (o : Nat) (s : List Shp), shpFs P f o fs = some s → (∀ fd ∈ fs, ∃ y, DataW.trod enc P w base sp held n fd.type ((cs.drop fd.offset).take (P.cellsOf fd.type)) = some y) → cellsIs s ((cs.drop o).take s.length)
  | [], o, s, h, _ => by simp only [shpFs, Option.some.injEq] at h; subst h; simp [cellsIs]
  | fd :: fs, o, s, h, hall => by
    simp only [shpFs] at h
    cases ho : Nat.beq fd.offset o with
    | false => rw [ho] at h; cases h
    | true =>
      rw [ho] at h
      have ho := Nat.eq_of_beq_eq_true ho
      simp only [cond_true] at h
      split at h
      · rename_i a b ha hb
        cases hl : Nat.beq a.length (P.cellsOf fd.type) with
        | false => rw [hl] at h; cases h
        | true =>
          rw [hl] at h
          have hl := Nat.eq_of_beq_eq_true hl
          simp only [cond_true, Option.some.injEq] at h
          subst h
          obtain ⟨y, hy⟩ := hall fd (by simp)
          have h1 := hf _ _ _ _ ha hy
          have h2 := shpFs_ok hf fs _ _ hb fun fd' hfd => hall fd' (by simp [hfd])
          have e : (cs.drop o).take (a ++ b).length = (cs.drop fd.offset).take (P.cellsOf fd.type) ++ (cs.drop (o + P.cellsOf fd.type)).take b.length := by
            rw [List.length_append, List.take_add, List.drop_drop, ho, hl]
          rw [e]
          exact cellsIs_append h1 h2
      · cases h
theorem shpT_ok : ∀ (d : Nat) (t : TypeId) (sh : List Shp) (n : Nat) (cs : List Value) (x : DataW H × List MemPlace), shpT P d t = some sh → DataW.trod enc P w base sp held n t cs = some x → cellsIs sh cs
  | 0, t, sh, n, cs, x, h, _ => by simp [shpT] at h
  | d + 1, t, sh, n, cs, x, h, hx => by
    simp only [shpT] at h
    split at h
    · rename_i k hk
      injection h with h; subst h
      obtain ⟨m, rfl, _, hw⟩ := DataW.trod_int hk hx
      exact ⟨_, _, rfl, ⟨m, rfl, hw⟩, rfl⟩
    · rename_i hk
      injection h with h; subst h
      obtain ⟨b, rfl, _⟩ := DataW.trod_bool hk hx
      exact ⟨_, _, rfl, ⟨b, rfl⟩, rfl⟩
    · rename_i fs hk
      split at h
      · rename_i s hs
        cases hl : Nat.beq s.length (P.cellsOf t) with
        | false => rw [hl] at h; cases h
        | true =>
          rw [hl] at h
          have hl := Nat.eq_of_beq_eq_true hl
          simp only [cond_true, Option.some.injEq] at h
          subst h
          obtain ⟨xs, m, _, _, hlen, hxl, hf⟩ := DataW.trod_struct hk hx
          have := shpFs_ok (n := m) (cs := cs) (fun t' sh' cs' x' h1 h2 => shpT_ok d t' sh' m cs' x' h1 h2) fs.toList 0 s hs fun fd hfd => by
            obtain ⟨i, hi⟩ := List.getElem?_of_mem hfd
            have hi' : fs[i]? = some fd := by simpa using hi
            have h1 := hf i fd hi'
            have hlt : i < xs.length := by
              rw [hxl]
              rcases Nat.lt_or_ge i fs.size with h' | h'
              · exact h'
              · rw [Array.getElem?_eq_none h'] at hi'; cases hi'
            rw [List.getElem?_eq_getElem hlt] at h1
            exact ⟨_, h1⟩
          rw [List.drop_zero, hl, ← hlen, List.take_length] at this
          exact this
      · cases h
    · rename_i m e hk
      split at h
      · rename_i s hs
        cases hl : (Nat.beq s.length (P.cellsOf e) && Nat.beq (m * P.cellsOf e) (P.cellsOf t)) with
        | false => rw [hl] at h; cases h
        | true =>
          rw [hl] at h
          simp only [Bool.and_eq_true] at hl
          have hl1 := Nat.eq_of_beq_eq_true hl.1
          have hl2 := Nat.eq_of_beq_eq_true hl.2
          simp only [cond_true, Option.some.injEq] at h
          subst h
          obtain ⟨xs, q, _, _, hlen, hxl, hf⟩ := DataW.trod_array hk hx
          have key : ∀ (j i : Nat), i + j = m → cellsIs (reps s j) ((cs.drop (i * P.cellsOf e)).take (j * P.cellsOf e)) := by
            intro j
            induction j with
            | zero => intro i _; simp [reps, cellsIs]
            | succ j ih =>
              intro i hij
              have h1 := hf i (by omega)
              rw [List.getElem?_eq_getElem (by omega)] at h1
              have h2 := shpT_ok d e s q _ _ hs h1
              have h3 := ih (i + 1) (by omega)
              have e1 : (cs.drop (i * P.cellsOf e)).take ((j + 1) * P.cellsOf e) = (cs.drop (i * P.cellsOf e)).take (P.cellsOf e) ++ (cs.drop ((i + 1) * P.cellsOf e)).take (j * P.cellsOf e) := by
                rw [show (j + 1) * P.cellsOf e = P.cellsOf e + j * P.cellsOf e by rw [Nat.succ_mul]; omega, List.take_add, List.drop_drop, show i * P.cellsOf e + P.cellsOf e = (i + 1) * P.cellsOf e by rw [Nat.succ_mul]]
              rw [e1]
              exact cellsIs_append h2 h3
          have := key m 0 (by omega)
          rw [Nat.zero_mul, List.drop_zero, hl2, ← hlen, List.take_length] at this
          exact this
      · cases h
    · cases h
theorem open_flat {r : Reach} {b0 : Nat} {t : TypeId} {v : Value} {dt : DataW H} {ps : List MemPlace} (d : Nat) (hs : (P.underlying t).any (fun | .struct _ => true | .array _ _ => true | _ => false) = true) {sh : List Shp} (hsh : shpT P d t = some sh)
    (hv : Value.okWide P w r b0 t v) (h : DataW.Trod enc P w base sp held t v dt ps) : ∃ vs : List Value, v = .agg vs.toArray ∧ cellsIs sh vs := by
  obtain ⟨fuel, hf⟩ := h
  have hc := shpT_ok d t sh fuel _ _ hsh hf
  unfold Value.okWide at hv
  cases hu : P.underlying t with
  | none => rw [hu] at hs; simp at hs
  | some ty =>
    rw [hu] at hs hv
    cases ty <;> simp at hs <;> (obtain ⟨cs, rfl, _, _⟩ := hv; exact ⟨cs.toList, by simp, hc⟩)
def colOf : Shp → (Nat → Value) → Nat → Col
  | .int k, V, n => .ints k ((List.range n).map fun i => match V i with | .int _ x => x | _ => 0)
  | .bool, V, n => .bools ((List.range n).map fun i => match V i with | .bool b => b | _ => false)
theorem colOf_ok {s : Shp} {V : Nat → Value} {n : Nat} (h : ∀ i, i < n → vIs s (V i)) : colIs n s (colOf s V n) ∧ (colOf s V n).len = n ∧ ∀ i, i < n → (colOf s V n).at i = V i := by
  cases s with
  | int k =>
    refine ⟨⟨_, rfl, by simp, fun x hx => ?_⟩, by simp [colOf, Col.len], fun i hi => ?_⟩
    · obtain ⟨i, hi, rfl⟩ := List.mem_map.1 hx
      obtain ⟨y, hy, hw⟩ := h i (List.mem_range.1 hi)
      rw [hy]; exact hw
    · obtain ⟨y, hy, hw⟩ := h i hi
      simp [colOf, Col.at, hi, hy]
  | bool =>
    refine ⟨⟨_, rfl, by simp⟩, by simp [colOf, Col.len], fun i hi => ?_⟩
    obtain ⟨y, hy⟩ := h i hi
    simp [colOf, Col.at, hi, hy]
def colsSh : List Shp → Nat → (Nat → List Value) → Nat → List Col
  | [], _, _, _ => []
  | s :: r, j, cs, n => colOf s (fun i => (cs i).getD j undef) n :: colsSh r (j + 1) cs n
theorem colsSh_len : ∀ (sh : List Shp) (j : Nat) (cs : Nat → List Value) (n : Nat), (colsSh sh j cs n).length = sh.length
  | [], _, _, _ => rfl
  | _ :: r, j, cs, n => by simp only [colsSh, List.length_cons, colsSh_len r]
theorem colsSh_ok {cs : Nat → List Value} {n : Nat} : ∀ (sh : List Shp) (j : Nat), (∀ i, i < n → ∀ (m : Nat) s, sh[m]? = some s → vIs s ((cs i).getD (j + m) undef)) →
    colsIs n sh (colsSh sh j cs n) ∧ ∀ (m : Nat) c, (colsSh sh j cs n)[m]? = some c → c.len = n ∧ ∀ i, i < n → c.at i = (cs i).getD (j + m) undef
  | [], j, _ => ⟨rfl, fun m c h => by simp [colsSh] at h⟩
  | s :: r, j, h => by
    have h0 := colOf_ok (s := s) (V := fun i => (cs i).getD j undef) (n := n) fun i hi => h i hi 0 s rfl
    obtain ⟨h1, h2⟩ := colsSh_ok (cs := cs) (n := n) r (j + 1) fun i hi m s' hm => by
      have := h i hi (m + 1) s' (by simpa using hm)
      rwa [show j + (m + 1) = j + 1 + m by omega] at this
    refine ⟨⟨_, _, rfl, h0.1, h1⟩, fun m c hm => ?_⟩
    cases m with
    | zero => simp only [colsSh, List.getElem?_cons_zero, Option.some.injEq] at hm; subst hm; exact ⟨h0.2.1, h0.2.2⟩
    | succ m =>
      have := h2 m c (by simpa [colsSh] using hm)
      rwa [show j + 1 + m = j + (m + 1) by omega] at this
theorem cellOf_world (W : World) (a : Addr) : cellOf (fun b => W.heap[b]?) a = W.cell? a := rfl
theorem open_rows {r : Reach} {b0 : Nat} {t e : TypeId} {v : Value} {dt : DataW H} {ps : List MemPlace} (d : Nat) (ht : P.underlying t = some (.slice e)) {sh : List Shp} (hsh : shpT P d e = some sh) (hce : P.cellsOf e = sh.length)
    (hv : Value.okWide P w r b0 t v) (h : DataW.Trod enc P w base sp held t v dt ps) :
    ∃ (a : Option Addr) (len cap : Nat) (cols : List Col), v = .slice a len cap ∧ colsIs len sh cols ∧ (RowAt (fun b => w.heap[b]?) a len cols ∧ len ≤ cap) := by
  obtain ⟨a0, len0, cap0, rfl⟩ := okWide_slice ht hv
  obtain ⟨fuel, hf⟩ := h
  rcases Go.Deep.open_slice ht hf with ⟨hcs, _⟩ | ⟨a, len, cap, m, n, Dt, Pl, hcs, hb, hl, hm, hmm, _, hx⟩
  · simp only [Value.cells, List.cons.injEq, and_true] at hcs
    injection hcs with e1 e2 e3
    subst e1; subst e2; subst e3
    obtain ⟨h1, h2⟩ := colsSh_ok (cs := fun _ => []) (n := 0) sh 0 fun i hi => absurd hi (Nat.not_lt_zero _)
    refine ⟨none, 0, 0, _, rfl, h1, ⟨fun c hc => ?_, fun i hi => absurd hi (Nat.not_lt_zero _), Nat.zero_le _⟩, Nat.le_refl _⟩
    obtain ⟨k, hk⟩ := List.getElem?_of_mem hc
    exact (h2 k c hk).1
  · simp only [Value.cells, List.cons.injEq, and_true] at hcs
    injection hcs with e1 e2 e3
    subst e1; subst e2; subst e3
    have hml : len0 ≤ m := by rw [hmm]; split <;> omega
    obtain ⟨cs, hcs⟩ := Go.Deep.choose_lt (α := List Value) (p := fun i cs' => w.cells? base (a.add (i * P.cellsOf e)) (P.cellsOf e) = some cs' ∧ DataW.trod enc P w base sp held n e cs' = some (Dt i, Pl i)) (n := len0) fun i hi => hx i (by omega)
    have hcells : ∀ i, i < len0 → cellsIs sh (cs i) := fun i hi => shpT_ok d e sh n _ _ hsh (hcs i hi).2
    obtain ⟨h1, h2⟩ := colsSh_ok (cs := cs) (n := len0) sh 0 fun i hi k s hk => by
      obtain ⟨x, hx1, hx2⟩ := cellsIs_get (hcells i hi) k s hk
      rw [Nat.zero_add, List.getD_eq_getElem?_getD, hx1]
      exact hx2
    refine ⟨some a, len0, cap0, _, rfl, h1, ⟨fun c hc => ?_, fun i hi => ⟨a, rfl, fun j c hj => ?_⟩, by omega⟩, by omega⟩
    · obtain ⟨k, hk⟩ := List.getElem?_of_mem hc
      exact (h2 k c hk).1
    · obtain ⟨_, hlen, hget⟩ := World.cells?_some (hcs i hi).1
      have hj' : j < sh.length := by
        have := lt_of_get hj
        rwa [colsSh_len] at this
      rw [cellOf_world, colsSh_len, ← hce, ← Go.Deep.add_add, hget j (by omega), (h2 j c hj).2 i hi, Nat.zero_add, List.getD_eq_getElem?_getD]
      rw [List.getElem?_eq_getElem (by omega)]
      rfl
end
end Go.Sl
namespace Go.Proofs.YtajcpopikdpcmaaGreat
open Go.ChangeShapes Go.WideShapes Go.ChangeAt Go.RowKit Go.Joins Go.Sl
theorem LargeKeeps_own : ownKnob Tryz.prog.godebug = none := by kernel_rfl
theorem LargeKeeps_laidOut : laidOutB Tryz.prog = true := by kernel_rfl
set_option maxRecDepth 100000 in
theorem LargeKeeps_lifted (os : Os) (started : os.Started) (H : Type) (enc : TypeId × Value → H) :
    ReturnsInHanded {} Tryz.checked os 7 .any (Rows.largeKeepsSpec.pre6 enc Tryz.prog Tryz.f7 Rows.largeKeepsRow.domain false) (Rows.largeKeepsSpec.post enc Tryz.prog Tryz.f7 false true false false) := by
  refine returnsInHanded_of_change (C := Tryz.checked) LargeKeeps_own started (by kernel_rfl) Tryz.func7
    (ChangeSpec.witness6 (enc := enc) (C := Tryz.checked) false ⟨#[], #[.agg #[.int .i64 0, .int .i64 0, .int .i64 0], .slice none 0 0, .int .i64 0], []⟩ 8 (by kernel_rfl) (by kernel_rfl) (by kernel_rfl) (by kernel_rfl)) ?_
  intro W base args ds gs before hval0 hW _ _
  have hval : ∀ (j : Nat) t v, Tryz.f7.params[j]? = some t → args[j]? = some v → Value.okWide Tryz.prog W .any base t v := hval0
  have hW' := hW
  obtain ⟨p, q, hA0, _, _, _, _⟩ := hW
  have hA : DataW.TrodAll enc Tryz.prog W 0 (fun _ => true) true Tryz.f7.params.toList args.toList ds p := hA0
  rw [Tryz.params7] at hA hval
  obtain ⟨v0, v1, v2, d0, d1, d2, p0, p1, p2, rfl, rfl, _, h0, h1, h2⟩ := trodAll_three hA
  obtain ⟨k0, rfl, hk0⟩ := open_flat 8 (by kernel_rfl) (sh := [.int .i64, .int .i64, .int .i64]) (by kernel_rfl) (hval 0 23 v0 rfl rfl) h0
  obtain ⟨_, r0_0, rfl, ⟨a0_0, rfl, wa0_0⟩, hk0⟩ := hk0
  have ba0_0 := bd_i64 wa0_0
  obtain ⟨_, r0_1, rfl, ⟨a0_1, rfl, wa0_1⟩, hk0⟩ := hk0
  have ba0_1 := bd_i64 wa0_1
  obtain ⟨_, r0_2, rfl, ⟨a0_2, rfl, wa0_2⟩, hk0⟩ := hk0
  have ba0_2 := bd_i64 wa0_2
  obtain rfl := hk0
  obtain ⟨s1, n1, c1, k1, rfl, hk1, hr1⟩ := open_rows 8 Tryz.underlying24 (sh := [.int .u32]) (by kernel_rfl) (by kernel_rfl) (hval 1 24 v1 rfl rfl) h1
  obtain ⟨_, r1_0, rfl, ⟨x1_0, rfl, hl1_0, hw1_0⟩, hk1⟩ := hk1
  obtain rfl := hk1
  subst hl1_0
  obtain ⟨a2, rfl, _, _, wa2⟩ := open_int Tryz.underlying3 (hval 2 3 v2 rfl rfl) h2
  have ba2 := bd_i64 wa2
  clear hA0 hval0
  refine (LargeKeeps_plain a0_0 a0_1 a0_2 x1_0 a2 s1 c1 hr1 (fun v hv => bd_u32 (hw1_0 v hv)) (Sat.start W)).mono fun e W' ⟨he, hS⟩ => ?_
  rw [show LargeKeeps a0_0 a0_1 a0_2 x1_0 a2 = true from rfl] at he
  subst he
  exact ⟨_, rfl, law_post 4 LargeKeeps_laidOut hW' rfl rfl Tryz.underlying4 (by kernel_rfl) ⟨rfl, rfl, rfl⟩ hS.below⟩
theorem LargeKeeps_holds : Rows.LargeKeepsSaid :=
  OpenClaim.holds_of_wide 7 Tryz.f7 rfl rfl rfl rfl rfl rfl rfl ⟨rfl, rfl, rfl, rfl, rfl⟩ rfl rfl rfl rfl rfl (by kernel_rfl) Tryz.func7 (by kernel_rfl)
    (of_decide_eq_true (by kernel_rfl)) (by unfold Func.isWrapper; rw [if_neg (of_decide_eq_false (by kernel_rfl))]; exact ⟨rfl, rfl⟩)
    (fun os started H enc _ => LargeKeeps_lifted os started H enc)
#print axioms LargeKeeps_holds
end Go.Proofs.YtajcpopikdpcmaaGreat
