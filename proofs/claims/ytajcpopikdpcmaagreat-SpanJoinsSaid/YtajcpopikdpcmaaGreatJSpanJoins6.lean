/-
  Of every heap, a used span that no root names and that is released leaves a heap without it, and with so many pages more that are free; one that shrinks, or grows, stays where it is: the law's function answers true for every configuration, values and numbers. Conditions: none.
-/
import Derived.Test.YtajcpopikdpcmaaGreatJSpanJoins5
import Derived.ProofKit
import Derived.Lib.SmallJoins
import Derived.Deep.Slices
import Derived.OpenShut
import Derived.Test.YtajcpopikdpcmaaGreatRows
set_option linter.unusedSimpArgs false
set_option linter.unusedVariables false
namespace Go.Proofs.YtajcpopikdpcmaaGreat
open Go.Sl
def SpanJoins (t : Int) (p : Int) (sh : Int) (xs : List Int) (x0 : Int) (x1 : Int) : Bool := true
abbrev c_SpanJoins : Ct Sg := ⟨none, false, [.agg [.i .i64, .i .i64, .i .i64], .ro [some .u32], .agg [.i .i64, .i .i64]], .b⟩
def e_SpanJoins : Entry Sg := entC c_SpanJoins SpanJoins (fun t p sh xs x0 x1 => [bdAll xs, x0 ≤ 9223372036854775807, x1 ≤ 9223372036854775807])
def SpanJoins_w (t : Int) (p : Int) (sh : Int) (xs : List Int) (x0 : Int) (x1 : Int) (Q0 : Int → Int → Int → Nat → List Int → List Int → Int → Int → Int → Int → Int → Int → Int → Int → VS → Nat → List Int → List Int → Int → Int → Int → Int → Int → Int → Int → Int → Prop) (Q1 : Int → Int → Int → VS → Nat → List Int → List Int → Int → Int → Int → Int → Int → Int → Int → Int → Int → Prop) (R_ : Bool → Prop) : Prop := (∀ r2 : Bool, r2 = (r12_Few t p sh) → (((!r2) = false → bdAll xs) ∧ (((!r2) = false → bdAll xs) → (((!r2 || !r12_Sound t p sh xs) = true → (∀ r5 : Bool, r5 = (true) → (R_ (r5)))) ∧ ((!r2 || !r12_Sound t p sh xs) = false → (∀ r5 : Int × Bool, r5 = (l15_used t p sh xs x0) → ((AGood { t := t, p := p, s := sh } xs) ∧ ((AGood { t := t, p := p, s := sh } xs) → (((!Prod.snd r5) = true → (∀ r8 : Bool, r8 = (true) → (R_ (r8)))) ∧ ((!Prod.snd r5) = false → (((0 : Int) ≤ IntKind.wrap IntKind.u64 sh) ∧ (((0 : Int) ≤ IntKind.wrap IntKind.u64 sh) → (∀ r9 : List Int × List Int × Int × Int × Int × Int × Int × Int × Int × Int × Bool, r9 = (r12_State t p sh xs) → ((bdAll xs) ∧ ((bdAll xs) → (∀ r13 : VS, r13 = (VS.whole xs) → ((List.length xs ≤ (1000000 : Nat)) ∧ ((List.length xs ≤ (1000000 : Nat)) → ((∀ (v : Int), v ∈ xs → bd32 v) ∧ ((∀ (v : Int), v ∈ xs → bd32 v) → ((∀ r17 : List Int × List Int, r17 = (l15_without (Prod.fst r9) (Prod.fst (Prod.snd r9)) (IntKind.wrap IntKind.i64 (IntKind.wrap IntKind.i64 (x0 + (1 : Int)) * IntKind.wrap IntKind.i64 ((1 : Int) * (2 : Int) ^ min (Int.toNat (IntKind.wrap IntKind.u64 sh)) (64 : Nat))))) → ((List.length (Prod.fst r9) = List.length (Prod.fst (Prod.snd r9))) ∧ ((List.length (Prod.fst r9) = List.length (Prod.fst (Prod.snd r9))) → ((List.length (Prod.fst r9) ≤ (40000 : Nat)) ∧ ((List.length (Prod.fst r9) ≤ (40000 : Nat)) → (Q0 (Prod.fst r5) (IntKind.wrap IntKind.i64 ((1 : Int) * (2 : Int) ^ min (Int.toNat (IntKind.wrap IntKind.u64 sh)) (64 : Nat))) (IntKind.wrap IntKind.i64 (IntKind.wrap IntKind.i64 (x0 + (1 : Int)) * IntKind.wrap IntKind.i64 ((1 : Int) * (2 : Int) ^ min (Int.toNat (IntKind.wrap IntKind.u64 sh)) (64 : Nat)))) (List.length (Prod.fst r9)) (Prod.fst r9) (Prod.fst (Prod.snd r9)) (Prod.fst (Prod.snd (Prod.snd r9))) (Prod.fst (Prod.snd (Prod.snd (Prod.snd r9)))) (Prod.fst (Prod.snd (Prod.snd (Prod.snd (Prod.snd r9))))) (Prod.fst (Prod.snd (Prod.snd (Prod.snd (Prod.snd (Prod.snd r9)))))) (Prod.fst (Prod.snd (Prod.snd (Prod.snd (Prod.snd (Prod.snd (Prod.snd r9))))))) (Prod.fst (Prod.snd (Prod.snd (Prod.snd (Prod.snd (Prod.snd (Prod.snd (Prod.snd r9)))))))) (Prod.fst (Prod.snd (Prod.snd (Prod.snd (Prod.snd (Prod.snd (Prod.snd (Prod.snd (Prod.snd r9))))))))) (Prod.fst (Prod.snd (Prod.snd (Prod.snd (Prod.snd (Prod.snd (Prod.snd (Prod.snd (Prod.snd (Prod.snd r9)))))))))) (r13) (List.length (Prod.fst r17)) (Prod.fst r17) (Prod.snd r17) (Prod.fst (Prod.snd (Prod.snd r9))) (Prod.fst (Prod.snd (Prod.snd (Prod.snd r9)))) (Prod.fst (Prod.snd (Prod.snd (Prod.snd (Prod.snd r9))))) (Prod.fst (Prod.snd (Prod.snd (Prod.snd (Prod.snd (Prod.snd r9)))))) (Prod.fst (Prod.snd (Prod.snd (Prod.snd (Prod.snd (Prod.snd (Prod.snd r9))))))) (Prod.fst (Prod.snd (Prod.snd (Prod.snd (Prod.snd (Prod.snd (Prod.snd (Prod.snd r9)))))))) (Prod.fst (Prod.snd (Prod.snd (Prod.snd (Prod.snd (Prod.snd (Prod.snd (Prod.snd (Prod.snd r9))))))))) (Prod.fst (Prod.snd (Prod.snd (Prod.snd (Prod.snd (Prod.snd (Prod.snd (Prod.snd (Prod.snd (Prod.snd r9)))))))))))))))) ∧ (∀ r18 : List Int × List Int, r18 = (l15_without (Prod.fst r9) (Prod.fst (Prod.snd r9)) (IntKind.wrap IntKind.i64 (IntKind.wrap IntKind.i64 (x0 + (1 : Int)) * IntKind.wrap IntKind.i64 ((1 : Int) * (2 : Int) ^ min (Int.toNat (IntKind.wrap IntKind.u64 sh)) (64 : Nat))))) → ((List.length (Prod.fst r9) = List.length (Prod.fst (Prod.snd r9))) ∧ ((List.length (Prod.fst r9) = List.length (Prod.fst (Prod.snd r9))) → ((List.length (Prod.fst r9) ≤ (40000 : Nat)) ∧ ((List.length (Prod.fst r9) ≤ (40000 : Nat)) → (Q0 (Prod.fst r5) (IntKind.wrap IntKind.i64 ((1 : Int) * (2 : Int) ^ min (Int.toNat (IntKind.wrap IntKind.u64 sh)) (64 : Nat))) (IntKind.wrap IntKind.i64 (IntKind.wrap IntKind.i64 (x0 + (1 : Int)) * IntKind.wrap IntKind.i64 ((1 : Int) * (2 : Int) ^ min (Int.toNat (IntKind.wrap IntKind.u64 sh)) (64 : Nat)))) (List.length (Prod.fst r9)) (Prod.fst r9) (Prod.fst (Prod.snd r9)) (Prod.fst (Prod.snd (Prod.snd r9))) (Prod.fst (Prod.snd (Prod.snd (Prod.snd r9)))) (Prod.fst (Prod.snd (Prod.snd (Prod.snd (Prod.snd r9))))) (Prod.fst (Prod.snd (Prod.snd (Prod.snd (Prod.snd (Prod.snd r9)))))) (Prod.fst (Prod.snd (Prod.snd (Prod.snd (Prod.snd (Prod.snd (Prod.snd r9))))))) (Prod.fst (Prod.snd (Prod.snd (Prod.snd (Prod.snd (Prod.snd (Prod.snd (Prod.snd r9)))))))) (Prod.fst (Prod.snd (Prod.snd (Prod.snd (Prod.snd (Prod.snd (Prod.snd (Prod.snd (Prod.snd r9))))))))) (Prod.fst (Prod.snd (Prod.snd (Prod.snd (Prod.snd (Prod.snd (Prod.snd (Prod.snd (Prod.snd (Prod.snd r9)))))))))) (r13) (List.length (Prod.fst r18)) (Prod.fst r18) (Prod.snd r18) (Prod.fst (Prod.snd (Prod.snd r9))) (Prod.fst (Prod.snd (Prod.snd (Prod.snd r9)))) (Prod.fst (Prod.snd (Prod.snd (Prod.snd (Prod.snd r9))))) (Prod.fst (Prod.snd (Prod.snd (Prod.snd (Prod.snd (Prod.snd r9)))))) (Prod.fst (Prod.snd (Prod.snd (Prod.snd (Prod.snd (Prod.snd (Prod.snd r9))))))) (Prod.fst (Prod.snd (Prod.snd (Prod.snd (Prod.snd (Prod.snd (Prod.snd (Prod.snd r9)))))))) (Prod.fst (Prod.snd (Prod.snd (Prod.snd (Prod.snd (Prod.snd (Prod.snd (Prod.snd (Prod.snd r9))))))))) (Prod.fst (Prod.snd (Prod.snd (Prod.snd (Prod.snd (Prod.snd (Prod.snd (Prod.snd (Prod.snd (Prod.snd r9)))))))))))))))))))))))))))))))))))))
def SpanJoins_w0 (t : Int) (p : Int) (sh : Int) (xs : List Int) (x0 : Int) (x1 : Int) (n : Int) (pg : Int) (a : Int) (nw : Nat) (wa : List Int) (wz : List Int) (w0 : Int) (w1 : Int) (w2 : Int) (w3 : Int) (w4 : Int) (w5 : Int) (w6 : Int) (w7 : Int) (sv : VS) (nu : Nat) (ua : List Int) (uz : List Int) (u0 : Int) (u1 : Int) (u2 : Int) (u3 : Int) (u4 : Int) (u5 : Int) (u6 : Int) (u7 : Int) (Q0 : Int → Int → Int → Nat → List Int → List Int → Int → Int → Int → Int → Int → Int → Int → Int → VS → Nat → List Int → List Int → Int → Int → Int → Int → Int → Int → Int → Int → Prop) (Q1 : Int → Int → Int → VS → Nat → List Int → List Int → Int → Int → Int → Int → Int → Int → Int → Int → Int → Prop) (R_ : Bool → Prop) : Prop := (((decide (x1 ≥ (1 : Int)) && decide (x1 < n)) = true → (∀ r1 : VS, r1 = (span_Shrink sv t p sh x0 n x1) → ((p ≤ (1024 : Int)) ∧ ((p ≤ (1024 : Int)) → (((0 : Int) ≤ x0) ∧ (((0 : Int) ≤ x0) → (((0 : Int) ≤ x1 ∧ x1 ≤ n ∧ n ≤ (1024 : Int) ∧ x0 ≤ p) ∧ (((0 : Int) ≤ x1 ∧ x1 ≤ n ∧ n ≤ (1024 : Int) ∧ x0 ≤ p) → (Q1 (n) (pg) (a) (r1) (nu) (ua) (uz) (u0) (u1) (u2) (u3) (u4) (u5) (u6) (u7) (x1)))))))))) ∧ ((decide (x1 ≥ (1 : Int)) && decide (x1 < n)) = false → (((decide (x1 > n)) = true → (∀ r2 : VS × Bool, r2 = (span_Grow sv t p sh x0 n x1) → ((p ≤ (1024 : Int)) ∧ ((p ≤ (1024 : Int)) → (((0 : Int) ≤ x0) ∧ (((0 : Int) ≤ x0) → (((!Prod.snd r2) = true → (∀ r6 : List Int × List Int, r6 = ((VS.wrote (Prod.fst r2), VS.puts (Prod.fst r2))) → (R_ ((↑(List.length (Prod.fst r6)) : Int) == (0 : Int) && true)))) ∧ ((!Prod.snd r2) = false → (Q1 (n) (pg) (a) (Prod.fst r2) (nu) (ua) (uz) (u0) (u1) (u2) (u3) (u4) (u5) (u6) (u7) (x1)))))))))) ∧ ((decide (x1 > n)) = false → (((0 : Int) ≤ (0 : Int) ∧ (0 : Int) < (8 : Int)) ∧ (((0 : Int) ≤ (0 : Int) ∧ (0 : Int) < (8 : Int)) → (((w0 == a) = true → (∀ r4 : Bool, r4 = (true) → (R_ (r4)))) ∧ ((w0 == a) = false → (((0 : Int) ≤ (1 : Int) ∧ (1 : Int) < (8 : Int)) ∧ (((0 : Int) ≤ (1 : Int) ∧ (1 : Int) < (8 : Int)) → (((w1 == a) = true → (∀ r6 : Bool, r6 = (true) → (R_ (r6)))) ∧ ((w1 == a) = false → (((0 : Int) ≤ (2 : Int) ∧ (2 : Int) < (8 : Int)) ∧ (((0 : Int) ≤ (2 : Int) ∧ (2 : Int) < (8 : Int)) → (((w2 == a) = true → (∀ r8 : Bool, r8 = (true) → (R_ (r8)))) ∧ ((w2 == a) = false → (((0 : Int) ≤ (3 : Int) ∧ (3 : Int) < (8 : Int)) ∧ (((0 : Int) ≤ (3 : Int) ∧ (3 : Int) < (8 : Int)) → (((w3 == a) = true → (∀ r10 : Bool, r10 = (true) → (R_ (r10)))) ∧ ((w3 == a) = false → (((0 : Int) ≤ (4 : Int) ∧ (4 : Int) < (8 : Int)) ∧ (((0 : Int) ≤ (4 : Int) ∧ (4 : Int) < (8 : Int)) → (((w4 == a) = true → (∀ r12 : Bool, r12 = (true) → (R_ (r12)))) ∧ ((w4 == a) = false → (((0 : Int) ≤ (5 : Int) ∧ (5 : Int) < (8 : Int)) ∧ (((0 : Int) ≤ (5 : Int) ∧ (5 : Int) < (8 : Int)) → (((w5 == a) = true → (∀ r14 : Bool, r14 = (true) → (R_ (r14)))) ∧ ((w5 == a) = false → (((0 : Int) ≤ (6 : Int) ∧ (6 : Int) < (8 : Int)) ∧ (((0 : Int) ≤ (6 : Int) ∧ (6 : Int) < (8 : Int)) → (((w6 == a) = true → (∀ r16 : Bool, r16 = (true) → (R_ (r16)))) ∧ ((w6 == a) = false → (((0 : Int) ≤ (7 : Int) ∧ (7 : Int) < (8 : Int)) ∧ (((0 : Int) ≤ (7 : Int) ∧ (7 : Int) < (8 : Int)) → (((w7 == a) = true → (∀ r18 : Bool, r18 = (true) → (R_ (r18)))) ∧ ((w7 == a) = false → (∀ r18 : VS, r18 = (span_Release sv t p sh x0 n) → ((p ≤ (1024 : Int)) ∧ ((p ≤ (1024 : Int)) → (((0 : Int) ≤ x0) ∧ (((0 : Int) ≤ x0) → (∀ r21 : VS × Int, r21 = ((VS.read r18 (1 : Int), VS.get r18 (1 : Int))) → (∀ r22 : VS, r22 = (VS.set (Prod.fst r21) (1 : Int) (IntKind.wrap IntKind.u32 (Prod.snd r21 - (1 : Int)))) → ((bd32 (IntKind.wrap IntKind.u32 (Prod.snd r21 - (1 : Int)))) ∧ ((bd32 (IntKind.wrap IntKind.u32 (Prod.snd r21 - (1 : Int)))) → (Q1 (n) (pg) (a) (r22) (nu) (ua) (uz) (u0) (u1) (u2) (u3) (u4) (u5) (u6) (u7) ((0 : Int))))))))))))))))))))))))))))))))))))))))))))))))
def SpanJoins_I0 (t : Int) (p : Int) (sh : Int) (xs : List Int) (x0 : Int) (x1 : Int) (n : Int) (pg : Int) (a : Int) (nw : Nat) (wa : List Int) (wz : List Int) (w0 : Int) (w1 : Int) (w2 : Int) (w3 : Int) (w4 : Int) (w5 : Int) (w6 : Int) (w7 : Int) (sv : VS) (nu : Nat) (ua : List Int) (uz : List Int) (u0 : Int) (u1 : Int) (u2 : Int) (u3 : Int) (u4 : Int) (u5 : Int) (u6 : Int) (u7 : Int) (r_ : Bool) : Prop := p ≤ 64 ∧ soundA ⟨t, p, sh⟩ xs = true ∧ (0 ≤ x0 ∧ x0 < p) ∧ (aInfo ⟨t, p, sh⟩ xs x0).k = 2 ∧ (wa, wz, w0, w1, w2, w3, w4, w5, w6, w7, true) = stateA ⟨t, p, sh⟩ xs ∧ nw = wa.length ∧ n = (aInfo ⟨t, p, sh⟩ xs x0).l ∧ pg = pgB sh ∧ a = ((x0 + 1) * pgB sh) ∧ sv = VS.whole xs ∧ (ua, uz, u0, u1, u2, u3, u4, u5, u6, u7, true) = stWith (stateA ⟨t, p, sh⟩ xs) (outA ((x0 + 1) * pgB sh) (stateA ⟨t, p, sh⟩ xs).1) (outZ ((x0 + 1) * pgB sh) (stateA ⟨t, p, sh⟩ xs).1 (stateA ⟨t, p, sh⟩ xs).2.1) ∧ nu = ua.length ∧ r_ = true
def SpanJoins_w1 (t : Int) (p : Int) (sh : Int) (xs : List Int) (x0 : Int) (x1 : Int) (n : Int) (pg : Int) (a : Int) (sv : VS) (nu : Nat) (ua : List Int) (uz : List Int) (u0 : Int) (u1 : Int) (u2 : Int) (u3 : Int) (u4 : Int) (u5 : Int) (u6 : Int) (u7 : Int) (m : Int) (Q0 : Int → Int → Int → Nat → List Int → List Int → Int → Int → Int → Int → Int → Int → Int → Int → VS → Nat → List Int → List Int → Int → Int → Int → Int → Int → Int → Int → Int → Prop) (Q1 : Int → Int → Int → VS → Nat → List Int → List Int → Int → Int → Int → Int → Int → Int → Int → Int → Int → Prop) (R_ : Bool → Prop) : Prop := (((decide (m > (0 : Int))) = true → (∀ r1 : List Int × List Int, r1 = (l15_add ua uz a (IntKind.wrap IntKind.i64 (m * pg))) → ((List.length ua = List.length uz) ∧ ((List.length ua = List.length uz) → ((List.length ua ≤ (40000 : Nat)) ∧ ((List.length ua ≤ (40000 : Nat)) → ((∀ r5 : List Int, r5 = (VS.vals sv) → ((∀ r7 : List Int × List Int × Int × Int × Int × Int × Int × Int × Int × Int × Bool, r7 = (r12_State t p sh r5) → ((bdAll r5) ∧ ((bdAll r5) → (((Prod.snd (Prod.snd (Prod.snd (Prod.snd (Prod.snd (Prod.snd (Prod.snd (Prod.snd (Prod.snd (Prod.snd r7)))))))))) = true → (∀ r12 : Bool, r12 = (r12_Same (Prod.fst r7) (Prod.fst (Prod.snd r7)) (Prod.fst (Prod.snd (Prod.snd r7))) (Prod.fst (Prod.snd (Prod.snd (Prod.snd r7)))) (Prod.fst (Prod.snd (Prod.snd (Prod.snd (Prod.snd r7))))) (Prod.fst (Prod.snd (Prod.snd (Prod.snd (Prod.snd (Prod.snd r7)))))) (Prod.fst (Prod.snd (Prod.snd (Prod.snd (Prod.snd (Prod.snd (Prod.snd r7))))))) (Prod.fst (Prod.snd (Prod.snd (Prod.snd (Prod.snd (Prod.snd (Prod.snd (Prod.snd r7)))))))) (Prod.fst (Prod.snd (Prod.snd (Prod.snd (Prod.snd (Prod.snd (Prod.snd (Prod.snd (Prod.snd r7))))))))) (Prod.fst (Prod.snd (Prod.snd (Prod.snd (Prod.snd (Prod.snd (Prod.snd (Prod.snd (Prod.snd (Prod.snd r7)))))))))) (Prod.fst r1) (Prod.snd r1) u0 u1 u2 u3 u4 u5 u6 u7) → ((List.length (Prod.fst r7) = List.length (Prod.fst (Prod.snd r7))) ∧ ((List.length (Prod.fst r7) = List.length (Prod.fst (Prod.snd r7))) → ((List.length (Prod.fst r1) = List.length (Prod.snd r1)) ∧ ((List.length (Prod.fst r1) = List.length (Prod.snd r1)) → ((r12 = true → (0 : Int) ≤ (0 : Int) ∧ (0 : Int) < (↑(List.length xs) : Int)) ∧ ((r12 = true → (0 : Int) ≤ (0 : Int) ∧ (0 : Int) < (↑(List.length xs) : Int)) → (((r12) = true → (∀ r17 : List Int, r17 = (VS.vals sv) → ((true = true → (0 : Int) ≤ (0 : Int) ∧ (0 : Int) < (↑(List.length r17) : Int)) ∧ ((true = true → (0 : Int) ≤ (0 : Int) ∧ (0 : Int) < (↑(List.length r17) : Int)) → (((IntKind.wrap IntKind.i64 (List.getD r17 (0 : Nat) (0 : Int)) == IntKind.wrap IntKind.i64 (IntKind.wrap IntKind.i64 (IntKind.wrap IntKind.i64 (List.getD xs (0 : Nat) (0 : Int)) + n) - m)) = true → (∀ r21 : Bool, r21 = (true) → (R_ (r21)))) ∧ ((IntKind.wrap IntKind.i64 (List.getD r17 (0 : Nat) (0 : Int)) == IntKind.wrap IntKind.i64 (IntKind.wrap IntKind.i64 (IntKind.wrap IntKind.i64 (List.getD xs (0 : Nat) (0 : Int)) + n) - m)) = false → (R_ (false)))))))) ∧ ((r12) = false → (R_ (false)))))))))))) ∧ ((Prod.snd (Prod.snd (Prod.snd (Prod.snd (Prod.snd (Prod.snd (Prod.snd (Prod.snd (Prod.snd (Prod.snd r7)))))))))) = false → (R_ (false))))))) ∧ (∀ r8 : List Int × List Int × Int × Int × Int × Int × Int × Int × Int × Int × Bool, r8 = (r12_State t p sh r5) → ((bdAll r5) ∧ ((bdAll r5) → (((Prod.snd (Prod.snd (Prod.snd (Prod.snd (Prod.snd (Prod.snd (Prod.snd (Prod.snd (Prod.snd (Prod.snd r8)))))))))) = true → (∀ r12 : Bool, r12 = (r12_Same (Prod.fst r8) (Prod.fst (Prod.snd r8)) (Prod.fst (Prod.snd (Prod.snd r8))) (Prod.fst (Prod.snd (Prod.snd (Prod.snd r8)))) (Prod.fst (Prod.snd (Prod.snd (Prod.snd (Prod.snd r8))))) (Prod.fst (Prod.snd (Prod.snd (Prod.snd (Prod.snd (Prod.snd r8)))))) (Prod.fst (Prod.snd (Prod.snd (Prod.snd (Prod.snd (Prod.snd (Prod.snd r8))))))) (Prod.fst (Prod.snd (Prod.snd (Prod.snd (Prod.snd (Prod.snd (Prod.snd (Prod.snd r8)))))))) (Prod.fst (Prod.snd (Prod.snd (Prod.snd (Prod.snd (Prod.snd (Prod.snd (Prod.snd (Prod.snd r8))))))))) (Prod.fst (Prod.snd (Prod.snd (Prod.snd (Prod.snd (Prod.snd (Prod.snd (Prod.snd (Prod.snd (Prod.snd r8)))))))))) (Prod.fst r1) (Prod.snd r1) u0 u1 u2 u3 u4 u5 u6 u7) → ((List.length (Prod.fst r8) = List.length (Prod.fst (Prod.snd r8))) ∧ ((List.length (Prod.fst r8) = List.length (Prod.fst (Prod.snd r8))) → ((List.length (Prod.fst r1) = List.length (Prod.snd r1)) ∧ ((List.length (Prod.fst r1) = List.length (Prod.snd r1)) → ((r12 = true → (0 : Int) ≤ (0 : Int) ∧ (0 : Int) < (↑(List.length xs) : Int)) ∧ ((r12 = true → (0 : Int) ≤ (0 : Int) ∧ (0 : Int) < (↑(List.length xs) : Int)) → (((r12) = true → (∀ r17 : List Int, r17 = (VS.vals sv) → ((true = true → (0 : Int) ≤ (0 : Int) ∧ (0 : Int) < (↑(List.length r17) : Int)) ∧ ((true = true → (0 : Int) ≤ (0 : Int) ∧ (0 : Int) < (↑(List.length r17) : Int)) → (((IntKind.wrap IntKind.i64 (List.getD r17 (0 : Nat) (0 : Int)) == IntKind.wrap IntKind.i64 (IntKind.wrap IntKind.i64 (IntKind.wrap IntKind.i64 (List.getD xs (0 : Nat) (0 : Int)) + n) - m)) = true → (∀ r21 : Bool, r21 = (true) → (R_ (r21)))) ∧ ((IntKind.wrap IntKind.i64 (List.getD r17 (0 : Nat) (0 : Int)) == IntKind.wrap IntKind.i64 (IntKind.wrap IntKind.i64 (IntKind.wrap IntKind.i64 (List.getD xs (0 : Nat) (0 : Int)) + n) - m)) = false → (R_ (false)))))))) ∧ ((r12) = false → (R_ (false)))))))))))) ∧ ((Prod.snd (Prod.snd (Prod.snd (Prod.snd (Prod.snd (Prod.snd (Prod.snd (Prod.snd (Prod.snd (Prod.snd r8)))))))))) = false → (R_ (false))))))))) ∧ (∀ r6 : List Int, r6 = (VS.vals sv) → (∀ r8 : List Int × List Int × Int × Int × Int × Int × Int × Int × Int × Int × Bool, r8 = (r12_State t p sh r6) → ((bdAll r6) ∧ ((bdAll r6) → (((Prod.snd (Prod.snd (Prod.snd (Prod.snd (Prod.snd (Prod.snd (Prod.snd (Prod.snd (Prod.snd (Prod.snd r8)))))))))) = true → (∀ r12 : Bool, r12 = (r12_Same (Prod.fst r8) (Prod.fst (Prod.snd r8)) (Prod.fst (Prod.snd (Prod.snd r8))) (Prod.fst (Prod.snd (Prod.snd (Prod.snd r8)))) (Prod.fst (Prod.snd (Prod.snd (Prod.snd (Prod.snd r8))))) (Prod.fst (Prod.snd (Prod.snd (Prod.snd (Prod.snd (Prod.snd r8)))))) (Prod.fst (Prod.snd (Prod.snd (Prod.snd (Prod.snd (Prod.snd (Prod.snd r8))))))) (Prod.fst (Prod.snd (Prod.snd (Prod.snd (Prod.snd (Prod.snd (Prod.snd (Prod.snd r8)))))))) (Prod.fst (Prod.snd (Prod.snd (Prod.snd (Prod.snd (Prod.snd (Prod.snd (Prod.snd (Prod.snd r8))))))))) (Prod.fst (Prod.snd (Prod.snd (Prod.snd (Prod.snd (Prod.snd (Prod.snd (Prod.snd (Prod.snd (Prod.snd r8)))))))))) (Prod.fst r1) (Prod.snd r1) u0 u1 u2 u3 u4 u5 u6 u7) → ((List.length (Prod.fst r8) = List.length (Prod.fst (Prod.snd r8))) ∧ ((List.length (Prod.fst r8) = List.length (Prod.fst (Prod.snd r8))) → ((List.length (Prod.fst r1) = List.length (Prod.snd r1)) ∧ ((List.length (Prod.fst r1) = List.length (Prod.snd r1)) → ((r12 = true → (0 : Int) ≤ (0 : Int) ∧ (0 : Int) < (↑(List.length xs) : Int)) ∧ ((r12 = true → (0 : Int) ≤ (0 : Int) ∧ (0 : Int) < (↑(List.length xs) : Int)) → (((r12) = true → (∀ r17 : List Int, r17 = (VS.vals sv) → ((true = true → (0 : Int) ≤ (0 : Int) ∧ (0 : Int) < (↑(List.length r17) : Int)) ∧ ((true = true → (0 : Int) ≤ (0 : Int) ∧ (0 : Int) < (↑(List.length r17) : Int)) → (((IntKind.wrap IntKind.i64 (List.getD r17 (0 : Nat) (0 : Int)) == IntKind.wrap IntKind.i64 (IntKind.wrap IntKind.i64 (IntKind.wrap IntKind.i64 (List.getD xs (0 : Nat) (0 : Int)) + n) - m)) = true → (∀ r21 : Bool, r21 = (true) → (R_ (r21)))) ∧ ((IntKind.wrap IntKind.i64 (List.getD r17 (0 : Nat) (0 : Int)) == IntKind.wrap IntKind.i64 (IntKind.wrap IntKind.i64 (IntKind.wrap IntKind.i64 (List.getD xs (0 : Nat) (0 : Int)) + n) - m)) = false → (R_ (false)))))))) ∧ ((r12) = false → (R_ (false)))))))))))) ∧ ((Prod.snd (Prod.snd (Prod.snd (Prod.snd (Prod.snd (Prod.snd (Prod.snd (Prod.snd (Prod.snd (Prod.snd r8)))))))))) = false → (R_ (false))))))))))))))) ∧ ((decide (m > (0 : Int))) = false → ((∀ r1 : List Int, r1 = (VS.vals sv) → ((∀ r3 : List Int × List Int × Int × Int × Int × Int × Int × Int × Int × Int × Bool, r3 = (r12_State t p sh r1) → ((bdAll r1) ∧ ((bdAll r1) → (((Prod.snd (Prod.snd (Prod.snd (Prod.snd (Prod.snd (Prod.snd (Prod.snd (Prod.snd (Prod.snd (Prod.snd r3)))))))))) = true → (∀ r8 : Bool, r8 = (r12_Same (Prod.fst r3) (Prod.fst (Prod.snd r3)) (Prod.fst (Prod.snd (Prod.snd r3))) (Prod.fst (Prod.snd (Prod.snd (Prod.snd r3)))) (Prod.fst (Prod.snd (Prod.snd (Prod.snd (Prod.snd r3))))) (Prod.fst (Prod.snd (Prod.snd (Prod.snd (Prod.snd (Prod.snd r3)))))) (Prod.fst (Prod.snd (Prod.snd (Prod.snd (Prod.snd (Prod.snd (Prod.snd r3))))))) (Prod.fst (Prod.snd (Prod.snd (Prod.snd (Prod.snd (Prod.snd (Prod.snd (Prod.snd r3)))))))) (Prod.fst (Prod.snd (Prod.snd (Prod.snd (Prod.snd (Prod.snd (Prod.snd (Prod.snd (Prod.snd r3))))))))) (Prod.fst (Prod.snd (Prod.snd (Prod.snd (Prod.snd (Prod.snd (Prod.snd (Prod.snd (Prod.snd (Prod.snd r3)))))))))) ua uz u0 u1 u2 u3 u4 u5 u6 u7) → ((List.length (Prod.fst r3) = List.length (Prod.fst (Prod.snd r3))) ∧ ((List.length (Prod.fst r3) = List.length (Prod.fst (Prod.snd r3))) → ((List.length ua = List.length uz) ∧ ((List.length ua = List.length uz) → ((r8 = true → (0 : Int) ≤ (0 : Int) ∧ (0 : Int) < (↑(List.length xs) : Int)) ∧ ((r8 = true → (0 : Int) ≤ (0 : Int) ∧ (0 : Int) < (↑(List.length xs) : Int)) → (((r8) = true → (∀ r13 : List Int, r13 = (VS.vals sv) → ((true = true → (0 : Int) ≤ (0 : Int) ∧ (0 : Int) < (↑(List.length r13) : Int)) ∧ ((true = true → (0 : Int) ≤ (0 : Int) ∧ (0 : Int) < (↑(List.length r13) : Int)) → (((IntKind.wrap IntKind.i64 (List.getD r13 (0 : Nat) (0 : Int)) == IntKind.wrap IntKind.i64 (IntKind.wrap IntKind.i64 (IntKind.wrap IntKind.i64 (List.getD xs (0 : Nat) (0 : Int)) + n) - m)) = true → (∀ r17 : Bool, r17 = (true) → (R_ (r17)))) ∧ ((IntKind.wrap IntKind.i64 (List.getD r13 (0 : Nat) (0 : Int)) == IntKind.wrap IntKind.i64 (IntKind.wrap IntKind.i64 (IntKind.wrap IntKind.i64 (List.getD xs (0 : Nat) (0 : Int)) + n) - m)) = false → (R_ (false)))))))) ∧ ((r8) = false → (R_ (false)))))))))))) ∧ ((Prod.snd (Prod.snd (Prod.snd (Prod.snd (Prod.snd (Prod.snd (Prod.snd (Prod.snd (Prod.snd (Prod.snd r3)))))))))) = false → (R_ (false))))))) ∧ (∀ r4 : List Int × List Int × Int × Int × Int × Int × Int × Int × Int × Int × Bool, r4 = (r12_State t p sh r1) → ((bdAll r1) ∧ ((bdAll r1) → (((Prod.snd (Prod.snd (Prod.snd (Prod.snd (Prod.snd (Prod.snd (Prod.snd (Prod.snd (Prod.snd (Prod.snd r4)))))))))) = true → (∀ r8 : Bool, r8 = (r12_Same (Prod.fst r4) (Prod.fst (Prod.snd r4)) (Prod.fst (Prod.snd (Prod.snd r4))) (Prod.fst (Prod.snd (Prod.snd (Prod.snd r4)))) (Prod.fst (Prod.snd (Prod.snd (Prod.snd (Prod.snd r4))))) (Prod.fst (Prod.snd (Prod.snd (Prod.snd (Prod.snd (Prod.snd r4)))))) (Prod.fst (Prod.snd (Prod.snd (Prod.snd (Prod.snd (Prod.snd (Prod.snd r4))))))) (Prod.fst (Prod.snd (Prod.snd (Prod.snd (Prod.snd (Prod.snd (Prod.snd (Prod.snd r4)))))))) (Prod.fst (Prod.snd (Prod.snd (Prod.snd (Prod.snd (Prod.snd (Prod.snd (Prod.snd (Prod.snd r4))))))))) (Prod.fst (Prod.snd (Prod.snd (Prod.snd (Prod.snd (Prod.snd (Prod.snd (Prod.snd (Prod.snd (Prod.snd r4)))))))))) ua uz u0 u1 u2 u3 u4 u5 u6 u7) → ((List.length (Prod.fst r4) = List.length (Prod.fst (Prod.snd r4))) ∧ ((List.length (Prod.fst r4) = List.length (Prod.fst (Prod.snd r4))) → ((List.length ua = List.length uz) ∧ ((List.length ua = List.length uz) → ((r8 = true → (0 : Int) ≤ (0 : Int) ∧ (0 : Int) < (↑(List.length xs) : Int)) ∧ ((r8 = true → (0 : Int) ≤ (0 : Int) ∧ (0 : Int) < (↑(List.length xs) : Int)) → (((r8) = true → (∀ r13 : List Int, r13 = (VS.vals sv) → ((true = true → (0 : Int) ≤ (0 : Int) ∧ (0 : Int) < (↑(List.length r13) : Int)) ∧ ((true = true → (0 : Int) ≤ (0 : Int) ∧ (0 : Int) < (↑(List.length r13) : Int)) → (((IntKind.wrap IntKind.i64 (List.getD r13 (0 : Nat) (0 : Int)) == IntKind.wrap IntKind.i64 (IntKind.wrap IntKind.i64 (IntKind.wrap IntKind.i64 (List.getD xs (0 : Nat) (0 : Int)) + n) - m)) = true → (∀ r17 : Bool, r17 = (true) → (R_ (r17)))) ∧ ((IntKind.wrap IntKind.i64 (List.getD r13 (0 : Nat) (0 : Int)) == IntKind.wrap IntKind.i64 (IntKind.wrap IntKind.i64 (IntKind.wrap IntKind.i64 (List.getD xs (0 : Nat) (0 : Int)) + n) - m)) = false → (R_ (false)))))))) ∧ ((r8) = false → (R_ (false)))))))))))) ∧ ((Prod.snd (Prod.snd (Prod.snd (Prod.snd (Prod.snd (Prod.snd (Prod.snd (Prod.snd (Prod.snd (Prod.snd r4)))))))))) = false → (R_ (false))))))))) ∧ (∀ r2 : List Int, r2 = (VS.vals sv) → (∀ r4 : List Int × List Int × Int × Int × Int × Int × Int × Int × Int × Int × Bool, r4 = (r12_State t p sh r2) → ((bdAll r2) ∧ ((bdAll r2) → (((Prod.snd (Prod.snd (Prod.snd (Prod.snd (Prod.snd (Prod.snd (Prod.snd (Prod.snd (Prod.snd (Prod.snd r4)))))))))) = true → (∀ r8 : Bool, r8 = (r12_Same (Prod.fst r4) (Prod.fst (Prod.snd r4)) (Prod.fst (Prod.snd (Prod.snd r4))) (Prod.fst (Prod.snd (Prod.snd (Prod.snd r4)))) (Prod.fst (Prod.snd (Prod.snd (Prod.snd (Prod.snd r4))))) (Prod.fst (Prod.snd (Prod.snd (Prod.snd (Prod.snd (Prod.snd r4)))))) (Prod.fst (Prod.snd (Prod.snd (Prod.snd (Prod.snd (Prod.snd (Prod.snd r4))))))) (Prod.fst (Prod.snd (Prod.snd (Prod.snd (Prod.snd (Prod.snd (Prod.snd (Prod.snd r4)))))))) (Prod.fst (Prod.snd (Prod.snd (Prod.snd (Prod.snd (Prod.snd (Prod.snd (Prod.snd (Prod.snd r4))))))))) (Prod.fst (Prod.snd (Prod.snd (Prod.snd (Prod.snd (Prod.snd (Prod.snd (Prod.snd (Prod.snd (Prod.snd r4)))))))))) ua uz u0 u1 u2 u3 u4 u5 u6 u7) → ((List.length (Prod.fst r4) = List.length (Prod.fst (Prod.snd r4))) ∧ ((List.length (Prod.fst r4) = List.length (Prod.fst (Prod.snd r4))) → ((List.length ua = List.length uz) ∧ ((List.length ua = List.length uz) → ((r8 = true → (0 : Int) ≤ (0 : Int) ∧ (0 : Int) < (↑(List.length xs) : Int)) ∧ ((r8 = true → (0 : Int) ≤ (0 : Int) ∧ (0 : Int) < (↑(List.length xs) : Int)) → (((r8) = true → (∀ r13 : List Int, r13 = (VS.vals sv) → ((true = true → (0 : Int) ≤ (0 : Int) ∧ (0 : Int) < (↑(List.length r13) : Int)) ∧ ((true = true → (0 : Int) ≤ (0 : Int) ∧ (0 : Int) < (↑(List.length r13) : Int)) → (((IntKind.wrap IntKind.i64 (List.getD r13 (0 : Nat) (0 : Int)) == IntKind.wrap IntKind.i64 (IntKind.wrap IntKind.i64 (IntKind.wrap IntKind.i64 (List.getD xs (0 : Nat) (0 : Int)) + n) - m)) = true → (∀ r17 : Bool, r17 = (true) → (R_ (r17)))) ∧ ((IntKind.wrap IntKind.i64 (List.getD r13 (0 : Nat) (0 : Int)) == IntKind.wrap IntKind.i64 (IntKind.wrap IntKind.i64 (IntKind.wrap IntKind.i64 (List.getD xs (0 : Nat) (0 : Int)) + n) - m)) = false → (R_ (false)))))))) ∧ ((r8) = false → (R_ (false)))))))))))) ∧ ((Prod.snd (Prod.snd (Prod.snd (Prod.snd (Prod.snd (Prod.snd (Prod.snd (Prod.snd (Prod.snd (Prod.snd r4)))))))))) = false → (R_ (false)))))))))))
def SpanJoins_I1 (t : Int) (p : Int) (sh : Int) (xs : List Int) (x0 : Int) (x1 : Int) (n : Int) (pg : Int) (a : Int) (sv : VS) (nu : Nat) (ua : List Int) (uz : List Int) (u0 : Int) (u1 : Int) (u2 : Int) (u3 : Int) (u4 : Int) (u5 : Int) (u6 : Int) (u7 : Int) (m : Int) (r_ : Bool) : Prop := p ≤ 64 ∧ soundA ⟨t, p, sh⟩ xs = true ∧ (0 ≤ x0 ∧ x0 < p) ∧ (aInfo ⟨t, p, sh⟩ xs x0).k = 2 ∧ n = (aInfo ⟨t, p, sh⟩ xs x0).l ∧ pg = pgB sh ∧ a = ((x0 + 1) * pgB sh) ∧ (ua, uz, u0, u1, u2, u3, u4, u5, u6, u7, true) = stWith (stateA ⟨t, p, sh⟩ xs) (outA ((x0 + 1) * pgB sh) (stateA ⟨t, p, sh⟩ xs).1) (outZ ((x0 + 1) * pgB sh) (stateA ⟨t, p, sh⟩ xs).1 (stateA ⟨t, p, sh⟩ xs).2.1) ∧ nu = ua.length ∧ soundA ⟨t, p, sh⟩ sv.vals = true ∧ stateA ⟨t, p, sh⟩ sv.vals = (bif decide (0 < m) then stWith (stateA ⟨t, p, sh⟩ xs) (insA ((x0 + 1) * pgB sh) (outA ((x0 + 1) * pgB sh) (stateA ⟨t, p, sh⟩ xs).1)) (insZ ((x0 + 1) * pgB sh) (m * pgB sh) (outA ((x0 + 1) * pgB sh) (stateA ⟨t, p, sh⟩ xs).1) (outZ ((x0 + 1) * pgB sh) (stateA ⟨t, p, sh⟩ xs).1 (stateA ⟨t, p, sh⟩ xs).2.1)) else stWith (stateA ⟨t, p, sh⟩ xs) (outA ((x0 + 1) * pgB sh) (stateA ⟨t, p, sh⟩ xs).1) (outZ ((x0 + 1) * pgB sh) (stateA ⟨t, p, sh⟩ xs).1 (stateA ⟨t, p, sh⟩ xs).2.1)) ∧ (0 ≤ m ∧ m ≤ 1024) ∧ cel sv.vals 0 = cel xs 0 + n - m ∧ r_ = true
theorem SpanJoins_begin (t : Int) (p : Int) (sh : Int) (xs : List Int) (x0 : Int) (x1 : Int) (hp0 : bdAll xs) (hp1 : x0 ≤ 9223372036854775807) (hp2 : x1 ≤ 9223372036854775807) (hl0 : xs.length ≤ 9223372036854775807) : SpanJoins_w t p sh xs x0 x1 (fun n' pg' a' nw' wa' wz' w0' w1' w2' w3' w4' w5' w6' w7' sv' nu' ua' uz' u0' u1' u2' u3' u4' u5' u6' u7' => SpanJoins_I0 t p sh xs x0 x1 n' pg' a' nw' wa' wz' w0' w1' w2' w3' w4' w5' w6' w7' sv' nu' ua' uz' u0' u1' u2' u3' u4' u5' u6' u7' (SpanJoins t p sh xs x0 x1)) (fun n' pg' a' sv' nu' ua' uz' u0' u1' u2' u3' u4' u5' u6' u7' m' => SpanJoins_I1 t p sh xs x0 x1 n' pg' a' sv' nu' ua' uz' u0' u1' u2' u3' u4' u5' u6' u7' m' (SpanJoins t p sh xs x0 x1)) (fun r__ => r__ = (SpanJoins t p sh xs x0 x1)) := by
  unfold SpanJoins_w
  try unfold SpanJoins_I0
  try unfold SpanJoins_I1
  rintro r2 rfl
  refine ⟨fun _ => hp0, fun _ => ⟨fun hc => (by rintro r rfl; rfl), fun hc => ?_⟩⟩
  have hfs : p ≤ 64 ∧ soundA ⟨t, p, sh⟩ xs = true := by
    simp only [r12_Few, r12_Sound, Bool.or_eq_false_iff, Bool.not_eq_false', decide_eq_true_eq] at hc
    exact hc
  have hs := hfs.2
  have hgood := sound_good hs hp0
  have hlong := good_long hgood
  have hlen := hlong.2
  have hok := Cf.ok_iff.1 hgood.ok
  simp only at hok
  have hp : p ≤ 1024 := by omega
  have hpb : p ≤ 9223372036854775807 := by omega
  rintro r5 rfl
  refine ⟨hgood, fun _ => ⟨fun hd => (by rintro r rfl; rfl), fun hd => ?_⟩⟩
  have hu : Cf.page ⟨t, p, sh⟩ x0 = true ∧ ((aInfo ⟨t, p, sh⟩ xs x0).k == 2) = true := by
    unfold l15_used at hd
    cases hpg : Cf.page ⟨t, p, sh⟩ x0 with
    | false => rw [hpg] at hd; cases hd
    | true => rw [hpg] at hd; exact ⟨rfl, by simpa using hd⟩
  have hL : (l15_used t p sh xs x0).1 = (aInfo ⟨t, p, sh⟩ xs x0).l := by unfold l15_used; rw [hu.1]; rfl
  have hg : 0 ≤ x0 ∧ x0 < p := by
    have := hu.1
    simp only [Cf.page, Bool.and_eq_true, decide_eq_true_eq] at this; exact this
  have hk : (aInfo ⟨t, p, sh⟩ xs x0).k = 2 := by simpa using hu.2
  rw [hL]
  have hpg := (szB_ok hok.2.2 (k := 0) (by omega)).2.2.2.2
  have b1 : 0 ≤ (x0 + 1) * pgB sh ∧ (x0 + 1) * pgB sh ≤ 64 * 1048576 := ⟨Int.mul_nonneg (by omega) (by omega), Int.mul_le_mul (by omega) (by omega) (by omega) (by omega)⟩
  rw [pg_w hok.2.2, w64 (n := x0 + 1) (by omega), w64 (n := (x0 + 1) * pgB sh) (by omega)]
  refine ⟨by rw [IntKind.wrap_u64]; omega, fun _ => ?_⟩
  rintro r9 rfl
  refine ⟨hp0, fun _ => ?_⟩
  rintro r13 rfl
  refine ⟨hlen, fun _ => ⟨hp0, fun _ => ?_⟩⟩
  have hl1 : (r12_State t p sh xs).1.length = (r12_State t p sh xs).2.1.length := st_len _ _
  have hl2 : (r12_State t p sh xs).1.length ≤ 40000 := st_few (c := ⟨t, p, sh⟩) xs hfs.1
  repeat' first
    | (refine fun r hr => ?_; subst hr)
    | refine ⟨hl1, fun _ => ?_⟩
    | refine ⟨hl2, fun _ => ?_⟩
    | (refine And.intro (fun r hr => ?_) (fun r hr => ?_) <;> subst hr)
    | fail
  all_goals
    exact ⟨hfs.1, hs, hg, hk, st_eta (state_ok hs), rfl, rfl, rfl, rfl, rfl, st_eta (x := stWith (stateA ⟨t, p, sh⟩ xs) (outA ((x0 + 1) * pgB sh) (stateA ⟨t, p, sh⟩ xs).1) (outZ ((x0 + 1) * pgB sh) (stateA ⟨t, p, sh⟩ xs).1 (stateA ⟨t, p, sh⟩ xs).2.1)) (state_ok hs), rfl, rfl⟩
theorem SpanJoins_step0 (t : Int) (p : Int) (sh : Int) (xs : List Int) (x0 : Int) (x1 : Int) (hp0 : bdAll xs) (hp1 : x0 ≤ 9223372036854775807) (hp2 : x1 ≤ 9223372036854775807) (hl0 : xs.length ≤ 9223372036854775807) (n : Int) (pg : Int) (a : Int) (nw : Nat) (wa : List Int) (wz : List Int) (w0 : Int) (w1 : Int) (w2 : Int) (w3 : Int) (w4 : Int) (w5 : Int) (w6 : Int) (w7 : Int) (sv : VS) (nu : Nat) (ua : List Int) (uz : List Int) (u0 : Int) (u1 : Int) (u2 : Int) (u3 : Int) (u4 : Int) (u5 : Int) (u6 : Int) (u7 : Int) {r_ : Bool} (hI : SpanJoins_I0 t p sh xs x0 x1 n pg a nw wa wz w0 w1 w2 w3 w4 w5 w6 w7 sv nu ua uz u0 u1 u2 u3 u4 u5 u6 u7 r_) : SpanJoins_w0 t p sh xs x0 x1 n pg a nw wa wz w0 w1 w2 w3 w4 w5 w6 w7 sv nu ua uz u0 u1 u2 u3 u4 u5 u6 u7 (fun n' pg' a' nw' wa' wz' w0' w1' w2' w3' w4' w5' w6' w7' sv' nu' ua' uz' u0' u1' u2' u3' u4' u5' u6' u7' => SpanJoins_I0 t p sh xs x0 x1 n' pg' a' nw' wa' wz' w0' w1' w2' w3' w4' w5' w6' w7' sv' nu' ua' uz' u0' u1' u2' u3' u4' u5' u6' u7' r_ ∧ lx (9, 0, 0) (9, 0, 0)) (fun n' pg' a' sv' nu' ua' uz' u0' u1' u2' u3' u4' u5' u6' u7' m' => SpanJoins_I1 t p sh xs x0 x1 n' pg' a' sv' nu' ua' uz' u0' u1' u2' u3' u4' u5' u6' u7' m' r_ ∧ lx (8, 0, 0) (9, 0, 0)) (fun r__ => r__ = r_) := by
  unfold SpanJoins_I0 at hI
  unfold SpanJoins_w0
  try unfold SpanJoins_I0
  try unfold SpanJoins_I1
  obtain ⟨hfew, hs, hg, hk, hw, hnw, hn, hpg, ha, hsv, hu, hnu, hr⟩ := hI
  have hgood := sound_good hs hp0
  have hlong := good_long hgood
  have hlen := hlong.2
  have hok := Cf.ok_iff.1 hgood.ok
  simp only at hok
  have hp : p ≤ 1024 := by omega
  have hpb : p ≤ 9223372036854775807 := by omega
  obtain ⟨j0, j1, j2, j3⟩ := join_law (c := ⟨t, p, sh⟩) hp0 hs hg hk hn.symm
  simp only at j0
  subst hsv
  refine ⟨fun hd => ?_, fun hd => ⟨fun hd2 => ?_, fun hd2 => ?_⟩⟩
  · simp only [Bool.and_eq_true, decide_eq_true_eq] at hd
    rintro r1 hr1
    have e1 : r1 = ((qShrink ⟨t, p, sh⟩ x0 n x1).run (VS.whole xs)).1 := hr1
    clear hr1
    subst e1
    refine ⟨hp, fun _ => ⟨hg.1, fun _ => ⟨by omega, fun _ => ?_⟩⟩⟩
    obtain ⟨q1, q2, q3⟩ := j1 x1 hd.1 hd.2
    have e : decide (0 < x1) = true := by simp; omega
    exact ⟨⟨hfew, hs, hg, hk, hn, hpg, ha, hu, hnu, q1, by rw [e, cond_true]; exact q2, by omega, q3, hr⟩, lxo_⟩
  · simp only [decide_eq_true_eq] at hd2
    rintro r2 hr2
    have e1 : r2 = (qGrow ⟨t, p, sh⟩ x0 n x1).run (VS.whole xs) := hr2
    clear hr2
    subst e1
    obtain ⟨g1, g2⟩ := j2 x1 hd2 hp2
    refine ⟨hp, fun _ => ⟨hg.1, fun _ => ⟨fun hf => ?_, fun hf => ?_⟩⟩⟩
    · rintro r6 rfl
      show (((((qGrow ⟨t, p, sh⟩ x0 n x1).run (VS.whole xs)).1.wrote.length : Nat) : Int) == 0 && true) = r_
      rw [g1 (by simpa using hf), hr]; rfl
    · obtain ⟨q0, q1, q2, q3⟩ := g2 (by simpa using hf)
      simp only at q0
      have e : decide (0 < x1) = true := by simp; omega
      exact ⟨⟨hfew, hs, hg, hk, hn, hpg, ha, hu, hnu, q1, by rw [e, cond_true]; exact q2, by omega, q3, hr⟩, lxo_⟩
  · refine ⟨⟨by omega, by omega⟩, fun _ => ⟨fun _ => (by rintro r rfl; exact hr.symm), fun z0 => ?_⟩⟩
    refine ⟨⟨by omega, by omega⟩, fun _ => ⟨fun _ => (by rintro r rfl; exact hr.symm), fun z1 => ?_⟩⟩
    refine ⟨⟨by omega, by omega⟩, fun _ => ⟨fun _ => (by rintro r rfl; exact hr.symm), fun z2 => ?_⟩⟩
    refine ⟨⟨by omega, by omega⟩, fun _ => ⟨fun _ => (by rintro r rfl; exact hr.symm), fun z3 => ?_⟩⟩
    refine ⟨⟨by omega, by omega⟩, fun _ => ⟨fun _ => (by rintro r rfl; exact hr.symm), fun z4 => ?_⟩⟩
    refine ⟨⟨by omega, by omega⟩, fun _ => ⟨fun _ => (by rintro r rfl; exact hr.symm), fun z5 => ?_⟩⟩
    refine ⟨⟨by omega, by omega⟩, fun _ => ⟨fun _ => (by rintro r rfl; exact hr.symm), fun z6 => ?_⟩⟩
    refine ⟨⟨by omega, by omega⟩, fun _ => ⟨fun _ => (by rintro r rfl; exact hr.symm), fun z7 => ?_⟩⟩
    have hw2 := hw
    unfold stateA at hw2
    rw [hs, cond_true] at hw2
    simp only [Prod.mk.injEq, and_true] at hw2
    obtain ⟨_, _, y0, y1, y2, y3, y4, y5, y6, y7⟩ := hw2
    simp only [beq_eq_false_iff_ne, ne_eq] at z0 z1 z2 z3 z4 z5 z6 z7
    have hro : ∀ k : Int, 0 ≤ k → k < 8 → rootA xs k ≠ (x0 + 1) * pgB sh := fun k k0 k1 => by
      rw [← ha]
      rcases (by omega : k = 0 ∨ k = 1 ∨ k = 2 ∨ k = 3 ∨ k = 4 ∨ k = 5 ∨ k = 6 ∨ k = 7) with rfl | rfl | rfl | rfl | rfl | rfl | rfl | rfl
      · rw [← y0]; exact z0
      · rw [← y1]; exact z1
      · rw [← y2]; exact z2
      · rw [← y3]; exact z3
      · rw [← y4]; exact z4
      · rw [← y5]; exact z5
      · rw [← y6]; exact z6
      · rw [← y7]; exact z7
    obtain ⟨q1, q2, q3⟩ := j3 hro
    rintro r0 hr0
    have e0 : r0 = ((qRelease ⟨t, p, sh⟩ x0 n).run (VS.whole xs)).1 := hr0
    clear hr0
    subst e0
    refine ⟨hp, fun _ => ⟨hg.1, fun _ => ?_⟩⟩
    rintro r3 rfl r4 hr4
    have e4 : r4 = lvAdd ((qRelease ⟨t, p, sh⟩ x0 n).run (VS.whole xs)).1 (-1) := by rw [hr4]; simp only [wrapu_nv]; rfl
    clear hr4
    subst e4
    refine ⟨by rw [wrapu_nv]; exact nv_bd _, fun _ => ?_⟩
    exact ⟨⟨hfew, hs, hg, hk, hn, hpg, ha, hu, hnu, q1, q2, by omega, by rw [q3, Int.sub_zero], hr⟩, lxo_⟩
theorem SpanJoins_step1 (t : Int) (p : Int) (sh : Int) (xs : List Int) (x0 : Int) (x1 : Int) (hp0 : bdAll xs) (hp1 : x0 ≤ 9223372036854775807) (hp2 : x1 ≤ 9223372036854775807) (hl0 : xs.length ≤ 9223372036854775807) (n : Int) (pg : Int) (a : Int) (sv : VS) (nu : Nat) (ua : List Int) (uz : List Int) (u0 : Int) (u1 : Int) (u2 : Int) (u3 : Int) (u4 : Int) (u5 : Int) (u6 : Int) (u7 : Int) (m : Int) {r_ : Bool} (hI : SpanJoins_I1 t p sh xs x0 x1 n pg a sv nu ua uz u0 u1 u2 u3 u4 u5 u6 u7 m r_) : SpanJoins_w1 t p sh xs x0 x1 n pg a sv nu ua uz u0 u1 u2 u3 u4 u5 u6 u7 m (fun n' pg' a' nw' wa' wz' w0' w1' w2' w3' w4' w5' w6' w7' sv' nu' ua' uz' u0' u1' u2' u3' u4' u5' u6' u7' => SpanJoins_I0 t p sh xs x0 x1 n' pg' a' nw' wa' wz' w0' w1' w2' w3' w4' w5' w6' w7' sv' nu' ua' uz' u0' u1' u2' u3' u4' u5' u6' u7' r_ ∧ lx (9, 0, 0) (8, 0, 0)) (fun n' pg' a' sv' nu' ua' uz' u0' u1' u2' u3' u4' u5' u6' u7' m' => SpanJoins_I1 t p sh xs x0 x1 n' pg' a' sv' nu' ua' uz' u0' u1' u2' u3' u4' u5' u6' u7' m' r_ ∧ lx (8, 0, 0) (8, 0, 0)) (fun r__ => r__ = r_) := by
  unfold SpanJoins_I1 at hI
  unfold SpanJoins_w1
  try unfold SpanJoins_I0
  try unfold SpanJoins_I1
  obtain ⟨hfew, hs, hg, hk, hn, hpg, ha, hu, hnu, hs1, hst, hm, hc0, hr⟩ := hI
  have hgood := sound_good hs hp0
  have hlong := good_long hgood
  have hlen := hlong.2
  have hok := Cf.ok_iff.1 hgood.ok
  simp only at hok
  have hp : p ≤ 1024 := by omega
  have hpb : p ≤ 9223372036854775807 := by omega
  have hli := (iGet_bd (cel xs (Cf.info ⟨t, p, sh⟩ x0)))
  have hli2 : 0 ≤ n ∧ n ≤ 1024 := by rw [hn]; exact ⟨hli.2.2.1, hli.2.2.2.1⟩
  have hpb2 := (szB_ok hok.2.2 (k := 0) (by omega)).2.2.2.2
  have b2 : 0 ≤ m * pgB sh ∧ m * pgB sh ≤ 1024 * 1048576 := ⟨Int.mul_nonneg (by omega) (by omega), Int.mul_le_mul (by omega) (by omega) (by omega) (by omega)⟩
  have hlv := vals_long hs1
  have hu1 : ua = (outA ((x0 + 1) * pgB sh) (stateA ⟨t, p, sh⟩ xs).1) := congrArg (·.1) hu
  have hu2 : uz = (outZ ((x0 + 1) * pgB sh) (stateA ⟨t, p, sh⟩ xs).1 (stateA ⟨t, p, sh⟩ xs).2.1) := congrArg (·.2.1) hu
  have hu3 : (u0, u1, u2, u3, u4, u5, u6, u7, true) = (stateA ⟨t, p, sh⟩ xs).2.2 := congrArg (·.2.2) hu
  have hl1 : ua.length = uz.length := by rw [hu1, hu2]; exact (outZ_len _ _ _ (st_len _ _)).symm
  have hl2 : ua.length ≤ 40000 := by rw [hu1]; exact Nat.le_trans (outA_len _ _) (st_few (c := ⟨t, p, sh⟩) xs hfew)
  have hb0 := rootA_eq xs 0 hp0
  have hb1 := rootA_eq sv.vals 0 (vals_bd sv)
  unfold bd32 at hb0 hb1
  have e6 : (IntKind.wrap IntKind.i64 (sv.vals.getD 0 0) == IntKind.wrap IntKind.i64 (IntKind.wrap IntKind.i64 (IntKind.wrap IntKind.i64 (xs.getD 0 0) + n) - m)) = true := by
    have h1 : sv.vals.getD 0 0 = cel sv.vals 0 := rfl
    have h2 : xs.getD 0 0 = cel xs 0 := rfl
    rw [h1, h2, w64 (n := cel sv.vals 0) (by omega), w64 (n := cel xs 0) (by omega), w64 (n := cel xs 0 + n) (by omega), w64 (n := cel xs 0 + n - m) (by omega), hc0]
    simp
  rw [hpg, ha, w64 (n := m * pgB sh) (by omega)]
  refine ⟨fun hd => ?_, fun hd => ?_⟩
  · have hd' : decide (0 < m) = true := hd
    rintro r1 hr1
    have e1 : r1 = (insA ((x0 + 1) * pgB sh) ua, insZ ((x0 + 1) * pgB sh) (m * pgB sh) ua uz) := hr1
    clear hr1
    subst e1
    refine ⟨hl1, fun _ => ⟨hl2, fun _ => ?_⟩⟩
    have e5 : r12_State t p sh sv.vals = (insA ((x0 + 1) * pgB sh) ua, insZ ((x0 + 1) * pgB sh) (m * pgB sh) ua uz, u0, u1, u2, u3, u4, u5, u6, u7, true) := by
      show stateA ⟨t, p, sh⟩ sv.vals = _
      rw [hst, hd', cond_true, hu1, hu2, hu3]; rfl
    have hl3 : (insA ((x0 + 1) * pgB sh) ua).length = (insZ ((x0 + 1) * pgB sh) (m * pgB sh) ua uz).length := by rw [insA_len, insZ_len _ _ _ _ hl1]
    repeat' first
      | (refine fun r hr => ?_; subst hr)
      | refine ⟨vals_bd _, fun _ => ?_⟩
      | (refine And.intro (fun r hr => ?_) (fun r hr => ?_) <;> subst hr)
      | (rw [e5]; simp only [same_self])
      | refine ⟨hl3, fun _ => ?_⟩
      | refine ⟨fun _ => ⟨Int.le_refl 0, by omega⟩, fun _ => ?_⟩
      | (rw [e6])
      | refine ⟨fun hd => ?_, fun hd => (by cases hd)⟩
      | exact hr.symm
      | fail
  · have hd' : decide (0 < m) = false := hd
    have e5 : r12_State t p sh sv.vals = (ua, uz, u0, u1, u2, u3, u4, u5, u6, u7, true) := by
      show stateA ⟨t, p, sh⟩ sv.vals = _
      rw [hst, hd', cond_false, hu1, hu2, hu3]; rfl
    have hl3 := hl1
    repeat' first
      | (refine fun r hr => ?_; subst hr)
      | refine ⟨vals_bd _, fun _ => ?_⟩
      | (refine And.intro (fun r hr => ?_) (fun r hr => ?_) <;> subst hr)
      | (rw [e5]; simp only [same_self])
      | refine ⟨hl3, fun _ => ?_⟩
      | refine ⟨fun _ => ⟨Int.le_refl 0, by omega⟩, fun _ => ?_⟩
      | (rw [e6])
      | refine ⟨fun hd => ?_, fun hd => (by cases hd)⟩
      | exact hr.symm
      | fail
theorem SpanJoins_ok : EntryOk Dg Tryz.prog 5 e_SpanJoins :=
  ent_wp Dg T_l15_add_ok (I := [437906000, 23768722000, 2999999, 2999998]) Tryz.func5 mix (B := bodyOf Tryz.f5) (by kernel_rfl) rfl (by kernel_rfl) 400
    fun p0 t p sh xs x0 x1 hb hp => have hl0 : xs.length ≤ 9223372036854775807 := hb.2.1; have hp0 : bdAll xs := hp _ (.head _); have hp1 : x0 ≤ 9223372036854775807 := hp _ (.tail _ (.head _)); have hp2 : x1 ≤ 9223372036854775807 := hp _ (.tail _ (.tail _ (.head _))); ⟨[⟨some 0, [0, 1, 1, 1, 1, 1, 1, 1, 1, 1], [.code [1, 1, 1, 1, 1, 1, 1, 1, 1, 1]], [3, 5, 1, 7, 9, 10, 11, 13, 14], [.box 23 [.ic .i64 (t), .ic .i64 (p), .ic .i64 (sh)], .box 57 [.ic .i64 (x0), .ic .i64 (x1)], .roc [.ints .u32 (xs)], .i .i64, .i .i64, .i .i64, .box 42 [.own 56 [some .i64, some .i64], .i .i64, .i .i64, .i .i64, .i .i64, .i .i64, .i .i64, .i .i64, .i .i64], .obj wView, .box 42 [.own 56 [some .i64, some .i64], .i .i64, .i .i64, .i .i64, .i .i64, .i .i64, .i .i64, .i .i64, .i .i64]]⟩, ⟨some 0, [0, 0, 1, 1, 1, 1, 1, 1, 1, 1, 1, 1, 1], [.code [1, 0, 1, 1, 1, 1, 1, 1, 1, 1, 1, 1, 1], .code [1, 1, 1, 1, 1, 1, 1, 1, 1, 1, 1, 1]], [3, 1, 7, 9, 10, 13, 14, 15], [.box 23 [.ic .i64 (t), .ic .i64 (p), .ic .i64 (sh)], .roc [.ints .u32 (xs)], .i .i64, .i .i64, .i .i64, .obj wView, .box 42 [.own 56 [some .i64, some .i64], .i .i64, .i .i64, .i .i64, .i .i64, .i .i64, .i .i64, .i .i64, .i .i64], .i .i64]⟩], fun j => List.getD [appC (Hd.kd (⟨some 0, [0, 1, 1, 1, 1, 1, 1, 1, 1, 1], [.code [1, 1, 1, 1, 1, 1, 1, 1, 1, 1]], [3, 5, 1, 7, 9, 10, 11, 13, 14], [.box 23 [.ic .i64 (t), .ic .i64 (p), .ic .i64 (sh)], .box 57 [.ic .i64 (x0), .ic .i64 (x1)], .roc [.ints .u32 (xs)], .i .i64, .i .i64, .i .i64, .box 42 [.own 56 [some .i64, some .i64], .i .i64, .i .i64, .i .i64, .i .i64, .i .i64, .i .i64, .i .i64, .i .i64], .obj wView, .box 42 [.own 56 [some .i64, some .i64], .i .i64, .i .i64, .i .i64, .i .i64, .i .i64, .i .i64, .i .i64, .i .i64]]⟩ : Hd Sg)) (fun n' pg' a' nw' wa' wz' w0' w1' w2' w3' w4' w5' w6' w7' sv' nu' ua' uz' u0' u1' u2' u3' u4' u5' u6' u7' => SpanJoins_I0 t p sh xs x0 x1 n' pg' a' nw' wa' wz' w0' w1' w2' w3' w4' w5' w6' w7' sv' nu' ua' uz' u0' u1' u2' u3' u4' u5' u6' u7' (SpanJoins t p sh xs x0 x1)), appC (Hd.kd (⟨some 0, [0, 0, 1, 1, 1, 1, 1, 1, 1, 1, 1, 1, 1], [.code [1, 0, 1, 1, 1, 1, 1, 1, 1, 1, 1, 1, 1], .code [1, 1, 1, 1, 1, 1, 1, 1, 1, 1, 1, 1]], [3, 1, 7, 9, 10, 13, 14, 15], [.box 23 [.ic .i64 (t), .ic .i64 (p), .ic .i64 (sh)], .roc [.ints .u32 (xs)], .i .i64, .i .i64, .i .i64, .obj wView, .box 42 [.own 56 [some .i64, some .i64], .i .i64, .i .i64, .i .i64, .i .i64, .i .i64, .i .i64, .i .i64, .i .i64], .i .i64]⟩ : Hd Sg)) (fun n' pg' a' sv' nu' ua' uz' u0' u1' u2' u3' u4' u5' u6' u7' m' => SpanJoins_I1 t p sh xs x0 x1 n' pg' a' sv' nu' ua' uz' u0' u1' u2' u3' u4' u5' u6' u7' m' (SpanJoins t p sh xs x0 x1))] j (fun _ => False), fun j => List.getD [appC (Hd.kd (⟨some 0, [0, 1, 1, 1, 1, 1, 1, 1, 1, 1], [.code [1, 1, 1, 1, 1, 1, 1, 1, 1, 1]], [3, 5, 1, 7, 9, 10, 11, 13, 14], [.box 23 [.ic .i64 (t), .ic .i64 (p), .ic .i64 (sh)], .box 57 [.ic .i64 (x0), .ic .i64 (x1)], .roc [.ints .u32 (xs)], .i .i64, .i .i64, .i .i64, .box 42 [.own 56 [some .i64, some .i64], .i .i64, .i .i64, .i .i64, .i .i64, .i .i64, .i .i64, .i .i64, .i .i64], .obj wView, .box 42 [.own 56 [some .i64, some .i64], .i .i64, .i .i64, .i .i64, .i .i64, .i .i64, .i .i64, .i .i64, .i .i64]]⟩ : Hd Sg)) (fun n' pg' a' nw' wa' wz' w0' w1' w2' w3' w4' w5' w6' w7' sv' nu' ua' uz' u0' u1' u2' u3' u4' u5' u6' u7' => (9, 0, 0)), appC (Hd.kd (⟨some 0, [0, 0, 1, 1, 1, 1, 1, 1, 1, 1, 1, 1, 1], [.code [1, 0, 1, 1, 1, 1, 1, 1, 1, 1, 1, 1, 1], .code [1, 1, 1, 1, 1, 1, 1, 1, 1, 1, 1, 1]], [3, 1, 7, 9, 10, 13, 14, 15], [.box 23 [.ic .i64 (t), .ic .i64 (p), .ic .i64 (sh)], .roc [.ints .u32 (xs)], .i .i64, .i .i64, .i .i64, .obj wView, .box 42 [.own 56 [some .i64, some .i64], .i .i64, .i .i64, .i .i64, .i .i64, .i .i64, .i .i64, .i .i64, .i .i64], .i .i64]⟩ : Hd Sg)) (fun n' pg' a' sv' nu' ua' uz' u0' u1' u2' u3' u4' u5' u6' u7' m' => (8, 0, 0))] j (fun _ => (0, 0, 0)), by kernel_rfl, ⟨SpanJoins_w t p sh xs x0 x1 (fun n' pg' a' nw' wa' wz' w0' w1' w2' w3' w4' w5' w6' w7' sv' nu' ua' uz' u0' u1' u2' u3' u4' u5' u6' u7' => SpanJoins_I0 t p sh xs x0 x1 n' pg' a' nw' wa' wz' w0' w1' w2' w3' w4' w5' w6' w7' sv' nu' ua' uz' u0' u1' u2' u3' u4' u5' u6' u7' (SpanJoins t p sh xs x0 x1)) (fun n' pg' a' sv' nu' ua' uz' u0' u1' u2' u3' u4' u5' u6' u7' m' => SpanJoins_I1 t p sh xs x0 x1 n' pg' a' sv' nu' ua' uz' u0' u1' u2' u3' u4' u5' u6' u7' m' (SpanJoins t p sh xs x0 x1)) (fun r__ => r__ = (SpanJoins t p sh xs x0 x1)), fun _ _ _ => by kernel_rfl, SpanJoins_begin t p sh xs x0 x1 hp0 hp1 hp2 hl0 ⟩, ⟨fun n pg a nw wa wz w0 w1 w2 w3 w4 w5 w6 w7 sv nu ua uz u0 u1 u2 u3 u4 u5 u6 u7 hI => ⟨SpanJoins_w0 t p sh xs x0 x1 n pg a nw wa wz w0 w1 w2 w3 w4 w5 w6 w7 sv nu ua uz u0 u1 u2 u3 u4 u5 u6 u7 (fun n' pg' a' nw' wa' wz' w0' w1' w2' w3' w4' w5' w6' w7' sv' nu' ua' uz' u0' u1' u2' u3' u4' u5' u6' u7' => SpanJoins_I0 t p sh xs x0 x1 n' pg' a' nw' wa' wz' w0' w1' w2' w3' w4' w5' w6' w7' sv' nu' ua' uz' u0' u1' u2' u3' u4' u5' u6' u7' (SpanJoins t p sh xs x0 x1) ∧ lx (9, 0, 0) (9, 0, 0)) (fun n' pg' a' sv' nu' ua' uz' u0' u1' u2' u3' u4' u5' u6' u7' m' => SpanJoins_I1 t p sh xs x0 x1 n' pg' a' sv' nu' ua' uz' u0' u1' u2' u3' u4' u5' u6' u7' m' (SpanJoins t p sh xs x0 x1) ∧ lx (8, 0, 0) (9, 0, 0)) (fun r__ => r__ = (SpanJoins t p sh xs x0 x1)), fun _ _ _ => by kernel_rfl, SpanJoins_step0 t p sh xs x0 x1 hp0 hp1 hp2 hl0 n pg a nw wa wz w0 w1 w2 w3 w4 w5 w6 w7 sv nu ua uz u0 u1 u2 u3 u4 u5 u6 u7 hI⟩, ⟨fun n pg a sv nu ua uz u0 u1 u2 u3 u4 u5 u6 u7 m hI => ⟨SpanJoins_w1 t p sh xs x0 x1 n pg a sv nu ua uz u0 u1 u2 u3 u4 u5 u6 u7 m (fun n' pg' a' nw' wa' wz' w0' w1' w2' w3' w4' w5' w6' w7' sv' nu' ua' uz' u0' u1' u2' u3' u4' u5' u6' u7' => SpanJoins_I0 t p sh xs x0 x1 n' pg' a' nw' wa' wz' w0' w1' w2' w3' w4' w5' w6' w7' sv' nu' ua' uz' u0' u1' u2' u3' u4' u5' u6' u7' (SpanJoins t p sh xs x0 x1) ∧ lx (9, 0, 0) (8, 0, 0)) (fun n' pg' a' sv' nu' ua' uz' u0' u1' u2' u3' u4' u5' u6' u7' m' => SpanJoins_I1 t p sh xs x0 x1 n' pg' a' sv' nu' ua' uz' u0' u1' u2' u3' u4' u5' u6' u7' m' (SpanJoins t p sh xs x0 x1) ∧ lx (8, 0, 0) (8, 0, 0)) (fun r__ => r__ = (SpanJoins t p sh xs x0 x1)), fun _ _ _ => by kernel_rfl, SpanJoins_step1 t p sh xs x0 x1 hp0 hp1 hp2 hl0 n pg a sv nu ua uz u0 u1 u2 u3 u4 u5 u6 u7 m hI⟩, trivial⟩⟩⟩
def T_SpanJoins : List (Nat × Entry Sg) := (5, e_SpanJoins) :: T_l15_add
theorem T_SpanJoins_ok : TableOk Dg Tryz.prog T_SpanJoins := TableOk.cons Dg SpanJoins_ok T_l15_add_ok
theorem SpanJoins_plain (t : Int) (p : Int) (sh : Int) (xs : List Int) (x0 : Int) (x1 : Int) (a_0 : Option Addr) (c_0 : Nat) {E_ : World} {G_ : Hp} {w_ : World} (hr0 : RowAt G_ a_0 xs.length [.ints .u32 xs] ∧ xs.length ≤ c_0) (hp0 : bdAll xs) (hp1 : x0 ≤ 9223372036854775807) (hp2 : x1 ≤ 9223372036854775807) (hS : Sat E_ G_ w_ []) : Calls Tryz.prog 5 #[(.agg #[.int .i64 t, .int .i64 p, .int .i64 sh]), (.slice a_0 xs.length c_0), (.agg #[.int .i64 x0, .int .i64 x1])] w_ (fun en w' => en = .returned (.bool (SpanJoins t p sh xs x0 x1)) ∧ Sat E_ G_ w' []) := by
  refine law_of Dg (c := c_SpanJoins) (F := SpanJoins) (pre := fun t p sh xs x0 x1 => [bdAll xs, x0 ≤ 9223372036854775807, x1 ≤ 9223372036854775807]) SpanJoins_ok [((.agg #[.int .i64 t, .int .i64 p, .int .i64 sh]), (.none)), ((.slice a_0 xs.length c_0), (.row xs.length [.ints .u32 xs])), ((.agg #[.int .i64 x0, .int .i64 x1]), (.none))] [.i t, .i p, .i sh, .li xs, .i x0, .i x1] (by kernel_rfl) _ (by kernel_rfl) (by kernel_rfl) (by kernel_rfl) ?_ ?_ hS
  · intro p hp
    have hp : p ∈ [(bdAll xs : Prop), (x0 ≤ 9223372036854775807 : Prop), (x1 ≤ 9223372036854775807 : Prop)] := hp
    simp only [List.mem_cons, List.not_mem_nil, or_false] at hp
    rcases hp with rfl | rfl | rfl
    · exact hp0
    · exact hp1
    · exact hp2
  · intro x hx
    simp only [List.mem_cons, List.not_mem_nil, or_false] at hx
    rcases hx with rfl | rfl | rfl
    · first | (simp only [iOk, isOk, and_true, true_and]; done) | (simp only [iOk, isOk, and_true, true_and]; exact ⟨_, _, rfl, trivial⟩) | simp [iOk, isOk]
    · first | (simp only [iOk, isOk, and_true, true_and]; done) | (simp only [iOk, isOk, and_true, true_and]; exact ⟨_, _, rfl, hr0⟩) | simp [iOk, isOk]
    · first | (simp only [iOk, isOk, and_true, true_and]; done) | (simp only [iOk, isOk, and_true, true_and]; exact ⟨_, _, rfl, trivial⟩) | simp [iOk, isOk]
end Go.Proofs.YtajcpopikdpcmaaGreat
namespace Go.Sl
open Go.RowKit Go.ChangeShapes Go.WideShapes Go.ChangeAt
theorem Sat.start (W : World) : Sat W (fun b => W.heap[b]?) W [] :=
  ⟨⟨rfl, rfl, rfl, Nat.le_refl _⟩, fun _ _ h => h, fun _ => none, ⟨fun _ _ h => (by cases h), fun i A h => (by simp at h)⟩⟩
theorem Sat.below {W W' : World} {As : List Asn} (h : Sat W (fun b => W.heap[b]?) W' As) : Below W.heap.size W W' :=
  ⟨h.1.os, h.1.tape, h.1.output, h.1.size, fun k hk => by
    have h1 : (fun b => W.heap[b]?) k = some W.heap[k] := by simp [hk]
    rw [h.2.1 k _ h1]; simp [hk]⟩
section
variable {H : Type} {enc : TypeId × Value → H} {P : Program}
theorem trodAll_stays (hl : laidOutB P = true) {W W' : World} (hb : Below W.heap.size W W') {sp : Nat → Bool} : ∀ (ts : List TypeId) (vs : List Value) (ds : List (DataW H)) (ps : List MemPlace), (∀ t ∈ ts, P.readableRec t = true ∧ t < P.types.size) →
    DataW.TrodAll enc P W 0 (fun _ => true) true ts vs ds ps → (∀ x ∈ ps, x.block < W.heap.size) → (∀ x ∈ ps, sp x.block = true) → DataW.TrodAll enc P W' 0 sp true ts vs ds ps
  | [], vs, ds, ps, _, h, _, _ => by
    obtain ⟨rfl, rfl, rfl⟩ := trodAll_nil h
    exact trodAll_mk0
  | t :: ts, vs, ds, ps, hr, h, hlt, hsp => by
    obtain ⟨v, vs', d, ds', p, q, rfl, rfl, rfl, hd, hrest⟩ := trodAll_cons h
    obtain ⟨hr1, hr2⟩ := hr t (by simp)
    exact ⟨p, q, WideElems.Trod_stays hl hr1 hr2 hd (fun x hx => hb.same (hlt x (by simp [hx]))) (fun x hx => hsp x (by simp [hx])),
      trodAll_stays hl hb ts vs' ds' q (fun t ht => hr t (by simp [ht])) hrest (fun x hx => hlt x (by simp [hx])) (fun x hx => hsp x (by simp [hx])), rfl⟩
theorem law_post {f : Func} {s : ChangeSpec} {apart fresh handsOn : Bool} {W W' : World} {args : Array Value} {ds gs : List (DataW H)} {before : List MemPlace} (tb : TypeId) (hl : laidOutB P = true)
    (hW : DataW.Whole enc P f.params.toList s.vars apart W args.toList ds gs before) (hv : s.vars = []) (hres : f.resultTypes = #[tb]) (hb : P.underlying tb = some .bool)
    (hp : f.params.toList.all (fun t => P.readableRec t && Nat.blt t P.types.size) = true) (hfn : (s.fn H ds).results = [.lit (.bool true)] ∧ (s.fn H ds).args = ds ∧ (s.fn H ds).vars = [])
    (hbel : Below W.heap.size W W') : s.post enc P f apart fresh handsOn false W args (.bool true) W' := by
  have hW2 := hW
  have hlt : ∀ x ∈ before, x.block < W.heap.size := fun x hx => hW.lt x hx
  obtain ⟨p, q, hA, hV, hpq, _, _⟩ := hW
  rw [hv] at hV
  obtain ⟨hgs, hq⟩ := trodVars_none hV
  subst hgs; subst hq
  have hpp : before = p := by rw [hpq]; simp
  subst hpp
  have hr : ∀ t ∈ f.params.toList, P.readableRec t = true ∧ t < P.types.size := fun t ht => by
    rw [List.all_eq_true] at hp
    have := hp t ht
    simp only [Bool.and_eq_true] at this
    exact ⟨this.1, Nat.lt_of_lt_of_le (Nat.lt_succ_self t) (Nat.le_of_ble_eq_true this.2)⟩
  refine ⟨ds, [], before, [], before, [], by rw [hv] at hW2 ⊢; exact hW2, ?_, ?_, ?_, World.keptBut_mono (fun x hx => ⟨hx, .inr (.inl hx)⟩) (hbel.frame (· ∈ before)), fun h => by cases h⟩
  · rw [List.append_nil, hfn.1, hres]
    exact trodAll_mk1 (shut_bool hb true)
  · rw [List.append_nil, hfn.2.1]
    exact trodAll_stays hl hbel _ _ _ _ hr hA hlt (fun x hx => by simpa using hlt x hx)
  · rw [List.append_nil, hfn.2.2, hv]
    rfl
end
theorem bd_i64 {x : Int} (h : (Lit.int .i64 x).wf = true) : -9223372036854775808 ≤ x ∧ x < 9223372036854775808 := by
  simp [Lit.wf, IntKind.min, IntKind.max, IntKind.signed, IntKind.bits] at h; omega
theorem bd_u64 {x : Int} (h : (Lit.int .u64 x).wf = true) : 0 ≤ x ∧ x < 18446744073709551616 := by
  simp [Lit.wf, IntKind.min, IntKind.max, IntKind.signed, IntKind.bits] at h; omega
theorem bd_u32 {x : Int} (h : (Lit.int .u32 x).wf = true) : 0 ≤ x ∧ x < 4294967296 := by
  simp [Lit.wf, IntKind.min, IntKind.max, IntKind.signed, IntKind.bits] at h; omega
end Go.Sl
namespace Go.Sl
open Go.RowKit Go.ChangeShapes Go.WideShapes Go.ChangeAt
inductive Shp where
  | int (k : IntKind)
  | bool
def vIs : Shp → Value → Prop
  | .int k, v => ∃ x, v = .int k x ∧ (Lit.int k x).wf = true
  | .bool, v => ∃ b, v = .bool b
def cellsIs : List Shp → List Value → Prop
  | [], vs => vs = []
  | s :: r, vs => ∃ v vs', vs = v :: vs' ∧ vIs s v ∧ cellsIs r vs'
def colIs (n : Nat) : Shp → Col → Prop
  | .int k, c => ∃ xs, c = .ints k xs ∧ xs.length = n ∧ ∀ x ∈ xs, (Lit.int k x).wf = true
  | .bool, c => ∃ xs, c = .bools xs ∧ xs.length = n
def colsIs (n : Nat) : List Shp → List Col → Prop
  | [], cs => cs = []
  | s :: r, cs => ∃ c cs', cs = c :: cs' ∧ colIs n s c ∧ colsIs n r cs'
theorem cellsIs_len : ∀ {sh : List Shp} {vs : List Value}, cellsIs sh vs → vs.length = sh.length
  | [], _, h => by rw [h]; rfl
  | _ :: r, _, ⟨v, vs', e, _, h⟩ => by rw [e, List.length_cons, List.length_cons, cellsIs_len h]
theorem cellsIs_append : ∀ {a b : List Shp} {u v : List Value}, cellsIs a u → cellsIs b v → cellsIs (a ++ b) (u ++ v)
  | [], b, u, v, h, h' => by rw [h]; exact h'
  | s :: r, b, u, v, ⟨x, u', e, hx, h⟩, h' => ⟨x, u' ++ v, by rw [e]; rfl, hx, cellsIs_append h h'⟩
theorem cellsIs_get : ∀ {sh : List Shp} {vs : List Value}, cellsIs sh vs → ∀ (j : Nat) s, sh[j]? = some s → ∃ v, vs[j]? = some v ∧ vIs s v
  | [], _, _, j, s, hs => by simp at hs
  | s0 :: r, _, ⟨x, u', e, hx, h⟩, j, s, hs => by
    subst e
    cases j with
    | zero => simp at hs; subst hs; exact ⟨x, rfl, hx⟩
    | succ j => exact cellsIs_get h j s (by simpa using hs)
section
variable (P : Program)
def shpFs (f : TypeId → Option (List Shp)) : Nat → List Field → Option (List Shp)
  | _, [] => some []
  | o, fd :: fs => bif Nat.beq fd.offset o then match f fd.type, shpFs f (o + P.cellsOf fd.type) fs with
      | some a, some b => bif Nat.beq a.length (P.cellsOf fd.type) then some (a ++ b) else none
      | _, _ => none
    else none
def reps (s : List Shp) : Nat → List Shp
  | 0 => []
  | n + 1 => s ++ reps s n
def shpT : Nat → TypeId → Option (List Shp)
  | 0, _ => none
  | d + 1, t => match P.underlying t with
    | some (.int k) => some [.int k]
    | some .bool => some [.bool]
    | some (.struct fs) => match shpFs P (shpT d) 0 fs.toList with
      | some s => bif Nat.beq s.length (P.cellsOf t) then some s else none
      | none => none
    | some (.array n e) => match shpT d e with
      | some s => bif Nat.beq s.length (P.cellsOf e) && Nat.beq (n * P.cellsOf e) (P.cellsOf t) then some (reps s n) else none
      | none => none
    | _ => none
end
section
variable {H : Type} {enc : TypeId × Value → H} {P : Program} {w : World} {base : Nat} {sp : Nat → Bool} {held : Bool}
theorem shpFs_ok {f : TypeId → Option (List Shp)} {n : Nat} (hf : ∀ t sh cs x, f t = some sh → DataW.trod enc P w base sp held n t cs = some x → cellsIs sh cs) {cs : List Value} :
    ∀ (fs : List Field) (o : Nat) (s : List Shp), shpFs P f o fs = some s → (∀ fd ∈ fs, ∃ y, DataW.trod enc P w base sp held n fd.type ((cs.drop fd.offset).take (P.cellsOf fd.type)) = some y) → cellsIs s ((cs.drop o).take s.length)
  | [], o, s, h, _ => by simp only [shpFs, Option.some.injEq] at h; subst h; simp [cellsIs]
  | fd :: fs, o, s, h, hall => by
    simp only [shpFs] at h
    cases ho : Nat.beq fd.offset o with
    | false => rw [ho] at h; cases h
    | true =>
      rw [ho] at h
      have ho := Nat.eq_of_beq_eq_true ho
      simp only [cond_true] at h
      split at h
      · rename_i a b ha hb
        cases hl : Nat.beq a.length (P.cellsOf fd.type) with
        | false => rw [hl] at h; cases h
        | true =>
          rw [hl] at h
          have hl := Nat.eq_of_beq_eq_true hl
          simp only [cond_true, Option.some.injEq] at h
          subst h
          obtain ⟨y, hy⟩ := hall fd (by simp)
          have h1 := hf _ _ _ _ ha hy
          have h2 := shpFs_ok hf fs _ _ hb fun fd' hfd => hall fd' (by simp [hfd])
          have e : (cs.drop o).take (a ++ b).length = (cs.drop fd.offset).take (P.cellsOf fd.type) ++ (cs.drop (o + P.cellsOf fd.type)).take b.length := by
            rw [List.length_append, List.take_add, List.drop_drop, ho, hl]
          rw [e]
          exact cellsIs_append h1 h2
      · cases h
theorem shpT_ok : ∀ (d : Nat) (t : TypeId) (sh : List Shp) (n : Nat) (cs : List Value) (x : DataW H × List MemPlace), shpT P d t = some sh → DataW.trod enc P w base sp held n t cs = some x → cellsIs sh cs
  | 0, t, sh, n, cs, x, h, _ => by simp [shpT] at h
  | d + 1, t, sh, n, cs, x, h, hx => by
    simp only [shpT] at h
    split at h
    · rename_i k hk
      injection h with h; subst h
      obtain ⟨m, rfl, _, hw⟩ := DataW.trod_int hk hx
      exact ⟨_, _, rfl, ⟨m, rfl, hw⟩, rfl⟩
    · rename_i hk
      injection h with h; subst h
      obtain ⟨b, rfl, _⟩ := DataW.trod_bool hk hx
      exact ⟨_, _, rfl, ⟨b, rfl⟩, rfl⟩
    · rename_i fs hk
      split at h
      · rename_i s hs
        cases hl : Nat.beq s.length (P.cellsOf t) with
        | false => rw [hl] at h; cases h
        | true =>
          rw [hl] at h
          have hl := Nat.eq_of_beq_eq_true hl
          simp only [cond_true, Option.some.injEq] at h
          subst h
          obtain ⟨xs, m, _, _, hlen, hxl, hf⟩ := DataW.trod_struct hk hx
          have := shpFs_ok (n := m) (cs := cs) (fun t' sh' cs' x' h1 h2 => shpT_ok d t' sh' m cs' x' h1 h2) fs.toList 0 s hs fun fd hfd => by
            obtain ⟨i, hi⟩ := List.getElem?_of_mem hfd
            have hi' : fs[i]? = some fd := by simpa using hi
            have h1 := hf i fd hi'
            have hlt : i < xs.length := by
              rw [hxl]
              rcases Nat.lt_or_ge i fs.size with h' | h'
              · exact h'
              · rw [Array.getElem?_eq_none h'] at hi'; cases hi'
            rw [List.getElem?_eq_getElem hlt] at h1
            exact ⟨_, h1⟩
          rw [List.drop_zero, hl, ← hlen, List.take_length] at this
          exact this
      · cases h
    · rename_i m e hk
      split at h
      · rename_i s hs
        cases hl : (Nat.beq s.length (P.cellsOf e) && Nat.beq (m * P.cellsOf e) (P.cellsOf t)) with
        | false => rw [hl] at h; cases h
        | true =>
          rw [hl] at h
          simp only [Bool.and_eq_true] at hl
          have hl1 := Nat.eq_of_beq_eq_true hl.1
          have hl2 := Nat.eq_of_beq_eq_true hl.2
          simp only [cond_true, Option.some.injEq] at h
          subst h
          obtain ⟨xs, q, _, _, hlen, hxl, hf⟩ := DataW.trod_array hk hx
          have key : ∀ (j i : Nat), i + j = m → cellsIs (reps s j) ((cs.drop (i * P.cellsOf e)).take (j * P.cellsOf e)) := by
            intro j
            induction j with
            | zero => intro i _; simp [reps, cellsIs]
            | succ j ih =>
              intro i hij
              have h1 := hf i (by omega)
              rw [List.getElem?_eq_getElem (by omega)] at h1
              have h2 := shpT_ok d e s q _ _ hs h1
              have h3 := ih (i + 1) (by omega)
              have e1 : (cs.drop (i * P.cellsOf e)).take ((j + 1) * P.cellsOf e) = (cs.drop (i * P.cellsOf e)).take (P.cellsOf e) ++ (cs.drop ((i + 1) * P.cellsOf e)).take (j * P.cellsOf e) := by
                rw [show (j + 1) * P.cellsOf e = P.cellsOf e + j * P.cellsOf e by rw [Nat.succ_mul]; omega, List.take_add, List.drop_drop, show i * P.cellsOf e + P.cellsOf e = (i + 1) * P.cellsOf e by rw [Nat.succ_mul]]
              rw [e1]
              exact cellsIs_append h2 h3
          have := key m 0 (by omega)
          rw [Nat.zero_mul, List.drop_zero, hl2, ← hlen, List.take_length] at this
          exact this
      · cases h
    · cases h
theorem open_flat {r : Reach} {b0 : Nat} {t : TypeId} {v : Value} {dt : DataW H} {ps : List MemPlace} (d : Nat) (hs : (P.underlying t).any (fun | .struct _ => true | .array _ _ => true | _ => false) = true) {sh : List Shp} (hsh : shpT P d t = some sh)
    (hv : Value.okWide P w r b0 t v) (h : DataW.Trod enc P w base sp held t v dt ps) : ∃ vs : List Value, v = .agg vs.toArray ∧ cellsIs sh vs := by
  obtain ⟨fuel, hf⟩ := h
  have hc := shpT_ok d t sh fuel _ _ hsh hf
  unfold Value.okWide at hv
  cases hu : P.underlying t with
  | none => rw [hu] at hs; simp at hs
  | some ty =>
    rw [hu] at hs hv
    cases ty <;> simp at hs <;> (obtain ⟨cs, rfl, _, _⟩ := hv; exact ⟨cs.toList, by simp, hc⟩)
def colOf : Shp → (Nat → Value) → Nat → Col
  | .int k, V, n => .ints k ((List.range n).map fun i => match V i with | .int _ x => x | _ => 0)
  | .bool, V, n => .bools ((List.range n).map fun i => match V i with | .bool b => b | _ => false)
theorem colOf_ok {s : Shp} {V : Nat → Value} {n : Nat} (h : ∀ i, i < n → vIs s (V i)) : colIs n s (colOf s V n) ∧ (colOf s V n).len = n ∧ ∀ i, i < n → (colOf s V n).at i = V i := by
  cases s with
  | int k =>
    refine ⟨⟨_, rfl, by simp, fun x hx => ?_⟩, by simp [colOf, Col.len], fun i hi => ?_⟩
    · obtain ⟨i, hi, rfl⟩ := List.mem_map.1 hx
      obtain ⟨y, hy, hw⟩ := h i (List.mem_range.1 hi)
      rw [hy]; exact hw
    · obtain ⟨y, hy, hw⟩ := h i hi
      simp [colOf, Col.at, hi, hy]
  | bool =>
    refine ⟨⟨_, rfl, by simp⟩, by simp [colOf, Col.len], fun i hi => ?_⟩
    obtain ⟨y, hy⟩ := h i hi
    simp [colOf, Col.at, hi, hy]
def colsSh : List Shp → Nat → (Nat → List Value) → Nat → List Col
  | [], _, _, _ => []
  | s :: r, j, cs, n => colOf s (fun i => (cs i).getD j undef) n :: colsSh r (j + 1) cs n
theorem colsSh_len : ∀ (sh : List Shp) (j : Nat) (cs : Nat → List Value) (n : Nat), (colsSh sh j cs n).length = sh.length
  | [], _, _, _ => rfl
  | _ :: r, j, cs, n => by simp only [colsSh, List.length_cons, colsSh_len r]
theorem colsSh_ok {cs : Nat → List Value} {n : Nat} : ∀ (sh : List Shp) (j : Nat), (∀ i, i < n → ∀ (m : Nat) s, sh[m]? = some s → vIs s ((cs i).getD (j + m) undef)) →
    colsIs n sh (colsSh sh j cs n) ∧ ∀ (m : Nat) c, (colsSh sh j cs n)[m]? = some c → c.len = n ∧ ∀ i, i < n → c.at i = (cs i).getD (j + m) undef
  | [], j, _ => ⟨rfl, fun m c h => by simp [colsSh] at h⟩
  | s :: r, j, h => by
    have h0 := colOf_ok (s := s) (V := fun i => (cs i).getD j undef) (n := n) fun i hi => h i hi 0 s rfl
    obtain ⟨h1, h2⟩ := colsSh_ok (cs := cs) (n := n) r (j + 1) fun i hi m s' hm => by
      have := h i hi (m + 1) s' (by simpa using hm)
      rwa [show j + (m + 1) = j + 1 + m by omega] at this
    refine ⟨⟨_, _, rfl, h0.1, h1⟩, fun m c hm => ?_⟩
    cases m with
    | zero => simp only [colsSh, List.getElem?_cons_zero, Option.some.injEq] at hm; subst hm; exact ⟨h0.2.1, h0.2.2⟩
    | succ m =>
      have := h2 m c (by simpa [colsSh] using hm)
      rwa [show j + 1 + m = j + (m + 1) by omega] at this
theorem cellOf_world (W : World) (a : Addr) : cellOf (fun b => W.heap[b]?) a = W.cell? a := rfl
theorem open_rows {r : Reach} {b0 : Nat} {t e : TypeId} {v : Value} {dt : DataW H} {ps : List MemPlace} (d : Nat) (ht : P.underlying t = some (.slice e)) {sh : List Shp} (hsh : shpT P d e = some sh) (hce : P.cellsOf e = sh.length)
    (hv : Value.okWide P w r b0 t v) (h : DataW.Trod enc P w base sp held t v dt ps) :
    ∃ (a : Option Addr) (len cap : Nat) (cols : List Col), v = .slice a len cap ∧ colsIs len sh cols ∧ (RowAt (fun b => w.heap[b]?) a len cols ∧ len ≤ cap) := by
  obtain ⟨a0, len0, cap0, rfl⟩ := okWide_slice ht hv
  obtain ⟨fuel, hf⟩ := h
  rcases Go.Deep.open_slice ht hf with ⟨hcs, _⟩ | ⟨a, len, cap, m, n, Dt, Pl, hcs, hb, hl, hm, hmm, _, hx⟩
  · simp only [Value.cells, List.cons.injEq, and_true] at hcs
    injection hcs with e1 e2 e3
    subst e1; subst e2; subst e3
    obtain ⟨h1, h2⟩ := colsSh_ok (cs := fun _ => []) (n := 0) sh 0 fun i hi => absurd hi (Nat.not_lt_zero _)
    refine ⟨none, 0, 0, _, rfl, h1, ⟨fun c hc => ?_, fun i hi => absurd hi (Nat.not_lt_zero _), Nat.zero_le _⟩, Nat.le_refl _⟩
    obtain ⟨k, hk⟩ := List.getElem?_of_mem hc
    exact (h2 k c hk).1
  · simp only [Value.cells, List.cons.injEq, and_true] at hcs
    injection hcs with e1 e2 e3
    subst e1; subst e2; subst e3
    have hml : len0 ≤ m := by rw [hmm]; split <;> omega
    obtain ⟨cs, hcs⟩ := Go.Deep.choose_lt (α := List Value) (p := fun i cs' => w.cells? base (a.add (i * P.cellsOf e)) (P.cellsOf e) = some cs' ∧ DataW.trod enc P w base sp held n e cs' = some (Dt i, Pl i)) (n := len0) fun i hi => hx i (by omega)
    have hcells : ∀ i, i < len0 → cellsIs sh (cs i) := fun i hi => shpT_ok d e sh n _ _ hsh (hcs i hi).2
    obtain ⟨h1, h2⟩ := colsSh_ok (cs := cs) (n := len0) sh 0 fun i hi k s hk => by
      obtain ⟨x, hx1, hx2⟩ := cellsIs_get (hcells i hi) k s hk
      rw [Nat.zero_add, List.getD_eq_getElem?_getD, hx1]
      exact hx2
    refine ⟨some a, len0, cap0, _, rfl, h1, ⟨fun c hc => ?_, fun i hi => ⟨a, rfl, fun j c hj => ?_⟩, by omega⟩, by omega⟩
    · obtain ⟨k, hk⟩ := List.getElem?_of_mem hc
      exact (h2 k c hk).1
    · obtain ⟨_, hlen, hget⟩ := World.cells?_some (hcs i hi).1
      have hj' : j < sh.length := by
        have := lt_of_get hj
        rwa [colsSh_len] at this
      rw [cellOf_world, colsSh_len, ← hce, ← Go.Deep.add_add, hget j (by omega), (h2 j c hj).2 i hi, Nat.zero_add, List.getD_eq_getElem?_getD]
      rw [List.getElem?_eq_getElem (by omega)]
      rfl
end
end Go.Sl
namespace Go.Proofs.YtajcpopikdpcmaaGreat
open Go.ChangeShapes Go.WideShapes Go.ChangeAt Go.RowKit Go.Joins Go.Sl
theorem SpanJoins_own : ownKnob Tryz.prog.godebug = none := by kernel_rfl
theorem SpanJoins_laidOut : laidOutB Tryz.prog = true := by kernel_rfl
set_option maxRecDepth 100000 in
theorem SpanJoins_lifted (os : Os) (started : os.Started) (H : Type) (enc : TypeId × Value → H) :
    ReturnsInHanded {} Tryz.checked os 5 .any (Rows.spanJoinsSpec.pre6 enc Tryz.prog Tryz.f5 Rows.spanJoinsRow.domain false) (Rows.spanJoinsSpec.post enc Tryz.prog Tryz.f5 false true false false) := by
  refine returnsInHanded_of_change (C := Tryz.checked) SpanJoins_own started (by kernel_rfl) Tryz.func5
    (ChangeSpec.witness6 (enc := enc) (C := Tryz.checked) false ⟨#[], #[.agg #[.int .i64 0, .int .i64 0, .int .i64 0], .slice none 0 0, .agg #[.int .i64 0, .int .i64 0]], []⟩ 8 (by kernel_rfl) (by kernel_rfl) (by kernel_rfl) (by kernel_rfl)) ?_
  intro W base args ds gs before hval0 hW _ _
  have hval : ∀ (j : Nat) t v, Tryz.f5.params[j]? = some t → args[j]? = some v → Value.okWide Tryz.prog W .any base t v := hval0
  have hW' := hW
  obtain ⟨p, q, hA0, _, _, _, _⟩ := hW
  have hA : DataW.TrodAll enc Tryz.prog W 0 (fun _ => true) true Tryz.f5.params.toList args.toList ds p := hA0
  rw [Tryz.params5] at hA hval
  obtain ⟨v0, v1, v2, d0, d1, d2, p0, p1, p2, rfl, rfl, _, h0, h1, h2⟩ := trodAll_three hA
  obtain ⟨k0, rfl, hk0⟩ := open_flat 8 (by kernel_rfl) (sh := [.int .i64, .int .i64, .int .i64]) (by kernel_rfl) (hval 0 23 v0 rfl rfl) h0
  obtain ⟨_, r0_0, rfl, ⟨a0_0, rfl, wa0_0⟩, hk0⟩ := hk0
  have ba0_0 := bd_i64 wa0_0
  obtain ⟨_, r0_1, rfl, ⟨a0_1, rfl, wa0_1⟩, hk0⟩ := hk0
  have ba0_1 := bd_i64 wa0_1
  obtain ⟨_, r0_2, rfl, ⟨a0_2, rfl, wa0_2⟩, hk0⟩ := hk0
  have ba0_2 := bd_i64 wa0_2
  obtain rfl := hk0
  obtain ⟨s1, n1, c1, k1, rfl, hk1, hr1⟩ := open_rows 8 Tryz.underlying24 (sh := [.int .u32]) (by kernel_rfl) (by kernel_rfl) (hval 1 24 v1 rfl rfl) h1
  obtain ⟨_, r1_0, rfl, ⟨x1_0, rfl, hl1_0, hw1_0⟩, hk1⟩ := hk1
  obtain rfl := hk1
  subst hl1_0
  obtain ⟨k2, rfl, hk2⟩ := open_flat 8 (by kernel_rfl) (sh := [.int .i64, .int .i64]) (by kernel_rfl) (hval 2 57 v2 rfl rfl) h2
  obtain ⟨_, r2_0, rfl, ⟨a2_0, rfl, wa2_0⟩, hk2⟩ := hk2
  have ba2_0 := bd_i64 wa2_0
  obtain ⟨_, r2_1, rfl, ⟨a2_1, rfl, wa2_1⟩, hk2⟩ := hk2
  have ba2_1 := bd_i64 wa2_1
  obtain rfl := hk2
  clear hA0 hval0
  refine (SpanJoins_plain a0_0 a0_1 a0_2 x1_0 a2_0 a2_1 s1 c1 hr1 (fun v hv => bd_u32 (hw1_0 v hv)) (Int.lt_add_one_iff.1 ba2_0.2) (Int.lt_add_one_iff.1 ba2_1.2) (Sat.start W)).mono fun e W' ⟨he, hS⟩ => ?_
  rw [show SpanJoins a0_0 a0_1 a0_2 x1_0 a2_0 a2_1 = true from rfl] at he
  subst he
  exact ⟨_, rfl, law_post 4 SpanJoins_laidOut hW' rfl rfl Tryz.underlying4 (by kernel_rfl) ⟨rfl, rfl, rfl⟩ hS.below⟩
theorem SpanJoins_holds : Rows.SpanJoinsSaid :=
  OpenClaim.holds_of_wide 5 Tryz.f5 rfl rfl rfl rfl rfl rfl rfl ⟨rfl, rfl, rfl, rfl, rfl⟩ rfl rfl rfl rfl rfl (by kernel_rfl) Tryz.func5 (by kernel_rfl)
    (of_decide_eq_true (by kernel_rfl)) (by unfold Func.isWrapper; rw [if_neg (of_decide_eq_false (by kernel_rfl))]; exact ⟨rfl, rfl⟩)
    (fun os started H enc _ => SpanJoins_lifted os started H enc)
#print axioms SpanJoins_holds
end Go.Proofs.YtajcpopikdpcmaaGreat
