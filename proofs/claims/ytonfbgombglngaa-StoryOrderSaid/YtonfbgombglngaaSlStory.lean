/-
  DERIVED. What functions of the program compute, read off their bodies by the machine of SlB, and that it is so. Printed by a program of this claim's own.
-/
import Derived.Test.YtonfbgombglngaaPlNum
import Derived.Test.YtonfbgombglngaaSlY
namespace Go.Proofs.Ytonfbgombglngaa
open Go.Sl
set_option linter.unusedSimpArgs false
set_option linter.unusedVariables false

/- nacre/nacreref22.uses -/
def r22_uses (k : Int) : Int := (bif k == (8 : Int) then (0 : Int) else (bif k == (1 : Int) then (bif k == (1 : Int) then (1 : Int) else (bif k == (3 : Int) then (bif k == (3 : Int) then (2 : Int) else (-1 : Int)) else (bif k == (4 : Int) then (bif k == (4 : Int) then (2 : Int) else (-1 : Int)) else (bif k == (5 : Int) then (2 : Int) else (-1 : Int))))) else (bif k == (2 : Int) then (bif k == (2 : Int) then (1 : Int) else (bif k == (3 : Int) then (bif k == (3 : Int) then (2 : Int) else (-1 : Int)) else (bif k == (4 : Int) then (bif k == (4 : Int) then (2 : Int) else (-1 : Int)) else (bif k == (5 : Int) then (2 : Int) else (-1 : Int))))) else (bif k == (6 : Int) then (bif k == (6 : Int) then (1 : Int) else (bif k == (3 : Int) then (bif k == (3 : Int) then (2 : Int) else (-1 : Int)) else (bif k == (4 : Int) then (bif k == (4 : Int) then (2 : Int) else (-1 : Int)) else (bif k == (5 : Int) then (2 : Int) else (-1 : Int))))) else (bif k == (7 : Int) then (bif k == (7 : Int) then (1 : Int) else (bif k == (3 : Int) then (bif k == (3 : Int) then (2 : Int) else (-1 : Int)) else (bif k == (4 : Int) then (bif k == (4 : Int) then (2 : Int) else (-1 : Int)) else (bif k == (5 : Int) then (2 : Int) else (-1 : Int))))) else (bif k == (9 : Int) then (1 : Int) else (bif k == (3 : Int) then (bif k == (3 : Int) then (2 : Int) else (-1 : Int)) else (bif k == (4 : Int) then (bif k == (4 : Int) then (2 : Int) else (-1 : Int)) else (bif k == (5 : Int) then (2 : Int) else (-1 : Int))))))))))
abbrev c_r22_uses : Ct Sg := ⟨none, false, [.i .i64], .i .i64⟩
def e_r22_uses : Entry Sg := entC c_r22_uses r22_uses (fun _ => [])
theorem r22_uses_ok : EntryOk Dg Try.prog 139 e_r22_uses :=
  ent_ok Dg T_nil_ok (I := []) Try.func139 mix (B := bodyOf Try.f139) (by kernel_rfl) rfl (by kernel_rfl) 400
    fun _ k hb hp => ⟨(r22_uses k), .t, fun _ _ _ => by kernel_rfl, trivial, rfl⟩
def T_r22_uses : List (Nat × Entry Sg) := (139, e_r22_uses) :: T_nil
theorem T_r22_uses_ok : TableOk Dg Try.prog T_r22_uses := TableOk.cons Dg r22_uses_ok T_nil_ok

/- nacre/nacreref22.Right -/
def r22_Right (k : Int) (a : Int) (b : Int) : Bool := decide (r22_uses k ≥ (0 : Int)) && (decide (r22_uses k ≥ (1 : Int)) || a == (0 : Int)) && (decide (r22_uses k ≥ (2 : Int)) || b == (0 : Int))
abbrev c_r22_Right : Ct Sg := ⟨none, false, [.agg [.i .i64, .i .i64, .i .i64]], .b⟩
def e_r22_Right : Entry Sg := entC c_r22_Right r22_Right (fun _ _ _ => [])
theorem r22_Right_ok : EntryOk Dg Try.prog 101 e_r22_Right :=
  ent_ok Dg T_r22_uses_ok (I := []) Try.func101 mix (B := bodyOf Try.f101) (by kernel_rfl) rfl (by kernel_rfl) 400
    fun _ k a b hb hp => ⟨(r22_Right k a b), .t, fun _ _ _ => by kernel_rfl, trivial, rfl⟩
def T_r22_Right : List (Nat × Entry Sg) := (101, e_r22_Right) :: T_r22_uses
theorem T_r22_Right_ok : TableOk Dg Try.prog T_r22_Right := TableOk.cons Dg r22_Right_ok T_r22_uses_ok

/- nacre/op.Right -/
def op_Right (k : Int) (a : Int) (b : Int) : Bool := (bif k == (3 : Int) then (bif k == (3 : Int) then true else (bif k == (8 : Int) then (bif a != (0 : Int) then false else b == (0 : Int)) else (bif k == (1 : Int) then (bif k == (1 : Int) then b == (0 : Int) else false) else (bif k == (2 : Int) then (bif k == (2 : Int) then b == (0 : Int) else false) else (bif k == (6 : Int) then (bif k == (6 : Int) then b == (0 : Int) else false) else (bif k == (7 : Int) then (bif k == (7 : Int) then b == (0 : Int) else false) else (bif k == (9 : Int) then b == (0 : Int) else false))))))) else (bif k == (4 : Int) then (bif k == (4 : Int) then true else (bif k == (8 : Int) then (bif a != (0 : Int) then false else b == (0 : Int)) else (bif k == (1 : Int) then (bif k == (1 : Int) then b == (0 : Int) else false) else (bif k == (2 : Int) then (bif k == (2 : Int) then b == (0 : Int) else false) else (bif k == (6 : Int) then (bif k == (6 : Int) then b == (0 : Int) else false) else (bif k == (7 : Int) then (bif k == (7 : Int) then b == (0 : Int) else false) else (bif k == (9 : Int) then b == (0 : Int) else false))))))) else (bif k == (5 : Int) then true else (bif k == (8 : Int) then (bif a != (0 : Int) then false else b == (0 : Int)) else (bif k == (1 : Int) then (bif k == (1 : Int) then b == (0 : Int) else false) else (bif k == (2 : Int) then (bif k == (2 : Int) then b == (0 : Int) else false) else (bif k == (6 : Int) then (bif k == (6 : Int) then b == (0 : Int) else false) else (bif k == (7 : Int) then (bif k == (7 : Int) then b == (0 : Int) else false) else (bif k == (9 : Int) then b == (0 : Int) else false)))))))))
abbrev c_op_Right : Ct Sg := ⟨none, false, [.agg [.i .i64, .i .i64, .i .i64]], .b⟩
def e_op_Right : Entry Sg := entC c_op_Right op_Right (fun _ _ _ => [])
theorem op_Right_ok : EntryOk Dg Try.prog 78 e_op_Right :=
  ent_ok Dg T_r22_Right_ok (I := []) Try.func78 mix (B := bodyOf Try.f78) (by kernel_rfl) rfl (by kernel_rfl) 400
    fun _ k a b hb hp => ⟨(op_Right k a b), .t, fun _ _ _ => by kernel_rfl, trivial, rfl⟩
def T_op_Right : List (Nat × Entry Sg) := (78, e_op_Right) :: T_r22_Right
theorem T_op_Right_ok : TableOk Dg Try.prog T_op_Right := TableOk.cons Dg op_Right_ok T_r22_Right_ok

/- nacre/nacreref04.Right -/
def r04_Right (t : Int) (p : Int) (s : Int) : Bool := decide (t ≥ (1 : Int)) && decide (t ≤ (16 : Int)) && decide (p ≥ (4 : Int)) && decide (p ≤ (1024 : Int)) && decide (s ≥ (10 : Int)) && decide (s ≤ (20 : Int))
abbrev c_r04_Right : Ct Sg := ⟨none, false, [.agg [.i .i64, .i .i64, .i .i64]], .b⟩
def e_r04_Right : Entry Sg := entC c_r04_Right r04_Right (fun _ _ _ => [])
theorem r04_Right_ok : EntryOk Dg Try.prog 60 e_r04_Right :=
  ent_ok Dg T_op_Right_ok (I := []) Try.func60 mix (B := bodyOf Try.f60) (by kernel_rfl) rfl (by kernel_rfl) 400
    fun _ t p s hb hp => ⟨(r04_Right t p s), .t, fun _ _ _ => by kernel_rfl, trivial, rfl⟩
def T_r04_Right : List (Nat × Entry Sg) := (60, e_r04_Right) :: T_op_Right
theorem T_r04_Right_ok : TableOk Dg Try.prog T_r04_Right := TableOk.cons Dg r04_Right_ok T_op_Right_ok

/- nacre/story.num -/
def story_num (n : Int) : Bool := decide (n ≥ (1 : Int)) && decide (n ≤ (2147483647 : Int))
abbrev c_story_num : Ct Sg := ⟨none, false, [.i .i64], .b⟩
def e_story_num : Entry Sg := entC c_story_num story_num (fun _ => [])
theorem story_num_ok : EntryOk Dg Try.prog 142 e_story_num :=
  ent_ok Dg T_r04_Right_ok (I := []) Try.func142 mix (B := bodyOf Try.f142) (by kernel_rfl) rfl (by kernel_rfl) 400
    fun _ n hb hp => ⟨(story_num n), .t, fun _ _ _ => by kernel_rfl, trivial, rfl⟩
def T_story_num : List (Nat × Entry Sg) := (142, e_story_num) :: T_r04_Right
theorem T_story_num_ok : TableOk Dg Try.prog T_story_num := TableOk.cons Dg story_num_ok T_r04_Right_ok

/- nacre/story.named -/
def story_named (k_kd : Int) (k_ep : Int) (k_th : Int) (k_nm : Int) (k_oK : Int) (k_oA : Int) (k_oB : Int) (k_rE : Int) (k_rO : Int) (k_rX : Int) (k_aK : Int) (k_pK : Int) (k_pA : Int) (k_pB : Int) (k_sE : Int) (k_sO : Int) (k_sX : Int) : Int × Int × Int × Int × Int × Int × Int × Int × Int × Int × Int × Int × Int × Int × Int × Int × Int := (bif k_kd == (1 : Int) then (k_kd, k_ep, k_th, k_nm, k_oK, k_oA, k_oB, (0 : Int), (0 : Int), (0 : Int), (0 : Int), (0 : Int), (0 : Int), (0 : Int), (0 : Int), (0 : Int), (0 : Int)) else (bif k_kd == (2 : Int) then (bif k_kd == (2 : Int) then (k_kd, k_ep, k_th, k_nm, (0 : Int), (0 : Int), (0 : Int), k_rE, k_rO, k_rX, (0 : Int), (0 : Int), (0 : Int), (0 : Int), (0 : Int), (0 : Int), (0 : Int)) else (bif k_kd == (6 : Int) then (k_kd, k_ep, k_th, k_nm, (0 : Int), (0 : Int), (0 : Int), (0 : Int), (0 : Int), (0 : Int), k_aK, k_pK, k_pA, k_pB, k_sE, k_sO, k_sX) else (k_kd, k_ep, (0 : Int), (0 : Int), (0 : Int), (0 : Int), (0 : Int), (0 : Int), (0 : Int), (0 : Int), (0 : Int), (0 : Int), (0 : Int), (0 : Int), (0 : Int), (0 : Int), (0 : Int)))) else (bif k_kd == (3 : Int) then (k_kd, k_ep, k_th, k_nm, (0 : Int), (0 : Int), (0 : Int), k_rE, k_rO, k_rX, (0 : Int), (0 : Int), (0 : Int), (0 : Int), (0 : Int), (0 : Int), (0 : Int)) else (bif k_kd == (6 : Int) then (k_kd, k_ep, k_th, k_nm, (0 : Int), (0 : Int), (0 : Int), (0 : Int), (0 : Int), (0 : Int), k_aK, k_pK, k_pA, k_pB, k_sE, k_sO, k_sX) else (k_kd, k_ep, (0 : Int), (0 : Int), (0 : Int), (0 : Int), (0 : Int), (0 : Int), (0 : Int), (0 : Int), (0 : Int), (0 : Int), (0 : Int), (0 : Int), (0 : Int), (0 : Int), (0 : Int))))))
abbrev c_story_named : Ct Sg := ⟨none, false, [.agg [.i .i64, .i .i64, .i .i64, .i .i64, .i .i64, .i .i64, .i .i64, .i .i64, .i .i64, .i .i64, .i .i64, .i .i64, .i .i64, .i .i64, .i .i64, .i .i64, .i .i64]], .agg [.i .i64, .i .i64, .i .i64, .i .i64, .i .i64, .i .i64, .i .i64, .i .i64, .i .i64, .i .i64, .i .i64, .i .i64, .i .i64, .i .i64, .i .i64, .i .i64, .i .i64]⟩
def e_story_named : Entry Sg := entC c_story_named story_named (fun _ _ _ _ _ _ _ _ _ _ _ _ _ _ _ _ _ => [])
theorem story_named_ok : EntryOk Dg Try.prog 116 e_story_named :=
  ent_ok Dg T_story_num_ok (I := []) Try.func116 mix (B := bodyOf Try.f116) (by kernel_rfl) rfl (by kernel_rfl) 400
    fun _ k_kd k_ep k_th k_nm k_oK k_oA k_oB k_rE k_rO k_rX k_aK k_pK k_pA k_pB k_sE k_sO k_sX hb hp => ⟨(story_named k_kd k_ep k_th k_nm k_oK k_oA k_oB k_rE k_rO k_rX k_aK k_pK k_pA k_pB k_sE k_sO k_sX), .t, fun _ _ _ => by kernel_rfl, trivial, rfl⟩
def T_story_named : List (Nat × Entry Sg) := (116, e_story_named) :: T_story_num
theorem T_story_named_ok : TableOk Dg Try.prog T_story_named := TableOk.cons Dg story_named_ok T_story_num_ok

/- nacre/nacreref33.bare -/
def r33_bare (k_kd : Int) (k_ep : Int) (k_th : Int) (k_nm : Int) (k_oK : Int) (k_oA : Int) (k_oB : Int) (k_rE : Int) (k_rO : Int) (k_rX : Int) (k_aK : Int) (k_pK : Int) (k_pA : Int) (k_pB : Int) (k_sE : Int) (k_sO : Int) (k_sX : Int) : Bool := (k_kd != (4 : Int) && k_kd != (5 : Int) || k_th == (0 : Int) && k_nm == (0 : Int)) && (k_kd == (1 : Int) || k_oK == (0 : Int) && (k_oA == (0 : Int) && (k_oB == (0 : Int) && true))) && (k_kd == (2 : Int) || k_kd == (3 : Int) || k_rE == (0 : Int) && (k_rO == (0 : Int) && (k_rX == (0 : Int) && true))) && (k_kd == (6 : Int) || k_aK == (0 : Int) && (k_pK == (0 : Int) && (k_pA == (0 : Int) && (k_pB == (0 : Int) && true)) && (k_sE == (0 : Int) && (k_sO == (0 : Int) && (k_sX == (0 : Int) && true)) && true)))
abbrev c_r33_bare : Ct Sg := ⟨none, false, [.agg [.i .i64, .i .i64, .i .i64, .i .i64, .i .i64, .i .i64, .i .i64, .i .i64, .i .i64, .i .i64, .i .i64, .i .i64, .i .i64, .i .i64, .i .i64, .i .i64, .i .i64]], .b⟩
def e_r33_bare : Entry Sg := entC c_r33_bare r33_bare (fun _ _ _ _ _ _ _ _ _ _ _ _ _ _ _ _ _ => [])
theorem r33_bare_ok : EntryOk Dg Try.prog 119 e_r33_bare :=
  ent_ok Dg T_story_named_ok (I := []) Try.func119 mix (B := bodyOf Try.f119) (by kernel_rfl) rfl (by kernel_rfl) 400
    fun _ k_kd k_ep k_th k_nm k_oK k_oA k_oB k_rE k_rO k_rX k_aK k_pK k_pA k_pB k_sE k_sO k_sX hb hp => ⟨(r33_bare k_kd k_ep k_th k_nm k_oK k_oA k_oB k_rE k_rO k_rX k_aK k_pK k_pA k_pB k_sE k_sO k_sX), .t, fun _ _ _ => by kernel_rfl, trivial, rfl⟩
def T_r33_bare : List (Nat × Entry Sg) := (119, e_r33_bare) :: T_story_named
theorem T_r33_bare_ok : TableOk Dg Try.prog T_r33_bare := TableOk.cons Dg r33_bare_ok T_story_named_ok

/- nacre/nacreref33.Before -/
def r33_Before (aT : Int) (aNum : Int) (aEp : Int) (aK : Int) (aA : Int) (aB : Int) (aFrom : Int) (aTo : Int) (aE : Int) (aO : Int) (aX : Int) (bT : Int) (bNum : Int) (bEp : Int) (bK : Int) (bA : Int) (bB : Int) (bFrom : Int) (bTo : Int) (bE : Int) (bO : Int) (bX : Int) : Bool := decide (aEp < bEp) || aTo != (-1 : Int) && decide (aTo < bFrom)
abbrev c_r33_Before : Ct Sg := ⟨none, false, [.agg [.i .i64, .i .i64, .i .i64, .i .i64, .i .i64, .i .i64, .i .i64, .i .i64, .i .i64, .i .i64, .i .i64], .agg [.i .i64, .i .i64, .i .i64, .i .i64, .i .i64, .i .i64, .i .i64, .i .i64, .i .i64, .i .i64, .i .i64]], .b⟩
def e_r33_Before : Entry Sg := entC c_r33_Before r33_Before (fun _ _ _ _ _ _ _ _ _ _ _ _ _ _ _ _ _ _ _ _ _ _ => [])
theorem r33_Before_ok : EntryOk Dg Try.prog 24 e_r33_Before :=
  ent_ok Dg T_r33_bare_ok (I := []) Try.func24 mix (B := bodyOf Try.f24) (by kernel_rfl) rfl (by kernel_rfl) 400
    fun _ aT aNum aEp aK aA aB aFrom aTo aE aO aX bT bNum bEp bK bA bB bFrom bTo bE bO bX hb hp => ⟨(r33_Before aT aNum aEp aK aA aB aFrom aTo aE aO aX bT bNum bEp bK bA bB bFrom bTo bE bO bX), .t, fun _ _ _ => by kernel_rfl, trivial, rfl⟩
def T_r33_Before : List (Nat × Entry Sg) := (24, e_r33_Before) :: T_r33_bare
theorem T_r33_Before_ok : TableOk Dg Try.prog T_r33_Before := TableOk.cons Dg r33_Before_ok T_r33_bare_ok

/- nacre/story.Before -/
def story_Before (aT : Int) (aNum : Int) (aEp : Int) (aK : Int) (aA : Int) (aB : Int) (aFrom : Int) (aTo : Int) (aE : Int) (aO : Int) (aX : Int) (bT : Int) (bNum : Int) (bEp : Int) (bK : Int) (bA : Int) (bB : Int) (bFrom : Int) (bTo : Int) (bE : Int) (bO : Int) (bX : Int) : Bool := decide (aTo ≥ (0 : Int)) && decide (aTo < bFrom) || decide (aEp < bEp)
abbrev c_story_Before : Ct Sg := ⟨none, false, [.agg [.i .i64, .i .i64, .i .i64, .i .i64, .i .i64, .i .i64, .i .i64, .i .i64, .i .i64, .i .i64, .i .i64], .agg [.i .i64, .i .i64, .i .i64, .i .i64, .i .i64, .i .i64, .i .i64, .i .i64, .i .i64, .i .i64, .i .i64]], .b⟩
def e_story_Before : Entry Sg := entC c_story_Before story_Before (fun _ _ _ _ _ _ _ _ _ _ _ _ _ _ _ _ _ _ _ _ _ _ => [])
theorem story_Before_ok : EntryOk Dg Try.prog 23 e_story_Before :=
  ent_ok Dg T_r33_Before_ok (I := []) Try.func23 mix (B := bodyOf Try.f23) (by kernel_rfl) rfl (by kernel_rfl) 400
    fun _ aT aNum aEp aK aA aB aFrom aTo aE aO aX bT bNum bEp bK bA bB bFrom bTo bE bO bX hb hp => ⟨(story_Before aT aNum aEp aK aA aB aFrom aTo aE aO aX bT bNum bEp bK bA bB bFrom bTo bE bO bX), .t, fun _ _ _ => by kernel_rfl, trivial, rfl⟩
def T_story_Before : List (Nat × Entry Sg) := (23, e_story_Before) :: T_r33_Before
theorem T_story_Before_ok : TableOk Dg Try.prog T_story_Before := TableOk.cons Dg story_Before_ok T_r33_Before_ok
end Go.Proofs.Ytonfbgombglngaa
