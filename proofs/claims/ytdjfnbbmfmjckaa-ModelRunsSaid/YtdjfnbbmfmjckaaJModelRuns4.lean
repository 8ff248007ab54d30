/-
  DERIVED. Part 4 of the texts of this claim.
-/
import Derived.Test.YtdjfnbbmfmjckaaJModelRuns3
set_option linter.unusedSimpArgs false
set_option linter.unusedVariables false
open Go.IntKind renaming i64 → iB, wrap → iS
open List renaming getD_eq_getElem?_getD → iC, getElem?_eq_getElem → iK, getD → iM, length → iN, length_append → jK, all_eq_true → jN, range → jQ, mem_range → kS, findIdx?_eq_some_iff_getElem → lN, any_cons → mD, length_take → mE, eraseIdx_of_length_le → mJ, findIdx?_eq_none_iff → mN, take_length → nP
open Nat renaming mul_le_mul_right → kE, not_lt_zero → kR, le_trans → lO, sub_self → nE, add_le_add_right → nL
open Bool renaming and_eq_true → iG, false_or → jX, or_eq_false_iff → kF, true_or → kQ, not_eq_true' → kW, true_and → oA, not_eq_false' → oD, and_false → oJ
open Int renaming toNat → jL
open Prod renaming fst → kJ
namespace Go.Proofs.Ytdjfnbbmfmjckaa
section
open Go.Sl
def UK (s:MS) (u z:Int):MS:=⟨s.t,s.p,s.h,F8 s.l (u,z),s.r0,s.r1,s.r2,s.r3,s.r4,s.r5,s.r6,s.r7⟩
def AcZ (s:MS) (a:Int):MS:=⟨s.t,s.p,s.h,FY s.l ((atR s.l a).1,(atR s.l a).2.1),s.r0,s.r1,s.r2,s.r3,s.r4,s.r5,s.r6,s.r7⟩
def UL (s:MS) (i x:Int):MS:=⟨s.t,s.p,s.h,s.l,(bif i==0 then x else s.r0),(bif i==1 then x else s.r1),(bif i==2 then x else s.r2),(bif i==3 then x else s.r3),(bif i==4 then x else s.r4),(bif i==5 then x else s.r5),(bif i==6 then x else s.r6),(bif i==7 then x else s.r7)⟩
def FT (s:MS) (k a c u v:Int):MS:=bif k==1 then UK s u v else bif k==2 then AcZ s a else bif k==3 then IR s a u v 8 else bif k==4 then UL (UK s u (Az s.t s.p s.h c).1) a u else bif k==5 then UL s a c else s
theorem Ahu {s:MS} {a:Int} (h:(Hw s a).2=true):0≤a∧a<8:=by
 unfold Hw at h
 cases hb:decide (a<0)||decide (a≥8) with
 |true=>rw [hb] at h;cases h
 |false=>simp only [kF,decide_eq_false_iff_not] at hb;omega
theorem al4 {s:MS} {a c u v:Int} (h:Bo s 4 a c 0 u v=true):0≤a∧a<8:=by
 have h1:Fj s 4 a c 0 u v=true:=h
 unfold Fj at h1
 cases hr:(Hw s a).2 with
 |true=>exact Ahu hr
 |false=>rw [hr] at h1;cases h1
theorem al5 {s:MS} {a c u v:Int} (h:Bo s 5 a c 0 u v=true):0≤a∧a<8:=by
 have h1:GX s 5 a c 0 u v=true:=h
 unfold GX at h1
 cases hr:(Hw s a).2 with
 |true=>exact Ahu hr
 |false=>simp only [hr] at h1;cases h1
def Ae (s:MS) (k a c e u v:Int):MS×Bool:=bif !Bo s k a c e u v then (s,false) else bif e !=0 then (s,true) else (FT s k a c u v,true)
abbrev AlP:Ct Sg:=⟨some D5,false,[.agg [.i .i64, .i .i64, .i .i64], .agg [.i .i64, .i .i64, .i .i64]], .b⟩
def Aeg:Entry Sg:=CP AlP (λ(s:MS) (k:Int) (a:Int) (c:Int) (e:Int) (u:Int) (v:Int)=>bif !Bo s k a c e u v then (s,false) else bif e !=0 then (s,true) else (FT s k a c u v,true)) (λs k a c e u v=>[BZ s.l])
def Aeh (s:MS) (k a c e u v:Int) (Q0:Int→Prop) (Q1:Int→Int→Int→List (Int×Int)→Int→Int→Int→Int→Int→Int→Int→Int→Int→Prop) (Q2:Int→Int→Prop) (Q3:Int→Int→Int→List (Int×Int)→Int→Int→Int→Int→Int→Int→Int→Int→Int→Int→Prop) (Q4:Int→Prop) (Q5:Int→Int→Int→List (Int×Int)→Int→Int→Int→Int→Int→Int→Int→Int→Int→Prop) (Q6:Int→Int→Int→List (Int×Int)→Int→Int→Int→Int→Int→Int→Int→Int→Int→Prop) (Q7:Int→Prop) (Q8:Int→Int→Int→List (Int×Int)→Int→Int→Int→Int→Int→Int→Int→Int→Int→Prop) (R_:MS×Bool→Prop) (O_:Int→Int→Int→List (Int×Int)→Int→Int→Int→Int→Int→Int→Int→Int→Bool→Prop):Prop:=(∀r2:Bool,r2=(Bo s k a c e u v)→(Ba (BZ (MS.l s)) (BH (!r2) (R_ ((s,false))) (BH (e !=0) (R_ ((s,true))) (BH (k==1) (Q0 (k)) (BH (k==2) (∀r8:Int×Int×Bool,r8=(atR (MS.l s) a)→(Ba (BZ (MS.l s)) (Q2 r8.1 r8.2.1))) (BH (k==3) (∀r9:MS,r9=(IR s a u v 8)→(Ba (BZ (MS.l s)) (R_ ((r9,true))))) (BH (k==4) (Q4 (k)) (BH (k==5) (Q7 (a)) (R_ ((s,true))))))))))))
def AaC (s:MS) (k a c e u v k_ t_ p_ h_:Int) (l_:List (Int×Int)) (x0_ x1_ x2_ x3_ x4_ x5_ x6_ x7_:Int) (Q1:Int→Int→Int→List (Int×Int)→Int→Int→Int→Int→Int→Int→Int→Int→Int→Prop):Prop:=(Q1 (t_) (p_) (h_) (l_) (x0_) (x1_) (x2_) (x3_) (x4_) (x5_) (x6_) (x7_) (k_))
def Bq (s:MS) (k a c e u v k_:Int):Prop:=k=1∧k_=k∧Bo s k a c e u v=true∧e=0
def AaD (s:MS) (k a c e u v t_ p_ h_:Int) (l_:List (Int×Int)) (r0_ r1_ r2_ r3_ r4_ r5_ r6_ r7_ k_:Int) (Q0:Int→Prop) (Q1:Int→Int→Int→List (Int×Int)→Int→Int→Int→Int→Int→Int→Int→Int→Int→Prop) (Q2:Int→Int→Prop) (Q3:Int→Int→Int→List (Int×Int)→Int→Int→Int→Int→Int→Int→Int→Int→Int→Int→Prop) (Q4:Int→Prop) (Q5:Int→Int→Int→List (Int×Int)→Int→Int→Int→Int→Int→Int→Int→Int→Int→Prop) (Q6:Int→Int→Int→List (Int×Int)→Int→Int→Int→Int→Int→Int→Int→Int→Int→Prop) (Q7:Int→Prop) (Q8:Int→Int→Int→List (Int×Int)→Int→Int→Int→Int→Int→Int→Int→Int→Int→Prop) (R_:MS×Bool→Prop) (O_:Int→Int→Int→List (Int×Int)→Int→Int→Int→Int→Int→Int→Int→Int→Bool→Prop):Prop:=(O_ (t_) (p_) (h_) (F8 l_ (u,v)) (r0_) (r1_) (r2_) (r3_) (r4_) (r5_) (r6_) (r7_) (true))
def Bf (s:MS) (k a c e u v t_ p_ h_:Int) (l_:List (Int×Int)) (r0_ r1_ r2_ r3_ r4_ r5_ r6_ r7_ k_:Int):Prop:=s=⟨t_,p_,h_,l_,r0_,r1_,r2_,r3_,r4_,r5_,r6_,r7_⟩∧k=1∧k_=k∧Bo s k a c e u v=true∧e=0
def AaE (s:MS) (k a c e u v y_ z_ t_ p_ h_:Int) (l_:List (Int×Int)) (x0_ x1_ x2_ x3_ x4_ x5_ x6_ x7_:Int) (Q3:Int→Int→Int→List (Int×Int)→Int→Int→Int→Int→Int→Int→Int→Int→Int→Int→Prop):Prop:=(Q3 (t_) (p_) (h_) (l_) (x0_) (x1_) (x2_) (x3_) (x4_) (x5_) (x6_) (x7_) (y_) (z_))
def Bv (s:MS) (k a c e u v y_ z_:Int):Prop:=k=2∧y_=(atR s.l a).1∧z_=(atR s.l a).2.1∧Bo s k a c e u v=true∧e=0
def AaF (s:MS) (k a c e u v t_ p_ h_:Int) (l_:List (Int×Int)) (r0_ r1_ r2_ r3_ r4_ r5_ r6_ r7_ y_ z_:Int) (Q0:Int→Prop) (Q1:Int→Int→Int→List (Int×Int)→Int→Int→Int→Int→Int→Int→Int→Int→Int→Prop) (Q2:Int→Int→Prop) (Q3:Int→Int→Int→List (Int×Int)→Int→Int→Int→Int→Int→Int→Int→Int→Int→Int→Prop) (Q4:Int→Prop) (Q5:Int→Int→Int→List (Int×Int)→Int→Int→Int→Int→Int→Int→Int→Int→Int→Prop) (Q6:Int→Int→Int→List (Int×Int)→Int→Int→Int→Int→Int→Int→Int→Int→Int→Prop) (Q7:Int→Prop) (Q8:Int→Int→Int→List (Int×Int)→Int→Int→Int→Int→Int→Int→Int→Int→Int→Prop) (R_:MS×Bool→Prop) (O_:Int→Int→Int→List (Int×Int)→Int→Int→Int→Int→Int→Int→Int→Int→Bool→Prop):Prop:=(O_ (t_) (p_) (h_) (FY l_ (y_,z_)) (r0_) (r1_) (r2_) (r3_) (r4_) (r5_) (r6_) (r7_) (true))
def Bg (s:MS) (k a c e u v t_ p_ h_:Int) (l_:List (Int×Int)) (r0_ r1_ r2_ r3_ r4_ r5_ r6_ r7_ y_ z_:Int):Prop:=s=⟨t_,p_,h_,l_,r0_,r1_,r2_,r3_,r4_,r5_,r6_,r7_⟩∧k=2∧y_=(atR s.l a).1∧z_=(atR s.l a).2.1∧Bo s k a c e u v=true∧e=0
def AaG (s:MS) (k a c e u v k_ t_ p_ h_:Int) (l_:List (Int×Int)) (x0_ x1_ x2_ x3_ x4_ x5_ x6_ x7_:Int) (Q5:Int→Int→Int→List (Int×Int)→Int→Int→Int→Int→Int→Int→Int→Int→Int→Prop):Prop:=(Q5 (t_) (p_) (h_) (l_) (x0_) (x1_) (x2_) (x3_) (x4_) (x5_) (x6_) (x7_) (k_))
def Bz (s:MS) (k a c e u v k_:Int):Prop:=k=4∧k_=k∧Bo s k a c e u v=true∧e=0
def AaH (s:MS) (k a c e u v t_ p_ h_:Int) (l_:List (Int×Int)) (r0_ r1_ r2_ r3_ r4_ r5_ r6_ r7_ k_:Int) (Q0:Int→Prop) (Q1:Int→Int→Int→List (Int×Int)→Int→Int→Int→Int→Int→Int→Int→Int→Int→Prop) (Q2:Int→Int→Prop) (Q3:Int→Int→Int→List (Int×Int)→Int→Int→Int→Int→Int→Int→Int→Int→Int→Int→Prop) (Q4:Int→Prop) (Q5:Int→Int→Int→List (Int×Int)→Int→Int→Int→Int→Int→Int→Int→Int→Int→Prop) (Q6:Int→Int→Int→List (Int×Int)→Int→Int→Int→Int→Int→Int→Int→Int→Int→Prop) (Q7:Int→Prop) (Q8:Int→Int→Int→List (Int×Int)→Int→Int→Int→Int→Int→Int→Int→Int→Int→Prop) (R_:MS×Bool→Prop) (O_:Int→Int→Int→List (Int×Int)→Int→Int→Int→Int→Int→Int→Int→Int→Bool→Prop):Prop:=(Q6 (t_) (p_) (h_) (F8 l_ (u,kJ (Az t_ p_ h_ c))) (r0_) (r1_) (r2_) (r3_) (r4_) (r5_) (r6_) (r7_) (a))
def Bh (s:MS) (k a c e u v t_ p_ h_:Int) (l_:List (Int×Int)) (r0_ r1_ r2_ r3_ r4_ r5_ r6_ r7_ k_:Int):Prop:=s=⟨t_,p_,h_,l_,r0_,r1_,r2_,r3_,r4_,r5_,r6_,r7_⟩∧k=4∧k_=k∧Bo s k a c e u v=true∧e=0
def UM (s:MS) (k a c e u v t_ p_ h_:Int) (l_:List (Int×Int)) (r0_ r1_ r2_ r3_ r4_ r5_ r6_ r7_:Int) (Q0:Int→Prop) (Q1:Int→Int→Int→List (Int×Int)→Int→Int→Int→Int→Int→Int→Int→Int→Int→Prop) (Q2:Int→Int→Prop) (Q3:Int→Int→Int→List (Int×Int)→Int→Int→Int→Int→Int→Int→Int→Int→Int→Int→Prop) (Q4:Int→Prop) (Q5:Int→Int→Int→List (Int×Int)→Int→Int→Int→Int→Int→Int→Int→Int→Int→Prop) (Q6:Int→Int→Int→List (Int×Int)→Int→Int→Int→Int→Int→Int→Int→Int→Int→Prop) (Q7:Int→Prop) (Q8:Int→Int→Int→List (Int×Int)→Int→Int→Int→Int→Int→Int→Int→Int→Int→Prop) (R_:MS×Bool→Prop) (O_:Int→Int→Int→List (Int×Int)→Int→Int→Int→Int→Int→Int→Int→Int→Bool→Prop):Prop:=(Ba ((0:Int)≤0∧(0:Int)<8) (O_ (t_) (p_) (h_) (l_) (u) (r1_) (r2_) (r3_) (r4_) (r5_) (r6_) (r7_) (true)))
def UN (s:MS) (k a c e u v t_ p_ h_:Int) (l_:List (Int×Int)) (r0_ r1_ r2_ r3_ r4_ r5_ r6_ r7_:Int) (Q0:Int→Prop) (Q1:Int→Int→Int→List (Int×Int)→Int→Int→Int→Int→Int→Int→Int→Int→Int→Prop) (Q2:Int→Int→Prop) (Q3:Int→Int→Int→List (Int×Int)→Int→Int→Int→Int→Int→Int→Int→Int→Int→Int→Prop) (Q4:Int→Prop) (Q5:Int→Int→Int→List (Int×Int)→Int→Int→Int→Int→Int→Int→Int→Int→Int→Prop) (Q6:Int→Int→Int→List (Int×Int)→Int→Int→Int→Int→Int→Int→Int→Int→Int→Prop) (Q7:Int→Prop) (Q8:Int→Int→Int→List (Int×Int)→Int→Int→Int→Int→Int→Int→Int→Int→Int→Prop) (R_:MS×Bool→Prop) (O_:Int→Int→Int→List (Int×Int)→Int→Int→Int→Int→Int→Int→Int→Int→Bool→Prop):Prop:=(Ba ((0:Int)≤1∧(1:Int)<8) (O_ (t_) (p_) (h_) (l_) (r0_) (u) (r2_) (r3_) (r4_) (r5_) (r6_) (r7_) (true)))
def UO (s:MS) (k a c e u v t_ p_ h_:Int) (l_:List (Int×Int)) (r0_ r1_ r2_ r3_ r4_ r5_ r6_ r7_:Int) (Q0:Int→Prop) (Q1:Int→Int→Int→List (Int×Int)→Int→Int→Int→Int→Int→Int→Int→Int→Int→Prop) (Q2:Int→Int→Prop) (Q3:Int→Int→Int→List (Int×Int)→Int→Int→Int→Int→Int→Int→Int→Int→Int→Int→Prop) (Q4:Int→Prop) (Q5:Int→Int→Int→List (Int×Int)→Int→Int→Int→Int→Int→Int→Int→Int→Int→Prop) (Q6:Int→Int→Int→List (Int×Int)→Int→Int→Int→Int→Int→Int→Int→Int→Int→Prop) (Q7:Int→Prop) (Q8:Int→Int→Int→List (Int×Int)→Int→Int→Int→Int→Int→Int→Int→Int→Int→Prop) (R_:MS×Bool→Prop) (O_:Int→Int→Int→List (Int×Int)→Int→Int→Int→Int→Int→Int→Int→Int→Bool→Prop):Prop:=(Ba ((0:Int)≤2∧(2:Int)<8) (O_ (t_) (p_) (h_) (l_) (r0_) (r1_) (u) (r3_) (r4_) (r5_) (r6_) (r7_) (true)))
def UQ (s:MS) (k a c e u v t_ p_ h_:Int) (l_:List (Int×Int)) (r0_ r1_ r2_ r3_ r4_ r5_ r6_ r7_:Int) (Q0:Int→Prop) (Q1:Int→Int→Int→List (Int×Int)→Int→Int→Int→Int→Int→Int→Int→Int→Int→Prop) (Q2:Int→Int→Prop) (Q3:Int→Int→Int→List (Int×Int)→Int→Int→Int→Int→Int→Int→Int→Int→Int→Int→Prop) (Q4:Int→Prop) (Q5:Int→Int→Int→List (Int×Int)→Int→Int→Int→Int→Int→Int→Int→Int→Int→Prop) (Q6:Int→Int→Int→List (Int×Int)→Int→Int→Int→Int→Int→Int→Int→Int→Int→Prop) (Q7:Int→Prop) (Q8:Int→Int→Int→List (Int×Int)→Int→Int→Int→Int→Int→Int→Int→Int→Int→Prop) (R_:MS×Bool→Prop) (O_:Int→Int→Int→List (Int×Int)→Int→Int→Int→Int→Int→Int→Int→Int→Bool→Prop):Prop:=(Ba ((0:Int)≤3∧(3:Int)<8) (O_ (t_) (p_) (h_) (l_) (r0_) (r1_) (r2_) (u) (r4_) (r5_) (r6_) (r7_) (true)))
def UR (s:MS) (k a c e u v t_ p_ h_:Int) (l_:List (Int×Int)) (r0_ r1_ r2_ r3_ r4_ r5_ r6_ r7_:Int) (Q0:Int→Prop) (Q1:Int→Int→Int→List (Int×Int)→Int→Int→Int→Int→Int→Int→Int→Int→Int→Prop) (Q2:Int→Int→Prop) (Q3:Int→Int→Int→List (Int×Int)→Int→Int→Int→Int→Int→Int→Int→Int→Int→Int→Prop) (Q4:Int→Prop) (Q5:Int→Int→Int→List (Int×Int)→Int→Int→Int→Int→Int→Int→Int→Int→Int→Prop) (Q6:Int→Int→Int→List (Int×Int)→Int→Int→Int→Int→Int→Int→Int→Int→Int→Prop) (Q7:Int→Prop) (Q8:Int→Int→Int→List (Int×Int)→Int→Int→Int→Int→Int→Int→Int→Int→Int→Prop) (R_:MS×Bool→Prop) (O_:Int→Int→Int→List (Int×Int)→Int→Int→Int→Int→Int→Int→Int→Int→Bool→Prop):Prop:=(Ba ((0:Int)≤4∧(4:Int)<8) (O_ (t_) (p_) (h_) (l_) (r0_) (r1_) (r2_) (r3_) (u) (r5_) (r6_) (r7_) (true)))
def UT (s:MS) (k a c e u v t_ p_ h_:Int) (l_:List (Int×Int)) (r0_ r1_ r2_ r3_ r4_ r5_ r6_ r7_:Int) (Q0:Int→Prop) (Q1:Int→Int→Int→List (Int×Int)→Int→Int→Int→Int→Int→Int→Int→Int→Int→Prop) (Q2:Int→Int→Prop) (Q3:Int→Int→Int→List (Int×Int)→Int→Int→Int→Int→Int→Int→Int→Int→Int→Int→Prop) (Q4:Int→Prop) (Q5:Int→Int→Int→List (Int×Int)→Int→Int→Int→Int→Int→Int→Int→Int→Int→Prop) (Q6:Int→Int→Int→List (Int×Int)→Int→Int→Int→Int→Int→Int→Int→Int→Int→Prop) (Q7:Int→Prop) (Q8:Int→Int→Int→List (Int×Int)→Int→Int→Int→Int→Int→Int→Int→Int→Int→Prop) (R_:MS×Bool→Prop) (O_:Int→Int→Int→List (Int×Int)→Int→Int→Int→Int→Int→Int→Int→Int→Bool→Prop):Prop:=(Ba ((0:Int)≤5∧(5:Int)<8) (O_ (t_) (p_) (h_) (l_) (r0_) (r1_) (r2_) (r3_) (r4_) (u) (r6_) (r7_) (true)))
def UU (s:MS) (k a c e u v t_ p_ h_:Int) (l_:List (Int×Int)) (r0_ r1_ r2_ r3_ r4_ r5_ r6_ r7_:Int) (Q0:Int→Prop) (Q1:Int→Int→Int→List (Int×Int)→Int→Int→Int→Int→Int→Int→Int→Int→Int→Prop) (Q2:Int→Int→Prop) (Q3:Int→Int→Int→List (Int×Int)→Int→Int→Int→Int→Int→Int→Int→Int→Int→Int→Prop) (Q4:Int→Prop) (Q5:Int→Int→Int→List (Int×Int)→Int→Int→Int→Int→Int→Int→Int→Int→Int→Prop) (Q6:Int→Int→Int→List (Int×Int)→Int→Int→Int→Int→Int→Int→Int→Int→Int→Prop) (Q7:Int→Prop) (Q8:Int→Int→Int→List (Int×Int)→Int→Int→Int→Int→Int→Int→Int→Int→Int→Prop) (R_:MS×Bool→Prop) (O_:Int→Int→Int→List (Int×Int)→Int→Int→Int→Int→Int→Int→Int→Int→Bool→Prop):Prop:=(Ba ((0:Int)≤6∧(6:Int)<8) (O_ (t_) (p_) (h_) (l_) (r0_) (r1_) (r2_) (r3_) (r4_) (r5_) (u) (r7_) (true)))
def UV (s:MS) (k a c e u v t_ p_ h_:Int) (l_:List (Int×Int)) (r0_ r1_ r2_ r3_ r4_ r5_ r6_ r7_:Int) (Q0:Int→Prop) (Q1:Int→Int→Int→List (Int×Int)→Int→Int→Int→Int→Int→Int→Int→Int→Int→Prop) (Q2:Int→Int→Prop) (Q3:Int→Int→Int→List (Int×Int)→Int→Int→Int→Int→Int→Int→Int→Int→Int→Int→Prop) (Q4:Int→Prop) (Q5:Int→Int→Int→List (Int×Int)→Int→Int→Int→Int→Int→Int→Int→Int→Int→Prop) (Q6:Int→Int→Int→List (Int×Int)→Int→Int→Int→Int→Int→Int→Int→Int→Int→Prop) (Q7:Int→Prop) (Q8:Int→Int→Int→List (Int×Int)→Int→Int→Int→Int→Int→Int→Int→Int→Int→Prop) (R_:MS×Bool→Prop) (O_:Int→Int→Int→List (Int×Int)→Int→Int→Int→Int→Int→Int→Int→Int→Bool→Prop):Prop:=(Ba ((0:Int)≤7∧(7:Int)<8) (O_ (t_) (p_) (h_) (l_) (r0_) (r1_) (r2_) (r3_) (r4_) (r5_) (r6_) (u) (true)))
def AU (s:MS) (k a c e u v t_ p_ h_:Int) (l_:List (Int×Int)) (r0_ r1_ r2_ r3_ r4_ r5_ r6_ r7_ a_:Int):Prop:=a_=a∧k=4∧Bo s k a c e u v=true∧e=0∧0≤a∧a<8∧⟨t_,p_,h_,l_,r0_,r1_,r2_,r3_,r4_,r5_,r6_,r7_⟩=UK s u (Az s.t s.p s.h c).1
def AaI (s:MS) (k a c e u v a_ t_ p_ h_:Int) (l_:List (Int×Int)) (x0_ x1_ x2_ x3_ x4_ x5_ x6_ x7_:Int) (Q8:Int→Int→Int→List (Int×Int)→Int→Int→Int→Int→Int→Int→Int→Int→Int→Prop):Prop:=(Q8 (t_) (p_) (h_) (l_) (x0_) (x1_) (x2_) (x3_) (x4_) (x5_) (x6_) (x7_) (a_))
def BA (s:MS) (k a c e u v a_:Int):Prop:=a_=a∧k=5∧0≤a∧a<8∧Bo s k a c e u v=true∧e=0
def UW (s:MS) (k a c e u v t_ p_ h_:Int) (l_:List (Int×Int)) (r0_ r1_ r2_ r3_ r4_ r5_ r6_ r7_:Int) (Q0:Int→Prop) (Q1:Int→Int→Int→List (Int×Int)→Int→Int→Int→Int→Int→Int→Int→Int→Int→Prop) (Q2:Int→Int→Prop) (Q3:Int→Int→Int→List (Int×Int)→Int→Int→Int→Int→Int→Int→Int→Int→Int→Int→Prop) (Q4:Int→Prop) (Q5:Int→Int→Int→List (Int×Int)→Int→Int→Int→Int→Int→Int→Int→Int→Int→Prop) (Q6:Int→Int→Int→List (Int×Int)→Int→Int→Int→Int→Int→Int→Int→Int→Int→Prop) (Q7:Int→Prop) (Q8:Int→Int→Int→List (Int×Int)→Int→Int→Int→Int→Int→Int→Int→Int→Int→Prop) (R_:MS×Bool→Prop) (O_:Int→Int→Int→List (Int×Int)→Int→Int→Int→Int→Int→Int→Int→Int→Bool→Prop):Prop:=(Ba ((0:Int)≤0∧(0:Int)<8) (O_ (t_) (p_) (h_) (l_) (c) (r1_) (r2_) (r3_) (r4_) (r5_) (r6_) (r7_) (true)))
def UX (s:MS) (k a c e u v t_ p_ h_:Int) (l_:List (Int×Int)) (r0_ r1_ r2_ r3_ r4_ r5_ r6_ r7_:Int) (Q0:Int→Prop) (Q1:Int→Int→Int→List (Int×Int)→Int→Int→Int→Int→Int→Int→Int→Int→Int→Prop) (Q2:Int→Int→Prop) (Q3:Int→Int→Int→List (Int×Int)→Int→Int→Int→Int→Int→Int→Int→Int→Int→Int→Prop) (Q4:Int→Prop) (Q5:Int→Int→Int→List (Int×Int)→Int→Int→Int→Int→Int→Int→Int→Int→Int→Prop) (Q6:Int→Int→Int→List (Int×Int)→Int→Int→Int→Int→Int→Int→Int→Int→Int→Prop) (Q7:Int→Prop) (Q8:Int→Int→Int→List (Int×Int)→Int→Int→Int→Int→Int→Int→Int→Int→Int→Prop) (R_:MS×Bool→Prop) (O_:Int→Int→Int→List (Int×Int)→Int→Int→Int→Int→Int→Int→Int→Int→Bool→Prop):Prop:=(Ba ((0:Int)≤1∧(1:Int)<8) (O_ (t_) (p_) (h_) (l_) (r0_) (c) (r2_) (r3_) (r4_) (r5_) (r6_) (r7_) (true)))
def UY (s:MS) (k a c e u v t_ p_ h_:Int) (l_:List (Int×Int)) (r0_ r1_ r2_ r3_ r4_ r5_ r6_ r7_:Int) (Q0:Int→Prop) (Q1:Int→Int→Int→List (Int×Int)→Int→Int→Int→Int→Int→Int→Int→Int→Int→Prop) (Q2:Int→Int→Prop) (Q3:Int→Int→Int→List (Int×Int)→Int→Int→Int→Int→Int→Int→Int→Int→Int→Int→Prop) (Q4:Int→Prop) (Q5:Int→Int→Int→List (Int×Int)→Int→Int→Int→Int→Int→Int→Int→Int→Int→Prop) (Q6:Int→Int→Int→List (Int×Int)→Int→Int→Int→Int→Int→Int→Int→Int→Int→Prop) (Q7:Int→Prop) (Q8:Int→Int→Int→List (Int×Int)→Int→Int→Int→Int→Int→Int→Int→Int→Int→Prop) (R_:MS×Bool→Prop) (O_:Int→Int→Int→List (Int×Int)→Int→Int→Int→Int→Int→Int→Int→Int→Bool→Prop):Prop:=(Ba ((0:Int)≤2∧(2:Int)<8) (O_ (t_) (p_) (h_) (l_) (r0_) (r1_) (c) (r3_) (r4_) (r5_) (r6_) (r7_) (true)))
def UZ (s:MS) (k a c e u v t_ p_ h_:Int) (l_:List (Int×Int)) (r0_ r1_ r2_ r3_ r4_ r5_ r6_ r7_:Int) (Q0:Int→Prop) (Q1:Int→Int→Int→List (Int×Int)→Int→Int→Int→Int→Int→Int→Int→Int→Int→Prop) (Q2:Int→Int→Prop) (Q3:Int→Int→Int→List (Int×Int)→Int→Int→Int→Int→Int→Int→Int→Int→Int→Int→Prop) (Q4:Int→Prop) (Q5:Int→Int→Int→List (Int×Int)→Int→Int→Int→Int→Int→Int→Int→Int→Int→Prop) (Q6:Int→Int→Int→List (Int×Int)→Int→Int→Int→Int→Int→Int→Int→Int→Int→Prop) (Q7:Int→Prop) (Q8:Int→Int→Int→List (Int×Int)→Int→Int→Int→Int→Int→Int→Int→Int→Int→Prop) (R_:MS×Bool→Prop) (O_:Int→Int→Int→List (Int×Int)→Int→Int→Int→Int→Int→Int→Int→Int→Bool→Prop):Prop:=(Ba ((0:Int)≤3∧(3:Int)<8) (O_ (t_) (p_) (h_) (l_) (r0_) (r1_) (r2_) (c) (r4_) (r5_) (r6_) (r7_) (true)))
def Va (s:MS) (k a c e u v t_ p_ h_:Int) (l_:List (Int×Int)) (r0_ r1_ r2_ r3_ r4_ r5_ r6_ r7_:Int) (Q0:Int→Prop) (Q1:Int→Int→Int→List (Int×Int)→Int→Int→Int→Int→Int→Int→Int→Int→Int→Prop) (Q2:Int→Int→Prop) (Q3:Int→Int→Int→List (Int×Int)→Int→Int→Int→Int→Int→Int→Int→Int→Int→Int→Prop) (Q4:Int→Prop) (Q5:Int→Int→Int→List (Int×Int)→Int→Int→Int→Int→Int→Int→Int→Int→Int→Prop) (Q6:Int→Int→Int→List (Int×Int)→Int→Int→Int→Int→Int→Int→Int→Int→Int→Prop) (Q7:Int→Prop) (Q8:Int→Int→Int→List (Int×Int)→Int→Int→Int→Int→Int→Int→Int→Int→Int→Prop) (R_:MS×Bool→Prop) (O_:Int→Int→Int→List (Int×Int)→Int→Int→Int→Int→Int→Int→Int→Int→Bool→Prop):Prop:=(Ba ((0:Int)≤4∧(4:Int)<8) (O_ (t_) (p_) (h_) (l_) (r0_) (r1_) (r2_) (r3_) (c) (r5_) (r6_) (r7_) (true)))
def Vb (s:MS) (k a c e u v t_ p_ h_:Int) (l_:List (Int×Int)) (r0_ r1_ r2_ r3_ r4_ r5_ r6_ r7_:Int) (Q0:Int→Prop) (Q1:Int→Int→Int→List (Int×Int)→Int→Int→Int→Int→Int→Int→Int→Int→Int→Prop) (Q2:Int→Int→Prop) (Q3:Int→Int→Int→List (Int×Int)→Int→Int→Int→Int→Int→Int→Int→Int→Int→Int→Prop) (Q4:Int→Prop) (Q5:Int→Int→Int→List (Int×Int)→Int→Int→Int→Int→Int→Int→Int→Int→Int→Prop) (Q6:Int→Int→Int→List (Int×Int)→Int→Int→Int→Int→Int→Int→Int→Int→Int→Prop) (Q7:Int→Prop) (Q8:Int→Int→Int→List (Int×Int)→Int→Int→Int→Int→Int→Int→Int→Int→Int→Prop) (R_:MS×Bool→Prop) (O_:Int→Int→Int→List (Int×Int)→Int→Int→Int→Int→Int→Int→Int→Int→Bool→Prop):Prop:=(Ba ((0:Int)≤5∧(5:Int)<8) (O_ (t_) (p_) (h_) (l_) (r0_) (r1_) (r2_) (r3_) (r4_) (c) (r6_) (r7_) (true)))
def Vd (s:MS) (k a c e u v t_ p_ h_:Int) (l_:List (Int×Int)) (r0_ r1_ r2_ r3_ r4_ r5_ r6_ r7_:Int) (Q0:Int→Prop) (Q1:Int→Int→Int→List (Int×Int)→Int→Int→Int→Int→Int→Int→Int→Int→Int→Prop) (Q2:Int→Int→Prop) (Q3:Int→Int→Int→List (Int×Int)→Int→Int→Int→Int→Int→Int→Int→Int→Int→Int→Prop) (Q4:Int→Prop) (Q5:Int→Int→Int→List (Int×Int)→Int→Int→Int→Int→Int→Int→Int→Int→Int→Prop) (Q6:Int→Int→Int→List (Int×Int)→Int→Int→Int→Int→Int→Int→Int→Int→Int→Prop) (Q7:Int→Prop) (Q8:Int→Int→Int→List (Int×Int)→Int→Int→Int→Int→Int→Int→Int→Int→Int→Prop) (R_:MS×Bool→Prop) (O_:Int→Int→Int→List (Int×Int)→Int→Int→Int→Int→Int→Int→Int→Int→Bool→Prop):Prop:=(Ba ((0:Int)≤6∧(6:Int)<8) (O_ (t_) (p_) (h_) (l_) (r0_) (r1_) (r2_) (r3_) (r4_) (r5_) (c) (r7_) (true)))
def Ve (s:MS) (k a c e u v t_ p_ h_:Int) (l_:List (Int×Int)) (r0_ r1_ r2_ r3_ r4_ r5_ r6_ r7_:Int) (Q0:Int→Prop) (Q1:Int→Int→Int→List (Int×Int)→Int→Int→Int→Int→Int→Int→Int→Int→Int→Prop) (Q2:Int→Int→Prop) (Q3:Int→Int→Int→List (Int×Int)→Int→Int→Int→Int→Int→Int→Int→Int→Int→Int→Prop) (Q4:Int→Prop) (Q5:Int→Int→Int→List (Int×Int)→Int→Int→Int→Int→Int→Int→Int→Int→Int→Prop) (Q6:Int→Int→Int→List (Int×Int)→Int→Int→Int→Int→Int→Int→Int→Int→Int→Prop) (Q7:Int→Prop) (Q8:Int→Int→Int→List (Int×Int)→Int→Int→Int→Int→Int→Int→Int→Int→Int→Prop) (R_:MS×Bool→Prop) (O_:Int→Int→Int→List (Int×Int)→Int→Int→Int→Int→Int→Int→Int→Int→Bool→Prop):Prop:=(Ba ((0:Int)≤7∧(7:Int)<8) (O_ (t_) (p_) (h_) (l_) (r0_) (r1_) (r2_) (r3_) (r4_) (r5_) (r6_) (c) (true)))
def AQ (s:MS) (k a c e u v t_ p_ h_:Int) (l_:List (Int×Int)) (r0_ r1_ r2_ r3_ r4_ r5_ r6_ r7_ a_:Int):Prop:=s=⟨t_,p_,h_,l_,r0_,r1_,r2_,r3_,r4_,r5_,r6_,r7_⟩∧a_=a∧k=5∧0≤a∧a<8∧Bo s k a c e u v=true∧e=0
theorem AeU (s:MS) (k a c e u v:Int) (hp0:BZ s.l):Aeh s k a c e u v (λk_'=>Bq s k a c e u v k_') (λt_' p_' h_' l_' r0_' r1_' r2_' r3_' r4_' r5_' r6_' r7_' k_'=>Bf s k a c e u v t_' p_' h_' l_' r0_' r1_' r2_' r3_' r4_' r5_' r6_' r7_' k_') (λy_' z_'=>Bv s k a c e u v y_' z_') (λt_' p_' h_' l_' r0_' r1_' r2_' r3_' r4_' r5_' r6_' r7_' y_' z_'=>Bg s k a c e u v t_' p_' h_' l_' r0_' r1_' r2_' r3_' r4_' r5_' r6_' r7_' y_' z_') (λk_'=>Bz s k a c e u v k_') (λt_' p_' h_' l_' r0_' r1_' r2_' r3_' r4_' r5_' r6_' r7_' k_'=>Bh s k a c e u v t_' p_' h_' l_' r0_' r1_' r2_' r3_' r4_' r5_' r6_' r7_' k_') (λt_' p_' h_' l_' r0_' r1_' r2_' r3_' r4_' r5_' r6_' r7_' a_'=>AU s k a c e u v t_' p_' h_' l_' r0_' r1_' r2_' r3_' r4_' r5_' r6_' r7_' a_') (λa_'=>BA s k a c e u v a_') (λt_' p_' h_' l_' r0_' r1_' r2_' r3_' r4_' r5_' r6_' r7_' a_'=>AQ s k a c e u v t_' p_' h_' l_' r0_' r1_' r2_' r3_' r4_' r5_' r6_' r7_' a_') (λr__=>r__=(Ae s k a c e u v)) (λt_ p_ h_ l_ x0_ x1_ x2_ x3_ x4_ x5_ x6_ x7_ r_=>CB ⟨t_,p_,h_,l_,x0_,x1_,x2_,x3_,x4_,x5_,x6_,x7_⟩ ((Ae s k a c e u v).1)∧r_=(Ae s k a c e u v).2):=by
 unfold Aeh
 try unfold Bq
 try unfold Bf
 try unfold Bv
 try unfold Bg
 try unfold Bz
 try unfold Bh
 try unfold AU
 try unfold BA
 try unfold AQ
 rintro r2 rfl
 refine ⟨hp0, λ_=>⟨λh=>?_, λh=>⟨λhe=>?_, λhe=>?_⟩⟩⟩
 ·show _=Ae s k a c e u v
  unfold Ae;rw [h];rfl
 ·show _=Ae s k a c e u v
  unfold Ae;rw [h,he];rfl
 have hA:Bo s k a c e u v=true:=by simpa using h
 have h0:e=0:=by simpa using he
 subst h0
 have key:Ae s k a c 0 u v=(FT s k a c u v,true):=by unfold Ae;rw [hA];rfl
 refine ⟨λh1=>⟨by simpa using h1,rfl,hA,rfl⟩, λh1=>⟨λh2=>?_, λh2=>⟨λh3=>?_, λh3=>⟨λh4=>⟨by simpa using h4,rfl,hA,rfl⟩, λh4=>⟨λh5=>?_, λh5=>?_⟩⟩⟩⟩⟩
 ·rintro r8 rfl
  exact ⟨hp0, λ_=>⟨by simpa using h2,rfl,rfl,hA,rfl⟩⟩
 ·rintro r9 rfl
  refine ⟨hp0, λ_=>?_⟩
  show _=Ae s k a c 0 u v
  rw [key];unfold FT;rw [h1,h2,h3];rfl
 ·have hk:k=5:=by simpa using h5
  subst hk
  have h8:=al5 hA
  exact ⟨rfl,rfl,h8.1,h8.2,hA,rfl⟩
 ·show _=Ae s k a c 0 u v
  rw [key];unfold FT;rw [h1,h2,h3,h4,h5];rfl
theorem AeV (s:MS) (k a c e u v:Int) (hp0:BZ s.l) (k_ t_ p_ h_:Int) (l_:List (Int×Int)) (x0_ x1_ x2_ x3_ x4_ x5_ x6_ x7_:Int) (hI:Bq s k a c e u v k_) (hx:CB ⟨t_,p_,h_,l_,x0_,x1_,x2_,x3_,x4_,x5_,x6_,x7_⟩ (s)):AaC s k a c e u v k_ t_ p_ h_ l_ x0_ x1_ x2_ x3_ x4_ x5_ x6_ x7_ (λt_' p_' h_' l_' r0_' r1_' r2_' r3_' r4_' r5_' r6_' r7_' k_'=>Bf s k a c e u v t_' p_' h_' l_' r0_' r1_' r2_' r3_' r4_' r5_' r6_' r7_' k_'∧lx (10,0,0) (11,0,0)):=by
 unfold Bq at hI
 unfold AaC
 try unfold Bq
 try unfold Bf
 try unfold Bv
 try unfold Bg
 try unfold Bz
 try unfold Bh
 try unfold AU
 try unfold BA
 try unfold AQ
 exact ⟨⟨hx.symm,hI⟩,BU⟩
theorem AeW (s:MS) (k a c e u v:Int) (hp0:BZ s.l) (t_ p_ h_:Int) (l_:List (Int×Int)) (r0_ r1_ r2_ r3_ r4_ r5_ r6_ r7_ k_:Int) (hI:Bf s k a c e u v t_ p_ h_ l_ r0_ r1_ r2_ r3_ r4_ r5_ r6_ r7_ k_):AaD s k a c e u v t_ p_ h_ l_ r0_ r1_ r2_ r3_ r4_ r5_ r6_ r7_ k_ (λk_'=>Bq s k a c e u v k_'∧lx (11,0,0) (10,0,0)) (λt_' p_' h_' l_' r0_' r1_' r2_' r3_' r4_' r5_' r6_' r7_' k_'=>Bf s k a c e u v t_' p_' h_' l_' r0_' r1_' r2_' r3_' r4_' r5_' r6_' r7_' k_'∧lx (10,0,0) (10,0,0)) (λy_' z_'=>Bv s k a c e u v y_' z_'∧lx (11,0,0) (10,0,0)) (λt_' p_' h_' l_' r0_' r1_' r2_' r3_' r4_' r5_' r6_' r7_' y_' z_'=>Bg s k a c e u v t_' p_' h_' l_' r0_' r1_' r2_' r3_' r4_' r5_' r6_' r7_' y_' z_'∧lx (10,0,0) (10,0,0)) (λk_'=>Bz s k a c e u v k_'∧lx (11,0,0) (10,0,0)) (λt_' p_' h_' l_' r0_' r1_' r2_' r3_' r4_' r5_' r6_' r7_' k_'=>Bh s k a c e u v t_' p_' h_' l_' r0_' r1_' r2_' r3_' r4_' r5_' r6_' r7_' k_'∧lx (10,0,0) (10,0,0)) (λt_' p_' h_' l_' r0_' r1_' r2_' r3_' r4_' r5_' r6_' r7_' a_'=>AU s k a c e u v t_' p_' h_' l_' r0_' r1_' r2_' r3_' r4_' r5_' r6_' r7_' a_'∧lx (5,0,0) (10,0,0)) (λa_'=>BA s k a c e u v a_'∧lx (11,0,0) (10,0,0)) (λt_' p_' h_' l_' r0_' r1_' r2_' r3_' r4_' r5_' r6_' r7_' a_'=>AQ s k a c e u v t_' p_' h_' l_' r0_' r1_' r2_' r3_' r4_' r5_' r6_' r7_' a_'∧lx (10,0,0) (10,0,0)) (λr__=>r__=(Ae s k a c e u v)) (λt_ p_ h_ l_ x0_ x1_ x2_ x3_ x4_ x5_ x6_ x7_ r_=>CB ⟨t_,p_,h_,l_,x0_,x1_,x2_,x3_,x4_,x5_,x6_,x7_⟩ ((Ae s k a c e u v).1)∧r_=(Ae s k a c e u v).2):=by
 unfold Bf at hI
 unfold AaD
 try unfold Bq
 try unfold Bf
 try unfold Bv
 try unfold Bg
 try unfold Bz
 try unfold Bh
 try unfold AU
 try unfold BA
 try unfold AQ
 obtain ⟨rfl,rfl,_,hA,rfl⟩:=hI
 have key:Ae ⟨t_,p_,h_,l_,r0_,r1_,r2_,r3_,r4_,r5_,r6_,r7_⟩ 1 a c 0 u v=(FT ⟨t_,p_,h_,l_,r0_,r1_,r2_,r3_,r4_,r5_,r6_,r7_⟩ 1 a c u v,true):=by unfold Ae;rw [hA];rfl
 refine ⟨?_,?_⟩
 ·show _=(Ae ⟨t_,p_,h_,l_,r0_,r1_,r2_,r3_,r4_,r5_,r6_,r7_⟩ 1 a c 0 u v).1
  rw [key];rfl
 ·show _=(Ae ⟨t_,p_,h_,l_,r0_,r1_,r2_,r3_,r4_,r5_,r6_,r7_⟩ 1 a c 0 u v).2
  rw [key]
theorem AeX (s:MS) (k a c e u v:Int) (hp0:BZ s.l) (y_ z_ t_ p_ h_:Int) (l_:List (Int×Int)) (x0_ x1_ x2_ x3_ x4_ x5_ x6_ x7_:Int) (hI:Bv s k a c e u v y_ z_) (hx:CB ⟨t_,p_,h_,l_,x0_,x1_,x2_,x3_,x4_,x5_,x6_,x7_⟩ (s)):AaE s k a c e u v y_ z_ t_ p_ h_ l_ x0_ x1_ x2_ x3_ x4_ x5_ x6_ x7_ (λt_' p_' h_' l_' r0_' r1_' r2_' r3_' r4_' r5_' r6_' r7_' y_' z_'=>Bg s k a c e u v t_' p_' h_' l_' r0_' r1_' r2_' r3_' r4_' r5_' r6_' r7_' y_' z_'∧lx (10,0,0) (11,0,0)):=by
 unfold Bv at hI
 unfold AaE
 try unfold Bq
 try unfold Bf
 try unfold Bv
 try unfold Bg
 try unfold Bz
 try unfold Bh
 try unfold AU
 try unfold BA
 try unfold AQ
 exact ⟨⟨hx.symm,hI⟩,BU⟩
theorem AeY (s:MS) (k a c e u v:Int) (hp0:BZ s.l) (t_ p_ h_:Int) (l_:List (Int×Int)) (r0_ r1_ r2_ r3_ r4_ r5_ r6_ r7_ y_ z_:Int) (hI:Bg s k a c e u v t_ p_ h_ l_ r0_ r1_ r2_ r3_ r4_ r5_ r6_ r7_ y_ z_):AaF s k a c e u v t_ p_ h_ l_ r0_ r1_ r2_ r3_ r4_ r5_ r6_ r7_ y_ z_ (λk_'=>Bq s k a c e u v k_'∧lx (11,0,0) (10,0,0)) (λt_' p_' h_' l_' r0_' r1_' r2_' r3_' r4_' r5_' r6_' r7_' k_'=>Bf s k a c e u v t_' p_' h_' l_' r0_' r1_' r2_' r3_' r4_' r5_' r6_' r7_' k_'∧lx (10,0,0) (10,0,0)) (λy_' z_'=>Bv s k a c e u v y_' z_'∧lx (11,0,0) (10,0,0)) (λt_' p_' h_' l_' r0_' r1_' r2_' r3_' r4_' r5_' r6_' r7_' y_' z_'=>Bg s k a c e u v t_' p_' h_' l_' r0_' r1_' r2_' r3_' r4_' r5_' r6_' r7_' y_' z_'∧lx (10,0,0) (10,0,0)) (λk_'=>Bz s k a c e u v k_'∧lx (11,0,0) (10,0,0)) (λt_' p_' h_' l_' r0_' r1_' r2_' r3_' r4_' r5_' r6_' r7_' k_'=>Bh s k a c e u v t_' p_' h_' l_' r0_' r1_' r2_' r3_' r4_' r5_' r6_' r7_' k_'∧lx (10,0,0) (10,0,0)) (λt_' p_' h_' l_' r0_' r1_' r2_' r3_' r4_' r5_' r6_' r7_' a_'=>AU s k a c e u v t_' p_' h_' l_' r0_' r1_' r2_' r3_' r4_' r5_' r6_' r7_' a_'∧lx (5,0,0) (10,0,0)) (λa_'=>BA s k a c e u v a_'∧lx (11,0,0) (10,0,0)) (λt_' p_' h_' l_' r0_' r1_' r2_' r3_' r4_' r5_' r6_' r7_' a_'=>AQ s k a c e u v t_' p_' h_' l_' r0_' r1_' r2_' r3_' r4_' r5_' r6_' r7_' a_'∧lx (10,0,0) (10,0,0)) (λr__=>r__=(Ae s k a c e u v)) (λt_ p_ h_ l_ x0_ x1_ x2_ x3_ x4_ x5_ x6_ x7_ r_=>CB ⟨t_,p_,h_,l_,x0_,x1_,x2_,x3_,x4_,x5_,x6_,x7_⟩ ((Ae s k a c e u v).1)∧r_=(Ae s k a c e u v).2):=by
 unfold Bg at hI
 unfold AaF
 try unfold Bq
 try unfold Bf
 try unfold Bv
 try unfold Bg
 try unfold Bz
 try unfold Bh
 try unfold AU
 try unfold BA
 try unfold AQ
 obtain ⟨rfl,rfl,rfl,rfl,hA,rfl⟩:=hI
 have key:Ae ⟨t_,p_,h_,l_,r0_,r1_,r2_,r3_,r4_,r5_,r6_,r7_⟩ 2 a c 0 u v=(FT ⟨t_,p_,h_,l_,r0_,r1_,r2_,r3_,r4_,r5_,r6_,r7_⟩ 2 a c u v,true):=by unfold Ae;rw [hA];rfl
 refine ⟨?_,?_⟩
 ·show _=(Ae ⟨t_,p_,h_,l_,r0_,r1_,r2_,r3_,r4_,r5_,r6_,r7_⟩ 2 a c 0 u v).1
  rw [key];rfl
 ·show _=(Ae ⟨t_,p_,h_,l_,r0_,r1_,r2_,r3_,r4_,r5_,r6_,r7_⟩ 2 a c 0 u v).2
  rw [key]
theorem AeZ (s:MS) (k a c e u v:Int) (hp0:BZ s.l) (k_ t_ p_ h_:Int) (l_:List (Int×Int)) (x0_ x1_ x2_ x3_ x4_ x5_ x6_ x7_:Int) (hI:Bz s k a c e u v k_) (hx:CB ⟨t_,p_,h_,l_,x0_,x1_,x2_,x3_,x4_,x5_,x6_,x7_⟩ (s)):AaG s k a c e u v k_ t_ p_ h_ l_ x0_ x1_ x2_ x3_ x4_ x5_ x6_ x7_ (λt_' p_' h_' l_' r0_' r1_' r2_' r3_' r4_' r5_' r6_' r7_' k_'=>Bh s k a c e u v t_' p_' h_' l_' r0_' r1_' r2_' r3_' r4_' r5_' r6_' r7_' k_'∧lx (10,0,0) (11,0,0)):=by
 unfold Bz at hI
 unfold AaG
 try unfold Bq
 try unfold Bf
 try unfold Bv
 try unfold Bg
 try unfold Bz
 try unfold Bh
 try unfold AU
 try unfold BA
 try unfold AQ
 exact ⟨⟨hx.symm,hI⟩,BU⟩
theorem Afa (s:MS) (k a c e u v:Int) (hp0:BZ s.l) (t_ p_ h_:Int) (l_:List (Int×Int)) (r0_ r1_ r2_ r3_ r4_ r5_ r6_ r7_ k_:Int) (hI:Bh s k a c e u v t_ p_ h_ l_ r0_ r1_ r2_ r3_ r4_ r5_ r6_ r7_ k_):AaH s k a c e u v t_ p_ h_ l_ r0_ r1_ r2_ r3_ r4_ r5_ r6_ r7_ k_ (λk_'=>Bq s k a c e u v k_'∧lx (11,0,0) (10,0,0)) (λt_' p_' h_' l_' r0_' r1_' r2_' r3_' r4_' r5_' r6_' r7_' k_'=>Bf s k a c e u v t_' p_' h_' l_' r0_' r1_' r2_' r3_' r4_' r5_' r6_' r7_' k_'∧lx (10,0,0) (10,0,0)) (λy_' z_'=>Bv s k a c e u v y_' z_'∧lx (11,0,0) (10,0,0)) (λt_' p_' h_' l_' r0_' r1_' r2_' r3_' r4_' r5_' r6_' r7_' y_' z_'=>Bg s k a c e u v t_' p_' h_' l_' r0_' r1_' r2_' r3_' r4_' r5_' r6_' r7_' y_' z_'∧lx (10,0,0) (10,0,0)) (λk_'=>Bz s k a c e u v k_'∧lx (11,0,0) (10,0,0)) (λt_' p_' h_' l_' r0_' r1_' r2_' r3_' r4_' r5_' r6_' r7_' k_'=>Bh s k a c e u v t_' p_' h_' l_' r0_' r1_' r2_' r3_' r4_' r5_' r6_' r7_' k_'∧lx (10,0,0) (10,0,0)) (λt_' p_' h_' l_' r0_' r1_' r2_' r3_' r4_' r5_' r6_' r7_' a_'=>AU s k a c e u v t_' p_' h_' l_' r0_' r1_' r2_' r3_' r4_' r5_' r6_' r7_' a_'∧lx (5,0,0) (10,0,0)) (λa_'=>BA s k a c e u v a_'∧lx (11,0,0) (10,0,0)) (λt_' p_' h_' l_' r0_' r1_' r2_' r3_' r4_' r5_' r6_' r7_' a_'=>AQ s k a c e u v t_' p_' h_' l_' r0_' r1_' r2_' r3_' r4_' r5_' r6_' r7_' a_'∧lx (10,0,0) (10,0,0)) (λr__=>r__=(Ae s k a c e u v)) (λt_ p_ h_ l_ x0_ x1_ x2_ x3_ x4_ x5_ x6_ x7_ r_=>CB ⟨t_,p_,h_,l_,x0_,x1_,x2_,x3_,x4_,x5_,x6_,x7_⟩ ((Ae s k a c e u v).1)∧r_=(Ae s k a c e u v).2):=by
 unfold Bh at hI
 unfold AaH
 try unfold Bq
 try unfold Bf
 try unfold Bv
 try unfold Bg
 try unfold Bz
 try unfold Bh
 try unfold AU
 try unfold BA
 try unfold AQ
 obtain ⟨rfl,rfl,_,hA,rfl⟩:=hI
 have h8:=al4 hA
 exact ⟨⟨rfl,rfl,hA,rfl,h8.1,h8.2,rfl⟩,BU⟩
theorem AiP (s:MS) (k a c e u v:Int) (hp0:BZ s.l) (t_ p_ h_:Int) (l_:List (Int×Int)) (r0_ r1_ r2_ r3_ r4_ r5_ r6_ r7_ a_:Int) (hI:AU s k a c e u v t_ p_ h_ l_ r0_ r1_ r2_ r3_ r4_ r5_ r6_ r7_ a_):a_=0∨a_=1∨a_=2∨a_=3∨a_=4∨a_=5∨a_=6∨a_=7:=by
 unfold AU at hI
 omega
theorem AaJ (s:MS) (k a c e u v:Int) (hp0:BZ s.l) (t_ p_ h_:Int) (l_:List (Int×Int)) (r0_ r1_ r2_ r3_ r4_ r5_ r6_ r7_:Int) (hI:AU s k a c e u v t_ p_ h_ l_ r0_ r1_ r2_ r3_ r4_ r5_ r6_ r7_ (0:Int)):UM s k a c e u v t_ p_ h_ l_ r0_ r1_ r2_ r3_ r4_ r5_ r6_ r7_ (λk_'=>Bq s k a c e u v k_'∧lx (11,0,0) (5,0,0)) (λt_' p_' h_' l_' r0_' r1_' r2_' r3_' r4_' r5_' r6_' r7_' k_'=>Bf s k a c e u v t_' p_' h_' l_' r0_' r1_' r2_' r3_' r4_' r5_' r6_' r7_' k_'∧lx (10,0,0) (5,0,0)) (λy_' z_'=>Bv s k a c e u v y_' z_'∧lx (11,0,0) (5,0,0)) (λt_' p_' h_' l_' r0_' r1_' r2_' r3_' r4_' r5_' r6_' r7_' y_' z_'=>Bg s k a c e u v t_' p_' h_' l_' r0_' r1_' r2_' r3_' r4_' r5_' r6_' r7_' y_' z_'∧lx (10,0,0) (5,0,0)) (λk_'=>Bz s k a c e u v k_'∧lx (11,0,0) (5,0,0)) (λt_' p_' h_' l_' r0_' r1_' r2_' r3_' r4_' r5_' r6_' r7_' k_'=>Bh s k a c e u v t_' p_' h_' l_' r0_' r1_' r2_' r3_' r4_' r5_' r6_' r7_' k_'∧lx (10,0,0) (5,0,0)) (λt_' p_' h_' l_' r0_' r1_' r2_' r3_' r4_' r5_' r6_' r7_' a_'=>AU s k a c e u v t_' p_' h_' l_' r0_' r1_' r2_' r3_' r4_' r5_' r6_' r7_' a_'∧lx (5,0,0) (5,0,0)) (λa_'=>BA s k a c e u v a_'∧lx (11,0,0) (5,0,0)) (λt_' p_' h_' l_' r0_' r1_' r2_' r3_' r4_' r5_' r6_' r7_' a_'=>AQ s k a c e u v t_' p_' h_' l_' r0_' r1_' r2_' r3_' r4_' r5_' r6_' r7_' a_'∧lx (10,0,0) (5,0,0)) (λr__=>r__=(Ae s k a c e u v)) (λt_ p_ h_ l_ x0_ x1_ x2_ x3_ x4_ x5_ x6_ x7_ r_=>CB ⟨t_,p_,h_,l_,x0_,x1_,x2_,x3_,x4_,x5_,x6_,x7_⟩ ((Ae s k a c e u v).1)∧r_=(Ae s k a c e u v).2):=by
 unfold AU at hI
 unfold UM
 try unfold Bq
 try unfold Bf
 try unfold Bv
 try unfold Bg
 try unfold Bz
 try unfold Bh
 try unfold AU
 try unfold BA
 try unfold AQ
 obtain ⟨rfl,rfl,hA,rfl,_,_,hE⟩:=hI
 injection hE with e1 e2 e3 e4 f0 f1 f2 f3 f4 f5 f6 f7
 subst e1 e2 e3 e4 f0 f1 f2 f3 f4 f5 f6 f7
 refine ⟨by decide, λ_=>?_⟩
 have key:Ae s 4 0 c 0 u v=(FT s 4 0 c u v,true):=by unfold Ae;rw [hA];rfl
 refine ⟨?_,?_⟩
 ·show _=(Ae s 4 0 c 0 u v).1
  rw [key];rfl
 ·show _=(Ae s 4 0 c 0 u v).2
  rw [key]
theorem AaK (s:MS) (k a c e u v:Int) (hp0:BZ s.l) (t_ p_ h_:Int) (l_:List (Int×Int)) (r0_ r1_ r2_ r3_ r4_ r5_ r6_ r7_:Int) (hI:AU s k a c e u v t_ p_ h_ l_ r0_ r1_ r2_ r3_ r4_ r5_ r6_ r7_ (1:Int)):UN s k a c e u v t_ p_ h_ l_ r0_ r1_ r2_ r3_ r4_ r5_ r6_ r7_ (λk_'=>Bq s k a c e u v k_'∧lx (11,0,0) (5,0,0)) (λt_' p_' h_' l_' r0_' r1_' r2_' r3_' r4_' r5_' r6_' r7_' k_'=>Bf s k a c e u v t_' p_' h_' l_' r0_' r1_' r2_' r3_' r4_' r5_' r6_' r7_' k_'∧lx (10,0,0) (5,0,0)) (λy_' z_'=>Bv s k a c e u v y_' z_'∧lx (11,0,0) (5,0,0)) (λt_' p_' h_' l_' r0_' r1_' r2_' r3_' r4_' r5_' r6_' r7_' y_' z_'=>Bg s k a c e u v t_' p_' h_' l_' r0_' r1_' r2_' r3_' r4_' r5_' r6_' r7_' y_' z_'∧lx (10,0,0) (5,0,0)) (λk_'=>Bz s k a c e u v k_'∧lx (11,0,0) (5,0,0)) (λt_' p_' h_' l_' r0_' r1_' r2_' r3_' r4_' r5_' r6_' r7_' k_'=>Bh s k a c e u v t_' p_' h_' l_' r0_' r1_' r2_' r3_' r4_' r5_' r6_' r7_' k_'∧lx (10,0,0) (5,0,0)) (λt_' p_' h_' l_' r0_' r1_' r2_' r3_' r4_' r5_' r6_' r7_' a_'=>AU s k a c e u v t_' p_' h_' l_' r0_' r1_' r2_' r3_' r4_' r5_' r6_' r7_' a_'∧lx (5,0,0) (5,0,0)) (λa_'=>BA s k a c e u v a_'∧lx (11,0,0) (5,0,0)) (λt_' p_' h_' l_' r0_' r1_' r2_' r3_' r4_' r5_' r6_' r7_' a_'=>AQ s k a c e u v t_' p_' h_' l_' r0_' r1_' r2_' r3_' r4_' r5_' r6_' r7_' a_'∧lx (10,0,0) (5,0,0)) (λr__=>r__=(Ae s k a c e u v)) (λt_ p_ h_ l_ x0_ x1_ x2_ x3_ x4_ x5_ x6_ x7_ r_=>CB ⟨t_,p_,h_,l_,x0_,x1_,x2_,x3_,x4_,x5_,x6_,x7_⟩ ((Ae s k a c e u v).1)∧r_=(Ae s k a c e u v).2):=by
 unfold AU at hI
 unfold UN
 try unfold Bq
 try unfold Bf
 try unfold Bv
 try unfold Bg
 try unfold Bz
 try unfold Bh
 try unfold AU
 try unfold BA
 try unfold AQ
 obtain ⟨rfl,rfl,hA,rfl,_,_,hE⟩:=hI
 injection hE with e1 e2 e3 e4 f0 f1 f2 f3 f4 f5 f6 f7
 subst e1 e2 e3 e4 f0 f1 f2 f3 f4 f5 f6 f7
 refine ⟨by decide, λ_=>?_⟩
 have key:Ae s 4 1 c 0 u v=(FT s 4 1 c u v,true):=by unfold Ae;rw [hA];rfl
 refine ⟨?_,?_⟩
 ·show _=(Ae s 4 1 c 0 u v).1
  rw [key];rfl
 ·show _=(Ae s 4 1 c 0 u v).2
  rw [key]
theorem AaL (s:MS) (k a c e u v:Int) (hp0:BZ s.l) (t_ p_ h_:Int) (l_:List (Int×Int)) (r0_ r1_ r2_ r3_ r4_ r5_ r6_ r7_:Int) (hI:AU s k a c e u v t_ p_ h_ l_ r0_ r1_ r2_ r3_ r4_ r5_ r6_ r7_ (2:Int)):UO s k a c e u v t_ p_ h_ l_ r0_ r1_ r2_ r3_ r4_ r5_ r6_ r7_ (λk_'=>Bq s k a c e u v k_'∧lx (11,0,0) (5,0,0)) (λt_' p_' h_' l_' r0_' r1_' r2_' r3_' r4_' r5_' r6_' r7_' k_'=>Bf s k a c e u v t_' p_' h_' l_' r0_' r1_' r2_' r3_' r4_' r5_' r6_' r7_' k_'∧lx (10,0,0) (5,0,0)) (λy_' z_'=>Bv s k a c e u v y_' z_'∧lx (11,0,0) (5,0,0)) (λt_' p_' h_' l_' r0_' r1_' r2_' r3_' r4_' r5_' r6_' r7_' y_' z_'=>Bg s k a c e u v t_' p_' h_' l_' r0_' r1_' r2_' r3_' r4_' r5_' r6_' r7_' y_' z_'∧lx (10,0,0) (5,0,0)) (λk_'=>Bz s k a c e u v k_'∧lx (11,0,0) (5,0,0)) (λt_' p_' h_' l_' r0_' r1_' r2_' r3_' r4_' r5_' r6_' r7_' k_'=>Bh s k a c e u v t_' p_' h_' l_' r0_' r1_' r2_' r3_' r4_' r5_' r6_' r7_' k_'∧lx (10,0,0) (5,0,0)) (λt_' p_' h_' l_' r0_' r1_' r2_' r3_' r4_' r5_' r6_' r7_' a_'=>AU s k a c e u v t_' p_' h_' l_' r0_' r1_' r2_' r3_' r4_' r5_' r6_' r7_' a_'∧lx (5,0,0) (5,0,0)) (λa_'=>BA s k a c e u v a_'∧lx (11,0,0) (5,0,0)) (λt_' p_' h_' l_' r0_' r1_' r2_' r3_' r4_' r5_' r6_' r7_' a_'=>AQ s k a c e u v t_' p_' h_' l_' r0_' r1_' r2_' r3_' r4_' r5_' r6_' r7_' a_'∧lx (10,0,0) (5,0,0)) (λr__=>r__=(Ae s k a c e u v)) (λt_ p_ h_ l_ x0_ x1_ x2_ x3_ x4_ x5_ x6_ x7_ r_=>CB ⟨t_,p_,h_,l_,x0_,x1_,x2_,x3_,x4_,x5_,x6_,x7_⟩ ((Ae s k a c e u v).1)∧r_=(Ae s k a c e u v).2):=by
 unfold AU at hI
 unfold UO
 try unfold Bq
 try unfold Bf
 try unfold Bv
 try unfold Bg
 try unfold Bz
 try unfold Bh
 try unfold AU
 try unfold BA
 try unfold AQ
 obtain ⟨rfl,rfl,hA,rfl,_,_,hE⟩:=hI
 injection hE with e1 e2 e3 e4 f0 f1 f2 f3 f4 f5 f6 f7
 subst e1 e2 e3 e4 f0 f1 f2 f3 f4 f5 f6 f7
 refine ⟨by decide, λ_=>?_⟩
 have key:Ae s 4 2 c 0 u v=(FT s 4 2 c u v,true):=by unfold Ae;rw [hA];rfl
 refine ⟨?_,?_⟩
 ·show _=(Ae s 4 2 c 0 u v).1
  rw [key];rfl
 ·show _=(Ae s 4 2 c 0 u v).2
  rw [key]
theorem AaM (s:MS) (k a c e u v:Int) (hp0:BZ s.l) (t_ p_ h_:Int) (l_:List (Int×Int)) (r0_ r1_ r2_ r3_ r4_ r5_ r6_ r7_:Int) (hI:AU s k a c e u v t_ p_ h_ l_ r0_ r1_ r2_ r3_ r4_ r5_ r6_ r7_ (3:Int)):UQ s k a c e u v t_ p_ h_ l_ r0_ r1_ r2_ r3_ r4_ r5_ r6_ r7_ (λk_'=>Bq s k a c e u v k_'∧lx (11,0,0) (5,0,0)) (λt_' p_' h_' l_' r0_' r1_' r2_' r3_' r4_' r5_' r6_' r7_' k_'=>Bf s k a c e u v t_' p_' h_' l_' r0_' r1_' r2_' r3_' r4_' r5_' r6_' r7_' k_'∧lx (10,0,0) (5,0,0)) (λy_' z_'=>Bv s k a c e u v y_' z_'∧lx (11,0,0) (5,0,0)) (λt_' p_' h_' l_' r0_' r1_' r2_' r3_' r4_' r5_' r6_' r7_' y_' z_'=>Bg s k a c e u v t_' p_' h_' l_' r0_' r1_' r2_' r3_' r4_' r5_' r6_' r7_' y_' z_'∧lx (10,0,0) (5,0,0)) (λk_'=>Bz s k a c e u v k_'∧lx (11,0,0) (5,0,0)) (λt_' p_' h_' l_' r0_' r1_' r2_' r3_' r4_' r5_' r6_' r7_' k_'=>Bh s k a c e u v t_' p_' h_' l_' r0_' r1_' r2_' r3_' r4_' r5_' r6_' r7_' k_'∧lx (10,0,0) (5,0,0)) (λt_' p_' h_' l_' r0_' r1_' r2_' r3_' r4_' r5_' r6_' r7_' a_'=>AU s k a c e u v t_' p_' h_' l_' r0_' r1_' r2_' r3_' r4_' r5_' r6_' r7_' a_'∧lx (5,0,0) (5,0,0)) (λa_'=>BA s k a c e u v a_'∧lx (11,0,0) (5,0,0)) (λt_' p_' h_' l_' r0_' r1_' r2_' r3_' r4_' r5_' r6_' r7_' a_'=>AQ s k a c e u v t_' p_' h_' l_' r0_' r1_' r2_' r3_' r4_' r5_' r6_' r7_' a_'∧lx (10,0,0) (5,0,0)) (λr__=>r__=(Ae s k a c e u v)) (λt_ p_ h_ l_ x0_ x1_ x2_ x3_ x4_ x5_ x6_ x7_ r_=>CB ⟨t_,p_,h_,l_,x0_,x1_,x2_,x3_,x4_,x5_,x6_,x7_⟩ ((Ae s k a c e u v).1)∧r_=(Ae s k a c e u v).2):=by
 unfold AU at hI
 unfold UQ
 try unfold Bq
 try unfold Bf
 try unfold Bv
 try unfold Bg
 try unfold Bz
 try unfold Bh
 try unfold AU
 try unfold BA
 try unfold AQ
 obtain ⟨rfl,rfl,hA,rfl,_,_,hE⟩:=hI
 injection hE with e1 e2 e3 e4 f0 f1 f2 f3 f4 f5 f6 f7
 subst e1 e2 e3 e4 f0 f1 f2 f3 f4 f5 f6 f7
 refine ⟨by decide, λ_=>?_⟩
 have key:Ae s 4 3 c 0 u v=(FT s 4 3 c u v,true):=by unfold Ae;rw [hA];rfl
 refine ⟨?_,?_⟩
 ·show _=(Ae s 4 3 c 0 u v).1
  rw [key];rfl
 ·show _=(Ae s 4 3 c 0 u v).2
  rw [key]
theorem AaN (s:MS) (k a c e u v:Int) (hp0:BZ s.l) (t_ p_ h_:Int) (l_:List (Int×Int)) (r0_ r1_ r2_ r3_ r4_ r5_ r6_ r7_:Int) (hI:AU s k a c e u v t_ p_ h_ l_ r0_ r1_ r2_ r3_ r4_ r5_ r6_ r7_ (4:Int)):UR s k a c e u v t_ p_ h_ l_ r0_ r1_ r2_ r3_ r4_ r5_ r6_ r7_ (λk_'=>Bq s k a c e u v k_'∧lx (11,0,0) (5,0,0)) (λt_' p_' h_' l_' r0_' r1_' r2_' r3_' r4_' r5_' r6_' r7_' k_'=>Bf s k a c e u v t_' p_' h_' l_' r0_' r1_' r2_' r3_' r4_' r5_' r6_' r7_' k_'∧lx (10,0,0) (5,0,0)) (λy_' z_'=>Bv s k a c e u v y_' z_'∧lx (11,0,0) (5,0,0)) (λt_' p_' h_' l_' r0_' r1_' r2_' r3_' r4_' r5_' r6_' r7_' y_' z_'=>Bg s k a c e u v t_' p_' h_' l_' r0_' r1_' r2_' r3_' r4_' r5_' r6_' r7_' y_' z_'∧lx (10,0,0) (5,0,0)) (λk_'=>Bz s k a c e u v k_'∧lx (11,0,0) (5,0,0)) (λt_' p_' h_' l_' r0_' r1_' r2_' r3_' r4_' r5_' r6_' r7_' k_'=>Bh s k a c e u v t_' p_' h_' l_' r0_' r1_' r2_' r3_' r4_' r5_' r6_' r7_' k_'∧lx (10,0,0) (5,0,0)) (λt_' p_' h_' l_' r0_' r1_' r2_' r3_' r4_' r5_' r6_' r7_' a_'=>AU s k a c e u v t_' p_' h_' l_' r0_' r1_' r2_' r3_' r4_' r5_' r6_' r7_' a_'∧lx (5,0,0) (5,0,0)) (λa_'=>BA s k a c e u v a_'∧lx (11,0,0) (5,0,0)) (λt_' p_' h_' l_' r0_' r1_' r2_' r3_' r4_' r5_' r6_' r7_' a_'=>AQ s k a c e u v t_' p_' h_' l_' r0_' r1_' r2_' r3_' r4_' r5_' r6_' r7_' a_'∧lx (10,0,0) (5,0,0)) (λr__=>r__=(Ae s k a c e u v)) (λt_ p_ h_ l_ x0_ x1_ x2_ x3_ x4_ x5_ x6_ x7_ r_=>CB ⟨t_,p_,h_,l_,x0_,x1_,x2_,x3_,x4_,x5_,x6_,x7_⟩ ((Ae s k a c e u v).1)∧r_=(Ae s k a c e u v).2):=by
 unfold AU at hI
 unfold UR
 try unfold Bq
 try unfold Bf
 try unfold Bv
 try unfold Bg
 try unfold Bz
 try unfold Bh
 try unfold AU
 try unfold BA
 try unfold AQ
 obtain ⟨rfl,rfl,hA,rfl,_,_,hE⟩:=hI
 injection hE with e1 e2 e3 e4 f0 f1 f2 f3 f4 f5 f6 f7
 subst e1 e2 e3 e4 f0 f1 f2 f3 f4 f5 f6 f7
 refine ⟨by decide, λ_=>?_⟩
 have key:Ae s 4 4 c 0 u v=(FT s 4 4 c u v,true):=by unfold Ae;rw [hA];rfl
 refine ⟨?_,?_⟩
 ·show _=(Ae s 4 4 c 0 u v).1
  rw [key];rfl
 ·show _=(Ae s 4 4 c 0 u v).2
  rw [key]
theorem AaO (s:MS) (k a c e u v:Int) (hp0:BZ s.l) (t_ p_ h_:Int) (l_:List (Int×Int)) (r0_ r1_ r2_ r3_ r4_ r5_ r6_ r7_:Int) (hI:AU s k a c e u v t_ p_ h_ l_ r0_ r1_ r2_ r3_ r4_ r5_ r6_ r7_ (5:Int)):UT s k a c e u v t_ p_ h_ l_ r0_ r1_ r2_ r3_ r4_ r5_ r6_ r7_ (λk_'=>Bq s k a c e u v k_'∧lx (11,0,0) (5,0,0)) (λt_' p_' h_' l_' r0_' r1_' r2_' r3_' r4_' r5_' r6_' r7_' k_'=>Bf s k a c e u v t_' p_' h_' l_' r0_' r1_' r2_' r3_' r4_' r5_' r6_' r7_' k_'∧lx (10,0,0) (5,0,0)) (λy_' z_'=>Bv s k a c e u v y_' z_'∧lx (11,0,0) (5,0,0)) (λt_' p_' h_' l_' r0_' r1_' r2_' r3_' r4_' r5_' r6_' r7_' y_' z_'=>Bg s k a c e u v t_' p_' h_' l_' r0_' r1_' r2_' r3_' r4_' r5_' r6_' r7_' y_' z_'∧lx (10,0,0) (5,0,0)) (λk_'=>Bz s k a c e u v k_'∧lx (11,0,0) (5,0,0)) (λt_' p_' h_' l_' r0_' r1_' r2_' r3_' r4_' r5_' r6_' r7_' k_'=>Bh s k a c e u v t_' p_' h_' l_' r0_' r1_' r2_' r3_' r4_' r5_' r6_' r7_' k_'∧lx (10,0,0) (5,0,0)) (λt_' p_' h_' l_' r0_' r1_' r2_' r3_' r4_' r5_' r6_' r7_' a_'=>AU s k a c e u v t_' p_' h_' l_' r0_' r1_' r2_' r3_' r4_' r5_' r6_' r7_' a_'∧lx (5,0,0) (5,0,0)) (λa_'=>BA s k a c e u v a_'∧lx (11,0,0) (5,0,0)) (λt_' p_' h_' l_' r0_' r1_' r2_' r3_' r4_' r5_' r6_' r7_' a_'=>AQ s k a c e u v t_' p_' h_' l_' r0_' r1_' r2_' r3_' r4_' r5_' r6_' r7_' a_'∧lx (10,0,0) (5,0,0)) (λr__=>r__=(Ae s k a c e u v)) (λt_ p_ h_ l_ x0_ x1_ x2_ x3_ x4_ x5_ x6_ x7_ r_=>CB ⟨t_,p_,h_,l_,x0_,x1_,x2_,x3_,x4_,x5_,x6_,x7_⟩ ((Ae s k a c e u v).1)∧r_=(Ae s k a c e u v).2):=by
 unfold AU at hI
 unfold UT
 try unfold Bq
 try unfold Bf
 try unfold Bv
 try unfold Bg
 try unfold Bz
 try unfold Bh
 try unfold AU
 try unfold BA
 try unfold AQ
 obtain ⟨rfl,rfl,hA,rfl,_,_,hE⟩:=hI
 injection hE with e1 e2 e3 e4 f0 f1 f2 f3 f4 f5 f6 f7
 subst e1 e2 e3 e4 f0 f1 f2 f3 f4 f5 f6 f7
 refine ⟨by decide, λ_=>?_⟩
 have key:Ae s 4 5 c 0 u v=(FT s 4 5 c u v,true):=by unfold Ae;rw [hA];rfl
 refine ⟨?_,?_⟩
 ·show _=(Ae s 4 5 c 0 u v).1
  rw [key];rfl
 ·show _=(Ae s 4 5 c 0 u v).2
  rw [key]
theorem AaP (s:MS) (k a c e u v:Int) (hp0:BZ s.l) (t_ p_ h_:Int) (l_:List (Int×Int)) (r0_ r1_ r2_ r3_ r4_ r5_ r6_ r7_:Int) (hI:AU s k a c e u v t_ p_ h_ l_ r0_ r1_ r2_ r3_ r4_ r5_ r6_ r7_ (6:Int)):UU s k a c e u v t_ p_ h_ l_ r0_ r1_ r2_ r3_ r4_ r5_ r6_ r7_ (λk_'=>Bq s k a c e u v k_'∧lx (11,0,0) (5,0,0)) (λt_' p_' h_' l_' r0_' r1_' r2_' r3_' r4_' r5_' r6_' r7_' k_'=>Bf s k a c e u v t_' p_' h_' l_' r0_' r1_' r2_' r3_' r4_' r5_' r6_' r7_' k_'∧lx (10,0,0) (5,0,0)) (λy_' z_'=>Bv s k a c e u v y_' z_'∧lx (11,0,0) (5,0,0)) (λt_' p_' h_' l_' r0_' r1_' r2_' r3_' r4_' r5_' r6_' r7_' y_' z_'=>Bg s k a c e u v t_' p_' h_' l_' r0_' r1_' r2_' r3_' r4_' r5_' r6_' r7_' y_' z_'∧lx (10,0,0) (5,0,0)) (λk_'=>Bz s k a c e u v k_'∧lx (11,0,0) (5,0,0)) (λt_' p_' h_' l_' r0_' r1_' r2_' r3_' r4_' r5_' r6_' r7_' k_'=>Bh s k a c e u v t_' p_' h_' l_' r0_' r1_' r2_' r3_' r4_' r5_' r6_' r7_' k_'∧lx (10,0,0) (5,0,0)) (λt_' p_' h_' l_' r0_' r1_' r2_' r3_' r4_' r5_' r6_' r7_' a_'=>AU s k a c e u v t_' p_' h_' l_' r0_' r1_' r2_' r3_' r4_' r5_' r6_' r7_' a_'∧lx (5,0,0) (5,0,0)) (λa_'=>BA s k a c e u v a_'∧lx (11,0,0) (5,0,0)) (λt_' p_' h_' l_' r0_' r1_' r2_' r3_' r4_' r5_' r6_' r7_' a_'=>AQ s k a c e u v t_' p_' h_' l_' r0_' r1_' r2_' r3_' r4_' r5_' r6_' r7_' a_'∧lx (10,0,0) (5,0,0)) (λr__=>r__=(Ae s k a c e u v)) (λt_ p_ h_ l_ x0_ x1_ x2_ x3_ x4_ x5_ x6_ x7_ r_=>CB ⟨t_,p_,h_,l_,x0_,x1_,x2_,x3_,x4_,x5_,x6_,x7_⟩ ((Ae s k a c e u v).1)∧r_=(Ae s k a c e u v).2):=by
 unfold AU at hI
 unfold UU
 try unfold Bq
 try unfold Bf
 try unfold Bv
 try unfold Bg
 try unfold Bz
 try unfold Bh
 try unfold AU
 try unfold BA
 try unfold AQ
 obtain ⟨rfl,rfl,hA,rfl,_,_,hE⟩:=hI
 injection hE with e1 e2 e3 e4 f0 f1 f2 f3 f4 f5 f6 f7
 subst e1 e2 e3 e4 f0 f1 f2 f3 f4 f5 f6 f7
 refine ⟨by decide, λ_=>?_⟩
 have key:Ae s 4 6 c 0 u v=(FT s 4 6 c u v,true):=by unfold Ae;rw [hA];rfl
 refine ⟨?_,?_⟩
 ·show _=(Ae s 4 6 c 0 u v).1
  rw [key];rfl
 ·show _=(Ae s 4 6 c 0 u v).2
  rw [key]
theorem AaQ (s:MS) (k a c e u v:Int) (hp0:BZ s.l) (t_ p_ h_:Int) (l_:List (Int×Int)) (r0_ r1_ r2_ r3_ r4_ r5_ r6_ r7_:Int) (hI:AU s k a c e u v t_ p_ h_ l_ r0_ r1_ r2_ r3_ r4_ r5_ r6_ r7_ (7:Int)):UV s k a c e u v t_ p_ h_ l_ r0_ r1_ r2_ r3_ r4_ r5_ r6_ r7_ (λk_'=>Bq s k a c e u v k_'∧lx (11,0,0) (5,0,0)) (λt_' p_' h_' l_' r0_' r1_' r2_' r3_' r4_' r5_' r6_' r7_' k_'=>Bf s k a c e u v t_' p_' h_' l_' r0_' r1_' r2_' r3_' r4_' r5_' r6_' r7_' k_'∧lx (10,0,0) (5,0,0)) (λy_' z_'=>Bv s k a c e u v y_' z_'∧lx (11,0,0) (5,0,0)) (λt_' p_' h_' l_' r0_' r1_' r2_' r3_' r4_' r5_' r6_' r7_' y_' z_'=>Bg s k a c e u v t_' p_' h_' l_' r0_' r1_' r2_' r3_' r4_' r5_' r6_' r7_' y_' z_'∧lx (10,0,0) (5,0,0)) (λk_'=>Bz s k a c e u v k_'∧lx (11,0,0) (5,0,0)) (λt_' p_' h_' l_' r0_' r1_' r2_' r3_' r4_' r5_' r6_' r7_' k_'=>Bh s k a c e u v t_' p_' h_' l_' r0_' r1_' r2_' r3_' r4_' r5_' r6_' r7_' k_'∧lx (10,0,0) (5,0,0)) (λt_' p_' h_' l_' r0_' r1_' r2_' r3_' r4_' r5_' r6_' r7_' a_'=>AU s k a c e u v t_' p_' h_' l_' r0_' r1_' r2_' r3_' r4_' r5_' r6_' r7_' a_'∧lx (5,0,0) (5,0,0)) (λa_'=>BA s k a c e u v a_'∧lx (11,0,0) (5,0,0)) (λt_' p_' h_' l_' r0_' r1_' r2_' r3_' r4_' r5_' r6_' r7_' a_'=>AQ s k a c e u v t_' p_' h_' l_' r0_' r1_' r2_' r3_' r4_' r5_' r6_' r7_' a_'∧lx (10,0,0) (5,0,0)) (λr__=>r__=(Ae s k a c e u v)) (λt_ p_ h_ l_ x0_ x1_ x2_ x3_ x4_ x5_ x6_ x7_ r_=>CB ⟨t_,p_,h_,l_,x0_,x1_,x2_,x3_,x4_,x5_,x6_,x7_⟩ ((Ae s k a c e u v).1)∧r_=(Ae s k a c e u v).2):=by
 unfold AU at hI
 unfold UV
 try unfold Bq
 try unfold Bf
 try unfold Bv
 try unfold Bg
 try unfold Bz
 try unfold Bh
 try unfold AU
 try unfold BA
 try unfold AQ
 obtain ⟨rfl,rfl,hA,rfl,_,_,hE⟩:=hI
 injection hE with e1 e2 e3 e4 f0 f1 f2 f3 f4 f5 f6 f7
 subst e1 e2 e3 e4 f0 f1 f2 f3 f4 f5 f6 f7
 refine ⟨by decide, λ_=>?_⟩
 have key:Ae s 4 7 c 0 u v=(FT s 4 7 c u v,true):=by unfold Ae;rw [hA];rfl
 refine ⟨?_,?_⟩
 ·show _=(Ae s 4 7 c 0 u v).1
  rw [key];rfl
 ·show _=(Ae s 4 7 c 0 u v).2
  rw [key]
theorem Afb (s:MS) (k a c e u v:Int) (hp0:BZ s.l) (a_ t_ p_ h_:Int) (l_:List (Int×Int)) (x0_ x1_ x2_ x3_ x4_ x5_ x6_ x7_:Int) (hI:BA s k a c e u v a_) (hx:CB ⟨t_,p_,h_,l_,x0_,x1_,x2_,x3_,x4_,x5_,x6_,x7_⟩ (s)):AaI s k a c e u v a_ t_ p_ h_ l_ x0_ x1_ x2_ x3_ x4_ x5_ x6_ x7_ (λt_' p_' h_' l_' r0_' r1_' r2_' r3_' r4_' r5_' r6_' r7_' a_'=>AQ s k a c e u v t_' p_' h_' l_' r0_' r1_' r2_' r3_' r4_' r5_' r6_' r7_' a_'∧lx (10,0,0) (11,0,0)):=by
 unfold BA at hI
 unfold AaI
 try unfold Bq
 try unfold Bf
 try unfold Bv
 try unfold Bg
 try unfold Bz
 try unfold Bh
 try unfold AU
 try unfold BA
 try unfold AQ
 exact ⟨⟨hx.symm,hI⟩,BU⟩
theorem AiQ (s:MS) (k a c e u v:Int) (hp0:BZ s.l) (t_ p_ h_:Int) (l_:List (Int×Int)) (r0_ r1_ r2_ r3_ r4_ r5_ r6_ r7_ a_:Int) (hI:AQ s k a c e u v t_ p_ h_ l_ r0_ r1_ r2_ r3_ r4_ r5_ r6_ r7_ a_):a_=0∨a_=1∨a_=2∨a_=3∨a_=4∨a_=5∨a_=6∨a_=7:=by
 unfold AQ at hI
 omega
theorem AaR (s:MS) (k a c e u v:Int) (hp0:BZ s.l) (t_ p_ h_:Int) (l_:List (Int×Int)) (r0_ r1_ r2_ r3_ r4_ r5_ r6_ r7_:Int) (hI:AQ s k a c e u v t_ p_ h_ l_ r0_ r1_ r2_ r3_ r4_ r5_ r6_ r7_ (0:Int)):UW s k a c e u v t_ p_ h_ l_ r0_ r1_ r2_ r3_ r4_ r5_ r6_ r7_ (λk_'=>Bq s k a c e u v k_'∧lx (11,0,0) (10,0,0)) (λt_' p_' h_' l_' r0_' r1_' r2_' r3_' r4_' r5_' r6_' r7_' k_'=>Bf s k a c e u v t_' p_' h_' l_' r0_' r1_' r2_' r3_' r4_' r5_' r6_' r7_' k_'∧lx (10,0,0) (10,0,0)) (λy_' z_'=>Bv s k a c e u v y_' z_'∧lx (11,0,0) (10,0,0)) (λt_' p_' h_' l_' r0_' r1_' r2_' r3_' r4_' r5_' r6_' r7_' y_' z_'=>Bg s k a c e u v t_' p_' h_' l_' r0_' r1_' r2_' r3_' r4_' r5_' r6_' r7_' y_' z_'∧lx (10,0,0) (10,0,0)) (λk_'=>Bz s k a c e u v k_'∧lx (11,0,0) (10,0,0)) (λt_' p_' h_' l_' r0_' r1_' r2_' r3_' r4_' r5_' r6_' r7_' k_'=>Bh s k a c e u v t_' p_' h_' l_' r0_' r1_' r2_' r3_' r4_' r5_' r6_' r7_' k_'∧lx (10,0,0) (10,0,0)) (λt_' p_' h_' l_' r0_' r1_' r2_' r3_' r4_' r5_' r6_' r7_' a_'=>AU s k a c e u v t_' p_' h_' l_' r0_' r1_' r2_' r3_' r4_' r5_' r6_' r7_' a_'∧lx (5,0,0) (10,0,0)) (λa_'=>BA s k a c e u v a_'∧lx (11,0,0) (10,0,0)) (λt_' p_' h_' l_' r0_' r1_' r2_' r3_' r4_' r5_' r6_' r7_' a_'=>AQ s k a c e u v t_' p_' h_' l_' r0_' r1_' r2_' r3_' r4_' r5_' r6_' r7_' a_'∧lx (10,0,0) (10,0,0)) (λr__=>r__=(Ae s k a c e u v)) (λt_ p_ h_ l_ x0_ x1_ x2_ x3_ x4_ x5_ x6_ x7_ r_=>CB ⟨t_,p_,h_,l_,x0_,x1_,x2_,x3_,x4_,x5_,x6_,x7_⟩ ((Ae s k a c e u v).1)∧r_=(Ae s k a c e u v).2):=by
 unfold AQ at hI
 unfold UW
 try unfold Bq
 try unfold Bf
 try unfold Bv
 try unfold Bg
 try unfold Bz
 try unfold Bh
 try unfold AU
 try unfold BA
 try unfold AQ
 obtain ⟨rfl,rfl,rfl,_,_,hA,rfl⟩:=hI
 refine ⟨by decide, λ_=>?_⟩
 have key:Ae ⟨t_,p_,h_,l_,r0_,r1_,r2_,r3_,r4_,r5_,r6_,r7_⟩ 5 0 c 0 u v=(FT ⟨t_,p_,h_,l_,r0_,r1_,r2_,r3_,r4_,r5_,r6_,r7_⟩ 5 0 c u v,true):=by unfold Ae;rw [hA];rfl
 refine ⟨?_,?_⟩
 ·show _=(Ae ⟨t_,p_,h_,l_,r0_,r1_,r2_,r3_,r4_,r5_,r6_,r7_⟩ 5 0 c 0 u v).1
  rw [key];rfl
 ·show _=(Ae ⟨t_,p_,h_,l_,r0_,r1_,r2_,r3_,r4_,r5_,r6_,r7_⟩ 5 0 c 0 u v).2
  rw [key]
theorem AaS (s:MS) (k a c e u v:Int) (hp0:BZ s.l) (t_ p_ h_:Int) (l_:List (Int×Int)) (r0_ r1_ r2_ r3_ r4_ r5_ r6_ r7_:Int) (hI:AQ s k a c e u v t_ p_ h_ l_ r0_ r1_ r2_ r3_ r4_ r5_ r6_ r7_ (1:Int)):UX s k a c e u v t_ p_ h_ l_ r0_ r1_ r2_ r3_ r4_ r5_ r6_ r7_ (λk_'=>Bq s k a c e u v k_'∧lx (11,0,0) (10,0,0)) (λt_' p_' h_' l_' r0_' r1_' r2_' r3_' r4_' r5_' r6_' r7_' k_'=>Bf s k a c e u v t_' p_' h_' l_' r0_' r1_' r2_' r3_' r4_' r5_' r6_' r7_' k_'∧lx (10,0,0) (10,0,0)) (λy_' z_'=>Bv s k a c e u v y_' z_'∧lx (11,0,0) (10,0,0)) (λt_' p_' h_' l_' r0_' r1_' r2_' r3_' r4_' r5_' r6_' r7_' y_' z_'=>Bg s k a c e u v t_' p_' h_' l_' r0_' r1_' r2_' r3_' r4_' r5_' r6_' r7_' y_' z_'∧lx (10,0,0) (10,0,0)) (λk_'=>Bz s k a c e u v k_'∧lx (11,0,0) (10,0,0)) (λt_' p_' h_' l_' r0_' r1_' r2_' r3_' r4_' r5_' r6_' r7_' k_'=>Bh s k a c e u v t_' p_' h_' l_' r0_' r1_' r2_' r3_' r4_' r5_' r6_' r7_' k_'∧lx (10,0,0) (10,0,0)) (λt_' p_' h_' l_' r0_' r1_' r2_' r3_' r4_' r5_' r6_' r7_' a_'=>AU s k a c e u v t_' p_' h_' l_' r0_' r1_' r2_' r3_' r4_' r5_' r6_' r7_' a_'∧lx (5,0,0) (10,0,0)) (λa_'=>BA s k a c e u v a_'∧lx (11,0,0) (10,0,0)) (λt_' p_' h_' l_' r0_' r1_' r2_' r3_' r4_' r5_' r6_' r7_' a_'=>AQ s k a c e u v t_' p_' h_' l_' r0_' r1_' r2_' r3_' r4_' r5_' r6_' r7_' a_'∧lx (10,0,0) (10,0,0)) (λr__=>r__=(Ae s k a c e u v)) (λt_ p_ h_ l_ x0_ x1_ x2_ x3_ x4_ x5_ x6_ x7_ r_=>CB ⟨t_,p_,h_,l_,x0_,x1_,x2_,x3_,x4_,x5_,x6_,x7_⟩ ((Ae s k a c e u v).1)∧r_=(Ae s k a c e u v).2):=by
 unfold AQ at hI
 unfold UX
 try unfold Bq
 try unfold Bf
 try unfold Bv
 try unfold Bg
 try unfold Bz
 try unfold Bh
 try unfold AU
 try unfold BA
 try unfold AQ
 obtain ⟨rfl,rfl,rfl,_,_,hA,rfl⟩:=hI
 refine ⟨by decide, λ_=>?_⟩
 have key:Ae ⟨t_,p_,h_,l_,r0_,r1_,r2_,r3_,r4_,r5_,r6_,r7_⟩ 5 1 c 0 u v=(FT ⟨t_,p_,h_,l_,r0_,r1_,r2_,r3_,r4_,r5_,r6_,r7_⟩ 5 1 c u v,true):=by unfold Ae;rw [hA];rfl
 refine ⟨?_,?_⟩
 ·show _=(Ae ⟨t_,p_,h_,l_,r0_,r1_,r2_,r3_,r4_,r5_,r6_,r7_⟩ 5 1 c 0 u v).1
  rw [key];rfl
 ·show _=(Ae ⟨t_,p_,h_,l_,r0_,r1_,r2_,r3_,r4_,r5_,r6_,r7_⟩ 5 1 c 0 u v).2
  rw [key]
theorem AaT (s:MS) (k a c e u v:Int) (hp0:BZ s.l) (t_ p_ h_:Int) (l_:List (Int×Int)) (r0_ r1_ r2_ r3_ r4_ r5_ r6_ r7_:Int) (hI:AQ s k a c e u v t_ p_ h_ l_ r0_ r1_ r2_ r3_ r4_ r5_ r6_ r7_ (2:Int)):UY s k a c e u v t_ p_ h_ l_ r0_ r1_ r2_ r3_ r4_ r5_ r6_ r7_ (λk_'=>Bq s k a c e u v k_'∧lx (11,0,0) (10,0,0)) (λt_' p_' h_' l_' r0_' r1_' r2_' r3_' r4_' r5_' r6_' r7_' k_'=>Bf s k a c e u v t_' p_' h_' l_' r0_' r1_' r2_' r3_' r4_' r5_' r6_' r7_' k_'∧lx (10,0,0) (10,0,0)) (λy_' z_'=>Bv s k a c e u v y_' z_'∧lx (11,0,0) (10,0,0)) (λt_' p_' h_' l_' r0_' r1_' r2_' r3_' r4_' r5_' r6_' r7_' y_' z_'=>Bg s k a c e u v t_' p_' h_' l_' r0_' r1_' r2_' r3_' r4_' r5_' r6_' r7_' y_' z_'∧lx (10,0,0) (10,0,0)) (λk_'=>Bz s k a c e u v k_'∧lx (11,0,0) (10,0,0)) (λt_' p_' h_' l_' r0_' r1_' r2_' r3_' r4_' r5_' r6_' r7_' k_'=>Bh s k a c e u v t_' p_' h_' l_' r0_' r1_' r2_' r3_' r4_' r5_' r6_' r7_' k_'∧lx (10,0,0) (10,0,0)) (λt_' p_' h_' l_' r0_' r1_' r2_' r3_' r4_' r5_' r6_' r7_' a_'=>AU s k a c e u v t_' p_' h_' l_' r0_' r1_' r2_' r3_' r4_' r5_' r6_' r7_' a_'∧lx (5,0,0) (10,0,0)) (λa_'=>BA s k a c e u v a_'∧lx (11,0,0) (10,0,0)) (λt_' p_' h_' l_' r0_' r1_' r2_' r3_' r4_' r5_' r6_' r7_' a_'=>AQ s k a c e u v t_' p_' h_' l_' r0_' r1_' r2_' r3_' r4_' r5_' r6_' r7_' a_'∧lx (10,0,0) (10,0,0)) (λr__=>r__=(Ae s k a c e u v)) (λt_ p_ h_ l_ x0_ x1_ x2_ x3_ x4_ x5_ x6_ x7_ r_=>CB ⟨t_,p_,h_,l_,x0_,x1_,x2_,x3_,x4_,x5_,x6_,x7_⟩ ((Ae s k a c e u v).1)∧r_=(Ae s k a c e u v).2):=by
 unfold AQ at hI
 unfold UY
 try unfold Bq
 try unfold Bf
 try unfold Bv
 try unfold Bg
 try unfold Bz
 try unfold Bh
 try unfold AU
 try unfold BA
 try unfold AQ
 obtain ⟨rfl,rfl,rfl,_,_,hA,rfl⟩:=hI
 refine ⟨by decide, λ_=>?_⟩
 have key:Ae ⟨t_,p_,h_,l_,r0_,r1_,r2_,r3_,r4_,r5_,r6_,r7_⟩ 5 2 c 0 u v=(FT ⟨t_,p_,h_,l_,r0_,r1_,r2_,r3_,r4_,r5_,r6_,r7_⟩ 5 2 c u v,true):=by unfold Ae;rw [hA];rfl
 refine ⟨?_,?_⟩
 ·show _=(Ae ⟨t_,p_,h_,l_,r0_,r1_,r2_,r3_,r4_,r5_,r6_,r7_⟩ 5 2 c 0 u v).1
  rw [key];rfl
 ·show _=(Ae ⟨t_,p_,h_,l_,r0_,r1_,r2_,r3_,r4_,r5_,r6_,r7_⟩ 5 2 c 0 u v).2
  rw [key]
theorem AaU (s:MS) (k a c e u v:Int) (hp0:BZ s.l) (t_ p_ h_:Int) (l_:List (Int×Int)) (r0_ r1_ r2_ r3_ r4_ r5_ r6_ r7_:Int) (hI:AQ s k a c e u v t_ p_ h_ l_ r0_ r1_ r2_ r3_ r4_ r5_ r6_ r7_ (3:Int)):UZ s k a c e u v t_ p_ h_ l_ r0_ r1_ r2_ r3_ r4_ r5_ r6_ r7_ (λk_'=>Bq s k a c e u v k_'∧lx (11,0,0) (10,0,0)) (λt_' p_' h_' l_' r0_' r1_' r2_' r3_' r4_' r5_' r6_' r7_' k_'=>Bf s k a c e u v t_' p_' h_' l_' r0_' r1_' r2_' r3_' r4_' r5_' r6_' r7_' k_'∧lx (10,0,0) (10,0,0)) (λy_' z_'=>Bv s k a c e u v y_' z_'∧lx (11,0,0) (10,0,0)) (λt_' p_' h_' l_' r0_' r1_' r2_' r3_' r4_' r5_' r6_' r7_' y_' z_'=>Bg s k a c e u v t_' p_' h_' l_' r0_' r1_' r2_' r3_' r4_' r5_' r6_' r7_' y_' z_'∧lx (10,0,0) (10,0,0)) (λk_'=>Bz s k a c e u v k_'∧lx (11,0,0) (10,0,0)) (λt_' p_' h_' l_' r0_' r1_' r2_' r3_' r4_' r5_' r6_' r7_' k_'=>Bh s k a c e u v t_' p_' h_' l_' r0_' r1_' r2_' r3_' r4_' r5_' r6_' r7_' k_'∧lx (10,0,0) (10,0,0)) (λt_' p_' h_' l_' r0_' r1_' r2_' r3_' r4_' r5_' r6_' r7_' a_'=>AU s k a c e u v t_' p_' h_' l_' r0_' r1_' r2_' r3_' r4_' r5_' r6_' r7_' a_'∧lx (5,0,0) (10,0,0)) (λa_'=>BA s k a c e u v a_'∧lx (11,0,0) (10,0,0)) (λt_' p_' h_' l_' r0_' r1_' r2_' r3_' r4_' r5_' r6_' r7_' a_'=>AQ s k a c e u v t_' p_' h_' l_' r0_' r1_' r2_' r3_' r4_' r5_' r6_' r7_' a_'∧lx (10,0,0) (10,0,0)) (λr__=>r__=(Ae s k a c e u v)) (λt_ p_ h_ l_ x0_ x1_ x2_ x3_ x4_ x5_ x6_ x7_ r_=>CB ⟨t_,p_,h_,l_,x0_,x1_,x2_,x3_,x4_,x5_,x6_,x7_⟩ ((Ae s k a c e u v).1)∧r_=(Ae s k a c e u v).2):=by
 unfold AQ at hI
 unfold UZ
 try unfold Bq
 try unfold Bf
 try unfold Bv
 try unfold Bg
 try unfold Bz
 try unfold Bh
 try unfold AU
 try unfold BA
 try unfold AQ
 obtain ⟨rfl,rfl,rfl,_,_,hA,rfl⟩:=hI
 refine ⟨by decide, λ_=>?_⟩
 have key:Ae ⟨t_,p_,h_,l_,r0_,r1_,r2_,r3_,r4_,r5_,r6_,r7_⟩ 5 3 c 0 u v=(FT ⟨t_,p_,h_,l_,r0_,r1_,r2_,r3_,r4_,r5_,r6_,r7_⟩ 5 3 c u v,true):=by unfold Ae;rw [hA];rfl
 refine ⟨?_,?_⟩
 ·show _=(Ae ⟨t_,p_,h_,l_,r0_,r1_,r2_,r3_,r4_,r5_,r6_,r7_⟩ 5 3 c 0 u v).1
  rw [key];rfl
 ·show _=(Ae ⟨t_,p_,h_,l_,r0_,r1_,r2_,r3_,r4_,r5_,r6_,r7_⟩ 5 3 c 0 u v).2
  rw [key]
theorem AaV (s:MS) (k a c e u v:Int) (hp0:BZ s.l) (t_ p_ h_:Int) (l_:List (Int×Int)) (r0_ r1_ r2_ r3_ r4_ r5_ r6_ r7_:Int) (hI:AQ s k a c e u v t_ p_ h_ l_ r0_ r1_ r2_ r3_ r4_ r5_ r6_ r7_ (4:Int)):Va s k a c e u v t_ p_ h_ l_ r0_ r1_ r2_ r3_ r4_ r5_ r6_ r7_ (λk_'=>Bq s k a c e u v k_'∧lx (11,0,0) (10,0,0)) (λt_' p_' h_' l_' r0_' r1_' r2_' r3_' r4_' r5_' r6_' r7_' k_'=>Bf s k a c e u v t_' p_' h_' l_' r0_' r1_' r2_' r3_' r4_' r5_' r6_' r7_' k_'∧lx (10,0,0) (10,0,0)) (λy_' z_'=>Bv s k a c e u v y_' z_'∧lx (11,0,0) (10,0,0)) (λt_' p_' h_' l_' r0_' r1_' r2_' r3_' r4_' r5_' r6_' r7_' y_' z_'=>Bg s k a c e u v t_' p_' h_' l_' r0_' r1_' r2_' r3_' r4_' r5_' r6_' r7_' y_' z_'∧lx (10,0,0) (10,0,0)) (λk_'=>Bz s k a c e u v k_'∧lx (11,0,0) (10,0,0)) (λt_' p_' h_' l_' r0_' r1_' r2_' r3_' r4_' r5_' r6_' r7_' k_'=>Bh s k a c e u v t_' p_' h_' l_' r0_' r1_' r2_' r3_' r4_' r5_' r6_' r7_' k_'∧lx (10,0,0) (10,0,0)) (λt_' p_' h_' l_' r0_' r1_' r2_' r3_' r4_' r5_' r6_' r7_' a_'=>AU s k a c e u v t_' p_' h_' l_' r0_' r1_' r2_' r3_' r4_' r5_' r6_' r7_' a_'∧lx (5,0,0) (10,0,0)) (λa_'=>BA s k a c e u v a_'∧lx (11,0,0) (10,0,0)) (λt_' p_' h_' l_' r0_' r1_' r2_' r3_' r4_' r5_' r6_' r7_' a_'=>AQ s k a c e u v t_' p_' h_' l_' r0_' r1_' r2_' r3_' r4_' r5_' r6_' r7_' a_'∧lx (10,0,0) (10,0,0)) (λr__=>r__=(Ae s k a c e u v)) (λt_ p_ h_ l_ x0_ x1_ x2_ x3_ x4_ x5_ x6_ x7_ r_=>CB ⟨t_,p_,h_,l_,x0_,x1_,x2_,x3_,x4_,x5_,x6_,x7_⟩ ((Ae s k a c e u v).1)∧r_=(Ae s k a c e u v).2):=by
 unfold AQ at hI
 unfold Va
 try unfold Bq
 try unfold Bf
 try unfold Bv
 try unfold Bg
 try unfold Bz
 try unfold Bh
 try unfold AU
 try unfold BA
 try unfold AQ
 obtain ⟨rfl,rfl,rfl,_,_,hA,rfl⟩:=hI
 refine ⟨by decide, λ_=>?_⟩
 have key:Ae ⟨t_,p_,h_,l_,r0_,r1_,r2_,r3_,r4_,r5_,r6_,r7_⟩ 5 4 c 0 u v=(FT ⟨t_,p_,h_,l_,r0_,r1_,r2_,r3_,r4_,r5_,r6_,r7_⟩ 5 4 c u v,true):=by unfold Ae;rw [hA];rfl
 refine ⟨?_,?_⟩
 ·show _=(Ae ⟨t_,p_,h_,l_,r0_,r1_,r2_,r3_,r4_,r5_,r6_,r7_⟩ 5 4 c 0 u v).1
  rw [key];rfl
 ·show _=(Ae ⟨t_,p_,h_,l_,r0_,r1_,r2_,r3_,r4_,r5_,r6_,r7_⟩ 5 4 c 0 u v).2
  rw [key]
theorem AaW (s:MS) (k a c e u v:Int) (hp0:BZ s.l) (t_ p_ h_:Int) (l_:List (Int×Int)) (r0_ r1_ r2_ r3_ r4_ r5_ r6_ r7_:Int) (hI:AQ s k a c e u v t_ p_ h_ l_ r0_ r1_ r2_ r3_ r4_ r5_ r6_ r7_ (5:Int)):Vb s k a c e u v t_ p_ h_ l_ r0_ r1_ r2_ r3_ r4_ r5_ r6_ r7_ (λk_'=>Bq s k a c e u v k_'∧lx (11,0,0) (10,0,0)) (λt_' p_' h_' l_' r0_' r1_' r2_' r3_' r4_' r5_' r6_' r7_' k_'=>Bf s k a c e u v t_' p_' h_' l_' r0_' r1_' r2_' r3_' r4_' r5_' r6_' r7_' k_'∧lx (10,0,0) (10,0,0)) (λy_' z_'=>Bv s k a c e u v y_' z_'∧lx (11,0,0) (10,0,0)) (λt_' p_' h_' l_' r0_' r1_' r2_' r3_' r4_' r5_' r6_' r7_' y_' z_'=>Bg s k a c e u v t_' p_' h_' l_' r0_' r1_' r2_' r3_' r4_' r5_' r6_' r7_' y_' z_'∧lx (10,0,0) (10,0,0)) (λk_'=>Bz s k a c e u v k_'∧lx (11,0,0) (10,0,0)) (λt_' p_' h_' l_' r0_' r1_' r2_' r3_' r4_' r5_' r6_' r7_' k_'=>Bh s k a c e u v t_' p_' h_' l_' r0_' r1_' r2_' r3_' r4_' r5_' r6_' r7_' k_'∧lx (10,0,0) (10,0,0)) (λt_' p_' h_' l_' r0_' r1_' r2_' r3_' r4_' r5_' r6_' r7_' a_'=>AU s k a c e u v t_' p_' h_' l_' r0_' r1_' r2_' r3_' r4_' r5_' r6_' r7_' a_'∧lx (5,0,0) (10,0,0)) (λa_'=>BA s k a c e u v a_'∧lx (11,0,0) (10,0,0)) (λt_' p_' h_' l_' r0_' r1_' r2_' r3_' r4_' r5_' r6_' r7_' a_'=>AQ s k a c e u v t_' p_' h_' l_' r0_' r1_' r2_' r3_' r4_' r5_' r6_' r7_' a_'∧lx (10,0,0) (10,0,0)) (λr__=>r__=(Ae s k a c e u v)) (λt_ p_ h_ l_ x0_ x1_ x2_ x3_ x4_ x5_ x6_ x7_ r_=>CB ⟨t_,p_,h_,l_,x0_,x1_,x2_,x3_,x4_,x5_,x6_,x7_⟩ ((Ae s k a c e u v).1)∧r_=(Ae s k a c e u v).2):=by
 unfold AQ at hI
 unfold Vb
 try unfold Bq
 try unfold Bf
 try unfold Bv
 try unfold Bg
 try unfold Bz
 try unfold Bh
 try unfold AU
 try unfold BA
 try unfold AQ
 obtain ⟨rfl,rfl,rfl,_,_,hA,rfl⟩:=hI
 refine ⟨by decide, λ_=>?_⟩
 have key:Ae ⟨t_,p_,h_,l_,r0_,r1_,r2_,r3_,r4_,r5_,r6_,r7_⟩ 5 5 c 0 u v=(FT ⟨t_,p_,h_,l_,r0_,r1_,r2_,r3_,r4_,r5_,r6_,r7_⟩ 5 5 c u v,true):=by unfold Ae;rw [hA];rfl
 refine ⟨?_,?_⟩
 ·show _=(Ae ⟨t_,p_,h_,l_,r0_,r1_,r2_,r3_,r4_,r5_,r6_,r7_⟩ 5 5 c 0 u v).1
  rw [key];rfl
 ·show _=(Ae ⟨t_,p_,h_,l_,r0_,r1_,r2_,r3_,r4_,r5_,r6_,r7_⟩ 5 5 c 0 u v).2
  rw [key]
theorem AaX (s:MS) (k a c e u v:Int) (hp0:BZ s.l) (t_ p_ h_:Int) (l_:List (Int×Int)) (r0_ r1_ r2_ r3_ r4_ r5_ r6_ r7_:Int) (hI:AQ s k a c e u v t_ p_ h_ l_ r0_ r1_ r2_ r3_ r4_ r5_ r6_ r7_ (6:Int)):Vd s k a c e u v t_ p_ h_ l_ r0_ r1_ r2_ r3_ r4_ r5_ r6_ r7_ (λk_'=>Bq s k a c e u v k_'∧lx (11,0,0) (10,0,0)) (λt_' p_' h_' l_' r0_' r1_' r2_' r3_' r4_' r5_' r6_' r7_' k_'=>Bf s k a c e u v t_' p_' h_' l_' r0_' r1_' r2_' r3_' r4_' r5_' r6_' r7_' k_'∧lx (10,0,0) (10,0,0)) (λy_' z_'=>Bv s k a c e u v y_' z_'∧lx (11,0,0) (10,0,0)) (λt_' p_' h_' l_' r0_' r1_' r2_' r3_' r4_' r5_' r6_' r7_' y_' z_'=>Bg s k a c e u v t_' p_' h_' l_' r0_' r1_' r2_' r3_' r4_' r5_' r6_' r7_' y_' z_'∧lx (10,0,0) (10,0,0)) (λk_'=>Bz s k a c e u v k_'∧lx (11,0,0) (10,0,0)) (λt_' p_' h_' l_' r0_' r1_' r2_' r3_' r4_' r5_' r6_' r7_' k_'=>Bh s k a c e u v t_' p_' h_' l_' r0_' r1_' r2_' r3_' r4_' r5_' r6_' r7_' k_'∧lx (10,0,0) (10,0,0)) (λt_' p_' h_' l_' r0_' r1_' r2_' r3_' r4_' r5_' r6_' r7_' a_'=>AU s k a c e u v t_' p_' h_' l_' r0_' r1_' r2_' r3_' r4_' r5_' r6_' r7_' a_'∧lx (5,0,0) (10,0,0)) (λa_'=>BA s k a c e u v a_'∧lx (11,0,0) (10,0,0)) (λt_' p_' h_' l_' r0_' r1_' r2_' r3_' r4_' r5_' r6_' r7_' a_'=>AQ s k a c e u v t_' p_' h_' l_' r0_' r1_' r2_' r3_' r4_' r5_' r6_' r7_' a_'∧lx (10,0,0) (10,0,0)) (λr__=>r__=(Ae s k a c e u v)) (λt_ p_ h_ l_ x0_ x1_ x2_ x3_ x4_ x5_ x6_ x7_ r_=>CB ⟨t_,p_,h_,l_,x0_,x1_,x2_,x3_,x4_,x5_,x6_,x7_⟩ ((Ae s k a c e u v).1)∧r_=(Ae s k a c e u v).2):=by
 unfold AQ at hI
 unfold Vd
 try unfold Bq
 try unfold Bf
 try unfold Bv
 try unfold Bg
 try unfold Bz
 try unfold Bh
 try unfold AU
 try unfold BA
 try unfold AQ
 obtain ⟨rfl,rfl,rfl,_,_,hA,rfl⟩:=hI
 refine ⟨by decide, λ_=>?_⟩
 have key:Ae ⟨t_,p_,h_,l_,r0_,r1_,r2_,r3_,r4_,r5_,r6_,r7_⟩ 5 6 c 0 u v=(FT ⟨t_,p_,h_,l_,r0_,r1_,r2_,r3_,r4_,r5_,r6_,r7_⟩ 5 6 c u v,true):=by unfold Ae;rw [hA];rfl
 refine ⟨?_,?_⟩
 ·show _=(Ae ⟨t_,p_,h_,l_,r0_,r1_,r2_,r3_,r4_,r5_,r6_,r7_⟩ 5 6 c 0 u v).1
  rw [key];rfl
 ·show _=(Ae ⟨t_,p_,h_,l_,r0_,r1_,r2_,r3_,r4_,r5_,r6_,r7_⟩ 5 6 c 0 u v).2
  rw [key]
theorem AaY (s:MS) (k a c e u v:Int) (hp0:BZ s.l) (t_ p_ h_:Int) (l_:List (Int×Int)) (r0_ r1_ r2_ r3_ r4_ r5_ r6_ r7_:Int) (hI:AQ s k a c e u v t_ p_ h_ l_ r0_ r1_ r2_ r3_ r4_ r5_ r6_ r7_ (7:Int)):Ve s k a c e u v t_ p_ h_ l_ r0_ r1_ r2_ r3_ r4_ r5_ r6_ r7_ (λk_'=>Bq s k a c e u v k_'∧lx (11,0,0) (10,0,0)) (λt_' p_' h_' l_' r0_' r1_' r2_' r3_' r4_' r5_' r6_' r7_' k_'=>Bf s k a c e u v t_' p_' h_' l_' r0_' r1_' r2_' r3_' r4_' r5_' r6_' r7_' k_'∧lx (10,0,0) (10,0,0)) (λy_' z_'=>Bv s k a c e u v y_' z_'∧lx (11,0,0) (10,0,0)) (λt_' p_' h_' l_' r0_' r1_' r2_' r3_' r4_' r5_' r6_' r7_' y_' z_'=>Bg s k a c e u v t_' p_' h_' l_' r0_' r1_' r2_' r3_' r4_' r5_' r6_' r7_' y_' z_'∧lx (10,0,0) (10,0,0)) (λk_'=>Bz s k a c e u v k_'∧lx (11,0,0) (10,0,0)) (λt_' p_' h_' l_' r0_' r1_' r2_' r3_' r4_' r5_' r6_' r7_' k_'=>Bh s k a c e u v t_' p_' h_' l_' r0_' r1_' r2_' r3_' r4_' r5_' r6_' r7_' k_'∧lx (10,0,0) (10,0,0)) (λt_' p_' h_' l_' r0_' r1_' r2_' r3_' r4_' r5_' r6_' r7_' a_'=>AU s k a c e u v t_' p_' h_' l_' r0_' r1_' r2_' r3_' r4_' r5_' r6_' r7_' a_'∧lx (5,0,0) (10,0,0)) (λa_'=>BA s k a c e u v a_'∧lx (11,0,0) (10,0,0)) (λt_' p_' h_' l_' r0_' r1_' r2_' r3_' r4_' r5_' r6_' r7_' a_'=>AQ s k a c e u v t_' p_' h_' l_' r0_' r1_' r2_' r3_' r4_' r5_' r6_' r7_' a_'∧lx (10,0,0) (10,0,0)) (λr__=>r__=(Ae s k a c e u v)) (λt_ p_ h_ l_ x0_ x1_ x2_ x3_ x4_ x5_ x6_ x7_ r_=>CB ⟨t_,p_,h_,l_,x0_,x1_,x2_,x3_,x4_,x5_,x6_,x7_⟩ ((Ae s k a c e u v).1)∧r_=(Ae s k a c e u v).2):=by
 unfold AQ at hI
 unfold Ve
 try unfold Bq
 try unfold Bf
 try unfold Bv
 try unfold Bg
 try unfold Bz
 try unfold Bh
 try unfold AU
 try unfold BA
 try unfold AQ
 obtain ⟨rfl,rfl,rfl,_,_,hA,rfl⟩:=hI
 refine ⟨by decide, λ_=>?_⟩
 have key:Ae ⟨t_,p_,h_,l_,r0_,r1_,r2_,r3_,r4_,r5_,r6_,r7_⟩ 5 7 c 0 u v=(FT ⟨t_,p_,h_,l_,r0_,r1_,r2_,r3_,r4_,r5_,r6_,r7_⟩ 5 7 c u v,true):=by unfold Ae;rw [hA];rfl
 refine ⟨?_,?_⟩
 ·show _=(Ae ⟨t_,p_,h_,l_,r0_,r1_,r2_,r3_,r4_,r5_,r6_,r7_⟩ 5 7 c 0 u v).1
  rw [key];rfl
 ·show _=(Ae ⟨t_,p_,h_,l_,r0_,r1_,r2_,r3_,r4_,r5_,r6_,r7_⟩ 5 7 c 0 u v).2
  rw [key]
theorem Ak9:DZ 18 Aeg:=
 EX Dg Gx false XO (I:=[27218900,2533970900,380283474900,2796202578900,1789569618900,2999998]) Try.func18 mix (B:=AY Try.f18) (by kernel_rfl) rfl (by kernel_rfl) 400
  λo s k a c e u v hb hp=>have hp0:BZ s.l:=hp _ (.head _);⟨s,(Ae s k a c e u v).1,(Ae s k a c e u v).2,[⟨some 900,[0,1,0,1,0,1,1,1],[.blk 0, .code [1,1,1,1]],[0,4,5,20],[.objk D5 ⟨o,0,none⟩ (s), .box 29 [.ic .i64 (k), .ic .i64 (a), .ic .i64 (c)], .box 32 [.ic .i64 (e), .ic .i64 (u), .ic .i64 (v)], .i .i64]⟩,⟨some 900,[0,1,0,1,0,1,1,1],[.blk 0, .code [1,1,1,1]],[0,4,5,20],[.boxc o Dq.t Dq.l, .box 29 [.ic .i64 (k), .ic .i64 (a), .ic .i64 (c)], .box 32 [.ic .i64 (e), .ic .i64 (u), .ic .i64 (v)], .i .i64]⟩,⟨some 900,[1,0,1,1,1,0,1,0,1,1,1],[.blk 0, .code [1,1,1,1]],[0,4,5,7],[.objk D5 ⟨o,0,none⟩ (s), .box 29 [.ic .i64 (k), .ic .i64 (a), .ic .i64 (c)], .box 32 [.ic .i64 (e), .ic .i64 (u), .ic .i64 (v)], .box 55 [.i .i64, .i .i64]]⟩,⟨some 900,[1,0,1,1,1,0,1,0,1,1,1],[.blk 0, .code [1,1,1,1]],[0,4,5,7],[.boxc o Dq.t Dq.l, .box 29 [.ic .i64 (k), .ic .i64 (a), .ic .i64 (c)], .box 32 [.ic .i64 (e), .ic .i64 (u), .ic .i64 (v)], .box 55 [.i .i64, .i .i64]]⟩,⟨some 900,[0,0,1,1,1,1,1,1,1,0,1,0,1,1,1],[.code [1,0,1,1,1,1,1,1,1,0,1,0,1,1,1], .blk 0, .code [1,1,1,1]],[0,4,5,20],[.objk D5 ⟨o,0,none⟩ (s), .box 29 [.ic .i64 (k), .ic .i64 (a), .ic .i64 (c)], .box 32 [.ic .i64 (e), .ic .i64 (u), .ic .i64 (v)], .i .i64]⟩,⟨some 900,[0,0,1,1,1,1,1,1,1,0,1,0,1,1,1],[.code [1,0,1,1,1,1,1,1,1,0,1,0,1,1,1], .blk 0, .code [1,1,1,1]],[0,4,5,20],[.boxc o Dq.t Dq.l, .box 29 [.ic .i64 (k), .ic .i64 (a), .ic .i64 (c)], .box 32 [.ic .i64 (e), .ic .i64 (u), .ic .i64 (v)], .i .i64]⟩,⟨some 900,[1,1,0,1,1,1,1,1,1,1,0,1,0,1,1,1],[.blk 0, .code [1,1,1,1]],[0,4,5],[.boxc o Dq.t Dq.l, .box 29 [.ic .i64 (k), .i .i64, .ic .i64 (c)], .box 32 [.ic .i64 (e), .ic .i64 (u), .ic .i64 (v)]]⟩,⟨some 900,[0,1,1,1,1,1,1,1,1,1,0,1,0,1,1,1],[.blk 0, .code [1,1,1,1]],[0,4,5],[.objk D5 ⟨o,0,none⟩ (s), .box 29 [.ic .i64 (k), .i .i64, .ic .i64 (c)], .box 32 [.ic .i64 (e), .ic .i64 (u), .ic .i64 (v)]]⟩,⟨some 900,[0,1,1,1,1,1,1,1,1,1,0,1,0,1,1,1],[.blk 0, .code [1,1,1,1]],[0,4,5],[.boxc o Dq.t Dq.l, .box 29 [.ic .i64 (k), .i .i64, .ic .i64 (c)], .box 32 [.ic .i64 (e), .ic .i64 (u), .ic .i64 (v)]]⟩],[.opn 0 (λ_=>o) 1, .run, .opn 0 (λ_=>o) 3, .run, .opn 0 (λ_=>o) 5, .run, .run, .opn 0 (λ_=>o) 8, .run], λj=>iM [Ak (Hd.kd (⟨some 900,[0,1,0,1,0,1,1,1],[.blk 0, .code [1,1,1,1]],[0,4,5,20],[.objk D5 ⟨o,0,none⟩ (s), .box 29 [.ic .i64 (k), .ic .i64 (a), .ic .i64 (c)], .box 32 [.ic .i64 (e), .ic .i64 (u), .ic .i64 (v)], .i .i64]⟩:Hd Sg)) (λk_'=>Bq s k a c e u v k_'),Ak (Hd.kd (⟨some 900,[0,1,0,1,0,1,1,1],[.blk 0, .code [1,1,1,1]],[0,4,5,20],[.boxc o Dq.t Dq.l, .box 29 [.ic .i64 (k), .ic .i64 (a), .ic .i64 (c)], .box 32 [.ic .i64 (e), .ic .i64 (u), .ic .i64 (v)], .i .i64]⟩:Hd Sg)) (λt_' p_' h_' l_' r0_' r1_' r2_' r3_' r4_' r5_' r6_' r7_' k_'=>Bf s k a c e u v t_' p_' h_' l_' r0_' r1_' r2_' r3_' r4_' r5_' r6_' r7_' k_'),Ak (Hd.kd (⟨some 900,[1,0,1,1,1,0,1,0,1,1,1],[.blk 0, .code [1,1,1,1]],[0,4,5,7],[.objk D5 ⟨o,0,none⟩ (s), .box 29 [.ic .i64 (k), .ic .i64 (a), .ic .i64 (c)], .box 32 [.ic .i64 (e), .ic .i64 (u), .ic .i64 (v)], .box 55 [.i .i64, .i .i64]]⟩:Hd Sg)) (λy_' z_'=>Bv s k a c e u v y_' z_'),Ak (Hd.kd (⟨some 900,[1,0,1,1,1,0,1,0,1,1,1],[.blk 0, .code [1,1,1,1]],[0,4,5,7],[.boxc o Dq.t Dq.l, .box 29 [.ic .i64 (k), .ic .i64 (a), .ic .i64 (c)], .box 32 [.ic .i64 (e), .ic .i64 (u), .ic .i64 (v)], .box 55 [.i .i64, .i .i64]]⟩:Hd Sg)) (λt_' p_' h_' l_' r0_' r1_' r2_' r3_' r4_' r5_' r6_' r7_' y_' z_'=>Bg s k a c e u v t_' p_' h_' l_' r0_' r1_' r2_' r3_' r4_' r5_' r6_' r7_' y_' z_'),Ak (Hd.kd (⟨some 900,[0,0,1,1,1,1,1,1,1,0,1,0,1,1,1],[.code [1,0,1,1,1,1,1,1,1,0,1,0,1,1,1], .blk 0, .code [1,1,1,1]],[0,4,5,20],[.objk D5 ⟨o,0,none⟩ (s), .box 29 [.ic .i64 (k), .ic .i64 (a), .ic .i64 (c)], .box 32 [.ic .i64 (e), .ic .i64 (u), .ic .i64 (v)], .i .i64]⟩:Hd Sg)) (λk_'=>Bz s k a c e u v k_'),Ak (Hd.kd (⟨some 900,[0,0,1,1,1,1,1,1,1,0,1,0,1,1,1],[.code [1,0,1,1,1,1,1,1,1,0,1,0,1,1,1], .blk 0, .code [1,1,1,1]],[0,4,5,20],[.boxc o Dq.t Dq.l, .box 29 [.ic .i64 (k), .ic .i64 (a), .ic .i64 (c)], .box 32 [.ic .i64 (e), .ic .i64 (u), .ic .i64 (v)], .i .i64]⟩:Hd Sg)) (λt_' p_' h_' l_' r0_' r1_' r2_' r3_' r4_' r5_' r6_' r7_' k_'=>Bh s k a c e u v t_' p_' h_' l_' r0_' r1_' r2_' r3_' r4_' r5_' r6_' r7_' k_'),Ak (Hd.kd (⟨some 900,[1,1,0,1,1,1,1,1,1,1,0,1,0,1,1,1],[.blk 0, .code [1,1,1,1]],[0,4,5],[.boxc o Dq.t Dq.l, .box 29 [.ic .i64 (k), .i .i64, .ic .i64 (c)], .box 32 [.ic .i64 (e), .ic .i64 (u), .ic .i64 (v)]]⟩:Hd Sg)) (λt_' p_' h_' l_' r0_' r1_' r2_' r3_' r4_' r5_' r6_' r7_' a_'=>AU s k a c e u v t_' p_' h_' l_' r0_' r1_' r2_' r3_' r4_' r5_' r6_' r7_' a_'),Ak (Hd.kd (⟨some 900,[0,1,1,1,1,1,1,1,1,1,0,1,0,1,1,1],[.blk 0, .code [1,1,1,1]],[0,4,5],[.objk D5 ⟨o,0,none⟩ (s), .box 29 [.ic .i64 (k), .i .i64, .ic .i64 (c)], .box 32 [.ic .i64 (e), .ic .i64 (u), .ic .i64 (v)]]⟩:Hd Sg)) (λa_'=>BA s k a c e u v a_'),Ak (Hd.kd (⟨some 900,[0,1,1,1,1,1,1,1,1,1,0,1,0,1,1,1],[.blk 0, .code [1,1,1,1]],[0,4,5],[.boxc o Dq.t Dq.l, .box 29 [.ic .i64 (k), .i .i64, .ic .i64 (c)], .box 32 [.ic .i64 (e), .ic .i64 (u), .ic .i64 (v)]]⟩:Hd Sg)) (λt_' p_' h_' l_' r0_' r1_' r2_' r3_' r4_' r5_' r6_' r7_' a_'=>AQ s k a c e u v t_' p_' h_' l_' r0_' r1_' r2_' r3_' r4_' r5_' r6_' r7_' a_')] j (λ_=>False), λj=>iM [Ak (Hd.kd (⟨some 900,[0,1,0,1,0,1,1,1],[.blk 0, .code [1,1,1,1]],[0,4,5,20],[.objk D5 ⟨o,0,none⟩ (s), .box 29 [.ic .i64 (k), .ic .i64 (a), .ic .i64 (c)], .box 32 [.ic .i64 (e), .ic .i64 (u), .ic .i64 (v)], .i .i64]⟩:Hd Sg)) (λk_'=>(11,0,0)),Ak (Hd.kd (⟨some 900,[0,1,0,1,0,1,1,1],[.blk 0, .code [1,1,1,1]],[0,4,5,20],[.boxc o Dq.t Dq.l, .box 29 [.ic .i64 (k), .ic .i64 (a), .ic .i64 (c)], .box 32 [.ic .i64 (e), .ic .i64 (u), .ic .i64 (v)], .i .i64]⟩:Hd Sg)) (λt_' p_' h_' l_' r0_' r1_' r2_' r3_' r4_' r5_' r6_' r7_' k_'=>(10,0,0)),Ak (Hd.kd (⟨some 900,[1,0,1,1,1,0,1,0,1,1,1],[.blk 0, .code [1,1,1,1]],[0,4,5,7],[.objk D5 ⟨o,0,none⟩ (s), .box 29 [.ic .i64 (k), .ic .i64 (a), .ic .i64 (c)], .box 32 [.ic .i64 (e), .ic .i64 (u), .ic .i64 (v)], .box 55 [.i .i64, .i .i64]]⟩:Hd Sg)) (λy_' z_'=>(11,0,0)),Ak (Hd.kd (⟨some 900,[1,0,1,1,1,0,1,0,1,1,1],[.blk 0, .code [1,1,1,1]],[0,4,5,7],[.boxc o Dq.t Dq.l, .box 29 [.ic .i64 (k), .ic .i64 (a), .ic .i64 (c)], .box 32 [.ic .i64 (e), .ic .i64 (u), .ic .i64 (v)], .box 55 [.i .i64, .i .i64]]⟩:Hd Sg)) (λt_' p_' h_' l_' r0_' r1_' r2_' r3_' r4_' r5_' r6_' r7_' y_' z_'=>(10,0,0)),Ak (Hd.kd (⟨some 900,[0,0,1,1,1,1,1,1,1,0,1,0,1,1,1],[.code [1,0,1,1,1,1,1,1,1,0,1,0,1,1,1], .blk 0, .code [1,1,1,1]],[0,4,5,20],[.objk D5 ⟨o,0,none⟩ (s), .box 29 [.ic .i64 (k), .ic .i64 (a), .ic .i64 (c)], .box 32 [.ic .i64 (e), .ic .i64 (u), .ic .i64 (v)], .i .i64]⟩:Hd Sg)) (λk_'=>(11,0,0)),Ak (Hd.kd (⟨some 900,[0,0,1,1,1,1,1,1,1,0,1,0,1,1,1],[.code [1,0,1,1,1,1,1,1,1,0,1,0,1,1,1], .blk 0, .code [1,1,1,1]],[0,4,5,20],[.boxc o Dq.t Dq.l, .box 29 [.ic .i64 (k), .ic .i64 (a), .ic .i64 (c)], .box 32 [.ic .i64 (e), .ic .i64 (u), .ic .i64 (v)], .i .i64]⟩:Hd Sg)) (λt_' p_' h_' l_' r0_' r1_' r2_' r3_' r4_' r5_' r6_' r7_' k_'=>(10,0,0)),Ak (Hd.kd (⟨some 900,[1,1,0,1,1,1,1,1,1,1,0,1,0,1,1,1],[.blk 0, .code [1,1,1,1]],[0,4,5],[.boxc o Dq.t Dq.l, .box 29 [.ic .i64 (k), .i .i64, .ic .i64 (c)], .box 32 [.ic .i64 (e), .ic .i64 (u), .ic .i64 (v)]]⟩:Hd Sg)) (λt_' p_' h_' l_' r0_' r1_' r2_' r3_' r4_' r5_' r6_' r7_' a_'=>(5,0,0)),Ak (Hd.kd (⟨some 900,[0,1,1,1,1,1,1,1,1,1,0,1,0,1,1,1],[.blk 0, .code [1,1,1,1]],[0,4,5],[.objk D5 ⟨o,0,none⟩ (s), .box 29 [.ic .i64 (k), .i .i64, .ic .i64 (c)], .box 32 [.ic .i64 (e), .ic .i64 (u), .ic .i64 (v)]]⟩:Hd Sg)) (λa_'=>(11,0,0)),Ak (Hd.kd (⟨some 900,[0,1,1,1,1,1,1,1,1,1,0,1,0,1,1,1],[.blk 0, .code [1,1,1,1]],[0,4,5],[.boxc o Dq.t Dq.l, .box 29 [.ic .i64 (k), .i .i64, .ic .i64 (c)], .box 32 [.ic .i64 (e), .ic .i64 (u), .ic .i64 (v)]]⟩:Hd Sg)) (λt_' p_' h_' l_' r0_' r1_' r2_' r3_' r4_' r5_' r6_' r7_' a_'=>(10,0,0))] j (λ_=>(0,0,0)),by kernel_rfl, λ_ _=>by kernel_rfl,by kernel_rfl,⟨_, λ_ _ _=>by kernel_rfl,AeU s k a c e u v hp0⟩,⟨λk_ hI=>⟨s, λ_=>by kernel_rfl, λt_ p_ h_ l_ x0_ x1_ x2_ x3_ x4_ x5_ x6_ x7_ hx=>⟨_, λ_ _=>by kernel_rfl,AeV s k a c e u v hp0 k_ t_ p_ h_ l_ x0_ x1_ x2_ x3_ x4_ x5_ x6_ x7_ hI hx⟩⟩,⟨λt_ p_ h_ l_ r0_ r1_ r2_ r3_ r4_ r5_ r6_ r7_ k_ hI=>⟨_, λ_ _ _=>by kernel_rfl,AeW s k a c e u v hp0 t_ p_ h_ l_ r0_ r1_ r2_ r3_ r4_ r5_ r6_ r7_ k_ hI⟩,⟨λy_ z_ hI=>⟨s, λ_=>by kernel_rfl, λt_ p_ h_ l_ x0_ x1_ x2_ x3_ x4_ x5_ x6_ x7_ hx=>⟨_, λ_ _=>by kernel_rfl,AeX s k a c e u v hp0 y_ z_ t_ p_ h_ l_ x0_ x1_ x2_ x3_ x4_ x5_ x6_ x7_ hI hx⟩⟩,⟨λt_ p_ h_ l_ r0_ r1_ r2_ r3_ r4_ r5_ r6_ r7_ y_ z_ hI=>⟨_, λ_ _ _=>by kernel_rfl,AeY s k a c e u v hp0 t_ p_ h_ l_ r0_ r1_ r2_ r3_ r4_ r5_ r6_ r7_ y_ z_ hI⟩,⟨λk_ hI=>⟨s, λ_=>by kernel_rfl, λt_ p_ h_ l_ x0_ x1_ x2_ x3_ x4_ x5_ x6_ x7_ hx=>⟨_, λ_ _=>by kernel_rfl,AeZ s k a c e u v hp0 k_ t_ p_ h_ l_ x0_ x1_ x2_ x3_ x4_ x5_ x6_ x7_ hI hx⟩⟩,⟨λt_ p_ h_ l_ r0_ r1_ r2_ r3_ r4_ r5_ r6_ r7_ k_ hI=>⟨_, λ_ _ _=>by kernel_rfl,Afa s k a c e u v hp0 t_ p_ h_ l_ r0_ r1_ r2_ r3_ r4_ r5_ r6_ r7_ k_ hI⟩,⟨λt_ p_ h_ l_ r0_ r1_ r2_ r3_ r4_ r5_ r6_ r7_ a_ hI=>(by
   rcases AiP s k a c e u v hp0 t_ p_ h_ l_ r0_ r1_ r2_ r3_ r4_ r5_ r6_ r7_ a_ hI with rfl|rfl|rfl|rfl|rfl|rfl|rfl|rfl
   ·exact ⟨_, λ_ _ _=>by kernel_rfl,AaJ s k a c e u v hp0 t_ p_ h_ l_ r0_ r1_ r2_ r3_ r4_ r5_ r6_ r7_ hI⟩
   ·exact ⟨_, λ_ _ _=>by kernel_rfl,AaK s k a c e u v hp0 t_ p_ h_ l_ r0_ r1_ r2_ r3_ r4_ r5_ r6_ r7_ hI⟩
   ·exact ⟨_, λ_ _ _=>by kernel_rfl,AaL s k a c e u v hp0 t_ p_ h_ l_ r0_ r1_ r2_ r3_ r4_ r5_ r6_ r7_ hI⟩
   ·exact ⟨_, λ_ _ _=>by kernel_rfl,AaM s k a c e u v hp0 t_ p_ h_ l_ r0_ r1_ r2_ r3_ r4_ r5_ r6_ r7_ hI⟩
   ·exact ⟨_, λ_ _ _=>by kernel_rfl,AaN s k a c e u v hp0 t_ p_ h_ l_ r0_ r1_ r2_ r3_ r4_ r5_ r6_ r7_ hI⟩
   ·exact ⟨_, λ_ _ _=>by kernel_rfl,AaO s k a c e u v hp0 t_ p_ h_ l_ r0_ r1_ r2_ r3_ r4_ r5_ r6_ r7_ hI⟩
   ·exact ⟨_, λ_ _ _=>by kernel_rfl,AaP s k a c e u v hp0 t_ p_ h_ l_ r0_ r1_ r2_ r3_ r4_ r5_ r6_ r7_ hI⟩
   ·exact ⟨_, λ_ _ _=>by kernel_rfl,AaQ s k a c e u v hp0 t_ p_ h_ l_ r0_ r1_ r2_ r3_ r4_ r5_ r6_ r7_ hI⟩),⟨λa_ hI=>⟨s, λ_=>by kernel_rfl, λt_ p_ h_ l_ x0_ x1_ x2_ x3_ x4_ x5_ x6_ x7_ hx=>⟨_, λ_ _=>by kernel_rfl,Afb s k a c e u v hp0 a_ t_ p_ h_ l_ x0_ x1_ x2_ x3_ x4_ x5_ x6_ x7_ hI hx⟩⟩,⟨λt_ p_ h_ l_ r0_ r1_ r2_ r3_ r4_ r5_ r6_ r7_ a_ hI=>(by
   rcases AiQ s k a c e u v hp0 t_ p_ h_ l_ r0_ r1_ r2_ r3_ r4_ r5_ r6_ r7_ a_ hI with rfl|rfl|rfl|rfl|rfl|rfl|rfl|rfl
   ·exact ⟨_, λ_ _ _=>by kernel_rfl,AaR s k a c e u v hp0 t_ p_ h_ l_ r0_ r1_ r2_ r3_ r4_ r5_ r6_ r7_ hI⟩
   ·exact ⟨_, λ_ _ _=>by kernel_rfl,AaS s k a c e u v hp0 t_ p_ h_ l_ r0_ r1_ r2_ r3_ r4_ r5_ r6_ r7_ hI⟩
   ·exact ⟨_, λ_ _ _=>by kernel_rfl,AaT s k a c e u v hp0 t_ p_ h_ l_ r0_ r1_ r2_ r3_ r4_ r5_ r6_ r7_ hI⟩
   ·exact ⟨_, λ_ _ _=>by kernel_rfl,AaU s k a c e u v hp0 t_ p_ h_ l_ r0_ r1_ r2_ r3_ r4_ r5_ r6_ r7_ hI⟩
   ·exact ⟨_, λ_ _ _=>by kernel_rfl,AaV s k a c e u v hp0 t_ p_ h_ l_ r0_ r1_ r2_ r3_ r4_ r5_ r6_ r7_ hI⟩
   ·exact ⟨_, λ_ _ _=>by kernel_rfl,AaW s k a c e u v hp0 t_ p_ h_ l_ r0_ r1_ r2_ r3_ r4_ r5_ r6_ r7_ hI⟩
   ·exact ⟨_, λ_ _ _=>by kernel_rfl,AaX s k a c e u v hp0 t_ p_ h_ l_ r0_ r1_ r2_ r3_ r4_ r5_ r6_ r7_ hI⟩
   ·exact ⟨_, λ_ _ _=>by kernel_rfl,AaY s k a c e u v hp0 t_ p_ h_ l_ r0_ r1_ r2_ r3_ r4_ r5_ r6_ r7_ hI⟩),trivial⟩⟩⟩⟩⟩⟩⟩⟩⟩⟩
def Aei:Tb:=(18,Aeg)::Aht
theorem Ahv:DU Aei:=Ej Ak9 XO
end
section
open Go.Sl
def EI (xs ys:LI):List (Int×Int):=xs.zip ys
theorem AoD {xs ys:LI} (hl:xs.length=ys.length) {i:Nat} (hi:i<xs.length):(EI xs ys)[i]? =some (xs.getD i 0,ys.getD i 0):=by
 unfold EI
 rw [iC,iC,iK hi,iK (by omega:i<ys.length)]
 rw [iK (by rw [List.length_zip];omega),List.getElem_zip]
 rfl
theorem LC {xs ys:LI} (hl:xs.length=ys.length):(EI xs ys).length=xs.length:=by
 unfold EI;rw [List.length_zip];omega
def AlQ:Tb:=Aei
theorem Aej:DU AlQ:=Ahv
end
section
open Go.Sl
def CY (l:LI) (g:Int):Int:=match l.findIdx? (· ==g) with
 |some i=>(i:Int)
 |none=> -1
def Ank (t p h:Int):Int:=iS .i64 (BX t p h*iS .i64 (p+1))
def Tf (t p h a z:Int):Bool:=decide (z≥1)&&decide (a≥BX t p h)&&decide (a≤Ank t p h)&&decide (z≤iS .i64 (Ank t p h-a))
def fcR (s:RS) (a z w:Int) (j:Nat):Bool:=((j:Int) !=w&&decide (s.a.getD j 0<iS .i64 (a+z)))&&decide (a<iS .i64 (s.a.getD j 0+s.z.getD j 0))
def XP (s:RS) (a z w:Int):Bool:=Tf s.t s.p s.h a z&&(jQ s.a.length).all λj=>!fcR s a z w j
def insL:List (Int×Int)→Int×Int→List (Int×Int)
 |[],b=>[b]
 |x::r,b=>bif decide (x.1>b.1) then b::x::r else x::insL r b
def DI (s:RS) (a z:Int):RS:=⟨s.t,s.p,s.h,(insL (EI s.a s.z) (a,z)).map (·.1),(insL (EI s.a s.z) (a,z)).map (·.2),s.r0,s.r1,s.r2,s.r3,s.r4,s.r5,s.r6,s.r7⟩
def Dz (s:RS) (k:Int):RS:=⟨s.t,s.p,s.h,s.a.eraseIdx k.toNat,s.z.eraseIdx k.toNat,s.r0,s.r1,s.r2,s.r3,s.r4,s.r5,s.r6,s.r7⟩
theorem Ap9 {l:LI} {g:Int} {i:Nat} (h:i<l.length) (he:l.getD i 0=g) (hb:∀j,j<i→l.getD j 0≠g):CY l g=(i:Int):=by
 have:l.findIdx? (· ==g)=some i:=by
  rw [lN]
  refine ⟨h,?_, λj hj=>?_⟩
  ·rw [iC,iK h] at he
   simpa using he
  ·have:=hb j hj
   rw [iC,iK (by omega)] at this
   simpa using this
 unfold CY;rw [this]
theorem ApA {l:LI} {g:Int} (hb:∀j,j<l.length→l.getD j 0≠g):CY l g= -1:=by
 have:l.findIdx? (· ==g)=none:=by
  rw [mN]
  intro x hx
  obtain ⟨j,hj,rfl⟩:=List.getElem_of_mem hx
  have:=hb j hj
  rw [iC,iK hj] at this
  simpa using this
 unfold CY;rw [this]
theorem YO (b:Int×Int):∀l:List (Int×Int),(insL l b).length=l.length+1
 |[]=>rfl
 |x::r=>by
  unfold insL
  cases decide (x.1>b.1) with
  |true=>rfl
  |false=>simp [YO b r]
theorem Oq {xs ys:LI} {x y:Int} (h:ys.length=xs.length):EI (xs++[x]) (ys++[y])=EI xs ys++[(x,y)]:=by
 unfold EI;rw [List.zip_append h.symm];rfl
theorem Aj0 {xs ys:LI} (h:ys.length=xs.length):(EI xs ys).map (·.1)=xs:=by
 unfold EI;exact List.map_fst_zip (by omega)
theorem Aj1 {xs ys:LI} (h:ys.length=xs.length):(EI xs ys).map (·.2)=ys:=by
 unfold EI;exact List.map_snd_zip (by omega)
theorem Anl {xs ys:LI} (h:ys.length=xs.length) {i:Nat} (hi:i<xs.length):(EI xs ys).drop i=(xs.getD i 0,ys.getD i 0)::(EI xs ys).drop (i+1):=by
 have hl:i<(EI xs ys).length:=by rw [LC h.symm];exact hi
 rw [List.drop_eq_getElem_cons hl]
 have:=AoD h.symm hi
 rw [iK hl] at this
 injection this with this
 rw [this]
theorem AlR {l:LI} {i k:Nat} (hi:i<l.length) (h:i≠k):(l.take (i+1)).eraseIdx k=(l.take i).eraseIdx k++[l.getD i 0]:=by
 have e:l.take (i+1)=l.take i++[l.getD i 0]:=by
  rw [List.take_add_one,iK hi,iC,iK hi];rfl
 rw [e]
 have hl:(l.take i).length=i:=by rw [mE];omega
 by_cases hk:k<i
 ·rw [List.eraseIdx_append_of_lt_length (by omega)]
 ·rw [mJ (by rw [jK,hl];simp;omega),mJ (by omega)]
theorem AlS {l:LI} {i:Nat} (hi:i<l.length):(l.take (i+1)).eraseIdx i=(l.take i).eraseIdx i:=by
 have e:l.take (i+1)=l.take i++[l.getD i 0]:=by
  rw [List.take_add_one,iK hi,iC,iK hi];rfl
 have hl:(l.take i).length=i:=by rw [mE];omega
 rw [e,List.eraseIdx_append_of_length_le (by omega),hl,nE,mJ (l:=l.take i) (by omega)]
 simp
theorem AoE (l:LI) (i k:Nat):((l.take i).eraseIdx k).length≤l.length:=lO (List.length_eraseIdx_le _ _) (by rw [mE];omega)
def Aoa (t p h:Int):RS:=⟨t,p,h,[],[],0,0,0,0,0,0,0,0⟩
abbrev AoF:Ct Sg:=⟨none,false,[.agg [.i .i64, .i .i64, .i .i64]], .nobj D7⟩
def Aj2:Entry Sg:=CP AoF (λ(t:Int) (p:Int) (h:Int)=>⟨t,p,h,[],[],0,0,0,0,0,0,0,0⟩) (λt p h=>[Ap t p h=true])
def Aj3 (t p h:Int) (Q0:Bool→Prop) (O_:Int→Int→Int→Nat→LI→LI→Int→Int→Int→Int→Int→Int→Int→Int→Prop):Prop:=(BH (!Ap t p h) (Q0 (Ap t p h)) (O_ (t) (p) (h) (0) ([]) ([]) (0) (0) (0) (0) (0) (0) (0) (0)))
def YP (t p h:Int) (q_:Bool):Prop:=False
theorem AiR (t p h:Int) (hp0:Ap t p h=true):Aj3 t p h (λq_'=>YP t p h q_') (λt_ p_ h_ n_ al_ zl_ x0_ x1_ x2_ x3_ x4_ x5_ x6_ x7_=>BI ⟨t_,p_,h_,n_,al_,zl_,x0_,x1_,x2_,x3_,x4_,x5_,x6_,x7_⟩ ((Aoa t p h))):=by
 unfold Aj3
 try unfold YP
 refine ⟨λh=>?_, λ_=>⟨rfl,rfl,rfl⟩⟩
 rw [hp0] at h;cases h
theorem Anm:DZ 17 Aj2:=
 Al2 Dg I5 Aej (I:=[1358000]) Try.func17 mix (B:=AY Try.f17) (by kernel_rfl) rfl (by kernel_rfl) 400
  λp0 t p h hb hp=>have hp0:Ap t p h=true:=hp _ (.head _);⟨(Aoa t p h),[⟨some 0,[0,0,1,0,1],[.code [1,0,1,0,1], .code [1,1]],[4],[.b]⟩],[.run], λj=>iM [Ak (Hd.kd (⟨some 0,[0,0,1,0,1],[.code [1,0,1,0,1], .code [1,1]],[4],[.b]⟩:Hd Sg)) (λq_'=>YP t p h q_')] j (λ_=>False), λj=>iM [Ak (Hd.kd (⟨some 0,[0,0,1,0,1],[.code [1,0,1,0,1], .code [1,1]],[4],[.b]⟩:Hd Sg)) (λq_'=>(0,0,0))] j (λ_=>(0,0,0)),by kernel_rfl, λ_=>rfl,by kernel_rfl,by kernel_rfl,⟨_, λ_ _ _=>by kernel_rfl,AiR t p h hp0⟩,⟨λq_ hI=>False.elim hI,trivial⟩⟩
def Aj4:Tb:=(17,Aj2)::AlQ
theorem Aba:DU Aj4:=Ej Anm Aej
def Ro (s:RS) (g:Int):Int:=CY s.a g
abbrev ApB:Ct Sg:=⟨some D7,true,[.i .i64], .i .i64⟩
def AlT:Entry Sg:=CP ApB (λ(s:RS) (g:Int)=>CY s.a g) (λs g=>[s.a.length≤1000])
def Abb (s:RS) (g t p h:Int) (n:Nat) (al zl:LI) (x0 x1 x2 x3 x4 x5 x6 x7:Int) (Q0:Int→Int→Int→Nat→LI→LI→Int→Int→Int→Int→Int→Int→Int→Int→Int→Prop) (R_:Int→Prop) (O_:Int→Int→Int→Nat→LI→LI→Int→Int→Int→Int→Int→Int→Int→Int→Int→Prop):Prop:=(Q0 (t) (p) (h) (n) (al) (zl) (x0) (x1) (x2) (x3) (x4) (x5) (x6) (x7) (0))
def Aj5 (s:RS) (g t_ p_ h_:Int) (n_:Nat) (a_ z_:LI) (r0_ r1_ r2_ r3_ r4_ r5_ r6_ r7_ i_:Int) (Q0:Int→Int→Int→Nat→LI→LI→Int→Int→Int→Int→Int→Int→Int→Int→Int→Prop) (R_:Int→Prop) (O_:Int→Int→Int→Nat→LI→LI→Int→Int→Int→Int→Int→Int→Int→Int→Int→Prop):Prop:=(BH (decide (i_<(↑n_:Int))) (Ba (0≤i_∧i_<(↑n_:Int)) (BH (iM a_ (jL i_) 0==g) (O_ (t_) (p_) (h_) (n_) (a_) (z_) (r0_) (r1_) (r2_) (r3_) (r4_) (r5_) (r6_) (r7_) (i_)) (Q0 (t_) (p_) (h_) (n_) (a_) (z_) (r0_) (r1_) (r2_) (r3_) (r4_) (r5_) (r6_) (r7_) (iS iB (i_+1))))) (O_ (t_) (p_) (h_) (n_) (a_) (z_) (r0_) (r1_) (r2_) (r3_) (r4_) (r5_) (r6_) (r7_) ((-1))))
def J6 (s:RS) (g t_ p_ h_:Int) (n_:Nat) (a_ z_:LI) (r0_ r1_ r2_ r3_ r4_ r5_ r6_ r7_ i_:Int):Prop:=BI ⟨t_,p_,h_,n_,a_,z_,r0_,r1_,r2_,r3_,r4_,r5_,r6_,r7_⟩ s∧0≤i_∧i_≤(a_.length:Int)∧∀j:Nat,j<i_.toNat→a_.getD j 0≠g
theorem AkA (s:RS) (g t p h:Int) (n:Nat) (al zl:LI) (x0 x1 x2 x3 x4 x5 x6 x7:Int) (hp0:s.a.length≤1000) (hx:BI ⟨t,p,h,n,al,zl,x0,x1,x2,x3,x4,x5,x6,x7⟩ (s)):Abb s g t p h n al zl x0 x1 x2 x3 x4 x5 x6 x7 (λt_' p_' h_' n_' a_' z_' r0_' r1_' r2_' r3_' r4_' r5_' r6_' r7_' i_'=>J6 s g t_' p_' h_' n_' a_' z_' r0_' r1_' r2_' r3_' r4_' r5_' r6_' r7_' i_') (λr__=>r__=(Ro s g)) (λt_ p_ h_ n_ al_ zl_ x0_ x1_ x2_ x3_ x4_ x5_ x6_ x7_ r_=>BI ⟨t_,p_,h_,n_,al_,zl_,x0_,x1_,x2_,x3_,x4_,x5_,x6_,x7_⟩ (s)∧r_=(Ro s g)):=by
 have key:∀x:RX,BI x s→Abb s g x.t x.p x.h x.n x.a x.z x.r0 x.r1 x.r2 x.r3 x.r4 x.r5 x.r6 x.r7 (λt_' p_' h_' n_' a_' z_' r0_' r1_' r2_' r3_' r4_' r5_' r6_' r7_' i_'=>J6 s g t_' p_' h_' n_' a_' z_' r0_' r1_' r2_' r3_' r4_' r5_' r6_' r7_' i_') (λr__=>r__=(Ro s g)) (λt_ p_ h_ n_ al_ zl_ x0_ x1_ x2_ x3_ x4_ x5_ x6_ x7_ r_=>BI ⟨t_,p_,h_,n_,al_,zl_,x0_,x1_,x2_,x3_,x4_,x5_,x6_,x7_⟩ (s)∧r_=(Ro s g)):=by
  intro x ho
  unfold Abb
  try unfold J6
  exact ⟨ho,by decide,by omega, λj hj=>absurd hj (kR j)⟩
 exact key ⟨t,p,h,n,al,zl,x0,x1,x2,x3,x4,x5,x6,x7⟩ hx
theorem AkB (s:RS) (g:Int) (hp0:s.a.length≤1000) (t_ p_ h_:Int) (n_:Nat) (a_ z_:LI) (r0_ r1_ r2_ r3_ r4_ r5_ r6_ r7_ i_:Int) (hI:J6 s g t_ p_ h_ n_ a_ z_ r0_ r1_ r2_ r3_ r4_ r5_ r6_ r7_ i_):Aj5 s g t_ p_ h_ n_ a_ z_ r0_ r1_ r2_ r3_ r4_ r5_ r6_ r7_ i_ (λt_' p_' h_' n_' a_' z_' r0_' r1_' r2_' r3_' r4_' r5_' r6_' r7_' i_'=>J6 s g t_' p_' h_' n_' a_' z_' r0_' r1_' r2_' r3_' r4_' r5_' r6_' r7_' i_'∧lx (((a_'.length:Int)-i_').toNat,0,0) (((a_.length:Int)-i_).toNat,0,0)) (λr__=>r__=(Ro s g)) (λt_ p_ h_ n_ al_ zl_ x0_ x1_ x2_ x3_ x4_ x5_ x6_ x7_ r_=>BI ⟨t_,p_,h_,n_,al_,zl_,x0_,x1_,x2_,x3_,x4_,x5_,x6_,x7_⟩ (s)∧r_=(Ro s g)):=by
 unfold J6 at hI
 unfold Aj5
 try unfold J6
 obtain ⟨hR,h1,h2,h3⟩:=hI
 have e:=hR.eq
 subst e
 have hn:n_=a_.length:=hR.n
 have hz:z_.length=a_.length:=hR.z
 subst hn
 have hp:a_.length≤1000:=hp0
 refine ⟨λhlt=>?_, λhlt=>?_⟩
 ·have hlt:i_<(a_.length:Int):=by simpa using hlt
  refine ⟨⟨h1,hlt⟩, λ_=>⟨λhg=>?_, λhg=>?_⟩⟩
  ·refine ⟨hR,?_⟩
   show i_=CY a_ g
   rw [Ap9 (i:=i_.toNat) (by omega) (by simpa using hg) h3];omega
  ·rw [Ic (n:=i_+1) (by omega)]
   refine ⟨⟨hR,by omega,by omega, λj hj=>?_⟩,BU⟩
   by_cases hji:j=i_.toNat
   ·subst hji;simpa using hg
   ·exact h3 j (by omega)
 ·have hlt:¬i_<(a_.length:Int):=by simpa using hlt
  refine ⟨hR,?_⟩
  show-1=CY a_ g
  rw [ApA λj hj=>h3 j (by omega)]
theorem AoG:DZ 25 AlT:=
 EX Dg I5 true Aba (I:=[103000000000,103000000001,103000000005]) Try.func25 mix (B:=AY Try.f25) (by kernel_rfl) rfl (by kernel_rfl) 400
  λo s g hb hp=>have hp0:s.a.length≤1000:=hp _ (.head _);⟨s,s,(Ro s g),[⟨none,[0,1,0,1],[.blk 0, .code [1,1]],[0,1,5],[.boxc o BL.t BL.l, .ic .i64 (g), .i .i64]⟩],[.run], λj=>iM [Ak (Hd.kd (⟨none,[0,1,0,1],[.blk 0, .code [1,1]],[0,1,5],[.boxc o BL.t BL.l, .ic .i64 (g), .i .i64]⟩:Hd Sg)) (λt_' p_' h_' n_' a_' z_' r0_' r1_' r2_' r3_' r4_' r5_' r6_' r7_' i_'=>J6 s g t_' p_' h_' n_' a_' z_' r0_' r1_' r2_' r3_' r4_' r5_' r6_' r7_' i_')] j (λ_=>False), λj=>iM [Ak (Hd.kd (⟨none,[0,1,0,1],[.blk 0, .code [1,1]],[0,1,5],[.boxc o BL.t BL.l, .ic .i64 (g), .i .i64]⟩:Hd Sg)) (λt_' p_' h_' n_' a_' z_' r0_' r1_' r2_' r3_' r4_' r5_' r6_' r7_' i_'=>(((a_'.length:Int)-i_').toNat,0,0))] j (λ_=>(0,0,0)),by kernel_rfl, λ_ _=>by kernel_rfl,by kernel_rfl, λt p h n al zl x0 x1 x2 x3 x4 x5 x6 x7 hx=>⟨Abb s g t p h n al zl x0 x1 x2 x3 x4 x5 x6 x7 (λt_' p_' h_' n_' a_' z_' r0_' r1_' r2_' r3_' r4_' r5_' r6_' r7_' i_'=>J6 s g t_' p_' h_' n_' a_' z_' r0_' r1_' r2_' r3_' r4_' r5_' r6_' r7_' i_') (λr__=>r__=(Ro s g)) (λt_ p_ h_ n_ al_ zl_ x0_ x1_ x2_ x3_ x4_ x5_ x6_ x7_ r_=>BI ⟨t_,p_,h_,n_,al_,zl_,x0_,x1_,x2_,x3_,x4_,x5_,x6_,x7_⟩ (s)∧r_=(Ro s g)), λ_ _ _ _=>by kernel_rfl,AkA s g t p h n al zl x0 x1 x2 x3 x4 x5 x6 x7 hp0 hx⟩,⟨λt_ p_ h_ n_ a_ z_ r0_ r1_ r2_ r3_ r4_ r5_ r6_ r7_ i_ hI=>⟨_, λ_ _ _=>by kernel_rfl,AkB s g hp0 t_ p_ h_ n_ a_ z_ r0_ r1_ r2_ r3_ r4_ r5_ r6_ r7_ i_ hI⟩,trivial⟩⟩
def AlU:Tb:=(25,AlT)::Aj4
theorem Aek:DU AlU:=Ej AoG Aba
def JU (s:RS) (ba bz:Int):Bool:=Tf s.t s.p s.h ba bz
abbrev AkC:Ct Sg:=⟨some D7,true,[.agg [.i .i64, .i .i64]], .b⟩
def Abc:Entry Sg:=CP AkC (λ(s:RS) (ba:Int) (bz:Int)=>Tf s.t s.p s.h ba bz) (λ_ _ _=>[])
def Nw (s:RS) (ba bz t p h:Int) (n:Nat) (al zl:LI) (x0 x1 x2 x3 x4 x5 x6 x7:Int) (R_:Bool→Prop) (O_:Int→Int→Int→Nat→LI→LI→Int→Int→Int→Int→Int→Int→Int→Int→Bool→Prop):Prop:=(O_ (t) (p) (h) (n) (al) (zl) (x0) (x1) (x2) (x3) (x4) (x5) (x6) (x7) (decide (bz≥1)&&decide (ba≥BX t p h)&&decide (ba≤iS iB (BX t p h*iS iB (p+1)))&&decide (bz≤iS iB (iS iB (BX t p h*iS iB (p+1))-ba))))
theorem Ada (s:RS) (ba bz t p h:Int) (n:Nat) (al zl:LI) (x0 x1 x2 x3 x4 x5 x6 x7:Int) (hx:BI ⟨t,p,h,n,al,zl,x0,x1,x2,x3,x4,x5,x6,x7⟩ (s)):Nw s ba bz t p h n al zl x0 x1 x2 x3 x4 x5 x6 x7 (λr__=>r__=(JU s ba bz)) (λt_ p_ h_ n_ al_ zl_ x0_ x1_ x2_ x3_ x4_ x5_ x6_ x7_ r_=>BI ⟨t_,p_,h_,n_,al_,zl_,x0_,x1_,x2_,x3_,x4_,x5_,x6_,x7_⟩ (s)∧r_=(JU s ba bz)):=by
 have key:∀x:RX,BI x s→Nw s ba bz x.t x.p x.h x.n x.a x.z x.r0 x.r1 x.r2 x.r3 x.r4 x.r5 x.r6 x.r7 (λr__=>r__=(JU s ba bz)) (λt_ p_ h_ n_ al_ zl_ x0_ x1_ x2_ x3_ x4_ x5_ x6_ x7_ r_=>BI ⟨t_,p_,h_,n_,al_,zl_,x0_,x1_,x2_,x3_,x4_,x5_,x6_,x7_⟩ (s)∧r_=(JU s ba bz)):=by
  intro x ho
  unfold Nw
  refine ⟨ho,?_⟩
  have e:=ho.eq
  subst e
  rfl
 exact key ⟨t,p,h,n,al,zl,x0,x1,x2,x3,x4,x5,x6,x7⟩ hx
theorem AiS:DZ 63 Abc:=
 EX Dg I5 true Aek (I:=[]) Try.func63 mix (B:=AY Try.f63) (by kernel_rfl) rfl (by kernel_rfl) 400
  λo s ba bz hb hp=>⟨s,s,(JU s ba bz),[],[], λj=>iM [] j (λ_=>False), λj=>iM [] j (λ_=>(0,0,0)),by kernel_rfl, λ_ _=>by kernel_rfl,by kernel_rfl, λt p h n al zl x0 x1 x2 x3 x4 x5 x6 x7 hx=>⟨Nw s ba bz t p h n al zl x0 x1 x2 x3 x4 x5 x6 x7 (λr__=>r__=(JU s ba bz)) (λt_ p_ h_ n_ al_ zl_ x0_ x1_ x2_ x3_ x4_ x5_ x6_ x7_ r_=>BI ⟨t_,p_,h_,n_,al_,zl_,x0_,x1_,x2_,x3_,x4_,x5_,x6_,x7_⟩ (s)∧r_=(JU s ba bz)), λ_ _ _ _=>by kernel_rfl,Ada s ba bz t p h n al zl x0 x1 x2 x3 x4 x5 x6 x7 hx⟩,trivial⟩
def Abd:Tb:=(63,Abc)::AlU
theorem Ti:DU Abd:=Ej AiS Aek
def KQ (s:RS) (ba bz w:Int):Bool:=XP s ba bz w
abbrev Ann:Ct Sg:=⟨some D7,true,[.agg [.i .i64, .i .i64], .i .i64], .b⟩
def Ahw:Entry Sg:=CP Ann (λ(s:RS) (ba:Int) (bz:Int) (w:Int)=>XP s ba bz w) (λs ba bz w=>[s.a.length≤1000])
def Rq (s:RS) (ba bz w t p h:Int) (n:Nat) (al zl:LI) (x0 x1 x2 x3 x4 x5 x6 x7:Int) (Q0:Int→Int→Int→Nat→LI→LI→Int→Int→Int→Int→Int→Int→Int→Int→Int→Prop) (R_:Bool→Prop) (O_:Int→Int→Int→Nat→LI→LI→Int→Int→Int→Int→Int→Int→Int→Int→Bool→Prop):Prop:=(BH (!(decide (bz≥1)&&decide (ba≥BX t p h)&&decide (ba≤iS iB (BX t p h*iS iB (p+1)))&&decide (bz≤iS iB (iS iB (BX t p h*iS iB (p+1))-ba)))) (O_ (t) (p) (h) (n) (al) (zl) (x0) (x1) (x2) (x3) (x4) (x5) (x6) (x7) (false)) (Q0 (t) (p) (h) (n) (al) (zl) (x0) (x1) (x2) (x3) (x4) (x5) (x6) (x7) (0)))
def Ael (s:RS) (ba bz w t_ p_ h_:Int) (n_:Nat) (a_ z_:LI) (r0_ r1_ r2_ r3_ r4_ r5_ r6_ r7_ i_:Int) (Q0:Int→Int→Int→Nat→LI→LI→Int→Int→Int→Int→Int→Int→Int→Int→Int→Prop) (R_:Bool→Prop) (O_:Int→Int→Int→Nat→LI→LI→Int→Int→Int→Int→Int→Int→Int→Int→Bool→Prop):Prop:=(BH (decide (i_<(↑n_:Int))) (Ba (0≤i_∧i_<(↑n_:Int)) (BH (i_ !=w&&decide (iM a_ (jL i_) 0<iS iB (ba+bz))&&decide (ba<iS iB (iM a_ (jL i_) 0+iM z_ (jL i_) 0))) (O_ (t_) (p_) (h_) (n_) (a_) (z_) (r0_) (r1_) (r2_) (r3_) (r4_) (r5_) (r6_) (r7_) (false)) (Q0 (t_) (p_) (h_) (n_) (a_) (z_) (r0_) (r1_) (r2_) (r3_) (r4_) (r5_) (r6_) (r7_) (iS iB (i_+1))))) (O_ (t_) (p_) (h_) (n_) (a_) (z_) (r0_) (r1_) (r2_) (r3_) (r4_) (r5_) (r6_) (r7_) (true)))
def Ii (s:RS) (ba bz w t_ p_ h_:Int) (n_:Nat) (a_ z_:LI) (r0_ r1_ r2_ r3_ r4_ r5_ r6_ r7_ i_:Int):Prop:=BI ⟨t_,p_,h_,n_,a_,z_,r0_,r1_,r2_,r3_,r4_,r5_,r6_,r7_⟩ s∧Tf s.t s.p s.h ba bz=true∧0≤i_∧i_≤(a_.length:Int)∧∀j:Nat,j<i_.toNat→fcR s ba bz w j=false
theorem Ahx (s:RS) (ba bz w t p h:Int) (n:Nat) (al zl:LI) (x0 x1 x2 x3 x4 x5 x6 x7:Int) (hp0:s.a.length≤1000) (hx:BI ⟨t,p,h,n,al,zl,x0,x1,x2,x3,x4,x5,x6,x7⟩ (s)):Rq s ba bz w t p h n al zl x0 x1 x2 x3 x4 x5 x6 x7 (λt_' p_' h_' n_' a_' z_' r0_' r1_' r2_' r3_' r4_' r5_' r6_' r7_' i_'=>Ii s ba bz w t_' p_' h_' n_' a_' z_' r0_' r1_' r2_' r3_' r4_' r5_' r6_' r7_' i_') (λr__=>r__=(KQ s ba bz w)) (λt_ p_ h_ n_ al_ zl_ x0_ x1_ x2_ x3_ x4_ x5_ x6_ x7_ r_=>BI ⟨t_,p_,h_,n_,al_,zl_,x0_,x1_,x2_,x3_,x4_,x5_,x6_,x7_⟩ (s)∧r_=(KQ s ba bz w)):=by
 have key:∀x:RX,BI x s→Rq s ba bz w x.t x.p x.h x.n x.a x.z x.r0 x.r1 x.r2 x.r3 x.r4 x.r5 x.r6 x.r7 (λt_' p_' h_' n_' a_' z_' r0_' r1_' r2_' r3_' r4_' r5_' r6_' r7_' i_'=>Ii s ba bz w t_' p_' h_' n_' a_' z_' r0_' r1_' r2_' r3_' r4_' r5_' r6_' r7_' i_') (λr__=>r__=(KQ s ba bz w)) (λt_ p_ h_ n_ al_ zl_ x0_ x1_ x2_ x3_ x4_ x5_ x6_ x7_ r_=>BI ⟨t_,p_,h_,n_,al_,zl_,x0_,x1_,x2_,x3_,x4_,x5_,x6_,x7_⟩ (s)∧r_=(KQ s ba bz w)):=by
  intro x ho
  unfold Rq
  try unfold Ii
  have e:=ho.eq
  subst e
  refine ⟨λh=>⟨ho,?_⟩, λh=>⟨ho,?_,by decide,by omega, λj hj=>absurd hj (kR j)⟩⟩
  ·have hi:Tf x.t x.p x.h ba bz=false:=(kW _).mp h
   show false=(Tf x.t x.p x.h ba bz&&_)
   rw [hi];rfl
  ·exact (oD _).mp h
 exact key ⟨t,p,h,n,al,zl,x0,x1,x2,x3,x4,x5,x6,x7⟩ hx
theorem Ahy (s:RS) (ba bz w:Int) (hp0:s.a.length≤1000) (t_ p_ h_:Int) (n_:Nat) (a_ z_:LI) (r0_ r1_ r2_ r3_ r4_ r5_ r6_ r7_ i_:Int) (hI:Ii s ba bz w t_ p_ h_ n_ a_ z_ r0_ r1_ r2_ r3_ r4_ r5_ r6_ r7_ i_):Ael s ba bz w t_ p_ h_ n_ a_ z_ r0_ r1_ r2_ r3_ r4_ r5_ r6_ r7_ i_ (λt_' p_' h_' n_' a_' z_' r0_' r1_' r2_' r3_' r4_' r5_' r6_' r7_' i_'=>Ii s ba bz w t_' p_' h_' n_' a_' z_' r0_' r1_' r2_' r3_' r4_' r5_' r6_' r7_' i_'∧lx (((a_'.length:Int)-i_').toNat,0,0) (((a_.length:Int)-i_).toNat,0,0)) (λr__=>r__=(KQ s ba bz w)) (λt_ p_ h_ n_ al_ zl_ x0_ x1_ x2_ x3_ x4_ x5_ x6_ x7_ r_=>BI ⟨t_,p_,h_,n_,al_,zl_,x0_,x1_,x2_,x3_,x4_,x5_,x6_,x7_⟩ (s)∧r_=(KQ s ba bz w)):=by
 unfold Ii at hI
 unfold Ael
 try unfold Ii
 obtain ⟨hR,h0,h1,h2,h3⟩:=hI
 have e:=hR.eq
 subst e
 have hn:n_=a_.length:=hR.n
 have hz:z_.length=a_.length:=hR.z
 subst hn
 have hp:a_.length≤1000:=hp0
 refine ⟨λhlt=>?_, λhlt=>?_⟩
 ·have hlt:i_<(a_.length:Int):=by simpa using hlt
  refine ⟨⟨h1,hlt⟩, λ_=>⟨λhg=>?_, λhg=>?_⟩⟩
  ·refine ⟨hR,?_⟩
   have hf:fcR ⟨t_,p_,h_,a_,z_,r0_,r1_,r2_,r3_,r4_,r5_,r6_,r7_⟩ ba bz w i_.toNat=true:=by unfold fcR;rw [Int.toNat_of_nonneg h1];exact hg
   have ha:((jQ a_.length).all λj=>!fcR ⟨t_,p_,h_,a_,z_,r0_,r1_,r2_,r3_,r4_,r5_,r6_,r7_⟩ ba bz w j)=false:=by
    rw [List.all_eq_false];exact ⟨i_.toNat,kS.2 (by omega),by rw [hf];simp⟩
   show false=(_&&(jQ a_.length).all _)
   rw [ha,oJ]
  ·rw [Ic (n:=i_+1) (by omega)]
   refine ⟨⟨hR,h0,by omega,by omega, λj hj=>?_⟩,BU⟩
   by_cases hji:j=i_.toNat
   ·subst hji;unfold fcR;rw [Int.toNat_of_nonneg h1];exact hg
   ·exact h3 j (by omega)
 ·have hlt:¬i_<(a_.length:Int):=by simpa using hlt
  refine ⟨hR,?_⟩
  have ha:((jQ a_.length).all λj=>!fcR ⟨t_,p_,h_,a_,z_,r0_,r1_,r2_,r3_,r4_,r5_,r6_,r7_⟩ ba bz w j)=true:=by
   rw [jN];intro j hj;rw [h3 j (by have:=kS.1 hj;omega)];rfl
  show true=(Tf t_ p_ h_ ba bz&&(jQ a_.length).all _)
  have h0:Tf t_ p_ h_ ba bz=true:=h0
  rw [ha,h0];rfl
theorem AlV:DZ 23 Ahw:=
 EX Dg I5 true Ti (I:=[63,411000000000,411000000004,411000000002,411000000007]) Try.func23 mix (B:=AY Try.f23) (by kernel_rfl) rfl (by kernel_rfl) 400
  λo s ba bz w hb hp=>have hp0:s.a.length≤1000:=hp _ (.head _);⟨s,s,(KQ s ba bz w),[⟨none,[0,1,0,1,1],[.blk 0, .code [1,1,1]],[0,4,2,7],[.boxc o BL.t BL.l, .box 55 [.ic .i64 (ba), .ic .i64 (bz)], .ic .i64 (w), .i .i64]⟩],[.run], λj=>iM [Ak (Hd.kd (⟨none,[0,1,0,1,1],[.blk 0, .code [1,1,1]],[0,4,2,7],[.boxc o BL.t BL.l, .box 55 [.ic .i64 (ba), .ic .i64 (bz)], .ic .i64 (w), .i .i64]⟩:Hd Sg)) (λt_' p_' h_' n_' a_' z_' r0_' r1_' r2_' r3_' r4_' r5_' r6_' r7_' i_'=>Ii s ba bz w t_' p_' h_' n_' a_' z_' r0_' r1_' r2_' r3_' r4_' r5_' r6_' r7_' i_')] j (λ_=>False), λj=>iM [Ak (Hd.kd (⟨none,[0,1,0,1,1],[.blk 0, .code [1,1,1]],[0,4,2,7],[.boxc o BL.t BL.l, .box 55 [.ic .i64 (ba), .ic .i64 (bz)], .ic .i64 (w), .i .i64]⟩:Hd Sg)) (λt_' p_' h_' n_' a_' z_' r0_' r1_' r2_' r3_' r4_' r5_' r6_' r7_' i_'=>(((a_'.length:Int)-i_').toNat,0,0))] j (λ_=>(0,0,0)),by kernel_rfl, λ_ _=>by kernel_rfl,by kernel_rfl, λt p h n al zl x0 x1 x2 x3 x4 x5 x6 x7 hx=>⟨Rq s ba bz w t p h n al zl x0 x1 x2 x3 x4 x5 x6 x7 (λt_' p_' h_' n_' a_' z_' r0_' r1_' r2_' r3_' r4_' r5_' r6_' r7_' i_'=>Ii s ba bz w t_' p_' h_' n_' a_' z_' r0_' r1_' r2_' r3_' r4_' r5_' r6_' r7_' i_') (λr__=>r__=(KQ s ba bz w)) (λt_ p_ h_ n_ al_ zl_ x0_ x1_ x2_ x3_ x4_ x5_ x6_ x7_ r_=>BI ⟨t_,p_,h_,n_,al_,zl_,x0_,x1_,x2_,x3_,x4_,x5_,x6_,x7_⟩ (s)∧r_=(KQ s ba bz w)), λ_ _ _ _=>by kernel_rfl,Ahx s ba bz w t p h n al zl x0 x1 x2 x3 x4 x5 x6 x7 hp0 hx⟩,⟨λt_ p_ h_ n_ a_ z_ r0_ r1_ r2_ r3_ r4_ r5_ r6_ r7_ i_ hI=>⟨_, λ_ _ _=>by kernel_rfl,Ahy s ba bz w hp0 t_ p_ h_ n_ a_ z_ r0_ r1_ r2_ r3_ r4_ r5_ r6_ r7_ i_ hI⟩,trivial⟩⟩
def Ahz:Tb:=(23,Ahw)::Abd
theorem XQ:DU Ahz:=Ej AlV Ti
def ES (s:RS) (g:Int):Bool:=[s.r0,s.r1,s.r2,s.r3,s.r4,s.r5,s.r6,s.r7].any (· ==g)
abbrev Ano:Ct Sg:=⟨some D7,true,[.i .i64], .b⟩
def Ah0:Entry Sg:=CP Ano (λ(s:RS) (g:Int)=>[s.r0,s.r1,s.r2,s.r3,s.r4,s.r5,s.r6,s.r7].any (· ==g)) (λ_ _=>[])
def Ru (s:RS) (g t p h:Int) (n:Nat) (al zl:LI) (x0 x1 x2 x3 x4 x5 x6 x7:Int) (R_:Bool→Prop) (O_:Int→Int→Int→Nat→LI→LI→Int→Int→Int→Int→Int→Int→Int→Int→Bool→Prop):Prop:=(Ba ((0:Int)≤0∧(0:Int)<8) (BH (x0==g) (O_ (t) (p) (h) (n) (al) (zl) (x0) (x1) (x2) (x3) (x4) (x5) (x6) (x7) (true)) (Ba ((0:Int)≤1∧(1:Int)<8) (BH (x1==g) (O_ (t) (p) (h) (n) (al) (zl) (x0) (x1) (x2) (x3) (x4) (x5) (x6) (x7) (true)) (Ba ((0:Int)≤2∧(2:Int)<8) (BH (x2==g) (O_ (t) (p) (h) (n) (al) (zl) (x0) (x1) (x2) (x3) (x4) (x5) (x6) (x7) (true)) (Ba ((0:Int)≤3∧(3:Int)<8) (BH (x3==g) (O_ (t) (p) (h) (n) (al) (zl) (x0) (x1) (x2) (x3) (x4) (x5) (x6) (x7) (true)) (Ba ((0:Int)≤4∧(4:Int)<8) (BH (x4==g) (O_ (t) (p) (h) (n) (al) (zl) (x0) (x1) (x2) (x3) (x4) (x5) (x6) (x7) (true)) (Ba ((0:Int)≤5∧(5:Int)<8) (BH (x5==g) (O_ (t) (p) (h) (n) (al) (zl) (x0) (x1) (x2) (x3) (x4) (x5) (x6) (x7) (true)) (Ba ((0:Int)≤6∧(6:Int)<8) (BH (x6==g) (O_ (t) (p) (h) (n) (al) (zl) (x0) (x1) (x2) (x3) (x4) (x5) (x6) (x7) (true)) (Ba ((0:Int)≤7∧(7:Int)<8) (BH (x7==g) (O_ (t) (p) (h) (n) (al) (zl) (x0) (x1) (x2) (x3) (x4) (x5) (x6) (x7) (true)) (O_ (t) (p) (h) (n) (al) (zl) (x0) (x1) (x2) (x3) (x4) (x5) (x6) (x7) (false))))))))))))))))))
theorem Ah1 (s:RS) (g t p h:Int) (n:Nat) (al zl:LI) (x0 x1 x2 x3 x4 x5 x6 x7:Int) (hx:BI ⟨t,p,h,n,al,zl,x0,x1,x2,x3,x4,x5,x6,x7⟩ (s)):Ru s g t p h n al zl x0 x1 x2 x3 x4 x5 x6 x7 (λr__=>r__=(ES s g)) (λt_ p_ h_ n_ al_ zl_ x0_ x1_ x2_ x3_ x4_ x5_ x6_ x7_ r_=>BI ⟨t_,p_,h_,n_,al_,zl_,x0_,x1_,x2_,x3_,x4_,x5_,x6_,x7_⟩ (s)∧r_=(ES s g)):=by
 have key:∀x:RX,BI x s→Ru s g x.t x.p x.h x.n x.a x.z x.r0 x.r1 x.r2 x.r3 x.r4 x.r5 x.r6 x.r7 (λr__=>r__=(ES s g)) (λt_ p_ h_ n_ al_ zl_ x0_ x1_ x2_ x3_ x4_ x5_ x6_ x7_ r_=>BI ⟨t_,p_,h_,n_,al_,zl_,x0_,x1_,x2_,x3_,x4_,x5_,x6_,x7_⟩ (s)∧r_=(ES s g)):=by
  intro x ho
  unfold Ru
  have e:=ho.eq
  subst e
  refine ⟨by decide, λ_=>⟨λe0=>⟨ho,?_⟩, λe0=>?_⟩⟩
  ·show true=_
   unfold ES;simp only [mD,e0,jX,kQ]
  refine ⟨by decide, λ_=>⟨λe1=>⟨ho,?_⟩, λe1=>?_⟩⟩
  ·show true=_
   unfold ES;simp only [mD,e0,e1,jX,kQ]
  refine ⟨by decide, λ_=>⟨λe2=>⟨ho,?_⟩, λe2=>?_⟩⟩
  ·show true=_
   unfold ES;simp only [mD,e0,e1,e2,jX,kQ]
  refine ⟨by decide, λ_=>⟨λe3=>⟨ho,?_⟩, λe3=>?_⟩⟩
  ·show true=_
   unfold ES;simp only [mD,e0,e1,e2,e3,jX,kQ]
  refine ⟨by decide, λ_=>⟨λe4=>⟨ho,?_⟩, λe4=>?_⟩⟩
  ·show true=_
   unfold ES;simp only [mD,e0,e1,e2,e3,e4,jX,kQ]
  refine ⟨by decide, λ_=>⟨λe5=>⟨ho,?_⟩, λe5=>?_⟩⟩
  ·show true=_
   unfold ES;simp only [mD,e0,e1,e2,e3,e4,e5,jX,kQ]
  refine ⟨by decide, λ_=>⟨λe6=>⟨ho,?_⟩, λe6=>?_⟩⟩
  ·show true=_
   unfold ES;simp only [mD,e0,e1,e2,e3,e4,e5,e6,jX,kQ]
  refine ⟨by decide, λ_=>⟨λe7=>⟨ho,?_⟩, λe7=>?_⟩⟩
  ·show true=_
   unfold ES;simp only [mD,e0,e1,e2,e3,e4,e5,e6,e7,jX,kQ]
  refine ⟨ho,?_⟩
  show false=_
  unfold ES;simp only [mD,List.any_nil,e0,e1,e2,e3,e4,e5,e6,e7,jX]
 exact key ⟨t,p,h,n,al,zl,x0,x1,x2,x3,x4,x5,x6,x7⟩ hx
theorem AlW:DZ 55 Ah0:=
 EX Dg I5 true XQ (I:=[2999999]) Try.func55 mix (B:=AY Try.f55) (by kernel_rfl) rfl (by kernel_rfl) 400
  λo s g hb hp=>⟨s,s,(ES s g),[],[], λj=>iM [] j (λ_=>False), λj=>iM [] j (λ_=>(0,0,0)),by kernel_rfl, λ_ _=>by kernel_rfl,by kernel_rfl, λt p h n al zl x0 x1 x2 x3 x4 x5 x6 x7 hx=>⟨Ru s g t p h n al zl x0 x1 x2 x3 x4 x5 x6 x7 (λr__=>r__=(ES s g)) (λt_ p_ h_ n_ al_ zl_ x0_ x1_ x2_ x3_ x4_ x5_ x6_ x7_ r_=>BI ⟨t_,p_,h_,n_,al_,zl_,x0_,x1_,x2_,x3_,x4_,x5_,x6_,x7_⟩ (s)∧r_=(ES s g)), λ_ _ _ _=>by kernel_rfl,Ah1 s g t p h n al zl x0 x1 x2 x3 x4 x5 x6 x7 hx⟩,trivial⟩
def Ah2:Tb:=(55,Ah0)::Ahz
theorem XR:DU Ah2:=Ej AlW XQ
def KR (s:RS) (k:Int):RS:=Dz s k
abbrev Anp:Ct Sg:=⟨some D7,false,[.i .i64], .skip⟩
def Ah3:Entry Sg:=CP Anp (λ(s:RS) (k:Int)=>Dz s k) (λs k=>[s.a.length≤1000,0≤k])
def Rw (s:RS) (k t p h:Int) (n:Nat) (al zl:LI) (x0 x1 x2 x3 x4 x5 x6 x7:Int) (Q0:Int→Int→Int→Nat→LI→LI→Int→Int→Int→Int→Int→Int→Int→Int→Nat→LI→LI→Int→Prop) (R_:RS→Prop) (O_:Int→Int→Int→Nat→LI→LI→Int→Int→Int→Int→Int→Int→Int→Int→Unit→Prop):Prop:=(Q0 (t) (p) (h) (n) (al) (zl) (x0) (x1) (x2) (x3) (x4) (x5) (x6) (x7) (0) ([]) ([]) (0))
def Aem (s:RS) (k t_ p_ h_:Int) (n_:Nat) (a_ z_:LI) (r0_ r1_ r2_ r3_ r4_ r5_ r6_ r7_:Int) (m_:Nat) (oa oz:LI) (i_:Int) (Q0:Int→Int→Int→Nat→LI→LI→Int→Int→Int→Int→Int→Int→Int→Int→Nat→LI→LI→Int→Prop) (R_:RS→Prop) (O_:Int→Int→Int→Nat→LI→LI→Int→Int→Int→Int→Int→Int→Int→Int→Unit→Prop):Prop:=(BH (decide (i_<(↑n_:Int))) (BH (i_ !=k) (Ba (0≤i_∧i_<(↑n_:Int)) (Ba ((m_+1)*16≤140737488355328) (Q0 (t_) (p_) (h_) (n_) (a_) (z_) (r0_) (r1_) (r2_) (r3_) (r4_) (r5_) (r6_) (r7_) (m_+1) (oa++[iM a_ (jL i_) 0]) (oz++[iM z_ (jL i_) 0]) (iS iB (i_+1))))) (Q0 (t_) (p_) (h_) (n_) (a_) (z_) (r0_) (r1_) (r2_) (r3_) (r4_) (r5_) (r6_) (r7_) (m_) (oa) (oz) (iS iB (i_+1)))) (O_ (t_) (p_) (h_) (m_) (oa) (oz) (r0_) (r1_) (r2_) (r3_) (r4_) (r5_) (r6_) (r7_) (())))
def Ij (s:RS) (k t_ p_ h_:Int) (n_:Nat) (a_ z_:LI) (r0_ r1_ r2_ r3_ r4_ r5_ r6_ r7_:Int) (m_:Nat) (oa oz:LI) (i_:Int):Prop:=BI ⟨t_,p_,h_,n_,a_,z_,r0_,r1_,r2_,r3_,r4_,r5_,r6_,r7_⟩ s∧0≤i_∧i_≤(a_.length:Int)∧m_=oa.length∧oa=(s.a.take i_.toNat).eraseIdx k.toNat∧oz=(s.z.take i_.toNat).eraseIdx k.toNat
theorem Ah4 (s:RS) (k t p h:Int) (n:Nat) (al zl:LI) (x0 x1 x2 x3 x4 x5 x6 x7:Int) (hp0:s.a.length≤1000) (hp1:0≤k) (hx:BI ⟨t,p,h,n,al,zl,x0,x1,x2,x3,x4,x5,x6,x7⟩ (s)):Rw s k t p h n al zl x0 x1 x2 x3 x4 x5 x6 x7 (λt_' p_' h_' n_' a_' z_' r0_' r1_' r2_' r3_' r4_' r5_' r6_' r7_' m_' oa' oz' i_'=>Ij s k t_' p_' h_' n_' a_' z_' r0_' r1_' r2_' r3_' r4_' r5_' r6_' r7_' m_' oa' oz' i_') (λr__=>r__=(KR s k)) (λt_ p_ h_ n_ al_ zl_ x0_ x1_ x2_ x3_ x4_ x5_ x6_ x7_ r_=>BI ⟨t_,p_,h_,n_,al_,zl_,x0_,x1_,x2_,x3_,x4_,x5_,x6_,x7_⟩ ((KR s k))∧r_=()):=by
 have key:∀x:RX,BI x s→Rw s k x.t x.p x.h x.n x.a x.z x.r0 x.r1 x.r2 x.r3 x.r4 x.r5 x.r6 x.r7 (λt_' p_' h_' n_' a_' z_' r0_' r1_' r2_' r3_' r4_' r5_' r6_' r7_' m_' oa' oz' i_'=>Ij s k t_' p_' h_' n_' a_' z_' r0_' r1_' r2_' r3_' r4_' r5_' r6_' r7_' m_' oa' oz' i_') (λr__=>r__=(KR s k)) (λt_ p_ h_ n_ al_ zl_ x0_ x1_ x2_ x3_ x4_ x5_ x6_ x7_ r_=>BI ⟨t_,p_,h_,n_,al_,zl_,x0_,x1_,x2_,x3_,x4_,x5_,x6_,x7_⟩ ((KR s k))∧r_=()):=by
  intro x ho
  unfold Rw
  try unfold Ij
  exact ⟨ho,by decide,by omega,rfl,by simp,by simp⟩
 exact key ⟨t,p,h,n,al,zl,x0,x1,x2,x3,x4,x5,x6,x7⟩ hx
theorem Ah5 (s:RS) (k:Int) (hp0:s.a.length≤1000) (hp1:0≤k) (t_ p_ h_:Int) (n_:Nat) (a_ z_:LI) (r0_ r1_ r2_ r3_ r4_ r5_ r6_ r7_:Int) (m_:Nat) (oa oz:LI) (i_:Int) (hI:Ij s k t_ p_ h_ n_ a_ z_ r0_ r1_ r2_ r3_ r4_ r5_ r6_ r7_ m_ oa oz i_):Aem s k t_ p_ h_ n_ a_ z_ r0_ r1_ r2_ r3_ r4_ r5_ r6_ r7_ m_ oa oz i_ (λt_' p_' h_' n_' a_' z_' r0_' r1_' r2_' r3_' r4_' r5_' r6_' r7_' m_' oa' oz' i_'=>Ij s k t_' p_' h_' n_' a_' z_' r0_' r1_' r2_' r3_' r4_' r5_' r6_' r7_' m_' oa' oz' i_'∧lx (((a_'.length:Int)-i_').toNat,0,0) (((a_.length:Int)-i_).toNat,0,0)) (λr__=>r__=(KR s k)) (λt_ p_ h_ n_ al_ zl_ x0_ x1_ x2_ x3_ x4_ x5_ x6_ x7_ r_=>BI ⟨t_,p_,h_,n_,al_,zl_,x0_,x1_,x2_,x3_,x4_,x5_,x6_,x7_⟩ ((KR s k))∧r_=()):=by
 unfold Ij at hI
 unfold Aem
 try unfold Ij
 obtain ⟨hR,h1,h2,hm,hoa,hoz⟩:=hI
 have e:=hR.eq
 subst e
 have hn:n_=a_.length:=hR.n
 have hz:z_.length=a_.length:=hR.z
 subst hn
 have hp:a_.length≤1000:=hp0
 refine ⟨λhlt=>?_, λhlt=>?_⟩
 ·have hlt:i_<(a_.length:Int):=by simpa using hlt
  have hml:m_≤1000:=by rw [hm,hoa];exact lO (AoE _ _ _) hp
  have ew:iS iB (i_+1)=i_+1:=Ic (by omega)
  have et:(i_+1).toNat=i_.toNat+1:=by omega
  refine ⟨λhne=>⟨⟨h1,hlt⟩, λ_=>⟨lO (kE 16 (nL hml 1)) (by decide), λ_=>?_⟩⟩, λheq=>?_⟩
  ·have hne:i_.toNat≠k.toNat:=by have:i_≠k:=by simpa using hne
                                 omega
   rw [ew]
   refine ⟨⟨hR,by omega,by omega,by rw [hm];simp,?_,?_⟩,BU⟩
   ·rw [et,AlR (by show _<a_.length;omega) hne,hoa]
   ·rw [et,AlR (by show _<z_.length;omega) hne,hoz]
  ·have heq:i_=k:=by simpa using heq
   subst heq
   rw [ew]
   refine ⟨⟨hR,by omega,by omega,hm,?_,?_⟩,BU⟩
   ·rw [et,AlS (by show _<a_.length;omega),hoa]
   ·rw [et,AlS (by show _<z_.length;omega),hoz]
 ·have hlt:¬i_<(a_.length:Int):=by simpa using hlt
  have hi:i_.toNat=a_.length:=by omega
  have ea:oa=a_.eraseIdx k.toNat:=by rw [hoa,hi];show (List.take a_.length a_).eraseIdx _=_;rw [nP]
  have ez:oz=z_.eraseIdx k.toNat:=by rw [hoz,hi];show (List.take a_.length z_).eraseIdx _=_;rw [←hz,nP]
  refine ⟨⟨hm,?_,?_⟩,rfl⟩
  ·show oz.length=oa.length
   rw [ea,ez,List.length_eraseIdx,List.length_eraseIdx,hz]
  ·show Dz _ k=_
   unfold Dz
   rw [ea,ez]
theorem AlX:DZ 60 Ah3:=
 EX Dg I5 true XR (I:=[103000000000,103000000001,103000000004,103000000005]) Try.func60 mix (B:=AY Try.f60) (by kernel_rfl) rfl (by kernel_rfl) 400
  λo s k hb hp=>have hp0:s.a.length≤1000:=hp _ (.head _);have hp1:0≤k:=hp _ (.tail _ (.head _));⟨s,(KR s k),(),[⟨none,[0,1,0,1],[.blk 0, .code [1,1]],[0,1,4,5],[.boxc o BL.t BL.l, .ic .i64 (k), .own 55 [some .i64,some .i64], .i .i64]⟩],[.run], λj=>iM [Ak (Hd.kd (⟨none,[0,1,0,1],[.blk 0, .code [1,1]],[0,1,4,5],[.boxc o BL.t BL.l, .ic .i64 (k), .own 55 [some .i64,some .i64], .i .i64]⟩:Hd Sg)) (λt_' p_' h_' n_' a_' z_' r0_' r1_' r2_' r3_' r4_' r5_' r6_' r7_' m_' oa' oz' i_'=>Ij s k t_' p_' h_' n_' a_' z_' r0_' r1_' r2_' r3_' r4_' r5_' r6_' r7_' m_' oa' oz' i_')] j (λ_=>False), λj=>iM [Ak (Hd.kd (⟨none,[0,1,0,1],[.blk 0, .code [1,1]],[0,1,4,5],[.boxc o BL.t BL.l, .ic .i64 (k), .own 55 [some .i64,some .i64], .i .i64]⟩:Hd Sg)) (λt_' p_' h_' n_' a_' z_' r0_' r1_' r2_' r3_' r4_' r5_' r6_' r7_' m_' oa' oz' i_'=>(((a_'.length:Int)-i_').toNat,0,0))] j (λ_=>(0,0,0)),by kernel_rfl, λ_ _=>by kernel_rfl,by kernel_rfl, λt p h n al zl x0 x1 x2 x3 x4 x5 x6 x7 hx=>⟨Rw s k t p h n al zl x0 x1 x2 x3 x4 x5 x6 x7 (λt_' p_' h_' n_' a_' z_' r0_' r1_' r2_' r3_' r4_' r5_' r6_' r7_' m_' oa' oz' i_'=>Ij s k t_' p_' h_' n_' a_' z_' r0_' r1_' r2_' r3_' r4_' r5_' r6_' r7_' m_' oa' oz' i_') (λr__=>r__=(KR s k)) (λt_ p_ h_ n_ al_ zl_ x0_ x1_ x2_ x3_ x4_ x5_ x6_ x7_ r_=>BI ⟨t_,p_,h_,n_,al_,zl_,x0_,x1_,x2_,x3_,x4_,x5_,x6_,x7_⟩ ((KR s k))∧r_=()), λ_ _ _ _=>by kernel_rfl,Ah4 s k t p h n al zl x0 x1 x2 x3 x4 x5 x6 x7 hp0 hp1 hx⟩,⟨λt_ p_ h_ n_ a_ z_ r0_ r1_ r2_ r3_ r4_ r5_ r6_ r7_ m_ oa oz i_ hI=>⟨_, λ_ _ _=>by kernel_rfl,Ah5 s k hp0 hp1 t_ p_ h_ n_ a_ z_ r0_ r1_ r2_ r3_ r4_ r5_ r6_ r7_ m_ oa oz i_ hI⟩,trivial⟩⟩
def Ah6:Tb:=(60,Ah3)::Ah2
theorem XT:DU Ah6:=Ej AlX XR
def f_add (s:RS) (ba bz:Int):RS:=DI s ba bz
abbrev AoH:Ct Sg:=⟨some D7,false,[.agg [.i .i64, .i .i64]], .skip⟩
def Aj6:Entry Sg:=CP AoH (λ(s:RS) (ba:Int) (bz:Int)=>DI s ba bz) (λs ba bz=>[s.a.length≤1000])
def VX (s:RS) (ba bz t p h:Int) (n:Nat) (al zl:LI) (x0 x1 x2 x3 x4 x5 x6 x7:Int) (Q0:Int→Int→Int→Nat→LI→LI→Int→Int→Int→Int→Int→Int→Int→Int→Nat→LI→LI→Bool→Int→Prop) (R_:RS→Prop) (O_:Int→Int→Int→Nat→LI→LI→Int→Int→Int→Int→Int→Int→Int→Int→Unit→Prop):Prop:=(Q0 (t) (p) (h) (n) (al) (zl) (x0) (x1) (x2) (x3) (x4) (x5) (x6) (x7) (0) ([]) ([]) (false) (0))
def Ah7 (s:RS) (ba bz t_ p_ h_:Int) (n_:Nat) (a_ z_:LI) (r0_ r1_ r2_ r3_ r4_ r5_ r6_ r7_:Int) (m_:Nat) (oa oz:LI) (d_:Bool) (i_:Int) (Q0:Int→Int→Int→Nat→LI→LI→Int→Int→Int→Int→Int→Int→Int→Int→Nat→LI→LI→Bool→Int→Prop) (R_:RS→Prop) (O_:Int→Int→Int→Nat→LI→LI→Int→Int→Int→Int→Int→Int→Int→Int→Unit→Prop):Prop:=(BH (decide (i_<(↑n_:Int))) (Ba ((!d_)=true→0≤i_∧i_<(↑n_:Int)) (BH (!d_&&decide (iM a_ (jL i_) 0>ba)) (Ba ((m_+1)*16≤140737488355328) (Ba (0≤i_∧i_<(↑n_:Int)) (Ba ((m_+1+1)*16≤140737488355328) (Q0 (t_) (p_) (h_) (n_) (a_) (z_) (r0_) (r1_) (r2_) (r3_) (r4_) (r5_) (r6_) (r7_) (m_+1+1) (oa++[ba]++[iM a_ (jL i_) 0]) (oz++[bz]++[iM z_ (jL i_) 0]) (true) (iS iB (i_+1)))))) (Ba (0≤i_∧i_<(↑n_:Int)) (Ba ((m_+1)*16≤140737488355328) (Q0 (t_) (p_) (h_) (n_) (a_) (z_) (r0_) (r1_) (r2_) (r3_) (r4_) (r5_) (r6_) (r7_) (m_+1) (oa++[iM a_ (jL i_) 0]) (oz++[iM z_ (jL i_) 0]) (d_) (iS iB (i_+1))))))) (BH (!d_) (Ba ((m_+1)*16≤140737488355328) (O_ (t_) (p_) (h_) (m_+1) (oa++[ba]) (oz++[bz]) (r0_) (r1_) (r2_) (r3_) (r4_) (r5_) (r6_) (r7_) (()))) (O_ (t_) (p_) (h_) (m_) (oa) (oz) (r0_) (r1_) (r2_) (r3_) (r4_) (r5_) (r6_) (r7_) (()))))
def IL (s:RS) (ba bz t_ p_ h_:Int) (n_:Nat) (a_ z_:LI) (r0_ r1_ r2_ r3_ r4_ r5_ r6_ r7_:Int) (m_:Nat) (oa oz:LI) (d_:Bool) (i_:Int):Prop:=BI ⟨t_,p_,h_,n_,a_,z_,r0_,r1_,r2_,r3_,r4_,r5_,r6_,r7_⟩ s∧0≤i_∧i_≤(a_.length:Int)∧m_=oa.length∧oz.length=oa.length∧(bif d_ then EI oa oz++(EI s.a s.z).drop i_.toNat else EI oa oz++insL ((EI s.a s.z).drop i_.toNat) (ba,bz))=insL (EI s.a s.z) (ba,bz)
theorem AiT (s:RS) (ba bz t p h:Int) (n:Nat) (al zl:LI) (x0 x1 x2 x3 x4 x5 x6 x7:Int) (hp0:s.a.length≤1000) (hx:BI ⟨t,p,h,n,al,zl,x0,x1,x2,x3,x4,x5,x6,x7⟩ (s)):VX s ba bz t p h n al zl x0 x1 x2 x3 x4 x5 x6 x7 (λt_' p_' h_' n_' a_' z_' r0_' r1_' r2_' r3_' r4_' r5_' r6_' r7_' m_' oa' oz' d_' i_'=>IL s ba bz t_' p_' h_' n_' a_' z_' r0_' r1_' r2_' r3_' r4_' r5_' r6_' r7_' m_' oa' oz' d_' i_') (λr__=>r__=(f_add s ba bz)) (λt_ p_ h_ n_ al_ zl_ x0_ x1_ x2_ x3_ x4_ x5_ x6_ x7_ r_=>BI ⟨t_,p_,h_,n_,al_,zl_,x0_,x1_,x2_,x3_,x4_,x5_,x6_,x7_⟩ ((f_add s ba bz))∧r_=()):=by
 have key:∀x:RX,BI x s→VX s ba bz x.t x.p x.h x.n x.a x.z x.r0 x.r1 x.r2 x.r3 x.r4 x.r5 x.r6 x.r7 (λt_' p_' h_' n_' a_' z_' r0_' r1_' r2_' r3_' r4_' r5_' r6_' r7_' m_' oa' oz' d_' i_'=>IL s ba bz t_' p_' h_' n_' a_' z_' r0_' r1_' r2_' r3_' r4_' r5_' r6_' r7_' m_' oa' oz' d_' i_') (λr__=>r__=(f_add s ba bz)) (λt_ p_ h_ n_ al_ zl_ x0_ x1_ x2_ x3_ x4_ x5_ x6_ x7_ r_=>BI ⟨t_,p_,h_,n_,al_,zl_,x0_,x1_,x2_,x3_,x4_,x5_,x6_,x7_⟩ ((f_add s ba bz))∧r_=()):=by
  intro x ho
  unfold VX
  try unfold IL
  have e:=ho.eq
  subst e
  exact ⟨ho,by decide,by omega,rfl,rfl,rfl⟩
 exact key ⟨t,p,h,n,al,zl,x0,x1,x2,x3,x4,x5,x6,x7⟩ hx
theorem AiU (s:RS) (ba bz:Int) (hp0:s.a.length≤1000) (t_ p_ h_:Int) (n_:Nat) (a_ z_:LI) (r0_ r1_ r2_ r3_ r4_ r5_ r6_ r7_:Int) (m_:Nat) (oa oz:LI) (d_:Bool) (i_:Int) (hI:IL s ba bz t_ p_ h_ n_ a_ z_ r0_ r1_ r2_ r3_ r4_ r5_ r6_ r7_ m_ oa oz d_ i_):Ah7 s ba bz t_ p_ h_ n_ a_ z_ r0_ r1_ r2_ r3_ r4_ r5_ r6_ r7_ m_ oa oz d_ i_ (λt_' p_' h_' n_' a_' z_' r0_' r1_' r2_' r3_' r4_' r5_' r6_' r7_' m_' oa' oz' d_' i_'=>IL s ba bz t_' p_' h_' n_' a_' z_' r0_' r1_' r2_' r3_' r4_' r5_' r6_' r7_' m_' oa' oz' d_' i_'∧lx (((a_'.length:Int)-i_').toNat,0,0) (((a_.length:Int)-i_).toNat,0,0)) (λr__=>r__=(f_add s ba bz)) (λt_ p_ h_ n_ al_ zl_ x0_ x1_ x2_ x3_ x4_ x5_ x6_ x7_ r_=>BI ⟨t_,p_,h_,n_,al_,zl_,x0_,x1_,x2_,x3_,x4_,x5_,x6_,x7_⟩ ((f_add s ba bz))∧r_=()):=by
 unfold IL at hI
 unfold Ah7
 try unfold IL
 obtain ⟨hR,h1,h2,hm,hl,hE⟩:=hI
 have hml:m_≤1001:=by
  have e:=hR.eq
  subst e
  have hz:z_.length=a_.length:=hR.z
  have hp:a_.length≤1000:=hp0
  have:=congrArg iN hE
  rw [YO,LC (by show a_.length=z_.length;omega)] at this
  change _=a_.length+1 at this
  cases d_ with
  |true=>simp only [cond_true,jK,LC hl.symm] at this;omega
  |false=>simp only [cond_false,jK,LC hl.symm] at this;omega
 have hb1:(m_+1)*16≤140737488355328:=lO (kE 16 (nL hml 1)) (by decide)
 have hb2:(m_+1+1)*16≤140737488355328:=lO (kE 16 (nL (nL hml 1) 1)) (by decide)
 have e:=hR.eq
 subst e
 have hn:n_=a_.length:=hR.n
 have hz:z_.length=a_.length:=hR.z
 subst hn
 have hp:a_.length≤1000:=hp0
 refine ⟨λhlt=>?_, λhlt=>?_⟩
 ·have hlt:i_<(a_.length:Int):=by simpa using hlt
  have ew:iS iB (i_+1)=i_+1:=Ic (by omega)
  have et:(i_+1).toNat=i_.toNat+1:=by omega
  have hd:=Anl hz (i:=i_.toNat) (by omega)
  change (bif d_ then EI oa oz++(EI a_ z_).drop i_.toNat else EI oa oz++insL ((EI a_ z_).drop i_.toNat) (ba,bz))=insL (EI a_ z_) (ba,bz) at hE
  refine ⟨λ_=>⟨h1,hlt⟩, λ_=>⟨λhc=>⟨hb1, λ_=>⟨⟨h1,hlt⟩, λ_=>⟨hb2, λ_=>?_⟩⟩⟩, λhc=>⟨⟨h1,hlt⟩, λ_=>⟨hb1, λ_=>?_⟩⟩⟩⟩
  ·rw [ew]
   simp only [iG,kW] at hc
   rw [hc.1,cond_false,hd] at hE
   refine ⟨⟨hR,by omega,by omega,by rw [hm];simp,by simp [hl],?_⟩,BU⟩
   show (bif true then _++(EI a_ z_).drop (i_+1).toNat else _)=insL (EI a_ z_) (ba,bz)
   rw [cond_true,Oq (by simp [hl]),Oq hl,et,←hE]
   unfold insL
   rw [hc.2]
   simp
  ·rw [ew]
   refine ⟨⟨hR,by omega,by omega,by rw [hm];simp,by simp [hl],?_⟩,BU⟩
   show (bif d_ then _++(EI a_ z_).drop (i_+1).toNat else _++insL ((EI a_ z_).drop (i_+1).toNat) (ba,bz))=insL (EI a_ z_) (ba,bz)
   rw [Oq hl,et,←hE,hd]
   cases d_ with
   |true=>simp
   |false=>
    have hc:decide (a_.getD i_.toNat 0>ba)=false:=by simpa using hc
    simp only [cond_false]
    conv=>rhs;unfold insL
    rw [hc]
    simp
 ·have hlt:¬i_<(a_.length:Int):=by simpa using hlt
  have hi:(EI a_ z_).drop i_.toNat=[]:=List.drop_eq_nil_of_le (by rw [LC hz.symm];omega)
  change (bif d_ then EI oa oz++(EI a_ z_).drop i_.toNat else EI oa oz++insL ((EI a_ z_).drop i_.toNat) (ba,bz))=insL (EI a_ z_) (ba,bz) at hE
  rw [hi] at hE
  refine ⟨λhd=>⟨hb1, λ_=>⟨⟨?_,?_,?_⟩,rfl⟩⟩, λhd=>⟨⟨hm,hl,?_⟩,rfl⟩⟩
  ·show m_+1=(oa++[ba]).length
   rw [hm];simp
  ·show (oz++[bz]).length=(oa++[ba]).length
   simp [hl]
  ·have hd:d_=false:=by simpa using hd
   subst hd
   have hE:EI (oa++[ba]) (oz++[bz])=insL (EI a_ z_) (ba,bz):=by rw [Oq hl];exact hE
   have hl2:(oz++[bz]).length=(oa++[ba]).length:=by simp [hl]
   show DI _ ba bz=_
   unfold DI
   simp only [←hE,Aj0 hl2,Aj1 hl2]
  ·have hd:d_=true:=by simpa using hd
   subst hd
   have hE:EI oa oz=insL (EI a_ z_) (ba,bz):=by simpa using hE
   show DI _ ba bz=_
   unfold DI
   simp only [←hE,Aj0 hl,Aj1 hl]
theorem Anq:DZ 24 Aj6:=
 EX Dg I5 true XT (I:=[1643000000000,1643000000003,1643000000004,1643000000005,1643000000006]) Try.func24 mix (B:=AY Try.f24) (by kernel_rfl) rfl (by kernel_rfl) 400
  λo s ba bz hb hp=>have hp0:s.a.length≤1000:=hp _ (.head _);⟨s,(f_add s ba bz),(),[⟨none,[0,1,0,1,1,1],[.blk 0, .code [1,1,1,1]],[0,3,4,5,6],[.boxc o BL.t BL.l, .box 55 [.ic .i64 (ba), .ic .i64 (bz)], .own 55 [some .i64,some .i64], .b, .i .i64]⟩],[.run], λj=>iM [Ak (Hd.kd (⟨none,[0,1,0,1,1,1],[.blk 0, .code [1,1,1,1]],[0,3,4,5,6],[.boxc o BL.t BL.l, .box 55 [.ic .i64 (ba), .ic .i64 (bz)], .own 55 [some .i64,some .i64], .b, .i .i64]⟩:Hd Sg)) (λt_' p_' h_' n_' a_' z_' r0_' r1_' r2_' r3_' r4_' r5_' r6_' r7_' m_' oa' oz' d_' i_'=>IL s ba bz t_' p_' h_' n_' a_' z_' r0_' r1_' r2_' r3_' r4_' r5_' r6_' r7_' m_' oa' oz' d_' i_')] j (λ_=>False), λj=>iM [Ak (Hd.kd (⟨none,[0,1,0,1,1,1],[.blk 0, .code [1,1,1,1]],[0,3,4,5,6],[.boxc o BL.t BL.l, .box 55 [.ic .i64 (ba), .ic .i64 (bz)], .own 55 [some .i64,some .i64], .b, .i .i64]⟩:Hd Sg)) (λt_' p_' h_' n_' a_' z_' r0_' r1_' r2_' r3_' r4_' r5_' r6_' r7_' m_' oa' oz' d_' i_'=>(((a_'.length:Int)-i_').toNat,0,0))] j (λ_=>(0,0,0)),by kernel_rfl, λ_ _=>by kernel_rfl,by kernel_rfl, λt p h n al zl x0 x1 x2 x3 x4 x5 x6 x7 hx=>⟨VX s ba bz t p h n al zl x0 x1 x2 x3 x4 x5 x6 x7 (λt_' p_' h_' n_' a_' z_' r0_' r1_' r2_' r3_' r4_' r5_' r6_' r7_' m_' oa' oz' d_' i_'=>IL s ba bz t_' p_' h_' n_' a_' z_' r0_' r1_' r2_' r3_' r4_' r5_' r6_' r7_' m_' oa' oz' d_' i_') (λr__=>r__=(f_add s ba bz)) (λt_ p_ h_ n_ al_ zl_ x0_ x1_ x2_ x3_ x4_ x5_ x6_ x7_ r_=>BI ⟨t_,p_,h_,n_,al_,zl_,x0_,x1_,x2_,x3_,x4_,x5_,x6_,x7_⟩ ((f_add s ba bz))∧r_=()), λ_ _ _ _=>by kernel_rfl,AiT s ba bz t p h n al zl x0 x1 x2 x3 x4 x5 x6 x7 hp0 hx⟩,⟨λt_ p_ h_ n_ a_ z_ r0_ r1_ r2_ r3_ r4_ r5_ r6_ r7_ m_ oa oz d_ i_ hI=>⟨_, λ_ _ _=>by kernel_rfl,AiU s ba bz hp0 t_ p_ h_ n_ a_ z_ r0_ r1_ r2_ r3_ r4_ r5_ r6_ r7_ m_ oa oz d_ i_ hI⟩,trivial⟩⟩
def Aj7:Tb:=(24,Aj6)::Ah6
theorem Abe:DU Aj7:=Ej Anq XT
end
section
open Go.Sl
def Ot (s:RS) (i:Int):Int:=[s.r0,s.r1,s.r2,s.r3,s.r4,s.r5,s.r6,s.r7].getD i.toNat 0
def ET (s:RS) (g e u v w:Int):Bool:=bif !(BR s.t s.p s.h g).2 then BM 2 e u v else BM 3 e u v||(e==0&&XP s u (BR s.t s.p s.h g).1 w)
abbrev Anr:Ct Sg:=⟨some D7,true,[.i .i64, .agg [.i .i64, .i .i64, .i .i64], .i .i64], .b⟩
def Ah8:Entry Sg:=CP Anr (λ(s:RS) (g:Int) (e:Int) (u:Int) (v:Int) (w:Int)=>bif !(BR s.t s.p s.h g).2 then BM 2 e u v else BM 3 e u v||(e==0&&XP s u (BR s.t s.p s.h g).1 w)) (λs g e u v w=>[s.a.length≤1000])
def Rx (s:RS) (g e u v w t p h:Int) (n:Nat) (al zl:LI) (x0 x1 x2 x3 x4 x5 x6 x7:Int) (Q0:Int→Int→Int→Nat→LI→LI→Int→Int→Int→Int→Int→Int→Int→Int→Int→Prop) (Q1:Int→Prop) (R_:Bool→Prop) (O_:Int→Int→Int→Nat→LI→LI→Int→Int→Int→Int→Int→Int→Int→Int→Bool→Prop):Prop:=(BH (!Prod.snd (BR t p h g)) (O_ (t) (p) (h) (n) (al) (zl) (x0) (x1) (x2) (x3) (x4) (x5) (x6) (x7) (BM 2 e u v)) (Q0 (t) (p) (h) (n) (al) (zl) (x0) (x1) (x2) (x3) (x4) (x5) (x6) (x7) (kJ (BR t p h g))))
def Vf (s:RS) (g e u v w t_ p_ h_:Int) (n_:Nat) (a_ z_:LI) (r0_ r1_ r2_ r3_ r4_ r5_ r6_ r7_ w_:Int) (Q1:Int→Prop):Prop:=(Q1 (w_))
def GZ (s:RS) (g e u v w t_ p_ h_:Int) (n_:Nat) (a_ z_:LI) (r0_ r1_ r2_ r3_ r4_ r5_ r6_ r7_ w_:Int):Prop:=BI ⟨t_,p_,h_,n_,a_,z_,r0_,r1_,r2_,r3_,r4_,r5_,r6_,r7_⟩ s∧(BR s.t s.p s.h g).2=true∧w_=(BR s.t s.p s.h g).1
def Aen (s:RS) (g e u v w w_:Int) (Q0:Int→Int→Int→Nat→LI→LI→Int→Int→Int→Int→Int→Int→Int→Int→Int→Prop) (Q1:Int→Prop) (R_:Bool→Prop) (O_:Int→Int→Int→Nat→LI→LI→Int→Int→Int→Int→Int→Int→Int→Int→Bool→Prop):Prop:=(Ba ((e==0)=true→iN (RS.a s)≤1000) (R_ (BM 3 e u v||e==0&&XP s u w_ w)))
def Gj (s:RS) (g e u v w w_:Int):Prop:=(BR s.t s.p s.h g).2=true∧w_=(BR s.t s.p s.h g).1
theorem Ah9 (s:RS) (g e u v w t p h:Int) (n:Nat) (al zl:LI) (x0 x1 x2 x3 x4 x5 x6 x7:Int) (hp0:s.a.length≤1000) (hx:BI ⟨t,p,h,n,al,zl,x0,x1,x2,x3,x4,x5,x6,x7⟩ (s)):Rx s g e u v w t p h n al zl x0 x1 x2 x3 x4 x5 x6 x7 (λt_' p_' h_' n_' a_' z_' r0_' r1_' r2_' r3_' r4_' r5_' r6_' r7_' w_'=>GZ s g e u v w t_' p_' h_' n_' a_' z_' r0_' r1_' r2_' r3_' r4_' r5_' r6_' r7_' w_') (λw_'=>Gj s g e u v w w_') (λr__=>r__=(ET s g e u v w)) (λt_ p_ h_ n_ al_ zl_ x0_ x1_ x2_ x3_ x4_ x5_ x6_ x7_ r_=>BI ⟨t_,p_,h_,n_,al_,zl_,x0_,x1_,x2_,x3_,x4_,x5_,x6_,x7_⟩ (s)∧r_=(ET s g e u v w)):=by
 have key:∀x:RX,BI x s→Rx s g e u v w x.t x.p x.h x.n x.a x.z x.r0 x.r1 x.r2 x.r3 x.r4 x.r5 x.r6 x.r7 (λt_' p_' h_' n_' a_' z_' r0_' r1_' r2_' r3_' r4_' r5_' r6_' r7_' w_'=>GZ s g e u v w t_' p_' h_' n_' a_' z_' r0_' r1_' r2_' r3_' r4_' r5_' r6_' r7_' w_') (λw_'=>Gj s g e u v w w_') (λr__=>r__=(ET s g e u v w)) (λt_ p_ h_ n_ al_ zl_ x0_ x1_ x2_ x3_ x4_ x5_ x6_ x7_ r_=>BI ⟨t_,p_,h_,n_,al_,zl_,x0_,x1_,x2_,x3_,x4_,x5_,x6_,x7_⟩ (s)∧r_=(ET s g e u v w)):=by
  intro x ho
  unfold Rx
  try unfold GZ
  try unfold Gj
  have e:=ho.eq
  subst e
  refine ⟨λh1=>⟨ho,?_⟩, λh1=>⟨ho,by simpa using h1,rfl⟩⟩
  show _=ET _ _ _ _ _ _
  unfold ET;rw [h1];rfl
 exact key ⟨t,p,h,n,al,zl,x0,x1,x2,x3,x4,x5,x6,x7⟩ hx
theorem Vg (s:RS) (g e u v w:Int) (hp0:s.a.length≤1000) (t_ p_ h_:Int) (n_:Nat) (a_ z_:LI) (r0_ r1_ r2_ r3_ r4_ r5_ r6_ r7_ w_:Int) (hI:GZ s g e u v w t_ p_ h_ n_ a_ z_ r0_ r1_ r2_ r3_ r4_ r5_ r6_ r7_ w_):(BI ⟨t_,p_,h_,n_,a_,z_,r0_,r1_,r2_,r3_,r4_,r5_,r6_,r7_⟩ s)∧Vf s g e u v w t_ p_ h_ n_ a_ z_ r0_ r1_ r2_ r3_ r4_ r5_ r6_ r7_ w_ (λw_'=>Gj s g e u v w w_'∧lx (1,0,0) (2,0,0)):=by
 unfold GZ at hI
 unfold Vf
 try unfold GZ
 try unfold Gj
 obtain ⟨hR,hI⟩:=hI
 exact ⟨hR,hI,BU⟩
theorem AhA (s:RS) (g e u v w:Int) (hp0:s.a.length≤1000) (w_:Int) (hI:Gj s g e u v w w_):Aen s g e u v w w_ (λt_' p_' h_' n_' a_' z_' r0_' r1_' r2_' r3_' r4_' r5_' r6_' r7_' w_'=>GZ s g e u v w t_' p_' h_' n_' a_' z_' r0_' r1_' r2_' r3_' r4_' r5_' r6_' r7_' w_'∧lx (2,0,0) (1,0,0)) (λw_'=>Gj s g e u v w w_'∧lx (1,0,0) (1,0,0)) (λr__=>r__=(ET s g e u v w)) (λt_ p_ h_ n_ al_ zl_ x0_ x1_ x2_ x3_ x4_ x5_ x6_ x7_ r_=>BI ⟨t_,p_,h_,n_,al_,zl_,x0_,x1_,x2_,x3_,x4_,x5_,x6_,x7_⟩ (s)∧r_=(ET s g e u v w)):=by
 unfold Gj at hI
 unfold Aen
 try unfold GZ
 try unfold Gj
 obtain ⟨h1,rfl⟩:=hI
 refine ⟨λ_=>hp0, λ_=>?_⟩
 unfold ET;rw [h1];rfl
theorem AlY:DZ 53 Ah8:=
 EX Dg I5 true Abe (I:=[1106000]) Try.func53 mix (B:=AY Try.f53) (by kernel_rfl) rfl (by kernel_rfl) 400
  λo s g e u v w hb hp=>have hp0:s.a.length≤1000:=hp _ (.head _);⟨s,s,(ET s g e u v w),[⟨some 0,[0,1,1,1],[.code [1,1,1,1]],[0,6,3,9],[.boxc o BL.t BL.l, .box 32 [.ic .i64 (e), .ic .i64 (u), .ic .i64 (v)], .ic .i64 (w), .i .i64]⟩,⟨some 0,[0,1,1,1],[.code [1,1,1,1]],[0,6,3,9],[.objk D7 ⟨o,0,none⟩ (s), .box 32 [.ic .i64 (e), .ic .i64 (u), .ic .i64 (v)], .ic .i64 (w), .i .i64]⟩],[.cls 1, .run], λj=>iM [Ak (Hd.kd (⟨some 0,[0,1,1,1],[.code [1,1,1,1]],[0,6,3,9],[.boxc o BL.t BL.l, .box 32 [.ic .i64 (e), .ic .i64 (u), .ic .i64 (v)], .ic .i64 (w), .i .i64]⟩:Hd Sg)) (λt_' p_' h_' n_' a_' z_' r0_' r1_' r2_' r3_' r4_' r5_' r6_' r7_' w_'=>GZ s g e u v w t_' p_' h_' n_' a_' z_' r0_' r1_' r2_' r3_' r4_' r5_' r6_' r7_' w_'),Ak (Hd.kd (⟨some 0,[0,1,1,1],[.code [1,1,1,1]],[0,6,3,9],[.objk D7 ⟨o,0,none⟩ (s), .box 32 [.ic .i64 (e), .ic .i64 (u), .ic .i64 (v)], .ic .i64 (w), .i .i64]⟩:Hd Sg)) (λw_'=>Gj s g e u v w w_')] j (λ_=>False), λj=>iM [Ak (Hd.kd (⟨some 0,[0,1,1,1],[.code [1,1,1,1]],[0,6,3,9],[.boxc o BL.t BL.l, .box 32 [.ic .i64 (e), .ic .i64 (u), .ic .i64 (v)], .ic .i64 (w), .i .i64]⟩:Hd Sg)) (λt_' p_' h_' n_' a_' z_' r0_' r1_' r2_' r3_' r4_' r5_' r6_' r7_' w_'=>(2,0,0)),Ak (Hd.kd (⟨some 0,[0,1,1,1],[.code [1,1,1,1]],[0,6,3,9],[.objk D7 ⟨o,0,none⟩ (s), .box 32 [.ic .i64 (e), .ic .i64 (u), .ic .i64 (v)], .ic .i64 (w), .i .i64]⟩:Hd Sg)) (λw_'=>(1,0,0))] j (λ_=>(0,0,0)),by kernel_rfl, λ_ _=>by kernel_rfl,by kernel_rfl, λt p h n al zl x0 x1 x2 x3 x4 x5 x6 x7 hx=>⟨Rx s g e u v w t p h n al zl x0 x1 x2 x3 x4 x5 x6 x7 (λt_' p_' h_' n_' a_' z_' r0_' r1_' r2_' r3_' r4_' r5_' r6_' r7_' w_'=>GZ s g e u v w t_' p_' h_' n_' a_' z_' r0_' r1_' r2_' r3_' r4_' r5_' r6_' r7_' w_') (λw_'=>Gj s g e u v w w_') (λr__=>r__=(ET s g e u v w)) (λt_ p_ h_ n_ al_ zl_ x0_ x1_ x2_ x3_ x4_ x5_ x6_ x7_ r_=>BI ⟨t_,p_,h_,n_,al_,zl_,x0_,x1_,x2_,x3_,x4_,x5_,x6_,x7_⟩ (s)∧r_=(ET s g e u v w)), λ_ _ _ _=>by kernel_rfl,Ah9 s g e u v w t p h n al zl x0 x1 x2 x3 x4 x5 x6 x7 hp0 hx⟩,⟨λt_ p_ h_ n_ a_ z_ r0_ r1_ r2_ r3_ r4_ r5_ r6_ r7_ w_ hI=>⟨s,Vf s g e u v w t_ p_ h_ n_ a_ z_ r0_ r1_ r2_ r3_ r4_ r5_ r6_ r7_ w_ (λw_'=>Gj s g e u v w w_'∧lx (1,0,0) (2,0,0)),(Vg s g e u v w hp0 t_ p_ h_ n_ a_ z_ r0_ r1_ r2_ r3_ r4_ r5_ r6_ r7_ w_ hI).1, λ_=>by kernel_rfl,(Vg s g e u v w hp0 t_ p_ h_ n_ a_ z_ r0_ r1_ r2_ r3_ r4_ r5_ r6_ r7_ w_ hI).2⟩,⟨λw_ hI=>⟨_, λ_ _ _=>by kernel_rfl,AhA s g e u v w hp0 w_ hI⟩,trivial⟩⟩⟩
def AhB:Tb:=(53,Ah8)::Aj7
theorem XU:DU AhB:=Ej AlY Abe
def Dj (s:RS) (k a c e u v:Int):Bool:=bif decide (a<0)||decide (a>7) then BM 5 e u v else bif k==4 then ET s c e u v (-1)&&Fz e u v (Ot s a) else bif k==5 then (bif c !=0&&decide (CY s.a c<0) then BM 4 e u v else Em e u v c (Ot s a)) else Em e u v (Ot s a) 0
abbrev AkD:Ct Sg:=⟨some D7,true,[.agg [.i .i64, .i .i64, .i .i64], .agg [.i .i64, .i .i64, .i .i64]], .b⟩
def Abf:Entry Sg:=CP AkD (λ(s:RS) (k:Int) (a:Int) (c:Int) (e:Int) (u:Int) (v:Int)=>bif decide (a<0)||decide (a>7) then BM 5 e u v else bif k==4 then ET s c e u v (-1)&&Fz e u v (Ot s a) else bif k==5 then (bif c !=0&&decide (CY s.a c<0) then BM 4 e u v else Em e u v c (Ot s a)) else Em e u v (Ot s a) 0) (λs k a c e u v=>[s.a.length≤1000])
def Abg (s:RS) (k a c e u v:Int) (Q0:Int→Prop) (Q1:Int→Int→Int→Nat→LI→LI→Int→Int→Int→Int→Int→Int→Int→Int→Int→Prop) (Q2:Int→Int→Int→Nat→LI→LI→Int→Int→Int→Int→Int→Int→Int→Int→Int→Int→Prop) (Q3:Int→Int→Prop) (R_:Bool→Prop) (O_:Int→Int→Int→Nat→LI→LI→Int→Int→Int→Int→Int→Int→Int→Int→Bool→Prop):Prop:=(BH (decide (a<0)||decide (a>7)) (∀r3:Bool,r3=(BM 5 e u v)→(R_ (r3))) (Q0 (a)))
def XV (s:RS) (k a c e u v i_ t_ p_ h_:Int) (n_:Nat) (al_ zl_:LI) (x0_ x1_ x2_ x3_ x4_ x5_ x6_ x7_:Int) (Q1:Int→Int→Int→Nat→LI→LI→Int→Int→Int→Int→Int→Int→Int→Int→Int→Prop):Prop:=(Q1 (t_) (p_) (h_) (n_) (al_) (zl_) (x0_) (x1_) (x2_) (x3_) (x4_) (x5_) (x6_) (x7_) (i_))
def Df (s:RS) (k a c e u v i_:Int):Prop:=i_=a∧0≤a∧a<8
def Tj (s:RS) (k a c e u v t_ p_ h_:Int) (n_:Nat) (a_ z_:LI) (r0_ r1_ r2_ r3_ r4_ r5_ r6_ r7_:Int) (Q0:Int→Prop) (Q1:Int→Int→Int→Nat→LI→LI→Int→Int→Int→Int→Int→Int→Int→Int→Int→Prop) (Q2:Int→Int→Int→Nat→LI→LI→Int→Int→Int→Int→Int→Int→Int→Int→Int→Int→Prop) (Q3:Int→Int→Prop) (R_:Bool→Prop) (O_:Int→Int→Int→Nat→LI→LI→Int→Int→Int→Int→Int→Int→Int→Int→Bool→Prop):Prop:=(Ba ((0:Int)≤0∧(0:Int)<8) (Q2 (t_) (p_) (h_) (n_) (a_) (z_) (r0_) (r1_) (r2_) (r3_) (r4_) (r5_) (r6_) (r7_) (0) (r0_)))
def Tm (s:RS) (k a c e u v t_ p_ h_:Int) (n_:Nat) (a_ z_:LI) (r0_ r1_ r2_ r3_ r4_ r5_ r6_ r7_:Int) (Q0:Int→Prop) (Q1:Int→Int→Int→Nat→LI→LI→Int→Int→Int→Int→Int→Int→Int→Int→Int→Prop) (Q2:Int→Int→Int→Nat→LI→LI→Int→Int→Int→Int→Int→Int→Int→Int→Int→Int→Prop) (Q3:Int→Int→Prop) (R_:Bool→Prop) (O_:Int→Int→Int→Nat→LI→LI→Int→Int→Int→Int→Int→Int→Int→Int→Bool→Prop):Prop:=(Ba ((0:Int)≤1∧(1:Int)<8) (Q2 (t_) (p_) (h_) (n_) (a_) (z_) (r0_) (r1_) (r2_) (r3_) (r4_) (r5_) (r6_) (r7_) (1) (r1_)))
def Tn (s:RS) (k a c e u v t_ p_ h_:Int) (n_:Nat) (a_ z_:LI) (r0_ r1_ r2_ r3_ r4_ r5_ r6_ r7_:Int) (Q0:Int→Prop) (Q1:Int→Int→Int→Nat→LI→LI→Int→Int→Int→Int→Int→Int→Int→Int→Int→Prop) (Q2:Int→Int→Int→Nat→LI→LI→Int→Int→Int→Int→Int→Int→Int→Int→Int→Int→Prop) (Q3:Int→Int→Prop) (R_:Bool→Prop) (O_:Int→Int→Int→Nat→LI→LI→Int→Int→Int→Int→Int→Int→Int→Int→Bool→Prop):Prop:=(Ba ((0:Int)≤2∧(2:Int)<8) (Q2 (t_) (p_) (h_) (n_) (a_) (z_) (r0_) (r1_) (r2_) (r3_) (r4_) (r5_) (r6_) (r7_) (2) (r2_)))
def Tq (s:RS) (k a c e u v t_ p_ h_:Int) (n_:Nat) (a_ z_:LI) (r0_ r1_ r2_ r3_ r4_ r5_ r6_ r7_:Int) (Q0:Int→Prop) (Q1:Int→Int→Int→Nat→LI→LI→Int→Int→Int→Int→Int→Int→Int→Int→Int→Prop) (Q2:Int→Int→Int→Nat→LI→LI→Int→Int→Int→Int→Int→Int→Int→Int→Int→Int→Prop) (Q3:Int→Int→Prop) (R_:Bool→Prop) (O_:Int→Int→Int→Nat→LI→LI→Int→Int→Int→Int→Int→Int→Int→Int→Bool→Prop):Prop:=(Ba ((0:Int)≤3∧(3:Int)<8) (Q2 (t_) (p_) (h_) (n_) (a_) (z_) (r0_) (r1_) (r2_) (r3_) (r4_) (r5_) (r6_) (r7_) (3) (r3_)))
def Tt (s:RS) (k a c e u v t_ p_ h_:Int) (n_:Nat) (a_ z_:LI) (r0_ r1_ r2_ r3_ r4_ r5_ r6_ r7_:Int) (Q0:Int→Prop) (Q1:Int→Int→Int→Nat→LI→LI→Int→Int→Int→Int→Int→Int→Int→Int→Int→Prop) (Q2:Int→Int→Int→Nat→LI→LI→Int→Int→Int→Int→Int→Int→Int→Int→Int→Int→Prop) (Q3:Int→Int→Prop) (R_:Bool→Prop) (O_:Int→Int→Int→Nat→LI→LI→Int→Int→Int→Int→Int→Int→Int→Int→Bool→Prop):Prop:=(Ba ((0:Int)≤4∧(4:Int)<8) (Q2 (t_) (p_) (h_) (n_) (a_) (z_) (r0_) (r1_) (r2_) (r3_) (r4_) (r5_) (r6_) (r7_) (4) (r4_)))
def Tu (s:RS) (k a c e u v t_ p_ h_:Int) (n_:Nat) (a_ z_:LI) (r0_ r1_ r2_ r3_ r4_ r5_ r6_ r7_:Int) (Q0:Int→Prop) (Q1:Int→Int→Int→Nat→LI→LI→Int→Int→Int→Int→Int→Int→Int→Int→Int→Prop) (Q2:Int→Int→Int→Nat→LI→LI→Int→Int→Int→Int→Int→Int→Int→Int→Int→Int→Prop) (Q3:Int→Int→Prop) (R_:Bool→Prop) (O_:Int→Int→Int→Nat→LI→LI→Int→Int→Int→Int→Int→Int→Int→Int→Bool→Prop):Prop:=(Ba ((0:Int)≤5∧(5:Int)<8) (Q2 (t_) (p_) (h_) (n_) (a_) (z_) (r0_) (r1_) (r2_) (r3_) (r4_) (r5_) (r6_) (r7_) (5) (r5_)))
def Tv (s:RS) (k a c e u v t_ p_ h_:Int) (n_:Nat) (a_ z_:LI) (r0_ r1_ r2_ r3_ r4_ r5_ r6_ r7_:Int) (Q0:Int→Prop) (Q1:Int→Int→Int→Nat→LI→LI→Int→Int→Int→Int→Int→Int→Int→Int→Int→Prop) (Q2:Int→Int→Int→Nat→LI→LI→Int→Int→Int→Int→Int→Int→Int→Int→Int→Int→Prop) (Q3:Int→Int→Prop) (R_:Bool→Prop) (O_:Int→Int→Int→Nat→LI→LI→Int→Int→Int→Int→Int→Int→Int→Int→Bool→Prop):Prop:=(Ba ((0:Int)≤6∧(6:Int)<8) (Q2 (t_) (p_) (h_) (n_) (a_) (z_) (r0_) (r1_) (r2_) (r3_) (r4_) (r5_) (r6_) (r7_) (6) (r6_)))
def Tz (s:RS) (k a c e u v t_ p_ h_:Int) (n_:Nat) (a_ z_:LI) (r0_ r1_ r2_ r3_ r4_ r5_ r6_ r7_:Int) (Q0:Int→Prop) (Q1:Int→Int→Int→Nat→LI→LI→Int→Int→Int→Int→Int→Int→Int→Int→Int→Prop) (Q2:Int→Int→Int→Nat→LI→LI→Int→Int→Int→Int→Int→Int→Int→Int→Int→Int→Prop) (Q3:Int→Int→Prop) (R_:Bool→Prop) (O_:Int→Int→Int→Nat→LI→LI→Int→Int→Int→Int→Int→Int→Int→Int→Bool→Prop):Prop:=(Ba ((0:Int)≤7∧(7:Int)<8) (Q2 (t_) (p_) (h_) (n_) (a_) (z_) (r0_) (r1_) (r2_) (r3_) (r4_) (r5_) (r6_) (r7_) (7) (r7_)))
def BC (s:RS) (k a c e u v t_ p_ h_:Int) (n_:Nat) (a_ z_:LI) (r0_ r1_ r2_ r3_ r4_ r5_ r6_ r7_ i_:Int):Prop:=BI ⟨t_,p_,h_,n_,a_,z_,r0_,r1_,r2_,r3_,r4_,r5_,r6_,r7_⟩ s∧i_=a∧0≤a∧a<8
def P7 (s:RS) (k a c e u v t_ p_ h_:Int) (n_:Nat) (a_ z_:LI) (r0_ r1_ r2_ r3_ r4_ r5_ r6_ r7_ i_ w_:Int) (Q3:Int→Int→Prop):Prop:=(Q3 (i_) (w_))
def Dh (s:RS) (k a c e u v t_ p_ h_:Int) (n_:Nat) (a_ z_:LI) (r0_ r1_ r2_ r3_ r4_ r5_ r6_ r7_ i_ w_:Int):Prop:=BI ⟨t_,p_,h_,n_,a_,z_,r0_,r1_,r2_,r3_,r4_,r5_,r6_,r7_⟩ s∧i_=a∧0≤a∧a<8∧w_=Ot s a
def XW (s:RS) (k a c e u v i_ w_:Int) (Q0:Int→Prop) (Q1:Int→Int→Int→Nat→LI→LI→Int→Int→Int→Int→Int→Int→Int→Int→Int→Prop) (Q2:Int→Int→Int→Nat→LI→LI→Int→Int→Int→Int→Int→Int→Int→Int→Int→Int→Prop) (Q3:Int→Int→Prop) (R_:Bool→Prop) (O_:Int→Int→Int→Nat→LI→LI→Int→Int→Int→Int→Int→Int→Int→Int→Bool→Prop):Prop:=(BH (k==4) (∀r1:Bool,r1=(bif !Prod.snd (BR (RS.t s) (RS.p s) (RS.h s) c) then BM 2 e u v else BM 3 e u v||e==0&&XP s u (kJ (BR (RS.t s) (RS.p s) (RS.h s) c)) (-1))→(Ba (iN (RS.a s)≤1000) (R_ (r1&&Fz e u v w_)))) (BH (k==5) (Ba ((c !=0)=true→iN (RS.a s)≤1000) (BH (c !=0&&decide (CY (RS.a s) c<0)) (∀r4:Bool,r4=(BM 4 e u v)→(R_ (r4))) (∀r4:Bool,r4=(Em e u v c w_)→(R_ (r4))))) (∀r2:Bool,r2=(Em e u v w_ 0)→(R_ (r2)))))
def CE (s:RS) (k a c e u v i_ w_:Int):Prop:=i_=a∧0≤a∧a<8∧w_=Ot s a
theorem Adb (s:RS) (k a c e u v:Int) (hp0:s.a.length≤1000):Abg s k a c e u v (λi_'=>Df s k a c e u v i_') (λt_' p_' h_' n_' a_' z_' r0_' r1_' r2_' r3_' r4_' r5_' r6_' r7_' i_'=>BC s k a c e u v t_' p_' h_' n_' a_' z_' r0_' r1_' r2_' r3_' r4_' r5_' r6_' r7_' i_') (λt_' p_' h_' n_' a_' z_' r0_' r1_' r2_' r3_' r4_' r5_' r6_' r7_' i_' w_'=>Dh s k a c e u v t_' p_' h_' n_' a_' z_' r0_' r1_' r2_' r3_' r4_' r5_' r6_' r7_' i_' w_') (λi_' w_'=>CE s k a c e u v i_' w_') (λr__=>r__=(Dj s k a c e u v)) (λt_ p_ h_ n_ al_ zl_ x0_ x1_ x2_ x3_ x4_ x5_ x6_ x7_ r_=>BI ⟨t_,p_,h_,n_,al_,zl_,x0_,x1_,x2_,x3_,x4_,x5_,x6_,x7_⟩ (s)∧r_=(Dj s k a c e u v)):=by
 unfold Abg
 try unfold Df
 try unfold BC
 try unfold Dh
 try unfold CE
 refine ⟨λh=>?_, λh=>?_⟩
 ·rintro r rfl
  show _=Dj s k a c e u v
  unfold Dj;rw [h];rfl
 ·simp only [kF,decide_eq_false_iff_not] at h
  exact ⟨rfl,by omega,by omega⟩
theorem Adc (s:RS) (k a c e u v:Int) (hp0:s.a.length≤1000) (i_ t_ p_ h_:Int) (n_:Nat) (al_ zl_:LI) (x0_ x1_ x2_ x3_ x4_ x5_ x6_ x7_:Int) (hI:Df s k a c e u v i_) (hx:BI ⟨t_,p_,h_,n_,al_,zl_,x0_,x1_,x2_,x3_,x4_,x5_,x6_,x7_⟩ (s)):XV s k a c e u v i_ t_ p_ h_ n_ al_ zl_ x0_ x1_ x2_ x3_ x4_ x5_ x6_ x7_ (λt_' p_' h_' n_' a_' z_' r0_' r1_' r2_' r3_' r4_' r5_' r6_' r7_' i_'=>BC s k a c e u v t_' p_' h_' n_' a_' z_' r0_' r1_' r2_' r3_' r4_' r5_' r6_' r7_' i_'∧lx (4,0,0) (5,0,0)):=by
 unfold Df at hI
 unfold XV
 try unfold Df
 try unfold BC
 try unfold Dh
 try unfold CE
 exact ⟨⟨hx,hI⟩,BU⟩
theorem AhC (s:RS) (k a c e u v:Int) (hp0:s.a.length≤1000) (t_ p_ h_:Int) (n_:Nat) (a_ z_:LI) (r0_ r1_ r2_ r3_ r4_ r5_ r6_ r7_ i_:Int) (hI:BC s k a c e u v t_ p_ h_ n_ a_ z_ r0_ r1_ r2_ r3_ r4_ r5_ r6_ r7_ i_):i_=0∨i_=1∨i_=2∨i_=3∨i_=4∨i_=5∨i_=6∨i_=7:=by
 unfold BC at hI
 omega
theorem YQ (s:RS) (k a c e u v:Int) (hp0:s.a.length≤1000) (t_ p_ h_:Int) (n_:Nat) (a_ z_:LI) (r0_ r1_ r2_ r3_ r4_ r5_ r6_ r7_:Int) (hI:BC s k a c e u v t_ p_ h_ n_ a_ z_ r0_ r1_ r2_ r3_ r4_ r5_ r6_ r7_ (0:Int)):Tj s k a c e u v t_ p_ h_ n_ a_ z_ r0_ r1_ r2_ r3_ r4_ r5_ r6_ r7_ (λi_'=>Df s k a c e u v i_'∧lx (5,0,0) (4,0,0)) (λt_' p_' h_' n_' a_' z_' r0_' r1_' r2_' r3_' r4_' r5_' r6_' r7_' i_'=>BC s k a c e u v t_' p_' h_' n_' a_' z_' r0_' r1_' r2_' r3_' r4_' r5_' r6_' r7_' i_'∧lx (4,0,0) (4,0,0)) (λt_' p_' h_' n_' a_' z_' r0_' r1_' r2_' r3_' r4_' r5_' r6_' r7_' i_' w_'=>Dh s k a c e u v t_' p_' h_' n_' a_' z_' r0_' r1_' r2_' r3_' r4_' r5_' r6_' r7_' i_' w_'∧lx (3,0,0) (4,0,0)) (λi_' w_'=>CE s k a c e u v i_' w_'∧lx (2,0,0) (4,0,0)) (λr__=>r__=(Dj s k a c e u v)) (λt_ p_ h_ n_ al_ zl_ x0_ x1_ x2_ x3_ x4_ x5_ x6_ x7_ r_=>BI ⟨t_,p_,h_,n_,al_,zl_,x0_,x1_,x2_,x3_,x4_,x5_,x6_,x7_⟩ (s)∧r_=(Dj s k a c e u v)):=by
 unfold BC at hI
 unfold Tj
 try unfold Df
 try unfold BC
 try unfold Dh
 try unfold CE
 obtain ⟨hR,rfl,h1,h2⟩:=hI
 refine ⟨by decide, λ_=>⟨⟨hR,rfl,h1,h2,?_⟩,BU⟩⟩
 rw [hR.eq];rfl
theorem YR (s:RS) (k a c e u v:Int) (hp0:s.a.length≤1000) (t_ p_ h_:Int) (n_:Nat) (a_ z_:LI) (r0_ r1_ r2_ r3_ r4_ r5_ r6_ r7_:Int) (hI:BC s k a c e u v t_ p_ h_ n_ a_ z_ r0_ r1_ r2_ r3_ r4_ r5_ r6_ r7_ (1:Int)):Tm s k a c e u v t_ p_ h_ n_ a_ z_ r0_ r1_ r2_ r3_ r4_ r5_ r6_ r7_ (λi_'=>Df s k a c e u v i_'∧lx (5,0,0) (4,0,0)) (λt_' p_' h_' n_' a_' z_' r0_' r1_' r2_' r3_' r4_' r5_' r6_' r7_' i_'=>BC s k a c e u v t_' p_' h_' n_' a_' z_' r0_' r1_' r2_' r3_' r4_' r5_' r6_' r7_' i_'∧lx (4,0,0) (4,0,0)) (λt_' p_' h_' n_' a_' z_' r0_' r1_' r2_' r3_' r4_' r5_' r6_' r7_' i_' w_'=>Dh s k a c e u v t_' p_' h_' n_' a_' z_' r0_' r1_' r2_' r3_' r4_' r5_' r6_' r7_' i_' w_'∧lx (3,0,0) (4,0,0)) (λi_' w_'=>CE s k a c e u v i_' w_'∧lx (2,0,0) (4,0,0)) (λr__=>r__=(Dj s k a c e u v)) (λt_ p_ h_ n_ al_ zl_ x0_ x1_ x2_ x3_ x4_ x5_ x6_ x7_ r_=>BI ⟨t_,p_,h_,n_,al_,zl_,x0_,x1_,x2_,x3_,x4_,x5_,x6_,x7_⟩ (s)∧r_=(Dj s k a c e u v)):=by
 unfold BC at hI
 unfold Tm
 try unfold Df
 try unfold BC
 try unfold Dh
 try unfold CE
 obtain ⟨hR,rfl,h1,h2⟩:=hI
 refine ⟨by decide, λ_=>⟨⟨hR,rfl,h1,h2,?_⟩,BU⟩⟩
 rw [hR.eq];rfl
theorem YS (s:RS) (k a c e u v:Int) (hp0:s.a.length≤1000) (t_ p_ h_:Int) (n_:Nat) (a_ z_:LI) (r0_ r1_ r2_ r3_ r4_ r5_ r6_ r7_:Int) (hI:BC s k a c e u v t_ p_ h_ n_ a_ z_ r0_ r1_ r2_ r3_ r4_ r5_ r6_ r7_ (2:Int)):Tn s k a c e u v t_ p_ h_ n_ a_ z_ r0_ r1_ r2_ r3_ r4_ r5_ r6_ r7_ (λi_'=>Df s k a c e u v i_'∧lx (5,0,0) (4,0,0)) (λt_' p_' h_' n_' a_' z_' r0_' r1_' r2_' r3_' r4_' r5_' r6_' r7_' i_'=>BC s k a c e u v t_' p_' h_' n_' a_' z_' r0_' r1_' r2_' r3_' r4_' r5_' r6_' r7_' i_'∧lx (4,0,0) (4,0,0)) (λt_' p_' h_' n_' a_' z_' r0_' r1_' r2_' r3_' r4_' r5_' r6_' r7_' i_' w_'=>Dh s k a c e u v t_' p_' h_' n_' a_' z_' r0_' r1_' r2_' r3_' r4_' r5_' r6_' r7_' i_' w_'∧lx (3,0,0) (4,0,0)) (λi_' w_'=>CE s k a c e u v i_' w_'∧lx (2,0,0) (4,0,0)) (λr__=>r__=(Dj s k a c e u v)) (λt_ p_ h_ n_ al_ zl_ x0_ x1_ x2_ x3_ x4_ x5_ x6_ x7_ r_=>BI ⟨t_,p_,h_,n_,al_,zl_,x0_,x1_,x2_,x3_,x4_,x5_,x6_,x7_⟩ (s)∧r_=(Dj s k a c e u v)):=by
 unfold BC at hI
 unfold Tn
 try unfold Df
 try unfold BC
 try unfold Dh
 try unfold CE
 obtain ⟨hR,rfl,h1,h2⟩:=hI
 refine ⟨by decide, λ_=>⟨⟨hR,rfl,h1,h2,?_⟩,BU⟩⟩
 rw [hR.eq];rfl
theorem YT (s:RS) (k a c e u v:Int) (hp0:s.a.length≤1000) (t_ p_ h_:Int) (n_:Nat) (a_ z_:LI) (r0_ r1_ r2_ r3_ r4_ r5_ r6_ r7_:Int) (hI:BC s k a c e u v t_ p_ h_ n_ a_ z_ r0_ r1_ r2_ r3_ r4_ r5_ r6_ r7_ (3:Int)):Tq s k a c e u v t_ p_ h_ n_ a_ z_ r0_ r1_ r2_ r3_ r4_ r5_ r6_ r7_ (λi_'=>Df s k a c e u v i_'∧lx (5,0,0) (4,0,0)) (λt_' p_' h_' n_' a_' z_' r0_' r1_' r2_' r3_' r4_' r5_' r6_' r7_' i_'=>BC s k a c e u v t_' p_' h_' n_' a_' z_' r0_' r1_' r2_' r3_' r4_' r5_' r6_' r7_' i_'∧lx (4,0,0) (4,0,0)) (λt_' p_' h_' n_' a_' z_' r0_' r1_' r2_' r3_' r4_' r5_' r6_' r7_' i_' w_'=>Dh s k a c e u v t_' p_' h_' n_' a_' z_' r0_' r1_' r2_' r3_' r4_' r5_' r6_' r7_' i_' w_'∧lx (3,0,0) (4,0,0)) (λi_' w_'=>CE s k a c e u v i_' w_'∧lx (2,0,0) (4,0,0)) (λr__=>r__=(Dj s k a c e u v)) (λt_ p_ h_ n_ al_ zl_ x0_ x1_ x2_ x3_ x4_ x5_ x6_ x7_ r_=>BI ⟨t_,p_,h_,n_,al_,zl_,x0_,x1_,x2_,x3_,x4_,x5_,x6_,x7_⟩ (s)∧r_=(Dj s k a c e u v)):=by
 unfold BC at hI
 unfold Tq
 try unfold Df
 try unfold BC
 try unfold Dh
 try unfold CE
 obtain ⟨hR,rfl,h1,h2⟩:=hI
 refine ⟨by decide, λ_=>⟨⟨hR,rfl,h1,h2,?_⟩,BU⟩⟩
 rw [hR.eq];rfl
theorem YU (s:RS) (k a c e u v:Int) (hp0:s.a.length≤1000) (t_ p_ h_:Int) (n_:Nat) (a_ z_:LI) (r0_ r1_ r2_ r3_ r4_ r5_ r6_ r7_:Int) (hI:BC s k a c e u v t_ p_ h_ n_ a_ z_ r0_ r1_ r2_ r3_ r4_ r5_ r6_ r7_ (4:Int)):Tt s k a c e u v t_ p_ h_ n_ a_ z_ r0_ r1_ r2_ r3_ r4_ r5_ r6_ r7_ (λi_'=>Df s k a c e u v i_'∧lx (5,0,0) (4,0,0)) (λt_' p_' h_' n_' a_' z_' r0_' r1_' r2_' r3_' r4_' r5_' r6_' r7_' i_'=>BC s k a c e u v t_' p_' h_' n_' a_' z_' r0_' r1_' r2_' r3_' r4_' r5_' r6_' r7_' i_'∧lx (4,0,0) (4,0,0)) (λt_' p_' h_' n_' a_' z_' r0_' r1_' r2_' r3_' r4_' r5_' r6_' r7_' i_' w_'=>Dh s k a c e u v t_' p_' h_' n_' a_' z_' r0_' r1_' r2_' r3_' r4_' r5_' r6_' r7_' i_' w_'∧lx (3,0,0) (4,0,0)) (λi_' w_'=>CE s k a c e u v i_' w_'∧lx (2,0,0) (4,0,0)) (λr__=>r__=(Dj s k a c e u v)) (λt_ p_ h_ n_ al_ zl_ x0_ x1_ x2_ x3_ x4_ x5_ x6_ x7_ r_=>BI ⟨t_,p_,h_,n_,al_,zl_,x0_,x1_,x2_,x3_,x4_,x5_,x6_,x7_⟩ (s)∧r_=(Dj s k a c e u v)):=by
 unfold BC at hI
 unfold Tt
 try unfold Df
 try unfold BC
 try unfold Dh
 try unfold CE
 obtain ⟨hR,rfl,h1,h2⟩:=hI
 refine ⟨by decide, λ_=>⟨⟨hR,rfl,h1,h2,?_⟩,BU⟩⟩
 rw [hR.eq];rfl
theorem YV (s:RS) (k a c e u v:Int) (hp0:s.a.length≤1000) (t_ p_ h_:Int) (n_:Nat) (a_ z_:LI) (r0_ r1_ r2_ r3_ r4_ r5_ r6_ r7_:Int) (hI:BC s k a c e u v t_ p_ h_ n_ a_ z_ r0_ r1_ r2_ r3_ r4_ r5_ r6_ r7_ (5:Int)):Tu s k a c e u v t_ p_ h_ n_ a_ z_ r0_ r1_ r2_ r3_ r4_ r5_ r6_ r7_ (λi_'=>Df s k a c e u v i_'∧lx (5,0,0) (4,0,0)) (λt_' p_' h_' n_' a_' z_' r0_' r1_' r2_' r3_' r4_' r5_' r6_' r7_' i_'=>BC s k a c e u v t_' p_' h_' n_' a_' z_' r0_' r1_' r2_' r3_' r4_' r5_' r6_' r7_' i_'∧lx (4,0,0) (4,0,0)) (λt_' p_' h_' n_' a_' z_' r0_' r1_' r2_' r3_' r4_' r5_' r6_' r7_' i_' w_'=>Dh s k a c e u v t_' p_' h_' n_' a_' z_' r0_' r1_' r2_' r3_' r4_' r5_' r6_' r7_' i_' w_'∧lx (3,0,0) (4,0,0)) (λi_' w_'=>CE s k a c e u v i_' w_'∧lx (2,0,0) (4,0,0)) (λr__=>r__=(Dj s k a c e u v)) (λt_ p_ h_ n_ al_ zl_ x0_ x1_ x2_ x3_ x4_ x5_ x6_ x7_ r_=>BI ⟨t_,p_,h_,n_,al_,zl_,x0_,x1_,x2_,x3_,x4_,x5_,x6_,x7_⟩ (s)∧r_=(Dj s k a c e u v)):=by
 unfold BC at hI
 unfold Tu
 try unfold Df
 try unfold BC
 try unfold Dh
 try unfold CE
 obtain ⟨hR,rfl,h1,h2⟩:=hI
 refine ⟨by decide, λ_=>⟨⟨hR,rfl,h1,h2,?_⟩,BU⟩⟩
 rw [hR.eq];rfl
theorem YW (s:RS) (k a c e u v:Int) (hp0:s.a.length≤1000) (t_ p_ h_:Int) (n_:Nat) (a_ z_:LI) (r0_ r1_ r2_ r3_ r4_ r5_ r6_ r7_:Int) (hI:BC s k a c e u v t_ p_ h_ n_ a_ z_ r0_ r1_ r2_ r3_ r4_ r5_ r6_ r7_ (6:Int)):Tv s k a c e u v t_ p_ h_ n_ a_ z_ r0_ r1_ r2_ r3_ r4_ r5_ r6_ r7_ (λi_'=>Df s k a c e u v i_'∧lx (5,0,0) (4,0,0)) (λt_' p_' h_' n_' a_' z_' r0_' r1_' r2_' r3_' r4_' r5_' r6_' r7_' i_'=>BC s k a c e u v t_' p_' h_' n_' a_' z_' r0_' r1_' r2_' r3_' r4_' r5_' r6_' r7_' i_'∧lx (4,0,0) (4,0,0)) (λt_' p_' h_' n_' a_' z_' r0_' r1_' r2_' r3_' r4_' r5_' r6_' r7_' i_' w_'=>Dh s k a c e u v t_' p_' h_' n_' a_' z_' r0_' r1_' r2_' r3_' r4_' r5_' r6_' r7_' i_' w_'∧lx (3,0,0) (4,0,0)) (λi_' w_'=>CE s k a c e u v i_' w_'∧lx (2,0,0) (4,0,0)) (λr__=>r__=(Dj s k a c e u v)) (λt_ p_ h_ n_ al_ zl_ x0_ x1_ x2_ x3_ x4_ x5_ x6_ x7_ r_=>BI ⟨t_,p_,h_,n_,al_,zl_,x0_,x1_,x2_,x3_,x4_,x5_,x6_,x7_⟩ (s)∧r_=(Dj s k a c e u v)):=by
 unfold BC at hI
 unfold Tv
 try unfold Df
 try unfold BC
 try unfold Dh
 try unfold CE
 obtain ⟨hR,rfl,h1,h2⟩:=hI
 refine ⟨by decide, λ_=>⟨⟨hR,rfl,h1,h2,?_⟩,BU⟩⟩
 rw [hR.eq];rfl
theorem YX (s:RS) (k a c e u v:Int) (hp0:s.a.length≤1000) (t_ p_ h_:Int) (n_:Nat) (a_ z_:LI) (r0_ r1_ r2_ r3_ r4_ r5_ r6_ r7_:Int) (hI:BC s k a c e u v t_ p_ h_ n_ a_ z_ r0_ r1_ r2_ r3_ r4_ r5_ r6_ r7_ (7:Int)):Tz s k a c e u v t_ p_ h_ n_ a_ z_ r0_ r1_ r2_ r3_ r4_ r5_ r6_ r7_ (λi_'=>Df s k a c e u v i_'∧lx (5,0,0) (4,0,0)) (λt_' p_' h_' n_' a_' z_' r0_' r1_' r2_' r3_' r4_' r5_' r6_' r7_' i_'=>BC s k a c e u v t_' p_' h_' n_' a_' z_' r0_' r1_' r2_' r3_' r4_' r5_' r6_' r7_' i_'∧lx (4,0,0) (4,0,0)) (λt_' p_' h_' n_' a_' z_' r0_' r1_' r2_' r3_' r4_' r5_' r6_' r7_' i_' w_'=>Dh s k a c e u v t_' p_' h_' n_' a_' z_' r0_' r1_' r2_' r3_' r4_' r5_' r6_' r7_' i_' w_'∧lx (3,0,0) (4,0,0)) (λi_' w_'=>CE s k a c e u v i_' w_'∧lx (2,0,0) (4,0,0)) (λr__=>r__=(Dj s k a c e u v)) (λt_ p_ h_ n_ al_ zl_ x0_ x1_ x2_ x3_ x4_ x5_ x6_ x7_ r_=>BI ⟨t_,p_,h_,n_,al_,zl_,x0_,x1_,x2_,x3_,x4_,x5_,x6_,x7_⟩ (s)∧r_=(Dj s k a c e u v)):=by
 unfold BC at hI
 unfold Tz
 try unfold Df
 try unfold BC
 try unfold Dh
 try unfold CE
 obtain ⟨hR,rfl,h1,h2⟩:=hI
 refine ⟨by decide, λ_=>⟨⟨hR,rfl,h1,h2,?_⟩,BU⟩⟩
 rw [hR.eq];rfl
theorem Qy (s:RS) (k a c e u v:Int) (hp0:s.a.length≤1000) (t_ p_ h_:Int) (n_:Nat) (a_ z_:LI) (r0_ r1_ r2_ r3_ r4_ r5_ r6_ r7_ i_ w_:Int) (hI:Dh s k a c e u v t_ p_ h_ n_ a_ z_ r0_ r1_ r2_ r3_ r4_ r5_ r6_ r7_ i_ w_):(BI ⟨t_,p_,h_,n_,a_,z_,r0_,r1_,r2_,r3_,r4_,r5_,r6_,r7_⟩ s)∧P7 s k a c e u v t_ p_ h_ n_ a_ z_ r0_ r1_ r2_ r3_ r4_ r5_ r6_ r7_ i_ w_ (λi_' w_'=>CE s k a c e u v i_' w_'∧lx (2,0,0) (3,0,0)):=by
 unfold Dh at hI
 unfold P7
 try unfold Df
 try unfold BC
 try unfold Dh
 try unfold CE
 obtain ⟨hR,hI⟩:=hI
 exact ⟨hR,hI,BU⟩
theorem Ade (s:RS) (k a c e u v:Int) (hp0:s.a.length≤1000) (i_ w_:Int) (hI:CE s k a c e u v i_ w_):XW s k a c e u v i_ w_ (λi_'=>Df s k a c e u v i_'∧lx (5,0,0) (2,0,0)) (λt_' p_' h_' n_' a_' z_' r0_' r1_' r2_' r3_' r4_' r5_' r6_' r7_' i_'=>BC s k a c e u v t_' p_' h_' n_' a_' z_' r0_' r1_' r2_' r3_' r4_' r5_' r6_' r7_' i_'∧lx (4,0,0) (2,0,0)) (λt_' p_' h_' n_' a_' z_' r0_' r1_' r2_' r3_' r4_' r5_' r6_' r7_' i_' w_'=>Dh s k a c e u v t_' p_' h_' n_' a_' z_' r0_' r1_' r2_' r3_' r4_' r5_' r6_' r7_' i_' w_'∧lx (3,0,0) (2,0,0)) (λi_' w_'=>CE s k a c e u v i_' w_'∧lx (2,0,0) (2,0,0)) (λr__=>r__=(Dj s k a c e u v)) (λt_ p_ h_ n_ al_ zl_ x0_ x1_ x2_ x3_ x4_ x5_ x6_ x7_ r_=>BI ⟨t_,p_,h_,n_,al_,zl_,x0_,x1_,x2_,x3_,x4_,x5_,x6_,x7_⟩ (s)∧r_=(Dj s k a c e u v)):=by
 unfold CE at hI
 unfold XW
 try unfold Df
 try unfold BC
 try unfold Dh
 try unfold CE
 obtain ⟨rfl,h1,h2,rfl⟩:=hI
 have hb:(decide (i_<0)||decide (i_>7))=false:=kF.2 ⟨decide_eq_false (by omega),decide_eq_false (by omega)⟩
 refine ⟨λh4=>?_, λh4=>⟨λh5=>⟨λ_=>hp0, λ_=>⟨λhb2=>?_, λhb2=>?_⟩⟩, λh5=>?_⟩⟩
 ·rintro r rfl
  refine ⟨hp0, λ_=>?_⟩
  show _=Dj s k i_ c e u v
  unfold Dj;rw [hb,h4];rfl
 ·rintro r rfl
  show _=Dj s k i_ c e u v
  unfold Dj;rw [hb,h4,h5,hb2];rfl
 ·rintro r rfl
  show _=Dj s k i_ c e u v
  unfold Dj;rw [hb,h4,h5,hb2];rfl
 ·rintro r rfl
  show _=Dj s k i_ c e u v
  unfold Dj;rw [hb,h4,h5];rfl
theorem AiV:DZ 57 Abf:=
 EX Dg I5 false XU (I:=[1026900,1362000,2999998]) Try.func57 mix (B:=AY Try.f57) (by kernel_rfl) rfl (by kernel_rfl) 400
  λo s k a c e u v hb hp=>have hp0:s.a.length≤1000:=hp _ (.head _);⟨s,s,(Dj s k a c e u v),[⟨some 900,[0,1,1],[.code [1,1,1]],[0,4,5],[.objk D7 ⟨o,0,none⟩ (s), .box 29 [.ic .i64 (k), .i .i64, .ic .i64 (c)], .box 32 [.ic .i64 (e), .ic .i64 (u), .ic .i64 (v)]]⟩,⟨some 900,[0,1,1],[.code [1,1,1]],[0,4,5],[.boxc o BL.t BL.l, .box 29 [.ic .i64 (k), .i .i64, .ic .i64 (c)], .box 32 [.ic .i64 (e), .ic .i64 (u), .ic .i64 (v)]]⟩,⟨some 0,[0,0,1,1,1],[.code [1,0,1,1,1], .code [1,1,1,1]],[0,4,5,7],[.boxc o BL.t BL.l, .box 29 [.ic .i64 (k), .i .i64, .ic .i64 (c)], .box 32 [.ic .i64 (e), .ic .i64 (u), .ic .i64 (v)], .i .i64]⟩,⟨some 0,[0,0,1,1,1],[.code [1,0,1,1,1], .code [1,1,1,1]],[0,4,5,7],[.objk D7 ⟨o,0,none⟩ (s), .box 29 [.ic .i64 (k), .i .i64, .ic .i64 (c)], .box 32 [.ic .i64 (e), .ic .i64 (u), .ic .i64 (v)], .i .i64]⟩],[.opn 0 (λ_=>o) 1, .run, .cls 3, .run], λj=>iM [Ak (Hd.kd (⟨some 900,[0,1,1],[.code [1,1,1]],[0,4,5],[.objk D7 ⟨o,0,none⟩ (s), .box 29 [.ic .i64 (k), .i .i64, .ic .i64 (c)], .box 32 [.ic .i64 (e), .ic .i64 (u), .ic .i64 (v)]]⟩:Hd Sg)) (λi_'=>Df s k a c e u v i_'),Ak (Hd.kd (⟨some 900,[0,1,1],[.code [1,1,1]],[0,4,5],[.boxc o BL.t BL.l, .box 29 [.ic .i64 (k), .i .i64, .ic .i64 (c)], .box 32 [.ic .i64 (e), .ic .i64 (u), .ic .i64 (v)]]⟩:Hd Sg)) (λt_' p_' h_' n_' a_' z_' r0_' r1_' r2_' r3_' r4_' r5_' r6_' r7_' i_'=>BC s k a c e u v t_' p_' h_' n_' a_' z_' r0_' r1_' r2_' r3_' r4_' r5_' r6_' r7_' i_'),Ak (Hd.kd (⟨some 0,[0,0,1,1,1],[.code [1,0,1,1,1], .code [1,1,1,1]],[0,4,5,7],[.boxc o BL.t BL.l, .box 29 [.ic .i64 (k), .i .i64, .ic .i64 (c)], .box 32 [.ic .i64 (e), .ic .i64 (u), .ic .i64 (v)], .i .i64]⟩:Hd Sg)) (λt_' p_' h_' n_' a_' z_' r0_' r1_' r2_' r3_' r4_' r5_' r6_' r7_' i_' w_'=>Dh s k a c e u v t_' p_' h_' n_' a_' z_' r0_' r1_' r2_' r3_' r4_' r5_' r6_' r7_' i_' w_'),Ak (Hd.kd (⟨some 0,[0,0,1,1,1],[.code [1,0,1,1,1], .code [1,1,1,1]],[0,4,5,7],[.objk D7 ⟨o,0,none⟩ (s), .box 29 [.ic .i64 (k), .i .i64, .ic .i64 (c)], .box 32 [.ic .i64 (e), .ic .i64 (u), .ic .i64 (v)], .i .i64]⟩:Hd Sg)) (λi_' w_'=>CE s k a c e u v i_' w_')] j (λ_=>False), λj=>iM [Ak (Hd.kd (⟨some 900,[0,1,1],[.code [1,1,1]],[0,4,5],[.objk D7 ⟨o,0,none⟩ (s), .box 29 [.ic .i64 (k), .i .i64, .ic .i64 (c)], .box 32 [.ic .i64 (e), .ic .i64 (u), .ic .i64 (v)]]⟩:Hd Sg)) (λi_'=>(5,0,0)),Ak (Hd.kd (⟨some 900,[0,1,1],[.code [1,1,1]],[0,4,5],[.boxc o BL.t BL.l, .box 29 [.ic .i64 (k), .i .i64, .ic .i64 (c)], .box 32 [.ic .i64 (e), .ic .i64 (u), .ic .i64 (v)]]⟩:Hd Sg)) (λt_' p_' h_' n_' a_' z_' r0_' r1_' r2_' r3_' r4_' r5_' r6_' r7_' i_'=>(4,0,0)),Ak (Hd.kd (⟨some 0,[0,0,1,1,1],[.code [1,0,1,1,1], .code [1,1,1,1]],[0,4,5,7],[.boxc o BL.t BL.l, .box 29 [.ic .i64 (k), .i .i64, .ic .i64 (c)], .box 32 [.ic .i64 (e), .ic .i64 (u), .ic .i64 (v)], .i .i64]⟩:Hd Sg)) (λt_' p_' h_' n_' a_' z_' r0_' r1_' r2_' r3_' r4_' r5_' r6_' r7_' i_' w_'=>(3,0,0)),Ak (Hd.kd (⟨some 0,[0,0,1,1,1],[.code [1,0,1,1,1], .code [1,1,1,1]],[0,4,5,7],[.objk D7 ⟨o,0,none⟩ (s), .box 29 [.ic .i64 (k), .i .i64, .ic .i64 (c)], .box 32 [.ic .i64 (e), .ic .i64 (u), .ic .i64 (v)], .i .i64]⟩:Hd Sg)) (λi_' w_'=>(2,0,0))] j (λ_=>(0,0,0)),by kernel_rfl, λ_ _=>by kernel_rfl,by kernel_rfl,⟨_, λ_ _ _=>by kernel_rfl,Adb s k a c e u v hp0⟩,⟨λi_ hI=>⟨s, λ_=>by kernel_rfl, λt_ p_ h_ n_ al_ zl_ x0_ x1_ x2_ x3_ x4_ x5_ x6_ x7_ hx=>⟨_, λ_ _=>by kernel_rfl,Adc s k a c e u v hp0 i_ t_ p_ h_ n_ al_ zl_ x0_ x1_ x2_ x3_ x4_ x5_ x6_ x7_ hI hx⟩⟩,⟨λt_ p_ h_ n_ a_ z_ r0_ r1_ r2_ r3_ r4_ r5_ r6_ r7_ i_ hI=>(by
   rcases AhC s k a c e u v hp0 t_ p_ h_ n_ a_ z_ r0_ r1_ r2_ r3_ r4_ r5_ r6_ r7_ i_ hI with rfl|rfl|rfl|rfl|rfl|rfl|rfl|rfl
   ·exact ⟨_, λ_ _ _=>by kernel_rfl,YQ s k a c e u v hp0 t_ p_ h_ n_ a_ z_ r0_ r1_ r2_ r3_ r4_ r5_ r6_ r7_ hI⟩
   ·exact ⟨_, λ_ _ _=>by kernel_rfl,YR s k a c e u v hp0 t_ p_ h_ n_ a_ z_ r0_ r1_ r2_ r3_ r4_ r5_ r6_ r7_ hI⟩
   ·exact ⟨_, λ_ _ _=>by kernel_rfl,YS s k a c e u v hp0 t_ p_ h_ n_ a_ z_ r0_ r1_ r2_ r3_ r4_ r5_ r6_ r7_ hI⟩
   ·exact ⟨_, λ_ _ _=>by kernel_rfl,YT s k a c e u v hp0 t_ p_ h_ n_ a_ z_ r0_ r1_ r2_ r3_ r4_ r5_ r6_ r7_ hI⟩
   ·exact ⟨_, λ_ _ _=>by kernel_rfl,YU s k a c e u v hp0 t_ p_ h_ n_ a_ z_ r0_ r1_ r2_ r3_ r4_ r5_ r6_ r7_ hI⟩
   ·exact ⟨_, λ_ _ _=>by kernel_rfl,YV s k a c e u v hp0 t_ p_ h_ n_ a_ z_ r0_ r1_ r2_ r3_ r4_ r5_ r6_ r7_ hI⟩
   ·exact ⟨_, λ_ _ _=>by kernel_rfl,YW s k a c e u v hp0 t_ p_ h_ n_ a_ z_ r0_ r1_ r2_ r3_ r4_ r5_ r6_ r7_ hI⟩
   ·exact ⟨_, λ_ _ _=>by kernel_rfl,YX s k a c e u v hp0 t_ p_ h_ n_ a_ z_ r0_ r1_ r2_ r3_ r4_ r5_ r6_ r7_ hI⟩),⟨λt_ p_ h_ n_ a_ z_ r0_ r1_ r2_ r3_ r4_ r5_ r6_ r7_ i_ w_ hI=>⟨s,P7 s k a c e u v t_ p_ h_ n_ a_ z_ r0_ r1_ r2_ r3_ r4_ r5_ r6_ r7_ i_ w_ (λi_' w_'=>CE s k a c e u v i_' w_'∧lx (2,0,0) (3,0,0)),(Qy s k a c e u v hp0 t_ p_ h_ n_ a_ z_ r0_ r1_ r2_ r3_ r4_ r5_ r6_ r7_ i_ w_ hI).1, λ_=>by kernel_rfl,(Qy s k a c e u v hp0 t_ p_ h_ n_ a_ z_ r0_ r1_ r2_ r3_ r4_ r5_ r6_ r7_ i_ w_ hI).2⟩,⟨λi_ w_ hI=>⟨_, λ_ _ _=>by kernel_rfl,Ade s k a c e u v hp0 i_ w_ hI⟩,trivial⟩⟩⟩⟩⟩
def Abh:Tb:=(57,Abf)::AhB
theorem TA:DU Abh:=Ej AiV XU
end
section
open Go.Sl
def gR (s:RS) (k a:Int):Bool:=(k==2||k==3||k==7)&&decide (CY s.a a<0)
def Ny (s:RS) (k a c e u v:Int):Bool:=
 bif k==1 then ET s a e u v (-1)&&Fz e u v (BR s.t s.p s.h a).1
 else bif k==2 then (bif ES s a then BM 6 e u v else Em e u v (s.z.getD (CY s.a a).toNat 0) 0)
 else bif k==3 then (bif u==a then ET s c e u v (CY s.a a)&&Fz e u v (BR s.t s.p s.h c).1 else ET s c e u v (-1)&&Fz e u v (BR s.t s.p s.h c).1)
 else bif k==7 then Em e u v (s.z.getD (CY s.a a).toNat 0) 0
 else bif k==8 then e==0&&decide (u≥0)&&decide (u≤s.p)&&v==(s.a.length:Int)
 else bif k==9 then (bif decide (a<0)||decide (a>8) then BM 7 e u v else e==0&&decide (u≥0)&&decide (u≤4)&&v==0)
 else Dj s k a c e u v
theorem AlZ {l:LI} {g:Int} (h:0≤CY l g):(CY l g).toNat<l.length:=by
 unfold CY at h ⊢
 cases hf:l.findIdx? (· ==g) with
 |none=>rw [hf] at h;exact absurd h (by decide)
 |some i=>
  rw [lN] at hf
  obtain ⟨hi,_⟩:=hf
  exact hi
theorem Adf {k:Int} {s:RS} {a:Int} (h:gR s k a=false) (hk:(k==2||k==3||k==7)=true):0≤CY s.a a:=by
 unfold gR at h
 rw [hk,oA] at h
 simpa using h
def Bc (s:RS) (k a c e u v:Int):Bool:=bif !Dk k a c then BM 1 e u v else bif gR s k a then BM 4 e u v else Ny s k a c e u v
abbrev J7:Ct Sg:=⟨some D7,true,[.agg [.i .i64, .i .i64, .i .i64], .agg [.i .i64, .i .i64, .i .i64]], .b⟩
def Abi:Entry Sg:=CP J7 (λ(s:RS) (k:Int) (a:Int) (c:Int) (e:Int) (u:Int) (v:Int)=>bif !Dk k a c then BM 1 e u v else bif gR s k a then BM 4 e u v else Ny s k a c e u v) (λs k a c e u v=>[s.a.length≤1000])
def Abj (s:RS) (k a c e u v:Int) (Q0:Int→Prop) (Q1:Int→Int→Int→Nat→LI→LI→Int→Int→Int→Int→Int→Int→Int→Int→Int→Prop) (Q2:Int→Int→Int→Nat→LI→LI→Int→Int→Int→Int→Int→Int→Int→Int→Int→Prop) (Q3:Int→Prop) (Q4:Int→Prop) (Q5:Int→Int→Int→Nat→LI→LI→Int→Int→Int→Int→Int→Int→Int→Int→Int→Prop) (Q6:Int→Prop) (Q7:Int→Int→Int→Nat→LI→LI→Int→Int→Int→Int→Int→Int→Int→Int→Int→Prop) (Q8:Int→Int→Int→Nat→LI→LI→Int→Int→Int→Int→Int→Int→Int→Int→Int→Int→Prop) (Q9:Int→Int→Prop) (Q10:Int→Prop) (Q11:Int→Int→Int→Nat→LI→LI→Int→Int→Int→Int→Int→Int→Int→Int→Int→Prop) (Q12:Int→Prop) (Q13:Int→Int→Int→Nat→LI→LI→Int→Int→Int→Int→Int→Int→Int→Int→Int→Prop) (R_:Bool→Prop) (O_:Int→Int→Int→Nat→LI→LI→Int→Int→Int→Int→Int→Int→Int→Int→Bool→Prop):Prop:=(∀r2:Bool,r2=(Dk k a c)→(BH (!r2) (∀r4:Bool,r4=(BM 1 e u v)→(R_ (r4))) (∀r4:Int,r4=(CY (RS.a s) a)→(Ba (iN (RS.a s)≤1000) (BH ((k==2||k==3||k==7)&&decide (r4<0)) (∀r7:Bool,r7=(BM 4 e u v)→(R_ (r7))) (BH (k==1) (Q0 (r4)) (BH (k==2) (∀r9:Bool,r9=(List.any [RS.r0 s,RS.r1 s,RS.r2 s,RS.r3 s,RS.r4 s,RS.r5 s,RS.r6 s,RS.r7 s] λx=>x==a)→(BH (r9) (∀r11:Bool,r11=(BM 6 e u v)→(R_ (r11))) (Q4 (r4)))) (BH (k==3) (Q6 (r4)) (BH (k==7) (Q10 (r4)) (BH (k==8) (Q12 (r4)) (BH (k==9) (BH (decide (a<0)||decide (a>8)) (∀r14:Bool,r14=(BM 7 e u v)→(R_ (r14))) (R_ (e==0&&decide (u≥0)&&decide (u≤4)&&v==0))) (∀r13:Bool,r13=(bif decide (a<0)||decide (a>7) then BM 5 e u v else bif k==4 then ET s c e u v (-1)&&Fz e u v (Ot s a) else bif k==5 then bif c !=0&&decide (CY (RS.a s) c<0) then BM 4 e u v else Em e u v c (Ot s a) else Em e u v (Ot s a) 0)→(Ba (iN (RS.a s)≤1000) (R_ (r13)))))))))))))))
def XX (s:RS) (k a c e u v i_ t_ p_ h_:Int) (n_:Nat) (al_ zl_:LI) (x0_ x1_ x2_ x3_ x4_ x5_ x6_ x7_:Int) (Q1:Int→Int→Int→Nat→LI→LI→Int→Int→Int→Int→Int→Int→Int→Int→Int→Prop):Prop:=(Q1 (t_) (p_) (h_) (n_) (al_) (zl_) (x0_) (x1_) (x2_) (x3_) (x4_) (x5_) (x6_) (x7_) (i_))
def CS (s:RS) (k a c e u v i_:Int):Prop:=k=1∧Dk k a c=true∧gR s k a=false
def XY (s:RS) (k a c e u v t_ p_ h_:Int) (n_:Nat) (a_ z_:LI) (r0_ r1_ r2_ r3_ r4_ r5_ r6_ r7_ i_:Int) (Q0:Int→Prop) (Q1:Int→Int→Int→Nat→LI→LI→Int→Int→Int→Int→Int→Int→Int→Int→Int→Prop) (Q2:Int→Int→Int→Nat→LI→LI→Int→Int→Int→Int→Int→Int→Int→Int→Int→Prop) (Q3:Int→Prop) (Q4:Int→Prop) (Q5:Int→Int→Int→Nat→LI→LI→Int→Int→Int→Int→Int→Int→Int→Int→Int→Prop) (Q6:Int→Prop) (Q7:Int→Int→Int→Nat→LI→LI→Int→Int→Int→Int→Int→Int→Int→Int→Int→Prop) (Q8:Int→Int→Int→Nat→LI→LI→Int→Int→Int→Int→Int→Int→Int→Int→Int→Int→Prop) (Q9:Int→Int→Prop) (Q10:Int→Prop) (Q11:Int→Int→Int→Nat→LI→LI→Int→Int→Int→Int→Int→Int→Int→Int→Int→Prop) (Q12:Int→Prop) (Q13:Int→Int→Int→Nat→LI→LI→Int→Int→Int→Int→Int→Int→Int→Int→Int→Prop) (R_:Bool→Prop) (O_:Int→Int→Int→Nat→LI→LI→Int→Int→Int→Int→Int→Int→Int→Int→Bool→Prop):Prop:=(Q2 (t_) (p_) (h_) (n_) (a_) (z_) (r0_) (r1_) (r2_) (r3_) (r4_) (r5_) (r6_) (r7_) (kJ (BR t_ p_ h_ a)))
def CG (s:RS) (k a c e u v t_ p_ h_:Int) (n_:Nat) (a_ z_:LI) (r0_ r1_ r2_ r3_ r4_ r5_ r6_ r7_ i_:Int):Prop:=BI ⟨t_,p_,h_,n_,a_,z_,r0_,r1_,r2_,r3_,r4_,r5_,r6_,r7_⟩ s∧k=1∧Dk k a c=true∧gR s k a=false
def P8 (s:RS) (k a c e u v t_ p_ h_:Int) (n_:Nat) (a_ z_:LI) (r0_ r1_ r2_ r3_ r4_ r5_ r6_ r7_ w_:Int) (Q3:Int→Prop):Prop:=(Q3 (w_))
def CU (s:RS) (k a c e u v t_ p_ h_:Int) (n_:Nat) (a_ z_:LI) (r0_ r1_ r2_ r3_ r4_ r5_ r6_ r7_ w_:Int):Prop:=BI ⟨t_,p_,h_,n_,a_,z_,r0_,r1_,r2_,r3_,r4_,r5_,r6_,r7_⟩ s∧k=1∧Dk k a c=true∧gR s k a=false∧w_=(BR s.t s.p s.h a).1
abbrev VY (s:RS) (a e u v:Int) (R_:Bool→Prop) (w_:Int):Prop:=(∀r0:Bool,r0=(bif !Prod.snd (BR (RS.t s) (RS.p s) (RS.h s) a) then BM 2 e u v else BM 3 e u v||e==0&&XP s u (kJ (BR (RS.t s) (RS.p s) (RS.h s) a)) (-1))→(Ba (iN (RS.a s)≤1000) (R_ (r0&&Fz e u v w_))))
def XZ (s:RS) (k a c e u v w_:Int) (Q0:Int→Prop) (Q1:Int→Int→Int→Nat→LI→LI→Int→Int→Int→Int→Int→Int→Int→Int→Int→Prop) (Q2:Int→Int→Int→Nat→LI→LI→Int→Int→Int→Int→Int→Int→Int→Int→Int→Prop) (Q3:Int→Prop) (Q4:Int→Prop) (Q5:Int→Int→Int→Nat→LI→LI→Int→Int→Int→Int→Int→Int→Int→Int→Int→Prop) (Q6:Int→Prop) (Q7:Int→Int→Int→Nat→LI→LI→Int→Int→Int→Int→Int→Int→Int→Int→Int→Prop) (Q8:Int→Int→Int→Nat→LI→LI→Int→Int→Int→Int→Int→Int→Int→Int→Int→Int→Prop) (Q9:Int→Int→Prop) (Q10:Int→Prop) (Q11:Int→Int→Int→Nat→LI→LI→Int→Int→Int→Int→Int→Int→Int→Int→Int→Prop) (Q12:Int→Prop) (Q13:Int→Int→Int→Nat→LI→LI→Int→Int→Int→Int→Int→Int→Int→Int→Int→Prop) (R_:Bool→Prop) (O_:Int→Int→Int→Nat→LI→LI→Int→Int→Int→Int→Int→Int→Int→Int→Bool→Prop):Prop:=(VY s a e u v R_ w_)
def Cj (s:RS) (k a c e u v w_:Int):Prop:=k=1∧Dk k a c=true∧gR s k a=false∧w_=(BR s.t s.p s.h a).1
def Ya (s:RS) (k a c e u v i_ t_ p_ h_:Int) (n_:Nat) (al_ zl_:LI) (x0_ x1_ x2_ x3_ x4_ x5_ x6_ x7_:Int) (Q5:Int→Int→Int→Nat→LI→LI→Int→Int→Int→Int→Int→Int→Int→Int→Int→Prop):Prop:=(Q5 (t_) (p_) (h_) (n_) (al_) (zl_) (x0_) (x1_) (x2_) (x3_) (x4_) (x5_) (x6_) (x7_) (i_))
def CV (s:RS) (k a c e u v i_:Int):Prop:=k=2∧i_=CY s.a a∧0≤i_∧ES s a=false∧Dk k a c=true∧gR s k a=false
def Yb (s:RS) (k a c e u v t_ p_ h_:Int) (n_:Nat) (a_ z_:LI) (r0_ r1_ r2_ r3_ r4_ r5_ r6_ r7_ i_:Int) (Q0:Int→Prop) (Q1:Int→Int→Int→Nat→LI→LI→Int→Int→Int→Int→Int→Int→Int→Int→Int→Prop) (Q2:Int→Int→Int→Nat→LI→LI→Int→Int→Int→Int→Int→Int→Int→Int→Int→Prop) (Q3:Int→Prop) (Q4:Int→Prop) (Q5:Int→Int→Int→Nat→LI→LI→Int→Int→Int→Int→Int→Int→Int→Int→Int→Prop) (Q6:Int→Prop) (Q7:Int→Int→Int→Nat→LI→LI→Int→Int→Int→Int→Int→Int→Int→Int→Int→Prop) (Q8:Int→Int→Int→Nat→LI→LI→Int→Int→Int→Int→Int→Int→Int→Int→Int→Int→Prop) (Q9:Int→Int→Prop) (Q10:Int→Prop) (Q11:Int→Int→Int→Nat→LI→LI→Int→Int→Int→Int→Int→Int→Int→Int→Int→Prop) (Q12:Int→Prop) (Q13:Int→Int→Int→Nat→LI→LI→Int→Int→Int→Int→Int→Int→Int→Int→Int→Prop) (R_:Bool→Prop) (O_:Int→Int→Int→Nat→LI→LI→Int→Int→Int→Int→Int→Int→Int→Int→Bool→Prop):Prop:=(Ba (0≤i_∧i_<(↑n_:Int)) (O_ (t_) (p_) (h_) (n_) (a_) (z_) (r0_) (r1_) (r2_) (r3_) (r4_) (r5_) (r6_) (r7_) (Em e u v (iM z_ (jL i_) 0) 0)))
def CJ (s:RS) (k a c e u v t_ p_ h_:Int) (n_:Nat) (a_ z_:LI) (r0_ r1_ r2_ r3_ r4_ r5_ r6_ r7_ i_:Int):Prop:=BI ⟨t_,p_,h_,n_,a_,z_,r0_,r1_,r2_,r3_,r4_,r5_,r6_,r7_⟩ s∧k=2∧i_=CY s.a a∧0≤i_∧ES s a=false∧Dk k a c=true∧gR s k a=false
def Yc (s:RS) (k a c e u v i_ t_ p_ h_:Int) (n_:Nat) (al_ zl_:LI) (x0_ x1_ x2_ x3_ x4_ x5_ x6_ x7_:Int) (Q7:Int→Int→Int→Nat→LI→LI→Int→Int→Int→Int→Int→Int→Int→Int→Int→Prop):Prop:=(Q7 (t_) (p_) (h_) (n_) (al_) (zl_) (x0_) (x1_) (x2_) (x3_) (x4_) (x5_) (x6_) (x7_) (i_))
def CW (s:RS) (k a c e u v i_:Int):Prop:=k=3∧i_=CY s.a a∧Dk k a c=true∧gR s k a=false
def Yd (s:RS) (k a c e u v t_ p_ h_:Int) (n_:Nat) (a_ z_:LI) (r0_ r1_ r2_ r3_ r4_ r5_ r6_ r7_ i_:Int) (Q0:Int→Prop) (Q1:Int→Int→Int→Nat→LI→LI→Int→Int→Int→Int→Int→Int→Int→Int→Int→Prop) (Q2:Int→Int→Int→Nat→LI→LI→Int→Int→Int→Int→Int→Int→Int→Int→Int→Prop) (Q3:Int→Prop) (Q4:Int→Prop) (Q5:Int→Int→Int→Nat→LI→LI→Int→Int→Int→Int→Int→Int→Int→Int→Int→Prop) (Q6:Int→Prop) (Q7:Int→Int→Int→Nat→LI→LI→Int→Int→Int→Int→Int→Int→Int→Int→Int→Prop) (Q8:Int→Int→Int→Nat→LI→LI→Int→Int→Int→Int→Int→Int→Int→Int→Int→Int→Prop) (Q9:Int→Int→Prop) (Q10:Int→Prop) (Q11:Int→Int→Int→Nat→LI→LI→Int→Int→Int→Int→Int→Int→Int→Int→Int→Prop) (Q12:Int→Prop) (Q13:Int→Int→Int→Nat→LI→LI→Int→Int→Int→Int→Int→Int→Int→Int→Int→Prop) (R_:Bool→Prop) (O_:Int→Int→Int→Nat→LI→LI→Int→Int→Int→Int→Int→Int→Int→Int→Bool→Prop):Prop:=(Q8 (t_) (p_) (h_) (n_) (a_) (z_) (r0_) (r1_) (r2_) (r3_) (r4_) (r5_) (r6_) (r7_) (i_) (kJ (BR t_ p_ h_ c)))
def CO (s:RS) (k a c e u v t_ p_ h_:Int) (n_:Nat) (a_ z_:LI) (r0_ r1_ r2_ r3_ r4_ r5_ r6_ r7_ i_:Int):Prop:=BI ⟨t_,p_,h_,n_,a_,z_,r0_,r1_,r2_,r3_,r4_,r5_,r6_,r7_⟩ s∧k=3∧i_=CY s.a a∧Dk k a c=true∧gR s k a=false
def P9 (s:RS) (k a c e u v t_ p_ h_:Int) (n_:Nat) (a_ z_:LI) (r0_ r1_ r2_ r3_ r4_ r5_ r6_ r7_ i_ w_:Int) (Q9:Int→Int→Prop):Prop:=(Q9 (i_) (w_))
def CX (s:RS) (k a c e u v t_ p_ h_:Int) (n_:Nat) (a_ z_:LI) (r0_ r1_ r2_ r3_ r4_ r5_ r6_ r7_ i_ w_:Int):Prop:=BI ⟨t_,p_,h_,n_,a_,z_,r0_,r1_,r2_,r3_,r4_,r5_,r6_,r7_⟩ s∧k=3∧i_=CY s.a a∧Dk k a c=true∧gR s k a=false∧w_=(BR s.t s.p s.h c).1
def Ye (s:RS) (k a c e u v i_ w_:Int) (Q0:Int→Prop) (Q1:Int→Int→Int→Nat→LI→LI→Int→Int→Int→Int→Int→Int→Int→Int→Int→Prop) (Q2:Int→Int→Int→Nat→LI→LI→Int→Int→Int→Int→Int→Int→Int→Int→Int→Prop) (Q3:Int→Prop) (Q4:Int→Prop) (Q5:Int→Int→Int→Nat→LI→LI→Int→Int→Int→Int→Int→Int→Int→Int→Int→Prop) (Q6:Int→Prop) (Q7:Int→Int→Int→Nat→LI→LI→Int→Int→Int→Int→Int→Int→Int→Int→Int→Prop) (Q8:Int→Int→Int→Nat→LI→LI→Int→Int→Int→Int→Int→Int→Int→Int→Int→Int→Prop) (Q9:Int→Int→Prop) (Q10:Int→Prop) (Q11:Int→Int→Int→Nat→LI→LI→Int→Int→Int→Int→Int→Int→Int→Int→Int→Prop) (Q12:Int→Prop) (Q13:Int→Int→Int→Nat→LI→LI→Int→Int→Int→Int→Int→Int→Int→Int→Int→Prop) (R_:Bool→Prop) (O_:Int→Int→Int→Nat→LI→LI→Int→Int→Int→Int→Int→Int→Int→Int→Bool→Prop):Prop:=(BH (u==a) (∀r1:Bool,r1=(bif !Prod.snd (BR (RS.t s) (RS.p s) (RS.h s) c) then BM 2 e u v else BM 3 e u v||e==0&&XP s u (kJ (BR (RS.t s) (RS.p s) (RS.h s) c)) i_)→(Ba (iN (RS.a s)≤1000) (R_ (r1&&Fz e u v w_)))) (VY s c e u v R_ w_))
def C9 (s:RS) (k a c e u v i_ w_:Int):Prop:=k=3∧i_=CY s.a a∧Dk k a c=true∧gR s k a=false∧w_=(BR s.t s.p s.h c).1
def Vh (s:RS) (k a c e u v i_ t_ p_ h_:Int) (n_:Nat) (al_ zl_:LI) (x0_ x1_ x2_ x3_ x4_ x5_ x6_ x7_:Int) (Q11:Int→Int→Int→Nat→LI→LI→Int→Int→Int→Int→Int→Int→Int→Int→Int→Prop):Prop:=(Q11 (t_) (p_) (h_) (n_) (al_) (zl_) (x0_) (x1_) (x2_) (x3_) (x4_) (x5_) (x6_) (x7_) (i_))
def Cf (s:RS) (k a c e u v i_:Int):Prop:=k=7∧i_=CY s.a a∧0≤i_∧Dk k a c=true∧gR s k a=false
def Vj (s:RS) (k a c e u v t_ p_ h_:Int) (n_:Nat) (a_ z_:LI) (r0_ r1_ r2_ r3_ r4_ r5_ r6_ r7_ i_:Int) (Q0:Int→Prop) (Q1:Int→Int→Int→Nat→LI→LI→Int→Int→Int→Int→Int→Int→Int→Int→Int→Prop) (Q2:Int→Int→Int→Nat→LI→LI→Int→Int→Int→Int→Int→Int→Int→Int→Int→Prop) (Q3:Int→Prop) (Q4:Int→Prop) (Q5:Int→Int→Int→Nat→LI→LI→Int→Int→Int→Int→Int→Int→Int→Int→Int→Prop) (Q6:Int→Prop) (Q7:Int→Int→Int→Nat→LI→LI→Int→Int→Int→Int→Int→Int→Int→Int→Int→Prop) (Q8:Int→Int→Int→Nat→LI→LI→Int→Int→Int→Int→Int→Int→Int→Int→Int→Int→Prop) (Q9:Int→Int→Prop) (Q10:Int→Prop) (Q11:Int→Int→Int→Nat→LI→LI→Int→Int→Int→Int→Int→Int→Int→Int→Int→Prop) (Q12:Int→Prop) (Q13:Int→Int→Int→Nat→LI→LI→Int→Int→Int→Int→Int→Int→Int→Int→Int→Prop) (R_:Bool→Prop) (O_:Int→Int→Int→Nat→LI→LI→Int→Int→Int→Int→Int→Int→Int→Int→Bool→Prop):Prop:=(Ba (0≤i_∧i_<(↑n_:Int)) (O_ (t_) (p_) (h_) (n_) (a_) (z_) (r0_) (r1_) (r2_) (r3_) (r4_) (r5_) (r6_) (r7_) (Em e u v (iM z_ (jL i_) 0) 0)))
def Cc (s:RS) (k a c e u v t_ p_ h_:Int) (n_:Nat) (a_ z_:LI) (r0_ r1_ r2_ r3_ r4_ r5_ r6_ r7_ i_:Int):Prop:=BI ⟨t_,p_,h_,n_,a_,z_,r0_,r1_,r2_,r3_,r4_,r5_,r6_,r7_⟩ s∧k=7∧i_=CY s.a a∧0≤i_∧Dk k a c=true∧gR s k a=false
def Vk (s:RS) (k a c e u v i_ t_ p_ h_:Int) (n_:Nat) (al_ zl_:LI) (x0_ x1_ x2_ x3_ x4_ x5_ x6_ x7_:Int) (Q13:Int→Int→Int→Nat→LI→LI→Int→Int→Int→Int→Int→Int→Int→Int→Int→Prop):Prop:=(Q13 (t_) (p_) (h_) (n_) (al_) (zl_) (x0_) (x1_) (x2_) (x3_) (x4_) (x5_) (x6_) (x7_) (i_))
def Ci (s:RS) (k a c e u v i_:Int):Prop:=k=8∧Dk k a c=true∧gR s k a=false
def Vl (s:RS) (k a c e u v t_ p_ h_:Int) (n_:Nat) (a_ z_:LI) (r0_ r1_ r2_ r3_ r4_ r5_ r6_ r7_ i_:Int) (Q0:Int→Prop) (Q1:Int→Int→Int→Nat→LI→LI→Int→Int→Int→Int→Int→Int→Int→Int→Int→Prop) (Q2:Int→Int→Int→Nat→LI→LI→Int→Int→Int→Int→Int→Int→Int→Int→Int→Prop) (Q3:Int→Prop) (Q4:Int→Prop) (Q5:Int→Int→Int→Nat→LI→LI→Int→Int→Int→Int→Int→Int→Int→Int→Int→Prop) (Q6:Int→Prop) (Q7:Int→Int→Int→Nat→LI→LI→Int→Int→Int→Int→Int→Int→Int→Int→Int→Prop) (Q8:Int→Int→Int→Nat→LI→LI→Int→Int→Int→Int→Int→Int→Int→Int→Int→Int→Prop) (Q9:Int→Int→Prop) (Q10:Int→Prop) (Q11:Int→Int→Int→Nat→LI→LI→Int→Int→Int→Int→Int→Int→Int→Int→Int→Prop) (Q12:Int→Prop) (Q13:Int→Int→Int→Nat→LI→LI→Int→Int→Int→Int→Int→Int→Int→Int→Int→Prop) (R_:Bool→Prop) (O_:Int→Int→Int→Nat→LI→LI→Int→Int→Int→Int→Int→Int→Int→Int→Bool→Prop):Prop:=(O_ (t_) (p_) (h_) (n_) (a_) (z_) (r0_) (r1_) (r2_) (r3_) (r4_) (r5_) (r6_) (r7_) (e==0&&decide (u≥0)&&decide (u≤p_)&&v==(↑n_:Int)))
def Ce (s:RS) (k a c e u v t_ p_ h_:Int) (n_:Nat) (a_ z_:LI) (r0_ r1_ r2_ r3_ r4_ r5_ r6_ r7_ i_:Int):Prop:=BI ⟨t_,p_,h_,n_,a_,z_,r0_,r1_,r2_,r3_,r4_,r5_,r6_,r7_⟩ s∧k=8∧Dk k a c=true∧gR s k a=false
theorem Adg (s:RS) (k a c e u v:Int) (hp0:s.a.length≤1000):Abj s k a c e u v (λi_'=>CS s k a c e u v i_') (λt_' p_' h_' n_' a_' z_' r0_' r1_' r2_' r3_' r4_' r5_' r6_' r7_' i_'=>CG s k a c e u v t_' p_' h_' n_' a_' z_' r0_' r1_' r2_' r3_' r4_' r5_' r6_' r7_' i_') (λt_' p_' h_' n_' a_' z_' r0_' r1_' r2_' r3_' r4_' r5_' r6_' r7_' w_'=>CU s k a c e u v t_' p_' h_' n_' a_' z_' r0_' r1_' r2_' r3_' r4_' r5_' r6_' r7_' w_') (λw_'=>Cj s k a c e u v w_') (λi_'=>CV s k a c e u v i_') (λt_' p_' h_' n_' a_' z_' r0_' r1_' r2_' r3_' r4_' r5_' r6_' r7_' i_'=>CJ s k a c e u v t_' p_' h_' n_' a_' z_' r0_' r1_' r2_' r3_' r4_' r5_' r6_' r7_' i_') (λi_'=>CW s k a c e u v i_') (λt_' p_' h_' n_' a_' z_' r0_' r1_' r2_' r3_' r4_' r5_' r6_' r7_' i_'=>CO s k a c e u v t_' p_' h_' n_' a_' z_' r0_' r1_' r2_' r3_' r4_' r5_' r6_' r7_' i_') (λt_' p_' h_' n_' a_' z_' r0_' r1_' r2_' r3_' r4_' r5_' r6_' r7_' i_' w_'=>CX s k a c e u v t_' p_' h_' n_' a_' z_' r0_' r1_' r2_' r3_' r4_' r5_' r6_' r7_' i_' w_') (λi_' w_'=>C9 s k a c e u v i_' w_') (λi_'=>Cf s k a c e u v i_') (λt_' p_' h_' n_' a_' z_' r0_' r1_' r2_' r3_' r4_' r5_' r6_' r7_' i_'=>Cc s k a c e u v t_' p_' h_' n_' a_' z_' r0_' r1_' r2_' r3_' r4_' r5_' r6_' r7_' i_') (λi_'=>Ci s k a c e u v i_') (λt_' p_' h_' n_' a_' z_' r0_' r1_' r2_' r3_' r4_' r5_' r6_' r7_' i_'=>Ce s k a c e u v t_' p_' h_' n_' a_' z_' r0_' r1_' r2_' r3_' r4_' r5_' r6_' r7_' i_') (λr__=>r__=(Bc s k a c e u v)) (λt_ p_ h_ n_ al_ zl_ x0_ x1_ x2_ x3_ x4_ x5_ x6_ x7_ r_=>BI ⟨t_,p_,h_,n_,al_,zl_,x0_,x1_,x2_,x3_,x4_,x5_,x6_,x7_⟩ (s)∧r_=(Bc s k a c e u v)):=by
 unfold Abj
 try unfold CS
 try unfold CG
 try unfold CU
 try unfold Cj
 try unfold CV
 try unfold CJ
 try unfold CW
 try unfold CO
 try unfold CX
 try unfold C9
 try unfold Cf
 try unfold Cc
 try unfold Ci
 try unfold Ce
 rintro r2 rfl
 refine ⟨λh=>?_, λh=>?_⟩
 ·rintro r rfl
  show _=Bc s k a c e u v
  unfold Bc;rw [h];rfl
 rintro r4 rfl
 refine ⟨hp0, λ_=>⟨λhg=>?_, λhg=>?_⟩⟩
 ·rintro r rfl
  show _=Bc s k a c e u v
  have hg:gR s k a=true:=hg
  unfold Bc;rw [h,hg];rfl
 have hr:Dk k a c=true:=by simpa using h
 have hg:gR s k a=false:=hg
 have key:Bc s k a c e u v=Ny s k a c e u v:=by unfold Bc;rw [hr,hg];rfl
 refine ⟨λh1=>⟨by simpa using h1,hr,hg⟩, λh1=>⟨λh2=>?_, λh2=>⟨λh3=>⟨by simpa using h3,rfl,hr,hg⟩, λh3=>⟨λh7=>⟨by simpa using h7,rfl,Adf hg (by rw [h7];simp),hr,hg⟩, λh7=>⟨λh8=>⟨by simpa using h8,hr,hg⟩, λh8=>⟨λh9=>⟨λhb=>?_, λhb=>?_⟩, λh9=>?_⟩⟩⟩⟩⟩⟩
 ·rintro r9 rfl
  refine ⟨λhh=>?_, λhh=>⟨by simpa using h2,rfl,Adf hg (by rw [h2];rfl),hh,hr,hg⟩⟩
  rintro r rfl
  show _=Bc s k a c e u v
  have hh:ES s a=true:=hh
  rw [key];unfold Ny;rw [h1,h2,hh];rfl
 ·rintro r rfl
  show _=Bc s k a c e u v
  rw [key];unfold Ny;rw [h1,h2,h3,h7,h8,h9,hb];rfl
 ·show _=Bc s k a c e u v
  rw [key];unfold Ny;rw [h1,h2,h3,h7,h8,h9,hb];rfl
 ·rintro r rfl
  refine ⟨hp0, λ_=>?_⟩
  show _=Bc s k a c e u v
  rw [key];unfold Ny;rw [h1,h2,h3,h7,h8,h9];rfl
theorem Adh (s:RS) (k a c e u v:Int) (hp0:s.a.length≤1000) (i_ t_ p_ h_:Int) (n_:Nat) (al_ zl_:LI) (x0_ x1_ x2_ x3_ x4_ x5_ x6_ x7_:Int) (hI:CS s k a c e u v i_) (hx:BI ⟨t_,p_,h_,n_,al_,zl_,x0_,x1_,x2_,x3_,x4_,x5_,x6_,x7_⟩ (s)):XX s k a c e u v i_ t_ p_ h_ n_ al_ zl_ x0_ x1_ x2_ x3_ x4_ x5_ x6_ x7_ (λt_' p_' h_' n_' a_' z_' r0_' r1_' r2_' r3_' r4_' r5_' r6_' r7_' i_'=>CG s k a c e u v t_' p_' h_' n_' a_' z_' r0_' r1_' r2_' r3_' r4_' r5_' r6_' r7_' i_'∧lx (19,0,0) (20,0,0)):=by
 unfold CS at hI
 unfold XX
 try unfold CS
 try unfold CG
 try unfold CU
 try unfold Cj
 try unfold CV
 try unfold CJ
 try unfold CW
 try unfold CO
 try unfold CX
 try unfold C9
 try unfold Cf
 try unfold Cc
 try unfold Ci
 try unfold Ce
 exact ⟨⟨hx,hI⟩,BU⟩
theorem Adi (s:RS) (k a c e u v:Int) (hp0:s.a.length≤1000) (t_ p_ h_:Int) (n_:Nat) (a_ z_:LI) (r0_ r1_ r2_ r3_ r4_ r5_ r6_ r7_ i_:Int) (hI:CG s k a c e u v t_ p_ h_ n_ a_ z_ r0_ r1_ r2_ r3_ r4_ r5_ r6_ r7_ i_):XY s k a c e u v t_ p_ h_ n_ a_ z_ r0_ r1_ r2_ r3_ r4_ r5_ r6_ r7_ i_ (λi_'=>CS s k a c e u v i_'∧lx (20,0,0) (19,0,0)) (λt_' p_' h_' n_' a_' z_' r0_' r1_' r2_' r3_' r4_' r5_' r6_' r7_' i_'=>CG s k a c e u v t_' p_' h_' n_' a_' z_' r0_' r1_' r2_' r3_' r4_' r5_' r6_' r7_' i_'∧lx (19,0,0) (19,0,0)) (λt_' p_' h_' n_' a_' z_' r0_' r1_' r2_' r3_' r4_' r5_' r6_' r7_' w_'=>CU s k a c e u v t_' p_' h_' n_' a_' z_' r0_' r1_' r2_' r3_' r4_' r5_' r6_' r7_' w_'∧lx (18,0,0) (19,0,0)) (λw_'=>Cj s k a c e u v w_'∧lx (17,0,0) (19,0,0)) (λi_'=>CV s k a c e u v i_'∧lx (16,0,0) (19,0,0)) (λt_' p_' h_' n_' a_' z_' r0_' r1_' r2_' r3_' r4_' r5_' r6_' r7_' i_'=>CJ s k a c e u v t_' p_' h_' n_' a_' z_' r0_' r1_' r2_' r3_' r4_' r5_' r6_' r7_' i_'∧lx (15,0,0) (19,0,0)) (λi_'=>CW s k a c e u v i_'∧lx (14,0,0) (19,0,0)) (λt_' p_' h_' n_' a_' z_' r0_' r1_' r2_' r3_' r4_' r5_' r6_' r7_' i_'=>CO s k a c e u v t_' p_' h_' n_' a_' z_' r0_' r1_' r2_' r3_' r4_' r5_' r6_' r7_' i_'∧lx (13,0,0) (19,0,0)) (λt_' p_' h_' n_' a_' z_' r0_' r1_' r2_' r3_' r4_' r5_' r6_' r7_' i_' w_'=>CX s k a c e u v t_' p_' h_' n_' a_' z_' r0_' r1_' r2_' r3_' r4_' r5_' r6_' r7_' i_' w_'∧lx (12,0,0) (19,0,0)) (λi_' w_'=>C9 s k a c e u v i_' w_'∧lx (11,0,0) (19,0,0)) (λi_'=>Cf s k a c e u v i_'∧lx (10,0,0) (19,0,0)) (λt_' p_' h_' n_' a_' z_' r0_' r1_' r2_' r3_' r4_' r5_' r6_' r7_' i_'=>Cc s k a c e u v t_' p_' h_' n_' a_' z_' r0_' r1_' r2_' r3_' r4_' r5_' r6_' r7_' i_'∧lx (9,0,0) (19,0,0)) (λi_'=>Ci s k a c e u v i_'∧lx (8,0,0) (19,0,0)) (λt_' p_' h_' n_' a_' z_' r0_' r1_' r2_' r3_' r4_' r5_' r6_' r7_' i_'=>Ce s k a c e u v t_' p_' h_' n_' a_' z_' r0_' r1_' r2_' r3_' r4_' r5_' r6_' r7_' i_'∧lx (7,0,0) (19,0,0)) (λr__=>r__=(Bc s k a c e u v)) (λt_ p_ h_ n_ al_ zl_ x0_ x1_ x2_ x3_ x4_ x5_ x6_ x7_ r_=>BI ⟨t_,p_,h_,n_,al_,zl_,x0_,x1_,x2_,x3_,x4_,x5_,x6_,x7_⟩ (s)∧r_=(Bc s k a c e u v)):=by
 unfold CG at hI
 unfold XY
 try unfold CS
 try unfold CG
 try unfold CU
 try unfold Cj
 try unfold CV
 try unfold CJ
 try unfold CW
 try unfold CO
 try unfold CX
 try unfold C9
 try unfold Cf
 try unfold Cc
 try unfold Ci
 try unfold Ce
 obtain ⟨hR,rfl,hr,hg⟩:=hI
 exact ⟨⟨hR,rfl,hr,hg,by rw [hR.eq]⟩,BU⟩
theorem Qz (s:RS) (k a c e u v:Int) (hp0:s.a.length≤1000) (t_ p_ h_:Int) (n_:Nat) (a_ z_:LI) (r0_ r1_ r2_ r3_ r4_ r5_ r6_ r7_ w_:Int) (hI:CU s k a c e u v t_ p_ h_ n_ a_ z_ r0_ r1_ r2_ r3_ r4_ r5_ r6_ r7_ w_):(BI ⟨t_,p_,h_,n_,a_,z_,r0_,r1_,r2_,r3_,r4_,r5_,r6_,r7_⟩ s)∧P8 s k a c e u v t_ p_ h_ n_ a_ z_ r0_ r1_ r2_ r3_ r4_ r5_ r6_ r7_ w_ (λw_'=>Cj s k a c e u v w_'∧lx (17,0,0) (18,0,0)):=by
 unfold CU at hI
 unfold P8
 try unfold CS
 try unfold CG
 try unfold CU
 try unfold Cj
 try unfold CV
 try unfold CJ
 try unfold CW
 try unfold CO
 try unfold CX
 try unfold C9
 try unfold Cf
 try unfold Cc
 try unfold Ci
 try unfold Ce
 obtain ⟨hR,hI⟩:=hI
 exact ⟨hR,hI,BU⟩
theorem Adj (s:RS) (k a c e u v:Int) (hp0:s.a.length≤1000) (w_:Int) (hI:Cj s k a c e u v w_):XZ s k a c e u v w_ (λi_'=>CS s k a c e u v i_'∧lx (20,0,0) (17,0,0)) (λt_' p_' h_' n_' a_' z_' r0_' r1_' r2_' r3_' r4_' r5_' r6_' r7_' i_'=>CG s k a c e u v t_' p_' h_' n_' a_' z_' r0_' r1_' r2_' r3_' r4_' r5_' r6_' r7_' i_'∧lx (19,0,0) (17,0,0)) (λt_' p_' h_' n_' a_' z_' r0_' r1_' r2_' r3_' r4_' r5_' r6_' r7_' w_'=>CU s k a c e u v t_' p_' h_' n_' a_' z_' r0_' r1_' r2_' r3_' r4_' r5_' r6_' r7_' w_'∧lx (18,0,0) (17,0,0)) (λw_'=>Cj s k a c e u v w_'∧lx (17,0,0) (17,0,0)) (λi_'=>CV s k a c e u v i_'∧lx (16,0,0) (17,0,0)) (λt_' p_' h_' n_' a_' z_' r0_' r1_' r2_' r3_' r4_' r5_' r6_' r7_' i_'=>CJ s k a c e u v t_' p_' h_' n_' a_' z_' r0_' r1_' r2_' r3_' r4_' r5_' r6_' r7_' i_'∧lx (15,0,0) (17,0,0)) (λi_'=>CW s k a c e u v i_'∧lx (14,0,0) (17,0,0)) (λt_' p_' h_' n_' a_' z_' r0_' r1_' r2_' r3_' r4_' r5_' r6_' r7_' i_'=>CO s k a c e u v t_' p_' h_' n_' a_' z_' r0_' r1_' r2_' r3_' r4_' r5_' r6_' r7_' i_'∧lx (13,0,0) (17,0,0)) (λt_' p_' h_' n_' a_' z_' r0_' r1_' r2_' r3_' r4_' r5_' r6_' r7_' i_' w_'=>CX s k a c e u v t_' p_' h_' n_' a_' z_' r0_' r1_' r2_' r3_' r4_' r5_' r6_' r7_' i_' w_'∧lx (12,0,0) (17,0,0)) (λi_' w_'=>C9 s k a c e u v i_' w_'∧lx (11,0,0) (17,0,0)) (λi_'=>Cf s k a c e u v i_'∧lx (10,0,0) (17,0,0)) (λt_' p_' h_' n_' a_' z_' r0_' r1_' r2_' r3_' r4_' r5_' r6_' r7_' i_'=>Cc s k a c e u v t_' p_' h_' n_' a_' z_' r0_' r1_' r2_' r3_' r4_' r5_' r6_' r7_' i_'∧lx (9,0,0) (17,0,0)) (λi_'=>Ci s k a c e u v i_'∧lx (8,0,0) (17,0,0)) (λt_' p_' h_' n_' a_' z_' r0_' r1_' r2_' r3_' r4_' r5_' r6_' r7_' i_'=>Ce s k a c e u v t_' p_' h_' n_' a_' z_' r0_' r1_' r2_' r3_' r4_' r5_' r6_' r7_' i_'∧lx (7,0,0) (17,0,0)) (λr__=>r__=(Bc s k a c e u v)) (λt_ p_ h_ n_ al_ zl_ x0_ x1_ x2_ x3_ x4_ x5_ x6_ x7_ r_=>BI ⟨t_,p_,h_,n_,al_,zl_,x0_,x1_,x2_,x3_,x4_,x5_,x6_,x7_⟩ (s)∧r_=(Bc s k a c e u v)):=by
 unfold Cj at hI
 unfold XZ VY
 try unfold CS
 try unfold CG
 try unfold CU
 try unfold Cj
 try unfold CV
 try unfold CJ
 try unfold CW
 try unfold CO
 try unfold CX
 try unfold C9
 try unfold Cf
 try unfold Cc
 try unfold Ci
 try unfold Ce
 obtain ⟨rfl,hr,hg,rfl⟩:=hI
 rintro r rfl
 refine ⟨hp0, λ_=>?_⟩
 show _=Bc s 1 a c e u v
 unfold Bc;rw [hr,hg];rfl
theorem Adk (s:RS) (k a c e u v:Int) (hp0:s.a.length≤1000) (i_ t_ p_ h_:Int) (n_:Nat) (al_ zl_:LI) (x0_ x1_ x2_ x3_ x4_ x5_ x6_ x7_:Int) (hI:CV s k a c e u v i_) (hx:BI ⟨t_,p_,h_,n_,al_,zl_,x0_,x1_,x2_,x3_,x4_,x5_,x6_,x7_⟩ (s)):Ya s k a c e u v i_ t_ p_ h_ n_ al_ zl_ x0_ x1_ x2_ x3_ x4_ x5_ x6_ x7_ (λt_' p_' h_' n_' a_' z_' r0_' r1_' r2_' r3_' r4_' r5_' r6_' r7_' i_'=>CJ s k a c e u v t_' p_' h_' n_' a_' z_' r0_' r1_' r2_' r3_' r4_' r5_' r6_' r7_' i_'∧lx (15,0,0) (16,0,0)):=by
 unfold CV at hI
 unfold Ya
 try unfold CS
 try unfold CG
 try unfold CU
 try unfold Cj
 try unfold CV
 try unfold CJ
 try unfold CW
 try unfold CO
 try unfold CX
 try unfold C9
 try unfold Cf
 try unfold Cc
 try unfold Ci
 try unfold Ce
 exact ⟨⟨hx,hI⟩,BU⟩
theorem Adl (s:RS) (k a c e u v:Int) (hp0:s.a.length≤1000) (t_ p_ h_:Int) (n_:Nat) (a_ z_:LI) (r0_ r1_ r2_ r3_ r4_ r5_ r6_ r7_ i_:Int) (hI:CJ s k a c e u v t_ p_ h_ n_ a_ z_ r0_ r1_ r2_ r3_ r4_ r5_ r6_ r7_ i_):Yb s k a c e u v t_ p_ h_ n_ a_ z_ r0_ r1_ r2_ r3_ r4_ r5_ r6_ r7_ i_ (λi_'=>CS s k a c e u v i_'∧lx (20,0,0) (15,0,0)) (λt_' p_' h_' n_' a_' z_' r0_' r1_' r2_' r3_' r4_' r5_' r6_' r7_' i_'=>CG s k a c e u v t_' p_' h_' n_' a_' z_' r0_' r1_' r2_' r3_' r4_' r5_' r6_' r7_' i_'∧lx (19,0,0) (15,0,0)) (λt_' p_' h_' n_' a_' z_' r0_' r1_' r2_' r3_' r4_' r5_' r6_' r7_' w_'=>CU s k a c e u v t_' p_' h_' n_' a_' z_' r0_' r1_' r2_' r3_' r4_' r5_' r6_' r7_' w_'∧lx (18,0,0) (15,0,0)) (λw_'=>Cj s k a c e u v w_'∧lx (17,0,0) (15,0,0)) (λi_'=>CV s k a c e u v i_'∧lx (16,0,0) (15,0,0)) (λt_' p_' h_' n_' a_' z_' r0_' r1_' r2_' r3_' r4_' r5_' r6_' r7_' i_'=>CJ s k a c e u v t_' p_' h_' n_' a_' z_' r0_' r1_' r2_' r3_' r4_' r5_' r6_' r7_' i_'∧lx (15,0,0) (15,0,0)) (λi_'=>CW s k a c e u v i_'∧lx (14,0,0) (15,0,0)) (λt_' p_' h_' n_' a_' z_' r0_' r1_' r2_' r3_' r4_' r5_' r6_' r7_' i_'=>CO s k a c e u v t_' p_' h_' n_' a_' z_' r0_' r1_' r2_' r3_' r4_' r5_' r6_' r7_' i_'∧lx (13,0,0) (15,0,0)) (λt_' p_' h_' n_' a_' z_' r0_' r1_' r2_' r3_' r4_' r5_' r6_' r7_' i_' w_'=>CX s k a c e u v t_' p_' h_' n_' a_' z_' r0_' r1_' r2_' r3_' r4_' r5_' r6_' r7_' i_' w_'∧lx (12,0,0) (15,0,0)) (λi_' w_'=>C9 s k a c e u v i_' w_'∧lx (11,0,0) (15,0,0)) (λi_'=>Cf s k a c e u v i_'∧lx (10,0,0) (15,0,0)) (λt_' p_' h_' n_' a_' z_' r0_' r1_' r2_' r3_' r4_' r5_' r6_' r7_' i_'=>Cc s k a c e u v t_' p_' h_' n_' a_' z_' r0_' r1_' r2_' r3_' r4_' r5_' r6_' r7_' i_'∧lx (9,0,0) (15,0,0)) (λi_'=>Ci s k a c e u v i_'∧lx (8,0,0) (15,0,0)) (λt_' p_' h_' n_' a_' z_' r0_' r1_' r2_' r3_' r4_' r5_' r6_' r7_' i_'=>Ce s k a c e u v t_' p_' h_' n_' a_' z_' r0_' r1_' r2_' r3_' r4_' r5_' r6_' r7_' i_'∧lx (7,0,0) (15,0,0)) (λr__=>r__=(Bc s k a c e u v)) (λt_ p_ h_ n_ al_ zl_ x0_ x1_ x2_ x3_ x4_ x5_ x6_ x7_ r_=>BI ⟨t_,p_,h_,n_,al_,zl_,x0_,x1_,x2_,x3_,x4_,x5_,x6_,x7_⟩ (s)∧r_=(Bc s k a c e u v)):=by
 unfold CJ at hI
 unfold Yb
 try unfold CS
 try unfold CG
 try unfold CU
 try unfold Cj
 try unfold CV
 try unfold CJ
 try unfold CW
 try unfold CO
 try unfold CX
 try unfold C9
 try unfold Cf
 try unfold Cc
 try unfold Ci
 try unfold Ce
 obtain ⟨hR,rfl,hi,h0,hh,hr,hg⟩:=hI
 have e:=hR.eq
 subst e
 have hn:n_=a_.length:=hR.n
 subst hn
 subst hi
 have hlt:(CY a_ a).toNat<a_.length:=AlZ h0
 refine ⟨⟨h0,by show CY a_ a<_;omega⟩, λ_=>⟨hR,?_⟩⟩
 show _=Bc _ 2 a c _ u v
 unfold Bc;rw [hr,hg]
 show _=(bif ES _ a then _ else _)
 rw [hh];rfl
theorem Adm (s:RS) (k a c e u v:Int) (hp0:s.a.length≤1000) (i_ t_ p_ h_:Int) (n_:Nat) (al_ zl_:LI) (x0_ x1_ x2_ x3_ x4_ x5_ x6_ x7_:Int) (hI:CW s k a c e u v i_) (hx:BI ⟨t_,p_,h_,n_,al_,zl_,x0_,x1_,x2_,x3_,x4_,x5_,x6_,x7_⟩ (s)):Yc s k a c e u v i_ t_ p_ h_ n_ al_ zl_ x0_ x1_ x2_ x3_ x4_ x5_ x6_ x7_ (λt_' p_' h_' n_' a_' z_' r0_' r1_' r2_' r3_' r4_' r5_' r6_' r7_' i_'=>CO s k a c e u v t_' p_' h_' n_' a_' z_' r0_' r1_' r2_' r3_' r4_' r5_' r6_' r7_' i_'∧lx (13,0,0) (14,0,0)):=by
 unfold CW at hI
 unfold Yc
 try unfold CS
 try unfold CG
 try unfold CU
 try unfold Cj
 try unfold CV
 try unfold CJ
 try unfold CW
 try unfold CO
 try unfold CX
 try unfold C9
 try unfold Cf
 try unfold Cc
 try unfold Ci
 try unfold Ce
 exact ⟨⟨hx,hI⟩,BU⟩
theorem Adn (s:RS) (k a c e u v:Int) (hp0:s.a.length≤1000) (t_ p_ h_:Int) (n_:Nat) (a_ z_:LI) (r0_ r1_ r2_ r3_ r4_ r5_ r6_ r7_ i_:Int) (hI:CO s k a c e u v t_ p_ h_ n_ a_ z_ r0_ r1_ r2_ r3_ r4_ r5_ r6_ r7_ i_):Yd s k a c e u v t_ p_ h_ n_ a_ z_ r0_ r1_ r2_ r3_ r4_ r5_ r6_ r7_ i_ (λi_'=>CS s k a c e u v i_'∧lx (20,0,0) (13,0,0)) (λt_' p_' h_' n_' a_' z_' r0_' r1_' r2_' r3_' r4_' r5_' r6_' r7_' i_'=>CG s k a c e u v t_' p_' h_' n_' a_' z_' r0_' r1_' r2_' r3_' r4_' r5_' r6_' r7_' i_'∧lx (19,0,0) (13,0,0)) (λt_' p_' h_' n_' a_' z_' r0_' r1_' r2_' r3_' r4_' r5_' r6_' r7_' w_'=>CU s k a c e u v t_' p_' h_' n_' a_' z_' r0_' r1_' r2_' r3_' r4_' r5_' r6_' r7_' w_'∧lx (18,0,0) (13,0,0)) (λw_'=>Cj s k a c e u v w_'∧lx (17,0,0) (13,0,0)) (λi_'=>CV s k a c e u v i_'∧lx (16,0,0) (13,0,0)) (λt_' p_' h_' n_' a_' z_' r0_' r1_' r2_' r3_' r4_' r5_' r6_' r7_' i_'=>CJ s k a c e u v t_' p_' h_' n_' a_' z_' r0_' r1_' r2_' r3_' r4_' r5_' r6_' r7_' i_'∧lx (15,0,0) (13,0,0)) (λi_'=>CW s k a c e u v i_'∧lx (14,0,0) (13,0,0)) (λt_' p_' h_' n_' a_' z_' r0_' r1_' r2_' r3_' r4_' r5_' r6_' r7_' i_'=>CO s k a c e u v t_' p_' h_' n_' a_' z_' r0_' r1_' r2_' r3_' r4_' r5_' r6_' r7_' i_'∧lx (13,0,0) (13,0,0)) (λt_' p_' h_' n_' a_' z_' r0_' r1_' r2_' r3_' r4_' r5_' r6_' r7_' i_' w_'=>CX s k a c e u v t_' p_' h_' n_' a_' z_' r0_' r1_' r2_' r3_' r4_' r5_' r6_' r7_' i_' w_'∧lx (12,0,0) (13,0,0)) (λi_' w_'=>C9 s k a c e u v i_' w_'∧lx (11,0,0) (13,0,0)) (λi_'=>Cf s k a c e u v i_'∧lx (10,0,0) (13,0,0)) (λt_' p_' h_' n_' a_' z_' r0_' r1_' r2_' r3_' r4_' r5_' r6_' r7_' i_'=>Cc s k a c e u v t_' p_' h_' n_' a_' z_' r0_' r1_' r2_' r3_' r4_' r5_' r6_' r7_' i_'∧lx (9,0,0) (13,0,0)) (λi_'=>Ci s k a c e u v i_'∧lx (8,0,0) (13,0,0)) (λt_' p_' h_' n_' a_' z_' r0_' r1_' r2_' r3_' r4_' r5_' r6_' r7_' i_'=>Ce s k a c e u v t_' p_' h_' n_' a_' z_' r0_' r1_' r2_' r3_' r4_' r5_' r6_' r7_' i_'∧lx (7,0,0) (13,0,0)) (λr__=>r__=(Bc s k a c e u v)) (λt_ p_ h_ n_ al_ zl_ x0_ x1_ x2_ x3_ x4_ x5_ x6_ x7_ r_=>BI ⟨t_,p_,h_,n_,al_,zl_,x0_,x1_,x2_,x3_,x4_,x5_,x6_,x7_⟩ (s)∧r_=(Bc s k a c e u v)):=by
 unfold CO at hI
 unfold Yd
 try unfold CS
 try unfold CG
 try unfold CU
 try unfold Cj
 try unfold CV
 try unfold CJ
 try unfold CW
 try unfold CO
 try unfold CX
 try unfold C9
 try unfold Cf
 try unfold Cc
 try unfold Ci
 try unfold Ce
 obtain ⟨hR,rfl,hi,hr,hg⟩:=hI
 exact ⟨⟨hR,rfl,hi,hr,hg,by rw [hR.eq]⟩,BU⟩
theorem QA (s:RS) (k a c e u v:Int) (hp0:s.a.length≤1000) (t_ p_ h_:Int) (n_:Nat) (a_ z_:LI) (r0_ r1_ r2_ r3_ r4_ r5_ r6_ r7_ i_ w_:Int) (hI:CX s k a c e u v t_ p_ h_ n_ a_ z_ r0_ r1_ r2_ r3_ r4_ r5_ r6_ r7_ i_ w_):(BI ⟨t_,p_,h_,n_,a_,z_,r0_,r1_,r2_,r3_,r4_,r5_,r6_,r7_⟩ s)∧P9 s k a c e u v t_ p_ h_ n_ a_ z_ r0_ r1_ r2_ r3_ r4_ r5_ r6_ r7_ i_ w_ (λi_' w_'=>C9 s k a c e u v i_' w_'∧lx (11,0,0) (12,0,0)):=by
 unfold CX at hI
 unfold P9
 try unfold CS
 try unfold CG
 try unfold CU
 try unfold Cj
 try unfold CV
 try unfold CJ
 try unfold CW
 try unfold CO
 try unfold CX
 try unfold C9
 try unfold Cf
 try unfold Cc
 try unfold Ci
 try unfold Ce
 obtain ⟨hR,hI⟩:=hI
 exact ⟨hR,hI,BU⟩
theorem Ado (s:RS) (k a c e u v:Int) (hp0:s.a.length≤1000) (i_ w_:Int) (hI:C9 s k a c e u v i_ w_):Ye s k a c e u v i_ w_ (λi_'=>CS s k a c e u v i_'∧lx (20,0,0) (11,0,0)) (λt_' p_' h_' n_' a_' z_' r0_' r1_' r2_' r3_' r4_' r5_' r6_' r7_' i_'=>CG s k a c e u v t_' p_' h_' n_' a_' z_' r0_' r1_' r2_' r3_' r4_' r5_' r6_' r7_' i_'∧lx (19,0,0) (11,0,0)) (λt_' p_' h_' n_' a_' z_' r0_' r1_' r2_' r3_' r4_' r5_' r6_' r7_' w_'=>CU s k a c e u v t_' p_' h_' n_' a_' z_' r0_' r1_' r2_' r3_' r4_' r5_' r6_' r7_' w_'∧lx (18,0,0) (11,0,0)) (λw_'=>Cj s k a c e u v w_'∧lx (17,0,0) (11,0,0)) (λi_'=>CV s k a c e u v i_'∧lx (16,0,0) (11,0,0)) (λt_' p_' h_' n_' a_' z_' r0_' r1_' r2_' r3_' r4_' r5_' r6_' r7_' i_'=>CJ s k a c e u v t_' p_' h_' n_' a_' z_' r0_' r1_' r2_' r3_' r4_' r5_' r6_' r7_' i_'∧lx (15,0,0) (11,0,0)) (λi_'=>CW s k a c e u v i_'∧lx (14,0,0) (11,0,0)) (λt_' p_' h_' n_' a_' z_' r0_' r1_' r2_' r3_' r4_' r5_' r6_' r7_' i_'=>CO s k a c e u v t_' p_' h_' n_' a_' z_' r0_' r1_' r2_' r3_' r4_' r5_' r6_' r7_' i_'∧lx (13,0,0) (11,0,0)) (λt_' p_' h_' n_' a_' z_' r0_' r1_' r2_' r3_' r4_' r5_' r6_' r7_' i_' w_'=>CX s k a c e u v t_' p_' h_' n_' a_' z_' r0_' r1_' r2_' r3_' r4_' r5_' r6_' r7_' i_' w_'∧lx (12,0,0) (11,0,0)) (λi_' w_'=>C9 s k a c e u v i_' w_'∧lx (11,0,0) (11,0,0)) (λi_'=>Cf s k a c e u v i_'∧lx (10,0,0) (11,0,0)) (λt_' p_' h_' n_' a_' z_' r0_' r1_' r2_' r3_' r4_' r5_' r6_' r7_' i_'=>Cc s k a c e u v t_' p_' h_' n_' a_' z_' r0_' r1_' r2_' r3_' r4_' r5_' r6_' r7_' i_'∧lx (9,0,0) (11,0,0)) (λi_'=>Ci s k a c e u v i_'∧lx (8,0,0) (11,0,0)) (λt_' p_' h_' n_' a_' z_' r0_' r1_' r2_' r3_' r4_' r5_' r6_' r7_' i_'=>Ce s k a c e u v t_' p_' h_' n_' a_' z_' r0_' r1_' r2_' r3_' r4_' r5_' r6_' r7_' i_'∧lx (7,0,0) (11,0,0)) (λr__=>r__=(Bc s k a c e u v)) (λt_ p_ h_ n_ al_ zl_ x0_ x1_ x2_ x3_ x4_ x5_ x6_ x7_ r_=>BI ⟨t_,p_,h_,n_,al_,zl_,x0_,x1_,x2_,x3_,x4_,x5_,x6_,x7_⟩ (s)∧r_=(Bc s k a c e u v)):=by
 unfold C9 at hI
 unfold Ye VY
 try unfold CS
 try unfold CG
 try unfold CU
 try unfold Cj
 try unfold CV
 try unfold CJ
 try unfold CW
 try unfold CO
 try unfold CX
 try unfold C9
 try unfold Cf
 try unfold Cc
 try unfold Ci
 try unfold Ce
 obtain ⟨rfl,rfl,hr,hg,rfl⟩:=hI
 refine ⟨λh=>?_, λh=>?_⟩
 ·rintro r rfl
  refine ⟨hp0, λ_=>?_⟩
  show _=Bc s 3 a c e u v
  unfold Bc;rw [hr,hg]
  show _=(bif u==a then _ else _)
  rw [h];rfl
 ·rintro r rfl
  refine ⟨hp0, λ_=>?_⟩
  show _=Bc s 3 a c e u v
  unfold Bc;rw [hr,hg]
  show _=(bif u==a then _ else _)
  rw [h];rfl
theorem Abk (s:RS) (k a c e u v:Int) (hp0:s.a.length≤1000) (i_ t_ p_ h_:Int) (n_:Nat) (al_ zl_:LI) (x0_ x1_ x2_ x3_ x4_ x5_ x6_ x7_:Int) (hI:Cf s k a c e u v i_) (hx:BI ⟨t_,p_,h_,n_,al_,zl_,x0_,x1_,x2_,x3_,x4_,x5_,x6_,x7_⟩ (s)):Vh s k a c e u v i_ t_ p_ h_ n_ al_ zl_ x0_ x1_ x2_ x3_ x4_ x5_ x6_ x7_ (λt_' p_' h_' n_' a_' z_' r0_' r1_' r2_' r3_' r4_' r5_' r6_' r7_' i_'=>Cc s k a c e u v t_' p_' h_' n_' a_' z_' r0_' r1_' r2_' r3_' r4_' r5_' r6_' r7_' i_'∧lx (9,0,0) (10,0,0)):=by
 unfold Cf at hI
 unfold Vh
 try unfold CS
 try unfold CG
 try unfold CU
 try unfold Cj
 try unfold CV
 try unfold CJ
 try unfold CW
 try unfold CO
 try unfold CX
 try unfold C9
 try unfold Cf
 try unfold Cc
 try unfold Ci
 try unfold Ce
 exact ⟨⟨hx,hI⟩,BU⟩
theorem Abl (s:RS) (k a c e u v:Int) (hp0:s.a.length≤1000) (t_ p_ h_:Int) (n_:Nat) (a_ z_:LI) (r0_ r1_ r2_ r3_ r4_ r5_ r6_ r7_ i_:Int) (hI:Cc s k a c e u v t_ p_ h_ n_ a_ z_ r0_ r1_ r2_ r3_ r4_ r5_ r6_ r7_ i_):Vj s k a c e u v t_ p_ h_ n_ a_ z_ r0_ r1_ r2_ r3_ r4_ r5_ r6_ r7_ i_ (λi_'=>CS s k a c e u v i_'∧lx (20,0,0) (9,0,0)) (λt_' p_' h_' n_' a_' z_' r0_' r1_' r2_' r3_' r4_' r5_' r6_' r7_' i_'=>CG s k a c e u v t_' p_' h_' n_' a_' z_' r0_' r1_' r2_' r3_' r4_' r5_' r6_' r7_' i_'∧lx (19,0,0) (9,0,0)) (λt_' p_' h_' n_' a_' z_' r0_' r1_' r2_' r3_' r4_' r5_' r6_' r7_' w_'=>CU s k a c e u v t_' p_' h_' n_' a_' z_' r0_' r1_' r2_' r3_' r4_' r5_' r6_' r7_' w_'∧lx (18,0,0) (9,0,0)) (λw_'=>Cj s k a c e u v w_'∧lx (17,0,0) (9,0,0)) (λi_'=>CV s k a c e u v i_'∧lx (16,0,0) (9,0,0)) (λt_' p_' h_' n_' a_' z_' r0_' r1_' r2_' r3_' r4_' r5_' r6_' r7_' i_'=>CJ s k a c e u v t_' p_' h_' n_' a_' z_' r0_' r1_' r2_' r3_' r4_' r5_' r6_' r7_' i_'∧lx (15,0,0) (9,0,0)) (λi_'=>CW s k a c e u v i_'∧lx (14,0,0) (9,0,0)) (λt_' p_' h_' n_' a_' z_' r0_' r1_' r2_' r3_' r4_' r5_' r6_' r7_' i_'=>CO s k a c e u v t_' p_' h_' n_' a_' z_' r0_' r1_' r2_' r3_' r4_' r5_' r6_' r7_' i_'∧lx (13,0,0) (9,0,0)) (λt_' p_' h_' n_' a_' z_' r0_' r1_' r2_' r3_' r4_' r5_' r6_' r7_' i_' w_'=>CX s k a c e u v t_' p_' h_' n_' a_' z_' r0_' r1_' r2_' r3_' r4_' r5_' r6_' r7_' i_' w_'∧lx (12,0,0) (9,0,0)) (λi_' w_'=>C9 s k a c e u v i_' w_'∧lx (11,0,0) (9,0,0)) (λi_'=>Cf s k a c e u v i_'∧lx (10,0,0) (9,0,0)) (λt_' p_' h_' n_' a_' z_' r0_' r1_' r2_' r3_' r4_' r5_' r6_' r7_' i_'=>Cc s k a c e u v t_' p_' h_' n_' a_' z_' r0_' r1_' r2_' r3_' r4_' r5_' r6_' r7_' i_'∧lx (9,0,0) (9,0,0)) (λi_'=>Ci s k a c e u v i_'∧lx (8,0,0) (9,0,0)) (λt_' p_' h_' n_' a_' z_' r0_' r1_' r2_' r3_' r4_' r5_' r6_' r7_' i_'=>Ce s k a c e u v t_' p_' h_' n_' a_' z_' r0_' r1_' r2_' r3_' r4_' r5_' r6_' r7_' i_'∧lx (7,0,0) (9,0,0)) (λr__=>r__=(Bc s k a c e u v)) (λt_ p_ h_ n_ al_ zl_ x0_ x1_ x2_ x3_ x4_ x5_ x6_ x7_ r_=>BI ⟨t_,p_,h_,n_,al_,zl_,x0_,x1_,x2_,x3_,x4_,x5_,x6_,x7_⟩ (s)∧r_=(Bc s k a c e u v)):=by
 unfold Cc at hI
 unfold Vj
 try unfold CS
 try unfold CG
 try unfold CU
 try unfold Cj
 try unfold CV
 try unfold CJ
 try unfold CW
 try unfold CO
 try unfold CX
 try unfold C9
 try unfold Cf
 try unfold Cc
 try unfold Ci
 try unfold Ce
 obtain ⟨hR,rfl,hi,h0,hr,hg⟩:=hI
 have e:=hR.eq
 subst e
 have hn:n_=a_.length:=hR.n
 subst hn
 subst hi
 have hlt:(CY a_ a).toNat<a_.length:=AlZ h0
 refine ⟨⟨h0,by show CY a_ a<_;omega⟩, λ_=>⟨hR,?_⟩⟩
 show _=Bc _ 7 a c _ u v
 unfold Bc;rw [hr,hg];rfl
theorem Abm (s:RS) (k a c e u v:Int) (hp0:s.a.length≤1000) (i_ t_ p_ h_:Int) (n_:Nat) (al_ zl_:LI) (x0_ x1_ x2_ x3_ x4_ x5_ x6_ x7_:Int) (hI:Ci s k a c e u v i_) (hx:BI ⟨t_,p_,h_,n_,al_,zl_,x0_,x1_,x2_,x3_,x4_,x5_,x6_,x7_⟩ (s)):Vk s k a c e u v i_ t_ p_ h_ n_ al_ zl_ x0_ x1_ x2_ x3_ x4_ x5_ x6_ x7_ (λt_' p_' h_' n_' a_' z_' r0_' r1_' r2_' r3_' r4_' r5_' r6_' r7_' i_'=>Ce s k a c e u v t_' p_' h_' n_' a_' z_' r0_' r1_' r2_' r3_' r4_' r5_' r6_' r7_' i_'∧lx (7,0,0) (8,0,0)):=by
 unfold Ci at hI
 unfold Vk
 try unfold CS
 try unfold CG
 try unfold CU
 try unfold Cj
 try unfold CV
 try unfold CJ
 try unfold CW
 try unfold CO
 try unfold CX
 try unfold C9
 try unfold Cf
 try unfold Cc
 try unfold Ci
 try unfold Ce
 exact ⟨⟨hx,hI⟩,BU⟩
theorem Abn (s:RS) (k a c e u v:Int) (hp0:s.a.length≤1000) (t_ p_ h_:Int) (n_:Nat) (a_ z_:LI) (r0_ r1_ r2_ r3_ r4_ r5_ r6_ r7_ i_:Int) (hI:Ce s k a c e u v t_ p_ h_ n_ a_ z_ r0_ r1_ r2_ r3_ r4_ r5_ r6_ r7_ i_):Vl s k a c e u v t_ p_ h_ n_ a_ z_ r0_ r1_ r2_ r3_ r4_ r5_ r6_ r7_ i_ (λi_'=>CS s k a c e u v i_'∧lx (20,0,0) (7,0,0)) (λt_' p_' h_' n_' a_' z_' r0_' r1_' r2_' r3_' r4_' r5_' r6_' r7_' i_'=>CG s k a c e u v t_' p_' h_' n_' a_' z_' r0_' r1_' r2_' r3_' r4_' r5_' r6_' r7_' i_'∧lx (19,0,0) (7,0,0)) (λt_' p_' h_' n_' a_' z_' r0_' r1_' r2_' r3_' r4_' r5_' r6_' r7_' w_'=>CU s k a c e u v t_' p_' h_' n_' a_' z_' r0_' r1_' r2_' r3_' r4_' r5_' r6_' r7_' w_'∧lx (18,0,0) (7,0,0)) (λw_'=>Cj s k a c e u v w_'∧lx (17,0,0) (7,0,0)) (λi_'=>CV s k a c e u v i_'∧lx (16,0,0) (7,0,0)) (λt_' p_' h_' n_' a_' z_' r0_' r1_' r2_' r3_' r4_' r5_' r6_' r7_' i_'=>CJ s k a c e u v t_' p_' h_' n_' a_' z_' r0_' r1_' r2_' r3_' r4_' r5_' r6_' r7_' i_'∧lx (15,0,0) (7,0,0)) (λi_'=>CW s k a c e u v i_'∧lx (14,0,0) (7,0,0)) (λt_' p_' h_' n_' a_' z_' r0_' r1_' r2_' r3_' r4_' r5_' r6_' r7_' i_'=>CO s k a c e u v t_' p_' h_' n_' a_' z_' r0_' r1_' r2_' r3_' r4_' r5_' r6_' r7_' i_'∧lx (13,0,0) (7,0,0)) (λt_' p_' h_' n_' a_' z_' r0_' r1_' r2_' r3_' r4_' r5_' r6_' r7_' i_' w_'=>CX s k a c e u v t_' p_' h_' n_' a_' z_' r0_' r1_' r2_' r3_' r4_' r5_' r6_' r7_' i_' w_'∧lx (12,0,0) (7,0,0)) (λi_' w_'=>C9 s k a c e u v i_' w_'∧lx (11,0,0) (7,0,0)) (λi_'=>Cf s k a c e u v i_'∧lx (10,0,0) (7,0,0)) (λt_' p_' h_' n_' a_' z_' r0_' r1_' r2_' r3_' r4_' r5_' r6_' r7_' i_'=>Cc s k a c e u v t_' p_' h_' n_' a_' z_' r0_' r1_' r2_' r3_' r4_' r5_' r6_' r7_' i_'∧lx (9,0,0) (7,0,0)) (λi_'=>Ci s k a c e u v i_'∧lx (8,0,0) (7,0,0)) (λt_' p_' h_' n_' a_' z_' r0_' r1_' r2_' r3_' r4_' r5_' r6_' r7_' i_'=>Ce s k a c e u v t_' p_' h_' n_' a_' z_' r0_' r1_' r2_' r3_' r4_' r5_' r6_' r7_' i_'∧lx (7,0,0) (7,0,0)) (λr__=>r__=(Bc s k a c e u v)) (λt_ p_ h_ n_ al_ zl_ x0_ x1_ x2_ x3_ x4_ x5_ x6_ x7_ r_=>BI ⟨t_,p_,h_,n_,al_,zl_,x0_,x1_,x2_,x3_,x4_,x5_,x6_,x7_⟩ (s)∧r_=(Bc s k a c e u v)):=by
 unfold Ce at hI
 unfold Vl
 try unfold CS
 try unfold CG
 try unfold CU
 try unfold Cj
 try unfold CV
 try unfold CJ
 try unfold CW
 try unfold CO
 try unfold CX
 try unfold C9
 try unfold Cf
 try unfold Cc
 try unfold Ci
 try unfold Ce
 obtain ⟨hR,rfl,hr,hg⟩:=hI
 have e:=hR.eq
 subst e
 have hn:n_=a_.length:=hR.n
 subst hn
 refine ⟨hR,?_⟩
 show _=Bc _ 8 a c _ u v
 unfold Bc;rw [hr,hg];rfl
theorem Yg:DZ 15 Abi:=
 EX Dg I5 false TA (I:=[368018900,1678738000,26910098900,95067538900,1504353682000,1521130898900,24338144658900,2999998]) Try.func15 mix (B:=AY Try.f15) (by kernel_rfl) rfl (by kernel_rfl) 400
  λo s k a c e u v hb hp=>have hp0:s.a.length≤1000:=hp _ (.head _);⟨s,s,(Bc s k a c e u v),[⟨some 900,[0,0,1,0,1,0,1,1,1,1],[.code [1,0,1,0,1,0,1,1,1,1], .blk 0, .code [1,1,1,1,1]],[0,4,5,7],[.objk D7 ⟨o,0,none⟩ (s), .box 29 [.ic .i64 (k), .ic .i64 (a), .ic .i64 (c)], .box 32 [.ic .i64 (e), .ic .i64 (u), .ic .i64 (v)], .i .i64]⟩,⟨some 900,[0,0,1,0,1,0,1,1,1,1],[.code [1,0,1,0,1,0,1,1,1,1], .blk 0, .code [1,1,1,1,1]],[0,4,5,7],[.boxc o BL.t BL.l, .box 29 [.ic .i64 (k), .ic .i64 (a), .ic .i64 (c)], .box 32 [.ic .i64 (e), .ic .i64 (u), .ic .i64 (v)], .i .i64]⟩,⟨some 0,[0,1,0,1,0,1,0,1,1,1,1],[.code [1,1,0,1,0,1,0,1,1,1,1], .blk 0, .code [1,1,1,1,1]],[0,4,5,8],[.boxc o BL.t BL.l, .box 29 [.ic .i64 (k), .ic .i64 (a), .ic .i64 (c)], .box 32 [.ic .i64 (e), .ic .i64 (u), .ic .i64 (v)], .i .i64]⟩,⟨some 0,[0,1,0,1,0,1,0,1,1,1,1],[.code [1,1,0,1,0,1,0,1,1,1,1], .blk 0, .code [1,1,1,1,1]],[0,4,5,8],[.objk D7 ⟨o,0,none⟩ (s), .box 29 [.ic .i64 (k), .ic .i64 (a), .ic .i64 (c)], .box 32 [.ic .i64 (e), .ic .i64 (u), .ic .i64 (v)], .i .i64]⟩,⟨some 900,[0,1,0,1,1,1,0,1,0,1,1,1,1],[.code [1,1,0,1,1,1,0,1,0,1,1,1,1], .blk 0, .code [1,1,1,1,1]],[0,4,5,7],[.objk D7 ⟨o,0,none⟩ (s), .box 29 [.ic .i64 (k), .ic .i64 (a), .ic .i64 (c)], .box 32 [.ic .i64 (e), .ic .i64 (u), .ic .i64 (v)], .i .i64]⟩,⟨some 900,[0,1,0,1,1,1,0,1,0,1,1,1,1],[.code [1,1,0,1,1,1,0,1,0,1,1,1,1], .blk 0, .code [1,1,1,1,1]],[0,4,5,7],[.boxc o BL.t BL.l, .box 29 [.ic .i64 (k), .ic .i64 (a), .ic .i64 (c)], .box 32 [.ic .i64 (e), .ic .i64 (u), .ic .i64 (v)], .i .i64]⟩,⟨some 900,[0,0,1,1,1,1,1,0,1,0,1,1,1,1],[.code [1,0,1,1,1,1,1,0,1,0,1,1,1,1], .blk 0, .code [1,1,1,1,1]],[0,4,5,7],[.objk D7 ⟨o,0,none⟩ (s), .box 29 [.ic .i64 (k), .ic .i64 (a), .ic .i64 (c)], .box 32 [.ic .i64 (e), .ic .i64 (u), .ic .i64 (v)], .i .i64]⟩,⟨some 900,[0,0,1,1,1,1,1,0,1,0,1,1,1,1],[.code [1,0,1,1,1,1,1,0,1,0,1,1,1,1], .blk 0, .code [1,1,1,1,1]],[0,4,5,7],[.boxc o BL.t BL.l, .box 29 [.ic .i64 (k), .ic .i64 (a), .ic .i64 (c)], .box 32 [.ic .i64 (e), .ic .i64 (u), .ic .i64 (v)], .i .i64]⟩,⟨some 0,[0,0,1,0,1,1,1,1,1,0,1,0,1,1,1,1],[.code [1,0,1,0,1,1,1,1,1,0,1,0,1,1,1,1], .code [1,1,0,1,1,1,1,1,0,1,0,1,1,1,1], .blk 0, .code [1,1,1,1,1]],[0,4,5,7,10],[.boxc o BL.t BL.l, .box 29 [.ic .i64 (k), .ic .i64 (a), .ic .i64 (c)], .box 32 [.ic .i64 (e), .ic .i64 (u), .ic .i64 (v)], .i .i64, .i .i64]⟩,⟨some 0,[0,0,1,0,1,1,1,1,1,0,1,0,1,1,1,1],[.code [1,0,1,0,1,1,1,1,1,0,1,0,1,1,1,1], .code [1,1,0,1,1,1,1,1,0,1,0,1,1,1,1], .blk 0, .code [1,1,1,1,1]],[0,4,5,7,10],[.objk D7 ⟨o,0,none⟩ (s), .box 29 [.ic .i64 (k), .ic .i64 (a), .ic .i64 (c)], .box 32 [.ic .i64 (e), .ic .i64 (u), .ic .i64 (v)], .i .i64, .i .i64]⟩,⟨some 900,[0,0,1,1,1,1,1,1,1,0,1,0,1,1,1,1],[.code [1,0,1,1,1,1,1,1,1,0,1,0,1,1,1,1], .blk 0, .code [1,1,1,1,1]],[0,4,5,7],[.objk D7 ⟨o,0,none⟩ (s), .box 29 [.ic .i64 (k), .ic .i64 (a), .ic .i64 (c)], .box 32 [.ic .i64 (e), .ic .i64 (u), .ic .i64 (v)], .i .i64]⟩,⟨some 900,[0,0,1,1,1,1,1,1,1,0,1,0,1,1,1,1],[.code [1,0,1,1,1,1,1,1,1,0,1,0,1,1,1,1], .blk 0, .code [1,1,1,1,1]],[0,4,5,7],[.boxc o BL.t BL.l, .box 29 [.ic .i64 (k), .ic .i64 (a), .ic .i64 (c)], .box 32 [.ic .i64 (e), .ic .i64 (u), .ic .i64 (v)], .i .i64]⟩,⟨some 900,[0,0,1,1,1,1,1,1,1,1,1,0,1,0,1,1,1,1],[.code [1,0,1,1,1,1,1,1,1,1,1,0,1,0,1,1,1,1], .blk 0, .code [1,1,1,1,1]],[0,4,5,7],[.objk D7 ⟨o,0,none⟩ (s), .box 29 [.ic .i64 (k), .ic .i64 (a), .ic .i64 (c)], .box 32 [.ic .i64 (e), .ic .i64 (u), .ic .i64 (v)], .i .i64]⟩,⟨some 900,[0,0,1,1,1,1,1,1,1,1,1,0,1,0,1,1,1,1],[.code [1,0,1,1,1,1,1,1,1,1,1,0,1,0,1,1,1,1], .blk 0, .code [1,1,1,1,1]],[0,4,5,7],[.boxc o BL.t BL.l, .box 29 [.ic .i64 (k), .ic .i64 (a), .ic .i64 (c)], .box 32 [.ic .i64 (e), .ic .i64 (u), .ic .i64 (v)], .i .i64]⟩],[.opn 0 (λ_=>o) 1, .run, .cls 3, .run, .opn 0 (λ_=>o) 5, .run, .opn 0 (λ_=>o) 7, .run, .cls 9, .run, .opn 0 (λ_=>o) 11, .run, .opn 0 (λ_=>o) 13, .run], λj=>iM [Ak (Hd.kd (⟨some 900,[0,0,1,0,1,0,1,1,1,1],[.code [1,0,1,0,1,0,1,1,1,1], .blk 0, .code [1,1,1,1,1]],[0,4,5,7],[.objk D7 ⟨o,0,none⟩ (s), .box 29 [.ic .i64 (k), .ic .i64 (a), .ic .i64 (c)], .box 32 [.ic .i64 (e), .ic .i64 (u), .ic .i64 (v)], .i .i64]⟩:Hd Sg)) (λi_'=>CS s k a c e u v i_'),Ak (Hd.kd (⟨some 900,[0,0,1,0,1,0,1,1,1,1],[.code [1,0,1,0,1,0,1,1,1,1], .blk 0, .code [1,1,1,1,1]],[0,4,5,7],[.boxc o BL.t BL.l, .box 29 [.ic .i64 (k), .ic .i64 (a), .ic .i64 (c)], .box 32 [.ic .i64 (e), .ic .i64 (u), .ic .i64 (v)], .i .i64]⟩:Hd Sg)) (λt_' p_' h_' n_' a_' z_' r0_' r1_' r2_' r3_' r4_' r5_' r6_' r7_' i_'=>CG s k a c e u v t_' p_' h_' n_' a_' z_' r0_' r1_' r2_' r3_' r4_' r5_' r6_' r7_' i_'),Ak (Hd.kd (⟨some 0,[0,1,0,1,0,1,0,1,1,1,1],[.code [1,1,0,1,0,1,0,1,1,1,1], .blk 0, .code [1,1,1,1,1]],[0,4,5,8],[.boxc o BL.t BL.l, .box 29 [.ic .i64 (k), .ic .i64 (a), .ic .i64 (c)], .box 32 [.ic .i64 (e), .ic .i64 (u), .ic .i64 (v)], .i .i64]⟩:Hd Sg)) (λt_' p_' h_' n_' a_' z_' r0_' r1_' r2_' r3_' r4_' r5_' r6_' r7_' w_'=>CU s k a c e u v t_' p_' h_' n_' a_' z_' r0_' r1_' r2_' r3_' r4_' r5_' r6_' r7_' w_'),Ak (Hd.kd (⟨some 0,[0,1,0,1,0,1,0,1,1,1,1],[.code [1,1,0,1,0,1,0,1,1,1,1], .blk 0, .code [1,1,1,1,1]],[0,4,5,8],[.objk D7 ⟨o,0,none⟩ (s), .box 29 [.ic .i64 (k), .ic .i64 (a), .ic .i64 (c)], .box 32 [.ic .i64 (e), .ic .i64 (u), .ic .i64 (v)], .i .i64]⟩:Hd Sg)) (λw_'=>Cj s k a c e u v w_'),Ak (Hd.kd (⟨some 900,[0,1,0,1,1,1,0,1,0,1,1,1,1],[.code [1,1,0,1,1,1,0,1,0,1,1,1,1], .blk 0, .code [1,1,1,1,1]],[0,4,5,7],[.objk D7 ⟨o,0,none⟩ (s), .box 29 [.ic .i64 (k), .ic .i64 (a), .ic .i64 (c)], .box 32 [.ic .i64 (e), .ic .i64 (u), .ic .i64 (v)], .i .i64]⟩:Hd Sg)) (λi_'=>CV s k a c e u v i_'),Ak (Hd.kd (⟨some 900,[0,1,0,1,1,1,0,1,0,1,1,1,1],[.code [1,1,0,1,1,1,0,1,0,1,1,1,1], .blk 0, .code [1,1,1,1,1]],[0,4,5,7],[.boxc o BL.t BL.l, .box 29 [.ic .i64 (k), .ic .i64 (a), .ic .i64 (c)], .box 32 [.ic .i64 (e), .ic .i64 (u), .ic .i64 (v)], .i .i64]⟩:Hd Sg)) (λt_' p_' h_' n_' a_' z_' r0_' r1_' r2_' r3_' r4_' r5_' r6_' r7_' i_'=>CJ s k a c e u v t_' p_' h_' n_' a_' z_' r0_' r1_' r2_' r3_' r4_' r5_' r6_' r7_' i_'),Ak (Hd.kd (⟨some 900,[0,0,1,1,1,1,1,0,1,0,1,1,1,1],[.code [1,0,1,1,1,1,1,0,1,0,1,1,1,1], .blk 0, .code [1,1,1,1,1]],[0,4,5,7],[.objk D7 ⟨o,0,none⟩ (s), .box 29 [.ic .i64 (k), .ic .i64 (a), .ic .i64 (c)], .box 32 [.ic .i64 (e), .ic .i64 (u), .ic .i64 (v)], .i .i64]⟩:Hd Sg)) (λi_'=>CW s k a c e u v i_'),Ak (Hd.kd (⟨some 900,[0,0,1,1,1,1,1,0,1,0,1,1,1,1],[.code [1,0,1,1,1,1,1,0,1,0,1,1,1,1], .blk 0, .code [1,1,1,1,1]],[0,4,5,7],[.boxc o BL.t BL.l, .box 29 [.ic .i64 (k), .ic .i64 (a), .ic .i64 (c)], .box 32 [.ic .i64 (e), .ic .i64 (u), .ic .i64 (v)], .i .i64]⟩:Hd Sg)) (λt_' p_' h_' n_' a_' z_' r0_' r1_' r2_' r3_' r4_' r5_' r6_' r7_' i_'=>CO s k a c e u v t_' p_' h_' n_' a_' z_' r0_' r1_' r2_' r3_' r4_' r5_' r6_' r7_' i_'),Ak (Hd.kd (⟨some 0,[0,0,1,0,1,1,1,1,1,0,1,0,1,1,1,1],[.code [1,0,1,0,1,1,1,1,1,0,1,0,1,1,1,1], .code [1,1,0,1,1,1,1,1,0,1,0,1,1,1,1], .blk 0, .code [1,1,1,1,1]],[0,4,5,7,10],[.boxc o BL.t BL.l, .box 29 [.ic .i64 (k), .ic .i64 (a), .ic .i64 (c)], .box 32 [.ic .i64 (e), .ic .i64 (u), .ic .i64 (v)], .i .i64, .i .i64]⟩:Hd Sg)) (λt_' p_' h_' n_' a_' z_' r0_' r1_' r2_' r3_' r4_' r5_' r6_' r7_' i_' w_'=>CX s k a c e u v t_' p_' h_' n_' a_' z_' r0_' r1_' r2_' r3_' r4_' r5_' r6_' r7_' i_' w_'),Ak (Hd.kd (⟨some 0,[0,0,1,0,1,1,1,1,1,0,1,0,1,1,1,1],[.code [1,0,1,0,1,1,1,1,1,0,1,0,1,1,1,1], .code [1,1,0,1,1,1,1,1,0,1,0,1,1,1,1], .blk 0, .code [1,1,1,1,1]],[0,4,5,7,10],[.objk D7 ⟨o,0,none⟩ (s), .box 29 [.ic .i64 (k), .ic .i64 (a), .ic .i64 (c)], .box 32 [.ic .i64 (e), .ic .i64 (u), .ic .i64 (v)], .i .i64, .i .i64]⟩:Hd Sg)) (λi_' w_'=>C9 s k a c e u v i_' w_'),Ak (Hd.kd (⟨some 900,[0,0,1,1,1,1,1,1,1,0,1,0,1,1,1,1],[.code [1,0,1,1,1,1,1,1,1,0,1,0,1,1,1,1], .blk 0, .code [1,1,1,1,1]],[0,4,5,7],[.objk D7 ⟨o,0,none⟩ (s), .box 29 [.ic .i64 (k), .ic .i64 (a), .ic .i64 (c)], .box 32 [.ic .i64 (e), .ic .i64 (u), .ic .i64 (v)], .i .i64]⟩:Hd Sg)) (λi_'=>Cf s k a c e u v i_'),Ak (Hd.kd (⟨some 900,[0,0,1,1,1,1,1,1,1,0,1,0,1,1,1,1],[.code [1,0,1,1,1,1,1,1,1,0,1,0,1,1,1,1], .blk 0, .code [1,1,1,1,1]],[0,4,5,7],[.boxc o BL.t BL.l, .box 29 [.ic .i64 (k), .ic .i64 (a), .ic .i64 (c)], .box 32 [.ic .i64 (e), .ic .i64 (u), .ic .i64 (v)], .i .i64]⟩:Hd Sg)) (λt_' p_' h_' n_' a_' z_' r0_' r1_' r2_' r3_' r4_' r5_' r6_' r7_' i_'=>Cc s k a c e u v t_' p_' h_' n_' a_' z_' r0_' r1_' r2_' r3_' r4_' r5_' r6_' r7_' i_'),Ak (Hd.kd (⟨some 900,[0,0,1,1,1,1,1,1,1,1,1,0,1,0,1,1,1,1],[.code [1,0,1,1,1,1,1,1,1,1,1,0,1,0,1,1,1,1], .blk 0, .code [1,1,1,1,1]],[0,4,5,7],[.objk D7 ⟨o,0,none⟩ (s), .box 29 [.ic .i64 (k), .ic .i64 (a), .ic .i64 (c)], .box 32 [.ic .i64 (e), .ic .i64 (u), .ic .i64 (v)], .i .i64]⟩:Hd Sg)) (λi_'=>Ci s k a c e u v i_'),Ak (Hd.kd (⟨some 900,[0,0,1,1,1,1,1,1,1,1,1,0,1,0,1,1,1,1],[.code [1,0,1,1,1,1,1,1,1,1,1,0,1,0,1,1,1,1], .blk 0, .code [1,1,1,1,1]],[0,4,5,7],[.boxc o BL.t BL.l, .box 29 [.ic .i64 (k), .ic .i64 (a), .ic .i64 (c)], .box 32 [.ic .i64 (e), .ic .i64 (u), .ic .i64 (v)], .i .i64]⟩:Hd Sg)) (λt_' p_' h_' n_' a_' z_' r0_' r1_' r2_' r3_' r4_' r5_' r6_' r7_' i_'=>Ce s k a c e u v t_' p_' h_' n_' a_' z_' r0_' r1_' r2_' r3_' r4_' r5_' r6_' r7_' i_')] j (λ_=>False), λj=>iM [Ak (Hd.kd (⟨some 900,[0,0,1,0,1,0,1,1,1,1],[.code [1,0,1,0,1,0,1,1,1,1], .blk 0, .code [1,1,1,1,1]],[0,4,5,7],[.objk D7 ⟨o,0,none⟩ (s), .box 29 [.ic .i64 (k), .ic .i64 (a), .ic .i64 (c)], .box 32 [.ic .i64 (e), .ic .i64 (u), .ic .i64 (v)], .i .i64]⟩:Hd Sg)) (λi_'=>(20,0,0)),Ak (Hd.kd (⟨some 900,[0,0,1,0,1,0,1,1,1,1],[.code [1,0,1,0,1,0,1,1,1,1], .blk 0, .code [1,1,1,1,1]],[0,4,5,7],[.boxc o BL.t BL.l, .box 29 [.ic .i64 (k), .ic .i64 (a), .ic .i64 (c)], .box 32 [.ic .i64 (e), .ic .i64 (u), .ic .i64 (v)], .i .i64]⟩:Hd Sg)) (λt_' p_' h_' n_' a_' z_' r0_' r1_' r2_' r3_' r4_' r5_' r6_' r7_' i_'=>(19,0,0)),Ak (Hd.kd (⟨some 0,[0,1,0,1,0,1,0,1,1,1,1],[.code [1,1,0,1,0,1,0,1,1,1,1], .blk 0, .code [1,1,1,1,1]],[0,4,5,8],[.boxc o BL.t BL.l, .box 29 [.ic .i64 (k), .ic .i64 (a), .ic .i64 (c)], .box 32 [.ic .i64 (e), .ic .i64 (u), .ic .i64 (v)], .i .i64]⟩:Hd Sg)) (λt_' p_' h_' n_' a_' z_' r0_' r1_' r2_' r3_' r4_' r5_' r6_' r7_' w_'=>(18,0,0)),Ak (Hd.kd (⟨some 0,[0,1,0,1,0,1,0,1,1,1,1],[.code [1,1,0,1,0,1,0,1,1,1,1], .blk 0, .code [1,1,1,1,1]],[0,4,5,8],[.objk D7 ⟨o,0,none⟩ (s), .box 29 [.ic .i64 (k), .ic .i64 (a), .ic .i64 (c)], .box 32 [.ic .i64 (e), .ic .i64 (u), .ic .i64 (v)], .i .i64]⟩:Hd Sg)) (λw_'=>(17,0,0)),Ak (Hd.kd (⟨some 900,[0,1,0,1,1,1,0,1,0,1,1,1,1],[.code [1,1,0,1,1,1,0,1,0,1,1,1,1], .blk 0, .code [1,1,1,1,1]],[0,4,5,7],[.objk D7 ⟨o,0,none⟩ (s), .box 29 [.ic .i64 (k), .ic .i64 (a), .ic .i64 (c)], .box 32 [.ic .i64 (e), .ic .i64 (u), .ic .i64 (v)], .i .i64]⟩:Hd Sg)) (λi_'=>(16,0,0)),Ak (Hd.kd (⟨some 900,[0,1,0,1,1,1,0,1,0,1,1,1,1],[.code [1,1,0,1,1,1,0,1,0,1,1,1,1], .blk 0, .code [1,1,1,1,1]],[0,4,5,7],[.boxc o BL.t BL.l, .box 29 [.ic .i64 (k), .ic .i64 (a), .ic .i64 (c)], .box 32 [.ic .i64 (e), .ic .i64 (u), .ic .i64 (v)], .i .i64]⟩:Hd Sg)) (λt_' p_' h_' n_' a_' z_' r0_' r1_' r2_' r3_' r4_' r5_' r6_' r7_' i_'=>(15,0,0)),Ak (Hd.kd (⟨some 900,[0,0,1,1,1,1,1,0,1,0,1,1,1,1],[.code [1,0,1,1,1,1,1,0,1,0,1,1,1,1], .blk 0, .code [1,1,1,1,1]],[0,4,5,7],[.objk D7 ⟨o,0,none⟩ (s), .box 29 [.ic .i64 (k), .ic .i64 (a), .ic .i64 (c)], .box 32 [.ic .i64 (e), .ic .i64 (u), .ic .i64 (v)], .i .i64]⟩:Hd Sg)) (λi_'=>(14,0,0)),Ak (Hd.kd (⟨some 900,[0,0,1,1,1,1,1,0,1,0,1,1,1,1],[.code [1,0,1,1,1,1,1,0,1,0,1,1,1,1], .blk 0, .code [1,1,1,1,1]],[0,4,5,7],[.boxc o BL.t BL.l, .box 29 [.ic .i64 (k), .ic .i64 (a), .ic .i64 (c)], .box 32 [.ic .i64 (e), .ic .i64 (u), .ic .i64 (v)], .i .i64]⟩:Hd Sg)) (λt_' p_' h_' n_' a_' z_' r0_' r1_' r2_' r3_' r4_' r5_' r6_' r7_' i_'=>(13,0,0)),Ak (Hd.kd (⟨some 0,[0,0,1,0,1,1,1,1,1,0,1,0,1,1,1,1],[.code [1,0,1,0,1,1,1,1,1,0,1,0,1,1,1,1], .code [1,1,0,1,1,1,1,1,0,1,0,1,1,1,1], .blk 0, .code [1,1,1,1,1]],[0,4,5,7,10],[.boxc o BL.t BL.l, .box 29 [.ic .i64 (k), .ic .i64 (a), .ic .i64 (c)], .box 32 [.ic .i64 (e), .ic .i64 (u), .ic .i64 (v)], .i .i64, .i .i64]⟩:Hd Sg)) (λt_' p_' h_' n_' a_' z_' r0_' r1_' r2_' r3_' r4_' r5_' r6_' r7_' i_' w_'=>(12,0,0)),Ak (Hd.kd (⟨some 0,[0,0,1,0,1,1,1,1,1,0,1,0,1,1,1,1],[.code [1,0,1,0,1,1,1,1,1,0,1,0,1,1,1,1], .code [1,1,0,1,1,1,1,1,0,1,0,1,1,1,1], .blk 0, .code [1,1,1,1,1]],[0,4,5,7,10],[.objk D7 ⟨o,0,none⟩ (s), .box 29 [.ic .i64 (k), .ic .i64 (a), .ic .i64 (c)], .box 32 [.ic .i64 (e), .ic .i64 (u), .ic .i64 (v)], .i .i64, .i .i64]⟩:Hd Sg)) (λi_' w_'=>(11,0,0)),Ak (Hd.kd (⟨some 900,[0,0,1,1,1,1,1,1,1,0,1,0,1,1,1,1],[.code [1,0,1,1,1,1,1,1,1,0,1,0,1,1,1,1], .blk 0, .code [1,1,1,1,1]],[0,4,5,7],[.objk D7 ⟨o,0,none⟩ (s), .box 29 [.ic .i64 (k), .ic .i64 (a), .ic .i64 (c)], .box 32 [.ic .i64 (e), .ic .i64 (u), .ic .i64 (v)], .i .i64]⟩:Hd Sg)) (λi_'=>(10,0,0)),Ak (Hd.kd (⟨some 900,[0,0,1,1,1,1,1,1,1,0,1,0,1,1,1,1],[.code [1,0,1,1,1,1,1,1,1,0,1,0,1,1,1,1], .blk 0, .code [1,1,1,1,1]],[0,4,5,7],[.boxc o BL.t BL.l, .box 29 [.ic .i64 (k), .ic .i64 (a), .ic .i64 (c)], .box 32 [.ic .i64 (e), .ic .i64 (u), .ic .i64 (v)], .i .i64]⟩:Hd Sg)) (λt_' p_' h_' n_' a_' z_' r0_' r1_' r2_' r3_' r4_' r5_' r6_' r7_' i_'=>(9,0,0)),Ak (Hd.kd (⟨some 900,[0,0,1,1,1,1,1,1,1,1,1,0,1,0,1,1,1,1],[.code [1,0,1,1,1,1,1,1,1,1,1,0,1,0,1,1,1,1], .blk 0, .code [1,1,1,1,1]],[0,4,5,7],[.objk D7 ⟨o,0,none⟩ (s), .box 29 [.ic .i64 (k), .ic .i64 (a), .ic .i64 (c)], .box 32 [.ic .i64 (e), .ic .i64 (u), .ic .i64 (v)], .i .i64]⟩:Hd Sg)) (λi_'=>(8,0,0)),Ak (Hd.kd (⟨some 900,[0,0,1,1,1,1,1,1,1,1,1,0,1,0,1,1,1,1],[.code [1,0,1,1,1,1,1,1,1,1,1,0,1,0,1,1,1,1], .blk 0, .code [1,1,1,1,1]],[0,4,5,7],[.boxc o BL.t BL.l, .box 29 [.ic .i64 (k), .ic .i64 (a), .ic .i64 (c)], .box 32 [.ic .i64 (e), .ic .i64 (u), .ic .i64 (v)], .i .i64]⟩:Hd Sg)) (λt_' p_' h_' n_' a_' z_' r0_' r1_' r2_' r3_' r4_' r5_' r6_' r7_' i_'=>(7,0,0))] j (λ_=>(0,0,0)),by kernel_rfl, λ_ _=>by kernel_rfl,by kernel_rfl,⟨_, λ_ _ _=>by kernel_rfl,Adg s k a c e u v hp0⟩,⟨λi_ hI=>⟨s, λ_=>by kernel_rfl, λt_ p_ h_ n_ al_ zl_ x0_ x1_ x2_ x3_ x4_ x5_ x6_ x7_ hx=>⟨_, λ_ _=>by kernel_rfl,Adh s k a c e u v hp0 i_ t_ p_ h_ n_ al_ zl_ x0_ x1_ x2_ x3_ x4_ x5_ x6_ x7_ hI hx⟩⟩,⟨λt_ p_ h_ n_ a_ z_ r0_ r1_ r2_ r3_ r4_ r5_ r6_ r7_ i_ hI=>⟨_, λ_ _ _=>by kernel_rfl,Adi s k a c e u v hp0 t_ p_ h_ n_ a_ z_ r0_ r1_ r2_ r3_ r4_ r5_ r6_ r7_ i_ hI⟩,⟨λt_ p_ h_ n_ a_ z_ r0_ r1_ r2_ r3_ r4_ r5_ r6_ r7_ w_ hI=>⟨s,P8 s k a c e u v t_ p_ h_ n_ a_ z_ r0_ r1_ r2_ r3_ r4_ r5_ r6_ r7_ w_ (λw_'=>Cj s k a c e u v w_'∧lx (17,0,0) (18,0,0)),(Qz s k a c e u v hp0 t_ p_ h_ n_ a_ z_ r0_ r1_ r2_ r3_ r4_ r5_ r6_ r7_ w_ hI).1, λ_=>by kernel_rfl,(Qz s k a c e u v hp0 t_ p_ h_ n_ a_ z_ r0_ r1_ r2_ r3_ r4_ r5_ r6_ r7_ w_ hI).2⟩,⟨λw_ hI=>⟨_, λ_ _ _=>by kernel_rfl,Adj s k a c e u v hp0 w_ hI⟩,⟨λi_ hI=>⟨s, λ_=>by kernel_rfl, λt_ p_ h_ n_ al_ zl_ x0_ x1_ x2_ x3_ x4_ x5_ x6_ x7_ hx=>⟨_, λ_ _=>by kernel_rfl,Adk s k a c e u v hp0 i_ t_ p_ h_ n_ al_ zl_ x0_ x1_ x2_ x3_ x4_ x5_ x6_ x7_ hI hx⟩⟩,⟨λt_ p_ h_ n_ a_ z_ r0_ r1_ r2_ r3_ r4_ r5_ r6_ r7_ i_ hI=>⟨_, λ_ _ _=>by kernel_rfl,Adl s k a c e u v hp0 t_ p_ h_ n_ a_ z_ r0_ r1_ r2_ r3_ r4_ r5_ r6_ r7_ i_ hI⟩,⟨λi_ hI=>⟨s, λ_=>by kernel_rfl, λt_ p_ h_ n_ al_ zl_ x0_ x1_ x2_ x3_ x4_ x5_ x6_ x7_ hx=>⟨_, λ_ _=>by kernel_rfl,Adm s k a c e u v hp0 i_ t_ p_ h_ n_ al_ zl_ x0_ x1_ x2_ x3_ x4_ x5_ x6_ x7_ hI hx⟩⟩,⟨λt_ p_ h_ n_ a_ z_ r0_ r1_ r2_ r3_ r4_ r5_ r6_ r7_ i_ hI=>⟨_, λ_ _ _=>by kernel_rfl,Adn s k a c e u v hp0 t_ p_ h_ n_ a_ z_ r0_ r1_ r2_ r3_ r4_ r5_ r6_ r7_ i_ hI⟩,⟨λt_ p_ h_ n_ a_ z_ r0_ r1_ r2_ r3_ r4_ r5_ r6_ r7_ i_ w_ hI=>⟨s,P9 s k a c e u v t_ p_ h_ n_ a_ z_ r0_ r1_ r2_ r3_ r4_ r5_ r6_ r7_ i_ w_ (λi_' w_'=>C9 s k a c e u v i_' w_'∧lx (11,0,0) (12,0,0)),(QA s k a c e u v hp0 t_ p_ h_ n_ a_ z_ r0_ r1_ r2_ r3_ r4_ r5_ r6_ r7_ i_ w_ hI).1, λ_=>by kernel_rfl,(QA s k a c e u v hp0 t_ p_ h_ n_ a_ z_ r0_ r1_ r2_ r3_ r4_ r5_ r6_ r7_ i_ w_ hI).2⟩,⟨λi_ w_ hI=>⟨_, λ_ _ _=>by kernel_rfl,Ado s k a c e u v hp0 i_ w_ hI⟩,⟨λi_ hI=>⟨s, λ_=>by kernel_rfl, λt_ p_ h_ n_ al_ zl_ x0_ x1_ x2_ x3_ x4_ x5_ x6_ x7_ hx=>⟨_, λ_ _=>by kernel_rfl,Abk s k a c e u v hp0 i_ t_ p_ h_ n_ al_ zl_ x0_ x1_ x2_ x3_ x4_ x5_ x6_ x7_ hI hx⟩⟩,⟨λt_ p_ h_ n_ a_ z_ r0_ r1_ r2_ r3_ r4_ r5_ r6_ r7_ i_ hI=>⟨_, λ_ _ _=>by kernel_rfl,Abl s k a c e u v hp0 t_ p_ h_ n_ a_ z_ r0_ r1_ r2_ r3_ r4_ r5_ r6_ r7_ i_ hI⟩,⟨λi_ hI=>⟨s, λ_=>by kernel_rfl, λt_ p_ h_ n_ al_ zl_ x0_ x1_ x2_ x3_ x4_ x5_ x6_ x7_ hx=>⟨_, λ_ _=>by kernel_rfl,Abm s k a c e u v hp0 i_ t_ p_ h_ n_ al_ zl_ x0_ x1_ x2_ x3_ x4_ x5_ x6_ x7_ hI hx⟩⟩,⟨λt_ p_ h_ n_ a_ z_ r0_ r1_ r2_ r3_ r4_ r5_ r6_ r7_ i_ hI=>⟨_, λ_ _ _=>by kernel_rfl,Abn s k a c e u v hp0 t_ p_ h_ n_ a_ z_ r0_ r1_ r2_ r3_ r4_ r5_ r6_ r7_ i_ hI⟩,trivial⟩⟩⟩⟩⟩⟩⟩⟩⟩⟩⟩⟩⟩⟩⟩
def Abp:Tb:=(15,Abi)::Abh
theorem TB:DU Abp:=Ej Yg TA
end
end Go.Proofs.Ytdjfnbbmfmjckaa
