/-
  Whatever answers are said to whatever operations: the model's blocks lie in the pages' bytes, apart, each root is 0 or names one, and an answer with an error changes nothing: the law's function answers true for every configuration and list. Conditions: none.
-/
import Derived.Test.YtdjfnbbmfmjckaaJModelApart3
import Derived.Shelf.SlSortCmp.NoneTotal
import Derived.Test.YtdjfnbbmfmjckaaRows
set_option linter.unusedSimpArgs false
set_option linter.unusedVariables false
open Go.IntKind renaming i64 → iB, wrap → iL, u64 → mW
open List renaming map_cons → iC, getD_eq_getElem?_getD → iD, mem_cons → iE, getElem?_append_left → iH, getElem?_map → iK, getD → iN, getElem?_eq_getElem → iO, getElem?_set_self → iS, length → iV, getElem?_set_ne → iW, map_append → jE, getElem?_eq_none → jF, length_cons → jI, not_mem_nil → jK, mem_singleton → jM, all_eq_true → jN, length_append → jP, map_set → jR, cons_append → jU, range → jX, map_nil → jZ, length_map → kD, mem_map → kG, getElem?_cons_succ → kH, mem_range → kT, ext_getElem? → kV, any_eq_true → lA, nodup_nil → lD, zip → lI, nodup_cons → lJ, mem_append → lK, getElem_mem → lR, mem_filter → lY, eraseIdx_sublist → mF, length_nil → mI, mem_append_left → mM, map → mN, eq_nil_of_length_eq_zero → mV, zip_cons_cons → mX, nil_append → nB, getElem?_eq_some_iff → nL, findIdx?_eq_none_iff → nM
open Nat renaming le_of_ble_eq_true → iP, le_refl → kC, mul_le_mul_right → kM, zero_add → lH, mod_lt → lX, zero_le → nU, le_trans → nX
open Bool renaming and_eq_true → iG, not_true → jW, false_or → kN, not_eq_true' → lC, or_eq_false_iff → lM, or_eq_true → lP, not_false → lW, eq_iff_iff → mJ, and_false → oB, true_and → oG
open Prod.mk renaming injEq → iM
open Option renaming map_some → iR, map → mB
open Go.Value renaming int → iX, pointer → kB, slice → kS, map → kW, func → lS, tuple → oH
open Array renaming getElem?_eq_getElem → jJ, getElem?_toList → mG, toList_append → nP
open Int renaming toNat → jD
open Go.Sl.Chunk renaming cells → jG, obj → kL, bm → kQ, row → kU, dead → oF
open List.cons renaming injEq → jV
open Go.Sl.Pr renaming no → kE, pt → kZ
open Prod renaming fst → kR, snd → mA
open List.Mem renaming tail → lU, head → nD
open Go.Sl.PK renaming map → mH, cell → nJ, slice → oA
open List.Perm renaming refl → nZ
namespace Go.Proofs.Ytdjfnbbmfmjckaa
section
open Go.Sl
def Si (s:MS) (u z:Int):MS:=⟨s.t,s.p,s.h,En s.l (u,z),s.r0,s.r1,s.r2,s.r3,s.r4,s.r5,s.r6,s.r7⟩
def Aag (s:MS) (a:Int):MS:=⟨s.t,s.p,s.h,EK s.l ((atR s.l a).1,(atR s.l a).2.1),s.r0,s.r1,s.r2,s.r3,s.r4,s.r5,s.r6,s.r7⟩
def Sj (s:MS) (i x:Int):MS:=⟨s.t,s.p,s.h,s.l,(bif i==0 then x else s.r0),(bif i==1 then x else s.r1),(bif i==2 then x else s.r2),(bif i==3 then x else s.r3),(bif i==4 then x else s.r4),(bif i==5 then x else s.r5),(bif i==6 then x else s.r6),(bif i==7 then x else s.r7)⟩
def EE (s:MS) (k a c u v:Int):MS:=bif k==1 then Si s u v else bif k==2 then Aag s a else bif k==3 then Ht s a u v 8 else bif k==4 then Sj (Si s u (Am s.t s.p s.h c).1) a u else bif k==5 then Sj s a c else s
theorem AdZ {s:MS} {a:Int} (h:(FX s a).2=true):0≤a∧a<8:=by
 unfold FX at h
 cases hb:decide (a<0)||decide (a≥8) with
 |true=>rw [hb] at h;cases h
 |false=>simp only [lM,decide_eq_false_iff_not] at hb;omega
theorem al4 {s:MS} {a c u v:Int} (h:AP s 4 a c 0 u v=true):0≤a∧a<8:=by
 have h1:Ef s 4 a c 0 u v=true:=h
 unfold Ef at h1
 cases hr:(FX s a).2 with
 |true=>exact AdZ hr
 |false=>rw [hr] at h1;cases h1
theorem al5 {s:MS} {a c u v:Int} (h:AP s 5 a c 0 u v=true):0≤a∧a<8:=by
 have h1:FC s 5 a c 0 u v=true:=h
 unfold FC at h1
 cases hr:(FX s a).2 with
 |true=>exact AdZ hr
 |false=>simp only [hr] at h1;cases h1
def Ac (s:MS) (k a c e u v:Int):MS×Bool:=bif !AP s k a c e u v then (s,false) else bif e !=0 then (s,true) else (EE s k a c u v,true)
abbrev AhM:Ct Sg:=⟨some Cc,false,[.agg [.i .i64, .i .i64, .i .i64], .agg [.i .i64, .i .i64, .i .i64]], .b⟩
def Abg:Entry Sg:=CW AhM (λ(s:MS) (k:Int) (a:Int) (c:Int) (e:Int) (u:Int) (v:Int)=>bif !AP s k a c e u v then (s,false) else bif e !=0 then (s,true) else (EE s k a c u v,true)) (λs k a c e u v=>[BC s.l])
def Abh (s:MS) (k a c e u v:Int) (Q0:Int→Prop) (Q1:Int→Int→Int→List (Int×Int)→Int→Int→Int→Int→Int→Int→Int→Int→Int→Prop) (Q2:Int→Int→Prop) (Q3:Int→Int→Int→List (Int×Int)→Int→Int→Int→Int→Int→Int→Int→Int→Int→Int→Prop) (Q4:Int→Prop) (Q5:Int→Int→Int→List (Int×Int)→Int→Int→Int→Int→Int→Int→Int→Int→Int→Prop) (Q6:Int→Int→Int→List (Int×Int)→Int→Int→Int→Int→Int→Int→Int→Int→Int→Prop) (Q7:Int→Prop) (Q8:Int→Int→Int→List (Int×Int)→Int→Int→Int→Int→Int→Int→Int→Int→Int→Prop) (R_:MS×Bool→Prop) (O_:Int→Int→Int→List (Int×Int)→Int→Int→Int→Int→Int→Int→Int→Int→Bool→Prop):Prop:=(∀r2:Bool,r2=(AP s k a c e u v)→(A8 (BC (MS.l s)) (Bo (!r2) (R_ ((s,false))) (Bo (e !=0) (R_ ((s,true))) (Bo (k==1) (Q0 (k)) (Bo (k==2) (∀r8:Int×Int×Bool,r8=(atR (MS.l s) a)→(A8 (BC (MS.l s)) (Q2 r8.1 r8.2.1))) (Bo (k==3) (∀r9:MS,r9=(Ht s a u v 8)→(A8 (BC (MS.l s)) (R_ ((r9,true))))) (Bo (k==4) (Q4 (k)) (Bo (k==5) (Q7 (a)) (R_ ((s,true))))))))))))
def XX (s:MS) (k a c e u v k_ t_ p_ h_:Int) (l_:List (Int×Int)) (x0_ x1_ x2_ x3_ x4_ x5_ x6_ x7_:Int) (Q1:Int→Int→Int→List (Int×Int)→Int→Int→Int→Int→Int→Int→Int→Int→Int→Prop):Prop:=(Q1 (t_) (p_) (h_) (l_) (x0_) (x1_) (x2_) (x3_) (x4_) (x5_) (x6_) (x7_) (k_))
def AQ (s:MS) (k a c e u v k_:Int):Prop:=k=1∧k_=k∧AP s k a c e u v=true∧e=0
def XY (s:MS) (k a c e u v t_ p_ h_:Int) (l_:List (Int×Int)) (r0_ r1_ r2_ r3_ r4_ r5_ r6_ r7_ k_:Int) (Q0:Int→Prop) (Q1:Int→Int→Int→List (Int×Int)→Int→Int→Int→Int→Int→Int→Int→Int→Int→Prop) (Q2:Int→Int→Prop) (Q3:Int→Int→Int→List (Int×Int)→Int→Int→Int→Int→Int→Int→Int→Int→Int→Int→Prop) (Q4:Int→Prop) (Q5:Int→Int→Int→List (Int×Int)→Int→Int→Int→Int→Int→Int→Int→Int→Int→Prop) (Q6:Int→Int→Int→List (Int×Int)→Int→Int→Int→Int→Int→Int→Int→Int→Int→Prop) (Q7:Int→Prop) (Q8:Int→Int→Int→List (Int×Int)→Int→Int→Int→Int→Int→Int→Int→Int→Int→Prop) (R_:MS×Bool→Prop) (O_:Int→Int→Int→List (Int×Int)→Int→Int→Int→Int→Int→Int→Int→Int→Bool→Prop):Prop:=(O_ (t_) (p_) (h_) (En l_ (u,v)) (r0_) (r1_) (r2_) (r3_) (r4_) (r5_) (r6_) (r7_) (true))
def AC (s:MS) (k a c e u v t_ p_ h_:Int) (l_:List (Int×Int)) (r0_ r1_ r2_ r3_ r4_ r5_ r6_ r7_ k_:Int):Prop:=s=⟨t_,p_,h_,l_,r0_,r1_,r2_,r3_,r4_,r5_,r6_,r7_⟩∧k=1∧k_=k∧AP s k a c e u v=true∧e=0
def XZ (s:MS) (k a c e u v y_ z_ t_ p_ h_:Int) (l_:List (Int×Int)) (x0_ x1_ x2_ x3_ x4_ x5_ x6_ x7_:Int) (Q3:Int→Int→Int→List (Int×Int)→Int→Int→Int→Int→Int→Int→Int→Int→Int→Int→Prop):Prop:=(Q3 (t_) (p_) (h_) (l_) (x0_) (x1_) (x2_) (x3_) (x4_) (x5_) (x6_) (x7_) (y_) (z_))
def AU (s:MS) (k a c e u v y_ z_:Int):Prop:=k=2∧y_=(atR s.l a).1∧z_=(atR s.l a).2.1∧AP s k a c e u v=true∧e=0
def Ya (s:MS) (k a c e u v t_ p_ h_:Int) (l_:List (Int×Int)) (r0_ r1_ r2_ r3_ r4_ r5_ r6_ r7_ y_ z_:Int) (Q0:Int→Prop) (Q1:Int→Int→Int→List (Int×Int)→Int→Int→Int→Int→Int→Int→Int→Int→Int→Prop) (Q2:Int→Int→Prop) (Q3:Int→Int→Int→List (Int×Int)→Int→Int→Int→Int→Int→Int→Int→Int→Int→Int→Prop) (Q4:Int→Prop) (Q5:Int→Int→Int→List (Int×Int)→Int→Int→Int→Int→Int→Int→Int→Int→Int→Prop) (Q6:Int→Int→Int→List (Int×Int)→Int→Int→Int→Int→Int→Int→Int→Int→Int→Prop) (Q7:Int→Prop) (Q8:Int→Int→Int→List (Int×Int)→Int→Int→Int→Int→Int→Int→Int→Int→Int→Prop) (R_:MS×Bool→Prop) (O_:Int→Int→Int→List (Int×Int)→Int→Int→Int→Int→Int→Int→Int→Int→Bool→Prop):Prop:=(O_ (t_) (p_) (h_) (EK l_ (y_,z_)) (r0_) (r1_) (r2_) (r3_) (r4_) (r5_) (r6_) (r7_) (true))
def AL (s:MS) (k a c e u v t_ p_ h_:Int) (l_:List (Int×Int)) (r0_ r1_ r2_ r3_ r4_ r5_ r6_ r7_ y_ z_:Int):Prop:=s=⟨t_,p_,h_,l_,r0_,r1_,r2_,r3_,r4_,r5_,r6_,r7_⟩∧k=2∧y_=(atR s.l a).1∧z_=(atR s.l a).2.1∧AP s k a c e u v=true∧e=0
def Yb (s:MS) (k a c e u v k_ t_ p_ h_:Int) (l_:List (Int×Int)) (x0_ x1_ x2_ x3_ x4_ x5_ x6_ x7_:Int) (Q5:Int→Int→Int→List (Int×Int)→Int→Int→Int→Int→Int→Int→Int→Int→Int→Prop):Prop:=(Q5 (t_) (p_) (h_) (l_) (x0_) (x1_) (x2_) (x3_) (x4_) (x5_) (x6_) (x7_) (k_))
def AV (s:MS) (k a c e u v k_:Int):Prop:=k=4∧k_=k∧AP s k a c e u v=true∧e=0
def Yc (s:MS) (k a c e u v t_ p_ h_:Int) (l_:List (Int×Int)) (r0_ r1_ r2_ r3_ r4_ r5_ r6_ r7_ k_:Int) (Q0:Int→Prop) (Q1:Int→Int→Int→List (Int×Int)→Int→Int→Int→Int→Int→Int→Int→Int→Int→Prop) (Q2:Int→Int→Prop) (Q3:Int→Int→Int→List (Int×Int)→Int→Int→Int→Int→Int→Int→Int→Int→Int→Int→Prop) (Q4:Int→Prop) (Q5:Int→Int→Int→List (Int×Int)→Int→Int→Int→Int→Int→Int→Int→Int→Int→Prop) (Q6:Int→Int→Int→List (Int×Int)→Int→Int→Int→Int→Int→Int→Int→Int→Int→Prop) (Q7:Int→Prop) (Q8:Int→Int→Int→List (Int×Int)→Int→Int→Int→Int→Int→Int→Int→Int→Int→Prop) (R_:MS×Bool→Prop) (O_:Int→Int→Int→List (Int×Int)→Int→Int→Int→Int→Int→Int→Int→Int→Bool→Prop):Prop:=(Q6 (t_) (p_) (h_) (En l_ (u,kR (Am t_ p_ h_ c))) (r0_) (r1_) (r2_) (r3_) (r4_) (r5_) (r6_) (r7_) (a))
def AO (s:MS) (k a c e u v t_ p_ h_:Int) (l_:List (Int×Int)) (r0_ r1_ r2_ r3_ r4_ r5_ r6_ r7_ k_:Int):Prop:=s=⟨t_,p_,h_,l_,r0_,r1_,r2_,r3_,r4_,r5_,r6_,r7_⟩∧k=4∧k_=k∧AP s k a c e u v=true∧e=0
def Sm (s:MS) (k a c e u v t_ p_ h_:Int) (l_:List (Int×Int)) (r0_ r1_ r2_ r3_ r4_ r5_ r6_ r7_:Int) (Q0:Int→Prop) (Q1:Int→Int→Int→List (Int×Int)→Int→Int→Int→Int→Int→Int→Int→Int→Int→Prop) (Q2:Int→Int→Prop) (Q3:Int→Int→Int→List (Int×Int)→Int→Int→Int→Int→Int→Int→Int→Int→Int→Int→Prop) (Q4:Int→Prop) (Q5:Int→Int→Int→List (Int×Int)→Int→Int→Int→Int→Int→Int→Int→Int→Int→Prop) (Q6:Int→Int→Int→List (Int×Int)→Int→Int→Int→Int→Int→Int→Int→Int→Int→Prop) (Q7:Int→Prop) (Q8:Int→Int→Int→List (Int×Int)→Int→Int→Int→Int→Int→Int→Int→Int→Int→Prop) (R_:MS×Bool→Prop) (O_:Int→Int→Int→List (Int×Int)→Int→Int→Int→Int→Int→Int→Int→Int→Bool→Prop):Prop:=(A8 ((0:Int)≤0∧(0:Int)<8) (O_ (t_) (p_) (h_) (l_) (u) (r1_) (r2_) (r3_) (r4_) (r5_) (r6_) (r7_) (true)))
def Sr (s:MS) (k a c e u v t_ p_ h_:Int) (l_:List (Int×Int)) (r0_ r1_ r2_ r3_ r4_ r5_ r6_ r7_:Int) (Q0:Int→Prop) (Q1:Int→Int→Int→List (Int×Int)→Int→Int→Int→Int→Int→Int→Int→Int→Int→Prop) (Q2:Int→Int→Prop) (Q3:Int→Int→Int→List (Int×Int)→Int→Int→Int→Int→Int→Int→Int→Int→Int→Int→Prop) (Q4:Int→Prop) (Q5:Int→Int→Int→List (Int×Int)→Int→Int→Int→Int→Int→Int→Int→Int→Int→Prop) (Q6:Int→Int→Int→List (Int×Int)→Int→Int→Int→Int→Int→Int→Int→Int→Int→Prop) (Q7:Int→Prop) (Q8:Int→Int→Int→List (Int×Int)→Int→Int→Int→Int→Int→Int→Int→Int→Int→Prop) (R_:MS×Bool→Prop) (O_:Int→Int→Int→List (Int×Int)→Int→Int→Int→Int→Int→Int→Int→Int→Bool→Prop):Prop:=(A8 ((0:Int)≤1∧(1:Int)<8) (O_ (t_) (p_) (h_) (l_) (r0_) (u) (r2_) (r3_) (r4_) (r5_) (r6_) (r7_) (true)))
def Su (s:MS) (k a c e u v t_ p_ h_:Int) (l_:List (Int×Int)) (r0_ r1_ r2_ r3_ r4_ r5_ r6_ r7_:Int) (Q0:Int→Prop) (Q1:Int→Int→Int→List (Int×Int)→Int→Int→Int→Int→Int→Int→Int→Int→Int→Prop) (Q2:Int→Int→Prop) (Q3:Int→Int→Int→List (Int×Int)→Int→Int→Int→Int→Int→Int→Int→Int→Int→Int→Prop) (Q4:Int→Prop) (Q5:Int→Int→Int→List (Int×Int)→Int→Int→Int→Int→Int→Int→Int→Int→Int→Prop) (Q6:Int→Int→Int→List (Int×Int)→Int→Int→Int→Int→Int→Int→Int→Int→Int→Prop) (Q7:Int→Prop) (Q8:Int→Int→Int→List (Int×Int)→Int→Int→Int→Int→Int→Int→Int→Int→Int→Prop) (R_:MS×Bool→Prop) (O_:Int→Int→Int→List (Int×Int)→Int→Int→Int→Int→Int→Int→Int→Int→Bool→Prop):Prop:=(A8 ((0:Int)≤2∧(2:Int)<8) (O_ (t_) (p_) (h_) (l_) (r0_) (r1_) (u) (r3_) (r4_) (r5_) (r6_) (r7_) (true)))
def Sv (s:MS) (k a c e u v t_ p_ h_:Int) (l_:List (Int×Int)) (r0_ r1_ r2_ r3_ r4_ r5_ r6_ r7_:Int) (Q0:Int→Prop) (Q1:Int→Int→Int→List (Int×Int)→Int→Int→Int→Int→Int→Int→Int→Int→Int→Prop) (Q2:Int→Int→Prop) (Q3:Int→Int→Int→List (Int×Int)→Int→Int→Int→Int→Int→Int→Int→Int→Int→Int→Prop) (Q4:Int→Prop) (Q5:Int→Int→Int→List (Int×Int)→Int→Int→Int→Int→Int→Int→Int→Int→Int→Prop) (Q6:Int→Int→Int→List (Int×Int)→Int→Int→Int→Int→Int→Int→Int→Int→Int→Prop) (Q7:Int→Prop) (Q8:Int→Int→Int→List (Int×Int)→Int→Int→Int→Int→Int→Int→Int→Int→Int→Prop) (R_:MS×Bool→Prop) (O_:Int→Int→Int→List (Int×Int)→Int→Int→Int→Int→Int→Int→Int→Int→Bool→Prop):Prop:=(A8 ((0:Int)≤3∧(3:Int)<8) (O_ (t_) (p_) (h_) (l_) (r0_) (r1_) (r2_) (u) (r4_) (r5_) (r6_) (r7_) (true)))
def Sz (s:MS) (k a c e u v t_ p_ h_:Int) (l_:List (Int×Int)) (r0_ r1_ r2_ r3_ r4_ r5_ r6_ r7_:Int) (Q0:Int→Prop) (Q1:Int→Int→Int→List (Int×Int)→Int→Int→Int→Int→Int→Int→Int→Int→Int→Prop) (Q2:Int→Int→Prop) (Q3:Int→Int→Int→List (Int×Int)→Int→Int→Int→Int→Int→Int→Int→Int→Int→Int→Prop) (Q4:Int→Prop) (Q5:Int→Int→Int→List (Int×Int)→Int→Int→Int→Int→Int→Int→Int→Int→Int→Prop) (Q6:Int→Int→Int→List (Int×Int)→Int→Int→Int→Int→Int→Int→Int→Int→Int→Prop) (Q7:Int→Prop) (Q8:Int→Int→Int→List (Int×Int)→Int→Int→Int→Int→Int→Int→Int→Int→Int→Prop) (R_:MS×Bool→Prop) (O_:Int→Int→Int→List (Int×Int)→Int→Int→Int→Int→Int→Int→Int→Int→Bool→Prop):Prop:=(A8 ((0:Int)≤4∧(4:Int)<8) (O_ (t_) (p_) (h_) (l_) (r0_) (r1_) (r2_) (r3_) (u) (r5_) (r6_) (r7_) (true)))
def S9 (s:MS) (k a c e u v t_ p_ h_:Int) (l_:List (Int×Int)) (r0_ r1_ r2_ r3_ r4_ r5_ r6_ r7_:Int) (Q0:Int→Prop) (Q1:Int→Int→Int→List (Int×Int)→Int→Int→Int→Int→Int→Int→Int→Int→Int→Prop) (Q2:Int→Int→Prop) (Q3:Int→Int→Int→List (Int×Int)→Int→Int→Int→Int→Int→Int→Int→Int→Int→Int→Prop) (Q4:Int→Prop) (Q5:Int→Int→Int→List (Int×Int)→Int→Int→Int→Int→Int→Int→Int→Int→Int→Prop) (Q6:Int→Int→Int→List (Int×Int)→Int→Int→Int→Int→Int→Int→Int→Int→Int→Prop) (Q7:Int→Prop) (Q8:Int→Int→Int→List (Int×Int)→Int→Int→Int→Int→Int→Int→Int→Int→Int→Prop) (R_:MS×Bool→Prop) (O_:Int→Int→Int→List (Int×Int)→Int→Int→Int→Int→Int→Int→Int→Int→Bool→Prop):Prop:=(A8 ((0:Int)≤5∧(5:Int)<8) (O_ (t_) (p_) (h_) (l_) (r0_) (r1_) (r2_) (r3_) (r4_) (u) (r6_) (r7_) (true)))
def SA (s:MS) (k a c e u v t_ p_ h_:Int) (l_:List (Int×Int)) (r0_ r1_ r2_ r3_ r4_ r5_ r6_ r7_:Int) (Q0:Int→Prop) (Q1:Int→Int→Int→List (Int×Int)→Int→Int→Int→Int→Int→Int→Int→Int→Int→Prop) (Q2:Int→Int→Prop) (Q3:Int→Int→Int→List (Int×Int)→Int→Int→Int→Int→Int→Int→Int→Int→Int→Int→Prop) (Q4:Int→Prop) (Q5:Int→Int→Int→List (Int×Int)→Int→Int→Int→Int→Int→Int→Int→Int→Int→Prop) (Q6:Int→Int→Int→List (Int×Int)→Int→Int→Int→Int→Int→Int→Int→Int→Int→Prop) (Q7:Int→Prop) (Q8:Int→Int→Int→List (Int×Int)→Int→Int→Int→Int→Int→Int→Int→Int→Int→Prop) (R_:MS×Bool→Prop) (O_:Int→Int→Int→List (Int×Int)→Int→Int→Int→Int→Int→Int→Int→Int→Bool→Prop):Prop:=(A8 ((0:Int)≤6∧(6:Int)<8) (O_ (t_) (p_) (h_) (l_) (r0_) (r1_) (r2_) (r3_) (r4_) (r5_) (u) (r7_) (true)))
def SB (s:MS) (k a c e u v t_ p_ h_:Int) (l_:List (Int×Int)) (r0_ r1_ r2_ r3_ r4_ r5_ r6_ r7_:Int) (Q0:Int→Prop) (Q1:Int→Int→Int→List (Int×Int)→Int→Int→Int→Int→Int→Int→Int→Int→Int→Prop) (Q2:Int→Int→Prop) (Q3:Int→Int→Int→List (Int×Int)→Int→Int→Int→Int→Int→Int→Int→Int→Int→Int→Prop) (Q4:Int→Prop) (Q5:Int→Int→Int→List (Int×Int)→Int→Int→Int→Int→Int→Int→Int→Int→Int→Prop) (Q6:Int→Int→Int→List (Int×Int)→Int→Int→Int→Int→Int→Int→Int→Int→Int→Prop) (Q7:Int→Prop) (Q8:Int→Int→Int→List (Int×Int)→Int→Int→Int→Int→Int→Int→Int→Int→Int→Prop) (R_:MS×Bool→Prop) (O_:Int→Int→Int→List (Int×Int)→Int→Int→Int→Int→Int→Int→Int→Int→Bool→Prop):Prop:=(A8 ((0:Int)≤7∧(7:Int)<8) (O_ (t_) (p_) (h_) (l_) (r0_) (r1_) (r2_) (r3_) (r4_) (r5_) (r6_) (u) (true)))
def Aq (s:MS) (k a c e u v t_ p_ h_:Int) (l_:List (Int×Int)) (r0_ r1_ r2_ r3_ r4_ r5_ r6_ r7_ a_:Int):Prop:=a_=a∧k=4∧AP s k a c e u v=true∧e=0∧0≤a∧a<8∧⟨t_,p_,h_,l_,r0_,r1_,r2_,r3_,r4_,r5_,r6_,r7_⟩=Si s u (Am s.t s.p s.h c).1
def Yd (s:MS) (k a c e u v a_ t_ p_ h_:Int) (l_:List (Int×Int)) (x0_ x1_ x2_ x3_ x4_ x5_ x6_ x7_:Int) (Q8:Int→Int→Int→List (Int×Int)→Int→Int→Int→Int→Int→Int→Int→Int→Int→Prop):Prop:=(Q8 (t_) (p_) (h_) (l_) (x0_) (x1_) (x2_) (x3_) (x4_) (x5_) (x6_) (x7_) (a_))
def AX (s:MS) (k a c e u v a_:Int):Prop:=a_=a∧k=5∧0≤a∧a<8∧AP s k a c e u v=true∧e=0
def SC (s:MS) (k a c e u v t_ p_ h_:Int) (l_:List (Int×Int)) (r0_ r1_ r2_ r3_ r4_ r5_ r6_ r7_:Int) (Q0:Int→Prop) (Q1:Int→Int→Int→List (Int×Int)→Int→Int→Int→Int→Int→Int→Int→Int→Int→Prop) (Q2:Int→Int→Prop) (Q3:Int→Int→Int→List (Int×Int)→Int→Int→Int→Int→Int→Int→Int→Int→Int→Int→Prop) (Q4:Int→Prop) (Q5:Int→Int→Int→List (Int×Int)→Int→Int→Int→Int→Int→Int→Int→Int→Int→Prop) (Q6:Int→Int→Int→List (Int×Int)→Int→Int→Int→Int→Int→Int→Int→Int→Int→Prop) (Q7:Int→Prop) (Q8:Int→Int→Int→List (Int×Int)→Int→Int→Int→Int→Int→Int→Int→Int→Int→Prop) (R_:MS×Bool→Prop) (O_:Int→Int→Int→List (Int×Int)→Int→Int→Int→Int→Int→Int→Int→Int→Bool→Prop):Prop:=(A8 ((0:Int)≤0∧(0:Int)<8) (O_ (t_) (p_) (h_) (l_) (c) (r1_) (r2_) (r3_) (r4_) (r5_) (r6_) (r7_) (true)))
def SE (s:MS) (k a c e u v t_ p_ h_:Int) (l_:List (Int×Int)) (r0_ r1_ r2_ r3_ r4_ r5_ r6_ r7_:Int) (Q0:Int→Prop) (Q1:Int→Int→Int→List (Int×Int)→Int→Int→Int→Int→Int→Int→Int→Int→Int→Prop) (Q2:Int→Int→Prop) (Q3:Int→Int→Int→List (Int×Int)→Int→Int→Int→Int→Int→Int→Int→Int→Int→Int→Prop) (Q4:Int→Prop) (Q5:Int→Int→Int→List (Int×Int)→Int→Int→Int→Int→Int→Int→Int→Int→Int→Prop) (Q6:Int→Int→Int→List (Int×Int)→Int→Int→Int→Int→Int→Int→Int→Int→Int→Prop) (Q7:Int→Prop) (Q8:Int→Int→Int→List (Int×Int)→Int→Int→Int→Int→Int→Int→Int→Int→Int→Prop) (R_:MS×Bool→Prop) (O_:Int→Int→Int→List (Int×Int)→Int→Int→Int→Int→Int→Int→Int→Int→Bool→Prop):Prop:=(A8 ((0:Int)≤1∧(1:Int)<8) (O_ (t_) (p_) (h_) (l_) (r0_) (c) (r2_) (r3_) (r4_) (r5_) (r6_) (r7_) (true)))
def SG (s:MS) (k a c e u v t_ p_ h_:Int) (l_:List (Int×Int)) (r0_ r1_ r2_ r3_ r4_ r5_ r6_ r7_:Int) (Q0:Int→Prop) (Q1:Int→Int→Int→List (Int×Int)→Int→Int→Int→Int→Int→Int→Int→Int→Int→Prop) (Q2:Int→Int→Prop) (Q3:Int→Int→Int→List (Int×Int)→Int→Int→Int→Int→Int→Int→Int→Int→Int→Int→Prop) (Q4:Int→Prop) (Q5:Int→Int→Int→List (Int×Int)→Int→Int→Int→Int→Int→Int→Int→Int→Int→Prop) (Q6:Int→Int→Int→List (Int×Int)→Int→Int→Int→Int→Int→Int→Int→Int→Int→Prop) (Q7:Int→Prop) (Q8:Int→Int→Int→List (Int×Int)→Int→Int→Int→Int→Int→Int→Int→Int→Int→Prop) (R_:MS×Bool→Prop) (O_:Int→Int→Int→List (Int×Int)→Int→Int→Int→Int→Int→Int→Int→Int→Bool→Prop):Prop:=(A8 ((0:Int)≤2∧(2:Int)<8) (O_ (t_) (p_) (h_) (l_) (r0_) (r1_) (c) (r3_) (r4_) (r5_) (r6_) (r7_) (true)))
def SH (s:MS) (k a c e u v t_ p_ h_:Int) (l_:List (Int×Int)) (r0_ r1_ r2_ r3_ r4_ r5_ r6_ r7_:Int) (Q0:Int→Prop) (Q1:Int→Int→Int→List (Int×Int)→Int→Int→Int→Int→Int→Int→Int→Int→Int→Prop) (Q2:Int→Int→Prop) (Q3:Int→Int→Int→List (Int×Int)→Int→Int→Int→Int→Int→Int→Int→Int→Int→Int→Prop) (Q4:Int→Prop) (Q5:Int→Int→Int→List (Int×Int)→Int→Int→Int→Int→Int→Int→Int→Int→Int→Prop) (Q6:Int→Int→Int→List (Int×Int)→Int→Int→Int→Int→Int→Int→Int→Int→Int→Prop) (Q7:Int→Prop) (Q8:Int→Int→Int→List (Int×Int)→Int→Int→Int→Int→Int→Int→Int→Int→Int→Prop) (R_:MS×Bool→Prop) (O_:Int→Int→Int→List (Int×Int)→Int→Int→Int→Int→Int→Int→Int→Int→Bool→Prop):Prop:=(A8 ((0:Int)≤3∧(3:Int)<8) (O_ (t_) (p_) (h_) (l_) (r0_) (r1_) (r2_) (c) (r4_) (r5_) (r6_) (r7_) (true)))
def SI (s:MS) (k a c e u v t_ p_ h_:Int) (l_:List (Int×Int)) (r0_ r1_ r2_ r3_ r4_ r5_ r6_ r7_:Int) (Q0:Int→Prop) (Q1:Int→Int→Int→List (Int×Int)→Int→Int→Int→Int→Int→Int→Int→Int→Int→Prop) (Q2:Int→Int→Prop) (Q3:Int→Int→Int→List (Int×Int)→Int→Int→Int→Int→Int→Int→Int→Int→Int→Int→Prop) (Q4:Int→Prop) (Q5:Int→Int→Int→List (Int×Int)→Int→Int→Int→Int→Int→Int→Int→Int→Int→Prop) (Q6:Int→Int→Int→List (Int×Int)→Int→Int→Int→Int→Int→Int→Int→Int→Int→Prop) (Q7:Int→Prop) (Q8:Int→Int→Int→List (Int×Int)→Int→Int→Int→Int→Int→Int→Int→Int→Int→Prop) (R_:MS×Bool→Prop) (O_:Int→Int→Int→List (Int×Int)→Int→Int→Int→Int→Int→Int→Int→Int→Bool→Prop):Prop:=(A8 ((0:Int)≤4∧(4:Int)<8) (O_ (t_) (p_) (h_) (l_) (r0_) (r1_) (r2_) (r3_) (c) (r5_) (r6_) (r7_) (true)))
def SK (s:MS) (k a c e u v t_ p_ h_:Int) (l_:List (Int×Int)) (r0_ r1_ r2_ r3_ r4_ r5_ r6_ r7_:Int) (Q0:Int→Prop) (Q1:Int→Int→Int→List (Int×Int)→Int→Int→Int→Int→Int→Int→Int→Int→Int→Prop) (Q2:Int→Int→Prop) (Q3:Int→Int→Int→List (Int×Int)→Int→Int→Int→Int→Int→Int→Int→Int→Int→Int→Prop) (Q4:Int→Prop) (Q5:Int→Int→Int→List (Int×Int)→Int→Int→Int→Int→Int→Int→Int→Int→Int→Prop) (Q6:Int→Int→Int→List (Int×Int)→Int→Int→Int→Int→Int→Int→Int→Int→Int→Prop) (Q7:Int→Prop) (Q8:Int→Int→Int→List (Int×Int)→Int→Int→Int→Int→Int→Int→Int→Int→Int→Prop) (R_:MS×Bool→Prop) (O_:Int→Int→Int→List (Int×Int)→Int→Int→Int→Int→Int→Int→Int→Int→Bool→Prop):Prop:=(A8 ((0:Int)≤5∧(5:Int)<8) (O_ (t_) (p_) (h_) (l_) (r0_) (r1_) (r2_) (r3_) (r4_) (c) (r6_) (r7_) (true)))
def SL (s:MS) (k a c e u v t_ p_ h_:Int) (l_:List (Int×Int)) (r0_ r1_ r2_ r3_ r4_ r5_ r6_ r7_:Int) (Q0:Int→Prop) (Q1:Int→Int→Int→List (Int×Int)→Int→Int→Int→Int→Int→Int→Int→Int→Int→Prop) (Q2:Int→Int→Prop) (Q3:Int→Int→Int→List (Int×Int)→Int→Int→Int→Int→Int→Int→Int→Int→Int→Int→Prop) (Q4:Int→Prop) (Q5:Int→Int→Int→List (Int×Int)→Int→Int→Int→Int→Int→Int→Int→Int→Int→Prop) (Q6:Int→Int→Int→List (Int×Int)→Int→Int→Int→Int→Int→Int→Int→Int→Int→Prop) (Q7:Int→Prop) (Q8:Int→Int→Int→List (Int×Int)→Int→Int→Int→Int→Int→Int→Int→Int→Int→Prop) (R_:MS×Bool→Prop) (O_:Int→Int→Int→List (Int×Int)→Int→Int→Int→Int→Int→Int→Int→Int→Bool→Prop):Prop:=(A8 ((0:Int)≤6∧(6:Int)<8) (O_ (t_) (p_) (h_) (l_) (r0_) (r1_) (r2_) (r3_) (r4_) (r5_) (c) (r7_) (true)))
def SN (s:MS) (k a c e u v t_ p_ h_:Int) (l_:List (Int×Int)) (r0_ r1_ r2_ r3_ r4_ r5_ r6_ r7_:Int) (Q0:Int→Prop) (Q1:Int→Int→Int→List (Int×Int)→Int→Int→Int→Int→Int→Int→Int→Int→Int→Prop) (Q2:Int→Int→Prop) (Q3:Int→Int→Int→List (Int×Int)→Int→Int→Int→Int→Int→Int→Int→Int→Int→Int→Prop) (Q4:Int→Prop) (Q5:Int→Int→Int→List (Int×Int)→Int→Int→Int→Int→Int→Int→Int→Int→Int→Prop) (Q6:Int→Int→Int→List (Int×Int)→Int→Int→Int→Int→Int→Int→Int→Int→Int→Prop) (Q7:Int→Prop) (Q8:Int→Int→Int→List (Int×Int)→Int→Int→Int→Int→Int→Int→Int→Int→Int→Prop) (R_:MS×Bool→Prop) (O_:Int→Int→Int→List (Int×Int)→Int→Int→Int→Int→Int→Int→Int→Int→Bool→Prop):Prop:=(A8 ((0:Int)≤7∧(7:Int)<8) (O_ (t_) (p_) (h_) (l_) (r0_) (r1_) (r2_) (r3_) (r4_) (r5_) (r6_) (c) (true)))
def Ap (s:MS) (k a c e u v t_ p_ h_:Int) (l_:List (Int×Int)) (r0_ r1_ r2_ r3_ r4_ r5_ r6_ r7_ a_:Int):Prop:=s=⟨t_,p_,h_,l_,r0_,r1_,r2_,r3_,r4_,r5_,r6_,r7_⟩∧a_=a∧k=5∧0≤a∧a<8∧AP s k a c e u v=true∧e=0
theorem AbO (s:MS) (k a c e u v:Int) (hp0:BC s.l):Abh s k a c e u v (λk_'=>AQ s k a c e u v k_') (λt_' p_' h_' l_' r0_' r1_' r2_' r3_' r4_' r5_' r6_' r7_' k_'=>AC s k a c e u v t_' p_' h_' l_' r0_' r1_' r2_' r3_' r4_' r5_' r6_' r7_' k_') (λy_' z_'=>AU s k a c e u v y_' z_') (λt_' p_' h_' l_' r0_' r1_' r2_' r3_' r4_' r5_' r6_' r7_' y_' z_'=>AL s k a c e u v t_' p_' h_' l_' r0_' r1_' r2_' r3_' r4_' r5_' r6_' r7_' y_' z_') (λk_'=>AV s k a c e u v k_') (λt_' p_' h_' l_' r0_' r1_' r2_' r3_' r4_' r5_' r6_' r7_' k_'=>AO s k a c e u v t_' p_' h_' l_' r0_' r1_' r2_' r3_' r4_' r5_' r6_' r7_' k_') (λt_' p_' h_' l_' r0_' r1_' r2_' r3_' r4_' r5_' r6_' r7_' a_'=>Aq s k a c e u v t_' p_' h_' l_' r0_' r1_' r2_' r3_' r4_' r5_' r6_' r7_' a_') (λa_'=>AX s k a c e u v a_') (λt_' p_' h_' l_' r0_' r1_' r2_' r3_' r4_' r5_' r6_' r7_' a_'=>Ap s k a c e u v t_' p_' h_' l_' r0_' r1_' r2_' r3_' r4_' r5_' r6_' r7_' a_') (λr__=>r__=(Ac s k a c e u v)) (λt_ p_ h_ l_ x0_ x1_ x2_ x3_ x4_ x5_ x6_ x7_ r_=>BG ⟨t_,p_,h_,l_,x0_,x1_,x2_,x3_,x4_,x5_,x6_,x7_⟩ ((Ac s k a c e u v).1)∧r_=(Ac s k a c e u v).2):=by
 unfold Abh
 try unfold AQ
 try unfold AC
 try unfold AU
 try unfold AL
 try unfold AV
 try unfold AO
 try unfold Aq
 try unfold AX
 try unfold Ap
 rintro r2 rfl
 refine ⟨hp0, λ_=>⟨λh=>?_, λh=>⟨λhe=>?_, λhe=>?_⟩⟩⟩
 ·show _=Ac s k a c e u v
  unfold Ac;rw [h];rfl
 ·show _=Ac s k a c e u v
  unfold Ac;rw [h,he];rfl
 have hA:AP s k a c e u v=true:=by simpa using h
 have h0:e=0:=by simpa using he
 subst h0
 have key:Ac s k a c 0 u v=(EE s k a c u v,true):=by unfold Ac;rw [hA];rfl
 refine ⟨λh1=>⟨by simpa using h1,rfl,hA,rfl⟩, λh1=>⟨λh2=>?_, λh2=>⟨λh3=>?_, λh3=>⟨λh4=>⟨by simpa using h4,rfl,hA,rfl⟩, λh4=>⟨λh5=>?_, λh5=>?_⟩⟩⟩⟩⟩
 ·rintro r8 rfl
  exact ⟨hp0, λ_=>⟨by simpa using h2,rfl,rfl,hA,rfl⟩⟩
 ·rintro r9 rfl
  refine ⟨hp0, λ_=>?_⟩
  show _=Ac s k a c 0 u v
  rw [key];unfold EE;rw [h1,h2,h3];rfl
 ·have hk:k=5:=by simpa using h5
  subst hk
  have h8:=al5 hA
  exact ⟨rfl,rfl,h8.1,h8.2,hA,rfl⟩
 ·show _=Ac s k a c 0 u v
  rw [key];unfold EE;rw [h1,h2,h3,h4,h5];rfl
theorem AbP (s:MS) (k a c e u v:Int) (hp0:BC s.l) (k_ t_ p_ h_:Int) (l_:List (Int×Int)) (x0_ x1_ x2_ x3_ x4_ x5_ x6_ x7_:Int) (hI:AQ s k a c e u v k_) (hx:BG ⟨t_,p_,h_,l_,x0_,x1_,x2_,x3_,x4_,x5_,x6_,x7_⟩ (s)):XX s k a c e u v k_ t_ p_ h_ l_ x0_ x1_ x2_ x3_ x4_ x5_ x6_ x7_ (λt_' p_' h_' l_' r0_' r1_' r2_' r3_' r4_' r5_' r6_' r7_' k_'=>AC s k a c e u v t_' p_' h_' l_' r0_' r1_' r2_' r3_' r4_' r5_' r6_' r7_' k_'∧lx (10,0,0) (11,0,0)):=by
 unfold AQ at hI
 unfold XX
 try unfold AQ
 try unfold AC
 try unfold AU
 try unfold AL
 try unfold AV
 try unfold AO
 try unfold Aq
 try unfold AX
 try unfold Ap
 exact ⟨⟨hx.symm,hI⟩,Cb⟩
theorem AbQ (s:MS) (k a c e u v:Int) (hp0:BC s.l) (t_ p_ h_:Int) (l_:List (Int×Int)) (r0_ r1_ r2_ r3_ r4_ r5_ r6_ r7_ k_:Int) (hI:AC s k a c e u v t_ p_ h_ l_ r0_ r1_ r2_ r3_ r4_ r5_ r6_ r7_ k_):XY s k a c e u v t_ p_ h_ l_ r0_ r1_ r2_ r3_ r4_ r5_ r6_ r7_ k_ (λk_'=>AQ s k a c e u v k_'∧lx (11,0,0) (10,0,0)) (λt_' p_' h_' l_' r0_' r1_' r2_' r3_' r4_' r5_' r6_' r7_' k_'=>AC s k a c e u v t_' p_' h_' l_' r0_' r1_' r2_' r3_' r4_' r5_' r6_' r7_' k_'∧lx (10,0,0) (10,0,0)) (λy_' z_'=>AU s k a c e u v y_' z_'∧lx (11,0,0) (10,0,0)) (λt_' p_' h_' l_' r0_' r1_' r2_' r3_' r4_' r5_' r6_' r7_' y_' z_'=>AL s k a c e u v t_' p_' h_' l_' r0_' r1_' r2_' r3_' r4_' r5_' r6_' r7_' y_' z_'∧lx (10,0,0) (10,0,0)) (λk_'=>AV s k a c e u v k_'∧lx (11,0,0) (10,0,0)) (λt_' p_' h_' l_' r0_' r1_' r2_' r3_' r4_' r5_' r6_' r7_' k_'=>AO s k a c e u v t_' p_' h_' l_' r0_' r1_' r2_' r3_' r4_' r5_' r6_' r7_' k_'∧lx (10,0,0) (10,0,0)) (λt_' p_' h_' l_' r0_' r1_' r2_' r3_' r4_' r5_' r6_' r7_' a_'=>Aq s k a c e u v t_' p_' h_' l_' r0_' r1_' r2_' r3_' r4_' r5_' r6_' r7_' a_'∧lx (5,0,0) (10,0,0)) (λa_'=>AX s k a c e u v a_'∧lx (11,0,0) (10,0,0)) (λt_' p_' h_' l_' r0_' r1_' r2_' r3_' r4_' r5_' r6_' r7_' a_'=>Ap s k a c e u v t_' p_' h_' l_' r0_' r1_' r2_' r3_' r4_' r5_' r6_' r7_' a_'∧lx (10,0,0) (10,0,0)) (λr__=>r__=(Ac s k a c e u v)) (λt_ p_ h_ l_ x0_ x1_ x2_ x3_ x4_ x5_ x6_ x7_ r_=>BG ⟨t_,p_,h_,l_,x0_,x1_,x2_,x3_,x4_,x5_,x6_,x7_⟩ ((Ac s k a c e u v).1)∧r_=(Ac s k a c e u v).2):=by
 unfold AC at hI
 unfold XY
 try unfold AQ
 try unfold AC
 try unfold AU
 try unfold AL
 try unfold AV
 try unfold AO
 try unfold Aq
 try unfold AX
 try unfold Ap
 obtain ⟨rfl,rfl,_,hA,rfl⟩:=hI
 have key:Ac ⟨t_,p_,h_,l_,r0_,r1_,r2_,r3_,r4_,r5_,r6_,r7_⟩ 1 a c 0 u v=(EE ⟨t_,p_,h_,l_,r0_,r1_,r2_,r3_,r4_,r5_,r6_,r7_⟩ 1 a c u v,true):=by unfold Ac;rw [hA];rfl
 refine ⟨?_,?_⟩
 ·show _=(Ac ⟨t_,p_,h_,l_,r0_,r1_,r2_,r3_,r4_,r5_,r6_,r7_⟩ 1 a c 0 u v).1
  rw [key];rfl
 ·show _=(Ac ⟨t_,p_,h_,l_,r0_,r1_,r2_,r3_,r4_,r5_,r6_,r7_⟩ 1 a c 0 u v).2
  rw [key]
theorem AbR (s:MS) (k a c e u v:Int) (hp0:BC s.l) (y_ z_ t_ p_ h_:Int) (l_:List (Int×Int)) (x0_ x1_ x2_ x3_ x4_ x5_ x6_ x7_:Int) (hI:AU s k a c e u v y_ z_) (hx:BG ⟨t_,p_,h_,l_,x0_,x1_,x2_,x3_,x4_,x5_,x6_,x7_⟩ (s)):XZ s k a c e u v y_ z_ t_ p_ h_ l_ x0_ x1_ x2_ x3_ x4_ x5_ x6_ x7_ (λt_' p_' h_' l_' r0_' r1_' r2_' r3_' r4_' r5_' r6_' r7_' y_' z_'=>AL s k a c e u v t_' p_' h_' l_' r0_' r1_' r2_' r3_' r4_' r5_' r6_' r7_' y_' z_'∧lx (10,0,0) (11,0,0)):=by
 unfold AU at hI
 unfold XZ
 try unfold AQ
 try unfold AC
 try unfold AU
 try unfold AL
 try unfold AV
 try unfold AO
 try unfold Aq
 try unfold AX
 try unfold Ap
 exact ⟨⟨hx.symm,hI⟩,Cb⟩
theorem AbS (s:MS) (k a c e u v:Int) (hp0:BC s.l) (t_ p_ h_:Int) (l_:List (Int×Int)) (r0_ r1_ r2_ r3_ r4_ r5_ r6_ r7_ y_ z_:Int) (hI:AL s k a c e u v t_ p_ h_ l_ r0_ r1_ r2_ r3_ r4_ r5_ r6_ r7_ y_ z_):Ya s k a c e u v t_ p_ h_ l_ r0_ r1_ r2_ r3_ r4_ r5_ r6_ r7_ y_ z_ (λk_'=>AQ s k a c e u v k_'∧lx (11,0,0) (10,0,0)) (λt_' p_' h_' l_' r0_' r1_' r2_' r3_' r4_' r5_' r6_' r7_' k_'=>AC s k a c e u v t_' p_' h_' l_' r0_' r1_' r2_' r3_' r4_' r5_' r6_' r7_' k_'∧lx (10,0,0) (10,0,0)) (λy_' z_'=>AU s k a c e u v y_' z_'∧lx (11,0,0) (10,0,0)) (λt_' p_' h_' l_' r0_' r1_' r2_' r3_' r4_' r5_' r6_' r7_' y_' z_'=>AL s k a c e u v t_' p_' h_' l_' r0_' r1_' r2_' r3_' r4_' r5_' r6_' r7_' y_' z_'∧lx (10,0,0) (10,0,0)) (λk_'=>AV s k a c e u v k_'∧lx (11,0,0) (10,0,0)) (λt_' p_' h_' l_' r0_' r1_' r2_' r3_' r4_' r5_' r6_' r7_' k_'=>AO s k a c e u v t_' p_' h_' l_' r0_' r1_' r2_' r3_' r4_' r5_' r6_' r7_' k_'∧lx (10,0,0) (10,0,0)) (λt_' p_' h_' l_' r0_' r1_' r2_' r3_' r4_' r5_' r6_' r7_' a_'=>Aq s k a c e u v t_' p_' h_' l_' r0_' r1_' r2_' r3_' r4_' r5_' r6_' r7_' a_'∧lx (5,0,0) (10,0,0)) (λa_'=>AX s k a c e u v a_'∧lx (11,0,0) (10,0,0)) (λt_' p_' h_' l_' r0_' r1_' r2_' r3_' r4_' r5_' r6_' r7_' a_'=>Ap s k a c e u v t_' p_' h_' l_' r0_' r1_' r2_' r3_' r4_' r5_' r6_' r7_' a_'∧lx (10,0,0) (10,0,0)) (λr__=>r__=(Ac s k a c e u v)) (λt_ p_ h_ l_ x0_ x1_ x2_ x3_ x4_ x5_ x6_ x7_ r_=>BG ⟨t_,p_,h_,l_,x0_,x1_,x2_,x3_,x4_,x5_,x6_,x7_⟩ ((Ac s k a c e u v).1)∧r_=(Ac s k a c e u v).2):=by
 unfold AL at hI
 unfold Ya
 try unfold AQ
 try unfold AC
 try unfold AU
 try unfold AL
 try unfold AV
 try unfold AO
 try unfold Aq
 try unfold AX
 try unfold Ap
 obtain ⟨rfl,rfl,rfl,rfl,hA,rfl⟩:=hI
 have key:Ac ⟨t_,p_,h_,l_,r0_,r1_,r2_,r3_,r4_,r5_,r6_,r7_⟩ 2 a c 0 u v=(EE ⟨t_,p_,h_,l_,r0_,r1_,r2_,r3_,r4_,r5_,r6_,r7_⟩ 2 a c u v,true):=by unfold Ac;rw [hA];rfl
 refine ⟨?_,?_⟩
 ·show _=(Ac ⟨t_,p_,h_,l_,r0_,r1_,r2_,r3_,r4_,r5_,r6_,r7_⟩ 2 a c 0 u v).1
  rw [key];rfl
 ·show _=(Ac ⟨t_,p_,h_,l_,r0_,r1_,r2_,r3_,r4_,r5_,r6_,r7_⟩ 2 a c 0 u v).2
  rw [key]
theorem AbT (s:MS) (k a c e u v:Int) (hp0:BC s.l) (k_ t_ p_ h_:Int) (l_:List (Int×Int)) (x0_ x1_ x2_ x3_ x4_ x5_ x6_ x7_:Int) (hI:AV s k a c e u v k_) (hx:BG ⟨t_,p_,h_,l_,x0_,x1_,x2_,x3_,x4_,x5_,x6_,x7_⟩ (s)):Yb s k a c e u v k_ t_ p_ h_ l_ x0_ x1_ x2_ x3_ x4_ x5_ x6_ x7_ (λt_' p_' h_' l_' r0_' r1_' r2_' r3_' r4_' r5_' r6_' r7_' k_'=>AO s k a c e u v t_' p_' h_' l_' r0_' r1_' r2_' r3_' r4_' r5_' r6_' r7_' k_'∧lx (10,0,0) (11,0,0)):=by
 unfold AV at hI
 unfold Yb
 try unfold AQ
 try unfold AC
 try unfold AU
 try unfold AL
 try unfold AV
 try unfold AO
 try unfold Aq
 try unfold AX
 try unfold Ap
 exact ⟨⟨hx.symm,hI⟩,Cb⟩
theorem AbU (s:MS) (k a c e u v:Int) (hp0:BC s.l) (t_ p_ h_:Int) (l_:List (Int×Int)) (r0_ r1_ r2_ r3_ r4_ r5_ r6_ r7_ k_:Int) (hI:AO s k a c e u v t_ p_ h_ l_ r0_ r1_ r2_ r3_ r4_ r5_ r6_ r7_ k_):Yc s k a c e u v t_ p_ h_ l_ r0_ r1_ r2_ r3_ r4_ r5_ r6_ r7_ k_ (λk_'=>AQ s k a c e u v k_'∧lx (11,0,0) (10,0,0)) (λt_' p_' h_' l_' r0_' r1_' r2_' r3_' r4_' r5_' r6_' r7_' k_'=>AC s k a c e u v t_' p_' h_' l_' r0_' r1_' r2_' r3_' r4_' r5_' r6_' r7_' k_'∧lx (10,0,0) (10,0,0)) (λy_' z_'=>AU s k a c e u v y_' z_'∧lx (11,0,0) (10,0,0)) (λt_' p_' h_' l_' r0_' r1_' r2_' r3_' r4_' r5_' r6_' r7_' y_' z_'=>AL s k a c e u v t_' p_' h_' l_' r0_' r1_' r2_' r3_' r4_' r5_' r6_' r7_' y_' z_'∧lx (10,0,0) (10,0,0)) (λk_'=>AV s k a c e u v k_'∧lx (11,0,0) (10,0,0)) (λt_' p_' h_' l_' r0_' r1_' r2_' r3_' r4_' r5_' r6_' r7_' k_'=>AO s k a c e u v t_' p_' h_' l_' r0_' r1_' r2_' r3_' r4_' r5_' r6_' r7_' k_'∧lx (10,0,0) (10,0,0)) (λt_' p_' h_' l_' r0_' r1_' r2_' r3_' r4_' r5_' r6_' r7_' a_'=>Aq s k a c e u v t_' p_' h_' l_' r0_' r1_' r2_' r3_' r4_' r5_' r6_' r7_' a_'∧lx (5,0,0) (10,0,0)) (λa_'=>AX s k a c e u v a_'∧lx (11,0,0) (10,0,0)) (λt_' p_' h_' l_' r0_' r1_' r2_' r3_' r4_' r5_' r6_' r7_' a_'=>Ap s k a c e u v t_' p_' h_' l_' r0_' r1_' r2_' r3_' r4_' r5_' r6_' r7_' a_'∧lx (10,0,0) (10,0,0)) (λr__=>r__=(Ac s k a c e u v)) (λt_ p_ h_ l_ x0_ x1_ x2_ x3_ x4_ x5_ x6_ x7_ r_=>BG ⟨t_,p_,h_,l_,x0_,x1_,x2_,x3_,x4_,x5_,x6_,x7_⟩ ((Ac s k a c e u v).1)∧r_=(Ac s k a c e u v).2):=by
 unfold AO at hI
 unfold Yc
 try unfold AQ
 try unfold AC
 try unfold AU
 try unfold AL
 try unfold AV
 try unfold AO
 try unfold Aq
 try unfold AX
 try unfold Ap
 obtain ⟨rfl,rfl,_,hA,rfl⟩:=hI
 have h8:=al4 hA
 exact ⟨⟨rfl,rfl,hA,rfl,h8.1,h8.2,rfl⟩,Cb⟩
theorem Afa (s:MS) (k a c e u v:Int) (hp0:BC s.l) (t_ p_ h_:Int) (l_:List (Int×Int)) (r0_ r1_ r2_ r3_ r4_ r5_ r6_ r7_ a_:Int) (hI:Aq s k a c e u v t_ p_ h_ l_ r0_ r1_ r2_ r3_ r4_ r5_ r6_ r7_ a_):a_=0∨a_=1∨a_=2∨a_=3∨a_=4∨a_=5∨a_=6∨a_=7:=by
 unfold Aq at hI
 omega
theorem Ye (s:MS) (k a c e u v:Int) (hp0:BC s.l) (t_ p_ h_:Int) (l_:List (Int×Int)) (r0_ r1_ r2_ r3_ r4_ r5_ r6_ r7_:Int) (hI:Aq s k a c e u v t_ p_ h_ l_ r0_ r1_ r2_ r3_ r4_ r5_ r6_ r7_ (0:Int)):Sm s k a c e u v t_ p_ h_ l_ r0_ r1_ r2_ r3_ r4_ r5_ r6_ r7_ (λk_'=>AQ s k a c e u v k_'∧lx (11,0,0) (5,0,0)) (λt_' p_' h_' l_' r0_' r1_' r2_' r3_' r4_' r5_' r6_' r7_' k_'=>AC s k a c e u v t_' p_' h_' l_' r0_' r1_' r2_' r3_' r4_' r5_' r6_' r7_' k_'∧lx (10,0,0) (5,0,0)) (λy_' z_'=>AU s k a c e u v y_' z_'∧lx (11,0,0) (5,0,0)) (λt_' p_' h_' l_' r0_' r1_' r2_' r3_' r4_' r5_' r6_' r7_' y_' z_'=>AL s k a c e u v t_' p_' h_' l_' r0_' r1_' r2_' r3_' r4_' r5_' r6_' r7_' y_' z_'∧lx (10,0,0) (5,0,0)) (λk_'=>AV s k a c e u v k_'∧lx (11,0,0) (5,0,0)) (λt_' p_' h_' l_' r0_' r1_' r2_' r3_' r4_' r5_' r6_' r7_' k_'=>AO s k a c e u v t_' p_' h_' l_' r0_' r1_' r2_' r3_' r4_' r5_' r6_' r7_' k_'∧lx (10,0,0) (5,0,0)) (λt_' p_' h_' l_' r0_' r1_' r2_' r3_' r4_' r5_' r6_' r7_' a_'=>Aq s k a c e u v t_' p_' h_' l_' r0_' r1_' r2_' r3_' r4_' r5_' r6_' r7_' a_'∧lx (5,0,0) (5,0,0)) (λa_'=>AX s k a c e u v a_'∧lx (11,0,0) (5,0,0)) (λt_' p_' h_' l_' r0_' r1_' r2_' r3_' r4_' r5_' r6_' r7_' a_'=>Ap s k a c e u v t_' p_' h_' l_' r0_' r1_' r2_' r3_' r4_' r5_' r6_' r7_' a_'∧lx (10,0,0) (5,0,0)) (λr__=>r__=(Ac s k a c e u v)) (λt_ p_ h_ l_ x0_ x1_ x2_ x3_ x4_ x5_ x6_ x7_ r_=>BG ⟨t_,p_,h_,l_,x0_,x1_,x2_,x3_,x4_,x5_,x6_,x7_⟩ ((Ac s k a c e u v).1)∧r_=(Ac s k a c e u v).2):=by
 unfold Aq at hI
 unfold Sm
 try unfold AQ
 try unfold AC
 try unfold AU
 try unfold AL
 try unfold AV
 try unfold AO
 try unfold Aq
 try unfold AX
 try unfold Ap
 obtain ⟨rfl,rfl,hA,rfl,_,_,hE⟩:=hI
 injection hE with e1 e2 e3 e4 f0 f1 f2 f3 f4 f5 f6 f7
 subst e1 e2 e3 e4 f0 f1 f2 f3 f4 f5 f6 f7
 refine ⟨by decide, λ_=>?_⟩
 have key:Ac s 4 0 c 0 u v=(EE s 4 0 c u v,true):=by unfold Ac;rw [hA];rfl
 refine ⟨?_,?_⟩
 ·show _=(Ac s 4 0 c 0 u v).1
  rw [key];rfl
 ·show _=(Ac s 4 0 c 0 u v).2
  rw [key]
theorem Yg (s:MS) (k a c e u v:Int) (hp0:BC s.l) (t_ p_ h_:Int) (l_:List (Int×Int)) (r0_ r1_ r2_ r3_ r4_ r5_ r6_ r7_:Int) (hI:Aq s k a c e u v t_ p_ h_ l_ r0_ r1_ r2_ r3_ r4_ r5_ r6_ r7_ (1:Int)):Sr s k a c e u v t_ p_ h_ l_ r0_ r1_ r2_ r3_ r4_ r5_ r6_ r7_ (λk_'=>AQ s k a c e u v k_'∧lx (11,0,0) (5,0,0)) (λt_' p_' h_' l_' r0_' r1_' r2_' r3_' r4_' r5_' r6_' r7_' k_'=>AC s k a c e u v t_' p_' h_' l_' r0_' r1_' r2_' r3_' r4_' r5_' r6_' r7_' k_'∧lx (10,0,0) (5,0,0)) (λy_' z_'=>AU s k a c e u v y_' z_'∧lx (11,0,0) (5,0,0)) (λt_' p_' h_' l_' r0_' r1_' r2_' r3_' r4_' r5_' r6_' r7_' y_' z_'=>AL s k a c e u v t_' p_' h_' l_' r0_' r1_' r2_' r3_' r4_' r5_' r6_' r7_' y_' z_'∧lx (10,0,0) (5,0,0)) (λk_'=>AV s k a c e u v k_'∧lx (11,0,0) (5,0,0)) (λt_' p_' h_' l_' r0_' r1_' r2_' r3_' r4_' r5_' r6_' r7_' k_'=>AO s k a c e u v t_' p_' h_' l_' r0_' r1_' r2_' r3_' r4_' r5_' r6_' r7_' k_'∧lx (10,0,0) (5,0,0)) (λt_' p_' h_' l_' r0_' r1_' r2_' r3_' r4_' r5_' r6_' r7_' a_'=>Aq s k a c e u v t_' p_' h_' l_' r0_' r1_' r2_' r3_' r4_' r5_' r6_' r7_' a_'∧lx (5,0,0) (5,0,0)) (λa_'=>AX s k a c e u v a_'∧lx (11,0,0) (5,0,0)) (λt_' p_' h_' l_' r0_' r1_' r2_' r3_' r4_' r5_' r6_' r7_' a_'=>Ap s k a c e u v t_' p_' h_' l_' r0_' r1_' r2_' r3_' r4_' r5_' r6_' r7_' a_'∧lx (10,0,0) (5,0,0)) (λr__=>r__=(Ac s k a c e u v)) (λt_ p_ h_ l_ x0_ x1_ x2_ x3_ x4_ x5_ x6_ x7_ r_=>BG ⟨t_,p_,h_,l_,x0_,x1_,x2_,x3_,x4_,x5_,x6_,x7_⟩ ((Ac s k a c e u v).1)∧r_=(Ac s k a c e u v).2):=by
 unfold Aq at hI
 unfold Sr
 try unfold AQ
 try unfold AC
 try unfold AU
 try unfold AL
 try unfold AV
 try unfold AO
 try unfold Aq
 try unfold AX
 try unfold Ap
 obtain ⟨rfl,rfl,hA,rfl,_,_,hE⟩:=hI
 injection hE with e1 e2 e3 e4 f0 f1 f2 f3 f4 f5 f6 f7
 subst e1 e2 e3 e4 f0 f1 f2 f3 f4 f5 f6 f7
 refine ⟨by decide, λ_=>?_⟩
 have key:Ac s 4 1 c 0 u v=(EE s 4 1 c u v,true):=by unfold Ac;rw [hA];rfl
 refine ⟨?_,?_⟩
 ·show _=(Ac s 4 1 c 0 u v).1
  rw [key];rfl
 ·show _=(Ac s 4 1 c 0 u v).2
  rw [key]
theorem Yh (s:MS) (k a c e u v:Int) (hp0:BC s.l) (t_ p_ h_:Int) (l_:List (Int×Int)) (r0_ r1_ r2_ r3_ r4_ r5_ r6_ r7_:Int) (hI:Aq s k a c e u v t_ p_ h_ l_ r0_ r1_ r2_ r3_ r4_ r5_ r6_ r7_ (2:Int)):Su s k a c e u v t_ p_ h_ l_ r0_ r1_ r2_ r3_ r4_ r5_ r6_ r7_ (λk_'=>AQ s k a c e u v k_'∧lx (11,0,0) (5,0,0)) (λt_' p_' h_' l_' r0_' r1_' r2_' r3_' r4_' r5_' r6_' r7_' k_'=>AC s k a c e u v t_' p_' h_' l_' r0_' r1_' r2_' r3_' r4_' r5_' r6_' r7_' k_'∧lx (10,0,0) (5,0,0)) (λy_' z_'=>AU s k a c e u v y_' z_'∧lx (11,0,0) (5,0,0)) (λt_' p_' h_' l_' r0_' r1_' r2_' r3_' r4_' r5_' r6_' r7_' y_' z_'=>AL s k a c e u v t_' p_' h_' l_' r0_' r1_' r2_' r3_' r4_' r5_' r6_' r7_' y_' z_'∧lx (10,0,0) (5,0,0)) (λk_'=>AV s k a c e u v k_'∧lx (11,0,0) (5,0,0)) (λt_' p_' h_' l_' r0_' r1_' r2_' r3_' r4_' r5_' r6_' r7_' k_'=>AO s k a c e u v t_' p_' h_' l_' r0_' r1_' r2_' r3_' r4_' r5_' r6_' r7_' k_'∧lx (10,0,0) (5,0,0)) (λt_' p_' h_' l_' r0_' r1_' r2_' r3_' r4_' r5_' r6_' r7_' a_'=>Aq s k a c e u v t_' p_' h_' l_' r0_' r1_' r2_' r3_' r4_' r5_' r6_' r7_' a_'∧lx (5,0,0) (5,0,0)) (λa_'=>AX s k a c e u v a_'∧lx (11,0,0) (5,0,0)) (λt_' p_' h_' l_' r0_' r1_' r2_' r3_' r4_' r5_' r6_' r7_' a_'=>Ap s k a c e u v t_' p_' h_' l_' r0_' r1_' r2_' r3_' r4_' r5_' r6_' r7_' a_'∧lx (10,0,0) (5,0,0)) (λr__=>r__=(Ac s k a c e u v)) (λt_ p_ h_ l_ x0_ x1_ x2_ x3_ x4_ x5_ x6_ x7_ r_=>BG ⟨t_,p_,h_,l_,x0_,x1_,x2_,x3_,x4_,x5_,x6_,x7_⟩ ((Ac s k a c e u v).1)∧r_=(Ac s k a c e u v).2):=by
 unfold Aq at hI
 unfold Su
 try unfold AQ
 try unfold AC
 try unfold AU
 try unfold AL
 try unfold AV
 try unfold AO
 try unfold Aq
 try unfold AX
 try unfold Ap
 obtain ⟨rfl,rfl,hA,rfl,_,_,hE⟩:=hI
 injection hE with e1 e2 e3 e4 f0 f1 f2 f3 f4 f5 f6 f7
 subst e1 e2 e3 e4 f0 f1 f2 f3 f4 f5 f6 f7
 refine ⟨by decide, λ_=>?_⟩
 have key:Ac s 4 2 c 0 u v=(EE s 4 2 c u v,true):=by unfold Ac;rw [hA];rfl
 refine ⟨?_,?_⟩
 ·show _=(Ac s 4 2 c 0 u v).1
  rw [key];rfl
 ·show _=(Ac s 4 2 c 0 u v).2
  rw [key]
theorem Yi (s:MS) (k a c e u v:Int) (hp0:BC s.l) (t_ p_ h_:Int) (l_:List (Int×Int)) (r0_ r1_ r2_ r3_ r4_ r5_ r6_ r7_:Int) (hI:Aq s k a c e u v t_ p_ h_ l_ r0_ r1_ r2_ r3_ r4_ r5_ r6_ r7_ (3:Int)):Sv s k a c e u v t_ p_ h_ l_ r0_ r1_ r2_ r3_ r4_ r5_ r6_ r7_ (λk_'=>AQ s k a c e u v k_'∧lx (11,0,0) (5,0,0)) (λt_' p_' h_' l_' r0_' r1_' r2_' r3_' r4_' r5_' r6_' r7_' k_'=>AC s k a c e u v t_' p_' h_' l_' r0_' r1_' r2_' r3_' r4_' r5_' r6_' r7_' k_'∧lx (10,0,0) (5,0,0)) (λy_' z_'=>AU s k a c e u v y_' z_'∧lx (11,0,0) (5,0,0)) (λt_' p_' h_' l_' r0_' r1_' r2_' r3_' r4_' r5_' r6_' r7_' y_' z_'=>AL s k a c e u v t_' p_' h_' l_' r0_' r1_' r2_' r3_' r4_' r5_' r6_' r7_' y_' z_'∧lx (10,0,0) (5,0,0)) (λk_'=>AV s k a c e u v k_'∧lx (11,0,0) (5,0,0)) (λt_' p_' h_' l_' r0_' r1_' r2_' r3_' r4_' r5_' r6_' r7_' k_'=>AO s k a c e u v t_' p_' h_' l_' r0_' r1_' r2_' r3_' r4_' r5_' r6_' r7_' k_'∧lx (10,0,0) (5,0,0)) (λt_' p_' h_' l_' r0_' r1_' r2_' r3_' r4_' r5_' r6_' r7_' a_'=>Aq s k a c e u v t_' p_' h_' l_' r0_' r1_' r2_' r3_' r4_' r5_' r6_' r7_' a_'∧lx (5,0,0) (5,0,0)) (λa_'=>AX s k a c e u v a_'∧lx (11,0,0) (5,0,0)) (λt_' p_' h_' l_' r0_' r1_' r2_' r3_' r4_' r5_' r6_' r7_' a_'=>Ap s k a c e u v t_' p_' h_' l_' r0_' r1_' r2_' r3_' r4_' r5_' r6_' r7_' a_'∧lx (10,0,0) (5,0,0)) (λr__=>r__=(Ac s k a c e u v)) (λt_ p_ h_ l_ x0_ x1_ x2_ x3_ x4_ x5_ x6_ x7_ r_=>BG ⟨t_,p_,h_,l_,x0_,x1_,x2_,x3_,x4_,x5_,x6_,x7_⟩ ((Ac s k a c e u v).1)∧r_=(Ac s k a c e u v).2):=by
 unfold Aq at hI
 unfold Sv
 try unfold AQ
 try unfold AC
 try unfold AU
 try unfold AL
 try unfold AV
 try unfold AO
 try unfold Aq
 try unfold AX
 try unfold Ap
 obtain ⟨rfl,rfl,hA,rfl,_,_,hE⟩:=hI
 injection hE with e1 e2 e3 e4 f0 f1 f2 f3 f4 f5 f6 f7
 subst e1 e2 e3 e4 f0 f1 f2 f3 f4 f5 f6 f7
 refine ⟨by decide, λ_=>?_⟩
 have key:Ac s 4 3 c 0 u v=(EE s 4 3 c u v,true):=by unfold Ac;rw [hA];rfl
 refine ⟨?_,?_⟩
 ·show _=(Ac s 4 3 c 0 u v).1
  rw [key];rfl
 ·show _=(Ac s 4 3 c 0 u v).2
  rw [key]
theorem Yj (s:MS) (k a c e u v:Int) (hp0:BC s.l) (t_ p_ h_:Int) (l_:List (Int×Int)) (r0_ r1_ r2_ r3_ r4_ r5_ r6_ r7_:Int) (hI:Aq s k a c e u v t_ p_ h_ l_ r0_ r1_ r2_ r3_ r4_ r5_ r6_ r7_ (4:Int)):Sz s k a c e u v t_ p_ h_ l_ r0_ r1_ r2_ r3_ r4_ r5_ r6_ r7_ (λk_'=>AQ s k a c e u v k_'∧lx (11,0,0) (5,0,0)) (λt_' p_' h_' l_' r0_' r1_' r2_' r3_' r4_' r5_' r6_' r7_' k_'=>AC s k a c e u v t_' p_' h_' l_' r0_' r1_' r2_' r3_' r4_' r5_' r6_' r7_' k_'∧lx (10,0,0) (5,0,0)) (λy_' z_'=>AU s k a c e u v y_' z_'∧lx (11,0,0) (5,0,0)) (λt_' p_' h_' l_' r0_' r1_' r2_' r3_' r4_' r5_' r6_' r7_' y_' z_'=>AL s k a c e u v t_' p_' h_' l_' r0_' r1_' r2_' r3_' r4_' r5_' r6_' r7_' y_' z_'∧lx (10,0,0) (5,0,0)) (λk_'=>AV s k a c e u v k_'∧lx (11,0,0) (5,0,0)) (λt_' p_' h_' l_' r0_' r1_' r2_' r3_' r4_' r5_' r6_' r7_' k_'=>AO s k a c e u v t_' p_' h_' l_' r0_' r1_' r2_' r3_' r4_' r5_' r6_' r7_' k_'∧lx (10,0,0) (5,0,0)) (λt_' p_' h_' l_' r0_' r1_' r2_' r3_' r4_' r5_' r6_' r7_' a_'=>Aq s k a c e u v t_' p_' h_' l_' r0_' r1_' r2_' r3_' r4_' r5_' r6_' r7_' a_'∧lx (5,0,0) (5,0,0)) (λa_'=>AX s k a c e u v a_'∧lx (11,0,0) (5,0,0)) (λt_' p_' h_' l_' r0_' r1_' r2_' r3_' r4_' r5_' r6_' r7_' a_'=>Ap s k a c e u v t_' p_' h_' l_' r0_' r1_' r2_' r3_' r4_' r5_' r6_' r7_' a_'∧lx (10,0,0) (5,0,0)) (λr__=>r__=(Ac s k a c e u v)) (λt_ p_ h_ l_ x0_ x1_ x2_ x3_ x4_ x5_ x6_ x7_ r_=>BG ⟨t_,p_,h_,l_,x0_,x1_,x2_,x3_,x4_,x5_,x6_,x7_⟩ ((Ac s k a c e u v).1)∧r_=(Ac s k a c e u v).2):=by
 unfold Aq at hI
 unfold Sz
 try unfold AQ
 try unfold AC
 try unfold AU
 try unfold AL
 try unfold AV
 try unfold AO
 try unfold Aq
 try unfold AX
 try unfold Ap
 obtain ⟨rfl,rfl,hA,rfl,_,_,hE⟩:=hI
 injection hE with e1 e2 e3 e4 f0 f1 f2 f3 f4 f5 f6 f7
 subst e1 e2 e3 e4 f0 f1 f2 f3 f4 f5 f6 f7
 refine ⟨by decide, λ_=>?_⟩
 have key:Ac s 4 4 c 0 u v=(EE s 4 4 c u v,true):=by unfold Ac;rw [hA];rfl
 refine ⟨?_,?_⟩
 ·show _=(Ac s 4 4 c 0 u v).1
  rw [key];rfl
 ·show _=(Ac s 4 4 c 0 u v).2
  rw [key]
theorem Yk (s:MS) (k a c e u v:Int) (hp0:BC s.l) (t_ p_ h_:Int) (l_:List (Int×Int)) (r0_ r1_ r2_ r3_ r4_ r5_ r6_ r7_:Int) (hI:Aq s k a c e u v t_ p_ h_ l_ r0_ r1_ r2_ r3_ r4_ r5_ r6_ r7_ (5:Int)):S9 s k a c e u v t_ p_ h_ l_ r0_ r1_ r2_ r3_ r4_ r5_ r6_ r7_ (λk_'=>AQ s k a c e u v k_'∧lx (11,0,0) (5,0,0)) (λt_' p_' h_' l_' r0_' r1_' r2_' r3_' r4_' r5_' r6_' r7_' k_'=>AC s k a c e u v t_' p_' h_' l_' r0_' r1_' r2_' r3_' r4_' r5_' r6_' r7_' k_'∧lx (10,0,0) (5,0,0)) (λy_' z_'=>AU s k a c e u v y_' z_'∧lx (11,0,0) (5,0,0)) (λt_' p_' h_' l_' r0_' r1_' r2_' r3_' r4_' r5_' r6_' r7_' y_' z_'=>AL s k a c e u v t_' p_' h_' l_' r0_' r1_' r2_' r3_' r4_' r5_' r6_' r7_' y_' z_'∧lx (10,0,0) (5,0,0)) (λk_'=>AV s k a c e u v k_'∧lx (11,0,0) (5,0,0)) (λt_' p_' h_' l_' r0_' r1_' r2_' r3_' r4_' r5_' r6_' r7_' k_'=>AO s k a c e u v t_' p_' h_' l_' r0_' r1_' r2_' r3_' r4_' r5_' r6_' r7_' k_'∧lx (10,0,0) (5,0,0)) (λt_' p_' h_' l_' r0_' r1_' r2_' r3_' r4_' r5_' r6_' r7_' a_'=>Aq s k a c e u v t_' p_' h_' l_' r0_' r1_' r2_' r3_' r4_' r5_' r6_' r7_' a_'∧lx (5,0,0) (5,0,0)) (λa_'=>AX s k a c e u v a_'∧lx (11,0,0) (5,0,0)) (λt_' p_' h_' l_' r0_' r1_' r2_' r3_' r4_' r5_' r6_' r7_' a_'=>Ap s k a c e u v t_' p_' h_' l_' r0_' r1_' r2_' r3_' r4_' r5_' r6_' r7_' a_'∧lx (10,0,0) (5,0,0)) (λr__=>r__=(Ac s k a c e u v)) (λt_ p_ h_ l_ x0_ x1_ x2_ x3_ x4_ x5_ x6_ x7_ r_=>BG ⟨t_,p_,h_,l_,x0_,x1_,x2_,x3_,x4_,x5_,x6_,x7_⟩ ((Ac s k a c e u v).1)∧r_=(Ac s k a c e u v).2):=by
 unfold Aq at hI
 unfold S9
 try unfold AQ
 try unfold AC
 try unfold AU
 try unfold AL
 try unfold AV
 try unfold AO
 try unfold Aq
 try unfold AX
 try unfold Ap
 obtain ⟨rfl,rfl,hA,rfl,_,_,hE⟩:=hI
 injection hE with e1 e2 e3 e4 f0 f1 f2 f3 f4 f5 f6 f7
 subst e1 e2 e3 e4 f0 f1 f2 f3 f4 f5 f6 f7
 refine ⟨by decide, λ_=>?_⟩
 have key:Ac s 4 5 c 0 u v=(EE s 4 5 c u v,true):=by unfold Ac;rw [hA];rfl
 refine ⟨?_,?_⟩
 ·show _=(Ac s 4 5 c 0 u v).1
  rw [key];rfl
 ·show _=(Ac s 4 5 c 0 u v).2
  rw [key]
theorem Yl (s:MS) (k a c e u v:Int) (hp0:BC s.l) (t_ p_ h_:Int) (l_:List (Int×Int)) (r0_ r1_ r2_ r3_ r4_ r5_ r6_ r7_:Int) (hI:Aq s k a c e u v t_ p_ h_ l_ r0_ r1_ r2_ r3_ r4_ r5_ r6_ r7_ (6:Int)):SA s k a c e u v t_ p_ h_ l_ r0_ r1_ r2_ r3_ r4_ r5_ r6_ r7_ (λk_'=>AQ s k a c e u v k_'∧lx (11,0,0) (5,0,0)) (λt_' p_' h_' l_' r0_' r1_' r2_' r3_' r4_' r5_' r6_' r7_' k_'=>AC s k a c e u v t_' p_' h_' l_' r0_' r1_' r2_' r3_' r4_' r5_' r6_' r7_' k_'∧lx (10,0,0) (5,0,0)) (λy_' z_'=>AU s k a c e u v y_' z_'∧lx (11,0,0) (5,0,0)) (λt_' p_' h_' l_' r0_' r1_' r2_' r3_' r4_' r5_' r6_' r7_' y_' z_'=>AL s k a c e u v t_' p_' h_' l_' r0_' r1_' r2_' r3_' r4_' r5_' r6_' r7_' y_' z_'∧lx (10,0,0) (5,0,0)) (λk_'=>AV s k a c e u v k_'∧lx (11,0,0) (5,0,0)) (λt_' p_' h_' l_' r0_' r1_' r2_' r3_' r4_' r5_' r6_' r7_' k_'=>AO s k a c e u v t_' p_' h_' l_' r0_' r1_' r2_' r3_' r4_' r5_' r6_' r7_' k_'∧lx (10,0,0) (5,0,0)) (λt_' p_' h_' l_' r0_' r1_' r2_' r3_' r4_' r5_' r6_' r7_' a_'=>Aq s k a c e u v t_' p_' h_' l_' r0_' r1_' r2_' r3_' r4_' r5_' r6_' r7_' a_'∧lx (5,0,0) (5,0,0)) (λa_'=>AX s k a c e u v a_'∧lx (11,0,0) (5,0,0)) (λt_' p_' h_' l_' r0_' r1_' r2_' r3_' r4_' r5_' r6_' r7_' a_'=>Ap s k a c e u v t_' p_' h_' l_' r0_' r1_' r2_' r3_' r4_' r5_' r6_' r7_' a_'∧lx (10,0,0) (5,0,0)) (λr__=>r__=(Ac s k a c e u v)) (λt_ p_ h_ l_ x0_ x1_ x2_ x3_ x4_ x5_ x6_ x7_ r_=>BG ⟨t_,p_,h_,l_,x0_,x1_,x2_,x3_,x4_,x5_,x6_,x7_⟩ ((Ac s k a c e u v).1)∧r_=(Ac s k a c e u v).2):=by
 unfold Aq at hI
 unfold SA
 try unfold AQ
 try unfold AC
 try unfold AU
 try unfold AL
 try unfold AV
 try unfold AO
 try unfold Aq
 try unfold AX
 try unfold Ap
 obtain ⟨rfl,rfl,hA,rfl,_,_,hE⟩:=hI
 injection hE with e1 e2 e3 e4 f0 f1 f2 f3 f4 f5 f6 f7
 subst e1 e2 e3 e4 f0 f1 f2 f3 f4 f5 f6 f7
 refine ⟨by decide, λ_=>?_⟩
 have key:Ac s 4 6 c 0 u v=(EE s 4 6 c u v,true):=by unfold Ac;rw [hA];rfl
 refine ⟨?_,?_⟩
 ·show _=(Ac s 4 6 c 0 u v).1
  rw [key];rfl
 ·show _=(Ac s 4 6 c 0 u v).2
  rw [key]
theorem Ym (s:MS) (k a c e u v:Int) (hp0:BC s.l) (t_ p_ h_:Int) (l_:List (Int×Int)) (r0_ r1_ r2_ r3_ r4_ r5_ r6_ r7_:Int) (hI:Aq s k a c e u v t_ p_ h_ l_ r0_ r1_ r2_ r3_ r4_ r5_ r6_ r7_ (7:Int)):SB s k a c e u v t_ p_ h_ l_ r0_ r1_ r2_ r3_ r4_ r5_ r6_ r7_ (λk_'=>AQ s k a c e u v k_'∧lx (11,0,0) (5,0,0)) (λt_' p_' h_' l_' r0_' r1_' r2_' r3_' r4_' r5_' r6_' r7_' k_'=>AC s k a c e u v t_' p_' h_' l_' r0_' r1_' r2_' r3_' r4_' r5_' r6_' r7_' k_'∧lx (10,0,0) (5,0,0)) (λy_' z_'=>AU s k a c e u v y_' z_'∧lx (11,0,0) (5,0,0)) (λt_' p_' h_' l_' r0_' r1_' r2_' r3_' r4_' r5_' r6_' r7_' y_' z_'=>AL s k a c e u v t_' p_' h_' l_' r0_' r1_' r2_' r3_' r4_' r5_' r6_' r7_' y_' z_'∧lx (10,0,0) (5,0,0)) (λk_'=>AV s k a c e u v k_'∧lx (11,0,0) (5,0,0)) (λt_' p_' h_' l_' r0_' r1_' r2_' r3_' r4_' r5_' r6_' r7_' k_'=>AO s k a c e u v t_' p_' h_' l_' r0_' r1_' r2_' r3_' r4_' r5_' r6_' r7_' k_'∧lx (10,0,0) (5,0,0)) (λt_' p_' h_' l_' r0_' r1_' r2_' r3_' r4_' r5_' r6_' r7_' a_'=>Aq s k a c e u v t_' p_' h_' l_' r0_' r1_' r2_' r3_' r4_' r5_' r6_' r7_' a_'∧lx (5,0,0) (5,0,0)) (λa_'=>AX s k a c e u v a_'∧lx (11,0,0) (5,0,0)) (λt_' p_' h_' l_' r0_' r1_' r2_' r3_' r4_' r5_' r6_' r7_' a_'=>Ap s k a c e u v t_' p_' h_' l_' r0_' r1_' r2_' r3_' r4_' r5_' r6_' r7_' a_'∧lx (10,0,0) (5,0,0)) (λr__=>r__=(Ac s k a c e u v)) (λt_ p_ h_ l_ x0_ x1_ x2_ x3_ x4_ x5_ x6_ x7_ r_=>BG ⟨t_,p_,h_,l_,x0_,x1_,x2_,x3_,x4_,x5_,x6_,x7_⟩ ((Ac s k a c e u v).1)∧r_=(Ac s k a c e u v).2):=by
 unfold Aq at hI
 unfold SB
 try unfold AQ
 try unfold AC
 try unfold AU
 try unfold AL
 try unfold AV
 try unfold AO
 try unfold Aq
 try unfold AX
 try unfold Ap
 obtain ⟨rfl,rfl,hA,rfl,_,_,hE⟩:=hI
 injection hE with e1 e2 e3 e4 f0 f1 f2 f3 f4 f5 f6 f7
 subst e1 e2 e3 e4 f0 f1 f2 f3 f4 f5 f6 f7
 refine ⟨by decide, λ_=>?_⟩
 have key:Ac s 4 7 c 0 u v=(EE s 4 7 c u v,true):=by unfold Ac;rw [hA];rfl
 refine ⟨?_,?_⟩
 ·show _=(Ac s 4 7 c 0 u v).1
  rw [key];rfl
 ·show _=(Ac s 4 7 c 0 u v).2
  rw [key]
theorem AbV (s:MS) (k a c e u v:Int) (hp0:BC s.l) (a_ t_ p_ h_:Int) (l_:List (Int×Int)) (x0_ x1_ x2_ x3_ x4_ x5_ x6_ x7_:Int) (hI:AX s k a c e u v a_) (hx:BG ⟨t_,p_,h_,l_,x0_,x1_,x2_,x3_,x4_,x5_,x6_,x7_⟩ (s)):Yd s k a c e u v a_ t_ p_ h_ l_ x0_ x1_ x2_ x3_ x4_ x5_ x6_ x7_ (λt_' p_' h_' l_' r0_' r1_' r2_' r3_' r4_' r5_' r6_' r7_' a_'=>Ap s k a c e u v t_' p_' h_' l_' r0_' r1_' r2_' r3_' r4_' r5_' r6_' r7_' a_'∧lx (10,0,0) (11,0,0)):=by
 unfold AX at hI
 unfold Yd
 try unfold AQ
 try unfold AC
 try unfold AU
 try unfold AL
 try unfold AV
 try unfold AO
 try unfold Aq
 try unfold AX
 try unfold Ap
 exact ⟨⟨hx.symm,hI⟩,Cb⟩
theorem Afb (s:MS) (k a c e u v:Int) (hp0:BC s.l) (t_ p_ h_:Int) (l_:List (Int×Int)) (r0_ r1_ r2_ r3_ r4_ r5_ r6_ r7_ a_:Int) (hI:Ap s k a c e u v t_ p_ h_ l_ r0_ r1_ r2_ r3_ r4_ r5_ r6_ r7_ a_):a_=0∨a_=1∨a_=2∨a_=3∨a_=4∨a_=5∨a_=6∨a_=7:=by
 unfold Ap at hI
 omega
theorem Yn (s:MS) (k a c e u v:Int) (hp0:BC s.l) (t_ p_ h_:Int) (l_:List (Int×Int)) (r0_ r1_ r2_ r3_ r4_ r5_ r6_ r7_:Int) (hI:Ap s k a c e u v t_ p_ h_ l_ r0_ r1_ r2_ r3_ r4_ r5_ r6_ r7_ (0:Int)):SC s k a c e u v t_ p_ h_ l_ r0_ r1_ r2_ r3_ r4_ r5_ r6_ r7_ (λk_'=>AQ s k a c e u v k_'∧lx (11,0,0) (10,0,0)) (λt_' p_' h_' l_' r0_' r1_' r2_' r3_' r4_' r5_' r6_' r7_' k_'=>AC s k a c e u v t_' p_' h_' l_' r0_' r1_' r2_' r3_' r4_' r5_' r6_' r7_' k_'∧lx (10,0,0) (10,0,0)) (λy_' z_'=>AU s k a c e u v y_' z_'∧lx (11,0,0) (10,0,0)) (λt_' p_' h_' l_' r0_' r1_' r2_' r3_' r4_' r5_' r6_' r7_' y_' z_'=>AL s k a c e u v t_' p_' h_' l_' r0_' r1_' r2_' r3_' r4_' r5_' r6_' r7_' y_' z_'∧lx (10,0,0) (10,0,0)) (λk_'=>AV s k a c e u v k_'∧lx (11,0,0) (10,0,0)) (λt_' p_' h_' l_' r0_' r1_' r2_' r3_' r4_' r5_' r6_' r7_' k_'=>AO s k a c e u v t_' p_' h_' l_' r0_' r1_' r2_' r3_' r4_' r5_' r6_' r7_' k_'∧lx (10,0,0) (10,0,0)) (λt_' p_' h_' l_' r0_' r1_' r2_' r3_' r4_' r5_' r6_' r7_' a_'=>Aq s k a c e u v t_' p_' h_' l_' r0_' r1_' r2_' r3_' r4_' r5_' r6_' r7_' a_'∧lx (5,0,0) (10,0,0)) (λa_'=>AX s k a c e u v a_'∧lx (11,0,0) (10,0,0)) (λt_' p_' h_' l_' r0_' r1_' r2_' r3_' r4_' r5_' r6_' r7_' a_'=>Ap s k a c e u v t_' p_' h_' l_' r0_' r1_' r2_' r3_' r4_' r5_' r6_' r7_' a_'∧lx (10,0,0) (10,0,0)) (λr__=>r__=(Ac s k a c e u v)) (λt_ p_ h_ l_ x0_ x1_ x2_ x3_ x4_ x5_ x6_ x7_ r_=>BG ⟨t_,p_,h_,l_,x0_,x1_,x2_,x3_,x4_,x5_,x6_,x7_⟩ ((Ac s k a c e u v).1)∧r_=(Ac s k a c e u v).2):=by
 unfold Ap at hI
 unfold SC
 try unfold AQ
 try unfold AC
 try unfold AU
 try unfold AL
 try unfold AV
 try unfold AO
 try unfold Aq
 try unfold AX
 try unfold Ap
 obtain ⟨rfl,rfl,rfl,_,_,hA,rfl⟩:=hI
 refine ⟨by decide, λ_=>?_⟩
 have key:Ac ⟨t_,p_,h_,l_,r0_,r1_,r2_,r3_,r4_,r5_,r6_,r7_⟩ 5 0 c 0 u v=(EE ⟨t_,p_,h_,l_,r0_,r1_,r2_,r3_,r4_,r5_,r6_,r7_⟩ 5 0 c u v,true):=by unfold Ac;rw [hA];rfl
 refine ⟨?_,?_⟩
 ·show _=(Ac ⟨t_,p_,h_,l_,r0_,r1_,r2_,r3_,r4_,r5_,r6_,r7_⟩ 5 0 c 0 u v).1
  rw [key];rfl
 ·show _=(Ac ⟨t_,p_,h_,l_,r0_,r1_,r2_,r3_,r4_,r5_,r6_,r7_⟩ 5 0 c 0 u v).2
  rw [key]
theorem Yo (s:MS) (k a c e u v:Int) (hp0:BC s.l) (t_ p_ h_:Int) (l_:List (Int×Int)) (r0_ r1_ r2_ r3_ r4_ r5_ r6_ r7_:Int) (hI:Ap s k a c e u v t_ p_ h_ l_ r0_ r1_ r2_ r3_ r4_ r5_ r6_ r7_ (1:Int)):SE s k a c e u v t_ p_ h_ l_ r0_ r1_ r2_ r3_ r4_ r5_ r6_ r7_ (λk_'=>AQ s k a c e u v k_'∧lx (11,0,0) (10,0,0)) (λt_' p_' h_' l_' r0_' r1_' r2_' r3_' r4_' r5_' r6_' r7_' k_'=>AC s k a c e u v t_' p_' h_' l_' r0_' r1_' r2_' r3_' r4_' r5_' r6_' r7_' k_'∧lx (10,0,0) (10,0,0)) (λy_' z_'=>AU s k a c e u v y_' z_'∧lx (11,0,0) (10,0,0)) (λt_' p_' h_' l_' r0_' r1_' r2_' r3_' r4_' r5_' r6_' r7_' y_' z_'=>AL s k a c e u v t_' p_' h_' l_' r0_' r1_' r2_' r3_' r4_' r5_' r6_' r7_' y_' z_'∧lx (10,0,0) (10,0,0)) (λk_'=>AV s k a c e u v k_'∧lx (11,0,0) (10,0,0)) (λt_' p_' h_' l_' r0_' r1_' r2_' r3_' r4_' r5_' r6_' r7_' k_'=>AO s k a c e u v t_' p_' h_' l_' r0_' r1_' r2_' r3_' r4_' r5_' r6_' r7_' k_'∧lx (10,0,0) (10,0,0)) (λt_' p_' h_' l_' r0_' r1_' r2_' r3_' r4_' r5_' r6_' r7_' a_'=>Aq s k a c e u v t_' p_' h_' l_' r0_' r1_' r2_' r3_' r4_' r5_' r6_' r7_' a_'∧lx (5,0,0) (10,0,0)) (λa_'=>AX s k a c e u v a_'∧lx (11,0,0) (10,0,0)) (λt_' p_' h_' l_' r0_' r1_' r2_' r3_' r4_' r5_' r6_' r7_' a_'=>Ap s k a c e u v t_' p_' h_' l_' r0_' r1_' r2_' r3_' r4_' r5_' r6_' r7_' a_'∧lx (10,0,0) (10,0,0)) (λr__=>r__=(Ac s k a c e u v)) (λt_ p_ h_ l_ x0_ x1_ x2_ x3_ x4_ x5_ x6_ x7_ r_=>BG ⟨t_,p_,h_,l_,x0_,x1_,x2_,x3_,x4_,x5_,x6_,x7_⟩ ((Ac s k a c e u v).1)∧r_=(Ac s k a c e u v).2):=by
 unfold Ap at hI
 unfold SE
 try unfold AQ
 try unfold AC
 try unfold AU
 try unfold AL
 try unfold AV
 try unfold AO
 try unfold Aq
 try unfold AX
 try unfold Ap
 obtain ⟨rfl,rfl,rfl,_,_,hA,rfl⟩:=hI
 refine ⟨by decide, λ_=>?_⟩
 have key:Ac ⟨t_,p_,h_,l_,r0_,r1_,r2_,r3_,r4_,r5_,r6_,r7_⟩ 5 1 c 0 u v=(EE ⟨t_,p_,h_,l_,r0_,r1_,r2_,r3_,r4_,r5_,r6_,r7_⟩ 5 1 c u v,true):=by unfold Ac;rw [hA];rfl
 refine ⟨?_,?_⟩
 ·show _=(Ac ⟨t_,p_,h_,l_,r0_,r1_,r2_,r3_,r4_,r5_,r6_,r7_⟩ 5 1 c 0 u v).1
  rw [key];rfl
 ·show _=(Ac ⟨t_,p_,h_,l_,r0_,r1_,r2_,r3_,r4_,r5_,r6_,r7_⟩ 5 1 c 0 u v).2
  rw [key]
theorem Yp (s:MS) (k a c e u v:Int) (hp0:BC s.l) (t_ p_ h_:Int) (l_:List (Int×Int)) (r0_ r1_ r2_ r3_ r4_ r5_ r6_ r7_:Int) (hI:Ap s k a c e u v t_ p_ h_ l_ r0_ r1_ r2_ r3_ r4_ r5_ r6_ r7_ (2:Int)):SG s k a c e u v t_ p_ h_ l_ r0_ r1_ r2_ r3_ r4_ r5_ r6_ r7_ (λk_'=>AQ s k a c e u v k_'∧lx (11,0,0) (10,0,0)) (λt_' p_' h_' l_' r0_' r1_' r2_' r3_' r4_' r5_' r6_' r7_' k_'=>AC s k a c e u v t_' p_' h_' l_' r0_' r1_' r2_' r3_' r4_' r5_' r6_' r7_' k_'∧lx (10,0,0) (10,0,0)) (λy_' z_'=>AU s k a c e u v y_' z_'∧lx (11,0,0) (10,0,0)) (λt_' p_' h_' l_' r0_' r1_' r2_' r3_' r4_' r5_' r6_' r7_' y_' z_'=>AL s k a c e u v t_' p_' h_' l_' r0_' r1_' r2_' r3_' r4_' r5_' r6_' r7_' y_' z_'∧lx (10,0,0) (10,0,0)) (λk_'=>AV s k a c e u v k_'∧lx (11,0,0) (10,0,0)) (λt_' p_' h_' l_' r0_' r1_' r2_' r3_' r4_' r5_' r6_' r7_' k_'=>AO s k a c e u v t_' p_' h_' l_' r0_' r1_' r2_' r3_' r4_' r5_' r6_' r7_' k_'∧lx (10,0,0) (10,0,0)) (λt_' p_' h_' l_' r0_' r1_' r2_' r3_' r4_' r5_' r6_' r7_' a_'=>Aq s k a c e u v t_' p_' h_' l_' r0_' r1_' r2_' r3_' r4_' r5_' r6_' r7_' a_'∧lx (5,0,0) (10,0,0)) (λa_'=>AX s k a c e u v a_'∧lx (11,0,0) (10,0,0)) (λt_' p_' h_' l_' r0_' r1_' r2_' r3_' r4_' r5_' r6_' r7_' a_'=>Ap s k a c e u v t_' p_' h_' l_' r0_' r1_' r2_' r3_' r4_' r5_' r6_' r7_' a_'∧lx (10,0,0) (10,0,0)) (λr__=>r__=(Ac s k a c e u v)) (λt_ p_ h_ l_ x0_ x1_ x2_ x3_ x4_ x5_ x6_ x7_ r_=>BG ⟨t_,p_,h_,l_,x0_,x1_,x2_,x3_,x4_,x5_,x6_,x7_⟩ ((Ac s k a c e u v).1)∧r_=(Ac s k a c e u v).2):=by
 unfold Ap at hI
 unfold SG
 try unfold AQ
 try unfold AC
 try unfold AU
 try unfold AL
 try unfold AV
 try unfold AO
 try unfold Aq
 try unfold AX
 try unfold Ap
 obtain ⟨rfl,rfl,rfl,_,_,hA,rfl⟩:=hI
 refine ⟨by decide, λ_=>?_⟩
 have key:Ac ⟨t_,p_,h_,l_,r0_,r1_,r2_,r3_,r4_,r5_,r6_,r7_⟩ 5 2 c 0 u v=(EE ⟨t_,p_,h_,l_,r0_,r1_,r2_,r3_,r4_,r5_,r6_,r7_⟩ 5 2 c u v,true):=by unfold Ac;rw [hA];rfl
 refine ⟨?_,?_⟩
 ·show _=(Ac ⟨t_,p_,h_,l_,r0_,r1_,r2_,r3_,r4_,r5_,r6_,r7_⟩ 5 2 c 0 u v).1
  rw [key];rfl
 ·show _=(Ac ⟨t_,p_,h_,l_,r0_,r1_,r2_,r3_,r4_,r5_,r6_,r7_⟩ 5 2 c 0 u v).2
  rw [key]
theorem Yq (s:MS) (k a c e u v:Int) (hp0:BC s.l) (t_ p_ h_:Int) (l_:List (Int×Int)) (r0_ r1_ r2_ r3_ r4_ r5_ r6_ r7_:Int) (hI:Ap s k a c e u v t_ p_ h_ l_ r0_ r1_ r2_ r3_ r4_ r5_ r6_ r7_ (3:Int)):SH s k a c e u v t_ p_ h_ l_ r0_ r1_ r2_ r3_ r4_ r5_ r6_ r7_ (λk_'=>AQ s k a c e u v k_'∧lx (11,0,0) (10,0,0)) (λt_' p_' h_' l_' r0_' r1_' r2_' r3_' r4_' r5_' r6_' r7_' k_'=>AC s k a c e u v t_' p_' h_' l_' r0_' r1_' r2_' r3_' r4_' r5_' r6_' r7_' k_'∧lx (10,0,0) (10,0,0)) (λy_' z_'=>AU s k a c e u v y_' z_'∧lx (11,0,0) (10,0,0)) (λt_' p_' h_' l_' r0_' r1_' r2_' r3_' r4_' r5_' r6_' r7_' y_' z_'=>AL s k a c e u v t_' p_' h_' l_' r0_' r1_' r2_' r3_' r4_' r5_' r6_' r7_' y_' z_'∧lx (10,0,0) (10,0,0)) (λk_'=>AV s k a c e u v k_'∧lx (11,0,0) (10,0,0)) (λt_' p_' h_' l_' r0_' r1_' r2_' r3_' r4_' r5_' r6_' r7_' k_'=>AO s k a c e u v t_' p_' h_' l_' r0_' r1_' r2_' r3_' r4_' r5_' r6_' r7_' k_'∧lx (10,0,0) (10,0,0)) (λt_' p_' h_' l_' r0_' r1_' r2_' r3_' r4_' r5_' r6_' r7_' a_'=>Aq s k a c e u v t_' p_' h_' l_' r0_' r1_' r2_' r3_' r4_' r5_' r6_' r7_' a_'∧lx (5,0,0) (10,0,0)) (λa_'=>AX s k a c e u v a_'∧lx (11,0,0) (10,0,0)) (λt_' p_' h_' l_' r0_' r1_' r2_' r3_' r4_' r5_' r6_' r7_' a_'=>Ap s k a c e u v t_' p_' h_' l_' r0_' r1_' r2_' r3_' r4_' r5_' r6_' r7_' a_'∧lx (10,0,0) (10,0,0)) (λr__=>r__=(Ac s k a c e u v)) (λt_ p_ h_ l_ x0_ x1_ x2_ x3_ x4_ x5_ x6_ x7_ r_=>BG ⟨t_,p_,h_,l_,x0_,x1_,x2_,x3_,x4_,x5_,x6_,x7_⟩ ((Ac s k a c e u v).1)∧r_=(Ac s k a c e u v).2):=by
 unfold Ap at hI
 unfold SH
 try unfold AQ
 try unfold AC
 try unfold AU
 try unfold AL
 try unfold AV
 try unfold AO
 try unfold Aq
 try unfold AX
 try unfold Ap
 obtain ⟨rfl,rfl,rfl,_,_,hA,rfl⟩:=hI
 refine ⟨by decide, λ_=>?_⟩
 have key:Ac ⟨t_,p_,h_,l_,r0_,r1_,r2_,r3_,r4_,r5_,r6_,r7_⟩ 5 3 c 0 u v=(EE ⟨t_,p_,h_,l_,r0_,r1_,r2_,r3_,r4_,r5_,r6_,r7_⟩ 5 3 c u v,true):=by unfold Ac;rw [hA];rfl
 refine ⟨?_,?_⟩
 ·show _=(Ac ⟨t_,p_,h_,l_,r0_,r1_,r2_,r3_,r4_,r5_,r6_,r7_⟩ 5 3 c 0 u v).1
  rw [key];rfl
 ·show _=(Ac ⟨t_,p_,h_,l_,r0_,r1_,r2_,r3_,r4_,r5_,r6_,r7_⟩ 5 3 c 0 u v).2
  rw [key]
theorem Yr (s:MS) (k a c e u v:Int) (hp0:BC s.l) (t_ p_ h_:Int) (l_:List (Int×Int)) (r0_ r1_ r2_ r3_ r4_ r5_ r6_ r7_:Int) (hI:Ap s k a c e u v t_ p_ h_ l_ r0_ r1_ r2_ r3_ r4_ r5_ r6_ r7_ (4:Int)):SI s k a c e u v t_ p_ h_ l_ r0_ r1_ r2_ r3_ r4_ r5_ r6_ r7_ (λk_'=>AQ s k a c e u v k_'∧lx (11,0,0) (10,0,0)) (λt_' p_' h_' l_' r0_' r1_' r2_' r3_' r4_' r5_' r6_' r7_' k_'=>AC s k a c e u v t_' p_' h_' l_' r0_' r1_' r2_' r3_' r4_' r5_' r6_' r7_' k_'∧lx (10,0,0) (10,0,0)) (λy_' z_'=>AU s k a c e u v y_' z_'∧lx (11,0,0) (10,0,0)) (λt_' p_' h_' l_' r0_' r1_' r2_' r3_' r4_' r5_' r6_' r7_' y_' z_'=>AL s k a c e u v t_' p_' h_' l_' r0_' r1_' r2_' r3_' r4_' r5_' r6_' r7_' y_' z_'∧lx (10,0,0) (10,0,0)) (λk_'=>AV s k a c e u v k_'∧lx (11,0,0) (10,0,0)) (λt_' p_' h_' l_' r0_' r1_' r2_' r3_' r4_' r5_' r6_' r7_' k_'=>AO s k a c e u v t_' p_' h_' l_' r0_' r1_' r2_' r3_' r4_' r5_' r6_' r7_' k_'∧lx (10,0,0) (10,0,0)) (λt_' p_' h_' l_' r0_' r1_' r2_' r3_' r4_' r5_' r6_' r7_' a_'=>Aq s k a c e u v t_' p_' h_' l_' r0_' r1_' r2_' r3_' r4_' r5_' r6_' r7_' a_'∧lx (5,0,0) (10,0,0)) (λa_'=>AX s k a c e u v a_'∧lx (11,0,0) (10,0,0)) (λt_' p_' h_' l_' r0_' r1_' r2_' r3_' r4_' r5_' r6_' r7_' a_'=>Ap s k a c e u v t_' p_' h_' l_' r0_' r1_' r2_' r3_' r4_' r5_' r6_' r7_' a_'∧lx (10,0,0) (10,0,0)) (λr__=>r__=(Ac s k a c e u v)) (λt_ p_ h_ l_ x0_ x1_ x2_ x3_ x4_ x5_ x6_ x7_ r_=>BG ⟨t_,p_,h_,l_,x0_,x1_,x2_,x3_,x4_,x5_,x6_,x7_⟩ ((Ac s k a c e u v).1)∧r_=(Ac s k a c e u v).2):=by
 unfold Ap at hI
 unfold SI
 try unfold AQ
 try unfold AC
 try unfold AU
 try unfold AL
 try unfold AV
 try unfold AO
 try unfold Aq
 try unfold AX
 try unfold Ap
 obtain ⟨rfl,rfl,rfl,_,_,hA,rfl⟩:=hI
 refine ⟨by decide, λ_=>?_⟩
 have key:Ac ⟨t_,p_,h_,l_,r0_,r1_,r2_,r3_,r4_,r5_,r6_,r7_⟩ 5 4 c 0 u v=(EE ⟨t_,p_,h_,l_,r0_,r1_,r2_,r3_,r4_,r5_,r6_,r7_⟩ 5 4 c u v,true):=by unfold Ac;rw [hA];rfl
 refine ⟨?_,?_⟩
 ·show _=(Ac ⟨t_,p_,h_,l_,r0_,r1_,r2_,r3_,r4_,r5_,r6_,r7_⟩ 5 4 c 0 u v).1
  rw [key];rfl
 ·show _=(Ac ⟨t_,p_,h_,l_,r0_,r1_,r2_,r3_,r4_,r5_,r6_,r7_⟩ 5 4 c 0 u v).2
  rw [key]
theorem Yt (s:MS) (k a c e u v:Int) (hp0:BC s.l) (t_ p_ h_:Int) (l_:List (Int×Int)) (r0_ r1_ r2_ r3_ r4_ r5_ r6_ r7_:Int) (hI:Ap s k a c e u v t_ p_ h_ l_ r0_ r1_ r2_ r3_ r4_ r5_ r6_ r7_ (5:Int)):SK s k a c e u v t_ p_ h_ l_ r0_ r1_ r2_ r3_ r4_ r5_ r6_ r7_ (λk_'=>AQ s k a c e u v k_'∧lx (11,0,0) (10,0,0)) (λt_' p_' h_' l_' r0_' r1_' r2_' r3_' r4_' r5_' r6_' r7_' k_'=>AC s k a c e u v t_' p_' h_' l_' r0_' r1_' r2_' r3_' r4_' r5_' r6_' r7_' k_'∧lx (10,0,0) (10,0,0)) (λy_' z_'=>AU s k a c e u v y_' z_'∧lx (11,0,0) (10,0,0)) (λt_' p_' h_' l_' r0_' r1_' r2_' r3_' r4_' r5_' r6_' r7_' y_' z_'=>AL s k a c e u v t_' p_' h_' l_' r0_' r1_' r2_' r3_' r4_' r5_' r6_' r7_' y_' z_'∧lx (10,0,0) (10,0,0)) (λk_'=>AV s k a c e u v k_'∧lx (11,0,0) (10,0,0)) (λt_' p_' h_' l_' r0_' r1_' r2_' r3_' r4_' r5_' r6_' r7_' k_'=>AO s k a c e u v t_' p_' h_' l_' r0_' r1_' r2_' r3_' r4_' r5_' r6_' r7_' k_'∧lx (10,0,0) (10,0,0)) (λt_' p_' h_' l_' r0_' r1_' r2_' r3_' r4_' r5_' r6_' r7_' a_'=>Aq s k a c e u v t_' p_' h_' l_' r0_' r1_' r2_' r3_' r4_' r5_' r6_' r7_' a_'∧lx (5,0,0) (10,0,0)) (λa_'=>AX s k a c e u v a_'∧lx (11,0,0) (10,0,0)) (λt_' p_' h_' l_' r0_' r1_' r2_' r3_' r4_' r5_' r6_' r7_' a_'=>Ap s k a c e u v t_' p_' h_' l_' r0_' r1_' r2_' r3_' r4_' r5_' r6_' r7_' a_'∧lx (10,0,0) (10,0,0)) (λr__=>r__=(Ac s k a c e u v)) (λt_ p_ h_ l_ x0_ x1_ x2_ x3_ x4_ x5_ x6_ x7_ r_=>BG ⟨t_,p_,h_,l_,x0_,x1_,x2_,x3_,x4_,x5_,x6_,x7_⟩ ((Ac s k a c e u v).1)∧r_=(Ac s k a c e u v).2):=by
 unfold Ap at hI
 unfold SK
 try unfold AQ
 try unfold AC
 try unfold AU
 try unfold AL
 try unfold AV
 try unfold AO
 try unfold Aq
 try unfold AX
 try unfold Ap
 obtain ⟨rfl,rfl,rfl,_,_,hA,rfl⟩:=hI
 refine ⟨by decide, λ_=>?_⟩
 have key:Ac ⟨t_,p_,h_,l_,r0_,r1_,r2_,r3_,r4_,r5_,r6_,r7_⟩ 5 5 c 0 u v=(EE ⟨t_,p_,h_,l_,r0_,r1_,r2_,r3_,r4_,r5_,r6_,r7_⟩ 5 5 c u v,true):=by unfold Ac;rw [hA];rfl
 refine ⟨?_,?_⟩
 ·show _=(Ac ⟨t_,p_,h_,l_,r0_,r1_,r2_,r3_,r4_,r5_,r6_,r7_⟩ 5 5 c 0 u v).1
  rw [key];rfl
 ·show _=(Ac ⟨t_,p_,h_,l_,r0_,r1_,r2_,r3_,r4_,r5_,r6_,r7_⟩ 5 5 c 0 u v).2
  rw [key]
theorem Yu (s:MS) (k a c e u v:Int) (hp0:BC s.l) (t_ p_ h_:Int) (l_:List (Int×Int)) (r0_ r1_ r2_ r3_ r4_ r5_ r6_ r7_:Int) (hI:Ap s k a c e u v t_ p_ h_ l_ r0_ r1_ r2_ r3_ r4_ r5_ r6_ r7_ (6:Int)):SL s k a c e u v t_ p_ h_ l_ r0_ r1_ r2_ r3_ r4_ r5_ r6_ r7_ (λk_'=>AQ s k a c e u v k_'∧lx (11,0,0) (10,0,0)) (λt_' p_' h_' l_' r0_' r1_' r2_' r3_' r4_' r5_' r6_' r7_' k_'=>AC s k a c e u v t_' p_' h_' l_' r0_' r1_' r2_' r3_' r4_' r5_' r6_' r7_' k_'∧lx (10,0,0) (10,0,0)) (λy_' z_'=>AU s k a c e u v y_' z_'∧lx (11,0,0) (10,0,0)) (λt_' p_' h_' l_' r0_' r1_' r2_' r3_' r4_' r5_' r6_' r7_' y_' z_'=>AL s k a c e u v t_' p_' h_' l_' r0_' r1_' r2_' r3_' r4_' r5_' r6_' r7_' y_' z_'∧lx (10,0,0) (10,0,0)) (λk_'=>AV s k a c e u v k_'∧lx (11,0,0) (10,0,0)) (λt_' p_' h_' l_' r0_' r1_' r2_' r3_' r4_' r5_' r6_' r7_' k_'=>AO s k a c e u v t_' p_' h_' l_' r0_' r1_' r2_' r3_' r4_' r5_' r6_' r7_' k_'∧lx (10,0,0) (10,0,0)) (λt_' p_' h_' l_' r0_' r1_' r2_' r3_' r4_' r5_' r6_' r7_' a_'=>Aq s k a c e u v t_' p_' h_' l_' r0_' r1_' r2_' r3_' r4_' r5_' r6_' r7_' a_'∧lx (5,0,0) (10,0,0)) (λa_'=>AX s k a c e u v a_'∧lx (11,0,0) (10,0,0)) (λt_' p_' h_' l_' r0_' r1_' r2_' r3_' r4_' r5_' r6_' r7_' a_'=>Ap s k a c e u v t_' p_' h_' l_' r0_' r1_' r2_' r3_' r4_' r5_' r6_' r7_' a_'∧lx (10,0,0) (10,0,0)) (λr__=>r__=(Ac s k a c e u v)) (λt_ p_ h_ l_ x0_ x1_ x2_ x3_ x4_ x5_ x6_ x7_ r_=>BG ⟨t_,p_,h_,l_,x0_,x1_,x2_,x3_,x4_,x5_,x6_,x7_⟩ ((Ac s k a c e u v).1)∧r_=(Ac s k a c e u v).2):=by
 unfold Ap at hI
 unfold SL
 try unfold AQ
 try unfold AC
 try unfold AU
 try unfold AL
 try unfold AV
 try unfold AO
 try unfold Aq
 try unfold AX
 try unfold Ap
 obtain ⟨rfl,rfl,rfl,_,_,hA,rfl⟩:=hI
 refine ⟨by decide, λ_=>?_⟩
 have key:Ac ⟨t_,p_,h_,l_,r0_,r1_,r2_,r3_,r4_,r5_,r6_,r7_⟩ 5 6 c 0 u v=(EE ⟨t_,p_,h_,l_,r0_,r1_,r2_,r3_,r4_,r5_,r6_,r7_⟩ 5 6 c u v,true):=by unfold Ac;rw [hA];rfl
 refine ⟨?_,?_⟩
 ·show _=(Ac ⟨t_,p_,h_,l_,r0_,r1_,r2_,r3_,r4_,r5_,r6_,r7_⟩ 5 6 c 0 u v).1
  rw [key];rfl
 ·show _=(Ac ⟨t_,p_,h_,l_,r0_,r1_,r2_,r3_,r4_,r5_,r6_,r7_⟩ 5 6 c 0 u v).2
  rw [key]
theorem Yv (s:MS) (k a c e u v:Int) (hp0:BC s.l) (t_ p_ h_:Int) (l_:List (Int×Int)) (r0_ r1_ r2_ r3_ r4_ r5_ r6_ r7_:Int) (hI:Ap s k a c e u v t_ p_ h_ l_ r0_ r1_ r2_ r3_ r4_ r5_ r6_ r7_ (7:Int)):SN s k a c e u v t_ p_ h_ l_ r0_ r1_ r2_ r3_ r4_ r5_ r6_ r7_ (λk_'=>AQ s k a c e u v k_'∧lx (11,0,0) (10,0,0)) (λt_' p_' h_' l_' r0_' r1_' r2_' r3_' r4_' r5_' r6_' r7_' k_'=>AC s k a c e u v t_' p_' h_' l_' r0_' r1_' r2_' r3_' r4_' r5_' r6_' r7_' k_'∧lx (10,0,0) (10,0,0)) (λy_' z_'=>AU s k a c e u v y_' z_'∧lx (11,0,0) (10,0,0)) (λt_' p_' h_' l_' r0_' r1_' r2_' r3_' r4_' r5_' r6_' r7_' y_' z_'=>AL s k a c e u v t_' p_' h_' l_' r0_' r1_' r2_' r3_' r4_' r5_' r6_' r7_' y_' z_'∧lx (10,0,0) (10,0,0)) (λk_'=>AV s k a c e u v k_'∧lx (11,0,0) (10,0,0)) (λt_' p_' h_' l_' r0_' r1_' r2_' r3_' r4_' r5_' r6_' r7_' k_'=>AO s k a c e u v t_' p_' h_' l_' r0_' r1_' r2_' r3_' r4_' r5_' r6_' r7_' k_'∧lx (10,0,0) (10,0,0)) (λt_' p_' h_' l_' r0_' r1_' r2_' r3_' r4_' r5_' r6_' r7_' a_'=>Aq s k a c e u v t_' p_' h_' l_' r0_' r1_' r2_' r3_' r4_' r5_' r6_' r7_' a_'∧lx (5,0,0) (10,0,0)) (λa_'=>AX s k a c e u v a_'∧lx (11,0,0) (10,0,0)) (λt_' p_' h_' l_' r0_' r1_' r2_' r3_' r4_' r5_' r6_' r7_' a_'=>Ap s k a c e u v t_' p_' h_' l_' r0_' r1_' r2_' r3_' r4_' r5_' r6_' r7_' a_'∧lx (10,0,0) (10,0,0)) (λr__=>r__=(Ac s k a c e u v)) (λt_ p_ h_ l_ x0_ x1_ x2_ x3_ x4_ x5_ x6_ x7_ r_=>BG ⟨t_,p_,h_,l_,x0_,x1_,x2_,x3_,x4_,x5_,x6_,x7_⟩ ((Ac s k a c e u v).1)∧r_=(Ac s k a c e u v).2):=by
 unfold Ap at hI
 unfold SN
 try unfold AQ
 try unfold AC
 try unfold AU
 try unfold AL
 try unfold AV
 try unfold AO
 try unfold Aq
 try unfold AX
 try unfold Ap
 obtain ⟨rfl,rfl,rfl,_,_,hA,rfl⟩:=hI
 refine ⟨by decide, λ_=>?_⟩
 have key:Ac ⟨t_,p_,h_,l_,r0_,r1_,r2_,r3_,r4_,r5_,r6_,r7_⟩ 5 7 c 0 u v=(EE ⟨t_,p_,h_,l_,r0_,r1_,r2_,r3_,r4_,r5_,r6_,r7_⟩ 5 7 c u v,true):=by unfold Ac;rw [hA];rfl
 refine ⟨?_,?_⟩
 ·show _=(Ac ⟨t_,p_,h_,l_,r0_,r1_,r2_,r3_,r4_,r5_,r6_,r7_⟩ 5 7 c 0 u v).1
  rw [key];rfl
 ·show _=(Ac ⟨t_,p_,h_,l_,r0_,r1_,r2_,r3_,r4_,r5_,r6_,r7_⟩ 5 7 c 0 u v).2
  rw [key]
theorem AgD:EF 18 Abg:=
 GH Dg Fa false Vk (I:=[27218900,2533970900,380283474900,2796202578900,1789569618900,2999998]) Try.func18 mix (B:=Bg Try.f18) (by kernel_rfl) rfl (by kernel_rfl) 400
  λo s k a c e u v hb hp=>have hp0:BC s.l:=hp _ (.head _);⟨s,(Ac s k a c e u v).1,(Ac s k a c e u v).2,[⟨some 900,[0,1,0,1,0,1,1,1],[.blk 0, .code [1,1,1,1]],[0,4,5,20],[.objk Cc ⟨o,0,none⟩ (s), .box 29 [.ic .i64 (k), .ic .i64 (a), .ic .i64 (c)], .box 32 [.ic .i64 (e), .ic .i64 (u), .ic .i64 (v)], .i .i64]⟩,⟨some 900,[0,1,0,1,0,1,1,1],[.blk 0, .code [1,1,1,1]],[0,4,5,20],[.boxc o BQ.t BQ.l, .box 29 [.ic .i64 (k), .ic .i64 (a), .ic .i64 (c)], .box 32 [.ic .i64 (e), .ic .i64 (u), .ic .i64 (v)], .i .i64]⟩,⟨some 900,[1,0,1,1,1,0,1,0,1,1,1],[.blk 0, .code [1,1,1,1]],[0,4,5,7],[.objk Cc ⟨o,0,none⟩ (s), .box 29 [.ic .i64 (k), .ic .i64 (a), .ic .i64 (c)], .box 32 [.ic .i64 (e), .ic .i64 (u), .ic .i64 (v)], .box 55 [.i .i64, .i .i64]]⟩,⟨some 900,[1,0,1,1,1,0,1,0,1,1,1],[.blk 0, .code [1,1,1,1]],[0,4,5,7],[.boxc o BQ.t BQ.l, .box 29 [.ic .i64 (k), .ic .i64 (a), .ic .i64 (c)], .box 32 [.ic .i64 (e), .ic .i64 (u), .ic .i64 (v)], .box 55 [.i .i64, .i .i64]]⟩,⟨some 900,[0,0,1,1,1,1,1,1,1,0,1,0,1,1,1],[.code [1,0,1,1,1,1,1,1,1,0,1,0,1,1,1], .blk 0, .code [1,1,1,1]],[0,4,5,20],[.objk Cc ⟨o,0,none⟩ (s), .box 29 [.ic .i64 (k), .ic .i64 (a), .ic .i64 (c)], .box 32 [.ic .i64 (e), .ic .i64 (u), .ic .i64 (v)], .i .i64]⟩,⟨some 900,[0,0,1,1,1,1,1,1,1,0,1,0,1,1,1],[.code [1,0,1,1,1,1,1,1,1,0,1,0,1,1,1], .blk 0, .code [1,1,1,1]],[0,4,5,20],[.boxc o BQ.t BQ.l, .box 29 [.ic .i64 (k), .ic .i64 (a), .ic .i64 (c)], .box 32 [.ic .i64 (e), .ic .i64 (u), .ic .i64 (v)], .i .i64]⟩,⟨some 900,[1,1,0,1,1,1,1,1,1,1,0,1,0,1,1,1],[.blk 0, .code [1,1,1,1]],[0,4,5],[.boxc o BQ.t BQ.l, .box 29 [.ic .i64 (k), .i .i64, .ic .i64 (c)], .box 32 [.ic .i64 (e), .ic .i64 (u), .ic .i64 (v)]]⟩,⟨some 900,[0,1,1,1,1,1,1,1,1,1,0,1,0,1,1,1],[.blk 0, .code [1,1,1,1]],[0,4,5],[.objk Cc ⟨o,0,none⟩ (s), .box 29 [.ic .i64 (k), .i .i64, .ic .i64 (c)], .box 32 [.ic .i64 (e), .ic .i64 (u), .ic .i64 (v)]]⟩,⟨some 900,[0,1,1,1,1,1,1,1,1,1,0,1,0,1,1,1],[.blk 0, .code [1,1,1,1]],[0,4,5],[.boxc o BQ.t BQ.l, .box 29 [.ic .i64 (k), .i .i64, .ic .i64 (c)], .box 32 [.ic .i64 (e), .ic .i64 (u), .ic .i64 (v)]]⟩],[.opn 0 (λ_=>o) 1, .run, .opn 0 (λ_=>o) 3, .run, .opn 0 (λ_=>o) 5, .run, .run, .opn 0 (λ_=>o) 8, .run], λj=>iN [AA (Hd.kd (⟨some 900,[0,1,0,1,0,1,1,1],[.blk 0, .code [1,1,1,1]],[0,4,5,20],[.objk Cc ⟨o,0,none⟩ (s), .box 29 [.ic .i64 (k), .ic .i64 (a), .ic .i64 (c)], .box 32 [.ic .i64 (e), .ic .i64 (u), .ic .i64 (v)], .i .i64]⟩:Hd Sg)) (λk_'=>AQ s k a c e u v k_'),AA (Hd.kd (⟨some 900,[0,1,0,1,0,1,1,1],[.blk 0, .code [1,1,1,1]],[0,4,5,20],[.boxc o BQ.t BQ.l, .box 29 [.ic .i64 (k), .ic .i64 (a), .ic .i64 (c)], .box 32 [.ic .i64 (e), .ic .i64 (u), .ic .i64 (v)], .i .i64]⟩:Hd Sg)) (λt_' p_' h_' l_' r0_' r1_' r2_' r3_' r4_' r5_' r6_' r7_' k_'=>AC s k a c e u v t_' p_' h_' l_' r0_' r1_' r2_' r3_' r4_' r5_' r6_' r7_' k_'),AA (Hd.kd (⟨some 900,[1,0,1,1,1,0,1,0,1,1,1],[.blk 0, .code [1,1,1,1]],[0,4,5,7],[.objk Cc ⟨o,0,none⟩ (s), .box 29 [.ic .i64 (k), .ic .i64 (a), .ic .i64 (c)], .box 32 [.ic .i64 (e), .ic .i64 (u), .ic .i64 (v)], .box 55 [.i .i64, .i .i64]]⟩:Hd Sg)) (λy_' z_'=>AU s k a c e u v y_' z_'),AA (Hd.kd (⟨some 900,[1,0,1,1,1,0,1,0,1,1,1],[.blk 0, .code [1,1,1,1]],[0,4,5,7],[.boxc o BQ.t BQ.l, .box 29 [.ic .i64 (k), .ic .i64 (a), .ic .i64 (c)], .box 32 [.ic .i64 (e), .ic .i64 (u), .ic .i64 (v)], .box 55 [.i .i64, .i .i64]]⟩:Hd Sg)) (λt_' p_' h_' l_' r0_' r1_' r2_' r3_' r4_' r5_' r6_' r7_' y_' z_'=>AL s k a c e u v t_' p_' h_' l_' r0_' r1_' r2_' r3_' r4_' r5_' r6_' r7_' y_' z_'),AA (Hd.kd (⟨some 900,[0,0,1,1,1,1,1,1,1,0,1,0,1,1,1],[.code [1,0,1,1,1,1,1,1,1,0,1,0,1,1,1], .blk 0, .code [1,1,1,1]],[0,4,5,20],[.objk Cc ⟨o,0,none⟩ (s), .box 29 [.ic .i64 (k), .ic .i64 (a), .ic .i64 (c)], .box 32 [.ic .i64 (e), .ic .i64 (u), .ic .i64 (v)], .i .i64]⟩:Hd Sg)) (λk_'=>AV s k a c e u v k_'),AA (Hd.kd (⟨some 900,[0,0,1,1,1,1,1,1,1,0,1,0,1,1,1],[.code [1,0,1,1,1,1,1,1,1,0,1,0,1,1,1], .blk 0, .code [1,1,1,1]],[0,4,5,20],[.boxc o BQ.t BQ.l, .box 29 [.ic .i64 (k), .ic .i64 (a), .ic .i64 (c)], .box 32 [.ic .i64 (e), .ic .i64 (u), .ic .i64 (v)], .i .i64]⟩:Hd Sg)) (λt_' p_' h_' l_' r0_' r1_' r2_' r3_' r4_' r5_' r6_' r7_' k_'=>AO s k a c e u v t_' p_' h_' l_' r0_' r1_' r2_' r3_' r4_' r5_' r6_' r7_' k_'),AA (Hd.kd (⟨some 900,[1,1,0,1,1,1,1,1,1,1,0,1,0,1,1,1],[.blk 0, .code [1,1,1,1]],[0,4,5],[.boxc o BQ.t BQ.l, .box 29 [.ic .i64 (k), .i .i64, .ic .i64 (c)], .box 32 [.ic .i64 (e), .ic .i64 (u), .ic .i64 (v)]]⟩:Hd Sg)) (λt_' p_' h_' l_' r0_' r1_' r2_' r3_' r4_' r5_' r6_' r7_' a_'=>Aq s k a c e u v t_' p_' h_' l_' r0_' r1_' r2_' r3_' r4_' r5_' r6_' r7_' a_'),AA (Hd.kd (⟨some 900,[0,1,1,1,1,1,1,1,1,1,0,1,0,1,1,1],[.blk 0, .code [1,1,1,1]],[0,4,5],[.objk Cc ⟨o,0,none⟩ (s), .box 29 [.ic .i64 (k), .i .i64, .ic .i64 (c)], .box 32 [.ic .i64 (e), .ic .i64 (u), .ic .i64 (v)]]⟩:Hd Sg)) (λa_'=>AX s k a c e u v a_'),AA (Hd.kd (⟨some 900,[0,1,1,1,1,1,1,1,1,1,0,1,0,1,1,1],[.blk 0, .code [1,1,1,1]],[0,4,5],[.boxc o BQ.t BQ.l, .box 29 [.ic .i64 (k), .i .i64, .ic .i64 (c)], .box 32 [.ic .i64 (e), .ic .i64 (u), .ic .i64 (v)]]⟩:Hd Sg)) (λt_' p_' h_' l_' r0_' r1_' r2_' r3_' r4_' r5_' r6_' r7_' a_'=>Ap s k a c e u v t_' p_' h_' l_' r0_' r1_' r2_' r3_' r4_' r5_' r6_' r7_' a_')] j (λ_=>False), λj=>iN [AA (Hd.kd (⟨some 900,[0,1,0,1,0,1,1,1],[.blk 0, .code [1,1,1,1]],[0,4,5,20],[.objk Cc ⟨o,0,none⟩ (s), .box 29 [.ic .i64 (k), .ic .i64 (a), .ic .i64 (c)], .box 32 [.ic .i64 (e), .ic .i64 (u), .ic .i64 (v)], .i .i64]⟩:Hd Sg)) (λk_'=>(11,0,0)),AA (Hd.kd (⟨some 900,[0,1,0,1,0,1,1,1],[.blk 0, .code [1,1,1,1]],[0,4,5,20],[.boxc o BQ.t BQ.l, .box 29 [.ic .i64 (k), .ic .i64 (a), .ic .i64 (c)], .box 32 [.ic .i64 (e), .ic .i64 (u), .ic .i64 (v)], .i .i64]⟩:Hd Sg)) (λt_' p_' h_' l_' r0_' r1_' r2_' r3_' r4_' r5_' r6_' r7_' k_'=>(10,0,0)),AA (Hd.kd (⟨some 900,[1,0,1,1,1,0,1,0,1,1,1],[.blk 0, .code [1,1,1,1]],[0,4,5,7],[.objk Cc ⟨o,0,none⟩ (s), .box 29 [.ic .i64 (k), .ic .i64 (a), .ic .i64 (c)], .box 32 [.ic .i64 (e), .ic .i64 (u), .ic .i64 (v)], .box 55 [.i .i64, .i .i64]]⟩:Hd Sg)) (λy_' z_'=>(11,0,0)),AA (Hd.kd (⟨some 900,[1,0,1,1,1,0,1,0,1,1,1],[.blk 0, .code [1,1,1,1]],[0,4,5,7],[.boxc o BQ.t BQ.l, .box 29 [.ic .i64 (k), .ic .i64 (a), .ic .i64 (c)], .box 32 [.ic .i64 (e), .ic .i64 (u), .ic .i64 (v)], .box 55 [.i .i64, .i .i64]]⟩:Hd Sg)) (λt_' p_' h_' l_' r0_' r1_' r2_' r3_' r4_' r5_' r6_' r7_' y_' z_'=>(10,0,0)),AA (Hd.kd (⟨some 900,[0,0,1,1,1,1,1,1,1,0,1,0,1,1,1],[.code [1,0,1,1,1,1,1,1,1,0,1,0,1,1,1], .blk 0, .code [1,1,1,1]],[0,4,5,20],[.objk Cc ⟨o,0,none⟩ (s), .box 29 [.ic .i64 (k), .ic .i64 (a), .ic .i64 (c)], .box 32 [.ic .i64 (e), .ic .i64 (u), .ic .i64 (v)], .i .i64]⟩:Hd Sg)) (λk_'=>(11,0,0)),AA (Hd.kd (⟨some 900,[0,0,1,1,1,1,1,1,1,0,1,0,1,1,1],[.code [1,0,1,1,1,1,1,1,1,0,1,0,1,1,1], .blk 0, .code [1,1,1,1]],[0,4,5,20],[.boxc o BQ.t BQ.l, .box 29 [.ic .i64 (k), .ic .i64 (a), .ic .i64 (c)], .box 32 [.ic .i64 (e), .ic .i64 (u), .ic .i64 (v)], .i .i64]⟩:Hd Sg)) (λt_' p_' h_' l_' r0_' r1_' r2_' r3_' r4_' r5_' r6_' r7_' k_'=>(10,0,0)),AA (Hd.kd (⟨some 900,[1,1,0,1,1,1,1,1,1,1,0,1,0,1,1,1],[.blk 0, .code [1,1,1,1]],[0,4,5],[.boxc o BQ.t BQ.l, .box 29 [.ic .i64 (k), .i .i64, .ic .i64 (c)], .box 32 [.ic .i64 (e), .ic .i64 (u), .ic .i64 (v)]]⟩:Hd Sg)) (λt_' p_' h_' l_' r0_' r1_' r2_' r3_' r4_' r5_' r6_' r7_' a_'=>(5,0,0)),AA (Hd.kd (⟨some 900,[0,1,1,1,1,1,1,1,1,1,0,1,0,1,1,1],[.blk 0, .code [1,1,1,1]],[0,4,5],[.objk Cc ⟨o,0,none⟩ (s), .box 29 [.ic .i64 (k), .i .i64, .ic .i64 (c)], .box 32 [.ic .i64 (e), .ic .i64 (u), .ic .i64 (v)]]⟩:Hd Sg)) (λa_'=>(11,0,0)),AA (Hd.kd (⟨some 900,[0,1,1,1,1,1,1,1,1,1,0,1,0,1,1,1],[.blk 0, .code [1,1,1,1]],[0,4,5],[.boxc o BQ.t BQ.l, .box 29 [.ic .i64 (k), .i .i64, .ic .i64 (c)], .box 32 [.ic .i64 (e), .ic .i64 (u), .ic .i64 (v)]]⟩:Hd Sg)) (λt_' p_' h_' l_' r0_' r1_' r2_' r3_' r4_' r5_' r6_' r7_' a_'=>(10,0,0))] j (λ_=>(0,0,0)),by kernel_rfl, λ_ _=>by kernel_rfl,by kernel_rfl,⟨_, λ_ _ _=>by kernel_rfl,AbO s k a c e u v hp0⟩,⟨λk_ hI=>⟨s, λ_=>by kernel_rfl, λt_ p_ h_ l_ x0_ x1_ x2_ x3_ x4_ x5_ x6_ x7_ hx=>⟨_, λ_ _=>by kernel_rfl,AbP s k a c e u v hp0 k_ t_ p_ h_ l_ x0_ x1_ x2_ x3_ x4_ x5_ x6_ x7_ hI hx⟩⟩,⟨λt_ p_ h_ l_ r0_ r1_ r2_ r3_ r4_ r5_ r6_ r7_ k_ hI=>⟨_, λ_ _ _=>by kernel_rfl,AbQ s k a c e u v hp0 t_ p_ h_ l_ r0_ r1_ r2_ r3_ r4_ r5_ r6_ r7_ k_ hI⟩,⟨λy_ z_ hI=>⟨s, λ_=>by kernel_rfl, λt_ p_ h_ l_ x0_ x1_ x2_ x3_ x4_ x5_ x6_ x7_ hx=>⟨_, λ_ _=>by kernel_rfl,AbR s k a c e u v hp0 y_ z_ t_ p_ h_ l_ x0_ x1_ x2_ x3_ x4_ x5_ x6_ x7_ hI hx⟩⟩,⟨λt_ p_ h_ l_ r0_ r1_ r2_ r3_ r4_ r5_ r6_ r7_ y_ z_ hI=>⟨_, λ_ _ _=>by kernel_rfl,AbS s k a c e u v hp0 t_ p_ h_ l_ r0_ r1_ r2_ r3_ r4_ r5_ r6_ r7_ y_ z_ hI⟩,⟨λk_ hI=>⟨s, λ_=>by kernel_rfl, λt_ p_ h_ l_ x0_ x1_ x2_ x3_ x4_ x5_ x6_ x7_ hx=>⟨_, λ_ _=>by kernel_rfl,AbT s k a c e u v hp0 k_ t_ p_ h_ l_ x0_ x1_ x2_ x3_ x4_ x5_ x6_ x7_ hI hx⟩⟩,⟨λt_ p_ h_ l_ r0_ r1_ r2_ r3_ r4_ r5_ r6_ r7_ k_ hI=>⟨_, λ_ _ _=>by kernel_rfl,AbU s k a c e u v hp0 t_ p_ h_ l_ r0_ r1_ r2_ r3_ r4_ r5_ r6_ r7_ k_ hI⟩,⟨λt_ p_ h_ l_ r0_ r1_ r2_ r3_ r4_ r5_ r6_ r7_ a_ hI=>(by
   rcases Afa s k a c e u v hp0 t_ p_ h_ l_ r0_ r1_ r2_ r3_ r4_ r5_ r6_ r7_ a_ hI with rfl|rfl|rfl|rfl|rfl|rfl|rfl|rfl
   ·exact ⟨_, λ_ _ _=>by kernel_rfl,Ye s k a c e u v hp0 t_ p_ h_ l_ r0_ r1_ r2_ r3_ r4_ r5_ r6_ r7_ hI⟩
   ·exact ⟨_, λ_ _ _=>by kernel_rfl,Yg s k a c e u v hp0 t_ p_ h_ l_ r0_ r1_ r2_ r3_ r4_ r5_ r6_ r7_ hI⟩
   ·exact ⟨_, λ_ _ _=>by kernel_rfl,Yh s k a c e u v hp0 t_ p_ h_ l_ r0_ r1_ r2_ r3_ r4_ r5_ r6_ r7_ hI⟩
   ·exact ⟨_, λ_ _ _=>by kernel_rfl,Yi s k a c e u v hp0 t_ p_ h_ l_ r0_ r1_ r2_ r3_ r4_ r5_ r6_ r7_ hI⟩
   ·exact ⟨_, λ_ _ _=>by kernel_rfl,Yj s k a c e u v hp0 t_ p_ h_ l_ r0_ r1_ r2_ r3_ r4_ r5_ r6_ r7_ hI⟩
   ·exact ⟨_, λ_ _ _=>by kernel_rfl,Yk s k a c e u v hp0 t_ p_ h_ l_ r0_ r1_ r2_ r3_ r4_ r5_ r6_ r7_ hI⟩
   ·exact ⟨_, λ_ _ _=>by kernel_rfl,Yl s k a c e u v hp0 t_ p_ h_ l_ r0_ r1_ r2_ r3_ r4_ r5_ r6_ r7_ hI⟩
   ·exact ⟨_, λ_ _ _=>by kernel_rfl,Ym s k a c e u v hp0 t_ p_ h_ l_ r0_ r1_ r2_ r3_ r4_ r5_ r6_ r7_ hI⟩),⟨λa_ hI=>⟨s, λ_=>by kernel_rfl, λt_ p_ h_ l_ x0_ x1_ x2_ x3_ x4_ x5_ x6_ x7_ hx=>⟨_, λ_ _=>by kernel_rfl,AbV s k a c e u v hp0 a_ t_ p_ h_ l_ x0_ x1_ x2_ x3_ x4_ x5_ x6_ x7_ hI hx⟩⟩,⟨λt_ p_ h_ l_ r0_ r1_ r2_ r3_ r4_ r5_ r6_ r7_ a_ hI=>(by
   rcases Afb s k a c e u v hp0 t_ p_ h_ l_ r0_ r1_ r2_ r3_ r4_ r5_ r6_ r7_ a_ hI with rfl|rfl|rfl|rfl|rfl|rfl|rfl|rfl
   ·exact ⟨_, λ_ _ _=>by kernel_rfl,Yn s k a c e u v hp0 t_ p_ h_ l_ r0_ r1_ r2_ r3_ r4_ r5_ r6_ r7_ hI⟩
   ·exact ⟨_, λ_ _ _=>by kernel_rfl,Yo s k a c e u v hp0 t_ p_ h_ l_ r0_ r1_ r2_ r3_ r4_ r5_ r6_ r7_ hI⟩
   ·exact ⟨_, λ_ _ _=>by kernel_rfl,Yp s k a c e u v hp0 t_ p_ h_ l_ r0_ r1_ r2_ r3_ r4_ r5_ r6_ r7_ hI⟩
   ·exact ⟨_, λ_ _ _=>by kernel_rfl,Yq s k a c e u v hp0 t_ p_ h_ l_ r0_ r1_ r2_ r3_ r4_ r5_ r6_ r7_ hI⟩
   ·exact ⟨_, λ_ _ _=>by kernel_rfl,Yr s k a c e u v hp0 t_ p_ h_ l_ r0_ r1_ r2_ r3_ r4_ r5_ r6_ r7_ hI⟩
   ·exact ⟨_, λ_ _ _=>by kernel_rfl,Yt s k a c e u v hp0 t_ p_ h_ l_ r0_ r1_ r2_ r3_ r4_ r5_ r6_ r7_ hI⟩
   ·exact ⟨_, λ_ _ _=>by kernel_rfl,Yu s k a c e u v hp0 t_ p_ h_ l_ r0_ r1_ r2_ r3_ r4_ r5_ r6_ r7_ hI⟩
   ·exact ⟨_, λ_ _ _=>by kernel_rfl,Yv s k a c e u v hp0 t_ p_ h_ l_ r0_ r1_ r2_ r3_ r4_ r5_ r6_ r7_ hI⟩),trivial⟩⟩⟩⟩⟩⟩⟩⟩⟩⟩
def Abi:Tb:=(18,Abg)::AdY
theorem Aea:CQ Abi:=EO AgD Vk
end
section
open Go.Sl
def Jc (xs ys:LI):List (Int×Int):=xs.zip ys
theorem AfA {xs ys:LI} (hl:xs.length=ys.length):(Jc xs ys).length=xs.length:=by
 unfold Jc;rw [List.length_zip];omega
def AhN:Tb:=Abi
theorem AhO:CQ AhN:=Aea
end
section
open Go.Sl
def FT (l:LI) (g:Int):Int:=match l.findIdx? (· ==g) with
 |some i=>(i:Int)
 |none=> -1
def AiV (t p h:Int):Int:=iL .i64 (CZ t p h*iL .i64 (p+1))
def inR (t p h a z:Int):Bool:=decide (z≥1)&&decide (a≥CZ t p h)&&decide (a≤AiV t p h)&&decide (z≤iL .i64 (AiV t p h-a))
def fcR (s:RS) (a z w:Int) (j:Nat):Bool:=((j:Int) !=w&&decide (s.a.getD j 0<iL .i64 (a+z)))&&decide (a<iL .i64 (s.a.getD j 0+s.z.getD j 0))
def frR (s:RS) (a z w:Int):Bool:=inR s.t s.p s.h a z&&(jX s.a.length).all λj=>!fcR s a z w j
def insL:List (Int×Int)→Int×Int→List (Int×Int)
 |[],b=>[b]
 |x::r,b=>bif decide (x.1>b.1) then b::x::r else x::insL r b
def P6 (s:RS) (a z:Int):RS:=⟨s.t,s.p,s.h,(insL (Jc s.a s.z) (a,z)).map (·.1),(insL (Jc s.a s.z) (a,z)).map (·.2),s.r0,s.r1,s.r2,s.r3,s.r4,s.r5,s.r6,s.r7⟩
def TN (s:RS) (k:Int):RS:=⟨s.t,s.p,s.h,s.a.eraseIdx k.toNat,s.z.eraseIdx k.toNat,s.r0,s.r1,s.r2,s.r3,s.r4,s.r5,s.r6,s.r7⟩
theorem Aeb (b:Int×Int):∀l:List (Int×Int),(insL l b).length=l.length+1
 |[]=>rfl
 |x::r=>by
  unfold insL
  cases decide (x.1>b.1) with
  |true=>rfl
  |false=>simp [Aeb b r]
theorem AiW {xs ys:LI} {x y:Int} (h:ys.length=xs.length):Jc (xs++[x]) (ys++[y])=Jc xs ys++[(x,y)]:=by
 unfold Jc;rw [List.zip_append h.symm];rfl
def AfB:Tb:=AhN
theorem AgE:CQ AfB:=AhO
def AhQ:Tb:=AfB
theorem AhR:CQ AhQ:=AgE
def Yw:Tb:=AhQ
theorem AbW:CQ Yw:=AhR
def Aec:Tb:=Yw
theorem Afc:CQ Aec:=AbW
def Yx (s:RS) (g:Int):Bool:=[s.r0,s.r1,s.r2,s.r3,s.r4,s.r5,s.r6,s.r7].any (· ==g)
def Aed:Tb:=Aec
theorem Afd:CQ Aed:=Afc
def Aee:Tb:=Aed
theorem Afe:CQ Aee:=Afd
def AfC:Tb:=Aee
theorem AgF:CQ AfC:=Afe
end
section
open Go.Sl
def rrR (s:RS) (i:Int):Int:=[s.r0,s.r1,s.r2,s.r3,s.r4,s.r5,s.r6,s.r7].getD i.toNat 0
def IK (s:RS) (g e u v w:Int):Bool:=bif !(DX s.t s.p s.h g).2 then CG 2 e u v else CG 3 e u v||(e==0&&frR s u (DX s.t s.p s.h g).1 w)
def Aeg:Tb:=AfC
theorem Aff:CQ Aeg:=AgF
def AiX (s:RS) (k a c e u v:Int):Bool:=bif decide (a<0)||decide (a>7) then CG 5 e u v else bif k==4 then IK s c e u v (-1)&&Gi e u v (rrR s a) else bif k==5 then (bif c !=0&&decide (FT s.a c<0) then CG 4 e u v else FB e u v c (rrR s a)) else FB e u v (rrR s a) 0
def Yy:Tb:=Aeg
theorem AbX:CQ Yy:=Aff
end
section
open Go.Sl
def gR (s:RS) (k a:Int):Bool:=(k==2||k==3||k==7)&&decide (FT s.a a<0)
def AlB (s:RS) (k a c e u v:Int):Bool:=
 bif k==1 then IK s a e u v (-1)&&Gi e u v (DX s.t s.p s.h a).1
 else bif k==2 then (bif Yx s a then CG 6 e u v else FB e u v (s.z.getD (FT s.a a).toNat 0) 0)
 else bif k==3 then (bif u==a then IK s c e u v (FT s.a a)&&Gi e u v (DX s.t s.p s.h c).1 else IK s c e u v (-1)&&Gi e u v (DX s.t s.p s.h c).1)
 else bif k==7 then FB e u v (s.z.getD (FT s.a a).toNat 0) 0
 else bif k==8 then e==0&&decide (u≥0)&&decide (u≤s.p)&&v==(s.a.length:Int)
 else bif k==9 then (bif decide (a<0)||decide (a>8) then CG 7 e u v else e==0&&decide (u≥0)&&decide (u≤4)&&v==0)
 else AiX s k a c e u v
def VW (s:RS) (k a c e u v:Int):Bool:=bif !GR k a c then CG 1 e u v else bif gR s k a then CG 4 e u v else AlB s k a c e u v
def Yz:Tb:=Yy
theorem AbY:CQ Yz:=AbX
end
section
open Go.Sl
def mvR (s:RS) (f g i:Int):RS:=⟨s.t,s.p,s.h,s.a,s.z,Fj s.r0 f g i 0,Fj s.r1 f g i 1,Fj s.r2 f g i 2,Fj s.r3 f g i 3,Fj s.r4 f g i 4,Fj s.r5 f g i 5,Fj s.r6 f g i 6,Fj s.r7 f g i 7⟩
def Y1 (s:RS) (i x:Int):RS:=⟨s.t,s.p,s.h,s.a,s.z,(bif i==0 then x else s.r0),(bif i==1 then x else s.r1),(bif i==2 then x else s.r2),(bif i==3 then x else s.r3),(bif i==4 then x else s.r4),(bif i==5 then x else s.r5),(bif i==6 then x else s.r6),(bif i==7 then x else s.r7)⟩
def AkY (s:RS) (k a c u v:Int):RS:=bif k==1 then P6 s u v else bif k==2 then TN s (FT s.a a) else bif k==3 then mvR (P6 (TN s (FT s.a a)) u v) a u 8 else bif k==4 then Y1 (P6 s u (DX s.t s.p s.h c).1) a u else bif k==5 then Y1 s a c else s
def AfD (s:RS) (k a c e u v:Int):RS×Bool:=bif !VW s k a c e u v then (s,false) else bif e !=0 then (s,true) else (AkY s k a c u v,true)
def Abj:Tb:=Yz
theorem Aeh:CQ Abj:=AbY
end
section
open Go.Sl
def Bz (l:List (Int×Int)):List (Int×Int):=l.foldl insL []
theorem AhS (l:List (Int×Int)) (x:Int×Int):Bz (l++[x])=insL (Bz l) x:=by unfold Bz;rw [List.foldl_append];rfl
theorem Aei (l:List (Int×Int)):(Bz l).length=l.length:=by
 have key:∀(l a:List (Int×Int)),(l.foldl insL a).length=a.length+l.length:=by
  intro l
  induction l with
  |nil=>intro a;rfl
  |cons x l ih=>intro a;rw [List.foldl_cons,ih,Aeb,jI];omega
 unfold Bz;rw [key];simp
theorem Akg (l:List (Int×Int)):Jc (l.map (·.1)) (l.map (·.2))=l:=by
 unfold Jc
 induction l with
 |nil=>rfl
 |cons x l ih=>simp only [iC,mX,ih]
def AhT:Tb:=Abj
theorem AhU:CQ AhT:=Aeh
end
section
open Go Go.Sl
abbrev LL:=List (LI)
abbrev BB:=Int×Int
abbrev Yf:=LL→BB→LL
abbrev It:=Option (Nat×List BB×List BB)
def HY (A:LL→BN) (b:Nat) (l:List BB) (it:It) (q2:Addr) (bb:Nat) (st:LL):List (Chunk Sg):=[.bm b l it, .obj q2 (.any A st), .cells bb 58 [(.map (some b), .pt 0 .map)]]
def kyN (A:LL→BN) (b:Nat) (l:List BB) (q2:Addr) (bb lr:Nat) (I:LL→List BB→Prop) (v0 v1:Value) (x:BB) (K:List (Chunk Sg)) (st:LL):Prop:=
 v0= .func (.yield lr) #[] #[]∧v1=D6 x∧∃i cu re,K=HY A b l (some (i,cu,re)) q2 bb st∧I st (x::re)
def MH (A:LL→BN) (b:Nat) (l:List BB) (q2:Addr) (bb lr:Nat) (I:LL→List BB→Prop) (yf:Yf):List (Value×Pr)→List (Chunk Sg)→Option (Tree Sg)
 |[(v0,_),(.agg ⟨[.int k1 x, .int k2 y]⟩,_)], .bm b' l' it':: .obj q3 (.any A' st)::c3::X=>some (.need (kyN A b l q2 bb lr I v0 (.agg ⟨[.int k1 x, .int k2 y]⟩) (x,y) [.bm b' l' it', .obj q3 (.any A' st),c3] st) (.bind (yf st (x,y)) λr=> .ret (.bool true) .no (.bm b' l' it':: .obj q3 (.any A' r)::c3::X.map λ_=> .dead)))
 |_,_=>none
def kyL (lr bb i:Nat):List Af:=[⟨5,none, .pointer (some ⟨i,0,none⟩), .pt 0 .iter⟩,⟨0,none, .func (.yield lr) #[] #[], .no⟩,⟨1,none, .pointer (some ⟨bb,0,none⟩), .pt 2 (.cell 0)⟩]
theorem AiY (R':Value→Pr→List (Chunk Sg)→Prop) (S0:List Ab→Option Af→Option Af→Option Af→List (Chunk Sg)→Prop) (A:LL→BN) (b:Nat) (l:List BB) (q2:Addr) (bb lr:Nat) (I:LL→List BB→Prop) (yf:Yf) (st:LL):
 (Dp Try.prog He (MH A b l q2 bb lr I yf) [2999998,2999996] 60 (Bg Try.f69) Try.f69.results.toList Try.f69.ntmps [.code []] (Di 0 [(.func (.yield lr) #[] #[], .no),(.pointer (some ⟨bb,0,none⟩), .pt 2 (.cell 0))]) (HY A b l none q2 bb st)).holds R' (λtd L K=>S0 td (Sl.look L 5) (Sl.look L 0) (Sl.look L 1) K)=
 (∀b0_0:Nat,(S0 ([Ab.code [0,1],Ab.blk 0]) (some ⟨5,none,kB (some ⟨b0_0,0,none⟩),kZ 0 PK.iter⟩) (some ⟨0,none,lS (Fn.yield lr) ⟨[]⟩ ⟨[]⟩,kE⟩) (some ⟨1,none,kB (some ⟨bb,0,none⟩),kZ 2 (nJ 0)⟩) ([kQ b l (some (b0_0,[],l)),kL q2 (Sg.any A st),jG bb 58 [(kW (some b),kZ 0 mH)]]))):=by
 kernel_rfl
theorem AfE (R':Value→Pr→List (Chunk Sg)→Prop) (S0:List Ab→Option Af→Option Af→Option Af→List (Chunk Sg)→Prop) (A:LL→BN) (b:Nat) (l:List BB) (q2:Addr) (bb lr i:Nat) (I:LL→List BB→Prop) (yf:Yf) (cu re:List BB) (st:LL):
 (Dp Try.prog He (MH A b l q2 bb lr I yf) [2999998,2999996] 60 (Bg Try.f69) Try.f69.results.toList Try.f69.ntmps [.code [0,0,1], .again [0,1], .blk 0] (kyL lr bb i) (HY A b l (some (i,cu,re)) q2 bb st)).holds R' (λtd L K=>S0 td (Sl.look L 5) (Sl.look L 0) (Sl.look L 1) K)=
 (Bo (NC re) (Bo (false) (A8 (OI cu=true) (∀b3_0:Nat,(A8 (kyN A b l q2 bb lr I (lS (Fn.yield lr) ⟨[]⟩ ⟨[]⟩) (Value.agg ⟨[iX iB (kR (hdB cu)),iX iB (mA (hdB cu))]⟩) (kR (hdB cu),mA (hdB cu)) [kQ b l (some (i,cu,re)),kL q2 (Sg.any A st),jG bb 58 [(kW (some b),kZ 0 mH)]] st) (∀r5:List (LI),r5=(yf st (kR (hdB cu),mA (hdB cu)))→(Bo (false) (R' (oH ⟨[]⟩) (kE) ([kQ b l (some (i,cu,re)),kL q2 (Sg.any A r5),jG bb 58 [(kW (some b),kZ 0 mH)],oF])) (S0 ([Ab.again [0,1],Ab.blk 0]) (some ⟨5,none,kB (some ⟨i,0,none⟩),kZ 0 PK.iter⟩) (some ⟨0,none,lS (Fn.yield lr) ⟨[]⟩ ⟨[]⟩,kE⟩) (some ⟨1,none,kB (some ⟨bb,0,none⟩),kZ 2 (nJ 0)⟩) ([kQ b l (some (i,cu,re)),kL q2 (Sg.any A r5),jG bb 58 [(kW (some b),kZ 0 mH)],oF]))))))) (R' (oH ⟨[]⟩) (kE) ([kQ b l (some (i,cu,re)),kL q2 (Sg.any A st),jG bb 58 [(kW (some b),kZ 0 mH)]]))) (∀b1_0:Nat,(Bo (true) (A8 (OI [BX re b1_0]=true) (∀b4_0:Nat,(A8 (kyN A b l q2 bb lr I (lS (Fn.yield lr) ⟨[]⟩ ⟨[]⟩) (Value.agg ⟨[iX iB (kR (hdB [BX re b1_0])),iX iB (mA (hdB [BX re b1_0]))]⟩) (kR (hdB [BX re b1_0]),mA (hdB [BX re b1_0])) [kQ b l (some (i,[BX re b1_0],Ff re b1_0)),kL q2 (Sg.any A st),jG bb 58 [(kW (some b),kZ 0 mH)]] st) (∀r6:List (LI),r6=(yf st (kR (hdB [BX re b1_0]),mA (hdB [BX re b1_0])))→(Bo (false) (R' (oH ⟨[]⟩) (kE) ([kQ b l (some (i,[BX re b1_0],Ff re b1_0)),kL q2 (Sg.any A r6),jG bb 58 [(kW (some b),kZ 0 mH)],oF])) (S0 ([Ab.again [0,1],Ab.blk 0]) (some ⟨5,none,kB (some ⟨i,0,none⟩),kZ 0 PK.iter⟩) (some ⟨0,none,lS (Fn.yield lr) ⟨[]⟩ ⟨[]⟩,kE⟩) (some ⟨1,none,kB (some ⟨bb,0,none⟩),kZ 2 (nJ 0)⟩) ([kQ b l (some (i,[BX re b1_0],Ff re b1_0)),kL q2 (Sg.any A r6),jG bb 58 [(kW (some b),kZ 0 mH)],oF]))))))) (R' (oH ⟨[]⟩) (kE) ([kQ b l (some (i,[BX re b1_0],Ff re b1_0)),kL q2 (Sg.any A st),jG bb 58 [(kW (some b),kZ 0 mH)]]))))):=by
 kernel_rfl
theorem Y4 {α:Type}:∀{l:List α} {i:Nat} (h:i<l.length),l.Perm (l[i]::l.eraseIdx i)
 |x::l,0,_=>nZ _
 |x::l,i+1,h=>by
  have:=Y4 (l:=l) (i:=i) (by simpa using h)
  show (x::l).Perm ((l[i]'(by simpa using h))::x::l.eraseIdx i)
  exact (List.Perm.cons x this).trans (List.Perm.swap _ _ _)
theorem AhV {r:List BB} (h:NC r=false) (n:Nat):r.Perm (BX r n::Ff r n):=by
 have hl:0<r.length:=by cases r with|nil=>cases h|cons _ _=>simp
 have hlt:n%r.length<r.length:=lX _ hl
 have e:BX r n=r[n%r.length]:=by unfold BX;rw [iD,iO hlt];rfl
 rw [e];exact Y4 hlt
def AgG (E:Ev) (G:Hp) (A:LL→BN) (b:Nat) (l:List BB) (q2:Addr) (bb lr:Nat) (I:LL→List BB→Prop) (yf:Yf):Prop:=
 ∀st x re it,I st (x::re)→∀w,Ae Dg E G w (HY A b l it q2 bb st)→Ol Try.prog lr #[D6 x] w λen w'=>en= .returned (.bool true)∧Ae Dg E G w' (HY A b l it q2 bb (yf st x))
theorem Aej {A:LL→BN} {b:Nat} {l:List BB} {it:It} {q2:Addr} {bb:Nat} (st:LL):CP (HY A b l it q2 bb st):=
 Ou (by simp [HY,cellsAll,Aw,Bl,CE])
theorem AhW {K X:List (Chunk Sg)} (h:CP K):CP (K++X.map λ_=>oF):=h.append λb t cs hm=>by
 obtain ⟨_,_,e⟩:=kG.1 hm
 cases e
theorem SS {E:Ev} {G:Hp} {A:LL→BN} {b:Nat} {l:List BB} {q2:Addr} {bb lr:Nat} {I:LL→List BB→Prop} {yf:Yf} (h:AgG E G A b l q2 bb lr I yf):Ahp Dg Try.prog (MH A b l q2 bb lr I yf) E G:=by
 intro args prs K t ht w hps hk hS Q hQ l' av hav
 have hz:=(Za hps).2
 generalize hzz:lI args prs=z at ht hz
 unfold MH at ht
 split at ht
 ·rename_i v0 p0 k1 x k2 y p2 b' l1 it' q3 A' st c3 X
  injection ht with ht;subst ht
  obtain ⟨⟨h0,h1,i,cu,re,h3,h4⟩,hb⟩:=hQ
  have hq:=hb ⟨h0,h1,i,cu,re,h3,h4⟩ _ rfl
  simp only [iC,jZ] at hz
  subst hz
  unfold D6 at h1
  simp only [Value.agg.injEq] at h1
  have h1:=congrArg Array.toList h1
  simp only [jV,Value.int.injEq,and_true] at h1
  obtain ⟨rfl,rfl⟩:=h1
  subst h0
  rw [HY,jV,jV,jV] at h3
  obtain ⟨e1,e2,e3,_⟩:=h3
  injection e1 with e1 e5 e6;subst e1;subst e5;subst e6
  injection e2 with e2 e4;subst e2
  injection e4 with e4 _;subst e4
  subst e3
  have ha:l'=lr∧av= #[D6 (x,y)]:=by
   have:=congrArg Array.toList hav
   simp only [nP,jU,nB,jV] at this
   obtain ⟨e5,e6⟩:=this
   injection e5 with e5 _ _
   injection e5 with e5
   exact ⟨e5.symm,by apply Array.toList_inj.1;exact e6.symm⟩
  obtain ⟨rfl,rfl⟩:=ha
  have hS0:Ae Dg E G w (HY A' b' l1 (some (i,cu,re)) q3 bb st):=Ae.order Dg hS [0,1,2] rfl rfl
  obtain ⟨fn,tmps,assign,body,g1,g2⟩:=h st (x,y) re _ h4 w hS0
  refine ⟨fn,tmps,assign,body,g1, λcs hcs=>?_⟩
  obtain ⟨e,w',S,⟨g3,g4⟩,g5⟩:=g2 cs hcs
  refine ⟨e,w',S,⟨_,_,_,g3,hq,?_,AhW (X:=X) (Aej (yf st (x,y))),Ar,?_⟩,g5⟩
  ·intro k c hk
   match k,hk with
   |0,hk=>exact ⟨_,rfl, λv pk hv=>by injection hk with hk;subst hk;exact hv⟩
   |1,hk=>exact ⟨_,rfl, λv pk hv=>by injection hk with hk;subst hk;cases pk<;>first|exact hv|exact hv.elim⟩
   |2,hk=>exact ⟨_,rfl, λv pk hv=>by injection hk with hk;subst hk;exact hv⟩
   |k+3,hk=>
    refine ⟨.dead,?_, λv pk hv=>trivial⟩
    have hlt:=Bv hk
    simp only [jI] at hlt
    simp only [kH,iK]
    rw [iO (by omega)];rfl
  ·show Ae Dg E G w' (HY A' b' l1 (some (i,cu,re)) q3 bb (yf st (x,y))++X.map λ_=> .dead)
   exact Ae.Al8 Dg g4 X
 ·cases ht
section
variable {yf:Yf} {A:LL→BN} {b:Nat} {l:List BB} {q2:Addr} {bb lr:Nat} {E:Ev} {G:Hp} {I:LL→List BB→Prop}
abbrev VX:FuncId:=69
noncomputable abbrev kyB:Code:=Bg Try.f69
noncomputable abbrev kyM:Nat:=Try.f69.ntmps
theorem Ala {L:List Af} {K:List (Chunk Sg)} {i:Nat} (e5:Sl.look L 5=some ⟨5,none, .pointer (some ⟨i,0,none⟩), .pt 0 .iter⟩) (e0:Sl.look L 0=some ⟨0,none, .func (.yield lr) #[] #[], .no⟩) (e1:Sl.look L 1=some ⟨1,none, .pointer (some ⟨bb,0,none⟩), .pt 2 (.cell 0)⟩) (h5:Bl K (.pointer (some ⟨i,0,none⟩)) (.pt 0 .iter)) (h1:Bl K (.pointer (some ⟨bb,0,none⟩)) (.pt 2 (.cell 0))):∀e∈kyL lr bb i,Adk L K e:= λe he=>by
 simp only [kyL,iE,jK,or_false] at he
 rcases he with rfl|rfl|rfl
 ·exact ⟨rfl,⟨_,(BV e5).1⟩,h5⟩
 ·exact ⟨rfl,⟨_,(BV e0).1⟩,Ar⟩
 ·exact ⟨rfl,⟨_,(BV e1).1⟩,h1⟩
def kyS (A:LL→BN) (b:Nat) (l:List BB) (q2:Addr) (bb lr:Nat) (E:Ev) (G:Hp) (R:Ending→World→Prop) (td:List Ab) (e5 e0 e1:Option Af) (K:List (Chunk Sg)):Prop:=
 ∃i cu re st c,td=[.again [0,1], .blk 0]∧e5=some ⟨5,none, .pointer (some ⟨i,0,none⟩), .pt 0 .iter⟩∧e0=some ⟨0,none, .func (.yield lr) #[] #[], .no⟩∧e1=some ⟨1,none, .pointer (some ⟨bb,0,none⟩), .pt 2 (.cell 0)⟩∧K=HY A b l (some (i,cu,re)) q2 bb st++[c]∧
  Sl.SW Dg Try.prog VX R kyB kyM E G [.code [0,0,1], .again [0,1], .blk 0] (kyL lr bb i) (HY A b l (some (i,cu,re)) q2 bb st)
theorem Alb {R:Ending→World→Prop} {td:List Ab} {L:List Af} {K:List (Chunk Sg)} (h:kyS A b l q2 bb lr E G R td (Sl.look L 5) (Sl.look L 0) (Sl.look L 1) K):Sl.SW Dg Try.prog VX R kyB kyM E G td L K:=by
 obtain ⟨i,cu,re,st,c,rfl,e5,e0,e1,rfl,hsw⟩:=h
 refine Sl.SW.re Dg (α:=Unit) (L':=kyL lr bb i) (Kf:= λ_=>HY A b l (some (i,cu,re)) q2 bb st) (λw hS=>⟨(),Ae.order Dg hS [0,1,2] rfl rfl⟩) (λ_=>Aej st) (λ_=>Ala e5 e0 e1 (Bf.2 ⟨_,rfl,rfl⟩) (Bf.2 ⟨_,rfl,rfl⟩)) λ_=>Sl.SW.again Dg hsw
theorem AlC (hY:AgG E G A b l q2 bb lr I yf) (hI:∀st x re,I st (x::re)→I (yf st x) re) (hP:∀st re re',re.Perm re'→I st re→I st re') {R:Ending→World→Prop} (hR:∀st v w',I st []→Ae Dg E G w' (HY A b l none q2 bb st)→R (.returned v) w') (i:Nat):∀(k:Nat) (re cu:List BB) (st:LL),re.length=k→I st re→
 Sl.SW Dg Try.prog VX R kyB kyM E G [.code [0,0,1], .again [0,1], .blk 0] (kyL lr bb i) (HY A b l (some (i,cu,re)) q2 bb st):=by
 intro k
 induction k with
 |zero=>
  intro re cu st hk h0
  have:re=[]:=mV hk
  subst this
  refine Lc Dg DV (Y:=MH A b l q2 bb lr I yf) (I:=[2999998,2999996]) mix 60 (f:=VX) (SS hY) (.inl ⟨rfl,Try.f69,Try.func69,rfl⟩) (Q:= λ_=>True) (λ_ _ _ _=>trivial)
   (R':= λv p K=>K=HY A b l (some (i,cu,[])) q2 bb st) (λv p K w h _ _ _ hS=>hR st v w h0 (by rw [h] at hS;exact Ae.Al9 Dg hS)) _ _ _ trivial ?_
  refine Adm (AfE (λv p K=>K=HY A b l (some (i,cu,[])) q2 bb st) (λ_ _ _ _ _=>False) A b l q2 bb lr i I yf cu [] st) (λtd L K (h:False)=>h.elim) ⟨λ_=>⟨λh=>(by cases h), λ_=>rfl⟩, λh=>(by cases h)⟩
 |succ k ih=>
  intro re cu st hk h0
  have hne:NC re=false:=by cases re with|nil=>cases hk|cons _ _=>rfl
  refine Lc Dg DV (Y:=MH A b l q2 bb lr I yf) (I:=[2999998,2999996]) mix 60 (f:=VX) (SS hY) (.inl ⟨rfl,Try.f69,Try.func69,rfl⟩) (Q:= λ_=>True) (λ_ _ _ _=>trivial)
   (R':= λ_ _ _=>False) (λv p K w h _ _ _ hS=>h.elim) _ _ _ trivial ?_
  refine Adm (AfE (λv p K=>False) (kyS A b l q2 bb lr E G R) A b l q2 bb lr i I yf cu re st) (λtd L K h=>Alb h) ⟨λh=>(by rw [hne] at h;cases h), λ_ n=>⟨λ_=>⟨rfl, λ_ b4=>?_⟩, λh=>(by cases h)⟩⟩
  have hp:re.Perm (BX re n::Ff re n):=AhV hne n
  have h1:I st (BX re n::Ff re n):=hP st re _ hp h0
  refine ⟨⟨rfl,rfl,i,[BX re n],Ff re n,rfl,h1⟩, λ_ r hr=>?_⟩
  subst hr
  refine ⟨λh=>(by cases h), λ_=>⟨i,[BX re n],Ff re n,yf st (BX re n), .dead,rfl,rfl,rfl,rfl,rfl,?_⟩⟩
  refine ih _ _ _ ?_ (hI _ _ _ h1)
  have:=hp.length_eq
  simp only [jI] at this
  omega
set_option maxRecDepth 100000 in
theorem AiZ (hY:AgG E G A b l q2 bb lr I yf) (hI:∀st x re,I st (x::re)→I (yf st x) re) (hP:∀st re re',re.Perm re'→I st re→I st re') {R:Ending→World→Prop} {w:World} {st:LL} (hS:Ae Dg E G w (HY A b l none q2 bb st)) (h0:I st l)
 (hR:∀st v w',I st []→Ae Dg E G w' (HY A b l none q2 bb st)→R (.returned v) w'):
 Calls Try.prog VX #[.func (.yield lr) #[] #[], .pointer (some ⟨bb,0,none⟩)] w R:=by
 refine Hy Try.func69 (c:=kyB) (by kernel_rfl) ?_
 have hgo:=Lc Dg DV (Y:=MH A b l q2 bb lr I yf) (I:=[2999998,2999996]) mix 60 (f:=VX) (rs:=Try.f69.results.toList) (B:=kyB) (R:=R) (n:=kyM) (E:=E) (G:=G) (SS hY) (.inl ⟨rfl,Try.f69,Try.func69,rfl⟩) (Q:= λ_=>True) (λ_ _ _ _=>trivial)
  (R':= λ_ _ _=>False) (λ_ _ _ _ h=>h.elim) [.code []] (Di 0 [(.func (.yield lr) #[] #[], .no),(.pointer (some ⟨bb,0,none⟩), .pt 2 (.cell 0))]) (HY A b l none q2 bb st) trivial ?_
 ·exact hgo _ w (Fr.start (n:=kyM) [(.func (.yield lr) #[] #[], .no),(.pointer (some ⟨bb,0,none⟩), .pt 2 (.cell 0))] (iP (by kernel_rfl)) (λx hx=>by
   simp only [iE,jK,or_false] at hx
   rcases hx with rfl|rfl
   ·exact Ar
   ·exact Bf.2 ⟨_,rfl,rfl⟩) (Aej st)) hS
 ·refine Adm (AiY (λ_ _ _=>False) (λtd e5 e0 e1 K=>∃i,td=[.code [0,1], .blk 0]∧e5=some ⟨5,none, .pointer (some ⟨i,0,none⟩), .pt 0 .iter⟩∧e0=some ⟨0,none, .func (.yield lr) #[] #[], .no⟩∧e1=some ⟨1,none, .pointer (some ⟨bb,0,none⟩), .pt 2 (.cell 0)⟩∧K=HY A b l (some (i,[],l)) q2 bb st) A b l q2 bb lr I yf st) (λtd L K h=>?_) (λi=>⟨i,rfl,rfl,rfl,rfl,rfl⟩)
  obtain ⟨i,rfl,e5,e0,e1,rfl⟩:=h
  refine Sl.SW.sub Dg (L':=kyL lr bb i) (Sl.SW.enter Dg (by kernel_rfl) (AlC hY hI hP hR i l.length l [] st rfl h0)) λe he=>?_
  simp only [kyL,iE,jK,or_false] at he
  rcases he with rfl|rfl|rfl
  ·exact (BV e5).1
  ·exact (BV e0).1
  ·exact (BV e1).1
end
end
section
open Go Go.Sl
def k0 (b:Nat) (l:List BB) (bb:Nat) (q0:Addr) (s0:Sg):List (Chunk Sg):=[.bm b l none, .cells bb 58 [(.map (some b), .pt 0 .map)], .obj q0 s0]
abbrev Jd (bb:Nat):Value:= .func (.func 69) #[] #[.pointer (some ⟨bb,0,none⟩)]
theorem Aja (R':Value→Pr→List (Chunk Sg)→Prop) (S0:List Ab→Option Af→Option Af→List (Chunk Sg)→Prop) (b:Nat) (l:List BB) (bb:Nat) (q0:Addr) (s0:Sg):
 (run Try.prog He [2999998] 60 (Bg Try.f82) Try.f82.results.toList Try.f82.ntmps [.code []] (Di 0 [(.slice none 0 0, .no),(Jd bb, .many [.pt 1 (.cell 0)])]) (k0 b l bb q0 s0)).holds R' (λtd L K=>S0 td (Sl.look L 2) (Sl.look L 6) K)=
 (∀b0_0:Nat,(S0 ([Ab.code [0,1,0,1],Ab.blk 0,Ab.code [1,1]]) (some ⟨2,none,kB (some ⟨b0_0,0,none⟩),kZ 3 (nJ 0)⟩) (some ⟨6,none,lS (Fn.func 69) ⟨[]⟩ ⟨[kB (some ⟨bb,0,none⟩)]⟩,Pr.many [kZ 1 (nJ 0)]⟩) ([kQ b l none,jG bb 58 [(kW (some b),kZ 0 mH)],kL q0 s0,jG b0_0 24 [(kS none 0 0,kE)]]))):=by
 kernel_rfl
def OD (b:Nat) (x:Obj):Chunk Sg:= .obj ⟨0,0,none⟩ (.any (λ_=>pt b x) [])
abbrev gL (st:LL) (i:Nat):LI:=st.getD i []
def kq (b:Nat) (l:List BB) (it:It) (bb Dm lr:Nat) (o1 o2:Obj) (q0:Addr) (s0:Sg) (sb:Nat) (st:LL) (a:Option Nat×Nat):List (Chunk Sg):=
 [.bm b l it, .cells bb 58 [(.map (some b), .pt 0 .map)],OD Dm o1,OD lr o2, .obj q0 s0, .cells sb 24 [(Ba a.1 (gL st 0).length a.2, .pt 6 .slice)], .row a.1 55 (gL st 0).length a.2 [.ints .i64 (gL st 0), .ints .i64 (gL st 1)]]
abbrev OE:List Nat:=[0,1,0,1]
def Qn (sb:Nat):List Af:=[⟨2,none, .pointer (some ⟨sb,0,none⟩), .pt 5 (.cell 0)⟩]
theorem AlD (R':Value→Pr→List (Chunk Sg)→Prop) (S0:List Ab→Option Af→Option Af→List (Chunk Sg)→Prop) (b:Nat) (l:List BB) (it:It) (bb Dm lr:Nat) (o1 o2:Obj) (q0:Addr) (s0:Sg) (sb:Nat) (st:LL) (a:Option Nat×Nat) (x:BB):
 (run Try.prog He [2999998,2999997] 60 (Bg Try.f82) [.cell 0 1000000] Try.f82.ntmps [.code (0::OE), .raw .beginRound, .code (1::OE)] (⟨7,none,D6 x, .no⟩::Qn sb) (kq b l it bb Dm lr o1 o2 q0 s0 sb st a)).holds R' (λtd L K=>S0 td (Sl.look L 2) (Sl.look L 5) K)=
 (∀b0_0:Nat,(S0 ([Ab.raw Item.beginRound,Ab.code [1,0,1,0,1]]) (some ⟨2,none,kB (some ⟨sb,0,none⟩),kZ 5 (nJ 0)⟩) (some ⟨5,none,kB (some ⟨b0_0,0,none⟩),kZ 7 (nJ 0)⟩) ([kQ b l it,jG bb 58 [(kW (some b),kZ 0 mH)],kL ⟨0,0,none⟩ (Sg.any (λx=>pt Dm o1) []),kL ⟨0,0,none⟩ (Sg.any (λx=>pt lr o2) []),kL q0 s0,jG sb 24 [(kS (mB (λb=>⟨b,0,none⟩) a.1) (iV (gL st 0)) a.2,kZ 6 oA)],kU a.1 55 (iV (gL st 0)) a.2 [Ak.ints iB (gL st 0),Ak.ints iB (gL st 1)],jG b0_0 55 [(iX iB x.1,kE),(iX iB x.2,kE)]]))):=by
 kernel_rfl
theorem AlE (R':Value→Pr→List (Chunk Sg)→Prop) (S0:List Ab→Option Af→List (Chunk Sg)→Prop) (b:Nat) (l:List BB) (it:It) (bb Dm lr b5:Nat) (o1 o2:Obj) (q0:Addr) (s0:Sg) (sb:Nat) (st:LL) (a:Option Nat×Nat) (x:BB):
 (run Try.prog He [2999998,2999997] 60 (Bg Try.f82) [.cell 0 1000000] Try.f82.ntmps [.code (1::OE)] (⟨5,none, .pointer (some ⟨b5,0,none⟩), .pt 7 (.cell 0)⟩::Qn sb) (kq b l it bb Dm lr o1 o2 q0 s0 sb st a++[.cells b5 55 [(.int .i64 x.1, .no),(.int .i64 x.2, .no)]])).holds R' (λtd L K=>S0 td (Sl.look L 2) K)=
 (∀b0_0:Nat,(A8 ((iV (gL st 0)+1)*16≤140737488355328) (∀(b2_0:Option Nat) (b2_1:Nat),(S0 ([]) (some ⟨2,none,kB (some ⟨sb,0,none⟩),kZ 5 (nJ 0)⟩) ([kQ b l it,jG bb 58 [(kW (some b),kZ 0 mH)],kL ⟨0,0,none⟩ (Sg.any (λx=>pt Dm o1) []),kL ⟨0,0,none⟩ (Sg.any (λx=>pt lr o2) []),kL q0 s0,jG sb 24 [(kS (mB (λb=>⟨b,0,none⟩) b2_0) (iV (gL st 0)+1) b2_1,kZ 9 oA)],oF,jG b5 55 [(iX iB x.1,kE),(iX iB x.2,kE)],kU (some b0_0) 55 1 1 [Ak.ints iB [x.1],Ak.ints iB [x.2]],kU b2_0 55 (iV (gL st 0)+1) b2_1 [Ak.ints iB (gL st 0++[x.1]),Ak.ints iB (gL st 1++[x.2])]]))))):=by
 kernel_rfl
theorem Alc (R':Value→Pr→List (Chunk Sg)→Prop) (S0:List Ab→Option Af→List (Chunk Sg)→Prop) (b:Nat) (l:List BB) (it:It) (bb Dm lr:Nat) (o1 o2:Obj) (q0:Addr) (s0:Sg) (sb:Nat) (st:LL) (a:Option Nat×Nat):
 (run Try.prog He [2999998,2999997] 60 (Bg Try.f82) [.cell 0 1000000] Try.f82.ntmps [.blk 0, .code [1,1]] (Qn sb) (kq b l it bb Dm lr o1 o2 q0 s0 sb st a)).holds R' (λtd L K=>S0 td (Sl.look L 4) K)=
 (S0 ([Ab.code [1,1,1]]) (some ⟨4,none,kS (mB (λb=>⟨b,0,none⟩) a.1) (iV (gL st 0)) a.2,kZ 6 oA⟩) ([kQ b l it,jG bb 58 [(kW (some b),kZ 0 mH)],kL ⟨0,0,none⟩ (Sg.any (λx=>pt Dm o1) []),kL ⟨0,0,none⟩ (Sg.any (λx=>pt lr o2) []),kL q0 s0,jG sb 24 [(kS (mB (λb=>⟨b,0,none⟩) a.1) (iV (gL st 0)) a.2,kZ 6 oA)],kU a.1 55 (iV (gL st 0)) a.2 [Ak.ints iB (gL st 0),Ak.ints iB (gL st 1)]])):=by
 kernel_rfl
theorem Ald:Jy Try.prog 1000000=none:=by kernel_rfl
theorem pcE {T:Tb} (hT:CQ T) {I:List Nat} (hI:rounds I=true) {f:Fq} {R:Ending→World→Prop} {B:Code} {n:Nat} {E:Ev} {G:Hp} {td:List Ab} {L:List Af} {K:List (Chunk Sg)} {fuel:Nat} {S':List Ab→List Af→List (Chunk Sg)→Prop} {X:Prop}
 (he:(run Try.prog T I fuel B [.cell 0 1000000] n td L K).holds (λ_ _ _=>False) S'=X) (hS:∀td L K,S' td L K→Sl.SW Dg Try.prog f R B n E G td L K) (hX:X):Sl.SW Dg Try.prog f R B n E G td L K:=
 MX Dg hT mix fuel (.inr ⟨hI,Abx Ald⟩) (Q:= λ_=>True) (λ_ _ _ _=>trivial) (R':= λ_ _ _=>False) (λ_ _ _ _ h=>h.elim) _ _ _ trivial (Tree.E8 (λ_ _ _ h=>h) hS (he.mpr hX))
theorem pcF {T:Tb} (hT:CQ T) {I:List Nat} {f:FuncId} {fn:Func} (hfn:Try.prog.funcs[f]? =some fn) {R:Ending→World→Prop} {B:Code} {E:Ev} {G:Hp} {td:List Ab} {L:List Af} {K:List (Chunk Sg)} {fuel:Nat} {R':Value→Pr→List (Chunk Sg)→Prop} {S':List Ab→List Af→List (Chunk Sg)→Prop} {X:Prop}
 (he:(run Try.prog T I fuel B fn.results.toList fn.ntmps td L K).holds R' S'=X) (hR:∀v p K w,R' v p K→Ae Dg E G w K→R (.returned v) w) (hS:∀td L K,S' td L K→Sl.SW Dg Try.prog f R B fn.ntmps E G td L K) (hX:X):Sl.SW Dg Try.prog f R B fn.ntmps E G td L K:=
 MX Dg hT mix fuel (f:=(f:Fq)) (.inl ⟨rfl,fn,hfn,rfl⟩) (Q:= λ_=>True) (λ_ _ _ _=>trivial) (R':=R') (λv p K w h _ _ _ hS=>hR v p K w h hS) _ _ _ trivial (Tree.E8 (λ_ _ _ h=>h) hS (he.mpr hX))
def asY:Yf:= λst x=>[gL st 0++[x.1],gL st 1++[x.2]]
def Y5 (l:List BB) (st:LL) (re:List BB):Prop:=(gL st 1).length=(gL st 0).length∧(Jc (gL st 0) (gL st 1)++re).Perm l
theorem Ajb {l:List BB} (st:LL) (x:BB) (re:List BB) (h:Y5 l st (x::re)):Y5 l (asY st x) re:=by
 obtain ⟨h1,h2⟩:=h
 refine ⟨by show (gL st 1++[x.2]).length=(gL st 0++[x.1]).length;rw [jP,jP,h1];rfl,?_⟩
 show (Jc (gL st 0++[x.1]) (gL st 1++[x.2])++re).Perm l
 rw [AiW h1]
 simpa using h2
theorem Ajc {l:List BB} (st:LL) (re re':List BB) (hp:re.Perm re') (h:Y5 l st re):Y5 l st re':=⟨h.1,(List.Perm.append_left _ hp.symm).trans h.2⟩
theorem Akh {l:List BB} {st:LL} {re:List BB} (h:Y5 l st re):(gL st 0).length+re.length=l.length:=by
 have:=h.2.length_eq
 rw [jP,AfA h.1.symm] at this
 exact this
theorem AhZ (b:Nat) (l:List BB) (it:It) (bb Dm lr:Nat) (o1 o2:Obj) (q0:Addr) (s0:Sg) (sb:Nat) (st:LL) (a:Option Nat×Nat):CP (kq b l it bb Dm lr o1 o2 q0 s0 sb st a):=
 Ou (by simp [kq,OD,Ba,cellsAll,Aw,Bl,CE])
section
variable {E:Ev} {G:Hp}
abbrev JJ:FuncId:=82
noncomputable abbrev Y6:Code:=Bg Try.f82
noncomputable abbrev asN:Nat:=Try.f82.ntmps
noncomputable abbrev G7 (tmps:Array Value) (Dm:Nat):Loop:=Pn JJ tmps #[7] (Sl.sub Y6 (0::OE)) (Sl.sub Y6 (1::OE)) Dm .ready none
set_option maxRecDepth 100000 in
theorem Ajd {b bb Dm lr sb:Nat} {l:List BB} {it:It} {q0:Addr} {s0:Sg} {st:LL} {a:Option Nat×Nat} {x:BB} {tmps:Array Value} (hlen:((gL st 0).length+1)*16≤140737488355328) (Rr:Ending→World→Prop)
 (H:∀w' a',Ae Dg E G w' (kq b l it bb Dm lr (.deferred (some [])) (.loop (G7 tmps Dm)) q0 s0 sb (asY st x) a')→Rr (.returned (.bool true)) w'):
 Sl.SW Dg Try.prog ⟨JJ,some lr,[]⟩ Rr Y6 asN E G [.code (0::OE), .raw .beginRound, .code (1::OE)] (⟨7,none,D6 x, .no⟩::Qn sb) (kq b l it bb Dm lr (.deferred (some [])) (.loop (G7 tmps Dm)) q0 s0 sb st a):=by
 refine pcE (I:=[2999998,2999997]) DV rfl (AlD (λ_ _ _=>False) (λtd e2 e5 K=>∃b5,td=[.raw .beginRound, .code (1::OE)]∧e2=some ⟨2,none, .pointer (some ⟨sb,0,none⟩), .pt 5 (.cell 0)⟩∧e5=some ⟨5,none, .pointer (some ⟨b5,0,none⟩), .pt 7 (.cell 0)⟩∧
  K=kq b l it bb Dm lr (.deferred (some [])) (.loop (G7 tmps Dm)) q0 s0 sb st a++[.cells b5 55 [(.int .i64 x.1, .no),(.int .i64 x.2, .no)]]) b l it bb Dm lr (.deferred (some [])) (.loop (G7 tmps Dm)) q0 s0 sb st a x) (λtd L K h=>?_) (λb5=>⟨b5,rfl,rfl,rfl,rfl⟩)
 obtain ⟨b5,rfl,e2,e5,rfl⟩:=h
 refine Sl.SW.sub Dg (L':=⟨5,none, .pointer (some ⟨b5,0,none⟩), .pt 7 (.cell 0)⟩::Qn sb) ?_ (λe he=>by
  simp only [Qn,iE,jK,or_false] at he
  rcases he with rfl|rfl
  ·exact (BV e5).1
  ·exact (BV e2).1)
 refine Sl.SW.busy Dg (f:=⟨JJ,some lr,[]⟩) (l:=lr) (j:=3) (s':= .any (λ_=>pt lr (.loop {G7 tmps Dm with state:= .busy})) []) rfl rfl rfl rfl rfl ?_
 show Sl.SW Dg Try.prog ⟨JJ,some lr,[]⟩ Rr Y6 asN E G [.code (1::OE)] (⟨5,none, .pointer (some ⟨b5,0,none⟩), .pt 7 (.cell 0)⟩::Qn sb) (kq b l it bb Dm lr (.deferred (some [])) (.loop {G7 tmps Dm with state:= .busy}) q0 s0 sb st a++[.cells b5 55 [(.int .i64 x.1, .no),(.int .i64 x.2, .no)]])
 refine pcE (I:=[2999998,2999997]) DV rfl (AlE (λ_ _ _=>False) (λtd e2 K=>∃b6 a' c2,td=[]∧K=[.bm b l it, .cells bb 58 [(.map (some b), .pt 0 .map)],OD Dm (.deferred (some [])),OD lr (.loop {G7 tmps Dm with state:= .busy}), .obj q0 s0, .cells sb 24 [(Ba a'.1 ((gL st 0).length+1) a'.2, .pt 9 .slice)], .dead,c2,b6, .row a'.1 55 ((gL st 0).length+1) a'.2 [.ints .i64 (gL st 0++[x.1]), .ints .i64 (gL st 1++[x.2])]]) b l it bb Dm lr b5 (.deferred (some [])) (.loop {G7 tmps Dm with state:= .busy}) q0 s0 sb st a x) (λtd L K h=>?_) (λb6=>⟨hlen, λ_ a1 c1=>⟨_,(a1,c1),_,rfl,rfl⟩⟩)
 obtain ⟨b6,a',c2,rfl,rfl⟩:=h
 refine Sl.SW.on Dg (f:=⟨JJ,some lr,[]⟩) (l:=lr) (j:=3) (s':= .any (λ_=>pt lr (.loop (G7 tmps Dm))) []) rfl rfl rfl rfl λw' _ hS=>H w' a' ?_
 refine Ae.ord Dg hS [0,1,2,3,4,5,9] rfl ?_
 have e:(gL (asY st x) 0).length=(gL st 0).length+1:=by show (gL st 0++[x.1]).length=_;simp
 unfold kq
 rw [e];rfl
theorem Aib (args:Array Value) (w:World):(callFunc 69 args).run Try.prog w= .ok (.enter 69 args) w:=
 Jg (by kernel_rfl) args w
theorem Aek (b:Nat) (l:List BB) (bb:Nat) (q0:Addr) (s0:Sg):CP (k0 b l bb q0 s0):=Ou (by simp [k0,cellsAll,Aw,Bl,CE])
set_option maxRecDepth 100000 in
theorem Aje {b bb:Nat} {l:List BB} {q0:Addr} {s0:Sg} (hl:l.length≤1000) {R:Ending→World→Prop} {w:World} (hS:Ae Dg E G w (k0 b l bb q0 s0))
 (hR:∀st (a:Option Nat×Nat) w',Y5 l st []→Ae Dg E G w' (k0 b l bb q0 s0++[.row a.1 55 (gL st 0).length a.2 [.ints .i64 (gL st 0), .ints .i64 (gL st 1)]])→R (.returned (Ba a.1 (gL st 0).length a.2)) w'):
 Calls Try.prog JJ #[.slice none 0 0,Jd bb] w R:=by
 refine Hy Try.func82 (c:=Y6) (by kernel_rfl) ?_
 have hgo:Sl.SW Dg Try.prog JJ R Y6 asN E G [.code []] (Di 0 [(.slice none 0 0, .no),(Jd bb, .many [.pt 1 (.cell 0)])]) (k0 b l bb q0 s0):=by
  refine pcF (f:=JJ) DV Try.func82 (Aja (λ_ _ _=>False) (λtd e2 e6 K=>∃sb,td=[.code OE, .blk 0, .code [1,1]]∧e2=some ⟨2,none, .pointer (some ⟨sb,0,none⟩), .pt 3 (.cell 0)⟩∧e6=some ⟨6,none,Jd bb, .many [.pt 1 (.cell 0)]⟩∧K=k0 b l bb q0 s0++[.cells sb 24 [(.slice none 0 0, .no)]]) b l bb q0 s0)
   (λ_ _ _ _ h=>h.elim) (λtd L K h=>?_) (λsb=>⟨sb,rfl,rfl,rfl,rfl⟩)
  obtain ⟨sb,rfl,e2,e6,rfl⟩:=h
  refine Sl.SW.rangeFunc Dg (t:=6) (ps:= #[7]) (lb:= #[.pointer (some ⟨bb,0,none⟩)]) (by kernel_rfl) (BV e6).1 Aib λa w hF hS=>?_
  generalize hDm:w.heap.size=Dm at hS ⊢
  generalize hlr:Dm+1=lr at hS ⊢
  generalize Iy w JJ a.tmps #[7] (Sl.sub Y6 (0::OE)) (Sl.sub Y6 (1::OE))=w1 at hS ⊢
  let rc0:Obj:= .loop (G7 a.tmps Dm)
  let A:LL→BN:= λst Y h=>∃x:Option Nat×Nat,Sl.star (([OD Dm (.deferred (some [])),OD lr rc0, .obj q0 s0, .cells sb 24 [(Ba x.1 (gL st 0).length x.2, .pt 6 .slice)], .row x.1 55 (gL st 0).length x.2 [.ints .i64 (gL st 0), .ints .i64 (gL st 1)]]:List (Chunk Sg)).map (den Dg G)) Y h
  have pack:∀w it st x,Ae Dg E G w (kq b l it bb Dm lr (.deferred (some [])) rc0 q0 s0 sb st x)→Ae Dg E G w (HY A b l it ⟨0,0,none⟩ bb st):= λw it st x h=>
   Ae.order Dg (Ae.Ah5 Dg (c:= .obj ⟨0,0,none⟩ (.any A st)) (Ks:=[OD Dm (.deferred (some [])),OD lr rc0, .obj q0 s0, .cells sb 24 [(Ba x.1 (gL st 0).length x.2, .pt 6 .slice)], .row x.1 55 (gL st 0).length x.2 [.ints .i64 (gL st 0), .ints .i64 (gL st 1)]]) (K1:=[.bm b l it, .cells bb 58 [(.map (some b), .pt 0 .map)]]) (h.order Dg [2,3,4,5,6,0,1] rfl rfl) λY k hx=>⟨x,hx⟩) [1,0,2] rfl rfl
  have unpack:∀w it st,Ae Dg E G w (HY A b l it ⟨0,0,none⟩ bb st)→∃x,Ae Dg E G w (kq b l it bb Dm lr (.deferred (some [])) rc0 q0 s0 sb st x):= λw it st h=>by
   obtain ⟨x,hx⟩:=Ae.Adl Dg (k0:= λ_=>OD Dm (.deferred (some []))) (ks:= λx:Option Nat×Nat=>[OD lr rc0, .obj q0 s0, .cells sb 24 [(Ba x.1 (gL st 0).length x.2, .pt 6 .slice)], .row x.1 55 (gL st 0).length x.2 [.ints .i64 (gL st 0), .ints .i64 (gL st 1)]]) h (k:=1) (c:= .obj ⟨0,0,none⟩ (.any A st)) rfl rfl
   exact ⟨x,Ae.order Dg hx [0,2,1,3,4,5,6] rfl rfl⟩
  have recAt:∀w it st x,Ae Dg E G w (kq b l it bb Dm lr (.deferred (some [])) rc0 q0 s0 sb st x)→w.heap[lr]? =some rc0:= λw it st x h=>
   Ae.objPt Dg (q:=⟨0,0,none⟩) (s:= .any (λ_=>pt lr rc0) []) h (j:=3) rfl rfl
  have hL':∀it st x o2,∀e∈Qn sb,Adk _ (kq b l it bb Dm lr (.deferred (some [])) o2 q0 s0 sb st x) e:= λit st x o2 e he=>by
   simp only [Qn,iE,jK,or_false] at he
   subst he
   exact ⟨rfl,⟨_,(BV e2).1⟩,Bf.2 ⟨_,rfl,rfl⟩⟩
  have hY:AgG E G A b l ⟨0,0,none⟩ bb lr (Y5 l) asY:=by
   intro st x re it hI w2 hS2
   obtain ⟨a2,h3⟩:=unpack _ _ _ hS2
   have h4:=recAt _ _ _ _ h3
   refine Agq Dg (L':=Qn sb) (p:=OE) (p1:=7) (Dm:=Dm) (f:=JJ) (v1:=D6 x) hF (AhZ _ _ _ _ _ _ _ _ _ _ _ _ _) (iP (by kernel_rfl)) (λe he=>⟨?_,hL' _ _ _ _ e he⟩) h4 h3 ?_
   ·simp only [Qn,iE,jK,or_false] at he
    subst he;exact (by decide:(2:Nat)≠7)
   ·have hb:=Akh hI
    simp only [jI] at hb
    exact Ajd (nX (kM 16 (show (gL st 0).length+1≤1000 by omega)) (by decide)) _ λw' a' h5=>⟨rfl,pack _ _ _ a' h5⟩
  have hS1:Ae Dg E G w1 (kq b l none bb Dm lr (.deferred (some [])) rc0 q0 s0 sb [[],[]] (none,0)):=by
   have h6:Ae Dg E G w1 ((k0 b l bb q0 s0++[.cells sb 24 [(.slice none 0 0, .no)]])++[OD Dm (.deferred (some [])),OD lr rc0]):=by
    unfold Ae
    rw [jE]
    exact hS
   have h7:=Ae.AkT Dg h6 (c:= .row none 55 0 0 [.ints .i64 [], .ints .i64 []]) rfl
   exact Ae.ord Dg h7 [0,1,4,5,2,3,6] rfl rfl
  have hq:=AiZ (bb:=bb) hY Ajb Ajc (pack _ _ _ _ hS1) (⟨rfl,nZ _⟩:Y5 l [[],[]] l) (R:= λe w3=>(∃v,e= .returned v)∧∃st,Y5 l st []∧Ae Dg E G w3 (HY A b l none ⟨0,0,none⟩ bb st)) λst v w' hI h=>⟨⟨v,rfl⟩,st,hI,h⟩
  refine hq.mono λe w3 ⟨hv,st,hI,h6⟩=>⟨hv,?_⟩
  obtain ⟨x,h7⟩:=unpack _ _ _ h6
  have h8:=recAt _ _ _ _ h7
  refine ⟨_,_,h8,(λh=>by simp [G7,Pn] at h),rfl,?_⟩
  have h9:=Ae.putObj Dg (q:=⟨0,0,none⟩) (s:= .any (λ_=>pt lr rc0) []) (l:=lr) (x:=rc0) (y:= .loop {G7 a.tmps Dm with state:= .exhausted}) (s':= .any (λ_=>pt lr (.loop {G7 a.tmps Dm with state:= .exhausted})) []) h7 (j:=3) rfl rfl rfl
  refine (show Sl.SW Dg Try.prog ⟨JJ,none,[Sl.mark Dm]⟩ R Y6 asN E G [.blk 0, .code [1,1]] (Qn sb) (kq b l none bb Dm lr (.deferred (some [])) (.loop {G7 a.tmps Dm with state:= .exhausted}) q0 s0 sb st x) from ?_) a _ (hF.re (AhZ _ _ _ _ _ _ _ _ _ _ _ _ _) λe he=>hL' _ _ _ _ e he) h9
  refine pcE (I:=[2999998,2999997]) DV rfl (Alc (λ_ _ _=>False) (λtd e4 K=>td=[.code [1,1,1]]∧e4=some ⟨4,none,Ba x.1 (gL st 0).length x.2, .pt 6 .slice⟩∧K=kq b l none bb Dm lr (.deferred (some [])) (.loop {G7 a.tmps Dm with state:= .exhausted}) q0 s0 sb st x) b l none bb Dm lr (.deferred (some [])) (.loop {G7 a.tmps Dm with state:= .exhausted}) q0 s0 sb st x) (λtd L K h=>?_) ⟨rfl,rfl,rfl⟩
  obtain ⟨rfl,e4,rfl⟩:=h
  refine Sl.SW.sub Dg (L':=[⟨4,none,Ba x.1 (gL st 0).length x.2, .pt 6 .slice⟩]) ?_ (λe he=>by
   simp only [iE,jK,or_false] at he
   subst he;exact (BV e4).1)
  exact Sl.SW.finish_mark Dg (f:=⟨JJ,none,[Sl.mark Dm]⟩) (Dm:=Dm) (j:=2) (q:=⟨0,0,none⟩) (s:= .any (λ_=>pt Dm (.deferred (some []))) []) (s':= .any (λ_=>pt Dm (.deferred none)) []) (vs:=[(Ba x.1 (gL st 0).length x.2, .pt 6 .slice)]) rfl rfl Try.func82 (.inr ⟨[],by kernel_rfl⟩) rfl rfl rfl (by kernel_rfl)
   λw' hS=>hR st x w' hI (Ae.ord Dg hS [0,1,4,6] rfl rfl)
 exact hgo _ w (Fr.start (n:=asN) [(.slice none 0 0, .no),(Jd bb, .many [.pt 1 (.cell 0)])] (iP (by kernel_rfl)) (λx hx=>by
  simp only [iE,jK,or_false] at hx
  rcases hx with rfl|rfl
  ·exact Ar
  ·simp only [Bl,Aw,and_true];exact ⟨_,rfl,rfl⟩) (Aek _ _ _ _ _)) hS
end
end
section
open Go Go.Shelf Go.RowKit Go.Lib Go.Sort
abbrev Bd:Type:={x:Int×Int// -4611686018427387904≤x.1∧x.1<4611686018427387904}
instance:Inhabited Bd:=⟨⟨(0,0),by decide⟩⟩
def MJ (x:Bd):List Value:=[.int .i64 x.1.1, .int .i64 x.1.2]
def bdC (x y:Bd):Int:=x.1.1-y.1.1
abbrev Vl:FuncId:=40
set_option maxHeartbeats 1000000 in
theorem AgH (x y:Bd) (W:World):Calls Try.prog Vl #[.agg #[.int .i64 x.1.1, .int .i64 x.1.2], .agg #[.int .i64 y.1.1, .int .i64 y.1.2]] W λe w'=>e= .returned (.int .i64 (bdC x y))∧∃q os',w'=grow (W.drewN q) os':=by
 have hs:iB.wrap (x.1.1-y.1.1)=bdC x y:=by
  have h1:=x.2;have h2:=y.2
  unfold bdC
  rw [IntKind.wrap_i64]
  omega
 go_enter Try.func40,Try.ntmps40
 go_wp2
 go_ret
 exact ⟨rfl,0,_,by rw [alloc_eq_grow,alloc_eq_grow,grow_grow];rfl⟩
theorem Acn (x y:Bd):ltOf bdC x y=decide (x.1.1<y.1.1):=by
 show decide (x.1.1-y.1.1<0)=_
 by_cases h:x.1.1<y.1.1
 ·rw [decide_eq_true h,decide_eq_true (by omega)]
 ·rw [decide_eq_false h,decide_eq_false (by omega)]
theorem Alf:SWO (ltOf bdC) where
 irrefl x:=by rw [Acn];simp
 trans x y z h1 h2:=by rw [Acn,decide_eq_true_eq] at*;omega
 ntrans x y z h1 h2:=by rw [Acn,decide_eq_false_iff_not] at*;omega
theorem Aki (blk off size:Nat) (w:World):CmpLays Try.prog Vl #[] MJ 2 bdC blk off size w:= λ_ _ _ _ x y=>AgH x y _
end
section
open Go Go.Sl Go.Shelf Go.RowKit Go.Lib Go.Sort
abbrev Bs:=List (Int×Int)
def rowB (a:Option Nat) (cap:Nat) (l:Bs):Chunk Sg:= .row a 55 l.length cap [.ints .i64 (l.map (·.1)), .ints .i64 (l.map (·.2))]
def lsB (d:Array Bd):Bs:=d.toList.map (·.1)
theorem I5 (d:Array Bd):(lsB d).length=d.size:=by simp [lsB]
theorem TP (d:Array Bd) {i:Nat} (h:i<d.size):(lsB d)[i]? =some d[i]!.1:=by
 simp [lsB,h,getElem!_pos]
theorem Aic (d:Array Bd):flat [.ints .i64 ((lsB d).map (·.1)), .ints .i64 ((lsB d).map (·.2))] d.size=(flatK MJ 2 d).toList:=by
 refine kV λt=>?_
 by_cases ht:t<d.size*2
 ·have hi:t/2<d.size:=by omega
  have e1:(flatK MJ 2 d).toList[t]? =some ((MJ d[t/2]!)[t%2]!):=by
   rw [←get_flatK MJ 2 d t ht,mG,getElem!_pos (flatK MJ 2 d) t (by simpa using ht),jJ (by simpa using ht)]
  rw [e1]
  rcases (by omega:t%2=0∨t%2=1) with h|h
  ·have:=flat_get (cols:=[.ints .i64 ((lsB d).map (·.1)), .ints .i64 ((lsB d).map (·.2))]) (n:=d.size) (i:=t/2) (j:=0) hi rfl
   rw [show t/2*[Ak.ints .i64 ((lsB d).map (·.1)), .ints .i64 ((lsB d).map (·.2))].length+0=t by simp only [jI,mI];omega] at this
   rw [this,h]
   simp only [Ak.at,iD,iK,TP d hi]
   rfl
  ·have:=flat_get (cols:=[.ints .i64 ((lsB d).map (·.1)), .ints .i64 ((lsB d).map (·.2))]) (n:=d.size) (i:=t/2) (j:=1) hi rfl
   rw [show t/2*[Ak.ints .i64 ((lsB d).map (·.1)), .ints .i64 ((lsB d).map (·.2))].length+1=t by simp only [jI,mI];omega] at this
   rw [this,h]
   simp only [Ak.at,iD,iK,TP d hi]
   rfl
 ·rw [jF (by rw [ET];simp only [jI,mI];omega),jF (by simp;omega)]
theorem Akj (F c:Array Value) (h:F.size≤c.size):(putCells id 0 F c).toList.take F.size=F.toList:=by
 refine kV λt=>?_
 by_cases ht:t<F.size
 ·rw [List.getElem?_take_of_lt ht,mG,mG]
  simp only [putCells,Array.getElem?_mapIdx]
  rw [jJ (by omega),jJ ht]
  simp only [iR,id]
  rw [if_pos ⟨by omega,by omega⟩,getElem!_pos F _ (by omega)]
  rfl
 ·rw [jF (by simp;omega),jF (by simp;omega)]
theorem Sat.grow {E:Ev} {G:Hp} {As:List BN}:∀(os:List Obj) {w:World},Sat E G w As→Sat E G (Sort.grow w os.toArray) As
 |[],w,h=>by simpa using h
 |o::os,w,h=>by
  have e:Sort.grow w (o::os).toArray=Sort.grow (w.alloc o) os.toArray:=by rw [alloc_eq_grow,grow_grow];congr 1;simp
  rw [e]
  refine Sat.grow os ((Sat.alloc h o).drop λi A hi=>?_)
  rw [iH (Bv hi)]
  exact hi
theorem Qo (w:World) (b c:Nat) (f:Array Value→Array Value):(mapBlock w b f).heap[c]? =if b=c then w.heap[c]?.map (onCells f) else w.heap[c]? :=by
 unfold mapBlock
 simp only [Array.getElem?_modify]
variable {E:Ev} {G:Hp} {K:List (Chunk Sg)}
theorem Aem {w:World} {j b cap:Nat} {l:Bs} (hS:Ae Dg E G w K) (hj:K[j]? =some (rowB (some b) cap l)):∃cs:Array Value,w.heap[b]? =some (.cells cs 55 (0,0))∧l.length≤cap∧cap≤maxLen∧cs.size=cap*2∧cs.toList.take (l.length*2)=flat [.ints .i64 (l.map (·.1)), .ints .i64 (l.map (·.2))] l.length:=by
 obtain ⟨Z,hz,hw,e,hg,o,ho,hA⟩:=hS
 obtain ⟨_,_,cs,h4,h5,h6,h7,h8⟩:=hA j _ (Dv (show (K.map (den Dg G))[j]? =some (den Dg G (rowB (some b) cap l)) by rw [iK,hj];rfl)) Z (Hp.le_refl Z)
 exact ⟨cs,IU h4,h5,h6,h7,h8⟩
theorem Aid {w:World} {j b cap:Nat} {d:Array Bd} (hS:Ae Dg E G w K) (hj:K[j]? =some (rowB (some b) cap (lsB d))):HoldsK MJ 2 w b 0 d:=by
 obtain ⟨cs,h4,h5,h6,h7,h8⟩:=Aem hS hj
 intro t ht
 have ht':t<d.size*2:=by simpa using ht
 rw [I5] at h8
 have e:cs[t]? =some (flatK MJ 2 d)[t]! :=by
  have:=congrArg (λl=>l[t]?) h8
  rw [Aic] at this
  simp only [List.getElem?_take_of_lt ht',mG] at this
  rw [this,getElem!_pos (flatK MJ 2 d) t (by simpa using ht'),jJ (by simpa using ht')]
 refine ⟨?_,?_⟩
 ·simp only [World.cell?,h4,lH,e];rfl
 ·simp only [World.frozen?,h4];simp
theorem Aie {w:World} {j b cap:Nat} {l:Bs} {d d':Array Bd} {m:Nat} {os:Array Obj} (hS:Ae Dg E G w K) (hj:K[j]? =some (rowB (some b) cap l)) (hl:lsB d=l) (hd:d'.size=d.size):
 Ae Dg E G (sortWorldK MJ 2 w b 0 m d' os) (K.set j (rowB (some b) cap (lsB d'))):=by
 unfold sortWorldK putRowK putRow
 have hj':(K.map (den Dg G))[j]? =some (den Dg G (rowB (some b) cap l)):=by rw [iK,hj];rfl
 obtain ⟨cs,h4,h5,h6,h7,h8⟩:=Aem hS hj
 have h1:=Sat.drawn hS (w.drawn+m)
 have ls:l.length=d.size:=by rw [←hl,I5]
 have h2:=Sat.write' (w':=mapBlock (Sort.ahead w m) b (putCells id 0 (flatK MJ 2 d'))) (b:=b) (A':=den Dg G (rowB (some b) cap (lsB d'))) h1 hj' (λY k hk=>by
  obtain ⟨_,_,cs,h4,_⟩:=hk
  rw [h4];simp) ⟨rfl,rfl,rfl⟩ (by simp [mapBlock,Sort.ahead]) (λc hc=>by
  rw [Qo,if_neg (Ne.symm hc)];rfl) (λY k k' hk ho hb=>by
  have hw:w.heap[b]? =some (.cells cs 55 (0,0)):=h4
  rw [Qo,if_pos rfl,show (Sort.ahead w m).heap[b]? =w.heap[b]? from rfl,hw] at hb
  have hs:(flatK MJ 2 d').size=(lsB d').length*2:=by rw [size_flatK,I5]
  have hl':(lsB d').length=l.length:=by rw [I5,ls,hd]
  refine ⟨λc hc=>?_,by simp,_,hb,by omega,h6,?_,?_⟩
  ·simp only [iE,jK,or_false] at hc
   rcases hc with rfl|rfl<;>simp [Ak.len]
  ·simp only [putCells,Array.size_mapIdx];exact h7
  ·rw [show (lsB d').length*[Ak.ints .i64 ((lsB d').map (·.1)), .ints .i64 ((lsB d').map (·.2))].length=(flatK MJ 2 d').size from hs.symm,Akj _ _ (by rw [hs,h7];omega),I5,Aic])
 have h3:=Sat.grow os.toList h2
 unfold Ae
 rw [jR]
 exact h3
end
section
open Go Go.Sl Go.Shelf Go.RowKit Go.Lib Go.Sort
def inB (l:Bs):Prop:=∀x∈l, -4611686018427387904≤x.1∧x.1<4611686018427387904
def JK (l:Bs):Prop:=l.Pairwise λx y=>x.1≤y.1
def Y7 (l:Bs) (hb:inB l):Array Bd:=(l.pmap Subtype.mk hb).toArray
theorem Alg (l:Bs) (hb:inB l):lsB (Y7 l hb)=l:=by
 have h:∀(l:Bs) (hb:inB l),(l.pmap Subtype.mk hb).map (·.1)=l:=by
  intro l
  induction l with
  |nil=>intro _;rfl
  |cons x l ih=>intro hb;exact congrArg (x:: ·) (ih _)
 exact h l hb
abbrev Alh:FuncId:=68
variable {E:Ev} {G:Hp} {K:List (Chunk Sg)}
theorem Aif {w:World} {j cap:Nat} {a:Option Nat} {l:Bs} (hS:Ae Dg E G w K) (hj:K[j]? =some (rowB a cap l)) (hb:inB l) (h1k:l.length≤1000):
 Calls Try.prog Alh #[Ba a l.length cap, .func (.func Vl) #[] #[]] w λe w'=>e= .returned (.tuple #[])∧∃l':Bs,l'.Perm l∧JK l'∧Ae Dg E G w' (K.set j (rowB a cap l')):=by
 cases a with
 |none=>
  have hn:l=[]:=by
   obtain ⟨Z,hz,hw,e,hg,o,ho,hA⟩:=hS
   obtain ⟨_,_,h4,_⟩:=hA j _ (Dv (show (K.map (den Dg G))[j]? =some (den Dg G (rowB none cap l)) by rw [iK,hj];rfl)) Z (Hp.le_refl Z)
   exact mV h4
  subst hn
  have h:=AnyF.slices_SortFunc_none {Try.Afz with} none cap (.func (.func Vl) #[] #[]) w
  refine h.mono ?_
  rintro e w' ⟨rfl,rfl⟩
  refine ⟨rfl,[],nZ _,List.Pairwise.nil,?_⟩
  have e:K.set j (rowB none cap [])=K:=kV λi=>by
   by_cases h:j=i
   ·subst h;rw [iS (Bv hj),hj]
   ·rw [iW h]
  rw [e]
  exact hS
 |some b=>
  have eg:∀args w,(callFunc Vl args).run Try.prog w= .ok (.enter Vl args) w:=enters_of Try.func40 (by kernel_rfl) rfl
  have e:=Alg l hb
  have hj':K[j]? =some (rowB (some b) cap (lsB (Y7 l hb))):=by rw [e];exact hj
  obtain ⟨cs,h4,h5,h6,h7,h8⟩:=Aem hS hj
  have es:(Y7 l hb).size=l.length:=by rw [←I5,e]
  have h:=AnyQ.slices_SortFunc Try.Afz 2 Try.isAgg55 Try.sizeOf55 MJ (λ_=>rfl) (λx v hv=>by simp [MJ] at hv;rcases hv with rfl|rfl<;>rfl) bdC Alf Vl #[] b 0 cap (Y7 l hb) w eg (Aki b 0 _ w) (Aid hS hj') (lt_of_heap h4) (by rw [es];omega)
  rw [es] at h
  refine h.mono ?_
  rintro e1 w' ⟨rfl,d',n,os,hp,hs,rfl⟩
  obtain ⟨hp1,_,hp2⟩:=hp
  refine ⟨rfl,lsB d',?_,?_,Aie hS hj' rfl hp1⟩
  ·rw [←es] at hp2
   have h9:(d'.extract 0 (Y7 l hb).size)=d':=by rw [←hp1];simp
   have h10:((Y7 l hb).extract 0 (Y7 l hb).size)=Y7 l hb:=by simp
   rw [h9,h10] at hp2
   have:=hp2.map (·.1)
   show (d'.toList.map (·.1)).Perm l
   rw [show l=(Y7 l hb).toList.map (·.1) from e.symm]
   exact this
  ·unfold JK
   rw [List.pairwise_iff_getElem]
   intro i k hi hk hik
   rw [I5] at hi hk
   have h11:=hs i k (nU _) hik (by rw [←es,←hp1];exact hk)
   rw [Acn,decide_eq_false_iff_not] at h11
   have a1:=TP d' hi
   have a2:=TP d' hk
   rw [iO (by rw [I5];exact hi)] at a1
   rw [iO (by rw [I5];exact hk)] at a2
   injection a1 with a1;injection a2 with a2
   rw [a1,a2]
   omega
end
section
open Go Go.Sl
abbrev k1 (b:Nat) (l:List BB) (bb:Nat) (q0:Addr) (s0:Sg) (l':List BB) (a:Option Nat) (cap:Nat):List (Chunk Sg):=k0 b l bb q0 s0++[rowB a cap l']
theorem Ajf (R':Value→Pr→List (Chunk Sg)→Prop) (S0:List Ab→Option Af→List (Chunk Sg)→Prop) (b:Nat) (l:List BB) (bb:Nat) (q0:Addr) (s0:Sg):
 (run Try.prog He [2999998] 60 (Bg Try.f67) Try.f67.results.toList Try.f67.ntmps [.code []] (Di 0 [(Jd bb, .many [.pt 1 (.cell 0)])]) (k0 b l bb q0 s0)).holds R' (λtd L K=>S0 td (Sl.look L 3) K)=
 (S0 ([Ab.ops [0,1] 1,Ab.code [1,1]]) (some ⟨3,none,lS (Fn.func 69) ⟨[]⟩ ⟨[kB (some ⟨bb,0,none⟩)]⟩,Pr.many [kZ 1 (nJ 0)]⟩) ([kQ b l none,jG bb 58 [(kW (some b),kZ 0 mH)],kL q0 s0])):=by
 kernel_rfl
theorem Ajg (R':Value→Pr→List (Chunk Sg)→Prop) (S0:List Ab→Option Af→Option Af→List (Chunk Sg)→Prop) (b:Nat) (l:List BB) (bb:Nat) (q0:Addr) (s0:Sg):
 (run Try.prog He [2999998] 60 (Bg Try.f38) Try.f38.results.toList Try.f38.ntmps [.code []] (Di 0 [(Jd bb, .many [.pt 1 (.cell 0)]),(.func (.func Vl) #[] #[], .no)]) (k0 b l bb q0 s0)).holds R' (λtd L K=>S0 td (Sl.look L 6) (Sl.look L 1) K)=
 (S0 ([Ab.ops [0,1] 1,Ab.code [1,1]]) (some ⟨6,none,lS (Fn.func 69) ⟨[]⟩ ⟨[kB (some ⟨bb,0,none⟩)]⟩,Pr.many [kZ 1 (nJ 0)]⟩) (some ⟨1,none,lS (Fn.func 40) ⟨[]⟩ ⟨[]⟩,kE⟩) ([kQ b l none,jG bb 58 [(kW (some b),kZ 0 mH)],kL q0 s0])):=by
 kernel_rfl
theorem Ali (R':Value→Pr→List (Chunk Sg)→Prop) (S0:List Ab→List (Chunk Sg)→Prop) (b:Nat) (l:List BB) (bb:Nat) (q0:Addr) (s0:Sg) (l':List BB) (a:Option Nat) (cap:Nat):
 (run Try.prog He [2999998] 60 (Bg Try.f67) Try.f67.results.toList Try.f67.ntmps [.ops [0,1] 2, .code [1,1]] [⟨4,none,Ba a l'.length cap, .pt 3 .slice⟩] (k1 b l bb q0 s0 l' a cap)).holds R' (λtd L K=>S0 td K)=
 (R' (kS (mB (λb=>⟨b,0,none⟩) a) (iV l') cap) (kZ 3 oA) ([kQ b l none,jG bb 58 [(kW (some b),kZ 0 mH)],kL q0 s0,kU a 55 (iV l') cap [Ak.ints iB (mN (λx=>x.1) l'),Ak.ints iB (mN (λx=>x.2) l')]])):=by
 kernel_rfl
theorem Alj (R':Value→Pr→List (Chunk Sg)→Prop) (S0:List Ab→Option Af→Option Af→Option Af→List (Chunk Sg)→Prop) (b:Nat) (l:List BB) (bb:Nat) (q0:Addr) (s0:Sg) (l':List BB) (a:Option Nat) (cap:Nat):
 (run Try.prog He [2999998] 60 (Bg Try.f38) Try.f38.results.toList Try.f38.ntmps [.ops [0,1] 2, .code [1,1]] [⟨7,none,Ba a l'.length cap, .pt 3 .slice⟩,⟨1,none, .func (.func Vl) #[] #[], .no⟩] (k1 b l bb q0 s0 l' a cap)).holds R' (λtd L K=>S0 td (Sl.look L 8) (Sl.look L 9) (Sl.look L 5) K)=
 (S0 ([Ab.ops [0,1,1] 2,Ab.code [1,1,1]]) (some ⟨8,none,kS (mB (λb=>⟨b,0,none⟩) a) (iV l') cap,kZ 3 oA⟩) (some ⟨9,none,lS (Fn.func 40) ⟨[]⟩ ⟨[]⟩,kE⟩) (some ⟨5,none,kS (mB (λb=>⟨b,0,none⟩) a) (iV l') cap,kZ 3 oA⟩) ([kQ b l none,jG bb 58 [(kW (some b),kZ 0 mH)],kL q0 s0,kU a 55 (iV l') cap [Ak.ints iB (mN (λx=>x.1) l'),Ak.ints iB (mN (λx=>x.2) l')]])):=by
 kernel_rfl
theorem Alk (R':Value→Pr→List (Chunk Sg)→Prop) (S0:List Ab→List (Chunk Sg)→Prop) (b:Nat) (l:List BB) (bb:Nat) (q0:Addr) (s0:Sg) (l':List BB) (a:Option Nat) (cap n:Nat):
 (run Try.prog He [2999998] 60 (Bg Try.f38) Try.f38.results.toList Try.f38.ntmps [.ops [0,1,1] 3, .code [1,1,1]] [⟨5,none,Ba a n cap, .pt 3 .slice⟩] (k1 b l bb q0 s0 l' a cap)).holds R' (λtd L K=>S0 td K)=
 (R' (kS (mB (λb=>⟨b,0,none⟩) a) n cap) (kZ 3 oA) ([kQ b l none,jG bb 58 [(kW (some b),kZ 0 mH)],kL q0 s0,kU a 55 (iV l') cap [Ak.ints iB (mN (λx=>x.1) l'),Ak.ints iB (mN (λx=>x.2) l')]])):=by
 kernel_rfl
section
variable {E:Ev} {G:Hp}
abbrev Aen:FuncId:=67
noncomputable abbrev coB:Code:=Bg Try.f67
theorem Aeo (b:Nat) (l:List BB) (bb:Nat) (q0:Addr) (s0:Sg) (l':List BB) (a:Option Nat) (cap:Nat):CP (k1 b l bb q0 s0 l' a cap):=Ou (by simp [k1,k0,rowB,cellsAll,Aw,Bl,CE])
theorem Ajh {xs ys:LI} (h:ys.length=xs.length):(Jc xs ys).map (·.1)=xs∧(Jc xs ys).map (·.2)=ys:=by
 unfold Jc
 exact ⟨List.map_fst_zip (by omega),List.map_snd_zip (by omega)⟩
set_option maxRecDepth 100000 in
theorem Aji {b bb:Nat} {l:List BB} {q0:Addr} {s0:Sg} (hl:l.length≤1000) {R:Ending→World→Prop} {w:World} (hS:Ae Dg E G w (k0 b l bb q0 s0))
 (hR:∀(l':List BB) a cap w',l'.Perm l→Ae Dg E G w' (k1 b l bb q0 s0 l' a cap)→R (.returned (Ba a l'.length cap)) w'):
 Calls Try.prog Aen #[Jd bb] w R:=by
 refine Hy Try.func67 (c:=coB) (by kernel_rfl) ?_
 have hgo:Sl.SW Dg Try.prog Aen R coB Try.f67.ntmps E G [.code []] (Di 0 [(Jd bb, .many [.pt 1 (.cell 0)])]) (k0 b l bb q0 s0):=by
  refine pcF (f:=Aen) DV Try.func67 (Ajf (λ_ _ _=>False) (λtd e3 K=>td=[.ops [0,1] 1, .code [1,1]]∧e3=some ⟨3,none,Jd bb, .many [.pt 1 (.cell 0)]⟩∧K=k0 b l bb q0 s0) b l bb q0 s0)
   (λ_ _ _ _ h=>h.elim) (λtd L K h=>?_) ⟨rfl,rfl,rfl⟩
  obtain ⟨rfl,e3,rfl⟩:=h
  refine Sl.SW.sub Dg (L':=[⟨3,none,Jd bb, .many [.pt 1 (.cell 0)]⟩]) ?_ (λe he=>by
   simp only [iE,jK,or_false] at he
   subst he;exact (BV e3).1)
  refine Sl.SW.opCall Dg (α:={x:List BB×Option Nat×Nat//x.1.Perm l}) (vf:= λx=>Ba x.1.2.1 x.1.1.length x.1.2.2) (pf:= λ_=> .pt 3 .slice) (Kf:= λx=>k1 b l bb q0 s0 x.1.1 x.1.2.1 x.1.2.2) (g:=JJ) rfl (by kernel_rfl) rfl (λhk x=>⟨AY.append _ _,Aeo _ _ _ _ _ _ _ _,?_⟩) (λw hS=>?_) (λx=>?_)
  ·exact Bf.2 ⟨_,rfl,rfl⟩
  ·refine Aje hl hS λst a w' hI h1=>?_
   obtain ⟨e1,e2⟩:=Ajh hI.1
   have e3:(Jc (gL st 0) (gL st 1)).length=(gL st 0).length:=AfA hI.1.symm
   refine ⟨⟨(Jc (gL st 0) (gL st 1),a.1,a.2),by simpa using hI.2⟩,?_,?_⟩
   ·show Ending.returned (Ba a.1 (gL st 0).length a.2)=Ending.returned (Ba a.1 (Jc (gL st 0) (gL st 1)).length a.2)
    rw [e3]
   ·show Ae Dg E G w' (k0 b l bb q0 s0++[.row a.1 55 (Jc (gL st 0) (gL st 1)).length a.2 [.ints .i64 ((Jc (gL st 0) (gL st 1)).map (·.1)), .ints .i64 ((Jc (gL st 0) (gL st 1)).map (·.2))]])
    rw [e1,e2,e3]
    exact h1
  ·obtain ⟨⟨l',a,cap⟩,hp⟩:=x
   refine Sl.SW.sub Dg (L':=[⟨4,none,Ba a l'.length cap, .pt 3 .slice⟩]) ?_ (λe he=>by
    simp only [iE,jK,or_false] at he
    subst he
    exact nD _)
   refine pcF (f:=Aen) DV Try.func67 (Ali (λv p K=>v=Ba a l'.length cap∧K=k1 b l bb q0 s0 l' a cap) (λ_ _=>False) b l bb q0 s0 l' a cap) (λv p K w h hS=>?_) (λ_ _ _ h=>False.elim h) ⟨rfl,rfl⟩
   obtain ⟨rfl,rfl⟩:=h
   exact hR l' a cap w hp hS
 exact hgo _ w (Fr.start (n:=Try.f67.ntmps) [(Jd bb, .many [.pt 1 (.cell 0)])] (iP (by kernel_rfl)) (λx hx=>by
  simp only [iE,jK,or_false] at hx
  subst hx
  simp only [Bl,Aw,and_true];exact ⟨_,rfl,rfl⟩) (Aek _ _ _ _ _)) hS
theorem Akk {l l':Bs} (e:l.length=l'.length) {a:Option Nat} {cap:Nat} {v:Value} {pk:PK} (h:CE (rowB a cap l) v pk):CE (rowB a cap l') v pk:=by
 cases pk<;>simp only [CE,rowB,jI,mI] at h ⊢ <;>first|exact h|(rw [←e];exact h)
abbrev VY:FuncId:=38
noncomputable abbrev Oy:Code:=Bg Try.f38
abbrev Y8:Value:= .func (.func Vl) #[] #[]
set_option maxRecDepth 100000 in
theorem Ajj {b bb:Nat} {l:List BB} {q0:Addr} {s0:Sg} (hl:l.length≤1000) (hb:inB l) {R:Ending→World→Prop} {w:World} (hS:Ae Dg E G w (k0 b l bb q0 s0))
 (hR:∀(l':List BB) a cap w',l'.Perm l→JK l'→Ae Dg E G w' (k1 b l bb q0 s0 l' a cap)→R (.returned (Ba a l'.length cap)) w'):
 Calls Try.prog VY #[Jd bb,Y8] w R:=by
 refine Hy Try.func38 (c:=Oy) (by kernel_rfl) ?_
 have hgo:Sl.SW Dg Try.prog VY R Oy Try.f38.ntmps E G [.code []] (Di 0 [(Jd bb, .many [.pt 1 (.cell 0)]),(Y8, .no)]) (k0 b l bb q0 s0):=by
  refine pcF (f:=VY) DV Try.func38 (Ajg (λ_ _ _=>False) (λtd e6 e1 K=>td=[.ops [0,1] 1, .code [1,1]]∧e6=some ⟨6,none,Jd bb, .many [.pt 1 (.cell 0)]⟩∧e1=some ⟨1,none,Y8, .no⟩∧K=k0 b l bb q0 s0) b l bb q0 s0)
   (λ_ _ _ _ h=>h.elim) (λtd L K h=>?_) ⟨rfl,rfl,rfl,rfl⟩
  obtain ⟨rfl,e6,e1,rfl⟩:=h
  refine Sl.SW.sub Dg (L':=[⟨6,none,Jd bb, .many [.pt 1 (.cell 0)]⟩,⟨1,none,Y8, .no⟩]) ?_ (λe he=>by
   simp only [iE,jK,or_false] at he
   rcases he with rfl|rfl
   ·exact (BV e6).1
   ·exact (BV e1).1)
  refine Sl.SW.opCall Dg (α:={x:List BB×Option Nat×Nat//x.1.Perm l}) (vf:= λx=>Ba x.1.2.1 x.1.1.length x.1.2.2) (pf:= λ_=> .pt 3 .slice) (Kf:= λx=>k1 b l bb q0 s0 x.1.1 x.1.2.1 x.1.2.2) (g:=Aen) rfl (by kernel_rfl) rfl (λhk x=>⟨AY.append _ _,Aeo _ _ _ _ _ _ _ _,?_⟩) (λw hS=>?_) (λx=>?_)
  ·exact Bf.2 ⟨_,rfl,rfl⟩
  ·exact Aji hl hS λl' a cap w' hp h1=>⟨⟨(l',a,cap),hp⟩,rfl,h1⟩
  ·obtain ⟨⟨l',a,cap⟩,hp⟩:=x
   dsimp only at hp
   refine Sl.SW.sub Dg (L':=[⟨7,none,Ba a l'.length cap, .pt 3 .slice⟩,⟨1,none,Y8, .no⟩]) ?_ (λe he=>by
    simp only [iE,jK,or_false] at he
    rcases he with rfl|rfl
    ·exact nD _
    ·exact lU _ (lU _ (nD _)))
   refine pcF (f:=VY) DV Try.func38 (Alj (λ_ _ _=>False) (λtd e8 e9 e5 K=>td=[.ops [0,1,1] 2, .code [1,1,1]]∧e8=some ⟨8,none,Ba a l'.length cap, .pt 3 .slice⟩∧e9=some ⟨9,none,Y8, .no⟩∧e5=some ⟨5,none,Ba a l'.length cap, .pt 3 .slice⟩∧K=k1 b l bb q0 s0 l' a cap) b l bb q0 s0 l' a cap)
    (λ_ _ _ _ h=>h.elim) (λtd L K h=>?_) ⟨rfl,rfl,rfl,rfl,rfl⟩
   obtain ⟨rfl,e8,e9,e5,rfl⟩:=h
   refine Sl.SW.sub Dg (L':=[⟨8,none,Ba a l'.length cap, .pt 3 .slice⟩,⟨9,none,Y8, .no⟩,⟨5,none,Ba a l'.length cap, .pt 3 .slice⟩]) ?_ (λe he=>by
    simp only [iE,jK,or_false] at he
    rcases he with rfl|rfl|rfl
    ·exact (BV e8).1
    ·exact (BV e9).1
    ·exact (BV e5).1)
   refine Sl.SW.opCall Dg (α:={x:List BB//x.Perm l'∧JK x}) (vf:= λ_=> .tuple #[]) (pf:= λ_=> .no) (Kf:= λx=>k1 b l bb q0 s0 x.1 a cap) (g:=Alh) rfl (by kernel_rfl) rfl (λhk x=>⟨?_,Aeo _ _ _ _ _ _ _ _,Ar⟩) (λw hS=>?_) (λx=>?_)
   ·refine AY.set (K:=k1 b l bb q0 s0 l' a cap) (i:=3) rfl λv pk h=>?_
    have e:=x.2.1.length_eq
    exact Akk e.symm h
   ·refine (Aif (j:=3) hS rfl (λy hy=>hb y (hp.mem_iff.1 hy)) (by rw [hp.length_eq];exact hl)).mono ?_
    rintro e w' ⟨rfl,l2,h1,h2,h3⟩
    exact ⟨⟨l2,h1,h2⟩,rfl,h3⟩
   ·obtain ⟨l2,h1,h2⟩:=x
    refine Sl.SW.sub Dg (L':=[⟨5,none,Ba a l'.length cap, .pt 3 .slice⟩]) ?_ (λe he=>by
     simp only [iE,jK,or_false] at he
     subst he
     exact lU _ (lU _ (lU _ (nD _))))
    refine pcF (f:=VY) DV Try.func38 (Alk (λv p K=>v=Ba a l'.length cap∧K=k1 b l bb q0 s0 l2 a cap) (λ_ _=>False) b l bb q0 s0 l2 a cap l'.length) (λv p K w h hS=>?_) (λ_ _ _ h=>False.elim h) ⟨rfl,rfl⟩
    obtain ⟨rfl,rfl⟩:=h
    rw [←h1.length_eq]
    exact hR l2 a cap w (h1.trans hp) h2 hS
 exact hgo _ w (Fr.start (n:=Try.f38.ntmps) [(Jd bb, .many [.pt 1 (.cell 0)]),(Y8, .no)] (iP (by kernel_rfl)) (λx hx=>by
  simp only [iE,jK,or_false] at hx
  rcases hx with rfl|rfl
  ·simp only [Bl,Aw,and_true];exact ⟨_,rfl,rfl⟩
  ·exact Ar) (Aek _ _ _ _ _)) hS
end
end
section
open Go Go.Sl
abbrev DI:Ct Sg:=⟨some Cc,true,[], .agg [.new 55 [some .i64,some .i64], .i .i64, .i .i64, .i .i64, .i .i64, .i .i64, .i .i64, .i .i64, .i .i64]⟩
abbrev mC (o b k:Nat) (t p h x0 x1 x2 x3 x4 x5 x6 x7:Int):Chunk Sg:= .cells o 60 [(.int .i64 t, .no),(.int .i64 p, .no),(.int .i64 h, .no),(.map (some b), .pt k .map),(.int .i64 x0, .no),(.int .i64 x1, .no),(.int .i64 x2, .no),(.int .i64 x3, .no),(.int .i64 x4, .no),(.int .i64 x5, .no),(.int .i64 x6, .no),(.int .i64 x7, .no)]
abbrev zC (z:Nat):Chunk Sg:= .cells z 27 [(.slice none 0 0, .no),(.int .i64 0, .no),(.int .i64 0, .no),(.int .i64 0, .no),(.int .i64 0, .no),(.int .i64 0, .no),(.int .i64 0, .no),(.int .i64 0, .no),(.int .i64 0, .no)]
abbrev sK1 (o b z bb:Nat) (l:List BB) (t p h x0 x1 x2 x3 x4 x5 x6 x7:Int):List (Chunk Sg):=[mC o b 1 t p h x0 x1 x2 x3 x4 x5 x6 x7, .bm b l none,zC z, .cells bb 58 [(.map (some b), .pt 1 .map)]]
theorem Ajk (R':Value→Pr→List (Chunk Sg)→Prop) (S0:List Ab→Option Af→Option Af→Option Af→List (Chunk Sg)→Prop) (o:Nat) (ad ad2:Nat→Ad) (s:MS) (t p h:Int) (l:List BB) (x0 x1 x2 x3 x4 x5 x6 x7:Int):
 (run Try.prog He [2999998,26,39] 100 (Bg Try.f12) Try.f12.results.toList Try.f12.ntmps [.code []] (Ju 0 (DI.sL ⟨o,0,none⟩ [.st (.mod s)] ad)) (BQ.opK 0 o ad2 [.i t, .i p, .i h, .bl l, .i x0, .i x1, .i x2, .i x3, .i x4, .i x5, .i x6, .i x7] (DI.sK ⟨o,0,none⟩ [.st (.mod s)] ad))).holds R' (λtd L K=>S0 td (Sl.look L 12) (Sl.look L 0) (Sl.look L 2) K)=
 (∀b0_0:Nat,(Bo (false) (R' (Value.agg ⟨[kS none 0 0,iX iB (0:Int),iX iB (0:Int),iX iB (0:Int),iX iB (0:Int),iX iB (0:Int),iX iB (0:Int),iX iB (0:Int),iX iB (0:Int)]⟩) (kE) ([jG o 60 [(iX iB t,kE),(iX iB p,kE),(iX iB h,kE),(kW (some (Ad.b (ad2 0))),kZ 1 mH),(iX iB x0,kE),(iX iB x1,kE),(iX iB x2,kE),(iX iB x3,kE),(iX iB x4,kE),(iX iB x5,kE),(iX iB x6,kE),(iX iB x7,kE)],kQ (Ad.b (ad2 0)) l none,jG b0_0 27 [(kS none 0 0,kE),(iX iB (0:Int),kE),(iX iB (0:Int),kE),(iX iB (0:Int),kE),(iX iB (0:Int),kE),(iX iB (0:Int),kE),(iX iB (0:Int),kE),(iX iB (0:Int),kE),(iX iB (0:Int),kE)]])) (∀b2_0:Nat,(S0 ([Ab.ops [0,1,1] 5,Ab.code [1,1,1]]) (some ⟨12,none,lS (Fn.func 69) ⟨[]⟩ ⟨[kB (some ⟨b2_0,0,none⟩)]⟩,Pr.many [kZ 3 (nJ 0)]⟩) (some ⟨0,none,kB (some ⟨o,0,none⟩),kZ 0 (nJ 0)⟩) (some ⟨2,none,kB (some ⟨b0_0,0,none⟩),kZ 2 (nJ 0)⟩) ([jG o 60 [(iX iB t,kE),(iX iB p,kE),(iX iB h,kE),(kW (some (Ad.b (ad2 0))),kZ 1 mH),(iX iB x0,kE),(iX iB x1,kE),(iX iB x2,kE),(iX iB x3,kE),(iX iB x4,kE),(iX iB x5,kE),(iX iB x6,kE),(iX iB x7,kE)],kQ (Ad.b (ad2 0)) l none,jG b0_0 27 [(kS none 0 0,kE),(iX iB (0:Int),kE),(iX iB (0:Int),kE),(iX iB (0:Int),kE),(iX iB (0:Int),kE),(iX iB (0:Int),kE),(iX iB (0:Int),kE),(iX iB (0:Int),kE),(iX iB (0:Int),kE)],jG b2_0 58 [(kW (some (Ad.b (ad2 0))),kZ 1 mH)]]))))):=by
 kernel_rfl
theorem Alm (R':Value→Pr→List (Chunk Sg)→Prop) (S0:List Ab→List (Chunk Sg)→Prop) (o b z bb:Nat) (l l':List BB) (a:Option Nat) (cap:Nat) (t p h x0 x1 x2 x3 x4 x5 x6 x7:Int):
 (run Try.prog He [2999998] 100 (Bg Try.f12) Try.f12.results.toList Try.f12.ntmps [.ops [0,1,1] 6, .code [1,1,1]] [⟨13,none,Ba a l'.length cap, .pt 4 .slice⟩,⟨0,none, .pointer (some ⟨o,0,none⟩), .pt 0 (.cell 0)⟩,⟨2,none, .pointer (some ⟨z,0,none⟩), .pt 2 (.cell 0)⟩] (sK1 o b z bb l t p h x0 x1 x2 x3 x4 x5 x6 x7++[rowB a cap l'])).holds R' (λtd L K=>S0 td K)=
 (R' (Value.agg ⟨[kS (mB (λb=>⟨b,0,none⟩) a) (iV l') cap,iX iB x0,iX iB x1,iX iB x2,iX iB x3,iX iB x4,iX iB x5,iX iB x6,iX iB x7]⟩) (Pr.many [kZ 4 oA,kE,kE,kE,kE,kE,kE,kE,kE]) ([jG o 60 [(iX iB t,kE),(iX iB p,kE),(iX iB h,kE),(kW (some b),kZ 1 mH),(iX iB x0,kE),(iX iB x1,kE),(iX iB x2,kE),(iX iB x3,kE),(iX iB x4,kE),(iX iB x5,kE),(iX iB x6,kE),(iX iB x7,kE)],kQ b l none,jG z 27 [(kS (mB (λb=>⟨b,0,none⟩) a) (iV l') cap,kZ 4 oA),(iX iB x0,kE),(iX iB x1,kE),(iX iB x2,kE),(iX iB x3,kE),(iX iB x4,kE),(iX iB x5,kE),(iX iB x6,kE),(iX iB x7,kE)],jG bb 58 [(kW (some b),kZ 1 mH)],kU a 55 (iV l') cap [Ak.ints iB (mN (λx=>x.1) l'),Ak.ints iB (mN (λx=>x.2) l')]])):=by
 kernel_rfl
theorem SV:∀(l:Bs) (b:Int×Int),(insL l b).Perm (b::l)
 |[],b=>nZ _
 |x::r,b=>by
  unfold insL
  cases decide (x.1>b.1) with
  |true=>exact nZ _
  |false=>exact ((SV r b).cons x).trans (List.Perm.swap b x r)
theorem Aep:∀(l:Bs) (b:Int×Int),JK l→JK (insL l b)
 |[],b,_=>List.pairwise_singleton _ _
 |x::r,b,h=>by
  obtain ⟨h1,h2⟩:=List.pairwise_cons.1 h
  unfold insL
  cases hx:decide (x.1>b.1) with
  |true=>
   have hx:=of_decide_eq_true hx
   refine List.pairwise_cons.2 ⟨λy hy=>?_,h⟩
   rcases iE.1 hy with rfl|hy
   ·show b.1≤y.1;omega
   ·have:=h1 y hy;show b.1≤y.1;omega
  |false=>
   have hx:=of_decide_eq_false hx
   refine List.pairwise_cons.2 ⟨λy hy=>?_,Aep r b h2⟩
   rcases iE.1 ((SV r b).mem_iff.1 hy) with rfl|hy
   ·show x.1≤y.1;omega
   ·exact h1 y hy
theorem mem3 {a b c:Af} {L:List Af} (ha:a∈L) (hb:b∈L) (hc:c∈L):∀e∈[a,b,c],e∈L:= λe he=>by
 simp only [iE,jK,or_false] at he
 rcases he with rfl|rfl|rfl
 ·exact ha
 ·exact hb
 ·exact hc
theorem TQ (l:Bs):(Bz l).Perm l∧JK (Bz l):=by
 have key:∀(l a:Bs),JK a→(l.foldl insL a).Perm (a++l)∧JK (l.foldl insL a):=by
  intro l
  induction l with
  |nil=>intro a ha;exact ⟨by simp,ha⟩
  |cons x l ih=>
   intro a ha
   obtain ⟨h1,h2⟩:=ih (insL a x) (Aep a x ha)
   refine ⟨h1.trans ?_,h2⟩
   exact ((SV a x).append_right l).trans List.perm_middle.symm
 have h:=key l [] List.Pairwise.nil
 exact ⟨h.1,h.2⟩
theorem AgI:∀{l:Bs},BC l→∀{x y:Int×Int},x∈l→y∈l→x.1=y.1→x=y
 |[],_,x,_,hx,_,_=>by cases hx
 |z::l,h,x,y,hx,hy,e=>by
  obtain ⟨h1,h2⟩:=lJ.1 (show (z.1::l.map (·.1)).Nodup from h)
  rcases iE.1 hx with e1|hx'<;>rcases iE.1 hy with e2|hy'
  ·rw [e1,e2]
  ·subst e1;exact absurd (kG.2 ⟨y,hy',e.symm⟩) h1
  ·subst e2;exact absurd (kG.2 ⟨x,hx',e⟩) h1
  ·exact AgI h2 hx' hy' e
theorem Aeq {l l':Bs} (hn:BC l) (hp:l'.Perm l) (ho:JK l'):l'=Bz l:=by
 obtain ⟨h1,h2⟩:=TQ l
 refine List.Perm.eq_of_pairwise (le:= λx y:Int×Int=>x.1≤y.1) (λx y hx hy a b=>AgI hn (hp.mem_iff.1 hx) (h1.mem_iff.1 hy) (Int.le_antisymm a b)) ho h2 (hp.trans h1.symm)
def Dx (s:MS):LI×LI×Int×Int×Int×Int×Int×Int×Int×Int:=((Bz s.l).map (·.1),(Bz s.l).map (·.2),s.r0,s.r1,s.r2,s.r3,s.r4,s.r5,s.r6,s.r7)
def Abn:Entry Sg:=CW DI Dx (λs=>[BC s.l,s.l.length≤1000,inB s.l])
abbrev VZ:FuncId:=12
noncomputable abbrev saB:Code:=Bg Try.f12
noncomputable abbrev saN:Nat:=Try.f12.ntmps
section
variable {E:Ev} {G:Hp} {o b z bb:Nat} {l:List BB} {t p h x0 x1 x2 x3 x4 x5 x6 x7:Int} {w:World}
theorem Akl (a:Option Nat) (cap:Nat) (l':Bs):CP (sK1 o b z bb l t p h x0 x1 x2 x3 x4 x5 x6 x7++[rowB a cap l']):=Ou (by simp [sK1,mC,zC,rowB,cellsAll,Aw,Bl,CE])
set_option maxRecDepth 100000 in
theorem Akm (hl:l.length≤1000) (hb:inB l) (hS:Ae Dg E G w (sK1 o b z bb l t p h x0 x1 x2 x3 x4 x5 x6 x7)):
 Calls Try.prog VY #[Jd bb,Y8] w λen w'=>∃x:{x:List BB×Option Nat×Nat//x.1.Perm l∧JK x.1},en= .returned (Ba x.1.2.1 x.1.1.length x.1.2.2)∧Ae Dg E G w' (sK1 o b z bb l t p h x0 x1 x2 x3 x4 x5 x6 x7++[rowB x.1.2.1 x.1.2.2 x.1.1]):=by
 let A:LL→BN:= λ_ Y k=>Sl.star (([mC o b 1 t p h x0 x1 x2 x3 x4 x5 x6 x7,zC z]:List (Chunk Sg)).map (den Dg G)) Y k
 have h1:Ae Dg E G w ([mC o b 1 t p h x0 x1 x2 x3 x4 x5 x6 x7,zC z]++[.bm b l none, .cells bb 58 [(.map (some b), .pt 0 .map)]]):=Ae.ord Dg hS [0,2,1,3] rfl rfl
 have h2:=Ae.Ah5 Dg (c:= .obj ⟨0,0,none⟩ (.any A [])) h1 λY k hx=>hx
 have h3:Ae Dg E G w (k0 b l bb ⟨0,0,none⟩ (.any A [])):=Ae.ord Dg h2 [1,2,0] rfl rfl
 refine Ajj hl hb h3 λl' a cap w' hp ho h4=>⟨⟨(l',a,cap),hp,ho⟩,rfl,?_⟩
 obtain ⟨_,h5⟩:=Ae.Adl Dg (α:=Unit) (k0:= λ_=>mC o b 1 t p h x0 x1 x2 x3 x4 x5 x6 x7) (ks:= λ_=>[zC z]) h4 (k:=2) (c:= .obj ⟨0,0,none⟩ (.any A [])) rfl (by funext Y h;exact propext ⟨λh=>⟨(),h⟩, λ⟨_,h⟩=>h⟩)
 exact Ae.ord Dg h5 [2,0,4,1,3] rfl rfl
set_option maxRecDepth 100000 in
theorem Alo (ad0:Ad) (hn:BC l) {l':Bs} {a:Option Nat} {cap:Nat} (hp:l'.Perm l) (ho:JK l'):
 Sl.SW Dg Try.prog VZ (Post Dg E G (DI.outC (Dx ⟨t,p,h,l,x0,x1,x2,x3,x4,x5,x6,x7⟩)) (DI.nwC ⟨o,0,none⟩ [.st (.mod ⟨t,p,h,l,x0,x1,x2,x3,x4,x5,x6,x7⟩)] (Dx ⟨t,p,h,l,x0,x1,x2,x3,x4,x5,x6,x7⟩)) (DI.mksC (Dx ⟨t,p,h,l,x0,x1,x2,x3,x4,x5,x6,x7⟩))) saB saN E G [.ops [0,1,1] 6, .code [1,1,1]] [⟨13,none,Ba a l'.length cap, .pt 4 .slice⟩,⟨0,none, .pointer (some ⟨o,0,none⟩), .pt 0 (.cell 0)⟩,⟨2,none, .pointer (some ⟨z,0,none⟩), .pt 2 (.cell 0)⟩] (sK1 o b z bb l t p h x0 x1 x2 x3 x4 x5 x6 x7++[rowB a cap l']):=by
 refine pcF (f:=VZ) DV Try.func12 (Alm (λv p' K=>v= .agg #[Ba a l'.length cap, .int .i64 x0, .int .i64 x1, .int .i64 x2, .int .i64 x3, .int .i64 x4, .int .i64 x5, .int .i64 x6, .int .i64 x7]∧∃c2,K=[mC o b 1 t p h x0 x1 x2 x3 x4 x5 x6 x7, .bm b l none,c2, .cells bb 58 [(.map (some b), .pt 1 .map)],rowB a cap l']) (λ_ _=>False) o b z bb l l' a cap t p h x0 x1 x2 x3 x4 x5 x6 x7) (λv p' K w hv hS=>?_) (λ_ _ _ h=>False.elim h) ⟨rfl,_,rfl⟩
 obtain ⟨rfl,c2,rfl⟩:=hv
 have e:=Aeq hn hp ho
 subst e
 have h1:Ae Dg E G w [mC o b 1 t p h x0 x1 x2 x3 x4 x5 x6 x7, .bm b l none, .row a 55 ((Bz l).map (·.1)).length cap [.ints .i64 ((Bz l).map (·.1)), .ints .i64 ((Bz l).map (·.2))]]:=by
  rw [kD]
  exact Ae.ord Dg hS [0,1,4] rfl rfl
 refine ⟨[(a,cap)],⟨trivial,trivial⟩,?_,?_⟩
 ·show _=Ending.returned (.agg #[Ba a ((Bz l).map (·.1)).length cap, .int .i64 x0, .int .i64 x1, .int .i64 x2, .int .i64 x3, .int .i64 x4, .int .i64 x5, .int .i64 x6, .int .i64 x7])
  rw [kD]
 ·have h2:Sat E G w ((BQ.bk o (λ_=>{ad0 with b:=b}) 1 [.i t, .i p, .i h, .bl l, .i x0, .i x1, .i x2, .i x3, .i x4, .i x5, .i x6, .i x7]).map (den Dg G)++[den Dg G (.row a 55 ((Bz l).map (λx:Int×Int=>x.1)).length cap [.ints .i64 ((Bz l).map (λx:Int×Int=>x.1)), .ints .i64 ((Bz l).map (λx:Int×Int=>x.2))])]):=h1
  have hR:BQ.R (⟨t,p,h,l,x0,x1,x2,x3,x4,x5,x6,x7⟩:MS) [.i t, .i p, .i h, .bl l, .i x0, .i x1, .i x2, .i x3, .i x4, .i x5, .i x6, .i x7]:=show BG (⟨t,p,h,l,x0,x1,x2,x3,x4,x5,x6,x7⟩:MS) (⟨t,p,h,l,x0,x1,x2,x3,x4,x5,x6,x7⟩:MS) from rfl
  have h2:=Bx.fold Dg Fa rfl hR h2
  exact h2
end
set_option maxRecDepth 100000 in
theorem AgJ:EF VZ Abn:=by
 refine QU Dg (mk:=[]) DV (I:=[]) Try.func12 mix (B:=saB) (by kernel_rfl) rfl (by kernel_rfl) 0 λp0 s hbd hp ad E G=>?_
 have hp0:BC s.l:=hp _ (.head _)
 have hp1:s.l.length≤1000:=hp _ (.tail _ (.head _))
 have hp2:inB s.l:=hp _ (.tail _ (.tail _ (.head _)))
 show Sl.SW Dg Try.prog VZ (Post Dg E G (DI.outC (Dx s)) (DI.nwC p0 [.st (.mod s)] (Dx s)) (DI.mksC (Dx s))) saB saN E G [.code []] (DI.sL p0 [.st (.mod s)] ad) (DI.sK p0 [.st (.mod s)] ad)
 refine Bx.addr Dg Fa 0 (p0:=p0) (s:=s) rfl λo e=>?_
 subst e
 refine Bx.Zn Dg Fa 0 (s:=s) rfl λo' ad2 y e hfy hRy=>?_
 injection e with e;subst e
 have key:Eh (Hq BQ.l) λy=>BQ.R s y→Sl.SW Dg Try.prog VZ (Post Dg E G (DI.outC (Dx s)) (DI.nwC ⟨o,0,none⟩ [.st (.mod s)] (Dx s)) (DI.mksC (Dx s))) saB saN E G [.code []] (Ju 0 (DI.sL ⟨o,0,none⟩ [.st (.mod s)] ad)) (BQ.opK 0 o ad2 y (DI.sK ⟨o,0,none⟩ [.st (.mod s)] ad)):=by
  intro t p h l x0 x1 x2 x3 x4 x5 x6 x7 hR
  have e:(⟨t,p,h,l,x0,x1,x2,x3,x4,x5,x6,x7⟩:MS)=s:=hR
  subst e
  refine pcF (f:=VZ) DV Try.func12 (Ajk (λ_ _ _=>False) (λtd e12 e0 e2 K=>∃z bb,td=[.ops [0,1,1] 5, .code [1,1,1]]∧e12=some ⟨12,none,Jd bb, .many [.pt 3 (.cell 0)]⟩∧e0=some ⟨0,none, .pointer (some ⟨o,0,none⟩), .pt 0 (.cell 0)⟩∧e2=some ⟨2,none, .pointer (some ⟨z,0,none⟩), .pt 2 (.cell 0)⟩∧K=sK1 o (ad2 0).b z bb l t p h x0 x1 x2 x3 x4 x5 x6 x7) o ad ad2 _ t p h l x0 x1 x2 x3 x4 x5 x6 x7) (λ_ _ _ _ h=>False.elim h) (λtd L K hz=>?_) (λz=>⟨λh=>(by cases h), λ_ bb=>⟨z,bb,rfl,rfl,rfl,rfl,rfl⟩⟩)
  obtain ⟨z,bb,rfl,e12,e0,e2,rfl⟩:=hz
  refine Sl.SW.sub Dg (L':=[⟨12,none,Jd bb, .many [.pt 3 (.cell 0)]⟩,⟨0,none, .pointer (some ⟨o,0,none⟩), .pt 0 (.cell 0)⟩,⟨2,none, .pointer (some ⟨z,0,none⟩), .pt 2 (.cell 0)⟩]) ?_ (mem3 (BV e12).1 (BV e0).1 (BV e2).1)
  refine Sl.SW.opCall Dg (α:={x:List BB×Option Nat×Nat//x.1.Perm l∧JK x.1}) (vf:= λx=>Ba x.1.2.1 x.1.1.length x.1.2.2) (pf:= λ_=> .pt 4 .slice) (Kf:= λx=>sK1 o (ad2 0).b z bb l t p h x0 x1 x2 x3 x4 x5 x6 x7++[rowB x.1.2.1 x.1.2.2 x.1.1]) (g:=VY) rfl (by kernel_rfl) rfl (λhk x=>⟨AY.append _ _,Akl _ _ _,?_⟩) (λw hS=>Akm hp1 hp2 hS) (λx=>?_)
  ·exact Bf.2 ⟨_,rfl,rfl⟩
  ·obtain ⟨⟨l',a,cap⟩,h1,h2⟩:=x
   dsimp only at h1 h2
   refine Sl.SW.sub Dg (L':=[⟨13,none,Ba a l'.length cap, .pt 4 .slice⟩,⟨0,none, .pointer (some ⟨o,0,none⟩), .pt 0 (.cell 0)⟩,⟨2,none, .pointer (some ⟨z,0,none⟩), .pt 2 (.cell 0)⟩]) (Alo (ad2 0) hp0 h1 h2) (mem3 (nD _) (lU _ (lU _ (nD _))) (lU _ (lU _ (lU _ (nD _)))))
 exact key.at y hfy hRy
def Abp:Tb:=(VZ,Abn)::AhT
theorem SX:CQ Abp:=EO AgJ AhU
end
section
open Go.Sl
theorem Alp:(AP ⟨1,8,10,[],0,0,0,0,0,0,0,0⟩ 1 20 0 0 1024 32&&AP ⟨1,8,10,[],0,0,0,0,0,0,0,0⟩ 1 20 0 0 1040 32&&AP ⟨1,8,10,[],0,0,0,0,0,0,0,0⟩ 1 20 0 3 0 0&&!AP ⟨1,8,10,[],0,0,0,0,0,0,0,0⟩ 1 20 0 0 1024 20)=true:=by kernel_rfl
def Aig:Bool:=true
def Aer:Bool:=(let r0:MS:={t:=1,p:=8,h:=10,l:=[],r0:=0,r1:=0,r2:=0,r3:=0,r4:=0,r5:=0,r6:=0,r7:=0};(let r4:Bool:=AP r0 1 20 0 0 1024 32;r4&&AP r0 1 20 0 0 1040 32&&AP r0 1 20 0 3 0 0&&!AP r0 1 20 0 0 1024 20))
abbrev Ajl:Ct Sg:=⟨none,false,[], .b⟩
def We:Entry Sg:=CW Ajl Aig ([])
theorem Aih:Aer=Aig:=by
 exact Alp
theorem Abq:EF 7 We:=
 Fv Dg SX (I:=[2999998]) Try.func7 mix (B:=Bg Try.f7) (by kernel_rfl) rfl (by kernel_rfl) 400
  λ_ hb hp=>⟨(Aer),(.bind ({t:=1,p:=8,h:=10,l:=[],r0:=0,r1:=0,r2:=0,r3:=0,r4:=0,r5:=0,r6:=0,r7:=0}) λr0:MS=>(.need ((0:Int)=0) (.bind (AP r0 1 20 0 0 1024 32) λr4:Bool=>(.need (BC (MS.l r0)) (.need (r4=true→BC (MS.l r0)) (.need ((r4&&AP r0 1 20 0 0 1040 32)=true→BC (MS.l r0)) (.need ((r4&&AP r0 1 20 0 0 1040 32&&AP r0 1 20 0 3 0 0)=true→BC (MS.l r0)) .t))))))), λ_ _ _=>by kernel_rfl,(λr0 e0=>⟨(by first|(subst_vars;exact lD)|(intro;subst_vars;exact lD)|rfl), λz1=>(λr4 e4=>⟨(by first|(subst_vars;exact lD)|(intro;subst_vars;exact lD)|rfl), λz5=>⟨(by first|(subst_vars;exact lD)|(intro;subst_vars;exact lD)|rfl), λz6=>⟨(by first|(subst_vars;exact lD)|(intro;subst_vars;exact lD)|rfl), λz7=>⟨(by first|(subst_vars;exact lD)|(intro;subst_vars;exact lD)|rfl), λz8=>trivial⟩⟩⟩⟩)⟩),Aih⟩
def Aes:Tb:=(7,We)::Abp
theorem Afg:CQ Aes:=EO Abq SX
def Akn:Tb:=Aes
theorem AgK:CQ Akn:=Afg
end
section
open Go Go.Sl
structure Rt (t p s P:Int):Prop where
 r:Ag t p s=true
 tp:1≤t∧t≤16
 pp:4≤p∧p≤1024
 ss:10≤s∧s≤20
 eP:P=2^s.toNat
 P0:1024≤P∧P≤1048576
 pg:CZ t p s=P
theorem Js {t p s:Int} (h:Ag t p s=true):Rt t p s (2^s.toNat):=by
 have h':=Nu.1 h
 refine ⟨h,h'.1,h'.2.1,h'.2.2,rfl,⟨?_,?_⟩,Aka h⟩
 ·have:=Zo (show 10≤s.toNat by omega);omega
 ·have:=Zo (show s.toNat≤20 by omega);omega
theorem FU {p P:Int} (hp:4≤p∧p≤1024) (hP:1024≤P∧P≤1048576):4096≤P*p∧P*p≤1073741824:=by
 constructor
 ·have:=Int.mul_le_mul hP.1 hp.1 (by decide) (by omega);omega
 ·have:=Int.mul_le_mul hP.2 hp.2 (by omega) (by decide);omega
theorem JL {t p s P:Int} (h:Rt t p s P):CS t p s=P*p∧DF t p s=P*p:=by
 have:=FU h.pp h.P0
 unfold CS DF
 rw [Ik,h.pg,h.r,Gq (by omega)]
 exact ⟨rfl,rfl⟩
theorem SY {t p s:Int} (h:Ag t p s=false):CS t p s=0∧DF t p s=0:=by
 unfold CS DF
 rw [Ik,AaM h,h,Int.zero_mul]
 exact ⟨rfl,rfl⟩
theorem Ajm {t p s P:Int} (h:Rt t p s P):D5 t p s=0:=by rw [IR,h.r];rfl
theorem Aii {t p s:Int} (h:Ag t p s=false):D5 t p s=1:=by rw [IR,h];rfl
theorem Ajn {t p s P z:Int} (h:Rt t p s P) (hz:1≤z∧z≤P*p):F8 t p s z=((z-1)/P+1,true)∧GN t p s z=((z-1)/P+1,true):=by
 have hm:=FU h.pp h.P0
 have hP0:=h.P0
 have hss:=h.ss
 have e1:Int.fdiv (z-1) P=(z-1)/P:=Int.fdiv_eq_ediv_of_nonneg _ (by omega)
 have e2:Int.tdiv z P=z/P:=Int.tdiv_eq_ediv_of_nonneg (by omega)
 have e3:Int.tmod z P=z%P:=Int.tmod_eq_emod_of_nonneg (by omega)
 have h4:=Int.emod_nonneg z (show P≠0 by omega)
 have h5:=Int.emod_lt_of_pos z (show 0<P by omega)
 have h6:=Int.mul_ediv_add_emod z P
 have h7:0≤z/P:=Int.ediv_nonneg (by omega) (by omega)
 have h8:z/P≤z:=Int.ediv_le_self _ (by omega)
 have key:(z-1)/P+1=if 0<z%P then z/P+1 else z/P:=by
  split
  ·congr 1
   have e:z-1=P*(z/P)+(z%P-1):=by omega
   rw [e,Int.mul_add_ediv_left _ _ (by omega),Int.ediv_eq_zero_of_lt (a:=z%P-1) (by omega) (by omega)];omega
  ·have e:z-1=P*(z/P-1)+(P-1):=by rw [Int.mul_sub];omega
   rw [e,Int.mul_add_ediv_left _ _ (by omega),Int.ediv_eq_zero_of_lt (a:=P-1) (by omega) (by omega)];omega
 have hk1:0≤(z-1)/P:=Int.ediv_nonneg (by omega) (by omega)
 have hk2:(z-1)/P≤z-1:=Int.ediv_le_self _ (by omega)
 constructor
 ·have hc:(decide (z<1)||decide (z>CS t p s))=false:=by
   rw [(JL h).1];simp;omega
  unfold F8
  rw [hc]
  simp only [cond_false]
  rw [show min s.toNat 64=s.toNat by omega,←h.eP,Gq (n:=z-1) (by omega),e1,Gq (by omega)]
 ·have hc:(!Ag t p s||decide (z<1)||decide (z>DF t p s))=false:=by
   rw [(JL h).2,h.r];simp;omega
  unfold GN
  rw [hc]
  simp only [cond_false]
  rw [h.pg,e2,e3,key,Gq (n:=z/P) (by omega),Gq (n:=z/P+1) (by omega)]
  by_cases hg:0<z%P
  ·simp [hg]
  ·simp [hg]
theorem Aij {t p s z:Int} (h:¬(Ag t p s=true∧1≤z∧z≤DF t p s)):F8 t p s z=(0,false)∧GN t p s z=(0,false):=by
 have hb:CS t p s=DF t p s:=by
  cases hr:Ag t p s with
  |false=>rw [(SY hr).1,(SY hr).2]
  |true=>rw [(JL (Js hr)).1,(JL (Js hr)).2]
 have hz:Ag t p s=false→DF t p s=0:= λhr=>(SY hr).2
 constructor
 ·have hc:(decide (z<1)||decide (z>CS t p s))=true:=by
   rw [hb]
   simp only [lP,decide_eq_true_eq]
   cases hr:Ag t p s with
   |false=>have:=hz hr;omega
   |true=>have:¬(1≤z∧z≤DF t p s):= λh'=>h ⟨hr,h'⟩
          omega
  unfold F8
  rw [hc];rfl
 ·have hc:(!Ag t p s||decide (z<1)||decide (z>DF t p s))=true:=by
   cases hr:Ag t p s with
   |false=>simp
   |true=>have:¬(1≤z∧z≤DF t p s):= λh'=>h ⟨hr,h'⟩
          simp only [jW,kN,lP,decide_eq_true_eq];omega
  unfold GN
  rw [hc];rfl
theorem Ajo (t p s z:Int):F8 t p s z=GN t p s z:=by
 by_cases h:Ag t p s=true∧1≤z∧z≤DF t p s
 ·have hr:=Js h.1
  rw [(JL hr).2] at h
  obtain ⟨a,b⟩:=Ajn hr h.2
  rw [a,b]
 ·obtain ⟨a,b⟩:=Aij h
  rw [a,b]
theorem AgL (s:Int):EW s=Nq s:=by
 simp only [EW,Nq,AaK]
theorem Ako (s z:Int):JG s z=Xw s z:=by
 unfold JG Xw
 cases hz:decide (z<1) with
 |true=>rfl
 |false=>
  simp only [cond_false,FK,AgL]
  cases hf:JE (Nq s) z with
  |none=>rfl
  |some k=>
   have h0:¬((0:Int)>Jr (some k)):=by simp only [Jr];omega
   rw [if_neg h0]
   simp [Jr,Aj2]
theorem Vm (k a b:Int):FQ k a b=GR k a b:=by
 by_cases hk:k=1∨k=2∨k=3∨k=4∨k=5∨k=6∨k=7∨k=8∨k=9
 ·rcases hk with rfl|rfl|rfl|rfl|rfl|rfl|rfl|rfl|rfl<;>simp [FQ,GR,JH]<;>(cases h:a==0<;>simp [bne,h])
 ·have h1:(k==1)=false:=by simp;omega
  have h2:(k==2)=false:=by simp;omega
  have h3:(k==3)=false:=by simp;omega
  have h4:(k==4)=false:=by simp;omega
  have h5:(k==5)=false:=by simp;omega
  have h6:(k==6)=false:=by simp;omega
  have h7:(k==7)=false:=by simp;omega
  have h8:(k==8)=false:=by simp;omega
  have h9:(k==9)=false:=by simp;omega
  simp [FQ,GR,JH,h1,h2,h3,h4,h5,h6,h7,h8,h9]
theorem P7 (t p h z:Int):Am t p h z=DX t p h z:=by
 unfold Am DX
 rw [Ajo,Ako,AaK,Ik]
 have e:(!(GN t p h z).2)=(!Ag t p h||decide (z<1)||decide (z>DF t p h)):=by
  unfold GN
  cases (!Ag t p h||decide (z<1)||decide (z>DF t p h)) with
  |true=>rfl
  |false=>simp only [cond_false];cases decide (Int.tmod z (CZ t p h)>0)<;>rfl
 rw [e]
end
section
open Go Go.Sl
theorem Aet {t p h a z:Int} (hr:Ag t p h=true):Ja t p h a z=true↔1≤z∧(2:Int)^h.toNat≤a∧a+z≤(2:Int)^h.toNat+(2:Int)^h.toNat*p:=by
 have h1:=Js hr
 have h2:=FU h1.pp h1.P0
 have h3:=h1.P0
 unfold Ja
 rw [Ik,h1.pg,(JL h1).1]
 generalize (2:Int)^h.toNat=P at*
 generalize P*p=B at*
 simp only [iG,decide_eq_true_eq]
 constructor
 ·rintro ⟨⟨⟨g1,g2⟩,g3⟩,g4⟩
  rw [Gq (n:=P+B) (by omega),Gq (n:=P+B-z) (by omega)] at g4
  omega
 ·rintro ⟨g1,g2,g3⟩
  rw [Gq (n:=P+B) (by omega),Gq (n:=P+B-z) (by omega)]
  omega
theorem Akp {t p h a z:Int} (hr:Ag t p h=true):inR t p h a z=true↔1≤z∧(2:Int)^h.toNat≤a∧a+z≤(2:Int)^h.toNat+(2:Int)^h.toNat*p:=by
 have h1:=Js hr
 have h2:=FU h1.pp h1.P0
 have h3:=h1.P0
 have h4:=h1.pp
 unfold inR AiV
 rw [h1.pg,Gq (n:=p+1) (by omega),show (2:Int)^h.toNat*(p+1)=2^h.toNat*p+2^h.toNat by rw [Int.mul_add,Int.mul_one]]
 generalize (2:Int)^h.toNat=P at*
 generalize P*p=B at*
 rw [Gq (n:=B+P) (by omega)]
 simp only [iG,decide_eq_true_eq]
 constructor
 ·rintro ⟨⟨⟨g1,g2⟩,g3⟩,g4⟩
  rw [Gq (n:=B+P-a) (by omega)] at g4
  omega
 ·rintro ⟨g1,g2,g3⟩
  rw [Gq (n:=B+P-a) (by omega)]
  omega
theorem AlF {t p h a z:Int} (hr:Ag t p h=true):inR t p h a z=Ja t p h a z:=by
 rw [mJ,Aet hr,Akp hr]
theorem in_lt {t p h a z:Int} (hr:Ag t p h=true) (hi:Ja t p h a z=true):1≤z∧1024≤a∧a+z≤1075838976:=by
 have h1:=Js hr
 have h2:=FU h1.pp h1.P0
 have h3:=h1.P0
 have:=(Aet hr).1 hi
 omega
theorem Aeu {t p h:Int} (hr:Ag t p h=true) {x y:Int×Int} (hx:Ja t p h x.1 x.2=true) (hy:Ja t p h y.1 y.2=true):CX x.1 x.2 y.1 y.2=true↔x.1<y.1+y.2∧y.1<x.1+x.2:=by
 have h1:=in_lt hr hx
 have h2:=in_lt hr hy
 unfold CX
 rw [Gq (n:=y.1+y.2) (by omega),Gq (n:=x.1+x.2) (by omega)]
 simp only [iG,decide_eq_true_eq]
theorem Aah {l:Bs} {x:Int×Int} (h:x ∉ l):En l x=l++[x]:=by
 unfold En Je
 have:l.any (KT x)=false:=by
  rw [List.any_eq_false]
  intro y hy e
  rw [Iu] at e
  exact h (e▸hy)
 rw [this];rfl
theorem L6 {l:Bs} {x y:Int×Int}:y∈EK l x↔y∈l∧y≠x:=by
 unfold EK
 rw [lY]
 constructor
 ·rintro ⟨h1,h2⟩
  refine ⟨h1, λe=>?_⟩
  rw [(Iu).2 e.symm] at h2;cases h2
 ·rintro ⟨h1,h2⟩
  refine ⟨h1,?_⟩
  cases he:KT x y with
  |false=>rfl
  |true=>exact absurd (Iu.1 he).symm h2
theorem Aai (l:Bs) (x:Int×Int):(EK l x).Sublist l:=List.filter_sublist
theorem Aik {l:Bs} (h:BC l) (x:Int×Int):BC (EK l x):=List.Nodup.sublist ((Aai l x).map _) h
theorem Alq {l:Bs} (h:BC l) {x:Int×Int} (hx:∀y∈l,y.1≠x.1):BC (En l x):=by
 rw [Aah (λhm=>hx x hm rfl)]
 unfold BC
 rw [jE,List.nodup_append]
 refine ⟨h,by simp, λa ha b hb=>?_⟩
 obtain ⟨y,hy,rfl⟩:=kG.1 ha
 simp only [iC,jZ,jM] at hb
 subst hb
 exact hx y hy
theorem Ame {l:Bs} (h:BC l):l.Nodup:=(List.pairwise_map.1 h).imp λhne e=>hne (congrArg _ e)
theorem GL (l:Bs):(Bz l).Perm l:=(TQ l).1
theorem Alr {l:Bs} {x:Int×Int} (h:x ∉ l):Bz (En l x)=insL (Bz l) x:=by rw [Aah h,AhS]
theorem AgM {l:Bs} (h:BC l):(Bz l).Nodup:=(GL l).nodup_iff.2 (Ame h)
theorem Aev {l:Bs} {i:Nat} (h:i<(Bz l).length):((Bz l).map (·.1)).getD i 0=((Bz l)[i]).1∧((Bz l).map (·.2)).getD i 0=((Bz l)[i]).2:=by
 simp [iD,iK,iO h]
theorem Wh {l:Bs} (hn:BC l) {a:Int} (h:(atR l a).2.2=true):∃x:Int×Int,x∈l∧x.1=a∧atR l a=(x.1,x.2,true)∧0≤FT ((Bz l).map (·.1)) a∧(Bz l)[(FT ((Bz l).map (·.1)) a).toNat]? =some x:=by
 unfold atR at h ⊢
 obtain ⟨x,hx⟩:=Option.isSome_iff_exists.1 h
 have hm:=List.mem_of_find?_eq_some hx
 have he:x.1=a:=by simpa using List.find?_some hx
 rw [hx]
 refine ⟨x,hm,he,rfl,?_⟩
 have hs:x∈Bz l:=(GL l).mem_iff.2 hm
 cases hf:((Bz l).map (·.1)).findIdx? (· ==a) with
 |none=>
  rw [nM] at hf
  have:=hf x.1 (kG.2 ⟨x,hs,rfl⟩)
  simp [he] at this
 |some i=>
  have e:FT ((Bz l).map (·.1)) a=(i:Int):=by unfold FT;rw [hf]
  rw [e]
  rw [List.findIdx?_eq_some_iff_getElem] at hf
  obtain ⟨hi,h1,_⟩:=hf
  refine ⟨by omega,?_⟩
  have hi':i<(Bz l).length:=by simpa using hi
  rw [show ((i:Int)).toNat=i by omega,iO hi']
  congr 1
  have h2:((Bz l)[i]).1=a:=by simpa using h1
  exact AgI hn ((GL l).mem_iff.1 (lR _)) hm (by rw [h2,he])
theorem Amf {l:Bs} {a:Int} (h:(atR l a).2.2=false):(∀x∈l,x.1≠a)∧atR l a=(0,0,false)∧FT ((Bz l).map (·.1)) a= -1:=by
 unfold atR at h ⊢
 have hn:Nz l a=none:=by cases hb:Nz l a with
  |none=>rfl
  |some x=>rw [hb] at h;cases h
 have h1:∀x∈l,x.1≠a:= λx hx e=>by
  have:=List.find?_eq_none.1 hn x hx
  simp [e] at this
 refine ⟨h1,by rw [hn];rfl,?_⟩
 have:((Bz l).map (·.1)).findIdx? (· ==a)=none:=by
  rw [nM]
  intro y hy
  obtain ⟨x,hx,rfl⟩:=kG.1 hy
  have:=h1 x ((GL l).mem_iff.1 hx)
  simpa using this
 unfold FT;rw [this]
theorem Als {l:Bs} (hn:BC l) {a:Int} (h:(atR l a).2.2=true):Bz (EK l ((atR l a).1,(atR l a).2.1))=(Bz l).eraseIdx (FT ((Bz l).map (·.1)) a).toNat:=by
 obtain ⟨x,hx,he,e1,_,hi⟩:=Wh hn h
 rw [e1]
 generalize (FT ((Bz l).map (·.1)) a).toNat=i at hi
 obtain ⟨hlt,hi⟩:=nL.1 hi
 have e:(Bz l).eraseIdx i=EK (Bz l) x:=(LQ (AgM hn) (nL.2 ⟨hlt,hi⟩)).symm
 refine (Aeq (Aik hn _) ?_ ?_).symm
 ·rw [e];exact (GL l).filter _
 ·exact List.Pairwise.sublist (mF _ _) (TQ l).2
structure MI (s:MS):Prop where
 c:Ag s.t s.p s.h=true
 nd:BC s.l
 inn:∀x∈s.l,Ja s.t s.p s.h x.1 x.2=true
 ap:∀x∈s.l,∀y∈s.l,x≠y→CX x.1 x.2 y.1 y.2=false
 rt:∀r∈[s.r0,s.r1,s.r2,s.r3,s.r4,s.r5,s.r6,s.r7],r≠0→∃x∈s.l,x.1=r
def toR (s:MS):RS:=⟨s.t,s.p,s.h,(Bz s.l).map (·.1),(Bz s.l).map (·.2),s.r0,s.r1,s.r2,s.r3,s.r4,s.r5,s.r6,s.r7⟩
theorem AfF {x b u:Int×Int}:okB x b u=true↔(x=u∨CX x.1 x.2 b.1 b.2=false):=by
 unfold okB
 have e:(x.1==u.1&&(x.2==u.2&&true))=true↔x=u:=by
  obtain ⟨a,b⟩:=x;obtain ⟨c,d⟩:=u
  simp
 cases hx:(x.1==u.1&&(x.2==u.2&&true)) with
 |true=>simp [e.1 hx]
 |false=>
  have:¬x=u:= λh=>by rw [e.2 h] at hx;cases hx
  simp [this]
def Ajp (l:Bs) (w:Int) (u:Int×Int):Prop:=(w= -1∧u=(0,0))∨(0≤w∧(Bz l)[w.toNat]? =some u)
theorem AlG {s:MS} (hI:MI s) {a z w:Int} {u:Int×Int} (hw:Ajp s.l w u):frR (toR s) a z w=DL s a z u.1 u.2:=by
 unfold frR DL
 rw [show inR (toR s).t (toR s).p (toR s).h a z=Ja s.t s.p s.h a z from AlF hI.c]
 congr 1
 rw [mJ,jN,jN]
 have hlen:(toR s).a.length=(Bz s.l).length:=by show ((Bz s.l).map _).length=_;simp
 have key:∀(j:Nat) (hj:j<(Bz s.l).length),(!fcR (toR s) a z w j)=true↔okB ((Bz s.l)[j]) (a,z) u=true:=by
  intro j hj
  obtain ⟨e1,e2⟩:=Aev hj
  rw [AfF]
  unfold fcR CX
  rw [show (toR s).a.getD j 0=((Bz s.l)[j]).1 from e1,show (toR s).z.getD j 0=((Bz s.l)[j]).2 from e2]
  have hne:((j:Int) !=w)=true↔(Bz s.l)[j]≠u:=by
   rw [bne_iff_ne]
   rcases hw with ⟨rfl,rfl⟩|⟨h0,hw⟩
   ·constructor
    ·intro _ e
     have hm:=hI.inn _ ((GL s.l).mem_iff.1 (lR hj))
     have:=in_lt hI.c hm
     rw [e] at this
     exact absurd this.1 (by decide)
    ·intro _;omega
   ·obtain ⟨hlt,hw⟩:=nL.1 hw
    constructor
    ·intro h e
     have:=(List.getElem_inj (AgM hI.nd)).1 (e.trans hw.symm)
     omega
    ·intro h e
     apply h
     have e3:j=w.toNat:=by omega
     subst e3
     exact hw
  cases hb:((j:Int) !=w) with
  |true=>
   have h1:=hne.1 hb
   simp only [oG,lC,h1,false_or]
  |false=>
   have h1:(Bz s.l)[j]=u:=Classical.byContradiction λh=>by rw [hne.2 h] at hb;cases hb
   simp [h1]
 constructor
 ·intro h x hx
  obtain ⟨j,hj,rfl⟩:=List.getElem_of_mem ((GL s.l).mem_iff.2 hx)
  exact (key j hj).1 (h j (by rw [hlen];exact kT.2 hj))
 ·intro h j hj
  have hj:j<(Bz s.l).length:=by rw [hlen] at hj;exact kT.1 hj
  exact (key j hj).2 (h _ ((GL s.l).mem_iff.1 (lR hj)))
end
section
open Go Go.Sl
theorem FM (c e u v:Int):Bc c e u v=CG c e u v:=by
 unfold Bc CG
 simp only [Bool.and_true,Bool.and_assoc]
theorem Y9 (e u v o x:Int):(e==0&&(u==o&&(v==x&&true)))=FB e u v o x:=by
 unfold FB
 simp only [Bool.and_true,Bool.and_assoc]
theorem TR {c e u v:Int} (h:CG c e u v=true):e=c:=by
 unfold CG at h
 simp only [iG,beq_iff_eq] at h
 exact h.1.1
theorem Aew {c:Int} (hc:c≠0) (e u v n:Int):(CG c e u v&&Gi e u v n)=CG c e u v:=by
 cases h:CG c e u v with
 |false=>rfl
 |true=>
  have:=TR h
  unfold Gi
  have h1:(e !=0)=true:=by rw [bne_iff_ne];omega
  rw [h1];rfl
theorem TS {s:MS} (hI:MI s) {w:Int} {o:Int×Int} (hw:Ajp s.l w o) (z e u v n:Int):(IK (toR s) z e u v w&&Gi e u v n)=DN s z e u v n o.1 o.2:=by
 unfold IK DN
 rw [show DX (toR s).t (toR s).p (toR s).h z=Am s.t s.p s.h z from (P7 _ _ _ _).symm]
 cases h2:(Am s.t s.p s.h z).2 with
 |false=>
  simp only [lW,cond_true]
  rw [FM];exact Aew (by decide) _ _ _ _
 |true=>
  simp only [jW,cond_false]
  rw [AlG hI hw]
  cases he:(e !=0) with
  |true=>
   have h0:(e==0)=false:=by rw [bne_iff_ne] at he;simpa using he
   rw [h0,Bool.false_and,Bool.or_false,cond_true,FM]
   exact Aew (by decide) _ _ _ _
  |false=>
   have h0:e=0:=by simpa using he
   subst h0
   have h3:CG 3 0 u v=false:=by
    cases h:CG 3 0 u v with
    |false=>rfl
    |true=>have:=TR h;omega
   rw [h3,cond_false]
   unfold Gi
   simp only [kN,bne_self_eq_false]
   rw [Bool.and_comm];rfl
theorem Aex (l:Bs):Ajp l (-1) (0,0):= .inl ⟨rfl,rfl⟩
theorem Aaj (s:MS) (a:Int):FX s a=bif decide (a<0)||decide (a>7) then (0,false) else (rrR (toR s) a,true):=by
 unfold FX
 have e:(decide (a<0)||decide (a≥8))=(decide (a<0)||decide (a>7)):=rfl
 rw [e];rfl
theorem Akq (s:MS) (a:Int):[s.r0,s.r1,s.r2,s.r3,s.r4,s.r5,s.r6,s.r7].contains a=Yx (toR s) a:=by
 unfold Yx
 show _=[s.r0,s.r1,s.r2,s.r3,s.r4,s.r5,s.r6,s.r7].any (· ==a)
 rw [mJ,lA]
 simp only [List.contains_iff_mem,beq_iff_eq,exists_eq_right]
theorem Aey {k a c:Int} (hk:¬(k=1∨k=2∨k=3∨k=4∨k=5∨k=6∨k=7∨k=8∨k=9)):GR k a c=false:=by
 have h1:(k==1)=false:=by simp;omega
 have h2:(k==2)=false:=by simp;omega
 have h3:(k==3)=false:=by simp;omega
 have h4:(k==4)=false:=by simp;omega
 have h5:(k==5)=false:=by simp;omega
 have h6:(k==6)=false:=by simp;omega
 have h7:(k==7)=false:=by simp;omega
 have h8:(k==8)=false:=by simp;omega
 have h9:(k==9)=false:=by simp;omega
 simp [GR,JH,h1,h2,h3,h4,h5,h6,h7,h8,h9]
theorem YA {s:MS} (hI:MI s) (a:Int):decide (FT (toR s).a a<0)=!(atR s.l a).2.2:=by
 cases h:(atR s.l a).2.2 with
 |true=>
  obtain ⟨x,_,_,_,h1,_⟩:=Wh hI.nd h
  exact decide_eq_false (by show ¬FT ((Bz s.l).map (·.1)) a<0;omega)
 |false=>
  obtain ⟨_,_,h1⟩:=Amf h
  exact decide_eq_true (by show FT ((Bz s.l).map (·.1)) a<0;omega)
theorem AfG {s:MS} (hI:MI s) {a:Int} (h:(atR s.l a).2.2=true):(toR s).z.getD (FT (toR s).a a).toNat 0=(atR s.l a).2.1:=by
 obtain ⟨x,_,_,e,_,h2⟩:=Wh hI.nd h
 show ((Bz s.l).map (·.2)).getD (FT ((Bz s.l).map (·.1)) a).toNat 0=_
 rw [e,iD,iK,h2];rfl
theorem len_eq (s:MS):(toR s).a.length=s.l.length:=by show ((Bz s.l).map _).length=_;rw [kD,Aei]
theorem Ail {s:MS} (hI:MI s) (k a c e u v:Int):AP s k a c e u v=VW (toR s) k a c e u v:=by
 unfold AP VW
 rw [Vm,FM]
 cases hr:GR k a c with
 |false=>rfl
 |true=>
  simp only [jW,cond_false]
  have hk:k=1∨k=2∨k=3∨k=4∨k=5∨k=6∨k=7∨k=8∨k=9:=Classical.byContradiction λhk=>by rw [Aey hk] at hr;cases hr
  rcases hk with rfl|rfl|rfl|rfl|rfl|rfl|rfl|rfl|rfl
  ·show GK s 1 a c e u v=(IK (toR s) a e u v (-1)&&Gi e u v (DX (toR s).t (toR s).p (toR s).h a).1)
   rw [TS hI (Aex _),show DX (toR s).t (toR s).p (toR s).h a=Am s.t s.p s.h a from (P7 _ _ _ _).symm];rfl
  ·show Gt s 2 a c e u v=bif decide (FT (toR s).a a<0) then CG 4 e u v else bif Yx (toR s) a then CG 6 e u v else FB e u v ((toR s).z.getD (FT (toR s).a a).toNat 0) 0
   unfold Gt AdG
   rw [YA hI,Akq,FM,FM,Y9]
   cases h:(atR s.l a).2.2 with
   |false=>rfl
   |true=>rw [AfG hI h]
  ·show DY s 3 a c e u v=bif decide (FT (toR s).a a<0) then CG 4 e u v else bif u==a then IK (toR s) c e u v (FT (toR s).a a)&&Gi e u v (DX (toR s).t (toR s).p (toR s).h c).1 else IK (toR s) c e u v (-1)&&Gi e u v (DX (toR s).t (toR s).p (toR s).h c).1
   unfold DY
   rw [YA hI,FM]
   cases h:(atR s.l a).2.2 with
   |false=>rfl
   |true=>
    simp only [jW,cond_false]
    rw [TS hI (Aex _),show DX (toR s).t (toR s).p (toR s).h c=Am s.t s.p s.h c from (P7 _ _ _ _).symm]
    cases hu:(u==a) with
    |true=>
     have hu':u=a:=by simpa using hu
     subst hu'
     obtain ⟨x,_,_,e1,h1,h2⟩:=Wh hI.nd h
     rw [TS hI (w:=FT (toR s).a u) (o:=x) (.inr ⟨h1,h2⟩),e1]
     simp only [bne_self_eq_false,cond_false,cond_true]
    |false=>
     have hu':(u !=a)=true:=by simp only [bne,hu,lW]
     rw [hu']
     simp only [cond_true,cond_false]
  ·show Ef s 4 a c e u v=bif decide (a<0)||decide (a>7) then CG 5 e u v else IK (toR s) c e u v (-1)&&Gi e u v (rrR (toR s) a)
   unfold Ef
   rw [Aaj,FM,TS hI (Aex _)]
   cases (decide (a<0)||decide (a>7))<;>rfl
  ·show FC s 5 a c e u v=bif decide (a<0)||decide (a>7) then CG 5 e u v else bif c !=0&&decide (FT (toR s).a c<0) then CG 4 e u v else FB e u v c (rrR (toR s) a)
   unfold FC
   simp only [Aaj,FM,YA hI]
   cases (decide (a<0)||decide (a>7)) with
   |true=>rfl
   |false=>
    simp only [cond_false,jW]
    rw [Y9]
  ·show Jb s 6 a c e u v=bif decide (a<0)||decide (a>7) then CG 5 e u v else FB e u v (rrR (toR s) a) 0
   unfold Jb
   simp only [Aaj,FM]
   cases (decide (a<0)||decide (a>7)) with
   |true=>rfl
   |false=>
    simp only [cond_false,jW]
    rw [Y9]
  ·show JI s 7 a c e u v=bif decide (FT (toR s).a a<0) then CG 4 e u v else FB e u v ((toR s).z.getD (FT (toR s).a a).toNat 0) 0
   unfold JI
   simp only [YA hI,FM]
   cases h:(atR s.l a).2.2 with
   |false=>rfl
   |true=>rw [AfG hI h];simp only [jW,cond_false];rw [Y9]
  ·show GI s 8 a c e u v=(e==0&&decide (u≥0)&&decide (u≤s.p)&&v==((toR s).a.length:Int))
   rw [len_eq];rfl
  ·show Gj s 9 a c e u v=bif decide (a<0)||decide (a>8) then CG 7 e u v else e==0&&decide (u≥0)&&decide (u≤4)&&v==0
   unfold Gj
   have e9:(decide (a<0)||decide (a≥9))=(decide (a<0)||decide (a>8)):=rfl
   rw [e9,FM]
end
section
open Go Go.Sl
theorem Aim (a z b y:Int):CX a z b y=CX b y a z:=by unfold CX;exact Bool.and_comm _ _
structure YB (t p h:Int) (l:Bs):Prop where
 nd:BC l
 inn:∀x∈l,Ja t p h x.1 x.2=true
 ap:∀x∈l,∀y∈l,x≠y→CX x.1 x.2 y.1 y.2=false
theorem MI.li {s:MS} (h:MI s):YB s.t s.p s.h s.l:=⟨h.nd,h.inn,h.ap⟩
theorem YB.del {t p h:Int} {l:Bs} (hl:YB t p h l) (x:Int×Int):YB t p h (EK l x):=
 ⟨Aik hl.nd x, λy hy=>hl.inn y (L6.1 hy).1, λy hy z hz=>hl.ap y (L6.1 hy).1 z (L6.1 hz).1⟩
theorem YB.new {t p h:Int} {l:Bs} (hr:Ag t p h=true) (hl:YB t p h l) {b:Int×Int} (hb:Ja t p h b.1 b.2=true) (hm:∀x∈l,CX x.1 x.2 b.1 b.2=false):(∀x∈l,x.1≠b.1):=by
 intro x hx e
 have h1:=in_lt hr (hl.inn x hx)
 have h2:=in_lt hr hb
 have h3:=(Aeu hr (hl.inn x hx) hb).2 ⟨by omega,by omega⟩
 rw [hm x hx] at h3;cases h3
theorem YB.add {t p h:Int} {l:Bs} (hr:Ag t p h=true) (hl:YB t p h l) {b:Int×Int} (hb:Ja t p h b.1 b.2=true) (hm:∀x∈l,CX x.1 x.2 b.1 b.2=false):
 YB t p h (En l b)∧En l b=l++[b]∧Bz (En l b)=insL (Bz l) b:=by
 have h1:=hl.new hr hb hm
 have h2:b ∉ l:= λh=>h1 b h rfl
 have e:=Aah h2
 refine ⟨⟨Alq hl.nd h1,?_,?_⟩,e,Alr h2⟩
 ·rw [e];intro x hx
  rcases lK.1 hx with hx|hx
  ·exact hl.inn x hx
  ·rw [jM.1 hx];exact hb
 ·rw [e];intro x hx y hy hne
  rcases lK.1 hx with hx|hx<;>rcases lK.1 hy with hy|hy
  ·exact hl.ap x hx y hy hne
  ·rw [jM.1 hy];exact hm x hx
  ·rw [jM.1 hx,Aim];exact hm y hy
  ·rw [jM.1 hx,jM.1 hy] at hne;exact absurd rfl hne
def NR (l:Bs) (r:Int):Prop:=r≠0→∃x∈l,x.1=r
theorem Aio {l:Bs} {b:Bool} {x y:Int} (hx:NR l x) (hy:NR l y):NR l (bif b then x else y):=by cases b<;>assumption
theorem Aip {l l':Bs} {r:Int} (h:∀x∈l,x∈l') (hr:NR l r):NR l' r:= λhn=>let ⟨x,hx,e⟩:=hr hn;⟨x,h x hx,e⟩
theorem Aj8 {l:Bs} {r:Int} {x:Int×Int} (hx:x∈l) (e:x.1=r):NR l r:= λ_=>⟨x,hx,e⟩
theorem Aak {s:MS} {z u v n a2 z2:Int} (h:DN s z 0 u v n a2 z2=true):v=n∧DL s u (Am s.t s.p s.h z).1 a2 z2=true:=by
 unfold DN at h
 cases h2:(Am s.t s.p s.h z).2 with
 |false=>rw [h2] at h;simp only [lW,cond_true] at h;rw [FM] at h;have:=TR h;omega
 |true=>
  rw [h2] at h
  simp only [jW,cond_false,bne_self_eq_false,iG,beq_iff_eq] at h
  exact h
theorem AfH {s:MS} {a z a2 z2:Int} (h:DL s a z a2 z2=true):Ja s.t s.p s.h a z=true∧∀x∈s.l,x=(a2,z2)∨CX x.1 x.2 a z=false:=by
 unfold DL at h
 rw [iG,jN] at h
 exact ⟨h.1, λx hx=>AfF.1 (h.2 x hx)⟩
theorem AfI {s:MS} (hI:MI s) {x:Int×Int} (hx:x∈s.l):x≠(0,0):= λe=>by
 have:=in_lt hI.c (hI.inn x hx)
 rw [e] at this
 exact absurd this.1 (by decide)
theorem Aez {s:MS} (hI:MI s) {a z:Int} (h:DL s a z 0 0=true):Ja s.t s.p s.h a z=true∧∀x∈s.l,CX x.1 x.2 a z=false:=by
 obtain ⟨h1,h2⟩:=AfH h
 exact ⟨h1, λx hx=>(h2 x hx).resolve_left (AfI hI hx)⟩
theorem JM {c u v:Int} (hc:c≠0):Bc c 0 u v=false:=by
 cases h:Bc c 0 u v with
 |false=>rfl
 |true=>rw [FM] at h;have:=TR h;omega
theorem Aal {t p h:Int} {l:Bs} {a z r0 r1 r2 r3 r4 r5 r6 r7:Int} (hs:Bz (En l (a,z))=insL (Bz l) (a,z)):toR ⟨t,p,h,En l (a,z),r0,r1,r2,r3,r4,r5,r6,r7⟩=P6 (toR ⟨t,p,h,l,r0,r1,r2,r3,r4,r5,r6,r7⟩) a z:=by
 unfold toR P6
 simp only [Akg,hs]
theorem Gm {α β:Type} (f:α→β):∀(l:List α) (i:Nat),(l.map f).eraseIdx i=(l.eraseIdx i).map f
 |[],_=>rfl
 |_::_,0=>rfl
 |x::l,i+1=>congrArg (f x:: ·) (Gm f l i)
theorem Ae0 {s:MS} (hI:MI s) {a:Int} (h:(atR s.l a).2.2=true):toR (Aag s a)=TN (toR s) (FT (toR s).a a):=by
 unfold toR Aag TN
 simp only [Als hI.nd h,Gm]
theorem Alt {s:MS} (hI:MI s) {k a c u v:Int} (hA:AP s k a c 0 u v=true):
 MI (EE s k a c u v)∧toR (EE s k a c u v)=AkY (toR s) k a c u v∧(EE s k a c u v).l.length≤s.l.length+1∧(EE s k a c u v).t=s.t∧(EE s k a c u v).p=s.p∧(EE s k a c u v).h=s.h:=by
 unfold AP at hA
 rw [Vm] at hA
 cases hr:GR k a c with
 |false=>rw [hr] at hA;simp only [lW,cond_true] at hA;rw [JM (by decide)] at hA;cases hA
 |true=>
  rw [hr] at hA
  simp only [jW,cond_false] at hA
  have hk:k=1∨k=2∨k=3∨k=4∨k=5∨k=6∨k=7∨k=8∨k=9:=Classical.byContradiction λhk=>by rw [Aey hk] at hr;cases hr
  rcases hk with rfl|rfl|rfl|rfl|rfl|rfl|rfl|rfl|rfl
  ·obtain ⟨rfl,hf⟩:=Aak (show DN s a 0 u v (Am s.t s.p s.h a).1 0 0=true from hA)
   obtain ⟨h1,h2⟩:=Aez hI hf
   obtain ⟨h3,h4,h5⟩:=hI.li.add hI.c (b:=(u,(Am s.t s.p s.h a).1)) h1 h2
   show MI (Si s u (Am s.t s.p s.h a).1)∧toR (Si s u (Am s.t s.p s.h a).1)=P6 (toR s) u (Am s.t s.p s.h a).1∧_
   refine ⟨⟨hI.c,h3.nd,h3.inn,h3.ap,?_⟩,Aal h5,?_,rfl,rfl,rfl⟩
   ·intro r hr
    exact Aip (l':=En s.l (u,(Am s.t s.p s.h a).1)) (λx hx=>by rw [h4];exact mM _ hx) (hI.rt r hr)
   ·show (En s.l _).length≤_
    rw [h4];simp
  ·have hA:Gt s 2 a c 0 u v=true:=hA
   unfold Gt at hA
   cases hf:(atR s.l a).2.2 with
   |false=>rw [hf] at hA;simp only [lW,cond_true] at hA;rw [JM (by decide)] at hA;cases hA
   |true=>
    rw [hf] at hA
    simp only [jW,cond_false] at hA
    cases hc:[s.r0,s.r1,s.r2,s.r3,s.r4,s.r5,s.r6,s.r7].contains a with
    |true=>rw [hc] at hA;simp only [cond_true] at hA;rw [JM (by decide)] at hA;cases hA
    |false=>
     obtain ⟨x,hx,he,e1,_,_⟩:=Wh hI.nd hf
     have h3:=hI.li.del ((atR s.l a).1,(atR s.l a).2.1)
     show MI (Aag s a)∧toR (Aag s a)=TN (toR s) (FT (toR s).a a)∧_
     refine ⟨⟨hI.c,h3.nd,h3.inn,h3.ap,?_⟩,Ae0 hI hf,?_,rfl,rfl,rfl⟩
     ·intro r hr hn
      obtain ⟨y,hy,e⟩:=hI.rt r hr hn
      refine ⟨y,L6.2 ⟨hy, λe2=>?_⟩,e⟩
      have:a∈[s.r0,s.r1,s.r2,s.r3,s.r4,s.r5,s.r6,s.r7]:=by
       rw [e1] at e2
       have e3:y.1=x.1:=congrArg (λz:Int×Int=>z.1) e2
       rw [←he,←e3,e];exact hr
      rw [←List.contains_iff_mem,hc] at this;cases this
     ·show (EK s.l _).length≤_
      exact nX (Aai _ _).length_le (Nat.le_succ _)
  ·have hA:DY s 3 a c 0 u v=true:=hA
   unfold DY at hA
   cases hf:(atR s.l a).2.2 with
   |false=>rw [hf] at hA;simp only [lW,cond_true] at hA;rw [JM (by decide)] at hA;cases hA
   |true=>
    rw [hf] at hA
    simp only [jW,cond_false] at hA
    obtain ⟨rfl,hm⟩:=Aak hA
    obtain ⟨x,hx,he,e1,_,_⟩:=Wh hI.nd hf
    obtain ⟨h1,h2⟩:=AfH hm
    have ex:((atR s.l a).1,(atR s.l a).2.1)=x:=by rw [e1]
    have h0:=hI.li.del x
    have h2':∀y∈EK s.l x,CX y.1 y.2 u (Am s.t s.p s.h c).1=false:= λy hy=>by
     obtain ⟨g1,g2⟩:=L6.1 hy
     refine (h2 y g1).resolve_left λe=>?_
     cases hu:(u !=a) with
     |true=>rw [hu] at e;exact AfI hI g1 e
     |false=>rw [hu] at e;exact g2 (e.trans ex)
    obtain ⟨h3,h4,h5⟩:=h0.add hI.c (b:=(u,(Am s.t s.p s.h c).1)) h1 h2'
    have em:mvL s a u (Am s.t s.p s.h c).1=En (EK s.l x) (u,(Am s.t s.p s.h c).1):=by unfold mvL;rw [ex]
    show MI (Ht s a u (Am s.t s.p s.h c).1 8)∧toR (Ht s a u (Am s.t s.p s.h c).1 8)=mvR (P6 (TN (toR s) (FT (toR s).a a)) u (Am s.t s.p s.h c).1) a u 8∧_
    refine ⟨?_,?_,?_,rfl,rfl,rfl⟩
    ·unfold Ht
     rw [em]
     refine ⟨hI.c,h3.nd,h3.inn,h3.ap,?_⟩
     have hm1:∀r j,r∈[s.r0,s.r1,s.r2,s.r3,s.r4,s.r5,s.r6,s.r7]→decide ((j:Int)<8)=true→NR (En (EK s.l x) (u,(Am s.t s.p s.h c).1)) (Fj r a u 8 j):=by
      intro r j hr hj
      unfold Fj
      rw [hj,oG]
      cases hra:(r==a) with
      |true=>exact Aj8 (x:=(u,(Am s.t s.p s.h c).1)) (by rw [h4];simp) rfl
      |false=>
       intro hn
       obtain ⟨y,hy,e⟩:=hI.rt r hr hn
       refine ⟨y,?_,e⟩
       rw [h4]
       refine mM _ (L6.2 ⟨hy, λe2=>?_⟩)
       subst e2
       rw [←e,he] at hra
       simp at hra
     intro r hr
     simp only [iE,jK,or_false] at hr
     rcases hr with rfl|rfl|rfl|rfl|rfl|rfl|rfl|rfl<;>exact hm1 _ _ (by simp) (by decide)
    ·have e0:=Ae0 hI hf
     rw [←e0]
     unfold Aag
     rw [ex,←Aal (l:=EK s.l x) h5]
     unfold Ht
     rw [em];rfl
    ·show (mvL s a u _).length≤_
     rw [em,h4,jP]
     have:=(Aai s.l x).length_le
     show (EK s.l x).length+1≤_
     omega
  ·have hA:Ef s 4 a c 0 u v=true:=hA
   unfold Ef at hA
   cases hf:(FX s a).2 with
   |false=>rw [hf] at hA;simp only [lW,cond_true] at hA;rw [JM (by decide)] at hA;cases hA
   |true=>
    rw [hf] at hA
    simp only [jW,cond_false] at hA
    obtain ⟨_,hm⟩:=Aak hA
    obtain ⟨h1,h2⟩:=Aez hI hm
    obtain ⟨h3,h4,h5⟩:=hI.li.add hI.c (b:=(u,(Am s.t s.p s.h c).1)) h1 h2
    show MI (Sj (Si s u (Am s.t s.p s.h c).1) a u)∧toR (Sj (Si s u (Am s.t s.p s.h c).1) a u)=Y1 (P6 (toR s) u (DX s.t s.p s.h c).1) a u∧_
    refine ⟨⟨hI.c,h3.nd,h3.inn,h3.ap,?_⟩,?_,?_,rfl,rfl,rfl⟩
    ·have g1:NR (En s.l (u,(Am s.t s.p s.h c).1)) u:=Aj8 (x:=(u,(Am s.t s.p s.h c).1)) (by rw [h4];simp) rfl
     have g2:∀r∈[s.r0,s.r1,s.r2,s.r3,s.r4,s.r5,s.r6,s.r7],NR (En s.l (u,(Am s.t s.p s.h c).1)) r:= λr hr=>Aip (λx hx=>by rw [h4];exact mM _ hx) (hI.rt r hr)
     intro r hr
     simp only [Sj,Si,iE,jK,or_false] at hr
     rcases hr with rfl|rfl|rfl|rfl|rfl|rfl|rfl|rfl<;>exact Aio g1 (g2 _ (by simp))
    ·rw [←P7]
     have:=Aal (t:=s.t) (p:=s.p) (h:=s.h) (r0:=s.r0) (r1:=s.r1) (r2:=s.r2) (r3:=s.r3) (r4:=s.r4) (r5:=s.r5) (r6:=s.r6) (r7:=s.r7) h5
     show _=Y1 (P6 (toR ⟨s.t,s.p,s.h,s.l,s.r0,s.r1,s.r2,s.r3,s.r4,s.r5,s.r6,s.r7⟩) u _) a u
     rw [←this];rfl
    ·show (En s.l _).length≤_
     rw [h4];simp
  ·have hA:FC s 5 a c 0 u v=true:=hA
   unfold FC at hA
   show MI (Sj s a c)∧toR (Sj s a c)=Y1 (toR s) a c∧_
   refine ⟨⟨hI.c,hI.nd,hI.inn,hI.ap,?_⟩,rfl,Nat.le_succ _,rfl,rfl,rfl⟩
   have g1:NR s.l c:=by
    intro hn
    cases hf:(FX s a).2 with
    |false=>simp only [hf,lW,cond_true] at hA;rw [JM (by decide)] at hA;cases hA
    |true=>
     simp only [hf,jW,cond_false] at hA
     cases hc:(atR s.l c).2.2 with
     |false=>
      have hb:(c !=0)=true:=by rw [bne_iff_ne];exact hn
      simp only [hc,hb,lW,Bool.and_true,cond_true] at hA;rw [JM (by decide)] at hA;cases hA
     |true=>
      obtain ⟨x,hx,he,_⟩:=Wh hI.nd hc
      exact ⟨x,hx,he⟩
   intro r hr
   simp only [Sj,iE,jK,or_false] at hr
   rcases hr with rfl|rfl|rfl|rfl|rfl|rfl|rfl|rfl<;>exact Aio g1 (hI.rt _ (by simp))
  all_goals exact ⟨hI,rfl,Nat.le_succ _,rfl,rfl,rfl⟩
end
section
open Go Go.Sl
theorem Ajq {s:MS} (hI:MI s) (k a c e u v:Int):MI (Ac s k a c e u v).1∧(Ac s k a c e u v).1.l.length≤s.l.length+1∧(Ac s k a c e u v).1.t=s.t∧(Ac s k a c e u v).1.p=s.p∧(Ac s k a c e u v).1.h=s.h∧
 AfD (toR s) k a c e u v=(toR (Ac s k a c e u v).1,(Ac s k a c e u v).2)∧((!(Ac s k a c e u v).2||e !=0)=true→(Ac s k a c e u v).1=s):=by
 unfold Ac AfD
 rw [←Ail hI]
 cases hA:AP s k a c e u v with
 |false=>exact ⟨hI,Nat.le_succ _,rfl,rfl,rfl,rfl, λ_=>rfl⟩
 |true=>
  cases he:(e !=0) with
  |true=>exact ⟨hI,Nat.le_succ _,rfl,rfl,rfl,rfl, λ_=>rfl⟩
  |false=>
   have h0:e=0:=by simpa using he
   subst h0
   obtain ⟨g1,g2,g3,g4,g5,g6⟩:=Alt hI hA
   simp only [jW,cond_false]
   exact ⟨g1,g3,g4,g5,g6,by rw [g2], λh=>(by cases h)⟩
theorem Alu {t p h:Int} (hr:Ag t p h=true):MI ⟨t,p,h,[],0,0,0,0,0,0,0,0⟩:=by
 refine ⟨hr,lD, λx hx=>(by cases hx), λx hx=>(by cases hx), λr hr hn=>?_⟩
 simp only [iE,jK,or_false,or_self] at hr
 exact absurd hr hn
theorem MI.inB {s:MS} (hI:MI s):inB s.l:= λx hx=>by
 have:=in_lt hI.c (hI.inn x hx)
 omega
theorem Aiq (xa xz:LI) (u0 u1 u2 u3 u4 u5 u6 u7:Int):Gz xa xz u0 u1 u2 u3 u4 u5 u6 u7 xa xz u0 u1 u2 u3 u4 u5 u6 u7=true:=by
 simp [Gz]
theorem st_len (s:MS):(Dx s).1.length=(Dx s).2.1.length:=by
 show ((Bz s.l).map _).length=((Bz s.l).map _).length
 rw [kD,kD]
def Wi (p h:Int):Int:=2^h.toNat+2^h.toNat*p
def atK (h:Int) (l:Bs) (k:Nat):Int:=if k=0 then 2^h.toNat else ((Bz l).map (·.1)).getD (k-1) 0+((Bz l).map (·.2)).getD (k-1) 0
theorem AgN {s:MS} (hI:MI s) {k:Nat} (hk:k<(Bz s.l).length):
 atK s.h s.l k≤((Bz s.l).map (·.1)).getD k 0∧1≤((Bz s.l).map (·.2)).getD k 0∧1024≤((Bz s.l).map (·.1)).getD k 0∧((Bz s.l).map (·.1)).getD k 0+((Bz s.l).map (·.2)).getD k 0≤Wi s.p s.h∧Wi s.p s.h≤1075838976:=by
 obtain ⟨e1,e2⟩:=Aev hk
 rw [e1,e2]
 have hm:(Bz s.l)[k]∈s.l:=(GL s.l).mem_iff.1 (lR hk)
 have h1:=(Aet hI.c).1 (hI.inn _ hm)
 have h2:=Js hI.c
 have h3:=FU h2.pp h2.P0
 have h4:=h2.P0
 have h5:=in_lt hI.c (hI.inn _ hm)
 refine ⟨?_,h1.1,h5.2.1,by unfold Wi;omega,by unfold Wi;omega⟩
 unfold atK
 split
 ·exact h1.2.1
 ·rename_i h0
  have hk':k-1<(Bz s.l).length:=by omega
  obtain ⟨f1,f2⟩:=Aev hk'
  rw [f1,f2]
  have hm':(Bz s.l)[k-1]∈s.l:=(GL s.l).mem_iff.1 (lR hk')
  have hne:(Bz s.l)[k-1]≠(Bz s.l)[k]:= λe=>by
   have:=(List.getElem_inj (AgM hI.nd)).1 e
   omega
  have ho:=List.pairwise_iff_getElem.1 (TQ s.l).2 (k-1) k hk' hk (by omega)
  have hap:=hI.ap _ hm' _ hm hne
  have h7:¬(((Bz s.l)[k-1]).1<((Bz s.l)[k]).1+((Bz s.l)[k]).2∧((Bz s.l)[k]).1<((Bz s.l)[k-1]).1+((Bz s.l)[k-1]).2):= λh=>by
   have:=(Aeu hI.c (hI.inn _ hm') (hI.inn _ hm)).2 h
   rw [hap] at this;cases this
  have h8:((Bz s.l)[k-1]).1≤((Bz s.l)[k]).1:=ho
  omega
theorem Ky {s:MS} (hI:MI s) {r:Int} (hr:r∈[s.r0,s.r1,s.r2,s.r3,s.r4,s.r5,s.r6,s.r7]) (zs:LI):(r !=0&&!Fh ((Bz s.l).map (·.1)) zs r)=false:=by
 cases h0:(r !=0) with
 |false=>rfl
 |true=>
  have hn:r≠0:=by simpa using h0
  obtain ⟨x,hx,e⟩:=hI.rt r hr hn
  have:Fh ((Bz s.l).map (·.1)) zs r=true:=by
   show ((Bz s.l).map (·.1)).contains r=true
   rw [List.contains_iff_mem]
   exact kG.2 ⟨x,(GL s.l).mem_iff.2 hx,e⟩
  rw [this];rfl
theorem AlH {h:Int} (hh:10≤h∧h≤20):(if (if h<30 then h else 30)>0 then if h<30 then h else 30 else (0:Int))=h:=by
 rw [if_pos (show h<30 by omega),if_pos (by omega)]
theorem Alv {h:Int} (hh:10≤h∧h≤20):iL mW (if (if h<30 then h else 30)>0 then if h<30 then h else 30 else (0:Int))=h:=by
 rw [AlH hh,IntKind.wrap_u64];omega
theorem AlI {t p h:Int} (hr:Ag t p h=true):iL iB ((1:Int)*(2:Int)^min (jD (iL mW (if (if h<30 then h else 30)>0 then if h<30 then h else 30 else (0:Int)))) 64)=2^h.toNat:=by
 have h2:=Js hr
 have h4:=h2.P0
 rw [Alv h2.ss,Int.one_mul,show min h.toNat 64=h.toNat by have:=h2.ss;omega,Gq (by omega)]
theorem Aly {t p h:Int} (hr:Ag t p h=true):iL iB (2^h.toNat*iL iB (p+1))=Wi p h:=by
 have h2:=Js hr
 have h3:=FU h2.pp h2.P0
 have h4:=h2.P0
 have h5:=h2.pp
 rw [Gq (n:=p+1) (by omega),show (2:Int)^h.toNat*(p+1)=2^h.toNat+2^h.toNat*p by rw [Int.mul_add,Int.mul_one,Int.add_comm]]
 exact Gq (by omega)
end
section
open Go.Sl
def H6 (t p h:Int) (ks as_ cs es us vs:LI):Bool:=true
abbrev Abr:Ct Sg:=⟨none,false,[.agg [.i .i64, .i .i64, .i .i64], .ro [some .i64,some .i64,some .i64,some .i64,some .i64,some .i64]], .b⟩
def Air:Entry Sg:=CW Abr H6 (λt p h ks as_ cs es us vs=>[Ag t p h=true])
def Abs (t p h:Int) (ks as_ cs es us vs:LI) (Q0:MS→Int→Prop) (Q1:MS→Int→Nat→LI→LI→Int→Int→Int→Int→Int→Int→Int→Int→Int→Int→Int→Prop) (Q2:MS→Int→Nat→LI→LI→Int→Int→Int→Int→Int→Int→Int→Int→Int→Prop) (R_:Bool→Prop):Prop:=(Bo (decide ((↑(iV ks):Int)>60)) (∀r2:Bool,r2=(true)→(R_ (r2))) (∀r2:MS,r2=({t:=t,p:=p,h:=h,l:=[],r0:=0,r1:=0,r2:=0,r3:=0,r4:=0,r5:=0,r6:=0,r7:=0})→(A8 (D5 t p h=0) (Q0 (r2) (0)))))
def YC (t p h:Int) (ks as_ cs es us vs:LI) (m_:MS) (i_:Int) (Q0:MS→Int→Prop) (Q1:MS→Int→Nat→LI→LI→Int→Int→Int→Int→Int→Int→Int→Int→Int→Int→Int→Prop) (Q2:MS→Int→Nat→LI→LI→Int→Int→Int→Int→Int→Int→Int→Int→Int→Prop) (R_:Bool→Prop):Prop:=(Bo (decide (i_<(↑(iV ks):Int))) (∀r1:LI×LI×Int×Int×Int×Int×Int×Int×Int×Int,r1=(Dx m_)→(A8 (BC (MS.l m_)) (A8 (iV (MS.l m_)≤1000) (A8 (inB (MS.l m_)) (A8 (0≤i_∧i_<(↑(iV ks):Int)) (A8 (0≤i_∧i_<(↑(iV ks):Int)) (∀r9:MS×Bool,r9=(bif !AP m_ (iN ks (jD i_) 0) (iN as_ (jD i_) 0) (iN cs (jD i_) 0) (iN es (jD i_) 0) (iN us (jD i_) 0) (iN vs (jD i_) 0) then (m_,false) else bif iN es (jD i_) (0:Int) !=0 then (m_,true) else (EE m_ (iN ks (jD i_) 0) (iN as_ (jD i_) 0) (iN cs (jD i_) 0) (iN us (jD i_) 0) (iN vs (jD i_) 0),true))→(A8 (BC (MS.l m_)) (∀r11:LI×LI×Int×Int×Int×Int×Int×Int×Int×Int,r11=(Dx r9.1)→(A8 (BC (MS.l r9.1)) (A8 (iV (MS.l r9.1)≤1000) (A8 (inB (MS.l r9.1)) (A8 ((!r9.2)=false→0≤i_∧i_<(↑(iV ks):Int)) (A8 ((!r9.2||iN es (jD i_) (0:Int) !=0)=true→iV r1.1=iV r1.2.1) (A8 ((!r9.2||iN es (jD i_) (0:Int) !=0)=true→iV r11.1=iV r11.2.1) (Bo ((!r9.2||iN es (jD i_) (0:Int) !=0)&&!Gz r1.1 r1.2.1 r1.2.2.1 r1.2.2.2.1 r1.2.2.2.2.1 r1.2.2.2.2.2.1 r1.2.2.2.2.2.2.1 r1.2.2.2.2.2.2.2.1 r1.2.2.2.2.2.2.2.2.1 r1.2.2.2.2.2.2.2.2.2 r11.1 r11.2.1 r11.2.2.1 r11.2.2.2.1 r11.2.2.2.2.1 r11.2.2.2.2.2.1 r11.2.2.2.2.2.2.1 r11.2.2.2.2.2.2.2.1 r11.2.2.2.2.2.2.2.2.1 r11.2.2.2.2.2.2.2.2.2) (R_ (false)) (A8 (0≤iL mW (if (if h<30 then h else 30)>0 then if h<30 then h else 30 else 0)) (Q1 r9.1 (i_) (iV r11.1) r11.1 r11.2.1 r11.2.2.1 r11.2.2.2.1 r11.2.2.2.2.1 r11.2.2.2.2.2.1 r11.2.2.2.2.2.2.1 r11.2.2.2.2.2.2.2.1 r11.2.2.2.2.2.2.2.2.1 r11.2.2.2.2.2.2.2.2.2 (0) (iL iB ((1:Int)*2^min (jD (iL mW (if (if h<30 then h else 30)>0 then if h<30 then h else 30 else 0))) 64)) (iL iB (iL iB ((1:Int)*2^min (jD (iL mW (if (if h<30 then h else 30)>0 then if h<30 then h else 30 else 0))) 64)*iL iB (p+1))))))))))))))))))))) (∀r1:Bool,r1=(true)→(R_ (r1))))
def BL (t p h:Int) (ks as_ cs es us vs:LI) (m_:MS) (i_:Int) (r_:Bool):Prop:=r_=true∧MI m_∧m_.t=t∧m_.p=p∧m_.h=h∧m_.l.length≤i_.toNat∧0≤i_∧i_≤(ks.length:Int)∧ks.length≤60
def YD (t p h:Int) (ks as_ cs es us vs:LI) (m_:MS) (i_:Int) (n_:Nat) (xs_ zs_:LI) (q0_ q1_ q2_ q3_ q4_ q5_ q6_ q7_ k_ at_ en_:Int) (Q0:MS→Int→Prop) (Q1:MS→Int→Nat→LI→LI→Int→Int→Int→Int→Int→Int→Int→Int→Int→Int→Int→Prop) (Q2:MS→Int→Nat→LI→LI→Int→Int→Int→Int→Int→Int→Int→Int→Int→Prop) (R_:Bool→Prop):Prop:=(Bo (decide (k_<(↑n_:Int))) (A8 (0≤k_∧k_<(↑n_:Int)) (Bo (decide (iN zs_ (jD k_) (0:Int)<1)||decide (iN xs_ (jD k_) 0<at_)||decide (iN zs_ (jD k_) 0>iL iB (en_-iN xs_ (jD k_) 0))) (R_ (false)) (Q1 (m_) (i_) (n_) (xs_) (zs_) (q0_) (q1_) (q2_) (q3_) (q4_) (q5_) (q6_) (q7_) (iL iB (k_+1)) (iL iB (iN xs_ (jD k_) 0+iN zs_ (jD k_) 0)) (en_)))) (Q2 (m_) (i_) (n_) (xs_) (zs_) (q0_) (q1_) (q2_) (q3_) (q4_) (q5_) (q6_) (q7_) (0)))
def BM (t p h:Int) (ks as_ cs es us vs:LI) (m_:MS) (i_:Int) (n_:Nat) (xs_ zs_:LI) (q0_ q1_ q2_ q3_ q4_ q5_ q6_ q7_ k_ at_ en_:Int) (r_:Bool):Prop:=r_=true∧MI m_∧m_.t=t∧m_.p=p∧m_.h=h∧m_.l.length≤i_.toNat+1∧0≤i_∧i_<(ks.length:Int)∧ks.length≤60∧n_=(Bz m_.l).length∧(xs_,zs_,q0_,q1_,q2_,q3_,q4_,q5_,q6_,q7_)=Dx m_∧0≤k_∧k_≤(n_:Int)∧at_=atK h m_.l k_.toNat∧en_=Wi p h
def Tc (t p h:Int) (ks as_ cs es us vs:LI) (m_:MS) (i_:Int) (n_:Nat) (xs_ zs_:LI) (q0_ q1_ q2_ q3_ q4_ q5_ q6_ q7_:Int) (Q0:MS→Int→Prop) (Q1:MS→Int→Nat→LI→LI→Int→Int→Int→Int→Int→Int→Int→Int→Int→Int→Int→Prop) (Q2:MS→Int→Nat→LI→LI→Int→Int→Int→Int→Int→Int→Int→Int→Int→Prop) (R_:Bool→Prop):Prop:=(Bo (true) (A8 ((0:Int)≤0∧(0:Int)<8) (A8 ((q0_ !=0)=true→(0:Int)≤0∧(0:Int)<8) (Bo (q0_ !=0&&!Fh xs_ zs_ q0_) (R_ (false)) (Q2 (m_) (i_) (n_) (xs_) (zs_) (q0_) (q1_) (q2_) (q3_) (q4_) (q5_) (q6_) (q7_) (1))))) (Q0 (m_) (iL iB (i_+1))))
def Td (t p h:Int) (ks as_ cs es us vs:LI) (m_:MS) (i_:Int) (n_:Nat) (xs_ zs_:LI) (q0_ q1_ q2_ q3_ q4_ q5_ q6_ q7_:Int) (Q0:MS→Int→Prop) (Q1:MS→Int→Nat→LI→LI→Int→Int→Int→Int→Int→Int→Int→Int→Int→Int→Int→Prop) (Q2:MS→Int→Nat→LI→LI→Int→Int→Int→Int→Int→Int→Int→Int→Int→Prop) (R_:Bool→Prop):Prop:=(Bo (true) (A8 ((0:Int)≤1∧(1:Int)<8) (A8 ((q1_ !=0)=true→(0:Int)≤1∧(1:Int)<8) (Bo (q1_ !=0&&!Fh xs_ zs_ q1_) (R_ (false)) (Q2 (m_) (i_) (n_) (xs_) (zs_) (q0_) (q1_) (q2_) (q3_) (q4_) (q5_) (q6_) (q7_) (2))))) (Q0 (m_) (iL iB (i_+1))))
def Tf (t p h:Int) (ks as_ cs es us vs:LI) (m_:MS) (i_:Int) (n_:Nat) (xs_ zs_:LI) (q0_ q1_ q2_ q3_ q4_ q5_ q6_ q7_:Int) (Q0:MS→Int→Prop) (Q1:MS→Int→Nat→LI→LI→Int→Int→Int→Int→Int→Int→Int→Int→Int→Int→Int→Prop) (Q2:MS→Int→Nat→LI→LI→Int→Int→Int→Int→Int→Int→Int→Int→Int→Prop) (R_:Bool→Prop):Prop:=(Bo (true) (A8 ((0:Int)≤2∧(2:Int)<8) (A8 ((q2_ !=0)=true→(0:Int)≤2∧(2:Int)<8) (Bo (q2_ !=0&&!Fh xs_ zs_ q2_) (R_ (false)) (Q2 (m_) (i_) (n_) (xs_) (zs_) (q0_) (q1_) (q2_) (q3_) (q4_) (q5_) (q6_) (q7_) (3))))) (Q0 (m_) (iL iB (i_+1))))
def Ti (t p h:Int) (ks as_ cs es us vs:LI) (m_:MS) (i_:Int) (n_:Nat) (xs_ zs_:LI) (q0_ q1_ q2_ q3_ q4_ q5_ q6_ q7_:Int) (Q0:MS→Int→Prop) (Q1:MS→Int→Nat→LI→LI→Int→Int→Int→Int→Int→Int→Int→Int→Int→Int→Int→Prop) (Q2:MS→Int→Nat→LI→LI→Int→Int→Int→Int→Int→Int→Int→Int→Int→Prop) (R_:Bool→Prop):Prop:=(Bo (true) (A8 ((0:Int)≤3∧(3:Int)<8) (A8 ((q3_ !=0)=true→(0:Int)≤3∧(3:Int)<8) (Bo (q3_ !=0&&!Fh xs_ zs_ q3_) (R_ (false)) (Q2 (m_) (i_) (n_) (xs_) (zs_) (q0_) (q1_) (q2_) (q3_) (q4_) (q5_) (q6_) (q7_) (4))))) (Q0 (m_) (iL iB (i_+1))))
def Tj (t p h:Int) (ks as_ cs es us vs:LI) (m_:MS) (i_:Int) (n_:Nat) (xs_ zs_:LI) (q0_ q1_ q2_ q3_ q4_ q5_ q6_ q7_:Int) (Q0:MS→Int→Prop) (Q1:MS→Int→Nat→LI→LI→Int→Int→Int→Int→Int→Int→Int→Int→Int→Int→Int→Prop) (Q2:MS→Int→Nat→LI→LI→Int→Int→Int→Int→Int→Int→Int→Int→Int→Prop) (R_:Bool→Prop):Prop:=(Bo (true) (A8 ((0:Int)≤4∧(4:Int)<8) (A8 ((q4_ !=0)=true→(0:Int)≤4∧(4:Int)<8) (Bo (q4_ !=0&&!Fh xs_ zs_ q4_) (R_ (false)) (Q2 (m_) (i_) (n_) (xs_) (zs_) (q0_) (q1_) (q2_) (q3_) (q4_) (q5_) (q6_) (q7_) (5))))) (Q0 (m_) (iL iB (i_+1))))
def Tm (t p h:Int) (ks as_ cs es us vs:LI) (m_:MS) (i_:Int) (n_:Nat) (xs_ zs_:LI) (q0_ q1_ q2_ q3_ q4_ q5_ q6_ q7_:Int) (Q0:MS→Int→Prop) (Q1:MS→Int→Nat→LI→LI→Int→Int→Int→Int→Int→Int→Int→Int→Int→Int→Int→Prop) (Q2:MS→Int→Nat→LI→LI→Int→Int→Int→Int→Int→Int→Int→Int→Int→Prop) (R_:Bool→Prop):Prop:=(Bo (true) (A8 ((0:Int)≤5∧(5:Int)<8) (A8 ((q5_ !=0)=true→(0:Int)≤5∧(5:Int)<8) (Bo (q5_ !=0&&!Fh xs_ zs_ q5_) (R_ (false)) (Q2 (m_) (i_) (n_) (xs_) (zs_) (q0_) (q1_) (q2_) (q3_) (q4_) (q5_) (q6_) (q7_) (6))))) (Q0 (m_) (iL iB (i_+1))))
def Tn (t p h:Int) (ks as_ cs es us vs:LI) (m_:MS) (i_:Int) (n_:Nat) (xs_ zs_:LI) (q0_ q1_ q2_ q3_ q4_ q5_ q6_ q7_:Int) (Q0:MS→Int→Prop) (Q1:MS→Int→Nat→LI→LI→Int→Int→Int→Int→Int→Int→Int→Int→Int→Int→Int→Prop) (Q2:MS→Int→Nat→LI→LI→Int→Int→Int→Int→Int→Int→Int→Int→Int→Prop) (R_:Bool→Prop):Prop:=(Bo (true) (A8 ((0:Int)≤6∧(6:Int)<8) (A8 ((q6_ !=0)=true→(0:Int)≤6∧(6:Int)<8) (Bo (q6_ !=0&&!Fh xs_ zs_ q6_) (R_ (false)) (Q2 (m_) (i_) (n_) (xs_) (zs_) (q0_) (q1_) (q2_) (q3_) (q4_) (q5_) (q6_) (q7_) (7))))) (Q0 (m_) (iL iB (i_+1))))
def Tq (t p h:Int) (ks as_ cs es us vs:LI) (m_:MS) (i_:Int) (n_:Nat) (xs_ zs_:LI) (q0_ q1_ q2_ q3_ q4_ q5_ q6_ q7_:Int) (Q0:MS→Int→Prop) (Q1:MS→Int→Nat→LI→LI→Int→Int→Int→Int→Int→Int→Int→Int→Int→Int→Int→Prop) (Q2:MS→Int→Nat→LI→LI→Int→Int→Int→Int→Int→Int→Int→Int→Int→Prop) (R_:Bool→Prop):Prop:=(Bo (true) (A8 ((0:Int)≤7∧(7:Int)<8) (A8 ((q7_ !=0)=true→(0:Int)≤7∧(7:Int)<8) (Bo (q7_ !=0&&!Fh xs_ zs_ q7_) (R_ (false)) (Q2 (m_) (i_) (n_) (xs_) (zs_) (q0_) (q1_) (q2_) (q3_) (q4_) (q5_) (q6_) (q7_) (8))))) (Q0 (m_) (iL iB (i_+1))))
def Tt (t p h:Int) (ks as_ cs es us vs:LI) (m_:MS) (i_:Int) (n_:Nat) (xs_ zs_:LI) (q0_ q1_ q2_ q3_ q4_ q5_ q6_ q7_:Int) (Q0:MS→Int→Prop) (Q1:MS→Int→Nat→LI→LI→Int→Int→Int→Int→Int→Int→Int→Int→Int→Int→Int→Prop) (Q2:MS→Int→Nat→LI→LI→Int→Int→Int→Int→Int→Int→Int→Int→Int→Prop) (R_:Bool→Prop):Prop:=(Bo (false) (A8 ((0:Int)≤8∧(8:Int)<8) (A8 (False) False)) (Q0 (m_) (iL iB (i_+1))))
def Be (t p h:Int) (ks as_ cs es us vs:LI) (m_:MS) (i_:Int) (n_:Nat) (xs_ zs_:LI) (q0_ q1_ q2_ q3_ q4_ q5_ q6_ q7_ k_:Int) (r_:Bool):Prop:=r_=true∧MI m_∧m_.t=t∧m_.p=p∧m_.h=h∧m_.l.length≤i_.toNat+1∧0≤i_∧i_<(ks.length:Int)∧ks.length≤60∧n_=(Bz m_.l).length∧(xs_,zs_,q0_,q1_,q2_,q3_,q4_,q5_,q6_,q7_)=Dx m_∧0≤k_∧k_≤8
abbrev P8 (p0:Addr) (t p h:Int) (ks as_ cs es us vs:LI):Hd Sg:=⟨none,[0,1,0,1,1,1],[.blk 0, .code [1,1,1,1]],[5,1,6,2],[.objb Cc, .roc [.ints .i64 (ks), .ints .i64 (as_), .ints .i64 (cs), .ints .i64 (es), .ints .i64 (us), .ints .i64 (vs)], .i .i64, .box 23 [.ic .i64 (t), .ic .i64 (p), .ic .i64 (h)]]⟩
abbrev P9 (p0:Addr) (t p h:Int) (ks as_ cs es us vs:LI):Hd Sg:=⟨none,[0,1,0,1,1,1,1,1,1,0,0,1,0,0,1,0,1,1,1],[.blk 2, .code [1,1,1,1,1,1,1,0,0,1,0,0,1,0,1,1,1], .blk 1, .code [1,1,0,0,1,0,1,1,1], .again [0,1,0,1,1,1], .blk 0, .code [1,1,1,1]],[5,1,6,2,9,12,10,11],[.objb Cc, .roc [.ints .i64 (ks), .ints .i64 (as_), .ints .i64 (cs), .ints .i64 (es), .ints .i64 (us), .ints .i64 (vs)], .i .i64, .box 23 [.ic .i64 (t), .ic .i64 (p), .ic .i64 (h)], .box 27 [.own 55 [some .i64,some .i64], .i .i64, .i .i64, .i .i64, .i .i64, .i .i64, .i .i64, .i .i64, .i .i64], .i .i64, .i .i64, .i .i64]⟩
abbrev PD (p0:Addr) (t p h:Int) (ks as_ cs es us vs:LI):Hd Sg:=⟨none,[0,1,1,1,1,1,1,1,1,0,0,1,0,0,1,0,1,1,1],[.blk 4, .blk 1, .code [1,1,0,0,1,0,1,1,1], .again [0,1,0,1,1,1], .blk 0, .code [1,1,1,1]],[5,1,6,2,9,14],[.objb Cc, .roc [.ints .i64 (ks), .ints .i64 (as_), .ints .i64 (cs), .ints .i64 (es), .ints .i64 (us), .ints .i64 (vs)], .i .i64, .box 23 [.ic .i64 (t), .ic .i64 (p), .ic .i64 (h)], .box 27 [.own 55 [some .i64,some .i64], .i .i64, .i .i64, .i .i64, .i .i64, .i .i64, .i .i64, .i .i64, .i .i64], .i .i64]⟩
theorem AbZ (t p h:Int) (ks as_ cs es us vs:LI) (hp0:Ag t p h=true) (hl0:ks.length≤9223372036854775807):Abs t p h ks as_ cs es us vs (λm_' i_'=>BL t p h ks as_ cs es us vs m_' i_' (H6 t p h ks as_ cs es us vs)) (λm_' i_' n_' xs_' zs_' q0_' q1_' q2_' q3_' q4_' q5_' q6_' q7_' k_' at_' en_'=>BM t p h ks as_ cs es us vs m_' i_' n_' xs_' zs_' q0_' q1_' q2_' q3_' q4_' q5_' q6_' q7_' k_' at_' en_' (H6 t p h ks as_ cs es us vs)) (λm_' i_' n_' xs_' zs_' q0_' q1_' q2_' q3_' q4_' q5_' q6_' q7_' k_'=>Be t p h ks as_ cs es us vs m_' i_' n_' xs_' zs_' q0_' q1_' q2_' q3_' q4_' q5_' q6_' q7_' k_' (H6 t p h ks as_ cs es us vs)) (λr__=>r__=(H6 t p h ks as_ cs es us vs)):=by
 unfold Abs
 try unfold BL
 try unfold BM
 try unfold Be
 refine ⟨λ_=>?_, λh=>?_⟩
 ·rintro r2 rfl;rfl
 ·have h:¬((ks.length:Int)>60):=by simpa using h
  rintro r2 rfl
  exact ⟨Ajm (Js hp0), λ_=>⟨rfl,Alu hp0,rfl,rfl,rfl,kC _,by decide,by omega,by omega⟩⟩
theorem Aca (t p h:Int) (ks as_ cs es us vs:LI) (hp0:Ag t p h=true) (hl0:ks.length≤9223372036854775807) (m_:MS) (i_:Int) {r_:Bool} (hI:BL t p h ks as_ cs es us vs m_ i_ r_):YC t p h ks as_ cs es us vs m_ i_ (λm_' i_'=>BL t p h ks as_ cs es us vs m_' i_' r_∧lx (((ks.length:Int)-i_').toNat,4,0) (((ks.length:Int)-i_).toNat,4,0)) (λm_' i_' n_' xs_' zs_' q0_' q1_' q2_' q3_' q4_' q5_' q6_' q7_' k_' at_' en_'=>BM t p h ks as_ cs es us vs m_' i_' n_' xs_' zs_' q0_' q1_' q2_' q3_' q4_' q5_' q6_' q7_' k_' at_' en_' r_∧lx (((ks.length:Int)-i_').toNat,3,((n_':Int)-k_').toNat) (((ks.length:Int)-i_).toNat,4,0)) (λm_' i_' n_' xs_' zs_' q0_' q1_' q2_' q3_' q4_' q5_' q6_' q7_' k_'=>Be t p h ks as_ cs es us vs m_' i_' n_' xs_' zs_' q0_' q1_' q2_' q3_' q4_' q5_' q6_' q7_' k_' r_∧lx (((ks.length:Int)-i_').toNat,2,(8-k_').toNat) (((ks.length:Int)-i_).toNat,4,0)) (λr__=>r__=r_):=by
 unfold BL at hI
 unfold YC
 try unfold BL
 try unfold BM
 try unfold Be
 obtain ⟨hr_,h1,rfl,rfl,rfl,h5,h6,h7,h8⟩:=hI
 have hR:=h1.c
 refine ⟨λhlt=>?_, λ_=>?_⟩
 ·have hlt:i_<(ks.length:Int):=by simpa using hlt
  rintro r1 rfl
  refine ⟨h1.nd, λ_=>⟨by omega, λ_=>⟨h1.inB, λ_=>⟨⟨h6,hlt⟩, λ_=>⟨⟨h6,hlt⟩, λ_=>?_⟩⟩⟩⟩⟩
  intro r9 e9
  have e9:r9=Ac m_ (ks.getD i_.toNat 0) (as_.getD i_.toNat 0) (cs.getD i_.toNat 0) (es.getD i_.toNat 0) (us.getD i_.toNat 0) (vs.getD i_.toNat 0):=e9
  have hA:=Ajq h1 (ks.getD i_.toNat 0) (as_.getD i_.toNat 0) (cs.getD i_.toNat 0) (es.getD i_.toNat 0) (us.getD i_.toNat 0) (vs.getD i_.toNat 0)
  rw [←e9] at hA
  obtain ⟨s',b⟩:=r9
  obtain ⟨g1,g2,g3,g4,g5,_,g7⟩:=hA
  dsimp only at g1 g2 g3 g4 g5 g7 ⊢
  clear e9
  refine ⟨h1.nd, λ_=>?_⟩
  rintro r11 rfl
  refine ⟨g1.nd, λ_=>⟨by omega, λ_=>⟨g1.inB, λ_=>⟨λ_=>⟨h6,hlt⟩, λ_=>⟨λ_=>st_len _, λ_=>⟨λ_=>st_len _, λ_=>⟨λhb=>?_, λ_=>?_⟩⟩⟩⟩⟩⟩⟩
  ·exfalso
   rw [iG] at hb
   obtain ⟨hb1,hb2⟩:=hb
   have:=g7 hb1
   subst this
   rw [Aiq] at hb2
   cases hb2
  ·have hs:=(Js hR).ss
   refine ⟨by rw [Alv hs];omega, λ_=>?_⟩
   rw [AlI hR,Aly hR]
   exact ⟨⟨hr_,g1,g3,g4,g5,by omega,h6,hlt,h8,by show ((Bz s'.l).map _).length=_;rw [kD],rfl,by decide,by omega,by rw [atK];rfl,rfl⟩,Cb⟩
 ·rintro r1 rfl
  exact hr_.symm
theorem Acb (t p h:Int) (ks as_ cs es us vs:LI) (hp0:Ag t p h=true) (hl0:ks.length≤9223372036854775807) (m_:MS) (i_:Int) (n_:Nat) (xs_ zs_:LI) (q0_ q1_ q2_ q3_ q4_ q5_ q6_ q7_ k_ at_ en_:Int) {r_:Bool} (hI:BM t p h ks as_ cs es us vs m_ i_ n_ xs_ zs_ q0_ q1_ q2_ q3_ q4_ q5_ q6_ q7_ k_ at_ en_ r_):YD t p h ks as_ cs es us vs m_ i_ n_ xs_ zs_ q0_ q1_ q2_ q3_ q4_ q5_ q6_ q7_ k_ at_ en_ (λm_' i_'=>BL t p h ks as_ cs es us vs m_' i_' r_∧lx (((ks.length:Int)-i_').toNat,4,0) (((ks.length:Int)-i_).toNat,3,((n_:Int)-k_).toNat)) (λm_' i_' n_' xs_' zs_' q0_' q1_' q2_' q3_' q4_' q5_' q6_' q7_' k_' at_' en_'=>BM t p h ks as_ cs es us vs m_' i_' n_' xs_' zs_' q0_' q1_' q2_' q3_' q4_' q5_' q6_' q7_' k_' at_' en_' r_∧lx (((ks.length:Int)-i_').toNat,3,((n_':Int)-k_').toNat) (((ks.length:Int)-i_).toNat,3,((n_:Int)-k_).toNat)) (λm_' i_' n_' xs_' zs_' q0_' q1_' q2_' q3_' q4_' q5_' q6_' q7_' k_'=>Be t p h ks as_ cs es us vs m_' i_' n_' xs_' zs_' q0_' q1_' q2_' q3_' q4_' q5_' q6_' q7_' k_' r_∧lx (((ks.length:Int)-i_').toNat,2,(8-k_').toNat) (((ks.length:Int)-i_).toNat,3,((n_:Int)-k_).toNat)) (λr__=>r__=r_):=by
 unfold BM at hI
 unfold YD
 try unfold BL
 try unfold BM
 try unfold Be
 obtain ⟨hr_,h1,rfl,rfl,rfl,h5,h6,h7,h8,hn,hS,h9,h10,rfl,rfl⟩:=hI
 have hx:xs_=(Bz m_.l).map (·.1):=congrArg (λx=>x.1) hS
 have hz:zs_=(Bz m_.l).map (·.2):=congrArg (λx=>x.2.1) hS
 refine ⟨λhlt=>?_, λ_=>?_⟩
 ·have hlt:k_<(n_:Int):=by simpa using hlt
  have ha:=AgN h1 (k:=k_.toNat) (by omega)
  have hl:=Aei m_.l
  have ea:atK m_.h m_.l (k_+1).toNat=xs_.getD k_.toNat 0+zs_.getD k_.toNat 0:=by
   rw [atK,if_neg (by omega),show (k_+1).toNat-1=k_.toNat by omega,hx,hz]
  rw [←hx,←hz] at ha
  refine ⟨⟨h9,hlt⟩, λ_=>⟨λhb=>?_, λ_=>?_⟩⟩
  ·exfalso
   simp only [lP,decide_eq_true_eq] at hb
   rw [Gq (n:=Wi m_.p m_.h-xs_.getD k_.toNat 0) (by omega)] at hb
   omega
  ·rw [Gq (n:=k_+1) (by omega),Gq (n:=xs_.getD k_.toNat 0+zs_.getD k_.toNat 0) (by omega)]
   exact ⟨⟨hr_,h1,rfl,rfl,rfl,h5,h6,h7,h8,hn,hS,by omega,by omega,ea.symm,rfl⟩,Cb⟩
 ·exact ⟨⟨hr_,h1,rfl,rfl,rfl,h5,h6,h7,h8,hn,hS,by decide,by decide⟩,Cb⟩
theorem Afh (t p h:Int) (ks as_ cs es us vs:LI) (hp0:Ag t p h=true) (hl0:ks.length≤9223372036854775807) (m_:MS) (i_:Int) (n_:Nat) (xs_ zs_:LI) (q0_ q1_ q2_ q3_ q4_ q5_ q6_ q7_ k_:Int) {r_:Bool} (hI:Be t p h ks as_ cs es us vs m_ i_ n_ xs_ zs_ q0_ q1_ q2_ q3_ q4_ q5_ q6_ q7_ k_ r_):k_=0∨k_=1∨k_=2∨k_=3∨k_=4∨k_=5∨k_=6∨k_=7∨k_=8:=by
 unfold Be at hI
 omega
theorem YE (t p h:Int) (ks as_ cs es us vs:LI) (hp0:Ag t p h=true) (hl0:ks.length≤9223372036854775807) (m_:MS) (i_:Int) (n_:Nat) (xs_ zs_:LI) (q0_ q1_ q2_ q3_ q4_ q5_ q6_ q7_:Int) {r_:Bool} (hI:Be t p h ks as_ cs es us vs m_ i_ n_ xs_ zs_ q0_ q1_ q2_ q3_ q4_ q5_ q6_ q7_ (0:Int) r_):Tc t p h ks as_ cs es us vs m_ i_ n_ xs_ zs_ q0_ q1_ q2_ q3_ q4_ q5_ q6_ q7_ (λm_' i_'=>BL t p h ks as_ cs es us vs m_' i_' r_∧lx (((ks.length:Int)-i_').toNat,4,0) (((ks.length:Int)-i_).toNat,2,(8-(0:Int)).toNat)) (λm_' i_' n_' xs_' zs_' q0_' q1_' q2_' q3_' q4_' q5_' q6_' q7_' k_' at_' en_'=>BM t p h ks as_ cs es us vs m_' i_' n_' xs_' zs_' q0_' q1_' q2_' q3_' q4_' q5_' q6_' q7_' k_' at_' en_' r_∧lx (((ks.length:Int)-i_').toNat,3,((n_':Int)-k_').toNat) (((ks.length:Int)-i_).toNat,2,(8-(0:Int)).toNat)) (λm_' i_' n_' xs_' zs_' q0_' q1_' q2_' q3_' q4_' q5_' q6_' q7_' k_'=>Be t p h ks as_ cs es us vs m_' i_' n_' xs_' zs_' q0_' q1_' q2_' q3_' q4_' q5_' q6_' q7_' k_' r_∧lx (((ks.length:Int)-i_').toNat,2,(8-k_').toNat) (((ks.length:Int)-i_).toNat,2,(8-(0:Int)).toNat)) (λr__=>r__=r_):=by
 unfold Be at hI
 unfold Tc
 try unfold BL
 try unfold BM
 try unfold Be
 obtain ⟨hr_,h1,rfl,rfl,rfl,h5,h6,h7,h8,hn,hS,h9,h10⟩:=hI
 have hS0:=hS
 simp only [Dx,iM] at hS0
 obtain ⟨rfl,rfl,rfl,rfl,rfl,rfl,rfl,rfl,rfl,rfl⟩:=hS0
 refine ⟨λ_=>⟨by decide, λ_=>⟨λ_=>by decide, λ_=>⟨λhb=>?_, λ_=>⟨⟨hr_,h1,rfl,rfl,rfl,h5,h6,h7,h8,hn,hS,by decide,by decide⟩,Cb⟩⟩⟩⟩, λh=>(by cases h)⟩
 exfalso
 rw [Ky h1 (by simp)] at hb
 cases hb
theorem YF (t p h:Int) (ks as_ cs es us vs:LI) (hp0:Ag t p h=true) (hl0:ks.length≤9223372036854775807) (m_:MS) (i_:Int) (n_:Nat) (xs_ zs_:LI) (q0_ q1_ q2_ q3_ q4_ q5_ q6_ q7_:Int) {r_:Bool} (hI:Be t p h ks as_ cs es us vs m_ i_ n_ xs_ zs_ q0_ q1_ q2_ q3_ q4_ q5_ q6_ q7_ (1:Int) r_):Td t p h ks as_ cs es us vs m_ i_ n_ xs_ zs_ q0_ q1_ q2_ q3_ q4_ q5_ q6_ q7_ (λm_' i_'=>BL t p h ks as_ cs es us vs m_' i_' r_∧lx (((ks.length:Int)-i_').toNat,4,0) (((ks.length:Int)-i_).toNat,2,(8-(1:Int)).toNat)) (λm_' i_' n_' xs_' zs_' q0_' q1_' q2_' q3_' q4_' q5_' q6_' q7_' k_' at_' en_'=>BM t p h ks as_ cs es us vs m_' i_' n_' xs_' zs_' q0_' q1_' q2_' q3_' q4_' q5_' q6_' q7_' k_' at_' en_' r_∧lx (((ks.length:Int)-i_').toNat,3,((n_':Int)-k_').toNat) (((ks.length:Int)-i_).toNat,2,(8-(1:Int)).toNat)) (λm_' i_' n_' xs_' zs_' q0_' q1_' q2_' q3_' q4_' q5_' q6_' q7_' k_'=>Be t p h ks as_ cs es us vs m_' i_' n_' xs_' zs_' q0_' q1_' q2_' q3_' q4_' q5_' q6_' q7_' k_' r_∧lx (((ks.length:Int)-i_').toNat,2,(8-k_').toNat) (((ks.length:Int)-i_).toNat,2,(8-(1:Int)).toNat)) (λr__=>r__=r_):=by
 unfold Be at hI
 unfold Td
 try unfold BL
 try unfold BM
 try unfold Be
 obtain ⟨hr_,h1,rfl,rfl,rfl,h5,h6,h7,h8,hn,hS,h9,h10⟩:=hI
 have hS0:=hS
 simp only [Dx,iM] at hS0
 obtain ⟨rfl,rfl,rfl,rfl,rfl,rfl,rfl,rfl,rfl,rfl⟩:=hS0
 refine ⟨λ_=>⟨by decide, λ_=>⟨λ_=>by decide, λ_=>⟨λhb=>?_, λ_=>⟨⟨hr_,h1,rfl,rfl,rfl,h5,h6,h7,h8,hn,hS,by decide,by decide⟩,Cb⟩⟩⟩⟩, λh=>(by cases h)⟩
 exfalso
 rw [Ky h1 (by simp)] at hb
 cases hb
theorem YG (t p h:Int) (ks as_ cs es us vs:LI) (hp0:Ag t p h=true) (hl0:ks.length≤9223372036854775807) (m_:MS) (i_:Int) (n_:Nat) (xs_ zs_:LI) (q0_ q1_ q2_ q3_ q4_ q5_ q6_ q7_:Int) {r_:Bool} (hI:Be t p h ks as_ cs es us vs m_ i_ n_ xs_ zs_ q0_ q1_ q2_ q3_ q4_ q5_ q6_ q7_ (2:Int) r_):Tf t p h ks as_ cs es us vs m_ i_ n_ xs_ zs_ q0_ q1_ q2_ q3_ q4_ q5_ q6_ q7_ (λm_' i_'=>BL t p h ks as_ cs es us vs m_' i_' r_∧lx (((ks.length:Int)-i_').toNat,4,0) (((ks.length:Int)-i_).toNat,2,(8-(2:Int)).toNat)) (λm_' i_' n_' xs_' zs_' q0_' q1_' q2_' q3_' q4_' q5_' q6_' q7_' k_' at_' en_'=>BM t p h ks as_ cs es us vs m_' i_' n_' xs_' zs_' q0_' q1_' q2_' q3_' q4_' q5_' q6_' q7_' k_' at_' en_' r_∧lx (((ks.length:Int)-i_').toNat,3,((n_':Int)-k_').toNat) (((ks.length:Int)-i_).toNat,2,(8-(2:Int)).toNat)) (λm_' i_' n_' xs_' zs_' q0_' q1_' q2_' q3_' q4_' q5_' q6_' q7_' k_'=>Be t p h ks as_ cs es us vs m_' i_' n_' xs_' zs_' q0_' q1_' q2_' q3_' q4_' q5_' q6_' q7_' k_' r_∧lx (((ks.length:Int)-i_').toNat,2,(8-k_').toNat) (((ks.length:Int)-i_).toNat,2,(8-(2:Int)).toNat)) (λr__=>r__=r_):=by
 unfold Be at hI
 unfold Tf
 try unfold BL
 try unfold BM
 try unfold Be
 obtain ⟨hr_,h1,rfl,rfl,rfl,h5,h6,h7,h8,hn,hS,h9,h10⟩:=hI
 have hS0:=hS
 simp only [Dx,iM] at hS0
 obtain ⟨rfl,rfl,rfl,rfl,rfl,rfl,rfl,rfl,rfl,rfl⟩:=hS0
 refine ⟨λ_=>⟨by decide, λ_=>⟨λ_=>by decide, λ_=>⟨λhb=>?_, λ_=>⟨⟨hr_,h1,rfl,rfl,rfl,h5,h6,h7,h8,hn,hS,by decide,by decide⟩,Cb⟩⟩⟩⟩, λh=>(by cases h)⟩
 exfalso
 rw [Ky h1 (by simp)] at hb
 cases hb
theorem YH (t p h:Int) (ks as_ cs es us vs:LI) (hp0:Ag t p h=true) (hl0:ks.length≤9223372036854775807) (m_:MS) (i_:Int) (n_:Nat) (xs_ zs_:LI) (q0_ q1_ q2_ q3_ q4_ q5_ q6_ q7_:Int) {r_:Bool} (hI:Be t p h ks as_ cs es us vs m_ i_ n_ xs_ zs_ q0_ q1_ q2_ q3_ q4_ q5_ q6_ q7_ (3:Int) r_):Ti t p h ks as_ cs es us vs m_ i_ n_ xs_ zs_ q0_ q1_ q2_ q3_ q4_ q5_ q6_ q7_ (λm_' i_'=>BL t p h ks as_ cs es us vs m_' i_' r_∧lx (((ks.length:Int)-i_').toNat,4,0) (((ks.length:Int)-i_).toNat,2,(8-(3:Int)).toNat)) (λm_' i_' n_' xs_' zs_' q0_' q1_' q2_' q3_' q4_' q5_' q6_' q7_' k_' at_' en_'=>BM t p h ks as_ cs es us vs m_' i_' n_' xs_' zs_' q0_' q1_' q2_' q3_' q4_' q5_' q6_' q7_' k_' at_' en_' r_∧lx (((ks.length:Int)-i_').toNat,3,((n_':Int)-k_').toNat) (((ks.length:Int)-i_).toNat,2,(8-(3:Int)).toNat)) (λm_' i_' n_' xs_' zs_' q0_' q1_' q2_' q3_' q4_' q5_' q6_' q7_' k_'=>Be t p h ks as_ cs es us vs m_' i_' n_' xs_' zs_' q0_' q1_' q2_' q3_' q4_' q5_' q6_' q7_' k_' r_∧lx (((ks.length:Int)-i_').toNat,2,(8-k_').toNat) (((ks.length:Int)-i_).toNat,2,(8-(3:Int)).toNat)) (λr__=>r__=r_):=by
 unfold Be at hI
 unfold Ti
 try unfold BL
 try unfold BM
 try unfold Be
 obtain ⟨hr_,h1,rfl,rfl,rfl,h5,h6,h7,h8,hn,hS,h9,h10⟩:=hI
 have hS0:=hS
 simp only [Dx,iM] at hS0
 obtain ⟨rfl,rfl,rfl,rfl,rfl,rfl,rfl,rfl,rfl,rfl⟩:=hS0
 refine ⟨λ_=>⟨by decide, λ_=>⟨λ_=>by decide, λ_=>⟨λhb=>?_, λ_=>⟨⟨hr_,h1,rfl,rfl,rfl,h5,h6,h7,h8,hn,hS,by decide,by decide⟩,Cb⟩⟩⟩⟩, λh=>(by cases h)⟩
 exfalso
 rw [Ky h1 (by simp)] at hb
 cases hb
theorem YI (t p h:Int) (ks as_ cs es us vs:LI) (hp0:Ag t p h=true) (hl0:ks.length≤9223372036854775807) (m_:MS) (i_:Int) (n_:Nat) (xs_ zs_:LI) (q0_ q1_ q2_ q3_ q4_ q5_ q6_ q7_:Int) {r_:Bool} (hI:Be t p h ks as_ cs es us vs m_ i_ n_ xs_ zs_ q0_ q1_ q2_ q3_ q4_ q5_ q6_ q7_ (4:Int) r_):Tj t p h ks as_ cs es us vs m_ i_ n_ xs_ zs_ q0_ q1_ q2_ q3_ q4_ q5_ q6_ q7_ (λm_' i_'=>BL t p h ks as_ cs es us vs m_' i_' r_∧lx (((ks.length:Int)-i_').toNat,4,0) (((ks.length:Int)-i_).toNat,2,(8-(4:Int)).toNat)) (λm_' i_' n_' xs_' zs_' q0_' q1_' q2_' q3_' q4_' q5_' q6_' q7_' k_' at_' en_'=>BM t p h ks as_ cs es us vs m_' i_' n_' xs_' zs_' q0_' q1_' q2_' q3_' q4_' q5_' q6_' q7_' k_' at_' en_' r_∧lx (((ks.length:Int)-i_').toNat,3,((n_':Int)-k_').toNat) (((ks.length:Int)-i_).toNat,2,(8-(4:Int)).toNat)) (λm_' i_' n_' xs_' zs_' q0_' q1_' q2_' q3_' q4_' q5_' q6_' q7_' k_'=>Be t p h ks as_ cs es us vs m_' i_' n_' xs_' zs_' q0_' q1_' q2_' q3_' q4_' q5_' q6_' q7_' k_' r_∧lx (((ks.length:Int)-i_').toNat,2,(8-k_').toNat) (((ks.length:Int)-i_).toNat,2,(8-(4:Int)).toNat)) (λr__=>r__=r_):=by
 unfold Be at hI
 unfold Tj
 try unfold BL
 try unfold BM
 try unfold Be
 obtain ⟨hr_,h1,rfl,rfl,rfl,h5,h6,h7,h8,hn,hS,h9,h10⟩:=hI
 have hS0:=hS
 simp only [Dx,iM] at hS0
 obtain ⟨rfl,rfl,rfl,rfl,rfl,rfl,rfl,rfl,rfl,rfl⟩:=hS0
 refine ⟨λ_=>⟨by decide, λ_=>⟨λ_=>by decide, λ_=>⟨λhb=>?_, λ_=>⟨⟨hr_,h1,rfl,rfl,rfl,h5,h6,h7,h8,hn,hS,by decide,by decide⟩,Cb⟩⟩⟩⟩, λh=>(by cases h)⟩
 exfalso
 rw [Ky h1 (by simp)] at hb
 cases hb
theorem YJ (t p h:Int) (ks as_ cs es us vs:LI) (hp0:Ag t p h=true) (hl0:ks.length≤9223372036854775807) (m_:MS) (i_:Int) (n_:Nat) (xs_ zs_:LI) (q0_ q1_ q2_ q3_ q4_ q5_ q6_ q7_:Int) {r_:Bool} (hI:Be t p h ks as_ cs es us vs m_ i_ n_ xs_ zs_ q0_ q1_ q2_ q3_ q4_ q5_ q6_ q7_ (5:Int) r_):Tm t p h ks as_ cs es us vs m_ i_ n_ xs_ zs_ q0_ q1_ q2_ q3_ q4_ q5_ q6_ q7_ (λm_' i_'=>BL t p h ks as_ cs es us vs m_' i_' r_∧lx (((ks.length:Int)-i_').toNat,4,0) (((ks.length:Int)-i_).toNat,2,(8-(5:Int)).toNat)) (λm_' i_' n_' xs_' zs_' q0_' q1_' q2_' q3_' q4_' q5_' q6_' q7_' k_' at_' en_'=>BM t p h ks as_ cs es us vs m_' i_' n_' xs_' zs_' q0_' q1_' q2_' q3_' q4_' q5_' q6_' q7_' k_' at_' en_' r_∧lx (((ks.length:Int)-i_').toNat,3,((n_':Int)-k_').toNat) (((ks.length:Int)-i_).toNat,2,(8-(5:Int)).toNat)) (λm_' i_' n_' xs_' zs_' q0_' q1_' q2_' q3_' q4_' q5_' q6_' q7_' k_'=>Be t p h ks as_ cs es us vs m_' i_' n_' xs_' zs_' q0_' q1_' q2_' q3_' q4_' q5_' q6_' q7_' k_' r_∧lx (((ks.length:Int)-i_').toNat,2,(8-k_').toNat) (((ks.length:Int)-i_).toNat,2,(8-(5:Int)).toNat)) (λr__=>r__=r_):=by
 unfold Be at hI
 unfold Tm
 try unfold BL
 try unfold BM
 try unfold Be
 obtain ⟨hr_,h1,rfl,rfl,rfl,h5,h6,h7,h8,hn,hS,h9,h10⟩:=hI
 have hS0:=hS
 simp only [Dx,iM] at hS0
 obtain ⟨rfl,rfl,rfl,rfl,rfl,rfl,rfl,rfl,rfl,rfl⟩:=hS0
 refine ⟨λ_=>⟨by decide, λ_=>⟨λ_=>by decide, λ_=>⟨λhb=>?_, λ_=>⟨⟨hr_,h1,rfl,rfl,rfl,h5,h6,h7,h8,hn,hS,by decide,by decide⟩,Cb⟩⟩⟩⟩, λh=>(by cases h)⟩
 exfalso
 rw [Ky h1 (by simp)] at hb
 cases hb
theorem YK (t p h:Int) (ks as_ cs es us vs:LI) (hp0:Ag t p h=true) (hl0:ks.length≤9223372036854775807) (m_:MS) (i_:Int) (n_:Nat) (xs_ zs_:LI) (q0_ q1_ q2_ q3_ q4_ q5_ q6_ q7_:Int) {r_:Bool} (hI:Be t p h ks as_ cs es us vs m_ i_ n_ xs_ zs_ q0_ q1_ q2_ q3_ q4_ q5_ q6_ q7_ (6:Int) r_):Tn t p h ks as_ cs es us vs m_ i_ n_ xs_ zs_ q0_ q1_ q2_ q3_ q4_ q5_ q6_ q7_ (λm_' i_'=>BL t p h ks as_ cs es us vs m_' i_' r_∧lx (((ks.length:Int)-i_').toNat,4,0) (((ks.length:Int)-i_).toNat,2,(8-(6:Int)).toNat)) (λm_' i_' n_' xs_' zs_' q0_' q1_' q2_' q3_' q4_' q5_' q6_' q7_' k_' at_' en_'=>BM t p h ks as_ cs es us vs m_' i_' n_' xs_' zs_' q0_' q1_' q2_' q3_' q4_' q5_' q6_' q7_' k_' at_' en_' r_∧lx (((ks.length:Int)-i_').toNat,3,((n_':Int)-k_').toNat) (((ks.length:Int)-i_).toNat,2,(8-(6:Int)).toNat)) (λm_' i_' n_' xs_' zs_' q0_' q1_' q2_' q3_' q4_' q5_' q6_' q7_' k_'=>Be t p h ks as_ cs es us vs m_' i_' n_' xs_' zs_' q0_' q1_' q2_' q3_' q4_' q5_' q6_' q7_' k_' r_∧lx (((ks.length:Int)-i_').toNat,2,(8-k_').toNat) (((ks.length:Int)-i_).toNat,2,(8-(6:Int)).toNat)) (λr__=>r__=r_):=by
 unfold Be at hI
 unfold Tn
 try unfold BL
 try unfold BM
 try unfold Be
 obtain ⟨hr_,h1,rfl,rfl,rfl,h5,h6,h7,h8,hn,hS,h9,h10⟩:=hI
 have hS0:=hS
 simp only [Dx,iM] at hS0
 obtain ⟨rfl,rfl,rfl,rfl,rfl,rfl,rfl,rfl,rfl,rfl⟩:=hS0
 refine ⟨λ_=>⟨by decide, λ_=>⟨λ_=>by decide, λ_=>⟨λhb=>?_, λ_=>⟨⟨hr_,h1,rfl,rfl,rfl,h5,h6,h7,h8,hn,hS,by decide,by decide⟩,Cb⟩⟩⟩⟩, λh=>(by cases h)⟩
 exfalso
 rw [Ky h1 (by simp)] at hb
 cases hb
theorem YL (t p h:Int) (ks as_ cs es us vs:LI) (hp0:Ag t p h=true) (hl0:ks.length≤9223372036854775807) (m_:MS) (i_:Int) (n_:Nat) (xs_ zs_:LI) (q0_ q1_ q2_ q3_ q4_ q5_ q6_ q7_:Int) {r_:Bool} (hI:Be t p h ks as_ cs es us vs m_ i_ n_ xs_ zs_ q0_ q1_ q2_ q3_ q4_ q5_ q6_ q7_ (7:Int) r_):Tq t p h ks as_ cs es us vs m_ i_ n_ xs_ zs_ q0_ q1_ q2_ q3_ q4_ q5_ q6_ q7_ (λm_' i_'=>BL t p h ks as_ cs es us vs m_' i_' r_∧lx (((ks.length:Int)-i_').toNat,4,0) (((ks.length:Int)-i_).toNat,2,(8-(7:Int)).toNat)) (λm_' i_' n_' xs_' zs_' q0_' q1_' q2_' q3_' q4_' q5_' q6_' q7_' k_' at_' en_'=>BM t p h ks as_ cs es us vs m_' i_' n_' xs_' zs_' q0_' q1_' q2_' q3_' q4_' q5_' q6_' q7_' k_' at_' en_' r_∧lx (((ks.length:Int)-i_').toNat,3,((n_':Int)-k_').toNat) (((ks.length:Int)-i_).toNat,2,(8-(7:Int)).toNat)) (λm_' i_' n_' xs_' zs_' q0_' q1_' q2_' q3_' q4_' q5_' q6_' q7_' k_'=>Be t p h ks as_ cs es us vs m_' i_' n_' xs_' zs_' q0_' q1_' q2_' q3_' q4_' q5_' q6_' q7_' k_' r_∧lx (((ks.length:Int)-i_').toNat,2,(8-k_').toNat) (((ks.length:Int)-i_).toNat,2,(8-(7:Int)).toNat)) (λr__=>r__=r_):=by
 unfold Be at hI
 unfold Tq
 try unfold BL
 try unfold BM
 try unfold Be
 obtain ⟨hr_,h1,rfl,rfl,rfl,h5,h6,h7,h8,hn,hS,h9,h10⟩:=hI
 have hS0:=hS
 simp only [Dx,iM] at hS0
 obtain ⟨rfl,rfl,rfl,rfl,rfl,rfl,rfl,rfl,rfl,rfl⟩:=hS0
 refine ⟨λ_=>⟨by decide, λ_=>⟨λ_=>by decide, λ_=>⟨λhb=>?_, λ_=>⟨⟨hr_,h1,rfl,rfl,rfl,h5,h6,h7,h8,hn,hS,by decide,by decide⟩,Cb⟩⟩⟩⟩, λh=>(by cases h)⟩
 exfalso
 rw [Ky h1 (by simp)] at hb
 cases hb
theorem YM (t p h:Int) (ks as_ cs es us vs:LI) (hp0:Ag t p h=true) (hl0:ks.length≤9223372036854775807) (m_:MS) (i_:Int) (n_:Nat) (xs_ zs_:LI) (q0_ q1_ q2_ q3_ q4_ q5_ q6_ q7_:Int) {r_:Bool} (hI:Be t p h ks as_ cs es us vs m_ i_ n_ xs_ zs_ q0_ q1_ q2_ q3_ q4_ q5_ q6_ q7_ (8:Int) r_):Tt t p h ks as_ cs es us vs m_ i_ n_ xs_ zs_ q0_ q1_ q2_ q3_ q4_ q5_ q6_ q7_ (λm_' i_'=>BL t p h ks as_ cs es us vs m_' i_' r_∧lx (((ks.length:Int)-i_').toNat,4,0) (((ks.length:Int)-i_).toNat,2,(8-(8:Int)).toNat)) (λm_' i_' n_' xs_' zs_' q0_' q1_' q2_' q3_' q4_' q5_' q6_' q7_' k_' at_' en_'=>BM t p h ks as_ cs es us vs m_' i_' n_' xs_' zs_' q0_' q1_' q2_' q3_' q4_' q5_' q6_' q7_' k_' at_' en_' r_∧lx (((ks.length:Int)-i_').toNat,3,((n_':Int)-k_').toNat) (((ks.length:Int)-i_).toNat,2,(8-(8:Int)).toNat)) (λm_' i_' n_' xs_' zs_' q0_' q1_' q2_' q3_' q4_' q5_' q6_' q7_' k_'=>Be t p h ks as_ cs es us vs m_' i_' n_' xs_' zs_' q0_' q1_' q2_' q3_' q4_' q5_' q6_' q7_' k_' r_∧lx (((ks.length:Int)-i_').toNat,2,(8-k_').toNat) (((ks.length:Int)-i_).toNat,2,(8-(8:Int)).toNat)) (λr__=>r__=r_):=by
 unfold Be at hI
 unfold Tt
 try unfold BL
 try unfold BM
 try unfold Be
 obtain ⟨hr_,h1,rfl,rfl,rfl,h5,h6,h7,h8,hn,hS,h9,h10⟩:=hI
 refine ⟨λh=>(by cases h), λ_=>?_⟩
 rw [Gq (n:=i_+1) (by omega)]
 exact ⟨⟨hr_,h1,rfl,rfl,rfl,by omega,by omega,by omega,h8⟩,Cb⟩
theorem AgO:EF 5 Air:=
 Kv Dg AgK (I:=[2999998,1643000000005,1643000000001,1643000000006,1643000000002,7187000000005,7187000000001,7187000000006,7187000000002,7187000000009,7187000000012,7187000000010,7187000000011,2303000000005,2303000000001,2303000000006,2303000000002,2303000000009,2303000000014]) Try.func5 mix (B:=Bg Try.f5) (by kernel_rfl) rfl (by kernel_rfl) 400
  λp0 t p h ks as_ cs es us vs hb hp=>have hl0:ks.length≤9223372036854775807:=hb.2.1;have hp0:Ag t p h=true:=hp _ (.head _);⟨[P8 p0 t p h ks as_ cs es us vs,P9 p0 t p h ks as_ cs es us vs,PD p0 t p h ks as_ cs es us vs], λj=>iN [AA (Hd.kd (P8 p0 t p h ks as_ cs es us vs)) (λm_' i_'=>BL t p h ks as_ cs es us vs m_' i_' (H6 t p h ks as_ cs es us vs)),AA (Hd.kd (P9 p0 t p h ks as_ cs es us vs)) (λm_' i_' n_' xs_' zs_' q0_' q1_' q2_' q3_' q4_' q5_' q6_' q7_' k_' at_' en_'=>BM t p h ks as_ cs es us vs m_' i_' n_' xs_' zs_' q0_' q1_' q2_' q3_' q4_' q5_' q6_' q7_' k_' at_' en_' (H6 t p h ks as_ cs es us vs)),AA (Hd.kd (PD p0 t p h ks as_ cs es us vs)) (λm_' i_' n_' xs_' zs_' q0_' q1_' q2_' q3_' q4_' q5_' q6_' q7_' k_'=>Be t p h ks as_ cs es us vs m_' i_' n_' xs_' zs_' q0_' q1_' q2_' q3_' q4_' q5_' q6_' q7_' k_' (H6 t p h ks as_ cs es us vs))] j (λ_=>False), λj=>iN [AA (Hd.kd (P8 p0 t p h ks as_ cs es us vs)) (λm_' i_'=>(((ks.length:Int)-i_').toNat,4,0)),AA (Hd.kd (P9 p0 t p h ks as_ cs es us vs)) (λm_' i_' n_' xs_' zs_' q0_' q1_' q2_' q3_' q4_' q5_' q6_' q7_' k_' at_' en_'=>(((ks.length:Int)-i_').toNat,3,((n_':Int)-k_').toNat)),AA (Hd.kd (PD p0 t p h ks as_ cs es us vs)) (λm_' i_' n_' xs_' zs_' q0_' q1_' q2_' q3_' q4_' q5_' q6_' q7_' k_'=>(((ks.length:Int)-i_').toNat,2,(8-k_').toNat))] j (λ_=>(0,0,0)),by kernel_rfl,⟨_, λ_ _ _=>by kernel_rfl,AbZ t p h ks as_ cs es us vs hp0 hl0⟩,⟨λm_ i_ hI=>⟨_, λ_ _ _=>by kernel_rfl,Aca t p h ks as_ cs es us vs hp0 hl0 m_ i_ hI⟩,⟨λm_ i_ n_ xs_ zs_ q0_ q1_ q2_ q3_ q4_ q5_ q6_ q7_ k_ at_ en_ hI=>⟨_, λ_ _ _=>by kernel_rfl,Acb t p h ks as_ cs es us vs hp0 hl0 m_ i_ n_ xs_ zs_ q0_ q1_ q2_ q3_ q4_ q5_ q6_ q7_ k_ at_ en_ hI⟩,⟨λm_ i_ n_ xs_ zs_ q0_ q1_ q2_ q3_ q4_ q5_ q6_ q7_ k_ hI=>(by
   rcases Afh t p h ks as_ cs es us vs hp0 hl0 m_ i_ n_ xs_ zs_ q0_ q1_ q2_ q3_ q4_ q5_ q6_ q7_ k_ hI with rfl|rfl|rfl|rfl|rfl|rfl|rfl|rfl|rfl
   ·exact ⟨_, λ_ _ _=>by kernel_rfl,YE t p h ks as_ cs es us vs hp0 hl0 m_ i_ n_ xs_ zs_ q0_ q1_ q2_ q3_ q4_ q5_ q6_ q7_ hI⟩
   ·exact ⟨_, λ_ _ _=>by kernel_rfl,YF t p h ks as_ cs es us vs hp0 hl0 m_ i_ n_ xs_ zs_ q0_ q1_ q2_ q3_ q4_ q5_ q6_ q7_ hI⟩
   ·exact ⟨_, λ_ _ _=>by kernel_rfl,YG t p h ks as_ cs es us vs hp0 hl0 m_ i_ n_ xs_ zs_ q0_ q1_ q2_ q3_ q4_ q5_ q6_ q7_ hI⟩
   ·exact ⟨_, λ_ _ _=>by kernel_rfl,YH t p h ks as_ cs es us vs hp0 hl0 m_ i_ n_ xs_ zs_ q0_ q1_ q2_ q3_ q4_ q5_ q6_ q7_ hI⟩
   ·exact ⟨_, λ_ _ _=>by kernel_rfl,YI t p h ks as_ cs es us vs hp0 hl0 m_ i_ n_ xs_ zs_ q0_ q1_ q2_ q3_ q4_ q5_ q6_ q7_ hI⟩
   ·exact ⟨_, λ_ _ _=>by kernel_rfl,YJ t p h ks as_ cs es us vs hp0 hl0 m_ i_ n_ xs_ zs_ q0_ q1_ q2_ q3_ q4_ q5_ q6_ q7_ hI⟩
   ·exact ⟨_, λ_ _ _=>by kernel_rfl,YK t p h ks as_ cs es us vs hp0 hl0 m_ i_ n_ xs_ zs_ q0_ q1_ q2_ q3_ q4_ q5_ q6_ q7_ hI⟩
   ·exact ⟨_, λ_ _ _=>by kernel_rfl,YL t p h ks as_ cs es us vs hp0 hl0 m_ i_ n_ xs_ zs_ q0_ q1_ q2_ q3_ q4_ q5_ q6_ q7_ hI⟩
   ·exact ⟨_, λ_ _ _=>by kernel_rfl,YM t p h ks as_ cs es us vs hp0 hl0 m_ i_ n_ xs_ zs_ q0_ q1_ q2_ q3_ q4_ q5_ q6_ q7_ hI⟩),trivial⟩⟩⟩⟩
theorem Acd (t p h:Int) (ks as_ cs es us vs:LI) (a_0:Option Addr) (c_0:Nat) {E_:Ev} {G_:Hp} {w_:World} (hr0:Dl G_ a_0 ks.length [.ints .i64 ks, .ints .i64 as_, .ints .i64 cs, .ints .i64 es, .ints .i64 us, .ints .i64 vs]∧ks.length≤c_0) (hp0:Ag t p h=true) (hS:Sat E_ G_ w_ []):Calls Try.prog 5 #[(.agg #[.int .i64 t, .int .i64 p, .int .i64 h]),(.slice a_0 ks.length c_0)] w_ (λen w'=>en= .returned (.bool (H6 t p h ks as_ cs es us vs))∧Sat E_ G_ w' []):=by
 refine Ahy Dg (c:=Abr) (F:=H6) (pre:= λt p h ks as_ cs es us vs=>[Ag t p h=true]) AgO [((.agg #[.int .i64 t, .int .i64 p, .int .i64 h]),(.none)),((.slice a_0 ks.length c_0),(.row ks.length [.ints .i64 ks, .ints .i64 as_, .ints .i64 cs, .ints .i64 es, .ints .i64 us, .ints .i64 vs]))] [.i t, .i p, .i h, .li ks, .li as_, .li cs, .li es, .li us, .li vs] (by kernel_rfl) _ (by kernel_rfl) (by kernel_rfl) (by kernel_rfl) ?_ ?_ hS
 ·intro p_ hp_
  have hp_:p_∈[(Ag t p h=true:Prop)]:=hp_
  simp only [iE,jK,or_false] at hp_
  rcases hp_ with rfl
  ·exact hp0
 ·intro x hx
  simp only [iE,jK,or_false] at hx
  rcases hx with rfl|rfl
  ·first|(simp only [Ei,Ej,and_true,true_and];done)|(simp only [Ei,Ej,and_true,true_and];exact ⟨_,_,rfl,trivial⟩)|simp [Ei,Ej]
  ·first|(simp only [Ei,Ej,and_true,true_and];done)|(simp only [Ei,Ej,and_true,true_and];exact ⟨_,_,rfl,hr0.1,hr0.2, λh=>by cases h⟩)|simp [Ei,Ej]
end
section
open Go.Sl
def Amg:Tb:=(7,We)::Px
theorem Akr:CQ Amg:=EO Abq KG
def G6 (t p h:Int) (ks as_ cs es us vs:LI):Bool:=true
abbrev YN:Ct Sg:=⟨none,false,[.agg [.i .i64, .i .i64, .i .i64], .ro [some .i64,some .i64,some .i64,some .i64,some .i64,some .i64]], .b⟩
def AgP:Entry Sg:=CW YN G6 (λt p h ks as_ cs es us vs=>[Ag t p h=false])
def YO (t p h:Int) (ks as_ cs es us vs:LI) (Q0:Int→Prop) (Q1:Int→Int→Int→Int→Prop) (Q2:Int→Int→Prop) (R_:Bool→Prop):Prop:=(Bo (decide ((↑(iV ks):Int)>60)) (R_ (true)) (Bo (D5 t p h !=0) (Q0 (0)) (A8 (False) False)))
abbrev Aam (h:Int) (Q1:Int→Int→Int→Int→Prop) (i_ p:Int):Prop:=(A8 (0≤iL mW (if (if h<30 then h else 30)>0 then if h<30 then h else 30 else 0)) (Q1 (i_) (0) (iL iB ((1:Int)*2^min (jD (iL mW (if (if h<30 then h else 30)>0 then if h<30 then h else 30 else 0))) 64)) (iL iB (iL iB ((1:Int)*2^min (jD (iL mW (if (if h<30 then h else 30)>0 then if h<30 then h else 30 else 0))) 64)*iL iB (p+1)))))
abbrev Aan (i_:Int) (ks es:LI) (R_:Bool→Prop) (h:Int) (Q1:Int→Int→Int→Int→Prop) (p:Int):Prop:=(Bo (false) (A8 (False) (A8 (False) False)) (Bo (true) (A8 (true=false→0≤i_∧i_<(↑(iV ks):Int)) (A8 ((true||iN es (jD i_) (0:Int) !=0)=true→0=0) (A8 ((true||iN es (jD i_) (0:Int) !=0)=true→0=0) (Bo ((true||iN es (jD i_) (0:Int) !=0)&&false) (R_ (false)) (Aam h Q1 i_ p))))) (A8 (False) False)))
abbrev Aao (i_:Int) (ks es:LI) (R_:Bool→Prop) (h:Int) (Q1:Int→Int→Int→Int→Prop) (p:Int):Prop:=(Bo (false) (A8 (False) (A8 (False) False)) (Bo (true) (A8 (false=false→0≤i_∧i_<(↑(iV ks):Int)) (A8 ((false||iN es (jD i_) (0:Int) !=0)=true→0=0) (A8 ((false||iN es (jD i_) (0:Int) !=0)=true→0=0) (Bo ((false||iN es (jD i_) (0:Int) !=0)&&false) (R_ (false)) (Aam h Q1 i_ p))))) (A8 (False) False)))
abbrev Aap (es:LI) (i_:Int) (ks:LI) (R_:Bool→Prop) (h:Int) (Q1:Int→Int→Int→Int→Prop) (p:Int):Prop:=(Bo (iN es (jD i_) (0:Int) !=0) (Aao i_ ks es R_ h Q1 p) (Bo (iN ks (jD i_) (0:Int)==1) (A8 (False) (A8 (False) False)) (Bo (iN ks (jD i_) (0:Int)==2) (A8 (False) False) (Bo (iN ks (jD i_) (0:Int)==3) (A8 (False) False) (Bo (iN ks (jD i_) (0:Int)==4) (A8 (False) (A8 (False) False)) (Bo (iN ks (jD i_) (0:Int)==5) (A8 (False) (A8 (False) False)) (Aao i_ ks es R_ h Q1 p)))))))
def Vo (t p h:Int) (ks as_ cs es us vs:LI) (i_:Int) (Q0:Int→Prop) (Q1:Int→Int→Int→Int→Prop) (Q2:Int→Int→Prop) (R_:Bool→Prop):Prop:=(Bo (decide (i_<(↑(iV ks):Int))) (Bo (false) (A8 (False) (A8 (False) False)) (Bo (true) (A8 (0≤i_∧i_<(↑(iV ks):Int)) (A8 (0≤i_∧i_<(↑(iV ks):Int)) (Bo (false) (A8 (False) (A8 (False) (A8 (False) False))) (Bo (true) (Bo (true) (Aan i_ ks es R_ h Q1 p) (Aap es i_ ks R_ h Q1 p)) (Bo (!FQ (iN ks (jD i_) 0) (iN as_ (jD i_) 0) (iN cs (jD i_) 0)) (Bo (!Bc 1 (iN es (jD i_) 0) (iN us (jD i_) 0) (iN vs (jD i_) 0)) (Aan i_ ks es R_ h Q1 p) (Aap es i_ ks R_ h Q1 p)) (A8 (False) (A8 (False) False))))))) (A8 (False) False))) (R_ (true)))
def BH (t p h:Int) (ks as_ cs es us vs:LI) (i_:Int) (r_:Bool):Prop:=r_=true∧0≤i_∧i_≤(ks.length:Int)∧ks.length≤60
def Vp (t p h:Int) (ks as_ cs es us vs:LI) (i_ k_ at_ en_:Int) (Q0:Int→Prop) (Q1:Int→Int→Int→Int→Prop) (Q2:Int→Int→Prop) (R_:Bool→Prop):Prop:=(Bo (decide (k_<0)) False (Q2 (i_) (0)))
def BI (t p h:Int) (ks as_ cs es us vs:LI) (i_ k_ at_ en_:Int) (r_:Bool):Prop:=r_=true∧0≤i_∧i_<(ks.length:Int)∧ks.length≤60∧k_=0
def Qp (t p h:Int) (ks as_ cs es us vs:LI) (i_:Int) (Q0:Int→Prop) (Q1:Int→Int→Int→Int→Prop) (Q2:Int→Int→Prop) (R_:Bool→Prop):Prop:=(Bo (true) (A8 ((0:Int)≤0∧(0:Int)<8) (A8 (false=true→(0:Int)≤0∧(0:Int)<8) (Bo (false) (R_ (false)) (Q2 (i_) (1))))) (Q0 (iL iB (i_+1))))
def Qq (t p h:Int) (ks as_ cs es us vs:LI) (i_:Int) (Q0:Int→Prop) (Q1:Int→Int→Int→Int→Prop) (Q2:Int→Int→Prop) (R_:Bool→Prop):Prop:=(Bo (true) (A8 ((0:Int)≤1∧(1:Int)<8) (A8 (false=true→(0:Int)≤1∧(1:Int)<8) (Bo (false) (R_ (false)) (Q2 (i_) (2))))) (Q0 (iL iB (i_+1))))
def Qr (t p h:Int) (ks as_ cs es us vs:LI) (i_:Int) (Q0:Int→Prop) (Q1:Int→Int→Int→Int→Prop) (Q2:Int→Int→Prop) (R_:Bool→Prop):Prop:=(Bo (true) (A8 ((0:Int)≤2∧(2:Int)<8) (A8 (false=true→(0:Int)≤2∧(2:Int)<8) (Bo (false) (R_ (false)) (Q2 (i_) (3))))) (Q0 (iL iB (i_+1))))
def Qs (t p h:Int) (ks as_ cs es us vs:LI) (i_:Int) (Q0:Int→Prop) (Q1:Int→Int→Int→Int→Prop) (Q2:Int→Int→Prop) (R_:Bool→Prop):Prop:=(Bo (true) (A8 ((0:Int)≤3∧(3:Int)<8) (A8 (false=true→(0:Int)≤3∧(3:Int)<8) (Bo (false) (R_ (false)) (Q2 (i_) (4))))) (Q0 (iL iB (i_+1))))
def Qu (t p h:Int) (ks as_ cs es us vs:LI) (i_:Int) (Q0:Int→Prop) (Q1:Int→Int→Int→Int→Prop) (Q2:Int→Int→Prop) (R_:Bool→Prop):Prop:=(Bo (true) (A8 ((0:Int)≤4∧(4:Int)<8) (A8 (false=true→(0:Int)≤4∧(4:Int)<8) (Bo (false) (R_ (false)) (Q2 (i_) (5))))) (Q0 (iL iB (i_+1))))
def Qv (t p h:Int) (ks as_ cs es us vs:LI) (i_:Int) (Q0:Int→Prop) (Q1:Int→Int→Int→Int→Prop) (Q2:Int→Int→Prop) (R_:Bool→Prop):Prop:=(Bo (true) (A8 ((0:Int)≤5∧(5:Int)<8) (A8 (false=true→(0:Int)≤5∧(5:Int)<8) (Bo (false) (R_ (false)) (Q2 (i_) (6))))) (Q0 (iL iB (i_+1))))
def Qw (t p h:Int) (ks as_ cs es us vs:LI) (i_:Int) (Q0:Int→Prop) (Q1:Int→Int→Int→Int→Prop) (Q2:Int→Int→Prop) (R_:Bool→Prop):Prop:=(Bo (true) (A8 ((0:Int)≤6∧(6:Int)<8) (A8 (false=true→(0:Int)≤6∧(6:Int)<8) (Bo (false) (R_ (false)) (Q2 (i_) (7))))) (Q0 (iL iB (i_+1))))
def Qx (t p h:Int) (ks as_ cs es us vs:LI) (i_:Int) (Q0:Int→Prop) (Q1:Int→Int→Int→Int→Prop) (Q2:Int→Int→Prop) (R_:Bool→Prop):Prop:=(Bo (true) (A8 ((0:Int)≤7∧(7:Int)<8) (A8 (false=true→(0:Int)≤7∧(7:Int)<8) (Bo (false) (R_ (false)) (Q2 (i_) (8))))) (Q0 (iL iB (i_+1))))
def Qy (t p h:Int) (ks as_ cs es us vs:LI) (i_:Int) (Q0:Int→Prop) (Q1:Int→Int→Int→Int→Prop) (Q2:Int→Int→Prop) (R_:Bool→Prop):Prop:=(Bo (false) (A8 ((0:Int)≤8∧(8:Int)<8) (A8 (False) False)) (Q0 (iL iB (i_+1))))
def A7 (t p h:Int) (ks as_ cs es us vs:LI) (i_ k_:Int) (r_:Bool):Prop:=r_=true∧0≤i_∧i_<(ks.length:Int)∧ks.length≤60∧0≤k_∧k_≤8
abbrev NS (p0:Addr) (t p h:Int) (ks as_ cs es us vs:LI):Hd Sg:=⟨none,[0,1,0,1,1,1],[.blk 0, .code [1,1,1,1]],[5,1,6,2],[.vc (kB none), .roc [.ints .i64 (ks), .ints .i64 (as_), .ints .i64 (cs), .ints .i64 (es), .ints .i64 (us), .ints .i64 (vs)], .i .i64, .box 23 [.ic .i64 (t), .ic .i64 (p), .ic .i64 (h)]]⟩
abbrev NU (p0:Addr) (t p h:Int) (ks as_ cs es us vs:LI):Hd Sg:=⟨none,[0,1,0,1,1,1,1,1,1,0,0,1,0,0,1,0,1,1,1],[.blk 2, .code [1,1,1,1,1,1,1,0,0,1,0,0,1,0,1,1,1], .blk 1, .code [1,1,0,0,1,0,1,1,1], .again [0,1,0,1,1,1], .blk 0, .code [1,1,1,1]],[5,1,6,2,9,12,10,11],[.vc (kB none), .roc [.ints .i64 (ks), .ints .i64 (as_), .ints .i64 (cs), .ints .i64 (es), .ints .i64 (us), .ints .i64 (vs)], .i .i64, .box 23 [.ic .i64 (t), .ic .i64 (p), .ic .i64 (h)], .box 27 [.vc (kS none 0 0), .ic .i64 (0), .ic .i64 (0), .ic .i64 (0), .ic .i64 (0), .ic .i64 (0), .ic .i64 (0), .ic .i64 (0), .ic .i64 (0)], .i .i64, .i .i64, .i .i64]⟩
abbrev NV (p0:Addr) (t p h:Int) (ks as_ cs es us vs:LI):Hd Sg:=⟨none,[0,1,1,1,1,1,1,1,1,0,0,1,0,0,1,0,1,1,1],[.blk 4, .blk 1, .code [1,1,0,0,1,0,1,1,1], .again [0,1,0,1,1,1], .blk 0, .code [1,1,1,1]],[5,1,6,2,9,14],[.vc (kB none), .roc [.ints .i64 (ks), .ints .i64 (as_), .ints .i64 (cs), .ints .i64 (es), .ints .i64 (us), .ints .i64 (vs)], .i .i64, .box 23 [.ic .i64 (t), .ic .i64 (p), .ic .i64 (h)], .box 27 [.vc (kS none 0 0), .ic .i64 (0), .ic .i64 (0), .ic .i64 (0), .ic .i64 (0), .ic .i64 (0), .ic .i64 (0), .ic .i64 (0), .ic .i64 (0)], .i .i64]⟩
theorem Aaq (t p h:Int) (ks as_ cs es us vs:LI) (hp0:Ag t p h=false) (hl0:ks.length≤9223372036854775807):YO t p h ks as_ cs es us vs (λi_'=>BH t p h ks as_ cs es us vs i_' (G6 t p h ks as_ cs es us vs)) (λi_' k_' at_' en_'=>BI t p h ks as_ cs es us vs i_' k_' at_' en_' (G6 t p h ks as_ cs es us vs)) (λi_' k_'=>A7 t p h ks as_ cs es us vs i_' k_' (G6 t p h ks as_ cs es us vs)) (λr__=>r__=(G6 t p h ks as_ cs es us vs)):=by
 unfold YO
 try unfold BH
 try unfold BI
 try unfold A7
 refine ⟨λ_=>rfl, λh=>⟨λ_=>?_, λhc=>?_⟩⟩
 ·have h:¬((ks.length:Int)>60):=by simpa using h
  exact ⟨rfl,by decide,by omega,by omega⟩
 ·rw [Aii hp0] at hc
  cases hc
theorem Aar (t p h:Int) (ks as_ cs es us vs:LI) (hp0:Ag t p h=false) (hl0:ks.length≤9223372036854775807) (i_:Int) {r_:Bool} (hI:BH t p h ks as_ cs es us vs i_ r_):Vo t p h ks as_ cs es us vs i_ (λi_'=>BH t p h ks as_ cs es us vs i_' r_∧lx (((ks.length:Int)-i_').toNat,4,0) (((ks.length:Int)-i_).toNat,4,0)) (λi_' k_' at_' en_'=>BI t p h ks as_ cs es us vs i_' k_' at_' en_' r_∧lx (((ks.length:Int)-i_').toNat,3,0) (((ks.length:Int)-i_).toNat,4,0)) (λi_' k_'=>A7 t p h ks as_ cs es us vs i_' k_' r_∧lx (((ks.length:Int)-i_').toNat,2,(8-k_').toNat) (((ks.length:Int)-i_).toNat,4,0)) (λr__=>r__=r_):=by
 unfold BH at hI
 unfold Vo Aap Aao Aan Aam
 try unfold BH
 try unfold BI
 try unfold A7
 obtain ⟨hr_,h6,h7,h8⟩:=hI
 refine ⟨λhlt=>?_, λ_=>hr_.symm⟩
 have hlt:i_<(ks.length:Int):=by simpa using hlt
 have sg:(0:Int)≤iL mW (if (if h<30 then h else 30)>0 then if h<30 then h else 30 else (0:Int)):=by rw [IntKind.wrap_u64];omega
 refine ⟨λh=>(by cases h), λ_=>⟨λ_=>⟨⟨h6,hlt⟩, λ_=>⟨⟨h6,hlt⟩, λ_=>⟨λh=>(by cases h), λ_=>⟨λ_=>⟨λ_=>⟨λh=>(by cases h), λ_=>⟨λ_=>⟨λ_=>⟨h6,hlt⟩, λ_=>⟨λ_=>rfl, λ_=>⟨λ_=>rfl, λ_=>⟨λhb=>(by rw [oB] at hb;cases hb), λ_=>⟨sg, λ_=>⟨⟨hr_,h6,hlt,h8,rfl⟩,Cb⟩⟩⟩⟩⟩⟩, λh=>(by cases h)⟩⟩, λh=>(by cases h)⟩, λh=>(by cases h)⟩⟩⟩⟩, λh=>(by cases h)⟩⟩
theorem Aas (t p h:Int) (ks as_ cs es us vs:LI) (hp0:Ag t p h=false) (hl0:ks.length≤9223372036854775807) (i_ k_ at_ en_:Int) {r_:Bool} (hI:BI t p h ks as_ cs es us vs i_ k_ at_ en_ r_):Vp t p h ks as_ cs es us vs i_ k_ at_ en_ (λi_'=>BH t p h ks as_ cs es us vs i_' r_∧lx (((ks.length:Int)-i_').toNat,4,0) (((ks.length:Int)-i_).toNat,3,0)) (λi_' k_' at_' en_'=>BI t p h ks as_ cs es us vs i_' k_' at_' en_' r_∧lx (((ks.length:Int)-i_').toNat,3,0) (((ks.length:Int)-i_).toNat,3,0)) (λi_' k_'=>A7 t p h ks as_ cs es us vs i_' k_' r_∧lx (((ks.length:Int)-i_').toNat,2,(8-k_').toNat) (((ks.length:Int)-i_).toNat,3,0)) (λr__=>r__=r_):=by
 unfold BI at hI
 unfold Vp
 try unfold BH
 try unfold BI
 try unfold A7
 obtain ⟨hr_,h6,h7,h8,rfl⟩:=hI
 exact ⟨λh=>(by simp at h), λ_=>⟨⟨hr_,h6,h7,h8,by decide,by decide⟩,Cb⟩⟩
theorem Ae1 (t p h:Int) (ks as_ cs es us vs:LI) (hp0:Ag t p h=false) (hl0:ks.length≤9223372036854775807) (i_ k_:Int) {r_:Bool} (hI:A7 t p h ks as_ cs es us vs i_ k_ r_):k_=0∨k_=1∨k_=2∨k_=3∨k_=4∨k_=5∨k_=6∨k_=7∨k_=8:=by
 unfold A7 at hI
 omega
theorem Wj (t p h:Int) (ks as_ cs es us vs:LI) (hp0:Ag t p h=false) (hl0:ks.length≤9223372036854775807) (i_:Int) {r_:Bool} (hI:A7 t p h ks as_ cs es us vs i_ (0:Int) r_):Qp t p h ks as_ cs es us vs i_ (λi_'=>BH t p h ks as_ cs es us vs i_' r_∧lx (((ks.length:Int)-i_').toNat,4,0) (((ks.length:Int)-i_).toNat,2,(8-(0:Int)).toNat)) (λi_' k_' at_' en_'=>BI t p h ks as_ cs es us vs i_' k_' at_' en_' r_∧lx (((ks.length:Int)-i_').toNat,3,0) (((ks.length:Int)-i_).toNat,2,(8-(0:Int)).toNat)) (λi_' k_'=>A7 t p h ks as_ cs es us vs i_' k_' r_∧lx (((ks.length:Int)-i_').toNat,2,(8-k_').toNat) (((ks.length:Int)-i_).toNat,2,(8-(0:Int)).toNat)) (λr__=>r__=r_):=by
 unfold A7 at hI
 unfold Qp
 try unfold BH
 try unfold BI
 try unfold A7
 obtain ⟨hr_,h6,h7,h8,_,_⟩:=hI
 exact ⟨λ_=>⟨by decide, λ_=>⟨λh=>(by cases h), λ_=>⟨λh=>(by cases h), λ_=>⟨⟨hr_,h6,h7,h8,by decide,by decide⟩,Cb⟩⟩⟩⟩, λh=>(by cases h)⟩
theorem Wl (t p h:Int) (ks as_ cs es us vs:LI) (hp0:Ag t p h=false) (hl0:ks.length≤9223372036854775807) (i_:Int) {r_:Bool} (hI:A7 t p h ks as_ cs es us vs i_ (1:Int) r_):Qq t p h ks as_ cs es us vs i_ (λi_'=>BH t p h ks as_ cs es us vs i_' r_∧lx (((ks.length:Int)-i_').toNat,4,0) (((ks.length:Int)-i_).toNat,2,(8-(1:Int)).toNat)) (λi_' k_' at_' en_'=>BI t p h ks as_ cs es us vs i_' k_' at_' en_' r_∧lx (((ks.length:Int)-i_').toNat,3,0) (((ks.length:Int)-i_).toNat,2,(8-(1:Int)).toNat)) (λi_' k_'=>A7 t p h ks as_ cs es us vs i_' k_' r_∧lx (((ks.length:Int)-i_').toNat,2,(8-k_').toNat) (((ks.length:Int)-i_).toNat,2,(8-(1:Int)).toNat)) (λr__=>r__=r_):=by
 unfold A7 at hI
 unfold Qq
 try unfold BH
 try unfold BI
 try unfold A7
 obtain ⟨hr_,h6,h7,h8,_,_⟩:=hI
 exact ⟨λ_=>⟨by decide, λ_=>⟨λh=>(by cases h), λ_=>⟨λh=>(by cases h), λ_=>⟨⟨hr_,h6,h7,h8,by decide,by decide⟩,Cb⟩⟩⟩⟩, λh=>(by cases h)⟩
theorem Wn (t p h:Int) (ks as_ cs es us vs:LI) (hp0:Ag t p h=false) (hl0:ks.length≤9223372036854775807) (i_:Int) {r_:Bool} (hI:A7 t p h ks as_ cs es us vs i_ (2:Int) r_):Qr t p h ks as_ cs es us vs i_ (λi_'=>BH t p h ks as_ cs es us vs i_' r_∧lx (((ks.length:Int)-i_').toNat,4,0) (((ks.length:Int)-i_).toNat,2,(8-(2:Int)).toNat)) (λi_' k_' at_' en_'=>BI t p h ks as_ cs es us vs i_' k_' at_' en_' r_∧lx (((ks.length:Int)-i_').toNat,3,0) (((ks.length:Int)-i_).toNat,2,(8-(2:Int)).toNat)) (λi_' k_'=>A7 t p h ks as_ cs es us vs i_' k_' r_∧lx (((ks.length:Int)-i_').toNat,2,(8-k_').toNat) (((ks.length:Int)-i_).toNat,2,(8-(2:Int)).toNat)) (λr__=>r__=r_):=by
 unfold A7 at hI
 unfold Qr
 try unfold BH
 try unfold BI
 try unfold A7
 obtain ⟨hr_,h6,h7,h8,_,_⟩:=hI
 exact ⟨λ_=>⟨by decide, λ_=>⟨λh=>(by cases h), λ_=>⟨λh=>(by cases h), λ_=>⟨⟨hr_,h6,h7,h8,by decide,by decide⟩,Cb⟩⟩⟩⟩, λh=>(by cases h)⟩
theorem Wp (t p h:Int) (ks as_ cs es us vs:LI) (hp0:Ag t p h=false) (hl0:ks.length≤9223372036854775807) (i_:Int) {r_:Bool} (hI:A7 t p h ks as_ cs es us vs i_ (3:Int) r_):Qs t p h ks as_ cs es us vs i_ (λi_'=>BH t p h ks as_ cs es us vs i_' r_∧lx (((ks.length:Int)-i_').toNat,4,0) (((ks.length:Int)-i_).toNat,2,(8-(3:Int)).toNat)) (λi_' k_' at_' en_'=>BI t p h ks as_ cs es us vs i_' k_' at_' en_' r_∧lx (((ks.length:Int)-i_').toNat,3,0) (((ks.length:Int)-i_).toNat,2,(8-(3:Int)).toNat)) (λi_' k_'=>A7 t p h ks as_ cs es us vs i_' k_' r_∧lx (((ks.length:Int)-i_').toNat,2,(8-k_').toNat) (((ks.length:Int)-i_).toNat,2,(8-(3:Int)).toNat)) (λr__=>r__=r_):=by
 unfold A7 at hI
 unfold Qs
 try unfold BH
 try unfold BI
 try unfold A7
 obtain ⟨hr_,h6,h7,h8,_,_⟩:=hI
 exact ⟨λ_=>⟨by decide, λ_=>⟨λh=>(by cases h), λ_=>⟨λh=>(by cases h), λ_=>⟨⟨hr_,h6,h7,h8,by decide,by decide⟩,Cb⟩⟩⟩⟩, λh=>(by cases h)⟩
theorem Wq (t p h:Int) (ks as_ cs es us vs:LI) (hp0:Ag t p h=false) (hl0:ks.length≤9223372036854775807) (i_:Int) {r_:Bool} (hI:A7 t p h ks as_ cs es us vs i_ (4:Int) r_):Qu t p h ks as_ cs es us vs i_ (λi_'=>BH t p h ks as_ cs es us vs i_' r_∧lx (((ks.length:Int)-i_').toNat,4,0) (((ks.length:Int)-i_).toNat,2,(8-(4:Int)).toNat)) (λi_' k_' at_' en_'=>BI t p h ks as_ cs es us vs i_' k_' at_' en_' r_∧lx (((ks.length:Int)-i_').toNat,3,0) (((ks.length:Int)-i_).toNat,2,(8-(4:Int)).toNat)) (λi_' k_'=>A7 t p h ks as_ cs es us vs i_' k_' r_∧lx (((ks.length:Int)-i_').toNat,2,(8-k_').toNat) (((ks.length:Int)-i_).toNat,2,(8-(4:Int)).toNat)) (λr__=>r__=r_):=by
 unfold A7 at hI
 unfold Qu
 try unfold BH
 try unfold BI
 try unfold A7
 obtain ⟨hr_,h6,h7,h8,_,_⟩:=hI
 exact ⟨λ_=>⟨by decide, λ_=>⟨λh=>(by cases h), λ_=>⟨λh=>(by cases h), λ_=>⟨⟨hr_,h6,h7,h8,by decide,by decide⟩,Cb⟩⟩⟩⟩, λh=>(by cases h)⟩
theorem Ws (t p h:Int) (ks as_ cs es us vs:LI) (hp0:Ag t p h=false) (hl0:ks.length≤9223372036854775807) (i_:Int) {r_:Bool} (hI:A7 t p h ks as_ cs es us vs i_ (5:Int) r_):Qv t p h ks as_ cs es us vs i_ (λi_'=>BH t p h ks as_ cs es us vs i_' r_∧lx (((ks.length:Int)-i_').toNat,4,0) (((ks.length:Int)-i_).toNat,2,(8-(5:Int)).toNat)) (λi_' k_' at_' en_'=>BI t p h ks as_ cs es us vs i_' k_' at_' en_' r_∧lx (((ks.length:Int)-i_').toNat,3,0) (((ks.length:Int)-i_).toNat,2,(8-(5:Int)).toNat)) (λi_' k_'=>A7 t p h ks as_ cs es us vs i_' k_' r_∧lx (((ks.length:Int)-i_').toNat,2,(8-k_').toNat) (((ks.length:Int)-i_).toNat,2,(8-(5:Int)).toNat)) (λr__=>r__=r_):=by
 unfold A7 at hI
 unfold Qv
 try unfold BH
 try unfold BI
 try unfold A7
 obtain ⟨hr_,h6,h7,h8,_,_⟩:=hI
 exact ⟨λ_=>⟨by decide, λ_=>⟨λh=>(by cases h), λ_=>⟨λh=>(by cases h), λ_=>⟨⟨hr_,h6,h7,h8,by decide,by decide⟩,Cb⟩⟩⟩⟩, λh=>(by cases h)⟩
theorem Wu (t p h:Int) (ks as_ cs es us vs:LI) (hp0:Ag t p h=false) (hl0:ks.length≤9223372036854775807) (i_:Int) {r_:Bool} (hI:A7 t p h ks as_ cs es us vs i_ (6:Int) r_):Qw t p h ks as_ cs es us vs i_ (λi_'=>BH t p h ks as_ cs es us vs i_' r_∧lx (((ks.length:Int)-i_').toNat,4,0) (((ks.length:Int)-i_).toNat,2,(8-(6:Int)).toNat)) (λi_' k_' at_' en_'=>BI t p h ks as_ cs es us vs i_' k_' at_' en_' r_∧lx (((ks.length:Int)-i_').toNat,3,0) (((ks.length:Int)-i_).toNat,2,(8-(6:Int)).toNat)) (λi_' k_'=>A7 t p h ks as_ cs es us vs i_' k_' r_∧lx (((ks.length:Int)-i_').toNat,2,(8-k_').toNat) (((ks.length:Int)-i_).toNat,2,(8-(6:Int)).toNat)) (λr__=>r__=r_):=by
 unfold A7 at hI
 unfold Qw
 try unfold BH
 try unfold BI
 try unfold A7
 obtain ⟨hr_,h6,h7,h8,_,_⟩:=hI
 exact ⟨λ_=>⟨by decide, λ_=>⟨λh=>(by cases h), λ_=>⟨λh=>(by cases h), λ_=>⟨⟨hr_,h6,h7,h8,by decide,by decide⟩,Cb⟩⟩⟩⟩, λh=>(by cases h)⟩
theorem Wv (t p h:Int) (ks as_ cs es us vs:LI) (hp0:Ag t p h=false) (hl0:ks.length≤9223372036854775807) (i_:Int) {r_:Bool} (hI:A7 t p h ks as_ cs es us vs i_ (7:Int) r_):Qx t p h ks as_ cs es us vs i_ (λi_'=>BH t p h ks as_ cs es us vs i_' r_∧lx (((ks.length:Int)-i_').toNat,4,0) (((ks.length:Int)-i_).toNat,2,(8-(7:Int)).toNat)) (λi_' k_' at_' en_'=>BI t p h ks as_ cs es us vs i_' k_' at_' en_' r_∧lx (((ks.length:Int)-i_').toNat,3,0) (((ks.length:Int)-i_).toNat,2,(8-(7:Int)).toNat)) (λi_' k_'=>A7 t p h ks as_ cs es us vs i_' k_' r_∧lx (((ks.length:Int)-i_').toNat,2,(8-k_').toNat) (((ks.length:Int)-i_).toNat,2,(8-(7:Int)).toNat)) (λr__=>r__=r_):=by
 unfold A7 at hI
 unfold Qx
 try unfold BH
 try unfold BI
 try unfold A7
 obtain ⟨hr_,h6,h7,h8,_,_⟩:=hI
 exact ⟨λ_=>⟨by decide, λ_=>⟨λh=>(by cases h), λ_=>⟨λh=>(by cases h), λ_=>⟨⟨hr_,h6,h7,h8,by decide,by decide⟩,Cb⟩⟩⟩⟩, λh=>(by cases h)⟩
theorem Wx (t p h:Int) (ks as_ cs es us vs:LI) (hp0:Ag t p h=false) (hl0:ks.length≤9223372036854775807) (i_:Int) {r_:Bool} (hI:A7 t p h ks as_ cs es us vs i_ (8:Int) r_):Qy t p h ks as_ cs es us vs i_ (λi_'=>BH t p h ks as_ cs es us vs i_' r_∧lx (((ks.length:Int)-i_').toNat,4,0) (((ks.length:Int)-i_).toNat,2,(8-(8:Int)).toNat)) (λi_' k_' at_' en_'=>BI t p h ks as_ cs es us vs i_' k_' at_' en_' r_∧lx (((ks.length:Int)-i_').toNat,3,0) (((ks.length:Int)-i_).toNat,2,(8-(8:Int)).toNat)) (λi_' k_'=>A7 t p h ks as_ cs es us vs i_' k_' r_∧lx (((ks.length:Int)-i_').toNat,2,(8-k_').toNat) (((ks.length:Int)-i_).toNat,2,(8-(8:Int)).toNat)) (λr__=>r__=r_):=by
 unfold A7 at hI
 unfold Qy
 try unfold BH
 try unfold BI
 try unfold A7
 obtain ⟨hr_,h6,h7,h8,_,_⟩:=hI
 refine ⟨λh=>(by cases h), λ_=>?_⟩
 rw [Gq (n:=i_+1) (by omega)]
 exact ⟨⟨hr_,by omega,by omega,h8⟩,Cb⟩
theorem Afi:EF 5 AgP:=
 Kv Dg Akr (I:=[10,16,26,18,12,1026004,1643000000005,1643000000001,1643000000006,1643000000002,7187000000005,7187000000001,7187000000006,7187000000002,7187000000009,7187000000012,7187000000010,7187000000011,2303000000005,2303000000001,2303000000006,2303000000002,2303000000009,2303000000014]) Try.func5 mix (B:=Bg Try.f5) (by kernel_rfl) rfl (by kernel_rfl) 400
  λp0 t p h ks as_ cs es us vs hb hp=>have hl0:ks.length≤9223372036854775807:=hb.2.1;have hp0:Ag t p h=false:=hp _ (.head _);⟨[NS p0 t p h ks as_ cs es us vs,NU p0 t p h ks as_ cs es us vs,NV p0 t p h ks as_ cs es us vs], λj=>iN [AA (Hd.kd (NS p0 t p h ks as_ cs es us vs)) (λi_'=>BH t p h ks as_ cs es us vs i_' (G6 t p h ks as_ cs es us vs)),AA (Hd.kd (NU p0 t p h ks as_ cs es us vs)) (λi_' k_' at_' en_'=>BI t p h ks as_ cs es us vs i_' k_' at_' en_' (G6 t p h ks as_ cs es us vs)),AA (Hd.kd (NV p0 t p h ks as_ cs es us vs)) (λi_' k_'=>A7 t p h ks as_ cs es us vs i_' k_' (G6 t p h ks as_ cs es us vs))] j (λ_=>False), λj=>iN [AA (Hd.kd (NS p0 t p h ks as_ cs es us vs)) (λi_'=>(((ks.length:Int)-i_').toNat,4,0)),AA (Hd.kd (NU p0 t p h ks as_ cs es us vs)) (λi_' k_' at_' en_'=>(((ks.length:Int)-i_').toNat,3,0)),AA (Hd.kd (NV p0 t p h ks as_ cs es us vs)) (λi_' k_'=>(((ks.length:Int)-i_').toNat,2,(8-k_').toNat))] j (λ_=>(0,0,0)),by kernel_rfl,⟨_, λ_ _ _=>by kernel_rfl,Aaq t p h ks as_ cs es us vs hp0 hl0⟩,⟨λi_ hI=>⟨_, λ_ _ _=>by kernel_rfl,Aar t p h ks as_ cs es us vs hp0 hl0 i_ hI⟩,⟨λi_ k_ at_ en_ hI=>⟨_, λ_ _ _=>by kernel_rfl,Aas t p h ks as_ cs es us vs hp0 hl0 i_ k_ at_ en_ hI⟩,⟨λi_ k_ hI=>(by
   rcases Ae1 t p h ks as_ cs es us vs hp0 hl0 i_ k_ hI with rfl|rfl|rfl|rfl|rfl|rfl|rfl|rfl|rfl
   ·exact ⟨_, λ_ _ _=>by kernel_rfl,Wj t p h ks as_ cs es us vs hp0 hl0 i_ hI⟩
   ·exact ⟨_, λ_ _ _=>by kernel_rfl,Wl t p h ks as_ cs es us vs hp0 hl0 i_ hI⟩
   ·exact ⟨_, λ_ _ _=>by kernel_rfl,Wn t p h ks as_ cs es us vs hp0 hl0 i_ hI⟩
   ·exact ⟨_, λ_ _ _=>by kernel_rfl,Wp t p h ks as_ cs es us vs hp0 hl0 i_ hI⟩
   ·exact ⟨_, λ_ _ _=>by kernel_rfl,Wq t p h ks as_ cs es us vs hp0 hl0 i_ hI⟩
   ·exact ⟨_, λ_ _ _=>by kernel_rfl,Ws t p h ks as_ cs es us vs hp0 hl0 i_ hI⟩
   ·exact ⟨_, λ_ _ _=>by kernel_rfl,Wu t p h ks as_ cs es us vs hp0 hl0 i_ hI⟩
   ·exact ⟨_, λ_ _ _=>by kernel_rfl,Wv t p h ks as_ cs es us vs hp0 hl0 i_ hI⟩
   ·exact ⟨_, λ_ _ _=>by kernel_rfl,Wx t p h ks as_ cs es us vs hp0 hl0 i_ hI⟩),trivial⟩⟩⟩⟩
theorem Aat (t p h:Int) (ks as_ cs es us vs:LI) (a_0:Option Addr) (c_0:Nat) {E_:Ev} {G_:Hp} {w_:World} (hr0:Dl G_ a_0 ks.length [.ints .i64 ks, .ints .i64 as_, .ints .i64 cs, .ints .i64 es, .ints .i64 us, .ints .i64 vs]∧ks.length≤c_0) (hp0:Ag t p h=false) (hS:Sat E_ G_ w_ []):Calls Try.prog 5 #[(.agg #[.int .i64 t, .int .i64 p, .int .i64 h]),(.slice a_0 ks.length c_0)] w_ (λen w'=>en= .returned (.bool (G6 t p h ks as_ cs es us vs))∧Sat E_ G_ w' []):=by
 refine Ahy Dg (c:=YN) (F:=G6) (pre:= λt p h ks as_ cs es us vs=>[Ag t p h=false]) Afi [((.agg #[.int .i64 t, .int .i64 p, .int .i64 h]),(.none)),((.slice a_0 ks.length c_0),(.row ks.length [.ints .i64 ks, .ints .i64 as_, .ints .i64 cs, .ints .i64 es, .ints .i64 us, .ints .i64 vs]))] [.i t, .i p, .i h, .li ks, .li as_, .li cs, .li es, .li us, .li vs] (by kernel_rfl) _ (by kernel_rfl) (by kernel_rfl) (by kernel_rfl) ?_ ?_ hS
 ·intro p_ hp_
  have hp_:p_∈[(Ag t p h=false:Prop)]:=hp_
  simp only [iE,jK,or_false] at hp_
  rcases hp_ with rfl
  ·exact hp0
 ·intro x hx
  simp only [iE,jK,or_false] at hx
  rcases hx with rfl|rfl
  ·first|(simp only [Ei,Ej,and_true,true_and];done)|(simp only [Ei,Ej,and_true,true_and];exact ⟨_,_,rfl,trivial⟩)|simp [Ei,Ej]
  ·first|(simp only [Ei,Ej,and_true,true_and];done)|(simp only [Ei,Ej,and_true,true_and];exact ⟨_,_,rfl,hr0.1,hr0.2, λh=>by cases h⟩)|simp [Ei,Ej]
end
section
open Go Go.Sl
def ModelApart (_t _p _h:Int) (_ks _as _cs _es _us _vs:LI):Bool:=true
theorem Wy (t p h:Int) (ks as_ cs es us vs:LI) (a_0:Option Addr) (c_0:Nat) {E_:Ev} {G_:Hp} {w_:World} (hr0:Dl G_ a_0 ks.length [.ints .i64 ks, .ints .i64 as_, .ints .i64 cs, .ints .i64 es, .ints .i64 us, .ints .i64 vs]∧ks.length≤c_0) (hS:Sat E_ G_ w_ []):
 Calls Try.prog 5 #[.agg #[.int .i64 t, .int .i64 p, .int .i64 h], .slice a_0 ks.length c_0] w_ (λen w'=>en= .returned (.bool (ModelApart t p h ks as_ cs es us vs))∧Sat E_ G_ w' []):=by
 cases hr:Ag t p h with
 |true=>exact Acd t p h ks as_ cs es us vs a_0 c_0 hr0 hr hS
 |false=>exact Aat t p h ks as_ cs es us vs a_0 c_0 hr0 hr hS
end
section
open Go.ChangeShapes Go.WideShapes Go.ChangeAt Go.RowKit Go.Joins Go.Sl
theorem Aau:ownKnob Try.prog.godebug=none:=by kernel_rfl
theorem Tu:laidOutB Try.prog=true:=by kernel_rfl
set_option maxRecDepth 100000 in
theorem Ua (os:Os) (started:os.Started) (H:Type) (enc:TypeId×Value→H):
 ReturnsInHanded {} Try.checked os 5 .any (Rows.modelApartSpec.pre6 enc Try.prog Try.f5 Rows.modelApartRow.domain false) (Rows.modelApartSpec.post enc Try.prog Try.f5 false true false false):=by
 refine returnsInHanded_of_change (C:=Try.checked) Aau started (by kernel_rfl) Try.func5
  (ChangeSpec.witness6 (enc:=enc) (C:=Try.checked) false ⟨#[], #[.agg #[.int .i64 0, .int .i64 0, .int .i64 0], .slice none 0 0],[]⟩ 8 (by kernel_rfl) (by kernel_rfl) (by kernel_rfl) (by kernel_rfl)) ?_
 intro W base args ds gs before hval0 hW _ _
 have hval:∀(j:Nat) t v,Try.f5.params[j]? =some t→args[j]? =some v→Value.okWide Try.prog W .any base t v:=hval0
 have hW':=hW
 obtain ⟨p,q,hA0,_,_,_,_⟩:=hW
 have hA:DataW.TrodAll enc Try.prog W 0 (λ_=>true) true Try.f5.params.toList args.toList ds p:=hA0
 rw [Try.params5] at hA hval
 obtain ⟨v0,v1,d0,d1,p0,p1,rfl,rfl,_,h0,h1⟩:=trodAll_two hA
 obtain ⟨k0,rfl,hk0⟩:=Aht 8 (by kernel_rfl) (sh:=[.int .i64, .int .i64, .int .i64]) (by kernel_rfl) (hval 0 23 v0 rfl rfl) h0
 obtain ⟨_,r0_0,rfl,⟨a0_0,rfl,wa0_0⟩,hk0⟩:=hk0
 have ba0_0:=AcT wa0_0
 obtain ⟨_,r0_1,rfl,⟨a0_1,rfl,wa0_1⟩,hk0⟩:=hk0
 have ba0_1:=AcT wa0_1
 obtain ⟨_,r0_2,rfl,⟨a0_2,rfl,wa0_2⟩,hk0⟩:=hk0
 have ba0_2:=AcT wa0_2
 obtain rfl:=hk0
 obtain ⟨s1,n1,c1,k1,rfl,hk1,hr1⟩:=Ahu 8 Try.underlying49 (sh:=[.int .i64, .int .i64, .int .i64, .int .i64, .int .i64, .int .i64]) (by kernel_rfl) (by kernel_rfl) (hval 1 49 v1 rfl rfl) h1
 obtain ⟨_,r1_0,rfl,⟨x1_0,rfl,hl1_0,hw1_0⟩,hk1⟩:=hk1
 obtain ⟨_,r1_1,rfl,⟨x1_1,rfl,hl1_1,hw1_1⟩,hk1⟩:=hk1
 obtain ⟨_,r1_2,rfl,⟨x1_2,rfl,hl1_2,hw1_2⟩,hk1⟩:=hk1
 obtain ⟨_,r1_3,rfl,⟨x1_3,rfl,hl1_3,hw1_3⟩,hk1⟩:=hk1
 obtain ⟨_,r1_4,rfl,⟨x1_4,rfl,hl1_4,hw1_4⟩,hk1⟩:=hk1
 obtain ⟨_,r1_5,rfl,⟨x1_5,rfl,hl1_5,hw1_5⟩,hk1⟩:=hk1
 obtain rfl:=hk1
 subst hl1_0
 clear hA0 hval0
 refine (Wy a0_0 a0_1 a0_2 x1_0 x1_1 x1_2 x1_3 x1_4 x1_5 s1 c1 hr1 (Sat.start W)).mono λe W' ⟨he,hS⟩=>?_
 rw [show ModelApart a0_0 a0_1 a0_2 x1_0 x1_1 x1_2 x1_3 x1_4 x1_5=true from rfl] at he
 subst he
 exact ⟨_,rfl,AiG 4 Tu hW' rfl rfl Try.underlying4 (by kernel_rfl) ⟨rfl,rfl,rfl⟩ hS.below⟩
theorem ModelApart_holds:Rows.ModelApartSaid:=
 OpenClaim.holds_of_wide 5 Try.f5 rfl rfl rfl rfl rfl rfl rfl ⟨rfl,rfl,rfl,rfl,rfl⟩ rfl rfl rfl rfl rfl (by kernel_rfl) Try.func5 (by kernel_rfl)
  (of_decide_eq_true (by kernel_rfl)) (by unfold Func.isWrapper;rw [if_neg (of_decide_eq_false (by kernel_rfl))];exact ⟨rfl,rfl⟩)
  (λos started H enc _=>Ua os started H enc)
#print axioms ModelApart_holds
end
end Go.Proofs.Ytdjfnbbmfmjckaa
