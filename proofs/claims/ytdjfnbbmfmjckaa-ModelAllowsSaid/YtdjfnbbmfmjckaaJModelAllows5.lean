/-
  Which answers to every operation are allowed, of every state, and which states can be, is as the document says: the law's function answers true for every configuration, state and answer. Conditions: none.
-/
import Derived.Test.YtdjfnbbmfmjckaaJModelAllows4
import Derived.Shelf.SlSortCmp.NoneTotal
import Derived.Test.YtdjfnbbmfmjckaaRows
set_option linter.unusedSimpArgs false
set_option linter.unusedVariables false
open Option.some renaming injEq → iA
open Go.IntKind renaming i64 → iB, wrap → iO
open List renaming getD_eq_getElem?_getD → iC, map_cons → iD, mem_cons → iG, length → iH, getElem?_append_left → iI, getElem?_append_right → iJ, getElem?_eq_getElem → iK, getElem?_map → iM, getD → iN, getElem?_set_self → iT, getElem?_set_ne → iW, map_append → jD, getElem?_eq_none → jE, not_mem_nil → jF, length_cons → jJ, range' → jK, length_append → jL, all_eq_true → jN, range → jQ, mem_singleton → jR, map_set → jU, length_map → jV, cons_append → jX, map_nil → kD, mem_map → kN, getElem?_cons_succ → kO, getElem?_of_mem → kT, mem_range → kV, append_nil → kZ, ext_getElem? → lB, nodup_cons → lF, any_eq_true → lH, zip → lI, nodup_nil → lK, take → lP, findIdx?_eq_some_iff_getElem → lQ, mem_append → lT, length_take → lW, mem_filter → mD, length_nil → mE, take_length → mH, zip_cons_cons → mL, drop_zero → mN, findIdx?_eq_none_iff → mQ, map → mV, eq_nil_of_length_eq_zero → nE, nil_append → nI, take_add_one → nN, getElem_mem → nV, getElem_of_mem → nY
open Bool renaming and_eq_true → iE, false_or → jW, and_eq_false_iff → kI, not_true → kL, true_or → kS, not_eq_true' → kU, not_eq_false' → lO, or_eq_true → lU, eq_iff_iff → mS, true_and → oO
open Nat renaming eq_of_beq_eq_true → iF, beq → iL, le_of_ble_eq_true → iQ, lt_or_ge → jB, ble → jS, le_refl → jY, not_lt_zero → kB, mul_le_mul_right → kF, zero_add → lD, le_trans → lZ, mod_lt → mB, sub_self → nF, zero_le → oE
open Prod.mk renaming injEq → iP
open Option renaming map_some → iS, map → mJ
open Go.Value renaming int → iX, pointer → kA, slice → kY, map → lC, func → lX, tuple → oP
open Array renaming getElem?_eq_getElem → jM, getElem?_toList → mP, toList_append → oA
open Go.Sl.Chunk renaming cells → jG, obj → kR, bm → kX, row → lA, dead → oN
open Int renaming toNat → jI
open List.cons renaming injEq → jZ
open Go.Sl.Pr renaming no → kG, pt → lG
open Prod renaming fst → kM, snd → mI
open List.Mem renaming tail → mA, head → nJ
open Go.Sl.PK renaming map → mR, cell → nW, slice → oI
open List.Perm renaming refl → oH
namespace Go.Proofs.Ytdjfnbbmfmjckaa
section
open Go.Sl
def AY (l:List (Int×Int)):List (Int×Int):=l.foldl insL []
def IJ (t p h:Int) (xs ys:LI) (i:Nat):RS:=⟨t,p,h,(AY ((Ba xs ys).take i)).map (·.1),(AY ((Ba xs ys).take i)).map (·.2),0,0,0,0,0,0,0,0⟩
def Ail (t p h:Int) (xs ys:LI) (s0 s1 s2 s3 s4 s5 s6 s7:Int):RS:=⟨t,p,h,(AY (Ba xs ys)).map (·.1),(AY (Ba xs ys)).map (·.2),s0,s1,s2,s3,s4,s5,s6,s7⟩
def H7 (t p h:Int) (xs ys:LI):Prop:=∀i:Nat,i<xs.length→OV (IJ t p h xs ys i) (xs.getD i 0) (ys.getD i 0) (-1)=true
def H8 (l:List (Int×Int)) (rs:LI):Prop:=∀i:Nat,i<8→rs.getD i 0≠0→0≤BK (l.map (·.1)) (rs.getD i 0)
theorem AeS (l:List (Int×Int)) (x:Int×Int):AY (l++[x])=insL (AY l) x:=by unfold AY;rw [List.foldl_append];rfl
theorem Z4 (l:List (Int×Int)):(AY l).length=l.length:=by
 have key:∀(l a:List (Int×Int)),(l.foldl insL a).length=a.length+l.length:=by
  intro l
  induction l with
  |nil=>intro a;rfl
  |cons x l ih=>intro a;rw [List.foldl_cons,ih,Zh,jJ];omega
 unfold AY;rw [key];simp
theorem Aq4 (l:List (Int×Int)):Ba (l.map (·.1)) (l.map (·.2))=l:=by
 unfold Ba
 induction l with
 |nil=>rfl
 |cons x l ih=>simp only [iD,mL,ih]
theorem Aim {t p h:Int} {xs ys:LI} (hl:xs.length=ys.length) {i:Nat} (hi:i<xs.length):DL (IJ t p h xs ys i) (xs.getD i 0) (ys.getD i 0)=IJ t p h xs ys (i+1):=by
 unfold DL IJ
 simp only [Aq4]
 rw [nN,WI hl hi]
 show _=(⟨t,p,h,(AY (_++[_])).map (·.1),(AY (_++[_])).map (·.2),0,0,0,0,0,0,0,0⟩:RS)
 rw [AeS]
theorem FB {t p h:Int} {xs ys:LI} {i:Nat} (h1:xs.length≤999):(IJ t p h xs ys i).a.length≤1000:=by
 show ((AY _).map _).length≤1000
 rw [jV,Z4,lW]
 unfold Ba
 rw [List.length_zip];omega
theorem Gv {xs ys:LI} (hl:xs.length=ys.length):(Ba xs ys).take xs.length=Ba xs ys:=by
 rw [←Jb hl,mH]
def Iw (t p h:Int) (xs ys:LI) (s0 s1 s2 s3 s4 s5 s6 s7:Int):RS:=Ail t p h xs ys s0 s1 s2 s3 s4 s5 s6 s7
abbrev ArB:Ct Sg:=⟨none,false,[.agg [.i .i64, .i .i64, .i .i64], .agg [.ro [some .i64,some .i64], .i .i64, .i .i64, .i .i64, .i .i64, .i .i64, .i .i64, .i .i64, .i .i64]], .nobj CW⟩
def AnF:Entry Sg:=BU ArB Iw (λt p h xs ys s0 s1 s2 s3 s4 s5 s6 s7=>[Ac t p h=true,xs.length=ys.length,xs.length≤999,H7 t p h xs ys,H8 (AY (Ba xs ys)) [s0,s1,s2,s3,s4,s5,s6,s7]])
def AnG (t p h:Int) (xs ys:LI) (s0 s1 s2 s3 s4 s5 s6 s7:Int) (Q0:Int→Prop) (Q1:Int→Prop) (Q2:Int→Prop) (Q3:RS→Int→Prop) (Q4:RS→Int→Prop) (Q5:RS→Prop) (Q6:Int→Int→Int→Nat→LI→LI→Int→Int→Int→Int→Int→Int→Int→Int→Prop) (Q7:Int→Int→Int→Nat→LI→LI→Int→Int→Int→Int→Int→Int→Int→Int→Prop) (Q8:RS→Prop) (R_:RS→Prop):Prop:=(∀r2:RS,r2=({t:=t,p:=p,h:=h,a:=[],z:=[],r0:=0,r1:=0,r2:=0,r3:=0,r4:=0,r5:=0,r6:=0,r7:=0})→(Ap (Ac t p h=true) (AV (false) (Q0 (t)) (Q3 (r2) (0)))))
def DX (t p h:Int) (xs ys:LI) (s0 s1 s2 s3 s4 s5 s6 s7 q_:Int) (r_:RS):Prop:=False
def DY (t p h:Int) (xs ys:LI) (s0 s1 s2 s3 s4 s5 s6 s7 q_:Int) (r_:RS):Prop:=False
def DZ (t p h:Int) (xs ys:LI) (s0 s1 s2 s3 s4 s5 s6 s7 q_:Int) (r_:RS):Prop:=False
def AkG (t p h:Int) (xs ys:LI) (s0 s1 s2 s3 s4 s5 s6 s7:Int) (q_:RS) (i_:Int) (Q0:Int→Prop) (Q1:Int→Prop) (Q2:Int→Prop) (Q3:RS→Int→Prop) (Q4:RS→Int→Prop) (Q5:RS→Prop) (Q6:Int→Int→Int→Nat→LI→LI→Int→Int→Int→Int→Int→Int→Int→Int→Prop) (Q7:Int→Int→Int→Nat→LI→LI→Int→Int→Int→Int→Int→Int→Int→Int→Prop) (Q8:RS→Prop) (R_:RS→Prop):Prop:=(AV (decide (i_<(↑(iH xs):Int))) (Ap (0≤i_∧i_<(↑(iH xs):Int)) (∀r2:Bool,r2=(OV q_ (iN xs (jI i_) 0) (iN ys (jI i_) 0) (-1))→(Ap (iH (RS.a q_)≤1000) (AV (!r2) (Q1 (i_)) (Ap (0≤i_∧i_<(↑(iH xs):Int)) (∀r6:RS,r6=(DL q_ (iN xs (jI i_) 0) (iN ys (jI i_) 0))→(Ap (iH (RS.a q_)≤1000) (Q3 (r6) (iO iB (i_+1)))))))))) (Q4 (q_) (0)))
def DC (t p h:Int) (xs ys:LI) (s0 s1 s2 s3 s4 s5 s6 s7:Int) (q_:RS) (i_:Int) (r_:RS):Prop:=r_=Ail t p h xs ys s0 s1 s2 s3 s4 s5 s6 s7∧q_=IJ t p h xs ys i_.toNat∧0≤i_∧i_≤(xs.length:Int)
def AeT (t p h:Int) (xs ys:LI) (s0 s1 s2 s3 s4 s5 s6 s7:Int) (q_:RS) (Q0:Int→Prop) (Q1:Int→Prop) (Q2:Int→Prop) (Q3:RS→Int→Prop) (Q4:RS→Int→Prop) (Q5:RS→Prop) (Q6:Int→Int→Int→Nat→LI→LI→Int→Int→Int→Int→Int→Int→Int→Int→Prop) (Q7:Int→Int→Int→Nat→LI→LI→Int→Int→Int→Int→Int→Int→Int→Int→Prop) (Q8:RS→Prop) (R_:RS→Prop):Prop:=(AV (true) (Ap ((0:Int)≤0∧(0:Int)<8) (Ap ((s0 !=0)=true→(0:Int)≤0∧(0:Int)<8) (Ap ((s0 !=0)=true→iH (RS.a q_)≤1000) (AV (s0 !=0&&decide (BK (RS.a q_) s0<0)) (Q2 (0)) (Q4 (q_) (1)))))) (Q5 (q_)))
def AeU (t p h:Int) (xs ys:LI) (s0 s1 s2 s3 s4 s5 s6 s7:Int) (q_:RS) (Q0:Int→Prop) (Q1:Int→Prop) (Q2:Int→Prop) (Q3:RS→Int→Prop) (Q4:RS→Int→Prop) (Q5:RS→Prop) (Q6:Int→Int→Int→Nat→LI→LI→Int→Int→Int→Int→Int→Int→Int→Int→Prop) (Q7:Int→Int→Int→Nat→LI→LI→Int→Int→Int→Int→Int→Int→Int→Int→Prop) (Q8:RS→Prop) (R_:RS→Prop):Prop:=(AV (true) (Ap ((0:Int)≤1∧(1:Int)<8) (Ap ((s1 !=0)=true→(0:Int)≤1∧(1:Int)<8) (Ap ((s1 !=0)=true→iH (RS.a q_)≤1000) (AV (s1 !=0&&decide (BK (RS.a q_) s1<0)) (Q2 (1)) (Q4 (q_) (2)))))) (Q5 (q_)))
def AeV (t p h:Int) (xs ys:LI) (s0 s1 s2 s3 s4 s5 s6 s7:Int) (q_:RS) (Q0:Int→Prop) (Q1:Int→Prop) (Q2:Int→Prop) (Q3:RS→Int→Prop) (Q4:RS→Int→Prop) (Q5:RS→Prop) (Q6:Int→Int→Int→Nat→LI→LI→Int→Int→Int→Int→Int→Int→Int→Int→Prop) (Q7:Int→Int→Int→Nat→LI→LI→Int→Int→Int→Int→Int→Int→Int→Int→Prop) (Q8:RS→Prop) (R_:RS→Prop):Prop:=(AV (true) (Ap ((0:Int)≤2∧(2:Int)<8) (Ap ((s2 !=0)=true→(0:Int)≤2∧(2:Int)<8) (Ap ((s2 !=0)=true→iH (RS.a q_)≤1000) (AV (s2 !=0&&decide (BK (RS.a q_) s2<0)) (Q2 (2)) (Q4 (q_) (3)))))) (Q5 (q_)))
def AeW (t p h:Int) (xs ys:LI) (s0 s1 s2 s3 s4 s5 s6 s7:Int) (q_:RS) (Q0:Int→Prop) (Q1:Int→Prop) (Q2:Int→Prop) (Q3:RS→Int→Prop) (Q4:RS→Int→Prop) (Q5:RS→Prop) (Q6:Int→Int→Int→Nat→LI→LI→Int→Int→Int→Int→Int→Int→Int→Int→Prop) (Q7:Int→Int→Int→Nat→LI→LI→Int→Int→Int→Int→Int→Int→Int→Int→Prop) (Q8:RS→Prop) (R_:RS→Prop):Prop:=(AV (true) (Ap ((0:Int)≤3∧(3:Int)<8) (Ap ((s3 !=0)=true→(0:Int)≤3∧(3:Int)<8) (Ap ((s3 !=0)=true→iH (RS.a q_)≤1000) (AV (s3 !=0&&decide (BK (RS.a q_) s3<0)) (Q2 (3)) (Q4 (q_) (4)))))) (Q5 (q_)))
def AeX (t p h:Int) (xs ys:LI) (s0 s1 s2 s3 s4 s5 s6 s7:Int) (q_:RS) (Q0:Int→Prop) (Q1:Int→Prop) (Q2:Int→Prop) (Q3:RS→Int→Prop) (Q4:RS→Int→Prop) (Q5:RS→Prop) (Q6:Int→Int→Int→Nat→LI→LI→Int→Int→Int→Int→Int→Int→Int→Int→Prop) (Q7:Int→Int→Int→Nat→LI→LI→Int→Int→Int→Int→Int→Int→Int→Int→Prop) (Q8:RS→Prop) (R_:RS→Prop):Prop:=(AV (true) (Ap ((0:Int)≤4∧(4:Int)<8) (Ap ((s4 !=0)=true→(0:Int)≤4∧(4:Int)<8) (Ap ((s4 !=0)=true→iH (RS.a q_)≤1000) (AV (s4 !=0&&decide (BK (RS.a q_) s4<0)) (Q2 (4)) (Q4 (q_) (5)))))) (Q5 (q_)))
def AeY (t p h:Int) (xs ys:LI) (s0 s1 s2 s3 s4 s5 s6 s7:Int) (q_:RS) (Q0:Int→Prop) (Q1:Int→Prop) (Q2:Int→Prop) (Q3:RS→Int→Prop) (Q4:RS→Int→Prop) (Q5:RS→Prop) (Q6:Int→Int→Int→Nat→LI→LI→Int→Int→Int→Int→Int→Int→Int→Int→Prop) (Q7:Int→Int→Int→Nat→LI→LI→Int→Int→Int→Int→Int→Int→Int→Int→Prop) (Q8:RS→Prop) (R_:RS→Prop):Prop:=(AV (true) (Ap ((0:Int)≤5∧(5:Int)<8) (Ap ((s5 !=0)=true→(0:Int)≤5∧(5:Int)<8) (Ap ((s5 !=0)=true→iH (RS.a q_)≤1000) (AV (s5 !=0&&decide (BK (RS.a q_) s5<0)) (Q2 (5)) (Q4 (q_) (6)))))) (Q5 (q_)))
def AeZ (t p h:Int) (xs ys:LI) (s0 s1 s2 s3 s4 s5 s6 s7:Int) (q_:RS) (Q0:Int→Prop) (Q1:Int→Prop) (Q2:Int→Prop) (Q3:RS→Int→Prop) (Q4:RS→Int→Prop) (Q5:RS→Prop) (Q6:Int→Int→Int→Nat→LI→LI→Int→Int→Int→Int→Int→Int→Int→Int→Prop) (Q7:Int→Int→Int→Nat→LI→LI→Int→Int→Int→Int→Int→Int→Int→Int→Prop) (Q8:RS→Prop) (R_:RS→Prop):Prop:=(AV (true) (Ap ((0:Int)≤6∧(6:Int)<8) (Ap ((s6 !=0)=true→(0:Int)≤6∧(6:Int)<8) (Ap ((s6 !=0)=true→iH (RS.a q_)≤1000) (AV (s6 !=0&&decide (BK (RS.a q_) s6<0)) (Q2 (6)) (Q4 (q_) (7)))))) (Q5 (q_)))
def Afa (t p h:Int) (xs ys:LI) (s0 s1 s2 s3 s4 s5 s6 s7:Int) (q_:RS) (Q0:Int→Prop) (Q1:Int→Prop) (Q2:Int→Prop) (Q3:RS→Int→Prop) (Q4:RS→Int→Prop) (Q5:RS→Prop) (Q6:Int→Int→Int→Nat→LI→LI→Int→Int→Int→Int→Int→Int→Int→Int→Prop) (Q7:Int→Int→Int→Nat→LI→LI→Int→Int→Int→Int→Int→Int→Int→Int→Prop) (Q8:RS→Prop) (R_:RS→Prop):Prop:=(AV (true) (Ap ((0:Int)≤7∧(7:Int)<8) (Ap ((s7 !=0)=true→(0:Int)≤7∧(7:Int)<8) (Ap ((s7 !=0)=true→iH (RS.a q_)≤1000) (AV (s7 !=0&&decide (BK (RS.a q_) s7<0)) (Q2 (7)) (Q4 (q_) (8)))))) (Q5 (q_)))
def Afb (t p h:Int) (xs ys:LI) (s0 s1 s2 s3 s4 s5 s6 s7:Int) (q_:RS) (Q0:Int→Prop) (Q1:Int→Prop) (Q2:Int→Prop) (Q3:RS→Int→Prop) (Q4:RS→Int→Prop) (Q5:RS→Prop) (Q6:Int→Int→Int→Nat→LI→LI→Int→Int→Int→Int→Int→Int→Int→Int→Prop) (Q7:Int→Int→Int→Nat→LI→LI→Int→Int→Int→Int→Int→Int→Int→Int→Prop) (Q8:RS→Prop) (R_:RS→Prop):Prop:=(AV (false) (Ap ((0:Int)≤8∧(8:Int)<8) False) (Q5 (q_)))
def BP (t p h:Int) (xs ys:LI) (s0 s1 s2 s3 s4 s5 s6 s7:Int) (q_:RS) (i_:Int) (r_:RS):Prop:=r_=Ail t p h xs ys s0 s1 s2 s3 s4 s5 s6 s7∧q_=IJ t p h xs ys xs.length∧0≤i_∧i_≤8
def AkH (t p h:Int) (xs ys:LI) (s0 s1 s2 s3 s4 s5 s6 s7:Int) (q_:RS) (t_ p_ h_:Int) (n_:Nat) (al_ zl_:LI) (x0_ x1_ x2_ x3_ x4_ x5_ x6_ x7_:Int) (Q6:Int→Int→Int→Nat→LI→LI→Int→Int→Int→Int→Int→Int→Int→Int→Prop):Prop:=(Q6 (t_) (p_) (h_) (n_) (al_) (zl_) (x0_) (x1_) (x2_) (x3_) (x4_) (x5_) (x6_) (x7_))
def DD (t p h:Int) (xs ys:LI) (s0 s1 s2 s3 s4 s5 s6 s7:Int) (q_:RS) (r_:RS):Prop:=r_=Ail t p h xs ys s0 s1 s2 s3 s4 s5 s6 s7∧q_=IJ t p h xs ys xs.length
def AkI (t p h:Int) (xs ys:LI) (s0 s1 s2 s3 s4 s5 s6 s7 t_ p_ h_:Int) (n_:Nat) (a_ z_:LI) (r0_ r1_ r2_ r3_ r4_ r5_ r6_ r7_:Int) (Q0:Int→Prop) (Q1:Int→Prop) (Q2:Int→Prop) (Q3:RS→Int→Prop) (Q4:RS→Int→Prop) (Q5:RS→Prop) (Q6:Int→Int→Int→Nat→LI→LI→Int→Int→Int→Int→Int→Int→Int→Int→Prop) (Q7:Int→Int→Int→Nat→LI→LI→Int→Int→Int→Int→Int→Int→Int→Int→Prop) (Q8:RS→Prop) (R_:RS→Prop):Prop:=(Q7 (t_) (p_) (h_) (n_) (a_) (z_) (s0) (s1) (s2) (s3) (s4) (s5) (s6) (s7))
def Dy (t p h:Int) (xs ys:LI) (s0 s1 s2 s3 s4 s5 s6 s7 t_ p_ h_:Int) (n_:Nat) (a_ z_:LI) (r0_ r1_ r2_ r3_ r4_ r5_ r6_ r7_:Int) (r_:RS):Prop:=r_=Ail t p h xs ys s0 s1 s2 s3 s4 s5 s6 s7∧Bj ⟨t_,p_,h_,n_,a_,z_,r0_,r1_,r2_,r3_,r4_,r5_,r6_,r7_⟩ (IJ t p h xs ys xs.length)
def AdF (t p h:Int) (xs ys:LI) (s0 s1 s2 s3 s4 s5 s6 s7 t_ p_ h_:Int) (n_:Nat) (a_ z_:LI) (r0_ r1_ r2_ r3_ r4_ r5_ r6_ r7_:Int) (Q8:RS→Prop):Prop:=(Q8 ({t:=t_,p:=p_,h:=h_,a:=a_,z:=z_,r0:=r0_,r1:=r1_,r2:=r2_,r3:=r3_,r4:=r4_,r5:=r5_,r6:=r6_,r7:=r7_}))
def DF (t p h:Int) (xs ys:LI) (s0 s1 s2 s3 s4 s5 s6 s7 t_ p_ h_:Int) (n_:Nat) (a_ z_:LI) (r0_ r1_ r2_ r3_ r4_ r5_ r6_ r7_:Int) (r_:RS):Prop:=Bj ⟨t_,p_,h_,n_,a_,z_,r0_,r1_,r2_,r3_,r4_,r5_,r6_,r7_⟩ r_
def AkJ (t p h:Int) (xs ys:LI) (s0 s1 s2 s3 s4 s5 s6 s7:Int) (q_:RS) (Q0:Int→Prop) (Q1:Int→Prop) (Q2:Int→Prop) (Q3:RS→Int→Prop) (Q4:RS→Int→Prop) (Q5:RS→Prop) (Q6:Int→Int→Int→Nat→LI→LI→Int→Int→Int→Int→Int→Int→Int→Int→Prop) (Q7:Int→Int→Int→Nat→LI→LI→Int→Int→Int→Int→Int→Int→Int→Int→Prop) (Q8:RS→Prop) (R_:RS→Prop):Prop:=(R_ (q_))
def Dv (t p h:Int) (xs ys:LI) (s0 s1 s2 s3 s4 s5 s6 s7:Int) (q_:RS) (r_:RS):Prop:=r_=q_
abbrev AdG (p0:Addr) (t p h:Int) (xs ys:LI) (s0 s1 s2 s3 s4 s5 s6 s7:Int):Hd Sg:=⟨some 0,[0,0,1,0,1,1],[.code [1,0,1,0,1,1], .code [1,1,1]],[2],[.box 23 [.i .i64, .ic .i64 (p), .ic .i64 (h)]]⟩
abbrev AdH (p0:Addr) (t p h:Int) (xs ys:LI) (s0 s1 s2 s3 s4 s5 s6 s7:Int):Hd Sg:=⟨some 0,[0,0,1,0,0,0,1,0,0,1,0,1,1,1],[.code [1,0,1,0,0,0,1,0,0,1,0,1,1,1], .code [1,0,0,1,0,0,1,0,1,1,1], .blk 1, .code [1,1,0,0,1,0,1,1,1], .again [0,1,0,1,1,1], .blk 0, .code [1,1,1,1]],[6],[.i .i64]⟩
abbrev AdI (p0:Addr) (t p h:Int) (xs ys:LI) (s0 s1 s2 s3 s4 s5 s6 s7:Int):Hd Sg:=⟨some 0,[0,0,1,0,0,1,0,0,1,0,1,1,1,1],[.code [1,0,1,0,0,1,0,0,1,0,1,1,1,1], .blk 3, .code [1,1,0,0,1,0,1,1,1,1], .again [0,1,0,1,1,1,1], .blk 2, .code [1,1,1,1,1]],[7],[.i .i64]⟩
abbrev AdJ (p0:Addr) (t p h:Int) (xs ys:LI) (s0 s1 s2 s3 s4 s5 s6 s7:Int):Hd Sg:=⟨none,[0,1,0,1,1,1],[.blk 0, .code [1,1,1,1]],[5,1,3,6],[.objb CW, .agg [.roc [.ints .i64 (xs), .ints .i64 (ys)], .ic .i64 (s0), .ic .i64 (s1), .ic .i64 (s2), .ic .i64 (s3), .ic .i64 (s4), .ic .i64 (s5), .ic .i64 (s6), .ic .i64 (s7)], .box 27 [.ags 1 (xs.length), .ic .i64 (s0), .ic .i64 (s1), .ic .i64 (s2), .ic .i64 (s3), .ic .i64 (s4), .ic .i64 (s5), .ic .i64 (s6), .ic .i64 (s7)], .i .i64]⟩
abbrev AdK (p0:Addr) (t p h:Int) (xs ys:LI) (s0 s1 s2 s3 s4 s5 s6 s7:Int):Hd Sg:=⟨none,[0,1,0,1,1,1,1],[.blk 2, .code [1,1,1,1,1]],[5,1,3,7],[.objb CW, .agg [.roc [.ints .i64 (xs), .ints .i64 (ys)], .ic .i64 (s0), .ic .i64 (s1), .ic .i64 (s2), .ic .i64 (s3), .ic .i64 (s4), .ic .i64 (s5), .ic .i64 (s6), .ic .i64 (s7)], .box 27 [.ags 1 (xs.length), .ic .i64 (s0), .ic .i64 (s1), .ic .i64 (s2), .ic .i64 (s3), .ic .i64 (s4), .ic .i64 (s5), .ic .i64 (s6), .ic .i64 (s7)], .i .i64]⟩
abbrev AdL (p0:Addr) (t p h:Int) (xs ys:LI) (s0 s1 s2 s3 s4 s5 s6 s7:Int):Hd Sg:=⟨some 0,[0,1,1,1,1,1],[.code [1,1,1,1,1,1]],[5,1,3],[.objb CW, .agg [.roc [.ints .i64 (xs), .ints .i64 (ys)], .ic .i64 (s0), .ic .i64 (s1), .ic .i64 (s2), .ic .i64 (s3), .ic .i64 (s4), .ic .i64 (s5), .ic .i64 (s6), .ic .i64 (s7)], .box 27 [.ags 1 (xs.length), .ic .i64 (s0), .ic .i64 (s1), .ic .i64 (s2), .ic .i64 (s3), .ic .i64 (s4), .ic .i64 (s5), .ic .i64 (s6), .ic .i64 (s7)]]⟩
abbrev AdM (p0:Addr) (t p h:Int) (xs ys:LI) (s0 s1 s2 s3 s4 s5 s6 s7:Int):Hd Sg:=⟨some 0,[0,1,1,1,1,1],[.code [1,1,1,1,1,1]],[5,1,3],[.box Bq.t Bq.l, .agg [.roc [.ints .i64 (xs), .ints .i64 (ys)], .ic .i64 (s0), .ic .i64 (s1), .ic .i64 (s2), .ic .i64 (s3), .ic .i64 (s4), .ic .i64 (s5), .ic .i64 (s6), .ic .i64 (s7)], .box 27 [.ags 2 (xs.length), .ic .i64 (s0), .ic .i64 (s1), .ic .i64 (s2), .ic .i64 (s3), .ic .i64 (s4), .ic .i64 (s5), .ic .i64 (s6), .ic .i64 (s7)]]⟩
abbrev AdN (p0:Addr) (t p h:Int) (xs ys:LI) (s0 s1 s2 s3 s4 s5 s6 s7:Int):Hd Sg:=⟨some 0,[0,1,1,1,1,1,1],[.code [1,1,1,1,1,1,1]],[5],[.box Bq.t Bq.l]⟩
abbrev AdO (p0:Addr) (t p h:Int) (xs ys:LI) (s0 s1 s2 s3 s4 s5 s6 s7:Int):Hd Sg:=⟨some 0,[0,1,1,1,1,1,1],[.code [1,1,1,1,1,1,1]],[5],[.objb CW]⟩
theorem Aml (t p h:Int) (xs ys:LI) (s0 s1 s2 s3 s4 s5 s6 s7:Int) (hp0:Ac t p h=true) (hp1:xs.length=ys.length) (hp2:xs.length≤999) (hp3:H7 t p h xs ys) (hp4:H8 (AY (Ba xs ys)) [s0,s1,s2,s3,s4,s5,s6,s7]) (hl0:xs.length≤9223372036854775807):AnG t p h xs ys s0 s1 s2 s3 s4 s5 s6 s7 (λq_'=>DX t p h xs ys s0 s1 s2 s3 s4 s5 s6 s7 q_' (Iw t p h xs ys s0 s1 s2 s3 s4 s5 s6 s7)) (λq_'=>DY t p h xs ys s0 s1 s2 s3 s4 s5 s6 s7 q_' (Iw t p h xs ys s0 s1 s2 s3 s4 s5 s6 s7)) (λq_'=>DZ t p h xs ys s0 s1 s2 s3 s4 s5 s6 s7 q_' (Iw t p h xs ys s0 s1 s2 s3 s4 s5 s6 s7)) (λq_' i_'=>DC t p h xs ys s0 s1 s2 s3 s4 s5 s6 s7 q_' i_' (Iw t p h xs ys s0 s1 s2 s3 s4 s5 s6 s7)) (λq_' i_'=>BP t p h xs ys s0 s1 s2 s3 s4 s5 s6 s7 q_' i_' (Iw t p h xs ys s0 s1 s2 s3 s4 s5 s6 s7)) (λq_'=>DD t p h xs ys s0 s1 s2 s3 s4 s5 s6 s7 q_' (Iw t p h xs ys s0 s1 s2 s3 s4 s5 s6 s7)) (λt_' p_' h_' n_' a_' z_' r0_' r1_' r2_' r3_' r4_' r5_' r6_' r7_'=>Dy t p h xs ys s0 s1 s2 s3 s4 s5 s6 s7 t_' p_' h_' n_' a_' z_' r0_' r1_' r2_' r3_' r4_' r5_' r6_' r7_' (Iw t p h xs ys s0 s1 s2 s3 s4 s5 s6 s7)) (λt_' p_' h_' n_' a_' z_' r0_' r1_' r2_' r3_' r4_' r5_' r6_' r7_'=>DF t p h xs ys s0 s1 s2 s3 s4 s5 s6 s7 t_' p_' h_' n_' a_' z_' r0_' r1_' r2_' r3_' r4_' r5_' r6_' r7_' (Iw t p h xs ys s0 s1 s2 s3 s4 s5 s6 s7)) (λq_'=>Dv t p h xs ys s0 s1 s2 s3 s4 s5 s6 s7 q_' (Iw t p h xs ys s0 s1 s2 s3 s4 s5 s6 s7)) (λr__=>r__=(Iw t p h xs ys s0 s1 s2 s3 s4 s5 s6 s7)):=by
 unfold AnG
 try unfold DX
 try unfold DY
 try unfold DZ
 try unfold DC
 try unfold BP
 try unfold DD
 try unfold Dy
 try unfold DF
 try unfold Dv
 rintro r2 rfl
 exact ⟨hp0, λ_=>⟨λh=>(by cases h), λ_=>⟨rfl,rfl,by decide,by omega⟩⟩⟩
theorem Amm (t p h:Int) (xs ys:LI) (s0 s1 s2 s3 s4 s5 s6 s7:Int) (hp0:Ac t p h=true) (hp1:xs.length=ys.length) (hp2:xs.length≤999) (hp3:H7 t p h xs ys) (hp4:H8 (AY (Ba xs ys)) [s0,s1,s2,s3,s4,s5,s6,s7]) (hl0:xs.length≤9223372036854775807) (q_:RS) (i_:Int) {r_:RS} (hI:DC t p h xs ys s0 s1 s2 s3 s4 s5 s6 s7 q_ i_ r_):AkG t p h xs ys s0 s1 s2 s3 s4 s5 s6 s7 q_ i_ (λq_'=>DX t p h xs ys s0 s1 s2 s3 s4 s5 s6 s7 q_' r_∧lx (0,0,0) (9,((xs.length:Int)-i_).toNat,0)) (λq_'=>DY t p h xs ys s0 s1 s2 s3 s4 s5 s6 s7 q_' r_∧lx (0,0,0) (9,((xs.length:Int)-i_).toNat,0)) (λq_'=>DZ t p h xs ys s0 s1 s2 s3 s4 s5 s6 s7 q_' r_∧lx (0,0,0) (9,((xs.length:Int)-i_).toNat,0)) (λq_' i_'=>DC t p h xs ys s0 s1 s2 s3 s4 s5 s6 s7 q_' i_' r_∧lx (9,((xs.length:Int)-i_').toNat,0) (9,((xs.length:Int)-i_).toNat,0)) (λq_' i_'=>BP t p h xs ys s0 s1 s2 s3 s4 s5 s6 s7 q_' i_' r_∧lx (5,(8-i_').toNat,0) (9,((xs.length:Int)-i_).toNat,0)) (λq_'=>DD t p h xs ys s0 s1 s2 s3 s4 s5 s6 s7 q_' r_∧lx (4,0,0) (9,((xs.length:Int)-i_).toNat,0)) (λt_' p_' h_' n_' a_' z_' r0_' r1_' r2_' r3_' r4_' r5_' r6_' r7_'=>Dy t p h xs ys s0 s1 s2 s3 s4 s5 s6 s7 t_' p_' h_' n_' a_' z_' r0_' r1_' r2_' r3_' r4_' r5_' r6_' r7_' r_∧lx (3,0,0) (9,((xs.length:Int)-i_).toNat,0)) (λt_' p_' h_' n_' a_' z_' r0_' r1_' r2_' r3_' r4_' r5_' r6_' r7_'=>DF t p h xs ys s0 s1 s2 s3 s4 s5 s6 s7 t_' p_' h_' n_' a_' z_' r0_' r1_' r2_' r3_' r4_' r5_' r6_' r7_' r_∧lx (2,0,0) (9,((xs.length:Int)-i_).toNat,0)) (λq_'=>Dv t p h xs ys s0 s1 s2 s3 s4 s5 s6 s7 q_' r_∧lx (1,0,0) (9,((xs.length:Int)-i_).toNat,0)) (λr__=>r__=r_):=by
 unfold DC at hI
 unfold AkG
 try unfold DX
 try unfold DY
 try unfold DZ
 try unfold DC
 try unfold BP
 try unfold DD
 try unfold Dy
 try unfold DF
 try unfold Dv
 obtain ⟨h0,rfl,h1,h2⟩:=hI
 refine ⟨λhlt=>?_, λhlt=>?_⟩
 ·have hlt:i_<(xs.length:Int):=by simpa using hlt
  refine ⟨⟨h1,hlt⟩, λ_=>?_⟩
  rintro r2 rfl
  refine ⟨FB hp2, λ_=>⟨λhn=>?_, λ_=>⟨⟨h1,hlt⟩, λ_=>?_⟩⟩⟩
  ·have h:=hp3 i_.toNat (by omega)
   rw [h] at hn;cases hn
  ·rintro r6 rfl
   refine ⟨FB hp2, λ_=>?_⟩
   have e:(i_+1).toNat=i_.toNat+1:=by omega
   rw [Hm (n:=i_+1) (by omega),Aim hp1 (by omega)]
   exact ⟨⟨h0,by rw [e],by omega,by omega⟩,Bo⟩
 ·have hlt:¬i_<(xs.length:Int):=by simpa using hlt
  have e:i_.toNat=xs.length:=by omega
  rw [e]
  exact ⟨⟨h0,rfl,by decide,by decide⟩,Bo⟩
theorem AoX (t p h:Int) (xs ys:LI) (s0 s1 s2 s3 s4 s5 s6 s7:Int) (hp0:Ac t p h=true) (hp1:xs.length=ys.length) (hp2:xs.length≤999) (hp3:H7 t p h xs ys) (hp4:H8 (AY (Ba xs ys)) [s0,s1,s2,s3,s4,s5,s6,s7]) (hl0:xs.length≤9223372036854775807) (q_:RS) (i_:Int) {r_:RS} (hI:BP t p h xs ys s0 s1 s2 s3 s4 s5 s6 s7 q_ i_ r_):i_=0∨i_=1∨i_=2∨i_=3∨i_=4∨i_=5∨i_=6∨i_=7∨i_=8:=by
 unfold BP at hI
 omega
theorem Aio (t p h:Int) (xs ys:LI) (s0 s1 s2 s3 s4 s5 s6 s7:Int) (hp0:Ac t p h=true) (hp1:xs.length=ys.length) (hp2:xs.length≤999) (hp3:H7 t p h xs ys) (hp4:H8 (AY (Ba xs ys)) [s0,s1,s2,s3,s4,s5,s6,s7]) (hl0:xs.length≤9223372036854775807) (q_:RS) {r_:RS} (hI:BP t p h xs ys s0 s1 s2 s3 s4 s5 s6 s7 q_ (0:Int) r_):AeT t p h xs ys s0 s1 s2 s3 s4 s5 s6 s7 q_ (λq_'=>DX t p h xs ys s0 s1 s2 s3 s4 s5 s6 s7 q_' r_∧lx (0,0,0) (5,(8-(0:Int)).toNat,0)) (λq_'=>DY t p h xs ys s0 s1 s2 s3 s4 s5 s6 s7 q_' r_∧lx (0,0,0) (5,(8-(0:Int)).toNat,0)) (λq_'=>DZ t p h xs ys s0 s1 s2 s3 s4 s5 s6 s7 q_' r_∧lx (0,0,0) (5,(8-(0:Int)).toNat,0)) (λq_' i_'=>DC t p h xs ys s0 s1 s2 s3 s4 s5 s6 s7 q_' i_' r_∧lx (9,((xs.length:Int)-i_').toNat,0) (5,(8-(0:Int)).toNat,0)) (λq_' i_'=>BP t p h xs ys s0 s1 s2 s3 s4 s5 s6 s7 q_' i_' r_∧lx (5,(8-i_').toNat,0) (5,(8-(0:Int)).toNat,0)) (λq_'=>DD t p h xs ys s0 s1 s2 s3 s4 s5 s6 s7 q_' r_∧lx (4,0,0) (5,(8-(0:Int)).toNat,0)) (λt_' p_' h_' n_' a_' z_' r0_' r1_' r2_' r3_' r4_' r5_' r6_' r7_'=>Dy t p h xs ys s0 s1 s2 s3 s4 s5 s6 s7 t_' p_' h_' n_' a_' z_' r0_' r1_' r2_' r3_' r4_' r5_' r6_' r7_' r_∧lx (3,0,0) (5,(8-(0:Int)).toNat,0)) (λt_' p_' h_' n_' a_' z_' r0_' r1_' r2_' r3_' r4_' r5_' r6_' r7_'=>DF t p h xs ys s0 s1 s2 s3 s4 s5 s6 s7 t_' p_' h_' n_' a_' z_' r0_' r1_' r2_' r3_' r4_' r5_' r6_' r7_' r_∧lx (2,0,0) (5,(8-(0:Int)).toNat,0)) (λq_'=>Dv t p h xs ys s0 s1 s2 s3 s4 s5 s6 s7 q_' r_∧lx (1,0,0) (5,(8-(0:Int)).toNat,0)) (λr__=>r__=r_):=by
 unfold BP at hI
 unfold AeT
 try unfold DX
 try unfold DY
 try unfold DZ
 try unfold DC
 try unfold BP
 try unfold DD
 try unfold Dy
 try unfold DF
 try unfold Dv
 obtain ⟨h0,rfl,_,_⟩:=hI
 refine ⟨λ_=>⟨by decide, λ_=>⟨λ_=>by decide, λ_=>⟨λ_=>FB hp2, λ_=>⟨λhb=>?_, λ_=>⟨⟨h0,rfl,by decide,by decide⟩,Bo⟩⟩⟩⟩⟩, λh=>(by cases h)⟩
 exfalso
 have e:(IJ t p h xs ys xs.length).a=(AY (Ba xs ys)).map (·.1):=by
  show (AY (lP _ _)).map _=_
  rw [Gv hp1]
 rw [e] at hb
 simp only [iE,bne_iff_ne,ne_eq,decide_eq_true_eq] at hb
 have h:=hp4 0 (by decide) hb.1
 have h:0≤BK ((AY (Ba xs ys)).map (·.1)) s0:=h
 omega
theorem Aip (t p h:Int) (xs ys:LI) (s0 s1 s2 s3 s4 s5 s6 s7:Int) (hp0:Ac t p h=true) (hp1:xs.length=ys.length) (hp2:xs.length≤999) (hp3:H7 t p h xs ys) (hp4:H8 (AY (Ba xs ys)) [s0,s1,s2,s3,s4,s5,s6,s7]) (hl0:xs.length≤9223372036854775807) (q_:RS) {r_:RS} (hI:BP t p h xs ys s0 s1 s2 s3 s4 s5 s6 s7 q_ (1:Int) r_):AeU t p h xs ys s0 s1 s2 s3 s4 s5 s6 s7 q_ (λq_'=>DX t p h xs ys s0 s1 s2 s3 s4 s5 s6 s7 q_' r_∧lx (0,0,0) (5,(8-(1:Int)).toNat,0)) (λq_'=>DY t p h xs ys s0 s1 s2 s3 s4 s5 s6 s7 q_' r_∧lx (0,0,0) (5,(8-(1:Int)).toNat,0)) (λq_'=>DZ t p h xs ys s0 s1 s2 s3 s4 s5 s6 s7 q_' r_∧lx (0,0,0) (5,(8-(1:Int)).toNat,0)) (λq_' i_'=>DC t p h xs ys s0 s1 s2 s3 s4 s5 s6 s7 q_' i_' r_∧lx (9,((xs.length:Int)-i_').toNat,0) (5,(8-(1:Int)).toNat,0)) (λq_' i_'=>BP t p h xs ys s0 s1 s2 s3 s4 s5 s6 s7 q_' i_' r_∧lx (5,(8-i_').toNat,0) (5,(8-(1:Int)).toNat,0)) (λq_'=>DD t p h xs ys s0 s1 s2 s3 s4 s5 s6 s7 q_' r_∧lx (4,0,0) (5,(8-(1:Int)).toNat,0)) (λt_' p_' h_' n_' a_' z_' r0_' r1_' r2_' r3_' r4_' r5_' r6_' r7_'=>Dy t p h xs ys s0 s1 s2 s3 s4 s5 s6 s7 t_' p_' h_' n_' a_' z_' r0_' r1_' r2_' r3_' r4_' r5_' r6_' r7_' r_∧lx (3,0,0) (5,(8-(1:Int)).toNat,0)) (λt_' p_' h_' n_' a_' z_' r0_' r1_' r2_' r3_' r4_' r5_' r6_' r7_'=>DF t p h xs ys s0 s1 s2 s3 s4 s5 s6 s7 t_' p_' h_' n_' a_' z_' r0_' r1_' r2_' r3_' r4_' r5_' r6_' r7_' r_∧lx (2,0,0) (5,(8-(1:Int)).toNat,0)) (λq_'=>Dv t p h xs ys s0 s1 s2 s3 s4 s5 s6 s7 q_' r_∧lx (1,0,0) (5,(8-(1:Int)).toNat,0)) (λr__=>r__=r_):=by
 unfold BP at hI
 unfold AeU
 try unfold DX
 try unfold DY
 try unfold DZ
 try unfold DC
 try unfold BP
 try unfold DD
 try unfold Dy
 try unfold DF
 try unfold Dv
 obtain ⟨h0,rfl,_,_⟩:=hI
 refine ⟨λ_=>⟨by decide, λ_=>⟨λ_=>by decide, λ_=>⟨λ_=>FB hp2, λ_=>⟨λhb=>?_, λ_=>⟨⟨h0,rfl,by decide,by decide⟩,Bo⟩⟩⟩⟩⟩, λh=>(by cases h)⟩
 exfalso
 have e:(IJ t p h xs ys xs.length).a=(AY (Ba xs ys)).map (·.1):=by
  show (AY (lP _ _)).map _=_
  rw [Gv hp1]
 rw [e] at hb
 simp only [iE,bne_iff_ne,ne_eq,decide_eq_true_eq] at hb
 have h:=hp4 1 (by decide) hb.1
 have h:0≤BK ((AY (Ba xs ys)).map (·.1)) s1:=h
 omega
theorem Aiq (t p h:Int) (xs ys:LI) (s0 s1 s2 s3 s4 s5 s6 s7:Int) (hp0:Ac t p h=true) (hp1:xs.length=ys.length) (hp2:xs.length≤999) (hp3:H7 t p h xs ys) (hp4:H8 (AY (Ba xs ys)) [s0,s1,s2,s3,s4,s5,s6,s7]) (hl0:xs.length≤9223372036854775807) (q_:RS) {r_:RS} (hI:BP t p h xs ys s0 s1 s2 s3 s4 s5 s6 s7 q_ (2:Int) r_):AeV t p h xs ys s0 s1 s2 s3 s4 s5 s6 s7 q_ (λq_'=>DX t p h xs ys s0 s1 s2 s3 s4 s5 s6 s7 q_' r_∧lx (0,0,0) (5,(8-(2:Int)).toNat,0)) (λq_'=>DY t p h xs ys s0 s1 s2 s3 s4 s5 s6 s7 q_' r_∧lx (0,0,0) (5,(8-(2:Int)).toNat,0)) (λq_'=>DZ t p h xs ys s0 s1 s2 s3 s4 s5 s6 s7 q_' r_∧lx (0,0,0) (5,(8-(2:Int)).toNat,0)) (λq_' i_'=>DC t p h xs ys s0 s1 s2 s3 s4 s5 s6 s7 q_' i_' r_∧lx (9,((xs.length:Int)-i_').toNat,0) (5,(8-(2:Int)).toNat,0)) (λq_' i_'=>BP t p h xs ys s0 s1 s2 s3 s4 s5 s6 s7 q_' i_' r_∧lx (5,(8-i_').toNat,0) (5,(8-(2:Int)).toNat,0)) (λq_'=>DD t p h xs ys s0 s1 s2 s3 s4 s5 s6 s7 q_' r_∧lx (4,0,0) (5,(8-(2:Int)).toNat,0)) (λt_' p_' h_' n_' a_' z_' r0_' r1_' r2_' r3_' r4_' r5_' r6_' r7_'=>Dy t p h xs ys s0 s1 s2 s3 s4 s5 s6 s7 t_' p_' h_' n_' a_' z_' r0_' r1_' r2_' r3_' r4_' r5_' r6_' r7_' r_∧lx (3,0,0) (5,(8-(2:Int)).toNat,0)) (λt_' p_' h_' n_' a_' z_' r0_' r1_' r2_' r3_' r4_' r5_' r6_' r7_'=>DF t p h xs ys s0 s1 s2 s3 s4 s5 s6 s7 t_' p_' h_' n_' a_' z_' r0_' r1_' r2_' r3_' r4_' r5_' r6_' r7_' r_∧lx (2,0,0) (5,(8-(2:Int)).toNat,0)) (λq_'=>Dv t p h xs ys s0 s1 s2 s3 s4 s5 s6 s7 q_' r_∧lx (1,0,0) (5,(8-(2:Int)).toNat,0)) (λr__=>r__=r_):=by
 unfold BP at hI
 unfold AeV
 try unfold DX
 try unfold DY
 try unfold DZ
 try unfold DC
 try unfold BP
 try unfold DD
 try unfold Dy
 try unfold DF
 try unfold Dv
 obtain ⟨h0,rfl,_,_⟩:=hI
 refine ⟨λ_=>⟨by decide, λ_=>⟨λ_=>by decide, λ_=>⟨λ_=>FB hp2, λ_=>⟨λhb=>?_, λ_=>⟨⟨h0,rfl,by decide,by decide⟩,Bo⟩⟩⟩⟩⟩, λh=>(by cases h)⟩
 exfalso
 have e:(IJ t p h xs ys xs.length).a=(AY (Ba xs ys)).map (·.1):=by
  show (AY (lP _ _)).map _=_
  rw [Gv hp1]
 rw [e] at hb
 simp only [iE,bne_iff_ne,ne_eq,decide_eq_true_eq] at hb
 have h:=hp4 2 (by decide) hb.1
 have h:0≤BK ((AY (Ba xs ys)).map (·.1)) s2:=h
 omega
theorem Air (t p h:Int) (xs ys:LI) (s0 s1 s2 s3 s4 s5 s6 s7:Int) (hp0:Ac t p h=true) (hp1:xs.length=ys.length) (hp2:xs.length≤999) (hp3:H7 t p h xs ys) (hp4:H8 (AY (Ba xs ys)) [s0,s1,s2,s3,s4,s5,s6,s7]) (hl0:xs.length≤9223372036854775807) (q_:RS) {r_:RS} (hI:BP t p h xs ys s0 s1 s2 s3 s4 s5 s6 s7 q_ (3:Int) r_):AeW t p h xs ys s0 s1 s2 s3 s4 s5 s6 s7 q_ (λq_'=>DX t p h xs ys s0 s1 s2 s3 s4 s5 s6 s7 q_' r_∧lx (0,0,0) (5,(8-(3:Int)).toNat,0)) (λq_'=>DY t p h xs ys s0 s1 s2 s3 s4 s5 s6 s7 q_' r_∧lx (0,0,0) (5,(8-(3:Int)).toNat,0)) (λq_'=>DZ t p h xs ys s0 s1 s2 s3 s4 s5 s6 s7 q_' r_∧lx (0,0,0) (5,(8-(3:Int)).toNat,0)) (λq_' i_'=>DC t p h xs ys s0 s1 s2 s3 s4 s5 s6 s7 q_' i_' r_∧lx (9,((xs.length:Int)-i_').toNat,0) (5,(8-(3:Int)).toNat,0)) (λq_' i_'=>BP t p h xs ys s0 s1 s2 s3 s4 s5 s6 s7 q_' i_' r_∧lx (5,(8-i_').toNat,0) (5,(8-(3:Int)).toNat,0)) (λq_'=>DD t p h xs ys s0 s1 s2 s3 s4 s5 s6 s7 q_' r_∧lx (4,0,0) (5,(8-(3:Int)).toNat,0)) (λt_' p_' h_' n_' a_' z_' r0_' r1_' r2_' r3_' r4_' r5_' r6_' r7_'=>Dy t p h xs ys s0 s1 s2 s3 s4 s5 s6 s7 t_' p_' h_' n_' a_' z_' r0_' r1_' r2_' r3_' r4_' r5_' r6_' r7_' r_∧lx (3,0,0) (5,(8-(3:Int)).toNat,0)) (λt_' p_' h_' n_' a_' z_' r0_' r1_' r2_' r3_' r4_' r5_' r6_' r7_'=>DF t p h xs ys s0 s1 s2 s3 s4 s5 s6 s7 t_' p_' h_' n_' a_' z_' r0_' r1_' r2_' r3_' r4_' r5_' r6_' r7_' r_∧lx (2,0,0) (5,(8-(3:Int)).toNat,0)) (λq_'=>Dv t p h xs ys s0 s1 s2 s3 s4 s5 s6 s7 q_' r_∧lx (1,0,0) (5,(8-(3:Int)).toNat,0)) (λr__=>r__=r_):=by
 unfold BP at hI
 unfold AeW
 try unfold DX
 try unfold DY
 try unfold DZ
 try unfold DC
 try unfold BP
 try unfold DD
 try unfold Dy
 try unfold DF
 try unfold Dv
 obtain ⟨h0,rfl,_,_⟩:=hI
 refine ⟨λ_=>⟨by decide, λ_=>⟨λ_=>by decide, λ_=>⟨λ_=>FB hp2, λ_=>⟨λhb=>?_, λ_=>⟨⟨h0,rfl,by decide,by decide⟩,Bo⟩⟩⟩⟩⟩, λh=>(by cases h)⟩
 exfalso
 have e:(IJ t p h xs ys xs.length).a=(AY (Ba xs ys)).map (·.1):=by
  show (AY (lP _ _)).map _=_
  rw [Gv hp1]
 rw [e] at hb
 simp only [iE,bne_iff_ne,ne_eq,decide_eq_true_eq] at hb
 have h:=hp4 3 (by decide) hb.1
 have h:0≤BK ((AY (Ba xs ys)).map (·.1)) s3:=h
 omega
theorem Ais (t p h:Int) (xs ys:LI) (s0 s1 s2 s3 s4 s5 s6 s7:Int) (hp0:Ac t p h=true) (hp1:xs.length=ys.length) (hp2:xs.length≤999) (hp3:H7 t p h xs ys) (hp4:H8 (AY (Ba xs ys)) [s0,s1,s2,s3,s4,s5,s6,s7]) (hl0:xs.length≤9223372036854775807) (q_:RS) {r_:RS} (hI:BP t p h xs ys s0 s1 s2 s3 s4 s5 s6 s7 q_ (4:Int) r_):AeX t p h xs ys s0 s1 s2 s3 s4 s5 s6 s7 q_ (λq_'=>DX t p h xs ys s0 s1 s2 s3 s4 s5 s6 s7 q_' r_∧lx (0,0,0) (5,(8-(4:Int)).toNat,0)) (λq_'=>DY t p h xs ys s0 s1 s2 s3 s4 s5 s6 s7 q_' r_∧lx (0,0,0) (5,(8-(4:Int)).toNat,0)) (λq_'=>DZ t p h xs ys s0 s1 s2 s3 s4 s5 s6 s7 q_' r_∧lx (0,0,0) (5,(8-(4:Int)).toNat,0)) (λq_' i_'=>DC t p h xs ys s0 s1 s2 s3 s4 s5 s6 s7 q_' i_' r_∧lx (9,((xs.length:Int)-i_').toNat,0) (5,(8-(4:Int)).toNat,0)) (λq_' i_'=>BP t p h xs ys s0 s1 s2 s3 s4 s5 s6 s7 q_' i_' r_∧lx (5,(8-i_').toNat,0) (5,(8-(4:Int)).toNat,0)) (λq_'=>DD t p h xs ys s0 s1 s2 s3 s4 s5 s6 s7 q_' r_∧lx (4,0,0) (5,(8-(4:Int)).toNat,0)) (λt_' p_' h_' n_' a_' z_' r0_' r1_' r2_' r3_' r4_' r5_' r6_' r7_'=>Dy t p h xs ys s0 s1 s2 s3 s4 s5 s6 s7 t_' p_' h_' n_' a_' z_' r0_' r1_' r2_' r3_' r4_' r5_' r6_' r7_' r_∧lx (3,0,0) (5,(8-(4:Int)).toNat,0)) (λt_' p_' h_' n_' a_' z_' r0_' r1_' r2_' r3_' r4_' r5_' r6_' r7_'=>DF t p h xs ys s0 s1 s2 s3 s4 s5 s6 s7 t_' p_' h_' n_' a_' z_' r0_' r1_' r2_' r3_' r4_' r5_' r6_' r7_' r_∧lx (2,0,0) (5,(8-(4:Int)).toNat,0)) (λq_'=>Dv t p h xs ys s0 s1 s2 s3 s4 s5 s6 s7 q_' r_∧lx (1,0,0) (5,(8-(4:Int)).toNat,0)) (λr__=>r__=r_):=by
 unfold BP at hI
 unfold AeX
 try unfold DX
 try unfold DY
 try unfold DZ
 try unfold DC
 try unfold BP
 try unfold DD
 try unfold Dy
 try unfold DF
 try unfold Dv
 obtain ⟨h0,rfl,_,_⟩:=hI
 refine ⟨λ_=>⟨by decide, λ_=>⟨λ_=>by decide, λ_=>⟨λ_=>FB hp2, λ_=>⟨λhb=>?_, λ_=>⟨⟨h0,rfl,by decide,by decide⟩,Bo⟩⟩⟩⟩⟩, λh=>(by cases h)⟩
 exfalso
 have e:(IJ t p h xs ys xs.length).a=(AY (Ba xs ys)).map (·.1):=by
  show (AY (lP _ _)).map _=_
  rw [Gv hp1]
 rw [e] at hb
 simp only [iE,bne_iff_ne,ne_eq,decide_eq_true_eq] at hb
 have h:=hp4 4 (by decide) hb.1
 have h:0≤BK ((AY (Ba xs ys)).map (·.1)) s4:=h
 omega
theorem Ait (t p h:Int) (xs ys:LI) (s0 s1 s2 s3 s4 s5 s6 s7:Int) (hp0:Ac t p h=true) (hp1:xs.length=ys.length) (hp2:xs.length≤999) (hp3:H7 t p h xs ys) (hp4:H8 (AY (Ba xs ys)) [s0,s1,s2,s3,s4,s5,s6,s7]) (hl0:xs.length≤9223372036854775807) (q_:RS) {r_:RS} (hI:BP t p h xs ys s0 s1 s2 s3 s4 s5 s6 s7 q_ (5:Int) r_):AeY t p h xs ys s0 s1 s2 s3 s4 s5 s6 s7 q_ (λq_'=>DX t p h xs ys s0 s1 s2 s3 s4 s5 s6 s7 q_' r_∧lx (0,0,0) (5,(8-(5:Int)).toNat,0)) (λq_'=>DY t p h xs ys s0 s1 s2 s3 s4 s5 s6 s7 q_' r_∧lx (0,0,0) (5,(8-(5:Int)).toNat,0)) (λq_'=>DZ t p h xs ys s0 s1 s2 s3 s4 s5 s6 s7 q_' r_∧lx (0,0,0) (5,(8-(5:Int)).toNat,0)) (λq_' i_'=>DC t p h xs ys s0 s1 s2 s3 s4 s5 s6 s7 q_' i_' r_∧lx (9,((xs.length:Int)-i_').toNat,0) (5,(8-(5:Int)).toNat,0)) (λq_' i_'=>BP t p h xs ys s0 s1 s2 s3 s4 s5 s6 s7 q_' i_' r_∧lx (5,(8-i_').toNat,0) (5,(8-(5:Int)).toNat,0)) (λq_'=>DD t p h xs ys s0 s1 s2 s3 s4 s5 s6 s7 q_' r_∧lx (4,0,0) (5,(8-(5:Int)).toNat,0)) (λt_' p_' h_' n_' a_' z_' r0_' r1_' r2_' r3_' r4_' r5_' r6_' r7_'=>Dy t p h xs ys s0 s1 s2 s3 s4 s5 s6 s7 t_' p_' h_' n_' a_' z_' r0_' r1_' r2_' r3_' r4_' r5_' r6_' r7_' r_∧lx (3,0,0) (5,(8-(5:Int)).toNat,0)) (λt_' p_' h_' n_' a_' z_' r0_' r1_' r2_' r3_' r4_' r5_' r6_' r7_'=>DF t p h xs ys s0 s1 s2 s3 s4 s5 s6 s7 t_' p_' h_' n_' a_' z_' r0_' r1_' r2_' r3_' r4_' r5_' r6_' r7_' r_∧lx (2,0,0) (5,(8-(5:Int)).toNat,0)) (λq_'=>Dv t p h xs ys s0 s1 s2 s3 s4 s5 s6 s7 q_' r_∧lx (1,0,0) (5,(8-(5:Int)).toNat,0)) (λr__=>r__=r_):=by
 unfold BP at hI
 unfold AeY
 try unfold DX
 try unfold DY
 try unfold DZ
 try unfold DC
 try unfold BP
 try unfold DD
 try unfold Dy
 try unfold DF
 try unfold Dv
 obtain ⟨h0,rfl,_,_⟩:=hI
 refine ⟨λ_=>⟨by decide, λ_=>⟨λ_=>by decide, λ_=>⟨λ_=>FB hp2, λ_=>⟨λhb=>?_, λ_=>⟨⟨h0,rfl,by decide,by decide⟩,Bo⟩⟩⟩⟩⟩, λh=>(by cases h)⟩
 exfalso
 have e:(IJ t p h xs ys xs.length).a=(AY (Ba xs ys)).map (·.1):=by
  show (AY (lP _ _)).map _=_
  rw [Gv hp1]
 rw [e] at hb
 simp only [iE,bne_iff_ne,ne_eq,decide_eq_true_eq] at hb
 have h:=hp4 5 (by decide) hb.1
 have h:0≤BK ((AY (Ba xs ys)).map (·.1)) s5:=h
 omega
theorem Aiu (t p h:Int) (xs ys:LI) (s0 s1 s2 s3 s4 s5 s6 s7:Int) (hp0:Ac t p h=true) (hp1:xs.length=ys.length) (hp2:xs.length≤999) (hp3:H7 t p h xs ys) (hp4:H8 (AY (Ba xs ys)) [s0,s1,s2,s3,s4,s5,s6,s7]) (hl0:xs.length≤9223372036854775807) (q_:RS) {r_:RS} (hI:BP t p h xs ys s0 s1 s2 s3 s4 s5 s6 s7 q_ (6:Int) r_):AeZ t p h xs ys s0 s1 s2 s3 s4 s5 s6 s7 q_ (λq_'=>DX t p h xs ys s0 s1 s2 s3 s4 s5 s6 s7 q_' r_∧lx (0,0,0) (5,(8-(6:Int)).toNat,0)) (λq_'=>DY t p h xs ys s0 s1 s2 s3 s4 s5 s6 s7 q_' r_∧lx (0,0,0) (5,(8-(6:Int)).toNat,0)) (λq_'=>DZ t p h xs ys s0 s1 s2 s3 s4 s5 s6 s7 q_' r_∧lx (0,0,0) (5,(8-(6:Int)).toNat,0)) (λq_' i_'=>DC t p h xs ys s0 s1 s2 s3 s4 s5 s6 s7 q_' i_' r_∧lx (9,((xs.length:Int)-i_').toNat,0) (5,(8-(6:Int)).toNat,0)) (λq_' i_'=>BP t p h xs ys s0 s1 s2 s3 s4 s5 s6 s7 q_' i_' r_∧lx (5,(8-i_').toNat,0) (5,(8-(6:Int)).toNat,0)) (λq_'=>DD t p h xs ys s0 s1 s2 s3 s4 s5 s6 s7 q_' r_∧lx (4,0,0) (5,(8-(6:Int)).toNat,0)) (λt_' p_' h_' n_' a_' z_' r0_' r1_' r2_' r3_' r4_' r5_' r6_' r7_'=>Dy t p h xs ys s0 s1 s2 s3 s4 s5 s6 s7 t_' p_' h_' n_' a_' z_' r0_' r1_' r2_' r3_' r4_' r5_' r6_' r7_' r_∧lx (3,0,0) (5,(8-(6:Int)).toNat,0)) (λt_' p_' h_' n_' a_' z_' r0_' r1_' r2_' r3_' r4_' r5_' r6_' r7_'=>DF t p h xs ys s0 s1 s2 s3 s4 s5 s6 s7 t_' p_' h_' n_' a_' z_' r0_' r1_' r2_' r3_' r4_' r5_' r6_' r7_' r_∧lx (2,0,0) (5,(8-(6:Int)).toNat,0)) (λq_'=>Dv t p h xs ys s0 s1 s2 s3 s4 s5 s6 s7 q_' r_∧lx (1,0,0) (5,(8-(6:Int)).toNat,0)) (λr__=>r__=r_):=by
 unfold BP at hI
 unfold AeZ
 try unfold DX
 try unfold DY
 try unfold DZ
 try unfold DC
 try unfold BP
 try unfold DD
 try unfold Dy
 try unfold DF
 try unfold Dv
 obtain ⟨h0,rfl,_,_⟩:=hI
 refine ⟨λ_=>⟨by decide, λ_=>⟨λ_=>by decide, λ_=>⟨λ_=>FB hp2, λ_=>⟨λhb=>?_, λ_=>⟨⟨h0,rfl,by decide,by decide⟩,Bo⟩⟩⟩⟩⟩, λh=>(by cases h)⟩
 exfalso
 have e:(IJ t p h xs ys xs.length).a=(AY (Ba xs ys)).map (·.1):=by
  show (AY (lP _ _)).map _=_
  rw [Gv hp1]
 rw [e] at hb
 simp only [iE,bne_iff_ne,ne_eq,decide_eq_true_eq] at hb
 have h:=hp4 6 (by decide) hb.1
 have h:0≤BK ((AY (Ba xs ys)).map (·.1)) s6:=h
 omega
theorem Aiv (t p h:Int) (xs ys:LI) (s0 s1 s2 s3 s4 s5 s6 s7:Int) (hp0:Ac t p h=true) (hp1:xs.length=ys.length) (hp2:xs.length≤999) (hp3:H7 t p h xs ys) (hp4:H8 (AY (Ba xs ys)) [s0,s1,s2,s3,s4,s5,s6,s7]) (hl0:xs.length≤9223372036854775807) (q_:RS) {r_:RS} (hI:BP t p h xs ys s0 s1 s2 s3 s4 s5 s6 s7 q_ (7:Int) r_):Afa t p h xs ys s0 s1 s2 s3 s4 s5 s6 s7 q_ (λq_'=>DX t p h xs ys s0 s1 s2 s3 s4 s5 s6 s7 q_' r_∧lx (0,0,0) (5,(8-(7:Int)).toNat,0)) (λq_'=>DY t p h xs ys s0 s1 s2 s3 s4 s5 s6 s7 q_' r_∧lx (0,0,0) (5,(8-(7:Int)).toNat,0)) (λq_'=>DZ t p h xs ys s0 s1 s2 s3 s4 s5 s6 s7 q_' r_∧lx (0,0,0) (5,(8-(7:Int)).toNat,0)) (λq_' i_'=>DC t p h xs ys s0 s1 s2 s3 s4 s5 s6 s7 q_' i_' r_∧lx (9,((xs.length:Int)-i_').toNat,0) (5,(8-(7:Int)).toNat,0)) (λq_' i_'=>BP t p h xs ys s0 s1 s2 s3 s4 s5 s6 s7 q_' i_' r_∧lx (5,(8-i_').toNat,0) (5,(8-(7:Int)).toNat,0)) (λq_'=>DD t p h xs ys s0 s1 s2 s3 s4 s5 s6 s7 q_' r_∧lx (4,0,0) (5,(8-(7:Int)).toNat,0)) (λt_' p_' h_' n_' a_' z_' r0_' r1_' r2_' r3_' r4_' r5_' r6_' r7_'=>Dy t p h xs ys s0 s1 s2 s3 s4 s5 s6 s7 t_' p_' h_' n_' a_' z_' r0_' r1_' r2_' r3_' r4_' r5_' r6_' r7_' r_∧lx (3,0,0) (5,(8-(7:Int)).toNat,0)) (λt_' p_' h_' n_' a_' z_' r0_' r1_' r2_' r3_' r4_' r5_' r6_' r7_'=>DF t p h xs ys s0 s1 s2 s3 s4 s5 s6 s7 t_' p_' h_' n_' a_' z_' r0_' r1_' r2_' r3_' r4_' r5_' r6_' r7_' r_∧lx (2,0,0) (5,(8-(7:Int)).toNat,0)) (λq_'=>Dv t p h xs ys s0 s1 s2 s3 s4 s5 s6 s7 q_' r_∧lx (1,0,0) (5,(8-(7:Int)).toNat,0)) (λr__=>r__=r_):=by
 unfold BP at hI
 unfold Afa
 try unfold DX
 try unfold DY
 try unfold DZ
 try unfold DC
 try unfold BP
 try unfold DD
 try unfold Dy
 try unfold DF
 try unfold Dv
 obtain ⟨h0,rfl,_,_⟩:=hI
 refine ⟨λ_=>⟨by decide, λ_=>⟨λ_=>by decide, λ_=>⟨λ_=>FB hp2, λ_=>⟨λhb=>?_, λ_=>⟨⟨h0,rfl,by decide,by decide⟩,Bo⟩⟩⟩⟩⟩, λh=>(by cases h)⟩
 exfalso
 have e:(IJ t p h xs ys xs.length).a=(AY (Ba xs ys)).map (·.1):=by
  show (AY (lP _ _)).map _=_
  rw [Gv hp1]
 rw [e] at hb
 simp only [iE,bne_iff_ne,ne_eq,decide_eq_true_eq] at hb
 have h:=hp4 7 (by decide) hb.1
 have h:0≤BK ((AY (Ba xs ys)).map (·.1)) s7:=h
 omega
theorem Aiw (t p h:Int) (xs ys:LI) (s0 s1 s2 s3 s4 s5 s6 s7:Int) (hp0:Ac t p h=true) (hp1:xs.length=ys.length) (hp2:xs.length≤999) (hp3:H7 t p h xs ys) (hp4:H8 (AY (Ba xs ys)) [s0,s1,s2,s3,s4,s5,s6,s7]) (hl0:xs.length≤9223372036854775807) (q_:RS) {r_:RS} (hI:BP t p h xs ys s0 s1 s2 s3 s4 s5 s6 s7 q_ (8:Int) r_):Afb t p h xs ys s0 s1 s2 s3 s4 s5 s6 s7 q_ (λq_'=>DX t p h xs ys s0 s1 s2 s3 s4 s5 s6 s7 q_' r_∧lx (0,0,0) (5,(8-(8:Int)).toNat,0)) (λq_'=>DY t p h xs ys s0 s1 s2 s3 s4 s5 s6 s7 q_' r_∧lx (0,0,0) (5,(8-(8:Int)).toNat,0)) (λq_'=>DZ t p h xs ys s0 s1 s2 s3 s4 s5 s6 s7 q_' r_∧lx (0,0,0) (5,(8-(8:Int)).toNat,0)) (λq_' i_'=>DC t p h xs ys s0 s1 s2 s3 s4 s5 s6 s7 q_' i_' r_∧lx (9,((xs.length:Int)-i_').toNat,0) (5,(8-(8:Int)).toNat,0)) (λq_' i_'=>BP t p h xs ys s0 s1 s2 s3 s4 s5 s6 s7 q_' i_' r_∧lx (5,(8-i_').toNat,0) (5,(8-(8:Int)).toNat,0)) (λq_'=>DD t p h xs ys s0 s1 s2 s3 s4 s5 s6 s7 q_' r_∧lx (4,0,0) (5,(8-(8:Int)).toNat,0)) (λt_' p_' h_' n_' a_' z_' r0_' r1_' r2_' r3_' r4_' r5_' r6_' r7_'=>Dy t p h xs ys s0 s1 s2 s3 s4 s5 s6 s7 t_' p_' h_' n_' a_' z_' r0_' r1_' r2_' r3_' r4_' r5_' r6_' r7_' r_∧lx (3,0,0) (5,(8-(8:Int)).toNat,0)) (λt_' p_' h_' n_' a_' z_' r0_' r1_' r2_' r3_' r4_' r5_' r6_' r7_'=>DF t p h xs ys s0 s1 s2 s3 s4 s5 s6 s7 t_' p_' h_' n_' a_' z_' r0_' r1_' r2_' r3_' r4_' r5_' r6_' r7_' r_∧lx (2,0,0) (5,(8-(8:Int)).toNat,0)) (λq_'=>Dv t p h xs ys s0 s1 s2 s3 s4 s5 s6 s7 q_' r_∧lx (1,0,0) (5,(8-(8:Int)).toNat,0)) (λr__=>r__=r_):=by
 unfold BP at hI
 unfold Afb
 try unfold DX
 try unfold DY
 try unfold DZ
 try unfold DC
 try unfold BP
 try unfold DD
 try unfold Dy
 try unfold DF
 try unfold Dv
 obtain ⟨h0,rfl,_,_⟩:=hI
 exact ⟨λh=>(by cases h), λ_=>⟨⟨h0,rfl⟩,Bo⟩⟩
theorem Amn (t p h:Int) (xs ys:LI) (s0 s1 s2 s3 s4 s5 s6 s7:Int) (hp0:Ac t p h=true) (hp1:xs.length=ys.length) (hp2:xs.length≤999) (hp3:H7 t p h xs ys) (hp4:H8 (AY (Ba xs ys)) [s0,s1,s2,s3,s4,s5,s6,s7]) (hl0:xs.length≤9223372036854775807) (q_:RS) (t_ p_ h_:Int) (n_:Nat) (al_ zl_:LI) (x0_ x1_ x2_ x3_ x4_ x5_ x6_ x7_:Int) {r_:RS} (hI:DD t p h xs ys s0 s1 s2 s3 s4 s5 s6 s7 q_ r_) (hx:Bj ⟨t_,p_,h_,n_,al_,zl_,x0_,x1_,x2_,x3_,x4_,x5_,x6_,x7_⟩ (q_)):AkH t p h xs ys s0 s1 s2 s3 s4 s5 s6 s7 q_ t_ p_ h_ n_ al_ zl_ x0_ x1_ x2_ x3_ x4_ x5_ x6_ x7_ (λt_' p_' h_' n_' a_' z_' r0_' r1_' r2_' r3_' r4_' r5_' r6_' r7_'=>Dy t p h xs ys s0 s1 s2 s3 s4 s5 s6 s7 t_' p_' h_' n_' a_' z_' r0_' r1_' r2_' r3_' r4_' r5_' r6_' r7_' r_∧lx (3,0,0) (4,0,0)):=by
 unfold DD at hI
 unfold AkH
 try unfold DX
 try unfold DY
 try unfold DZ
 try unfold DC
 try unfold BP
 try unfold DD
 try unfold Dy
 try unfold DF
 try unfold Dv
 obtain ⟨h0,rfl⟩:=hI
 exact ⟨⟨h0,hx⟩,Bo⟩
theorem Amo (t p h:Int) (xs ys:LI) (s0 s1 s2 s3 s4 s5 s6 s7:Int) (hp0:Ac t p h=true) (hp1:xs.length=ys.length) (hp2:xs.length≤999) (hp3:H7 t p h xs ys) (hp4:H8 (AY (Ba xs ys)) [s0,s1,s2,s3,s4,s5,s6,s7]) (hl0:xs.length≤9223372036854775807) (t_ p_ h_:Int) (n_:Nat) (a_ z_:LI) (r0_ r1_ r2_ r3_ r4_ r5_ r6_ r7_:Int) {r_:RS} (hI:Dy t p h xs ys s0 s1 s2 s3 s4 s5 s6 s7 t_ p_ h_ n_ a_ z_ r0_ r1_ r2_ r3_ r4_ r5_ r6_ r7_ r_):AkI t p h xs ys s0 s1 s2 s3 s4 s5 s6 s7 t_ p_ h_ n_ a_ z_ r0_ r1_ r2_ r3_ r4_ r5_ r6_ r7_ (λq_'=>DX t p h xs ys s0 s1 s2 s3 s4 s5 s6 s7 q_' r_∧lx (0,0,0) (3,0,0)) (λq_'=>DY t p h xs ys s0 s1 s2 s3 s4 s5 s6 s7 q_' r_∧lx (0,0,0) (3,0,0)) (λq_'=>DZ t p h xs ys s0 s1 s2 s3 s4 s5 s6 s7 q_' r_∧lx (0,0,0) (3,0,0)) (λq_' i_'=>DC t p h xs ys s0 s1 s2 s3 s4 s5 s6 s7 q_' i_' r_∧lx (9,((xs.length:Int)-i_').toNat,0) (3,0,0)) (λq_' i_'=>BP t p h xs ys s0 s1 s2 s3 s4 s5 s6 s7 q_' i_' r_∧lx (5,(8-i_').toNat,0) (3,0,0)) (λq_'=>DD t p h xs ys s0 s1 s2 s3 s4 s5 s6 s7 q_' r_∧lx (4,0,0) (3,0,0)) (λt_' p_' h_' n_' a_' z_' r0_' r1_' r2_' r3_' r4_' r5_' r6_' r7_'=>Dy t p h xs ys s0 s1 s2 s3 s4 s5 s6 s7 t_' p_' h_' n_' a_' z_' r0_' r1_' r2_' r3_' r4_' r5_' r6_' r7_' r_∧lx (3,0,0) (3,0,0)) (λt_' p_' h_' n_' a_' z_' r0_' r1_' r2_' r3_' r4_' r5_' r6_' r7_'=>DF t p h xs ys s0 s1 s2 s3 s4 s5 s6 s7 t_' p_' h_' n_' a_' z_' r0_' r1_' r2_' r3_' r4_' r5_' r6_' r7_' r_∧lx (2,0,0) (3,0,0)) (λq_'=>Dv t p h xs ys s0 s1 s2 s3 s4 s5 s6 s7 q_' r_∧lx (1,0,0) (3,0,0)) (λr__=>r__=r_):=by
 unfold Dy at hI
 unfold AkI
 try unfold DX
 try unfold DY
 try unfold DZ
 try unfold DC
 try unfold BP
 try unfold DD
 try unfold Dy
 try unfold DF
 try unfold Dv
 obtain ⟨h0,hR⟩:=hI
 refine ⟨⟨hR.n,hR.z,?_⟩,Bo⟩
 have hE:=hR.eq
 injection hE with e1 e2 e3 e4 e5 f0 f1 f2 f3 f4 f5 f6 f7
 rw [Gv hp1] at e4 e5
 rw [h0,←e1,←e2,←e3,←e4,←e5];rfl
theorem AbY (t p h:Int) (xs ys:LI) (s0 s1 s2 s3 s4 s5 s6 s7:Int) (hp0:Ac t p h=true) (hp1:xs.length=ys.length) (hp2:xs.length≤999) (hp3:H7 t p h xs ys) (hp4:H8 (AY (Ba xs ys)) [s0,s1,s2,s3,s4,s5,s6,s7]) (hl0:xs.length≤9223372036854775807) (t_ p_ h_:Int) (n_:Nat) (a_ z_:LI) (r0_ r1_ r2_ r3_ r4_ r5_ r6_ r7_:Int) {r_:RS} (hI:DF t p h xs ys s0 s1 s2 s3 s4 s5 s6 s7 t_ p_ h_ n_ a_ z_ r0_ r1_ r2_ r3_ r4_ r5_ r6_ r7_ r_):(Bj ⟨t_,p_,h_,n_,a_,z_,r0_,r1_,r2_,r3_,r4_,r5_,r6_,r7_⟩ ⟨t_,p_,h_,a_,z_,r0_,r1_,r2_,r3_,r4_,r5_,r6_,r7_⟩)∧AdF t p h xs ys s0 s1 s2 s3 s4 s5 s6 s7 t_ p_ h_ n_ a_ z_ r0_ r1_ r2_ r3_ r4_ r5_ r6_ r7_ (λq_'=>Dv t p h xs ys s0 s1 s2 s3 s4 s5 s6 s7 q_' r_∧lx (1,0,0) (2,0,0)):=by
 unfold DF at hI
 unfold AdF
 try unfold DX
 try unfold DY
 try unfold DZ
 try unfold DC
 try unfold BP
 try unfold DD
 try unfold Dy
 try unfold DF
 try unfold Dv
 exact ⟨⟨hI.n,hI.z,rfl⟩,hI.eq,Bo⟩
theorem Amq (t p h:Int) (xs ys:LI) (s0 s1 s2 s3 s4 s5 s6 s7:Int) (hp0:Ac t p h=true) (hp1:xs.length=ys.length) (hp2:xs.length≤999) (hp3:H7 t p h xs ys) (hp4:H8 (AY (Ba xs ys)) [s0,s1,s2,s3,s4,s5,s6,s7]) (hl0:xs.length≤9223372036854775807) (q_:RS) {r_:RS} (hI:Dv t p h xs ys s0 s1 s2 s3 s4 s5 s6 s7 q_ r_):AkJ t p h xs ys s0 s1 s2 s3 s4 s5 s6 s7 q_ (λq_'=>DX t p h xs ys s0 s1 s2 s3 s4 s5 s6 s7 q_' r_∧lx (0,0,0) (1,0,0)) (λq_'=>DY t p h xs ys s0 s1 s2 s3 s4 s5 s6 s7 q_' r_∧lx (0,0,0) (1,0,0)) (λq_'=>DZ t p h xs ys s0 s1 s2 s3 s4 s5 s6 s7 q_' r_∧lx (0,0,0) (1,0,0)) (λq_' i_'=>DC t p h xs ys s0 s1 s2 s3 s4 s5 s6 s7 q_' i_' r_∧lx (9,((xs.length:Int)-i_').toNat,0) (1,0,0)) (λq_' i_'=>BP t p h xs ys s0 s1 s2 s3 s4 s5 s6 s7 q_' i_' r_∧lx (5,(8-i_').toNat,0) (1,0,0)) (λq_'=>DD t p h xs ys s0 s1 s2 s3 s4 s5 s6 s7 q_' r_∧lx (4,0,0) (1,0,0)) (λt_' p_' h_' n_' a_' z_' r0_' r1_' r2_' r3_' r4_' r5_' r6_' r7_'=>Dy t p h xs ys s0 s1 s2 s3 s4 s5 s6 s7 t_' p_' h_' n_' a_' z_' r0_' r1_' r2_' r3_' r4_' r5_' r6_' r7_' r_∧lx (3,0,0) (1,0,0)) (λt_' p_' h_' n_' a_' z_' r0_' r1_' r2_' r3_' r4_' r5_' r6_' r7_'=>DF t p h xs ys s0 s1 s2 s3 s4 s5 s6 s7 t_' p_' h_' n_' a_' z_' r0_' r1_' r2_' r3_' r4_' r5_' r6_' r7_' r_∧lx (2,0,0) (1,0,0)) (λq_'=>Dv t p h xs ys s0 s1 s2 s3 s4 s5 s6 s7 q_' r_∧lx (1,0,0) (1,0,0)) (λr__=>r__=r_):=by
 unfold Dv at hI
 unfold AkJ
 try unfold DX
 try unfold DY
 try unfold DZ
 try unfold DC
 try unfold BP
 try unfold DD
 try unfold Dy
 try unfold DF
 try unfold Dv
 exact hI.symm
theorem Aq5:DV 9 AnF:=
 AgV Dg We (I:=[2434000,93690450000,93740434000,2706000,7826000,2999998,1643000000005,1643000000001,1643000000003,1643000000006,6571000000005,6571000000001,6571000000003,6571000000007]) Try.func9 mix (B:=AP Try.f9) (by kernel_rfl) rfl (by kernel_rfl) 400
  λp0 t p h xs ys s0 s1 s2 s3 s4 s5 s6 s7 hb hp=>have hl0:xs.length≤9223372036854775807:=hb.2.1.1;have hp0:Ac t p h=true:=hp _ (.head _);have hp1:xs.length=ys.length:=hp _ (.tail _ (.head _));have hp2:xs.length≤999:=hp _ (.tail _ (.tail _ (.head _)));have hp3:H7 t p h xs ys:=hp _ (.tail _ (.tail _ (.tail _ (.head _))));have hp4:H8 (AY (Ba xs ys)) [s0,s1,s2,s3,s4,s5,s6,s7]:=hp _ (.tail _ (.tail _ (.tail _ (.tail _ (.head _)))));⟨[AdG p0 t p h xs ys s0 s1 s2 s3 s4 s5 s6 s7,AdH p0 t p h xs ys s0 s1 s2 s3 s4 s5 s6 s7,AdI p0 t p h xs ys s0 s1 s2 s3 s4 s5 s6 s7,AdJ p0 t p h xs ys s0 s1 s2 s3 s4 s5 s6 s7,AdK p0 t p h xs ys s0 s1 s2 s3 s4 s5 s6 s7,AdL p0 t p h xs ys s0 s1 s2 s3 s4 s5 s6 s7,AdM p0 t p h xs ys s0 s1 s2 s3 s4 s5 s6 s7,AdN p0 t p h xs ys s0 s1 s2 s3 s4 s5 s6 s7,AdO p0 t p h xs ys s0 s1 s2 s3 s4 s5 s6 s7],[.run, .run, .run, .run, .run, .opn ⟨CW,Bq⟩ 0 (λad=>(ad 0).b) 6, .run, .cls ⟨CW,Bq⟩ (λad=>(ad 0).b) (λad i=>ad (i+1)) 8, .run], λj=>iN [Ag (Hd.kd (AdG p0 t p h xs ys s0 s1 s2 s3 s4 s5 s6 s7)) (λq_'=>DX t p h xs ys s0 s1 s2 s3 s4 s5 s6 s7 q_' (Iw t p h xs ys s0 s1 s2 s3 s4 s5 s6 s7)),Ag (Hd.kd (AdH p0 t p h xs ys s0 s1 s2 s3 s4 s5 s6 s7)) (λq_'=>DY t p h xs ys s0 s1 s2 s3 s4 s5 s6 s7 q_' (Iw t p h xs ys s0 s1 s2 s3 s4 s5 s6 s7)),Ag (Hd.kd (AdI p0 t p h xs ys s0 s1 s2 s3 s4 s5 s6 s7)) (λq_'=>DZ t p h xs ys s0 s1 s2 s3 s4 s5 s6 s7 q_' (Iw t p h xs ys s0 s1 s2 s3 s4 s5 s6 s7)),Ag (Hd.kd (AdJ p0 t p h xs ys s0 s1 s2 s3 s4 s5 s6 s7)) (λq_' i_'=>DC t p h xs ys s0 s1 s2 s3 s4 s5 s6 s7 q_' i_' (Iw t p h xs ys s0 s1 s2 s3 s4 s5 s6 s7)),Ag (Hd.kd (AdK p0 t p h xs ys s0 s1 s2 s3 s4 s5 s6 s7)) (λq_' i_'=>BP t p h xs ys s0 s1 s2 s3 s4 s5 s6 s7 q_' i_' (Iw t p h xs ys s0 s1 s2 s3 s4 s5 s6 s7)),Ag (Hd.kd (AdL p0 t p h xs ys s0 s1 s2 s3 s4 s5 s6 s7)) (λq_'=>DD t p h xs ys s0 s1 s2 s3 s4 s5 s6 s7 q_' (Iw t p h xs ys s0 s1 s2 s3 s4 s5 s6 s7)),Ag (Hd.kd (AdM p0 t p h xs ys s0 s1 s2 s3 s4 s5 s6 s7)) (λt_' p_' h_' n_' a_' z_' r0_' r1_' r2_' r3_' r4_' r5_' r6_' r7_'=>Dy t p h xs ys s0 s1 s2 s3 s4 s5 s6 s7 t_' p_' h_' n_' a_' z_' r0_' r1_' r2_' r3_' r4_' r5_' r6_' r7_' (Iw t p h xs ys s0 s1 s2 s3 s4 s5 s6 s7)),Ag (Hd.kd (AdN p0 t p h xs ys s0 s1 s2 s3 s4 s5 s6 s7)) (λt_' p_' h_' n_' a_' z_' r0_' r1_' r2_' r3_' r4_' r5_' r6_' r7_'=>DF t p h xs ys s0 s1 s2 s3 s4 s5 s6 s7 t_' p_' h_' n_' a_' z_' r0_' r1_' r2_' r3_' r4_' r5_' r6_' r7_' (Iw t p h xs ys s0 s1 s2 s3 s4 s5 s6 s7)),Ag (Hd.kd (AdO p0 t p h xs ys s0 s1 s2 s3 s4 s5 s6 s7)) (λq_'=>Dv t p h xs ys s0 s1 s2 s3 s4 s5 s6 s7 q_' (Iw t p h xs ys s0 s1 s2 s3 s4 s5 s6 s7))] j (λ_=>False), λj=>iN [Ag (Hd.kd (AdG p0 t p h xs ys s0 s1 s2 s3 s4 s5 s6 s7)) (λq_'=>(0,0,0)),Ag (Hd.kd (AdH p0 t p h xs ys s0 s1 s2 s3 s4 s5 s6 s7)) (λq_'=>(0,0,0)),Ag (Hd.kd (AdI p0 t p h xs ys s0 s1 s2 s3 s4 s5 s6 s7)) (λq_'=>(0,0,0)),Ag (Hd.kd (AdJ p0 t p h xs ys s0 s1 s2 s3 s4 s5 s6 s7)) (λq_' i_'=>(9,((xs.length:Int)-i_').toNat,0)),Ag (Hd.kd (AdK p0 t p h xs ys s0 s1 s2 s3 s4 s5 s6 s7)) (λq_' i_'=>(5,(8-i_').toNat,0)),Ag (Hd.kd (AdL p0 t p h xs ys s0 s1 s2 s3 s4 s5 s6 s7)) (λq_'=>(4,0,0)),Ag (Hd.kd (AdM p0 t p h xs ys s0 s1 s2 s3 s4 s5 s6 s7)) (λt_' p_' h_' n_' a_' z_' r0_' r1_' r2_' r3_' r4_' r5_' r6_' r7_'=>(3,0,0)),Ag (Hd.kd (AdN p0 t p h xs ys s0 s1 s2 s3 s4 s5 s6 s7)) (λt_' p_' h_' n_' a_' z_' r0_' r1_' r2_' r3_' r4_' r5_' r6_' r7_'=>(2,0,0)),Ag (Hd.kd (AdO p0 t p h xs ys s0 s1 s2 s3 s4 s5 s6 s7)) (λq_'=>(1,0,0))] j (λ_=>(0,0,0)),by kernel_rfl,⟨_, λ_ _ _=>by kernel_rfl,Aml t p h xs ys s0 s1 s2 s3 s4 s5 s6 s7 hp0 hp1 hp2 hp3 hp4 hl0⟩,⟨λq_ hI=>False.elim hI,⟨λq_ hI=>False.elim hI,⟨λq_ hI=>False.elim hI,⟨λq_ i_ hI=>⟨_, λ_ _ _=>by kernel_rfl,Amm t p h xs ys s0 s1 s2 s3 s4 s5 s6 s7 hp0 hp1 hp2 hp3 hp4 hl0 q_ i_ hI⟩,⟨λq_ i_ hI=>(by
   rcases AoX t p h xs ys s0 s1 s2 s3 s4 s5 s6 s7 hp0 hp1 hp2 hp3 hp4 hl0 q_ i_ hI with rfl|rfl|rfl|rfl|rfl|rfl|rfl|rfl|rfl
   ·exact ⟨_, λ_ _ _=>by kernel_rfl,Aio t p h xs ys s0 s1 s2 s3 s4 s5 s6 s7 hp0 hp1 hp2 hp3 hp4 hl0 q_ hI⟩
   ·exact ⟨_, λ_ _ _=>by kernel_rfl,Aip t p h xs ys s0 s1 s2 s3 s4 s5 s6 s7 hp0 hp1 hp2 hp3 hp4 hl0 q_ hI⟩
   ·exact ⟨_, λ_ _ _=>by kernel_rfl,Aiq t p h xs ys s0 s1 s2 s3 s4 s5 s6 s7 hp0 hp1 hp2 hp3 hp4 hl0 q_ hI⟩
   ·exact ⟨_, λ_ _ _=>by kernel_rfl,Air t p h xs ys s0 s1 s2 s3 s4 s5 s6 s7 hp0 hp1 hp2 hp3 hp4 hl0 q_ hI⟩
   ·exact ⟨_, λ_ _ _=>by kernel_rfl,Ais t p h xs ys s0 s1 s2 s3 s4 s5 s6 s7 hp0 hp1 hp2 hp3 hp4 hl0 q_ hI⟩
   ·exact ⟨_, λ_ _ _=>by kernel_rfl,Ait t p h xs ys s0 s1 s2 s3 s4 s5 s6 s7 hp0 hp1 hp2 hp3 hp4 hl0 q_ hI⟩
   ·exact ⟨_, λ_ _ _=>by kernel_rfl,Aiu t p h xs ys s0 s1 s2 s3 s4 s5 s6 s7 hp0 hp1 hp2 hp3 hp4 hl0 q_ hI⟩
   ·exact ⟨_, λ_ _ _=>by kernel_rfl,Aiv t p h xs ys s0 s1 s2 s3 s4 s5 s6 s7 hp0 hp1 hp2 hp3 hp4 hl0 q_ hI⟩
   ·exact ⟨_, λ_ _ _=>by kernel_rfl,Aiw t p h xs ys s0 s1 s2 s3 s4 s5 s6 s7 hp0 hp1 hp2 hp3 hp4 hl0 q_ hI⟩),⟨⟨Ik, λq_ hI=>⟨q_, λ_=>by kernel_rfl, λt_ p_ h_ n_ al_ zl_ x0_ x1_ x2_ x3_ x4_ x5_ x6_ x7_ hx=>⟨_, λ_ _=>by kernel_rfl,Amn t p h xs ys s0 s1 s2 s3 s4 s5 s6 s7 hp0 hp1 hp2 hp3 hp4 hl0 q_ t_ p_ h_ n_ al_ zl_ x0_ x1_ x2_ x3_ x4_ x5_ x6_ x7_ hI hx⟩⟩⟩,⟨λt_ p_ h_ n_ a_ z_ r0_ r1_ r2_ r3_ r4_ r5_ r6_ r7_ hI=>⟨_, λ_ _ _=>by kernel_rfl,Amo t p h xs ys s0 s1 s2 s3 s4 s5 s6 s7 hp0 hp1 hp2 hp3 hp4 hl0 t_ p_ h_ n_ a_ z_ r0_ r1_ r2_ r3_ r4_ r5_ r6_ r7_ hI⟩,⟨⟨Ik, λt_ p_ h_ n_ a_ z_ r0_ r1_ r2_ r3_ r4_ r5_ r6_ r7_ hI=>⟨⟨t_,p_,h_,a_,z_,r0_,r1_,r2_,r3_,r4_,r5_,r6_,r7_⟩,AdF t p h xs ys s0 s1 s2 s3 s4 s5 s6 s7 t_ p_ h_ n_ a_ z_ r0_ r1_ r2_ r3_ r4_ r5_ r6_ r7_ (λq_'=>Dv t p h xs ys s0 s1 s2 s3 s4 s5 s6 s7 q_' (Iw t p h xs ys s0 s1 s2 s3 s4 s5 s6 s7)∧lx (1,0,0) (2,0,0)),(AbY t p h xs ys s0 s1 s2 s3 s4 s5 s6 s7 hp0 hp1 hp2 hp3 hp4 hl0 t_ p_ h_ n_ a_ z_ r0_ r1_ r2_ r3_ r4_ r5_ r6_ r7_ hI).1, λ_=>by kernel_rfl,(AbY t p h xs ys s0 s1 s2 s3 s4 s5 s6 s7 hp0 hp1 hp2 hp3 hp4 hl0 t_ p_ h_ n_ a_ z_ r0_ r1_ r2_ r3_ r4_ r5_ r6_ r7_ hI).2⟩⟩,⟨λq_ hI=>⟨_, λ_ _ _=>by kernel_rfl,Amq t p h xs ys s0 s1 s2 s3 s4 s5 s6 s7 hp0 hp1 hp2 hp3 hp4 hl0 q_ hI⟩,trivial⟩⟩⟩⟩⟩⟩⟩⟩⟩⟩
def AnH:Tb:=(9,AnF)::AeR
theorem AnI:D7 AnH:=Ea Aq5 We
end
section
open Go Go.Sl
abbrev LL:=List (LI)
abbrev BB:=Int×Int
abbrev Yf:=LL→BB→LL
abbrev It:=Option (Nat×List BB×List BB)
def J6 (A:LL→CZ) (b:Nat) (l:List BB) (it:It) (q2:Addr) (bb:Nat) (st:LL):List (Chunk Sg):=[.bm b l it, .obj q2 (.any A st), .cells bb 58 [(.map (some b), .pt 0 .map)]]
def kyN (A:LL→CZ) (b:Nat) (l:List BB) (q2:Addr) (bb lr:Nat) (I:LL→List BB→Prop) (v0 v1:Value) (x:BB) (K:List (Chunk Sg)) (st:LL):Prop:=
 v0= .func (.yield lr) #[] #[]∧v1=EQ x∧∃i cu re,K=J6 A b l (some (i,cu,re)) q2 bb st∧I st (x::re)
def OY (A:LL→CZ) (b:Nat) (l:List BB) (q2:Addr) (bb lr:Nat) (I:LL→List BB→Prop) (yf:Yf):List (Value×Pr)→List (Chunk Sg)→Option (Tree Sg)
 |[(v0,_),(.agg ⟨[.int k1 x, .int k2 y]⟩,_)], .bm b' l' it':: .obj q3 (.any A' st)::c3::X=>some (.need (kyN A b l q2 bb lr I v0 (.agg ⟨[.int k1 x, .int k2 y]⟩) (x,y) [.bm b' l' it', .obj q3 (.any A' st),c3] st) (.bind (yf st (x,y)) λr=> .ret (.bool true) .no (.bm b' l' it':: .obj q3 (.any A' r)::c3::X.map λ_=> .dead)))
 |_,_=>none
def kyL (lr bb i:Nat):List Ak:=[⟨5,none, .pointer (some ⟨i,0,none⟩), .pt 0 .iter⟩,⟨0,none, .func (.yield lr) #[] #[], .no⟩,⟨1,none, .pointer (some ⟨bb,0,none⟩), .pt 2 (.cell 0)⟩]
theorem AoY (R':Value→Pr→List (Chunk Sg)→Prop) (S0:List Ab→Option Ak→Option Ak→Option Ak→List (Chunk Sg)→Prop) (A:LL→CZ) (b:Nat) (l:List BB) (q2:Addr) (bb lr:Nat) (I:LL→List BB→Prop) (yf:Yf) (st:LL):
 (Ey Try.prog Jk (OY A b l q2 bb lr I yf) [2999998,2999996] 60 (AP Try.f69) Try.f69.results.toList Try.f69.ntmps [.code []] (En 0 [(.func (.yield lr) #[] #[], .no),(.pointer (some ⟨bb,0,none⟩), .pt 2 (.cell 0))]) (J6 A b l none q2 bb st)).holds R' (λtd L K=>S0 td (Sl.look L 5) (Sl.look L 0) (Sl.look L 1) K)=
 (∀b0_0:Nat,(S0 ([Ab.code [0,1],Ab.blk 0]) (some ⟨5,none,kA (some ⟨b0_0,0,none⟩),lG 0 PK.iter⟩) (some ⟨0,none,lX (Fn.yield lr) ⟨[]⟩ ⟨[]⟩,kG⟩) (some ⟨1,none,kA (some ⟨bb,0,none⟩),lG 2 (nW 0)⟩) ([kX b l (some (b0_0,[],l)),kR q2 (Sg.any A st),jG bb 58 [(lC (some b),lG 0 mR)]]))):=by
 kernel_rfl
theorem AkK (R':Value→Pr→List (Chunk Sg)→Prop) (S0:List Ab→Option Ak→Option Ak→Option Ak→List (Chunk Sg)→Prop) (A:LL→CZ) (b:Nat) (l:List BB) (q2:Addr) (bb lr i:Nat) (I:LL→List BB→Prop) (yf:Yf) (cu re:List BB) (st:LL):
 (Ey Try.prog Jk (OY A b l q2 bb lr I yf) [2999998,2999996] 60 (AP Try.f69) Try.f69.results.toList Try.f69.ntmps [.code [0,0,1], .again [0,1], .blk 0] (kyL lr bb i) (J6 A b l (some (i,cu,re)) q2 bb st)).holds R' (λtd L K=>S0 td (Sl.look L 5) (Sl.look L 0) (Sl.look L 1) K)=
 (AV (PV re) (AV (false) (Ap (Ry cu=true) (∀b3_0:Nat,(Ap (kyN A b l q2 bb lr I (lX (Fn.yield lr) ⟨[]⟩ ⟨[]⟩) (Value.agg ⟨[iX iB (kM (hdB cu)),iX iB (mI (hdB cu))]⟩) (kM (hdB cu),mI (hdB cu)) [kX b l (some (i,cu,re)),kR q2 (Sg.any A st),jG bb 58 [(lC (some b),lG 0 mR)]] st) (∀r5:List (LI),r5=(yf st (kM (hdB cu),mI (hdB cu)))→(AV (false) (R' (oP ⟨[]⟩) (kG) ([kX b l (some (i,cu,re)),kR q2 (Sg.any A r5),jG bb 58 [(lC (some b),lG 0 mR)],oN])) (S0 ([Ab.again [0,1],Ab.blk 0]) (some ⟨5,none,kA (some ⟨i,0,none⟩),lG 0 PK.iter⟩) (some ⟨0,none,lX (Fn.yield lr) ⟨[]⟩ ⟨[]⟩,kG⟩) (some ⟨1,none,kA (some ⟨bb,0,none⟩),lG 2 (nW 0)⟩) ([kX b l (some (i,cu,re)),kR q2 (Sg.any A r5),jG bb 58 [(lC (some b),lG 0 mR)],oN]))))))) (R' (oP ⟨[]⟩) (kG) ([kX b l (some (i,cu,re)),kR q2 (Sg.any A st),jG bb 58 [(lC (some b),lG 0 mR)]]))) (∀b1_0:Nat,(AV (true) (Ap (Ry [Dq re b1_0]=true) (∀b4_0:Nat,(Ap (kyN A b l q2 bb lr I (lX (Fn.yield lr) ⟨[]⟩ ⟨[]⟩) (Value.agg ⟨[iX iB (kM (hdB [Dq re b1_0])),iX iB (mI (hdB [Dq re b1_0]))]⟩) (kM (hdB [Dq re b1_0]),mI (hdB [Dq re b1_0])) [kX b l (some (i,[Dq re b1_0],Hf re b1_0)),kR q2 (Sg.any A st),jG bb 58 [(lC (some b),lG 0 mR)]] st) (∀r6:List (LI),r6=(yf st (kM (hdB [Dq re b1_0]),mI (hdB [Dq re b1_0])))→(AV (false) (R' (oP ⟨[]⟩) (kG) ([kX b l (some (i,[Dq re b1_0],Hf re b1_0)),kR q2 (Sg.any A r6),jG bb 58 [(lC (some b),lG 0 mR)],oN])) (S0 ([Ab.again [0,1],Ab.blk 0]) (some ⟨5,none,kA (some ⟨i,0,none⟩),lG 0 PK.iter⟩) (some ⟨0,none,lX (Fn.yield lr) ⟨[]⟩ ⟨[]⟩,kG⟩) (some ⟨1,none,kA (some ⟨bb,0,none⟩),lG 2 (nW 0)⟩) ([kX b l (some (i,[Dq re b1_0],Hf re b1_0)),kR q2 (Sg.any A r6),jG bb 58 [(lC (some b),lG 0 mR)],oN]))))))) (R' (oP ⟨[]⟩) (kG) ([kX b l (some (i,[Dq re b1_0],Hf re b1_0)),kR q2 (Sg.any A st),jG bb 58 [(lC (some b),lG 0 mR)]]))))):=by
 kernel_rfl
theorem AbZ {α:Type}:∀{l:List α} {i:Nat} (h:i<l.length),l.Perm (l[i]::l.eraseIdx i)
 |x::l,0,_=>oH _
 |x::l,i+1,h=>by
  have:=AbZ (l:=l) (i:=i) (by simpa using h)
  show (x::l).Perm ((l[i]'(by simpa using h))::x::l.eraseIdx i)
  exact (List.Perm.cons x this).trans (List.Perm.swap _ _ _)
theorem AnJ {r:List BB} (h:PV r=false) (n:Nat):r.Perm (Dq r n::Hf r n):=by
 have hl:0<r.length:=by cases r with|nil=>cases h|cons _ _=>simp
 have hlt:n%r.length<r.length:=mB _ hl
 have e:Dq r n=r[n%r.length]:=by unfold Dq;rw [iC,iK hlt];rfl
 rw [e];exact AbZ hlt
def Amr (E:Ev) (G:Hp) (A:LL→CZ) (b:Nat) (l:List BB) (q2:Addr) (bb lr:Nat) (I:LL→List BB→Prop) (yf:Yf):Prop:=
 ∀st x re it,I st (x::re)→∀w,Af Dg E G w (J6 A b l it q2 bb st)→Qy Try.prog lr #[EQ x] w λen w'=>en= .returned (.bool true)∧Af Dg E G w' (J6 A b l it q2 bb (yf st x))
theorem Aix {A:LL→CZ} {b:Nat} {l:List BB} {it:It} {q2:Addr} {bb:Nat} (st:LL):Dz (J6 A b l it q2 bb st):=
 QE (by simp [J6,cellsAll,AQ,BH,DJ])
theorem AnK {K X:List (Chunk Sg)} (h:Dz K):Dz (K++X.map λ_=>oN):=h.append λb t cs hm=>by
 obtain ⟨_,_,e⟩:=kN.1 hm
 cases e
theorem Wh {E:Ev} {G:Hp} {A:LL→CZ} {b:Nat} {l:List BB} {q2:Addr} {bb lr:Nat} {I:LL→List BB→Prop} {yf:Yf} (h:Amr E G A b l q2 bb lr I yf):AmU Dg Try.prog (OY A b l q2 bb lr I yf) E G:=by
 intro args prs K t ht w hps hk hS Q hQ l' av hav
 have hz:=(Ac4 hps).2
 generalize hzz:lI args prs=z at ht hz
 unfold OY at ht
 split at ht
 ·rename_i v0 p0 k1 x k2 y p2 b' l1 it' q3 A' st c3 X
  injection ht with ht;subst ht
  obtain ⟨⟨h0,h1,i,cu,re,h3,h4⟩,hb⟩:=hQ
  have hq:=hb ⟨h0,h1,i,cu,re,h3,h4⟩ _ rfl
  simp only [iD,kD] at hz
  subst hz
  unfold EQ at h1
  simp only [Value.agg.injEq] at h1
  have h1:=congrArg Array.toList h1
  simp only [jZ,Value.int.injEq,and_true] at h1
  obtain ⟨rfl,rfl⟩:=h1
  subst h0
  rw [J6,jZ,jZ,jZ] at h3
  obtain ⟨e1,e2,e3,_⟩:=h3
  injection e1 with e1 e5 e6;subst e1;subst e5;subst e6
  injection e2 with e2 e4;subst e2
  injection e4 with e4 _;subst e4
  subst e3
  have ha:l'=lr∧av= #[EQ (x,y)]:=by
   have:=congrArg Array.toList hav
   simp only [oA,jX,nI,jZ] at this
   obtain ⟨e5,e6⟩:=this
   injection e5 with e5 _ _
   injection e5 with e5
   exact ⟨e5.symm,by apply Array.toList_inj.1;exact e6.symm⟩
  obtain ⟨rfl,rfl⟩:=ha
  have hS0:Af Dg E G w (J6 A' b' l1 (some (i,cu,re)) q3 bb st):=Af.order Dg hS [0,1,2] rfl rfl
  obtain ⟨fn,tmps,assign,body,g1,g2⟩:=h st (x,y) re _ h4 w hS0
  refine ⟨fn,tmps,assign,body,g1, λcs hcs=>?_⟩
  obtain ⟨e,w',S,⟨g3,g4⟩,g5⟩:=g2 cs hcs
  refine ⟨e,w',S,⟨_,_,_,g3,hq,?_,AnK (X:=X) (Aix (yf st (x,y))),A8,?_⟩,g5⟩
  ·intro k c hk
   match k,hk with
   |0,hk=>exact ⟨_,rfl, λv pk hv=>by injection hk with hk;subst hk;exact hv⟩
   |1,hk=>exact ⟨_,rfl, λv pk hv=>by injection hk with hk;subst hk;cases pk<;>first|exact hv|exact hv.elim⟩
   |2,hk=>exact ⟨_,rfl, λv pk hv=>by injection hk with hk;subst hk;exact hv⟩
   |k+3,hk=>
    refine ⟨.dead,?_, λv pk hv=>trivial⟩
    have hlt:=BD hk
    simp only [jJ] at hlt
    simp only [kO,iM]
    rw [iK (by omega)];rfl
  ·show Af Dg E G w' (J6 A' b' l1 (some (i,cu,re)) q3 bb (yf st (x,y))++X.map λ_=> .dead)
   exact Af.Aso Dg g4 X
 ·cases ht
section
variable {yf:Yf} {A:LL→CZ} {b:Nat} {l:List BB} {q2:Addr} {bb lr:Nat} {E:Ev} {G:Hp} {I:LL→List BB→Prop}
abbrev Z5:FuncId:=69
noncomputable abbrev kyB:Code:=AP Try.f69
noncomputable abbrev kyM:Nat:=Try.f69.ntmps
theorem ArD {L:List Ak} {K:List (Chunk Sg)} {i:Nat} (e5:Sl.look L 5=some ⟨5,none, .pointer (some ⟨i,0,none⟩), .pt 0 .iter⟩) (e0:Sl.look L 0=some ⟨0,none, .func (.yield lr) #[] #[], .no⟩) (e1:Sl.look L 1=some ⟨1,none, .pointer (some ⟨bb,0,none⟩), .pt 2 (.cell 0)⟩) (h5:BH K (.pointer (some ⟨i,0,none⟩)) (.pt 0 .iter)) (h1:BH K (.pointer (some ⟨bb,0,none⟩)) (.pt 2 (.cell 0))):∀e∈kyL lr bb i,AgX L K e:= λe he=>by
 simp only [kyL,iG,jF,or_false] at he
 rcases he with rfl|rfl|rfl
 ·exact ⟨rfl,⟨_,(Dp e5).1⟩,h5⟩
 ·exact ⟨rfl,⟨_,(Dp e0).1⟩,A8⟩
 ·exact ⟨rfl,⟨_,(Dp e1).1⟩,h1⟩
def kyS (A:LL→CZ) (b:Nat) (l:List BB) (q2:Addr) (bb lr:Nat) (E:Ev) (G:Hp) (R:Ending→World→Prop) (td:List Ab) (e5 e0 e1:Option Ak) (K:List (Chunk Sg)):Prop:=
 ∃i cu re st c,td=[.again [0,1], .blk 0]∧e5=some ⟨5,none, .pointer (some ⟨i,0,none⟩), .pt 0 .iter⟩∧e0=some ⟨0,none, .func (.yield lr) #[] #[], .no⟩∧e1=some ⟨1,none, .pointer (some ⟨bb,0,none⟩), .pt 2 (.cell 0)⟩∧K=J6 A b l (some (i,cu,re)) q2 bb st++[c]∧
  Sl.SW Dg Try.prog Z5 R kyB kyM E G [.code [0,0,1], .again [0,1], .blk 0] (kyL lr bb i) (J6 A b l (some (i,cu,re)) q2 bb st)
theorem ArE {R:Ending→World→Prop} {td:List Ab} {L:List Ak} {K:List (Chunk Sg)} (h:kyS A b l q2 bb lr E G R td (Sl.look L 5) (Sl.look L 0) (Sl.look L 1) K):Sl.SW Dg Try.prog Z5 R kyB kyM E G td L K:=by
 obtain ⟨i,cu,re,st,c,rfl,e5,e0,e1,rfl,hsw⟩:=h
 refine Sl.SW.re Dg (α:=Unit) (L':=kyL lr bb i) (Kf:= λ_=>J6 A b l (some (i,cu,re)) q2 bb st) (λw hS=>⟨(),Af.order Dg hS [0,1,2] rfl rfl⟩) (λ_=>Aix st) (λ_=>ArD e5 e0 e1 (Bg.2 ⟨_,rfl,rfl⟩) (Bg.2 ⟨_,rfl,rfl⟩)) λ_=>Sl.SW.again Dg hsw
theorem Asr (hY:Amr E G A b l q2 bb lr I yf) (hI:∀st x re,I st (x::re)→I (yf st x) re) (hP:∀st re re',re.Perm re'→I st re→I st re') {R:Ending→World→Prop} (hR:∀st v w',I st []→Af Dg E G w' (J6 A b l none q2 bb st)→R (.returned v) w') (i:Nat):∀(k:Nat) (re cu:List BB) (st:LL),re.length=k→I st re→
 Sl.SW Dg Try.prog Z5 R kyB kyM E G [.code [0,0,1], .again [0,1], .blk 0] (kyL lr bb i) (J6 A b l (some (i,cu,re)) q2 bb st):=by
 intro k
 induction k with
 |zero=>
  intro re cu st hk h0
  have:re=[]:=nE hk
  subst this
  refine NY Dg FH (Y:=OY A b l q2 bb lr I yf) (I:=[2999998,2999996]) mix 60 (f:=Z5) (Wh hY) (.inl ⟨rfl,Try.f69,Try.func69,rfl⟩) (Q:= λ_=>True) (λ_ _ _ _=>trivial)
   (R':= λv p K=>K=J6 A b l (some (i,cu,[])) q2 bb st) (λv p K w h _ _ _ hS=>hR st v w h0 (by rw [h] at hS;exact Af.Asp Dg hS)) _ _ _ trivial ?_
  refine AgZ (AkK (λv p K=>K=J6 A b l (some (i,cu,[])) q2 bb st) (λ_ _ _ _ _=>False) A b l q2 bb lr i I yf cu [] st) (λtd L K (h:False)=>h.elim) ⟨λ_=>⟨λh=>(by cases h), λ_=>rfl⟩, λh=>(by cases h)⟩
 |succ k ih=>
  intro re cu st hk h0
  have hne:PV re=false:=by cases re with|nil=>cases hk|cons _ _=>rfl
  refine NY Dg FH (Y:=OY A b l q2 bb lr I yf) (I:=[2999998,2999996]) mix 60 (f:=Z5) (Wh hY) (.inl ⟨rfl,Try.f69,Try.func69,rfl⟩) (Q:= λ_=>True) (λ_ _ _ _=>trivial)
   (R':= λ_ _ _=>False) (λv p K w h _ _ _ hS=>h.elim) _ _ _ trivial ?_
  refine AgZ (AkK (λv p K=>False) (kyS A b l q2 bb lr E G R) A b l q2 bb lr i I yf cu re st) (λtd L K h=>ArE h) ⟨λh=>(by rw [hne] at h;cases h), λ_ n=>⟨λ_=>⟨rfl, λ_ b4=>?_⟩, λh=>(by cases h)⟩⟩
  have hp:re.Perm (Dq re n::Hf re n):=AnJ hne n
  have h1:I st (Dq re n::Hf re n):=hP st re _ hp h0
  refine ⟨⟨rfl,rfl,i,[Dq re n],Hf re n,rfl,h1⟩, λ_ r hr=>?_⟩
  subst hr
  refine ⟨λh=>(by cases h), λ_=>⟨i,[Dq re n],Hf re n,yf st (Dq re n), .dead,rfl,rfl,rfl,rfl,rfl,?_⟩⟩
  refine ih _ _ _ ?_ (hI _ _ _ h1)
  have:=hp.length_eq
  simp only [jJ] at this
  omega
set_option maxRecDepth 100000 in
theorem AoZ (hY:Amr E G A b l q2 bb lr I yf) (hI:∀st x re,I st (x::re)→I (yf st x) re) (hP:∀st re re',re.Perm re'→I st re→I st re') {R:Ending→World→Prop} {w:World} {st:LL} (hS:Af Dg E G w (J6 A b l none q2 bb st)) (h0:I st l)
 (hR:∀st v w',I st []→Af Dg E G w' (J6 A b l none q2 bb st)→R (.returned v) w'):
 Calls Try.prog Z5 #[.func (.yield lr) #[] #[], .pointer (some ⟨bb,0,none⟩)] w R:=by
 refine Ju Try.func69 (c:=kyB) (by kernel_rfl) ?_
 have hgo:=NY Dg FH (Y:=OY A b l q2 bb lr I yf) (I:=[2999998,2999996]) mix 60 (f:=Z5) (rs:=Try.f69.results.toList) (B:=kyB) (R:=R) (n:=kyM) (E:=E) (G:=G) (Wh hY) (.inl ⟨rfl,Try.f69,Try.func69,rfl⟩) (Q:= λ_=>True) (λ_ _ _ _=>trivial)
  (R':= λ_ _ _=>False) (λ_ _ _ _ h=>h.elim) [.code []] (En 0 [(.func (.yield lr) #[] #[], .no),(.pointer (some ⟨bb,0,none⟩), .pt 2 (.cell 0))]) (J6 A b l none q2 bb st) trivial ?_
 ·exact hgo _ w (Fr.start (n:=kyM) [(.func (.yield lr) #[] #[], .no),(.pointer (some ⟨bb,0,none⟩), .pt 2 (.cell 0))] (iQ (by kernel_rfl)) (λx hx=>by
   simp only [iG,jF,or_false] at hx
   rcases hx with rfl|rfl
   ·exact A8
   ·exact Bg.2 ⟨_,rfl,rfl⟩) (Aix st)) hS
 ·refine AgZ (AoY (λ_ _ _=>False) (λtd e5 e0 e1 K=>∃i,td=[.code [0,1], .blk 0]∧e5=some ⟨5,none, .pointer (some ⟨i,0,none⟩), .pt 0 .iter⟩∧e0=some ⟨0,none, .func (.yield lr) #[] #[], .no⟩∧e1=some ⟨1,none, .pointer (some ⟨bb,0,none⟩), .pt 2 (.cell 0)⟩∧K=J6 A b l (some (i,[],l)) q2 bb st) A b l q2 bb lr I yf st) (λtd L K h=>?_) (λi=>⟨i,rfl,rfl,rfl,rfl,rfl⟩)
  obtain ⟨i,rfl,e5,e0,e1,rfl⟩:=h
  refine Sl.SW.sub Dg (L':=kyL lr bb i) (Sl.SW.enter Dg (by kernel_rfl) (Asr hY hI hP hR i l.length l [] st rfl h0)) λe he=>?_
  simp only [kyL,iG,jF,or_false] at he
  rcases he with rfl|rfl|rfl
  ·exact (Dp e5).1
  ·exact (Dp e0).1
  ·exact (Dp e1).1
end
end
section
open Go Go.Sl
def k0 (b:Nat) (l:List BB) (bb:Nat) (q0:Addr) (s0:Sg):List (Chunk Sg):=[.bm b l none, .cells bb 58 [(.map (some b), .pt 0 .map)], .obj q0 s0]
abbrev KZ (bb:Nat):Value:= .func (.func 69) #[] #[.pointer (some ⟨bb,0,none⟩)]
theorem Apa (R':Value→Pr→List (Chunk Sg)→Prop) (S0:List Ab→Option Ak→Option Ak→List (Chunk Sg)→Prop) (b:Nat) (l:List BB) (bb:Nat) (q0:Addr) (s0:Sg):
 (run Try.prog Jk [2999998] 60 (AP Try.f82) Try.f82.results.toList Try.f82.ntmps [.code []] (En 0 [(.slice none 0 0, .no),(KZ bb, .many [.pt 1 (.cell 0)])]) (k0 b l bb q0 s0)).holds R' (λtd L K=>S0 td (Sl.look L 2) (Sl.look L 6) K)=
 (∀b0_0:Nat,(S0 ([Ab.code [0,1,0,1],Ab.blk 0,Ab.code [1,1]]) (some ⟨2,none,kA (some ⟨b0_0,0,none⟩),lG 3 (nW 0)⟩) (some ⟨6,none,lX (Fn.func 69) ⟨[]⟩ ⟨[kA (some ⟨bb,0,none⟩)]⟩,Pr.many [lG 1 (nW 0)]⟩) ([kX b l none,jG bb 58 [(lC (some b),lG 0 mR)],kR q0 s0,jG b0_0 24 [(kY none 0 0,kG)]]))):=by
 kernel_rfl
def Ro (b:Nat) (x:Obj):Chunk Sg:= .obj ⟨0,0,none⟩ (.any (λ_=>pt b x) [])
abbrev gL (st:LL) (i:Nat):LI:=st.getD i []
def kq (b:Nat) (l:List BB) (it:It) (bb Dm lr:Nat) (o1 o2:Obj) (q0:Addr) (s0:Sg) (sb:Nat) (st:LL) (a:Option Nat×Nat):List (Chunk Sg):=
 [.bm b l it, .cells bb 58 [(.map (some b), .pt 0 .map)],Ro Dm o1,Ro lr o2, .obj q0 s0, .cells sb 24 [(Be a.1 (gL st 0).length a.2, .pt 6 .slice)], .row a.1 55 (gL st 0).length a.2 [.ints .i64 (gL st 0), .ints .i64 (gL st 1)]]
abbrev Rq:List Nat:=[0,1,0,1]
def U6 (sb:Nat):List Ak:=[⟨2,none, .pointer (some ⟨sb,0,none⟩), .pt 5 (.cell 0)⟩]
theorem Ass (R':Value→Pr→List (Chunk Sg)→Prop) (S0:List Ab→Option Ak→Option Ak→List (Chunk Sg)→Prop) (b:Nat) (l:List BB) (it:It) (bb Dm lr:Nat) (o1 o2:Obj) (q0:Addr) (s0:Sg) (sb:Nat) (st:LL) (a:Option Nat×Nat) (x:BB):
 (run Try.prog Jk [2999998,2999997] 60 (AP Try.f82) [.cell 0 1000000] Try.f82.ntmps [.code (0::Rq), .raw .beginRound, .code (1::Rq)] (⟨7,none,EQ x, .no⟩::U6 sb) (kq b l it bb Dm lr o1 o2 q0 s0 sb st a)).holds R' (λtd L K=>S0 td (Sl.look L 2) (Sl.look L 5) K)=
 (∀b0_0:Nat,(S0 ([Ab.raw Item.beginRound,Ab.code [1,0,1,0,1]]) (some ⟨2,none,kA (some ⟨sb,0,none⟩),lG 5 (nW 0)⟩) (some ⟨5,none,kA (some ⟨b0_0,0,none⟩),lG 7 (nW 0)⟩) ([kX b l it,jG bb 58 [(lC (some b),lG 0 mR)],kR ⟨0,0,none⟩ (Sg.any (λx=>pt Dm o1) []),kR ⟨0,0,none⟩ (Sg.any (λx=>pt lr o2) []),kR q0 s0,jG sb 24 [(kY (mJ (λb=>⟨b,0,none⟩) a.1) (iH (gL st 0)) a.2,lG 6 oI)],lA a.1 55 (iH (gL st 0)) a.2 [Au.ints iB (gL st 0),Au.ints iB (gL st 1)],jG b0_0 55 [(iX iB x.1,kG),(iX iB x.2,kG)]]))):=by
 kernel_rfl
theorem Asu (R':Value→Pr→List (Chunk Sg)→Prop) (S0:List Ab→Option Ak→List (Chunk Sg)→Prop) (b:Nat) (l:List BB) (it:It) (bb Dm lr b5:Nat) (o1 o2:Obj) (q0:Addr) (s0:Sg) (sb:Nat) (st:LL) (a:Option Nat×Nat) (x:BB):
 (run Try.prog Jk [2999998,2999997] 60 (AP Try.f82) [.cell 0 1000000] Try.f82.ntmps [.code (1::Rq)] (⟨5,none, .pointer (some ⟨b5,0,none⟩), .pt 7 (.cell 0)⟩::U6 sb) (kq b l it bb Dm lr o1 o2 q0 s0 sb st a++[.cells b5 55 [(.int .i64 x.1, .no),(.int .i64 x.2, .no)]])).holds R' (λtd L K=>S0 td (Sl.look L 2) K)=
 (∀b0_0:Nat,(Ap ((iH (gL st 0)+1)*16≤140737488355328) (∀(b2_0:Option Nat) (b2_1:Nat),(S0 ([]) (some ⟨2,none,kA (some ⟨sb,0,none⟩),lG 5 (nW 0)⟩) ([kX b l it,jG bb 58 [(lC (some b),lG 0 mR)],kR ⟨0,0,none⟩ (Sg.any (λx=>pt Dm o1) []),kR ⟨0,0,none⟩ (Sg.any (λx=>pt lr o2) []),kR q0 s0,jG sb 24 [(kY (mJ (λb=>⟨b,0,none⟩) b2_0) (iH (gL st 0)+1) b2_1,lG 9 oI)],oN,jG b5 55 [(iX iB x.1,kG),(iX iB x.2,kG)],lA (some b0_0) 55 1 1 [Au.ints iB [x.1],Au.ints iB [x.2]],lA b2_0 55 (iH (gL st 0)+1) b2_1 [Au.ints iB (gL st 0++[x.1]),Au.ints iB (gL st 1++[x.2])]]))))):=by
 kernel_rfl
theorem ArF (R':Value→Pr→List (Chunk Sg)→Prop) (S0:List Ab→Option Ak→List (Chunk Sg)→Prop) (b:Nat) (l:List BB) (it:It) (bb Dm lr:Nat) (o1 o2:Obj) (q0:Addr) (s0:Sg) (sb:Nat) (st:LL) (a:Option Nat×Nat):
 (run Try.prog Jk [2999998,2999997] 60 (AP Try.f82) [.cell 0 1000000] Try.f82.ntmps [.blk 0, .code [1,1]] (U6 sb) (kq b l it bb Dm lr o1 o2 q0 s0 sb st a)).holds R' (λtd L K=>S0 td (Sl.look L 4) K)=
 (S0 ([Ab.code [1,1,1]]) (some ⟨4,none,kY (mJ (λb=>⟨b,0,none⟩) a.1) (iH (gL st 0)) a.2,lG 6 oI⟩) ([kX b l it,jG bb 58 [(lC (some b),lG 0 mR)],kR ⟨0,0,none⟩ (Sg.any (λx=>pt Dm o1) []),kR ⟨0,0,none⟩ (Sg.any (λx=>pt lr o2) []),kR q0 s0,jG sb 24 [(kY (mJ (λb=>⟨b,0,none⟩) a.1) (iH (gL st 0)) a.2,lG 6 oI)],lA a.1 55 (iH (gL st 0)) a.2 [Au.ints iB (gL st 0),Au.ints iB (gL st 1)]])):=by
 kernel_rfl
theorem ArG:LY Try.prog 1000000=none:=by kernel_rfl
theorem pcE {T:Tb} (hT:D7 T) {I:List Nat} (hI:rounds I=true) {f:Fq} {R:Ending→World→Prop} {B:Code} {n:Nat} {E:Ev} {G:Hp} {td:List Ab} {L:List Ak} {K:List (Chunk Sg)} {fuel:Nat} {S':List Ab→List Ak→List (Chunk Sg)→Prop} {X:Prop}
 (he:(run Try.prog T I fuel B [.cell 0 1000000] n td L K).holds (λ_ _ _=>False) S'=X) (hS:∀td L K,S' td L K→Sl.SW Dg Try.prog f R B n E G td L K) (hX:X):Sl.SW Dg Try.prog f R B n E G td L K:=
 Px Dg hT mix fuel (.inr ⟨hI,Afn ArG⟩) (Q:= λ_=>True) (λ_ _ _ _=>trivial) (R':= λ_ _ _=>False) (λ_ _ _ _ h=>h.elim) _ _ _ trivial (Tree.Gq (λ_ _ _ h=>h) hS (he.mpr hX))
theorem pcF {T:Tb} (hT:D7 T) {I:List Nat} {f:FuncId} {fn:Func} (hfn:Try.prog.funcs[f]? =some fn) {R:Ending→World→Prop} {B:Code} {E:Ev} {G:Hp} {td:List Ab} {L:List Ak} {K:List (Chunk Sg)} {fuel:Nat} {R':Value→Pr→List (Chunk Sg)→Prop} {S':List Ab→List Ak→List (Chunk Sg)→Prop} {X:Prop}
 (he:(run Try.prog T I fuel B fn.results.toList fn.ntmps td L K).holds R' S'=X) (hR:∀v p K w,R' v p K→Af Dg E G w K→R (.returned v) w) (hS:∀td L K,S' td L K→Sl.SW Dg Try.prog f R B fn.ntmps E G td L K) (hX:X):Sl.SW Dg Try.prog f R B fn.ntmps E G td L K:=
 Px Dg hT mix fuel (f:=(f:Fq)) (.inl ⟨rfl,fn,hfn,rfl⟩) (Q:= λ_=>True) (λ_ _ _ _=>trivial) (R':=R') (λv p K w h _ _ _ hS=>hR v p K w h hS) _ _ _ trivial (Tree.Gq (λ_ _ _ h=>h) hS (he.mpr hX))
def asY:Yf:= λst x=>[gL st 0++[x.1],gL st 1++[x.2]]
def asI (l:List BB) (st:LL) (re:List BB):Prop:=(gL st 1).length=(gL st 0).length∧(Ba (gL st 0) (gL st 1)++re).Perm l
theorem Apb {l:List BB} (st:LL) (x:BB) (re:List BB) (h:asI l st (x::re)):asI l (asY st x) re:=by
 obtain ⟨h1,h2⟩:=h
 refine ⟨by show (gL st 1++[x.2]).length=(gL st 0++[x.1]).length;rw [jL,jL,h1];rfl,?_⟩
 show (Ba (gL st 0++[x.1]) (gL st 1++[x.2])++re).Perm l
 rw [OW h1]
 simpa using h2
theorem Apc {l:List BB} (st:LL) (re re':List BB) (hp:re.Perm re') (h:asI l st re):asI l st re':=⟨h.1,(List.Perm.append_left _ hp.symm).trans h.2⟩
theorem Aq6 {l:List BB} {st:LL} {re:List BB} (h:asI l st re):(gL st 0).length+re.length=l.length:=by
 have:=h.2.length_eq
 rw [jL,Jb h.1.symm] at this
 exact this
theorem AnN (b:Nat) (l:List BB) (it:It) (bb Dm lr:Nat) (o1 o2:Obj) (q0:Addr) (s0:Sg) (sb:Nat) (st:LL) (a:Option Nat×Nat):Dz (kq b l it bb Dm lr o1 o2 q0 s0 sb st a):=
 QE (by simp [kq,Ro,Be,cellsAll,AQ,BH,DJ])
section
variable {E:Ev} {G:Hp}
abbrev MR:FuncId:=82
noncomputable abbrev asB:Code:=AP Try.f82
noncomputable abbrev asN:Nat:=Try.f82.ntmps
noncomputable abbrev IV (tmps:Array Value) (Dm:Nat):Loop:=Sv MR tmps #[7] (Sl.sub asB (0::Rq)) (Sl.sub asB (1::Rq)) Dm .ready none
set_option maxRecDepth 100000 in
theorem Apd {b bb Dm lr sb:Nat} {l:List BB} {it:It} {q0:Addr} {s0:Sg} {st:LL} {a:Option Nat×Nat} {x:BB} {tmps:Array Value} (hlen:((gL st 0).length+1)*16≤140737488355328) (Rr:Ending→World→Prop)
 (H:∀w' a',Af Dg E G w' (kq b l it bb Dm lr (.deferred (some [])) (.loop (IV tmps Dm)) q0 s0 sb (asY st x) a')→Rr (.returned (.bool true)) w'):
 Sl.SW Dg Try.prog ⟨MR,some lr,[]⟩ Rr asB asN E G [.code (0::Rq), .raw .beginRound, .code (1::Rq)] (⟨7,none,EQ x, .no⟩::U6 sb) (kq b l it bb Dm lr (.deferred (some [])) (.loop (IV tmps Dm)) q0 s0 sb st a):=by
 refine pcE (I:=[2999998,2999997]) FH rfl (Ass (λ_ _ _=>False) (λtd e2 e5 K=>∃b5,td=[.raw .beginRound, .code (1::Rq)]∧e2=some ⟨2,none, .pointer (some ⟨sb,0,none⟩), .pt 5 (.cell 0)⟩∧e5=some ⟨5,none, .pointer (some ⟨b5,0,none⟩), .pt 7 (.cell 0)⟩∧
  K=kq b l it bb Dm lr (.deferred (some [])) (.loop (IV tmps Dm)) q0 s0 sb st a++[.cells b5 55 [(.int .i64 x.1, .no),(.int .i64 x.2, .no)]]) b l it bb Dm lr (.deferred (some [])) (.loop (IV tmps Dm)) q0 s0 sb st a x) (λtd L K h=>?_) (λb5=>⟨b5,rfl,rfl,rfl,rfl⟩)
 obtain ⟨b5,rfl,e2,e5,rfl⟩:=h
 refine Sl.SW.sub Dg (L':=⟨5,none, .pointer (some ⟨b5,0,none⟩), .pt 7 (.cell 0)⟩::U6 sb) ?_ (λe he=>by
  simp only [U6,iG,jF,or_false] at he
  rcases he with rfl|rfl
  ·exact (Dp e5).1
  ·exact (Dp e2).1)
 refine Sl.SW.busy Dg (f:=⟨MR,some lr,[]⟩) (l:=lr) (j:=3) (s':= .any (λ_=>pt lr (.loop {IV tmps Dm with state:= .busy})) []) rfl rfl rfl rfl rfl ?_
 show Sl.SW Dg Try.prog ⟨MR,some lr,[]⟩ Rr asB asN E G [.code (1::Rq)] (⟨5,none, .pointer (some ⟨b5,0,none⟩), .pt 7 (.cell 0)⟩::U6 sb) (kq b l it bb Dm lr (.deferred (some [])) (.loop {IV tmps Dm with state:= .busy}) q0 s0 sb st a++[.cells b5 55 [(.int .i64 x.1, .no),(.int .i64 x.2, .no)]])
 refine pcE (I:=[2999998,2999997]) FH rfl (Asu (λ_ _ _=>False) (λtd e2 K=>∃b6 a' c2,td=[]∧K=[.bm b l it, .cells bb 58 [(.map (some b), .pt 0 .map)],Ro Dm (.deferred (some [])),Ro lr (.loop {IV tmps Dm with state:= .busy}), .obj q0 s0, .cells sb 24 [(Be a'.1 ((gL st 0).length+1) a'.2, .pt 9 .slice)], .dead,c2,b6, .row a'.1 55 ((gL st 0).length+1) a'.2 [.ints .i64 (gL st 0++[x.1]), .ints .i64 (gL st 1++[x.2])]]) b l it bb Dm lr b5 (.deferred (some [])) (.loop {IV tmps Dm with state:= .busy}) q0 s0 sb st a x) (λtd L K h=>?_) (λb6=>⟨hlen, λ_ a1 c1=>⟨_,(a1,c1),_,rfl,rfl⟩⟩)
 obtain ⟨b6,a',c2,rfl,rfl⟩:=h
 refine Sl.SW.on Dg (f:=⟨MR,some lr,[]⟩) (l:=lr) (j:=3) (s':= .any (λ_=>pt lr (.loop (IV tmps Dm))) []) rfl rfl rfl rfl λw' _ hS=>H w' a' ?_
 refine Af.ord Dg hS [0,1,2,3,4,5,9] rfl ?_
 have e:(gL (asY st x) 0).length=(gL st 0).length+1:=by show (gL st 0++[x.1]).length=_;simp
 unfold kq
 rw [e];rfl
theorem AnP (args:Array Value) (w:World):(callFunc 69 args).run Try.prog w= .ok (.enter 69 args) w:=
 Ld (by kernel_rfl) args w
theorem Aiy (b:Nat) (l:List BB) (bb:Nat) (q0:Addr) (s0:Sg):Dz (k0 b l bb q0 s0):=QE (by simp [k0,cellsAll,AQ,BH,DJ])
set_option maxRecDepth 100000 in
theorem Ape {b bb:Nat} {l:List BB} {q0:Addr} {s0:Sg} (hl:l.length≤1000) {R:Ending→World→Prop} {w:World} (hS:Af Dg E G w (k0 b l bb q0 s0))
 (hR:∀st (a:Option Nat×Nat) w',asI l st []→Af Dg E G w' (k0 b l bb q0 s0++[.row a.1 55 (gL st 0).length a.2 [.ints .i64 (gL st 0), .ints .i64 (gL st 1)]])→R (.returned (Be a.1 (gL st 0).length a.2)) w'):
 Calls Try.prog MR #[.slice none 0 0,KZ bb] w R:=by
 refine Ju Try.func82 (c:=asB) (by kernel_rfl) ?_
 have hgo:Sl.SW Dg Try.prog MR R asB asN E G [.code []] (En 0 [(.slice none 0 0, .no),(KZ bb, .many [.pt 1 (.cell 0)])]) (k0 b l bb q0 s0):=by
  refine pcF (f:=MR) FH Try.func82 (Apa (λ_ _ _=>False) (λtd e2 e6 K=>∃sb,td=[.code Rq, .blk 0, .code [1,1]]∧e2=some ⟨2,none, .pointer (some ⟨sb,0,none⟩), .pt 3 (.cell 0)⟩∧e6=some ⟨6,none,KZ bb, .many [.pt 1 (.cell 0)]⟩∧K=k0 b l bb q0 s0++[.cells sb 24 [(.slice none 0 0, .no)]]) b l bb q0 s0)
   (λ_ _ _ _ h=>h.elim) (λtd L K h=>?_) (λsb=>⟨sb,rfl,rfl,rfl,rfl⟩)
  obtain ⟨sb,rfl,e2,e6,rfl⟩:=h
  refine Sl.SW.rangeFunc Dg (t:=6) (ps:= #[7]) (lb:= #[.pointer (some ⟨bb,0,none⟩)]) (by kernel_rfl) (Dp e6).1 AnP λa w hF hS=>?_
  generalize hDm:w.heap.size=Dm at hS ⊢
  generalize hlr:Dm+1=lr at hS ⊢
  generalize JU w MR a.tmps #[7] (Sl.sub asB (0::Rq)) (Sl.sub asB (1::Rq))=w1 at hS ⊢
  let rc0:Obj:= .loop (IV a.tmps Dm)
  let A:LL→CZ:= λst Y h=>∃x:Option Nat×Nat,Sl.star (([Ro Dm (.deferred (some [])),Ro lr rc0, .obj q0 s0, .cells sb 24 [(Be x.1 (gL st 0).length x.2, .pt 6 .slice)], .row x.1 55 (gL st 0).length x.2 [.ints .i64 (gL st 0), .ints .i64 (gL st 1)]]:List (Chunk Sg)).map (den Dg G)) Y h
  have pack:∀w it st x,Af Dg E G w (kq b l it bb Dm lr (.deferred (some [])) rc0 q0 s0 sb st x)→Af Dg E G w (J6 A b l it ⟨0,0,none⟩ bb st):= λw it st x h=>
   Af.order Dg (Af.Ank Dg (c:= .obj ⟨0,0,none⟩ (.any A st)) (Ks:=[Ro Dm (.deferred (some [])),Ro lr rc0, .obj q0 s0, .cells sb 24 [(Be x.1 (gL st 0).length x.2, .pt 6 .slice)], .row x.1 55 (gL st 0).length x.2 [.ints .i64 (gL st 0), .ints .i64 (gL st 1)]]) (K1:=[.bm b l it, .cells bb 58 [(.map (some b), .pt 0 .map)]]) (h.order Dg [2,3,4,5,6,0,1] rfl rfl) λY k hx=>⟨x,hx⟩) [1,0,2] rfl rfl
  have unpack:∀w it st,Af Dg E G w (J6 A b l it ⟨0,0,none⟩ bb st)→∃x,Af Dg E G w (kq b l it bb Dm lr (.deferred (some [])) rc0 q0 s0 sb st x):= λw it st h=>by
   obtain ⟨x,hx⟩:=Af.AgY Dg (k0:= λ_=>Ro Dm (.deferred (some []))) (ks:= λx:Option Nat×Nat=>[Ro lr rc0, .obj q0 s0, .cells sb 24 [(Be x.1 (gL st 0).length x.2, .pt 6 .slice)], .row x.1 55 (gL st 0).length x.2 [.ints .i64 (gL st 0), .ints .i64 (gL st 1)]]) h (k:=1) (c:= .obj ⟨0,0,none⟩ (.any A st)) rfl rfl
   exact ⟨x,Af.order Dg hx [0,2,1,3,4,5,6] rfl rfl⟩
  have recAt:∀w it st x,Af Dg E G w (kq b l it bb Dm lr (.deferred (some [])) rc0 q0 s0 sb st x)→w.heap[lr]? =some rc0:= λw it st x h=>
   Af.objPt Dg (q:=⟨0,0,none⟩) (s:= .any (λ_=>pt lr rc0) []) h (j:=3) rfl rfl
  have hL':∀it st x o2,∀e∈U6 sb,AgX _ (kq b l it bb Dm lr (.deferred (some [])) o2 q0 s0 sb st x) e:= λit st x o2 e he=>by
   simp only [U6,iG,jF,or_false] at he
   subst he
   exact ⟨rfl,⟨_,(Dp e2).1⟩,Bg.2 ⟨_,rfl,rfl⟩⟩
  have hY:Amr E G A b l ⟨0,0,none⟩ bb lr (asI l) asY:=by
   intro st x re it hI w2 hS2
   obtain ⟨a2,h3⟩:=unpack _ _ _ hS2
   have h4:=recAt _ _ _ _ h3
   refine Al9 Dg (L':=U6 sb) (p:=Rq) (p1:=7) (Dm:=Dm) (f:=MR) (v1:=EQ x) hF (AnN _ _ _ _ _ _ _ _ _ _ _ _ _) (iQ (by kernel_rfl)) (λe he=>⟨?_,hL' _ _ _ _ e he⟩) h4 h3 ?_
   ·simp only [U6,iG,jF,or_false] at he
    subst he;exact (by decide:(2:Nat)≠7)
   ·have hb:=Aq6 hI
    simp only [jJ] at hb
    exact Apd (lZ (kF 16 (show (gL st 0).length+1≤1000 by omega)) (by decide)) _ λw' a' h5=>⟨rfl,pack _ _ _ a' h5⟩
  have hS1:Af Dg E G w1 (kq b l none bb Dm lr (.deferred (some [])) rc0 q0 s0 sb [[],[]] (none,0)):=by
   have h6:Af Dg E G w1 ((k0 b l bb q0 s0++[.cells sb 24 [(.slice none 0 0, .no)]])++[Ro Dm (.deferred (some [])),Ro lr rc0]):=by
    unfold Af
    rw [jD]
    exact hS
   have h7:=Af.Ar2 Dg h6 (c:= .row none 55 0 0 [.ints .i64 [], .ints .i64 []]) rfl
   exact Af.ord Dg h7 [0,1,4,5,2,3,6] rfl rfl
  have hq:=AoZ (bb:=bb) hY Apb Apc (pack _ _ _ _ hS1) (⟨rfl,oH _⟩:asI l [[],[]] l) (R:= λe w3=>(∃v,e= .returned v)∧∃st,asI l st []∧Af Dg E G w3 (J6 A b l none ⟨0,0,none⟩ bb st)) λst v w' hI h=>⟨⟨v,rfl⟩,st,hI,h⟩
  refine hq.mono λe w3 ⟨hv,st,hI,h6⟩=>⟨hv,?_⟩
  obtain ⟨x,h7⟩:=unpack _ _ _ h6
  have h8:=recAt _ _ _ _ h7
  refine ⟨_,_,h8,(λh=>by simp [IV,Sv] at h),rfl,?_⟩
  have h9:=Af.putObj Dg (q:=⟨0,0,none⟩) (s:= .any (λ_=>pt lr rc0) []) (l:=lr) (x:=rc0) (y:= .loop {IV a.tmps Dm with state:= .exhausted}) (s':= .any (λ_=>pt lr (.loop {IV a.tmps Dm with state:= .exhausted})) []) h7 (j:=3) rfl rfl rfl
  refine (show Sl.SW Dg Try.prog ⟨MR,none,[Sl.mark Dm]⟩ R asB asN E G [.blk 0, .code [1,1]] (U6 sb) (kq b l none bb Dm lr (.deferred (some [])) (.loop {IV a.tmps Dm with state:= .exhausted}) q0 s0 sb st x) from ?_) a _ (hF.re (AnN _ _ _ _ _ _ _ _ _ _ _ _ _) λe he=>hL' _ _ _ _ e he) h9
  refine pcE (I:=[2999998,2999997]) FH rfl (ArF (λ_ _ _=>False) (λtd e4 K=>td=[.code [1,1,1]]∧e4=some ⟨4,none,Be x.1 (gL st 0).length x.2, .pt 6 .slice⟩∧K=kq b l none bb Dm lr (.deferred (some [])) (.loop {IV a.tmps Dm with state:= .exhausted}) q0 s0 sb st x) b l none bb Dm lr (.deferred (some [])) (.loop {IV a.tmps Dm with state:= .exhausted}) q0 s0 sb st x) (λtd L K h=>?_) ⟨rfl,rfl,rfl⟩
  obtain ⟨rfl,e4,rfl⟩:=h
  refine Sl.SW.sub Dg (L':=[⟨4,none,Be x.1 (gL st 0).length x.2, .pt 6 .slice⟩]) ?_ (λe he=>by
   simp only [iG,jF,or_false] at he
   subst he;exact (Dp e4).1)
  exact Sl.SW.finish_mark Dg (f:=⟨MR,none,[Sl.mark Dm]⟩) (Dm:=Dm) (j:=2) (q:=⟨0,0,none⟩) (s:= .any (λ_=>pt Dm (.deferred (some []))) []) (s':= .any (λ_=>pt Dm (.deferred none)) []) (vs:=[(Be x.1 (gL st 0).length x.2, .pt 6 .slice)]) rfl rfl Try.func82 (.inr ⟨[],by kernel_rfl⟩) rfl rfl rfl (by kernel_rfl)
   λw' hS=>hR st x w' hI (Af.ord Dg hS [0,1,4,6] rfl rfl)
 exact hgo _ w (Fr.start (n:=asN) [(.slice none 0 0, .no),(KZ bb, .many [.pt 1 (.cell 0)])] (iQ (by kernel_rfl)) (λx hx=>by
  simp only [iG,jF,or_false] at hx
  rcases hx with rfl|rfl
  ·exact A8
  ·simp only [BH,AQ,and_true];exact ⟨_,rfl,rfl⟩) (Aiy _ _ _ _ _)) hS
end
end
section
open Go Go.Shelf Go.RowKit Go.Lib Go.Sort
abbrev Bd:Type:={x:Int×Int// -4611686018427387904≤x.1∧x.1<4611686018427387904}
instance:Inhabited Bd:=⟨⟨(0,0),by decide⟩⟩
def OZ (x:Bd):List Value:=[.int .i64 x.1.1, .int .i64 x.1.2]
def bdC (x y:Bd):Int:=x.1.1-y.1.1
abbrev Yu:FuncId:=40
set_option maxHeartbeats 1000000 in
theorem Ams (x y:Bd) (W:World):Calls Try.prog Yu #[.agg #[.int .i64 x.1.1, .int .i64 x.1.2], .agg #[.int .i64 y.1.1, .int .i64 y.1.2]] W λe w'=>e= .returned (.int .i64 (bdC x y))∧∃q os',w'=grow (W.drewN q) os':=by
 have hs:iB.wrap (x.1.1-y.1.1)=bdC x y:=by
  have h1:=x.2;have h2:=y.2
  unfold bdC
  rw [IntKind.wrap_i64]
  omega
 go_enter Try.func40,Try.ntmps40
 go_wp2
 go_ret
 exact ⟨rfl,0,_,by rw [alloc_eq_grow,alloc_eq_grow,grow_grow];rfl⟩
theorem Aga (x y:Bd):ltOf bdC x y=decide (x.1.1<y.1.1):=by
 show decide (x.1.1-y.1.1<0)=_
 by_cases h:x.1.1<y.1.1
 ·rw [decide_eq_true h,decide_eq_true (by omega)]
 ·rw [decide_eq_false h,decide_eq_false (by omega)]
theorem ArI:SWO (ltOf bdC) where
 irrefl x:=by rw [Aga];simp
 trans x y z h1 h2:=by rw [Aga,decide_eq_true_eq] at*;omega
 ntrans x y z h1 h2:=by rw [Aga,decide_eq_false_iff_not] at*;omega
theorem Aq7 (blk off size:Nat) (w:World):CmpLays Try.prog Yu #[] OZ 2 bdC blk off size w:= λ_ _ _ _ x y=>Ams x y _
end
section
open Go Go.Sl Go.Shelf Go.RowKit Go.Lib Go.Sort
abbrev Bs:=List (Int×Int)
def rowB (a:Option Nat) (cap:Nat) (l:Bs):Chunk Sg:= .row a 55 l.length cap [.ints .i64 (l.map (·.1)), .ints .i64 (l.map (·.2))]
def lsB (d:Array Bd):Bs:=d.toList.map (·.1)
theorem JZ (d:Array Bd):(lsB d).length=d.size:=by simp [lsB]
theorem WM (d:Array Bd) {i:Nat} (h:i<d.size):(lsB d)[i]? =some d[i]!.1:=by
 simp [lsB,h,getElem!_pos]
theorem AnQ (d:Array Bd):flat [.ints .i64 ((lsB d).map (·.1)), .ints .i64 ((lsB d).map (·.2))] d.size=(flatK OZ 2 d).toList:=by
 refine lB λt=>?_
 by_cases ht:t<d.size*2
 ·have hi:t/2<d.size:=by omega
  have e1:(flatK OZ 2 d).toList[t]? =some ((OZ d[t/2]!)[t%2]!):=by
   rw [←get_flatK OZ 2 d t ht,mP,getElem!_pos (flatK OZ 2 d) t (by simpa using ht),jM (by simpa using ht)]
  rw [e1]
  rcases (by omega:t%2=0∨t%2=1) with h|h
  ·have:=flat_get (cols:=[.ints .i64 ((lsB d).map (·.1)), .ints .i64 ((lsB d).map (·.2))]) (n:=d.size) (i:=t/2) (j:=0) hi rfl
   rw [show t/2*[Au.ints .i64 ((lsB d).map (·.1)), .ints .i64 ((lsB d).map (·.2))].length+0=t by simp only [jJ,mE];omega] at this
   rw [this,h]
   simp only [Au.at,iC,iM,WM d hi]
   rfl
  ·have:=flat_get (cols:=[.ints .i64 ((lsB d).map (·.1)), .ints .i64 ((lsB d).map (·.2))]) (n:=d.size) (i:=t/2) (j:=1) hi rfl
   rw [show t/2*[Au.ints .i64 ((lsB d).map (·.1)), .ints .i64 ((lsB d).map (·.2))].length+1=t by simp only [jJ,mE];omega] at this
   rw [this,h]
   simp only [Au.at,iC,iM,WM d hi]
   rfl
 ·rw [jE (by rw [GN];simp only [jJ,mE];omega),jE (by simp;omega)]
theorem Aq8 (F c:Array Value) (h:F.size≤c.size):(putCells id 0 F c).toList.take F.size=F.toList:=by
 refine lB λt=>?_
 by_cases ht:t<F.size
 ·rw [List.getElem?_take_of_lt ht,mP,mP]
  simp only [putCells,Array.getElem?_mapIdx]
  rw [jM (by omega),jM ht]
  simp only [iS,id]
  rw [if_pos ⟨by omega,by omega⟩,getElem!_pos F _ (by omega)]
  rfl
 ·rw [jE (by simp;omega),jE (by simp;omega)]
theorem Sat.grow {E:Ev} {G:Hp} {As:List CZ}:∀(os:List Obj) {w:World},Sat E G w As→Sat E G (Sort.grow w os.toArray) As
 |[],w,h=>by simpa using h
 |o::os,w,h=>by
  have e:Sort.grow w (o::os).toArray=Sort.grow (w.alloc o) os.toArray:=by rw [alloc_eq_grow,grow_grow];congr 1;simp
  rw [e]
  refine Sat.grow os ((Sat.alloc h o).drop λi A hi=>?_)
  rw [iI (BD hi)]
  exact hi
theorem U7 (w:World) (b c:Nat) (f:Array Value→Array Value):(mapBlock w b f).heap[c]? =if b=c then w.heap[c]?.map (onCells f) else w.heap[c]? :=by
 unfold mapBlock
 simp only [Array.getElem?_modify]
variable {E:Ev} {G:Hp} {K:List (Chunk Sg)}
theorem Ai0 {w:World} {j b cap:Nat} {l:Bs} (hS:Af Dg E G w K) (hj:K[j]? =some (rowB (some b) cap l)):∃cs:Array Value,w.heap[b]? =some (.cells cs 55 (0,0))∧l.length≤cap∧cap≤maxLen∧cs.size=cap*2∧cs.toList.take (l.length*2)=flat [.ints .i64 (l.map (·.1)), .ints .i64 (l.map (·.2))] l.length:=by
 obtain ⟨Z,hz,hw,e,hg,o,ho,hA⟩:=hS
 obtain ⟨_,_,cs,h4,h5,h6,h7,h8⟩:=hA j _ (EI (show (K.map (den Dg G))[j]? =some (den Dg G (rowB (some b) cap l)) by rw [iM,hj];rfl)) Z (Hp.le_refl Z)
 exact ⟨cs,KN h4,h5,h6,h7,h8⟩
theorem AnR {w:World} {j b cap:Nat} {d:Array Bd} (hS:Af Dg E G w K) (hj:K[j]? =some (rowB (some b) cap (lsB d))):HoldsK OZ 2 w b 0 d:=by
 obtain ⟨cs,h4,h5,h6,h7,h8⟩:=Ai0 hS hj
 intro t ht
 have ht':t<d.size*2:=by simpa using ht
 rw [JZ] at h8
 have e:cs[t]? =some (flatK OZ 2 d)[t]! :=by
  have:=congrArg (λl=>l[t]?) h8
  rw [AnQ] at this
  simp only [List.getElem?_take_of_lt ht',mP] at this
  rw [this,getElem!_pos (flatK OZ 2 d) t (by simpa using ht'),jM (by simpa using ht')]
 refine ⟨?_,?_⟩
 ·simp only [World.cell?,h4,lD,e];rfl
 ·simp only [World.frozen?,h4];simp
theorem AnS {w:World} {j b cap:Nat} {l:Bs} {d d':Array Bd} {m:Nat} {os:Array Obj} (hS:Af Dg E G w K) (hj:K[j]? =some (rowB (some b) cap l)) (hl:lsB d=l) (hd:d'.size=d.size):
 Af Dg E G (sortWorldK OZ 2 w b 0 m d' os) (K.set j (rowB (some b) cap (lsB d'))):=by
 unfold sortWorldK putRowK putRow
 have hj':(K.map (den Dg G))[j]? =some (den Dg G (rowB (some b) cap l)):=by rw [iM,hj];rfl
 obtain ⟨cs,h4,h5,h6,h7,h8⟩:=Ai0 hS hj
 have h1:=Sat.drawn hS (w.drawn+m)
 have ls:l.length=d.size:=by rw [←hl,JZ]
 have h2:=Sat.write' (w':=mapBlock (Sort.ahead w m) b (putCells id 0 (flatK OZ 2 d'))) (b:=b) (A':=den Dg G (rowB (some b) cap (lsB d'))) h1 hj' (λY k hk=>by
  obtain ⟨_,_,cs,h4,_⟩:=hk
  rw [h4];simp) ⟨rfl,rfl,rfl⟩ (by simp [mapBlock,Sort.ahead]) (λc hc=>by
  rw [U7,if_neg (Ne.symm hc)];rfl) (λY k k' hk ho hb=>by
  have hw:w.heap[b]? =some (.cells cs 55 (0,0)):=h4
  rw [U7,if_pos rfl,show (Sort.ahead w m).heap[b]? =w.heap[b]? from rfl,hw] at hb
  have hs:(flatK OZ 2 d').size=(lsB d').length*2:=by rw [size_flatK,JZ]
  have hl':(lsB d').length=l.length:=by rw [JZ,ls,hd]
  refine ⟨λc hc=>?_,by simp,_,hb,by omega,h6,?_,?_⟩
  ·simp only [iG,jF,or_false] at hc
   rcases hc with rfl|rfl<;>simp [Au.len]
  ·simp only [putCells,Array.size_mapIdx];exact h7
  ·rw [show (lsB d').length*[Au.ints .i64 ((lsB d').map (·.1)), .ints .i64 ((lsB d').map (·.2))].length=(flatK OZ 2 d').size from hs.symm,Aq8 _ _ (by rw [hs,h7];omega),JZ,AnQ])
 have h3:=Sat.grow os.toList h2
 unfold Af
 rw [jU]
 exact h3
end
section
open Go Go.Sl Go.Shelf Go.RowKit Go.Lib Go.Sort
def inB (l:Bs):Prop:=∀x∈l, -4611686018427387904≤x.1∧x.1<4611686018427387904
def MV (l:Bs):Prop:=l.Pairwise λx y=>x.1≤y.1
def mkD (l:Bs) (hb:inB l):Array Bd:=(l.pmap Subtype.mk hb).toArray
theorem ArJ (l:Bs) (hb:inB l):lsB (mkD l hb)=l:=by
 have h:∀(l:Bs) (hb:inB l),(l.pmap Subtype.mk hb).map (·.1)=l:=by
  intro l
  induction l with
  |nil=>intro _;rfl
  |cons x l ih=>intro hb;exact congrArg (x:: ·) (ih _)
 exact h l hb
abbrev ArK:FuncId:=68
variable {E:Ev} {G:Hp} {K:List (Chunk Sg)}
theorem AnT {w:World} {j cap:Nat} {a:Option Nat} {l:Bs} (hS:Af Dg E G w K) (hj:K[j]? =some (rowB a cap l)) (hb:inB l) (h1k:l.length≤1000):
 Calls Try.prog ArK #[Be a l.length cap, .func (.func Yu) #[] #[]] w λe w'=>e= .returned (.tuple #[])∧∃l':Bs,l'.Perm l∧MV l'∧Af Dg E G w' (K.set j (rowB a cap l')):=by
 cases a with
 |none=>
  have hn:l=[]:=by
   obtain ⟨Z,hz,hw,e,hg,o,ho,hA⟩:=hS
   obtain ⟨_,_,h4,_⟩:=hA j _ (EI (show (K.map (den Dg G))[j]? =some (den Dg G (rowB none cap l)) by rw [iM,hj];rfl)) Z (Hp.le_refl Z)
   exact nE h4
  subst hn
  have h:=AnyF.slices_SortFunc_none {Try.Aks with} none cap (.func (.func Yu) #[] #[]) w
  refine h.mono ?_
  rintro e w' ⟨rfl,rfl⟩
  refine ⟨rfl,[],oH _,List.Pairwise.nil,?_⟩
  have e:K.set j (rowB none cap [])=K:=lB λi=>by
   by_cases h:j=i
   ·subst h;rw [iT (BD hj),hj]
   ·rw [iW h]
  rw [e]
  exact hS
 |some b=>
  have eg:∀args w,(callFunc Yu args).run Try.prog w= .ok (.enter Yu args) w:=enters_of Try.func40 (by kernel_rfl) rfl
  have e:=ArJ l hb
  have hj':K[j]? =some (rowB (some b) cap (lsB (mkD l hb))):=by rw [e];exact hj
  obtain ⟨cs,h4,h5,h6,h7,h8⟩:=Ai0 hS hj
  have es:(mkD l hb).size=l.length:=by rw [←JZ,e]
  have h:=AnyQ.slices_SortFunc Try.Aks 2 Try.isAgg55 Try.sizeOf55 OZ (λ_=>rfl) (λx v hv=>by simp [OZ] at hv;rcases hv with rfl|rfl<;>rfl) bdC ArI Yu #[] b 0 cap (mkD l hb) w eg (Aq7 b 0 _ w) (AnR hS hj') (lt_of_heap h4) (by rw [es];omega)
  rw [es] at h
  refine h.mono ?_
  rintro e1 w' ⟨rfl,d',n,os,hp,hs,rfl⟩
  obtain ⟨hp1,_,hp2⟩:=hp
  refine ⟨rfl,lsB d',?_,?_,AnS hS hj' rfl hp1⟩
  ·rw [←es] at hp2
   have h9:(d'.extract 0 (mkD l hb).size)=d':=by rw [←hp1];simp
   have h10:((mkD l hb).extract 0 (mkD l hb).size)=mkD l hb:=by simp
   rw [h9,h10] at hp2
   have:=hp2.map (·.1)
   show (d'.toList.map (·.1)).Perm l
   rw [show l=(mkD l hb).toList.map (·.1) from e.symm]
   exact this
  ·unfold MV
   rw [List.pairwise_iff_getElem]
   intro i k hi hk hik
   rw [JZ] at hi hk
   have h11:=hs i k (oE _) hik (by rw [←es,←hp1];exact hk)
   rw [Aga,decide_eq_false_iff_not] at h11
   have a1:=WM d' hi
   have a2:=WM d' hk
   rw [iK (by rw [JZ];exact hi)] at a1
   rw [iK (by rw [JZ];exact hk)] at a2
   injection a1 with a1;injection a2 with a2
   rw [a1,a2]
   omega
end
section
open Go Go.Sl
abbrev k1 (b:Nat) (l:List BB) (bb:Nat) (q0:Addr) (s0:Sg) (l':List BB) (a:Option Nat) (cap:Nat):List (Chunk Sg):=k0 b l bb q0 s0++[rowB a cap l']
theorem Apf (R':Value→Pr→List (Chunk Sg)→Prop) (S0:List Ab→Option Ak→List (Chunk Sg)→Prop) (b:Nat) (l:List BB) (bb:Nat) (q0:Addr) (s0:Sg):
 (run Try.prog Jk [2999998] 60 (AP Try.f67) Try.f67.results.toList Try.f67.ntmps [.code []] (En 0 [(KZ bb, .many [.pt 1 (.cell 0)])]) (k0 b l bb q0 s0)).holds R' (λtd L K=>S0 td (Sl.look L 3) K)=
 (S0 ([Ab.ops [0,1] 1,Ab.code [1,1]]) (some ⟨3,none,lX (Fn.func 69) ⟨[]⟩ ⟨[kA (some ⟨bb,0,none⟩)]⟩,Pr.many [lG 1 (nW 0)]⟩) ([kX b l none,jG bb 58 [(lC (some b),lG 0 mR)],kR q0 s0])):=by
 kernel_rfl
theorem Apg (R':Value→Pr→List (Chunk Sg)→Prop) (S0:List Ab→Option Ak→Option Ak→List (Chunk Sg)→Prop) (b:Nat) (l:List BB) (bb:Nat) (q0:Addr) (s0:Sg):
 (run Try.prog Jk [2999998] 60 (AP Try.f38) Try.f38.results.toList Try.f38.ntmps [.code []] (En 0 [(KZ bb, .many [.pt 1 (.cell 0)]),(.func (.func Yu) #[] #[], .no)]) (k0 b l bb q0 s0)).holds R' (λtd L K=>S0 td (Sl.look L 6) (Sl.look L 1) K)=
 (S0 ([Ab.ops [0,1] 1,Ab.code [1,1]]) (some ⟨6,none,lX (Fn.func 69) ⟨[]⟩ ⟨[kA (some ⟨bb,0,none⟩)]⟩,Pr.many [lG 1 (nW 0)]⟩) (some ⟨1,none,lX (Fn.func 40) ⟨[]⟩ ⟨[]⟩,kG⟩) ([kX b l none,jG bb 58 [(lC (some b),lG 0 mR)],kR q0 s0])):=by
 kernel_rfl
theorem ArL (R':Value→Pr→List (Chunk Sg)→Prop) (S0:List Ab→List (Chunk Sg)→Prop) (b:Nat) (l:List BB) (bb:Nat) (q0:Addr) (s0:Sg) (l':List BB) (a:Option Nat) (cap:Nat):
 (run Try.prog Jk [2999998] 60 (AP Try.f67) Try.f67.results.toList Try.f67.ntmps [.ops [0,1] 2, .code [1,1]] [⟨4,none,Be a l'.length cap, .pt 3 .slice⟩] (k1 b l bb q0 s0 l' a cap)).holds R' (λtd L K=>S0 td K)=
 (R' (kY (mJ (λb=>⟨b,0,none⟩) a) (iH l') cap) (lG 3 oI) ([kX b l none,jG bb 58 [(lC (some b),lG 0 mR)],kR q0 s0,lA a 55 (iH l') cap [Au.ints iB (mV (λx=>x.1) l'),Au.ints iB (mV (λx=>x.2) l')]])):=by
 kernel_rfl
theorem ArM (R':Value→Pr→List (Chunk Sg)→Prop) (S0:List Ab→Option Ak→Option Ak→Option Ak→List (Chunk Sg)→Prop) (b:Nat) (l:List BB) (bb:Nat) (q0:Addr) (s0:Sg) (l':List BB) (a:Option Nat) (cap:Nat):
 (run Try.prog Jk [2999998] 60 (AP Try.f38) Try.f38.results.toList Try.f38.ntmps [.ops [0,1] 2, .code [1,1]] [⟨7,none,Be a l'.length cap, .pt 3 .slice⟩,⟨1,none, .func (.func Yu) #[] #[], .no⟩] (k1 b l bb q0 s0 l' a cap)).holds R' (λtd L K=>S0 td (Sl.look L 8) (Sl.look L 9) (Sl.look L 5) K)=
 (S0 ([Ab.ops [0,1,1] 2,Ab.code [1,1,1]]) (some ⟨8,none,kY (mJ (λb=>⟨b,0,none⟩) a) (iH l') cap,lG 3 oI⟩) (some ⟨9,none,lX (Fn.func 40) ⟨[]⟩ ⟨[]⟩,kG⟩) (some ⟨5,none,kY (mJ (λb=>⟨b,0,none⟩) a) (iH l') cap,lG 3 oI⟩) ([kX b l none,jG bb 58 [(lC (some b),lG 0 mR)],kR q0 s0,lA a 55 (iH l') cap [Au.ints iB (mV (λx=>x.1) l'),Au.ints iB (mV (λx=>x.2) l')]])):=by
 kernel_rfl
theorem ArN (R':Value→Pr→List (Chunk Sg)→Prop) (S0:List Ab→List (Chunk Sg)→Prop) (b:Nat) (l:List BB) (bb:Nat) (q0:Addr) (s0:Sg) (l':List BB) (a:Option Nat) (cap n:Nat):
 (run Try.prog Jk [2999998] 60 (AP Try.f38) Try.f38.results.toList Try.f38.ntmps [.ops [0,1,1] 3, .code [1,1,1]] [⟨5,none,Be a n cap, .pt 3 .slice⟩] (k1 b l bb q0 s0 l' a cap)).holds R' (λtd L K=>S0 td K)=
 (R' (kY (mJ (λb=>⟨b,0,none⟩) a) n cap) (lG 3 oI) ([kX b l none,jG bb 58 [(lC (some b),lG 0 mR)],kR q0 s0,lA a 55 (iH l') cap [Au.ints iB (mV (λx=>x.1) l'),Au.ints iB (mV (λx=>x.2) l')]])):=by
 kernel_rfl
section
variable {E:Ev} {G:Hp}
abbrev Ai1:FuncId:=67
noncomputable abbrev coB:Code:=AP Try.f67
theorem Ai2 (b:Nat) (l:List BB) (bb:Nat) (q0:Addr) (s0:Sg) (l':List BB) (a:Option Nat) (cap:Nat):Dz (k1 b l bb q0 s0 l' a cap):=QE (by simp [k1,k0,rowB,cellsAll,AQ,BH,DJ])
theorem Aph {xs ys:LI} (h:ys.length=xs.length):(Ba xs ys).map (·.1)=xs∧(Ba xs ys).map (·.2)=ys:=by
 unfold Ba
 exact ⟨List.map_fst_zip (by omega),List.map_snd_zip (by omega)⟩
set_option maxRecDepth 100000 in
theorem Api {b bb:Nat} {l:List BB} {q0:Addr} {s0:Sg} (hl:l.length≤1000) {R:Ending→World→Prop} {w:World} (hS:Af Dg E G w (k0 b l bb q0 s0))
 (hR:∀(l':List BB) a cap w',l'.Perm l→Af Dg E G w' (k1 b l bb q0 s0 l' a cap)→R (.returned (Be a l'.length cap)) w'):
 Calls Try.prog Ai1 #[KZ bb] w R:=by
 refine Ju Try.func67 (c:=coB) (by kernel_rfl) ?_
 have hgo:Sl.SW Dg Try.prog Ai1 R coB Try.f67.ntmps E G [.code []] (En 0 [(KZ bb, .many [.pt 1 (.cell 0)])]) (k0 b l bb q0 s0):=by
  refine pcF (f:=Ai1) FH Try.func67 (Apf (λ_ _ _=>False) (λtd e3 K=>td=[.ops [0,1] 1, .code [1,1]]∧e3=some ⟨3,none,KZ bb, .many [.pt 1 (.cell 0)]⟩∧K=k0 b l bb q0 s0) b l bb q0 s0)
   (λ_ _ _ _ h=>h.elim) (λtd L K h=>?_) ⟨rfl,rfl,rfl⟩
  obtain ⟨rfl,e3,rfl⟩:=h
  refine Sl.SW.sub Dg (L':=[⟨3,none,KZ bb, .many [.pt 1 (.cell 0)]⟩]) ?_ (λe he=>by
   simp only [iG,jF,or_false] at he
   subst he;exact (Dp e3).1)
  refine Sl.SW.opCall Dg (α:={x:List BB×Option Nat×Nat//x.1.Perm l}) (vf:= λx=>Be x.1.2.1 x.1.1.length x.1.2.2) (pf:= λ_=> .pt 3 .slice) (Kf:= λx=>k1 b l bb q0 s0 x.1.1 x.1.2.1 x.1.2.2) (g:=MR) rfl (by kernel_rfl) rfl (λhk x=>⟨Bf.append _ _,Ai2 _ _ _ _ _ _ _ _,?_⟩) (λw hS=>?_) (λx=>?_)
  ·exact Bg.2 ⟨_,rfl,rfl⟩
  ·refine Ape hl hS λst a w' hI h1=>?_
   obtain ⟨e1,e2⟩:=Aph hI.1
   have e3:(Ba (gL st 0) (gL st 1)).length=(gL st 0).length:=Jb hI.1.symm
   refine ⟨⟨(Ba (gL st 0) (gL st 1),a.1,a.2),by simpa using hI.2⟩,?_,?_⟩
   ·show Ending.returned (Be a.1 (gL st 0).length a.2)=Ending.returned (Be a.1 (Ba (gL st 0) (gL st 1)).length a.2)
    rw [e3]
   ·show Af Dg E G w' (k0 b l bb q0 s0++[.row a.1 55 (Ba (gL st 0) (gL st 1)).length a.2 [.ints .i64 ((Ba (gL st 0) (gL st 1)).map (·.1)), .ints .i64 ((Ba (gL st 0) (gL st 1)).map (·.2))]])
    rw [e1,e2,e3]
    exact h1
  ·obtain ⟨⟨l',a,cap⟩,hp⟩:=x
   refine Sl.SW.sub Dg (L':=[⟨4,none,Be a l'.length cap, .pt 3 .slice⟩]) ?_ (λe he=>by
    simp only [iG,jF,or_false] at he
    subst he
    exact nJ _)
   refine pcF (f:=Ai1) FH Try.func67 (ArL (λv p K=>v=Be a l'.length cap∧K=k1 b l bb q0 s0 l' a cap) (λ_ _=>False) b l bb q0 s0 l' a cap) (λv p K w h hS=>?_) (λ_ _ _ h=>False.elim h) ⟨rfl,rfl⟩
   obtain ⟨rfl,rfl⟩:=h
   exact hR l' a cap w hp hS
 exact hgo _ w (Fr.start (n:=Try.f67.ntmps) [(KZ bb, .many [.pt 1 (.cell 0)])] (iQ (by kernel_rfl)) (λx hx=>by
  simp only [iG,jF,or_false] at hx
  subst hx
  simp only [BH,AQ,and_true];exact ⟨_,rfl,rfl⟩) (Aiy _ _ _ _ _)) hS
theorem Aq9 {l l':Bs} (e:l.length=l'.length) {a:Option Nat} {cap:Nat} {v:Value} {pk:PK} (h:DJ (rowB a cap l) v pk):DJ (rowB a cap l') v pk:=by
 cases pk<;>simp only [DJ,rowB,jJ,mE] at h ⊢ <;>first|exact h|(rw [←e];exact h)
abbrev Z7:FuncId:=38
noncomputable abbrev OA:Code:=AP Try.f38
abbrev stV:Value:= .func (.func Yu) #[] #[]
set_option maxRecDepth 100000 in
theorem Apj {b bb:Nat} {l:List BB} {q0:Addr} {s0:Sg} (hl:l.length≤1000) (hb:inB l) {R:Ending→World→Prop} {w:World} (hS:Af Dg E G w (k0 b l bb q0 s0))
 (hR:∀(l':List BB) a cap w',l'.Perm l→MV l'→Af Dg E G w' (k1 b l bb q0 s0 l' a cap)→R (.returned (Be a l'.length cap)) w'):
 Calls Try.prog Z7 #[KZ bb,stV] w R:=by
 refine Ju Try.func38 (c:=OA) (by kernel_rfl) ?_
 have hgo:Sl.SW Dg Try.prog Z7 R OA Try.f38.ntmps E G [.code []] (En 0 [(KZ bb, .many [.pt 1 (.cell 0)]),(stV, .no)]) (k0 b l bb q0 s0):=by
  refine pcF (f:=Z7) FH Try.func38 (Apg (λ_ _ _=>False) (λtd e6 e1 K=>td=[.ops [0,1] 1, .code [1,1]]∧e6=some ⟨6,none,KZ bb, .many [.pt 1 (.cell 0)]⟩∧e1=some ⟨1,none,stV, .no⟩∧K=k0 b l bb q0 s0) b l bb q0 s0)
   (λ_ _ _ _ h=>h.elim) (λtd L K h=>?_) ⟨rfl,rfl,rfl,rfl⟩
  obtain ⟨rfl,e6,e1,rfl⟩:=h
  refine Sl.SW.sub Dg (L':=[⟨6,none,KZ bb, .many [.pt 1 (.cell 0)]⟩,⟨1,none,stV, .no⟩]) ?_ (λe he=>by
   simp only [iG,jF,or_false] at he
   rcases he with rfl|rfl
   ·exact (Dp e6).1
   ·exact (Dp e1).1)
  refine Sl.SW.opCall Dg (α:={x:List BB×Option Nat×Nat//x.1.Perm l}) (vf:= λx=>Be x.1.2.1 x.1.1.length x.1.2.2) (pf:= λ_=> .pt 3 .slice) (Kf:= λx=>k1 b l bb q0 s0 x.1.1 x.1.2.1 x.1.2.2) (g:=Ai1) rfl (by kernel_rfl) rfl (λhk x=>⟨Bf.append _ _,Ai2 _ _ _ _ _ _ _ _,?_⟩) (λw hS=>?_) (λx=>?_)
  ·exact Bg.2 ⟨_,rfl,rfl⟩
  ·exact Api hl hS λl' a cap w' hp h1=>⟨⟨(l',a,cap),hp⟩,rfl,h1⟩
  ·obtain ⟨⟨l',a,cap⟩,hp⟩:=x
   dsimp only at hp
   refine Sl.SW.sub Dg (L':=[⟨7,none,Be a l'.length cap, .pt 3 .slice⟩,⟨1,none,stV, .no⟩]) ?_ (λe he=>by
    simp only [iG,jF,or_false] at he
    rcases he with rfl|rfl
    ·exact nJ _
    ·exact mA _ (mA _ (nJ _)))
   refine pcF (f:=Z7) FH Try.func38 (ArM (λ_ _ _=>False) (λtd e8 e9 e5 K=>td=[.ops [0,1,1] 2, .code [1,1,1]]∧e8=some ⟨8,none,Be a l'.length cap, .pt 3 .slice⟩∧e9=some ⟨9,none,stV, .no⟩∧e5=some ⟨5,none,Be a l'.length cap, .pt 3 .slice⟩∧K=k1 b l bb q0 s0 l' a cap) b l bb q0 s0 l' a cap)
    (λ_ _ _ _ h=>h.elim) (λtd L K h=>?_) ⟨rfl,rfl,rfl,rfl,rfl⟩
   obtain ⟨rfl,e8,e9,e5,rfl⟩:=h
   refine Sl.SW.sub Dg (L':=[⟨8,none,Be a l'.length cap, .pt 3 .slice⟩,⟨9,none,stV, .no⟩,⟨5,none,Be a l'.length cap, .pt 3 .slice⟩]) ?_ (λe he=>by
    simp only [iG,jF,or_false] at he
    rcases he with rfl|rfl|rfl
    ·exact (Dp e8).1
    ·exact (Dp e9).1
    ·exact (Dp e5).1)
   refine Sl.SW.opCall Dg (α:={x:List BB//x.Perm l'∧MV x}) (vf:= λ_=> .tuple #[]) (pf:= λ_=> .no) (Kf:= λx=>k1 b l bb q0 s0 x.1 a cap) (g:=ArK) rfl (by kernel_rfl) rfl (λhk x=>⟨?_,Ai2 _ _ _ _ _ _ _ _,A8⟩) (λw hS=>?_) (λx=>?_)
   ·refine Bf.set (K:=k1 b l bb q0 s0 l' a cap) (i:=3) rfl λv pk h=>?_
    have e:=x.2.1.length_eq
    exact Aq9 e.symm h
   ·refine (AnT (j:=3) hS rfl (λy hy=>hb y (hp.mem_iff.1 hy)) (by rw [hp.length_eq];exact hl)).mono ?_
    rintro e w' ⟨rfl,l2,h1,h2,h3⟩
    exact ⟨⟨l2,h1,h2⟩,rfl,h3⟩
   ·obtain ⟨l2,h1,h2⟩:=x
    refine Sl.SW.sub Dg (L':=[⟨5,none,Be a l'.length cap, .pt 3 .slice⟩]) ?_ (λe he=>by
     simp only [iG,jF,or_false] at he
     subst he
     exact mA _ (mA _ (mA _ (nJ _))))
    refine pcF (f:=Z7) FH Try.func38 (ArN (λv p K=>v=Be a l'.length cap∧K=k1 b l bb q0 s0 l2 a cap) (λ_ _=>False) b l bb q0 s0 l2 a cap l'.length) (λv p K w h hS=>?_) (λ_ _ _ h=>False.elim h) ⟨rfl,rfl⟩
    obtain ⟨rfl,rfl⟩:=h
    rw [←h1.length_eq]
    exact hR l2 a cap w (h1.trans hp) h2 hS
 exact hgo _ w (Fr.start (n:=Try.f38.ntmps) [(KZ bb, .many [.pt 1 (.cell 0)]),(stV, .no)] (iQ (by kernel_rfl)) (λx hx=>by
  simp only [iG,jF,or_false] at hx
  rcases hx with rfl|rfl
  ·simp only [BH,AQ,and_true];exact ⟨_,rfl,rfl⟩
  ·exact A8) (Aiy _ _ _ _ _)) hS
end
end
section
open Go Go.Sl
abbrev Fz:Ct Sg:=⟨some Du,true,[], .agg [.new 55 [some .i64,some .i64], .i .i64, .i .i64, .i .i64, .i .i64, .i .i64, .i .i64, .i .i64, .i .i64]⟩
abbrev mC (o b k:Nat) (t p h x0 x1 x2 x3 x4 x5 x6 x7:Int):Chunk Sg:= .cells o 60 [(.int .i64 t, .no),(.int .i64 p, .no),(.int .i64 h, .no),(.map (some b), .pt k .map),(.int .i64 x0, .no),(.int .i64 x1, .no),(.int .i64 x2, .no),(.int .i64 x3, .no),(.int .i64 x4, .no),(.int .i64 x5, .no),(.int .i64 x6, .no),(.int .i64 x7, .no)]
abbrev zC (z:Nat):Chunk Sg:= .cells z 27 [(.slice none 0 0, .no),(.int .i64 0, .no),(.int .i64 0, .no),(.int .i64 0, .no),(.int .i64 0, .no),(.int .i64 0, .no),(.int .i64 0, .no),(.int .i64 0, .no),(.int .i64 0, .no)]
abbrev sK1 (o b z bb:Nat) (l:List BB) (t p h x0 x1 x2 x3 x4 x5 x6 x7:Int):List (Chunk Sg):=[mC o b 1 t p h x0 x1 x2 x3 x4 x5 x6 x7, .bm b l none,zC z, .cells bb 58 [(.map (some b), .pt 1 .map)]]
theorem Apk (R':Value→Pr→List (Chunk Sg)→Prop) (S0:List Ab→Option Ak→Option Ak→Option Ak→List (Chunk Sg)→Prop) (o:Nat) (ad ad2:Nat→Ad) (s:MS) (t p h:Int) (l:List BB) (x0 x1 x2 x3 x4 x5 x6 x7:Int):
 (run Try.prog Jk [2999998,26,39] 100 (AP Try.f12) Try.f12.results.toList Try.f12.ntmps [.code []] (Kr 0 (Fz.sL ⟨o,0,none⟩ [.st (.mod s)] ad)) (Es.opK 0 o ad2 [.i t, .i p, .i h, .bl l, .i x0, .i x1, .i x2, .i x3, .i x4, .i x5, .i x6, .i x7] (Fz.sK ⟨o,0,none⟩ [.st (.mod s)] ad))).holds R' (λtd L K=>S0 td (Sl.look L 12) (Sl.look L 0) (Sl.look L 2) K)=
 (∀b0_0:Nat,(AV (false) (R' (Value.agg ⟨[kY none 0 0,iX iB (0:Int),iX iB (0:Int),iX iB (0:Int),iX iB (0:Int),iX iB (0:Int),iX iB (0:Int),iX iB (0:Int),iX iB (0:Int)]⟩) (kG) ([jG o 60 [(iX iB t,kG),(iX iB p,kG),(iX iB h,kG),(lC (some (Ad.b (ad2 0))),lG 1 mR),(iX iB x0,kG),(iX iB x1,kG),(iX iB x2,kG),(iX iB x3,kG),(iX iB x4,kG),(iX iB x5,kG),(iX iB x6,kG),(iX iB x7,kG)],kX (Ad.b (ad2 0)) l none,jG b0_0 27 [(kY none 0 0,kG),(iX iB (0:Int),kG),(iX iB (0:Int),kG),(iX iB (0:Int),kG),(iX iB (0:Int),kG),(iX iB (0:Int),kG),(iX iB (0:Int),kG),(iX iB (0:Int),kG),(iX iB (0:Int),kG)]])) (∀b2_0:Nat,(S0 ([Ab.ops [0,1,1] 5,Ab.code [1,1,1]]) (some ⟨12,none,lX (Fn.func 69) ⟨[]⟩ ⟨[kA (some ⟨b2_0,0,none⟩)]⟩,Pr.many [lG 3 (nW 0)]⟩) (some ⟨0,none,kA (some ⟨o,0,none⟩),lG 0 (nW 0)⟩) (some ⟨2,none,kA (some ⟨b0_0,0,none⟩),lG 2 (nW 0)⟩) ([jG o 60 [(iX iB t,kG),(iX iB p,kG),(iX iB h,kG),(lC (some (Ad.b (ad2 0))),lG 1 mR),(iX iB x0,kG),(iX iB x1,kG),(iX iB x2,kG),(iX iB x3,kG),(iX iB x4,kG),(iX iB x5,kG),(iX iB x6,kG),(iX iB x7,kG)],kX (Ad.b (ad2 0)) l none,jG b0_0 27 [(kY none 0 0,kG),(iX iB (0:Int),kG),(iX iB (0:Int),kG),(iX iB (0:Int),kG),(iX iB (0:Int),kG),(iX iB (0:Int),kG),(iX iB (0:Int),kG),(iX iB (0:Int),kG),(iX iB (0:Int),kG)],jG b2_0 58 [(lC (some (Ad.b (ad2 0))),lG 1 mR)]]))))):=by
 kernel_rfl
theorem ArO (R':Value→Pr→List (Chunk Sg)→Prop) (S0:List Ab→List (Chunk Sg)→Prop) (o b z bb:Nat) (l l':List BB) (a:Option Nat) (cap:Nat) (t p h x0 x1 x2 x3 x4 x5 x6 x7:Int):
 (run Try.prog Jk [2999998] 100 (AP Try.f12) Try.f12.results.toList Try.f12.ntmps [.ops [0,1,1] 6, .code [1,1,1]] [⟨13,none,Be a l'.length cap, .pt 4 .slice⟩,⟨0,none, .pointer (some ⟨o,0,none⟩), .pt 0 (.cell 0)⟩,⟨2,none, .pointer (some ⟨z,0,none⟩), .pt 2 (.cell 0)⟩] (sK1 o b z bb l t p h x0 x1 x2 x3 x4 x5 x6 x7++[rowB a cap l'])).holds R' (λtd L K=>S0 td K)=
 (R' (Value.agg ⟨[kY (mJ (λb=>⟨b,0,none⟩) a) (iH l') cap,iX iB x0,iX iB x1,iX iB x2,iX iB x3,iX iB x4,iX iB x5,iX iB x6,iX iB x7]⟩) (Pr.many [lG 4 oI,kG,kG,kG,kG,kG,kG,kG,kG]) ([jG o 60 [(iX iB t,kG),(iX iB p,kG),(iX iB h,kG),(lC (some b),lG 1 mR),(iX iB x0,kG),(iX iB x1,kG),(iX iB x2,kG),(iX iB x3,kG),(iX iB x4,kG),(iX iB x5,kG),(iX iB x6,kG),(iX iB x7,kG)],kX b l none,jG z 27 [(kY (mJ (λb=>⟨b,0,none⟩) a) (iH l') cap,lG 4 oI),(iX iB x0,kG),(iX iB x1,kG),(iX iB x2,kG),(iX iB x3,kG),(iX iB x4,kG),(iX iB x5,kG),(iX iB x6,kG),(iX iB x7,kG)],jG bb 58 [(lC (some b),lG 1 mR)],lA a 55 (iH l') cap [Au.ints iB (mV (λx=>x.1) l'),Au.ints iB (mV (λx=>x.2) l')]])):=by
 kernel_rfl
theorem Wi:∀(l:Bs) (b:Int×Int),(insL l b).Perm (b::l)
 |[],b=>oH _
 |x::r,b=>by
  unfold insL
  cases decide (x.1>b.1) with
  |true=>exact oH _
  |false=>exact ((Wi r b).cons x).trans (List.Perm.swap b x r)
theorem Ai3:∀(l:Bs) (b:Int×Int),MV l→MV (insL l b)
 |[],b,_=>List.pairwise_singleton _ _
 |x::r,b,h=>by
  obtain ⟨h1,h2⟩:=List.pairwise_cons.1 h
  unfold insL
  cases hx:decide (x.1>b.1) with
  |true=>
   have hx:=of_decide_eq_true hx
   refine List.pairwise_cons.2 ⟨λy hy=>?_,h⟩
   rcases iG.1 hy with rfl|hy
   ·show b.1≤y.1;omega
   ·have:=h1 y hy;show b.1≤y.1;omega
  |false=>
   have hx:=of_decide_eq_false hx
   refine List.pairwise_cons.2 ⟨λy hy=>?_,Ai3 r b h2⟩
   rcases iG.1 ((Wi r b).mem_iff.1 hy) with rfl|hy
   ·show x.1≤y.1;omega
   ·exact h1 y hy
theorem mem3 {a b c:Ak} {L:List Ak} (ha:a∈L) (hb:b∈L) (hc:c∈L):∀e∈[a,b,c],e∈L:= λe he=>by
 simp only [iG,jF,or_false] at he
 rcases he with rfl|rfl|rfl
 ·exact ha
 ·exact hb
 ·exact hc
theorem AkL (l:Bs):(AY l).Perm l∧MV (AY l):=by
 have key:∀(l a:Bs),MV a→(l.foldl insL a).Perm (a++l)∧MV (l.foldl insL a):=by
  intro l
  induction l with
  |nil=>intro a ha;exact ⟨by simp,ha⟩
  |cons x l ih=>
   intro a ha
   obtain ⟨h1,h2⟩:=ih (insL a x) (Ai3 a x ha)
   refine ⟨h1.trans ?_,h2⟩
   exact ((Wi a x).append_right l).trans List.perm_middle.symm
 have h:=key l [] List.Pairwise.nil
 exact ⟨h.1,h.2⟩
theorem Amt:∀{l:Bs},Dk l→∀{x y:Int×Int},x∈l→y∈l→x.1=y.1→x=y
 |[],_,x,_,hx,_,_=>by cases hx
 |z::l,h,x,y,hx,hy,e=>by
  obtain ⟨h1,h2⟩:=lF.1 (show (z.1::l.map (·.1)).Nodup from h)
  rcases iG.1 hx with e1|hx'<;>rcases iG.1 hy with e2|hy'
  ·rw [e1,e2]
  ·subst e1;exact absurd (kN.2 ⟨y,hy',e.symm⟩) h1
  ·subst e2;exact absurd (kN.2 ⟨x,hx',e⟩) h1
  ·exact Amt h2 hx' hy' e
theorem Apl {l l':Bs} (hn:Dk l) (hp:l'.Perm l) (ho:MV l'):l'=AY l:=by
 obtain ⟨h1,h2⟩:=AkL l
 refine List.Perm.eq_of_pairwise (le:= λx y:Int×Int=>x.1≤y.1) (λx y hx hy a b=>Amt hn (hp.mem_iff.1 hx) (h1.mem_iff.1 hy) (Int.le_antisymm a b)) ho h2 (hp.trans h1.symm)
def Ho (s:MS):LI×LI×Int×Int×Int×Int×Int×Int×Int×Int:=((AY s.l).map (·.1),(AY s.l).map (·.2),s.r0,s.r1,s.r2,s.r3,s.r4,s.r5,s.r6,s.r7)
def Aff:Entry Sg:=BU Fz Ho (λs=>[Dk s.l,s.l.length≤1000,inB s.l])
abbrev Z8:FuncId:=12
noncomputable abbrev saB:Code:=AP Try.f12
noncomputable abbrev saN:Nat:=Try.f12.ntmps
section
variable {E:Ev} {G:Hp} {o b z bb:Nat} {l:List BB} {t p h x0 x1 x2 x3 x4 x5 x6 x7:Int} {w:World}
theorem AqA (a:Option Nat) (cap:Nat) (l':Bs):Dz (sK1 o b z bb l t p h x0 x1 x2 x3 x4 x5 x6 x7++[rowB a cap l']):=QE (by simp [sK1,mC,zC,rowB,cellsAll,AQ,BH,DJ])
set_option maxRecDepth 100000 in
theorem AqB (hl:l.length≤1000) (hb:inB l) (hS:Af Dg E G w (sK1 o b z bb l t p h x0 x1 x2 x3 x4 x5 x6 x7)):
 Calls Try.prog Z7 #[KZ bb,stV] w λen w'=>∃x:{x:List BB×Option Nat×Nat//x.1.Perm l∧MV x.1},en= .returned (Be x.1.2.1 x.1.1.length x.1.2.2)∧Af Dg E G w' (sK1 o b z bb l t p h x0 x1 x2 x3 x4 x5 x6 x7++[rowB x.1.2.1 x.1.2.2 x.1.1]):=by
 let A:LL→CZ:= λ_ Y k=>Sl.star (([mC o b 1 t p h x0 x1 x2 x3 x4 x5 x6 x7,zC z]:List (Chunk Sg)).map (den Dg G)) Y k
 have h1:Af Dg E G w ([mC o b 1 t p h x0 x1 x2 x3 x4 x5 x6 x7,zC z]++[.bm b l none, .cells bb 58 [(.map (some b), .pt 0 .map)]]):=Af.ord Dg hS [0,2,1,3] rfl rfl
 have h2:=Af.Ank Dg (c:= .obj ⟨0,0,none⟩ (.any A [])) h1 λY k hx=>hx
 have h3:Af Dg E G w (k0 b l bb ⟨0,0,none⟩ (.any A [])):=Af.ord Dg h2 [1,2,0] rfl rfl
 refine Apj hl hb h3 λl' a cap w' hp ho h4=>⟨⟨(l',a,cap),hp,ho⟩,rfl,?_⟩
 obtain ⟨_,h5⟩:=Af.AgY Dg (α:=Unit) (k0:= λ_=>mC o b 1 t p h x0 x1 x2 x3 x4 x5 x6 x7) (ks:= λ_=>[zC z]) h4 (k:=2) (c:= .obj ⟨0,0,none⟩ (.any A [])) rfl (by funext Y h;exact propext ⟨λh=>⟨(),h⟩, λ⟨_,h⟩=>h⟩)
 exact Af.ord Dg h5 [2,0,4,1,3] rfl rfl
set_option maxRecDepth 100000 in
theorem ArQ (ad0:Ad) (hn:Dk l) {l':Bs} {a:Option Nat} {cap:Nat} (hp:l'.Perm l) (ho:MV l'):
 Sl.SW Dg Try.prog Z8 (Post Dg E G (Fz.outC (Ho ⟨t,p,h,l,x0,x1,x2,x3,x4,x5,x6,x7⟩)) (Fz.nwC ⟨o,0,none⟩ [.st (.mod ⟨t,p,h,l,x0,x1,x2,x3,x4,x5,x6,x7⟩)] (Ho ⟨t,p,h,l,x0,x1,x2,x3,x4,x5,x6,x7⟩)) (Fz.mksC (Ho ⟨t,p,h,l,x0,x1,x2,x3,x4,x5,x6,x7⟩))) saB saN E G [.ops [0,1,1] 6, .code [1,1,1]] [⟨13,none,Be a l'.length cap, .pt 4 .slice⟩,⟨0,none, .pointer (some ⟨o,0,none⟩), .pt 0 (.cell 0)⟩,⟨2,none, .pointer (some ⟨z,0,none⟩), .pt 2 (.cell 0)⟩] (sK1 o b z bb l t p h x0 x1 x2 x3 x4 x5 x6 x7++[rowB a cap l']):=by
 refine pcF (f:=Z8) FH Try.func12 (ArO (λv p' K=>v= .agg #[Be a l'.length cap, .int .i64 x0, .int .i64 x1, .int .i64 x2, .int .i64 x3, .int .i64 x4, .int .i64 x5, .int .i64 x6, .int .i64 x7]∧∃c2,K=[mC o b 1 t p h x0 x1 x2 x3 x4 x5 x6 x7, .bm b l none,c2, .cells bb 58 [(.map (some b), .pt 1 .map)],rowB a cap l']) (λ_ _=>False) o b z bb l l' a cap t p h x0 x1 x2 x3 x4 x5 x6 x7) (λv p' K w hv hS=>?_) (λ_ _ _ h=>False.elim h) ⟨rfl,_,rfl⟩
 obtain ⟨rfl,c2,rfl⟩:=hv
 have e:=Apl hn hp ho
 subst e
 have h1:Af Dg E G w [mC o b 1 t p h x0 x1 x2 x3 x4 x5 x6 x7, .bm b l none, .row a 55 ((AY l).map (·.1)).length cap [.ints .i64 ((AY l).map (·.1)), .ints .i64 ((AY l).map (·.2))]]:=by
  rw [jV]
  exact Af.ord Dg hS [0,1,4] rfl rfl
 refine ⟨[(a,cap)],⟨trivial,trivial⟩,?_,?_⟩
 ·show _=Ending.returned (.agg #[Be a ((AY l).map (·.1)).length cap, .int .i64 x0, .int .i64 x1, .int .i64 x2, .int .i64 x3, .int .i64 x4, .int .i64 x5, .int .i64 x6, .int .i64 x7])
  rw [jV]
 ·have h2:Sat E G w ((Es.bk o (λ_=>{ad0 with b:=b}) 1 [.i t, .i p, .i h, .bl l, .i x0, .i x1, .i x2, .i x3, .i x4, .i x5, .i x6, .i x7]).map (den Dg G)++[den Dg G (.row a 55 ((AY l).map (λx:Int×Int=>x.1)).length cap [.ints .i64 ((AY l).map (λx:Int×Int=>x.1)), .ints .i64 ((AY l).map (λx:Int×Int=>x.2))])]):=h1
  have hR:Es.R (⟨t,p,h,l,x0,x1,x2,x3,x4,x5,x6,x7⟩:MS) [.i t, .i p, .i h, .bl l, .i x0, .i x1, .i x2, .i x3, .i x4, .i x5, .i x6, .i x7]:=show D6 (⟨t,p,h,l,x0,x1,x2,x3,x4,x5,x6,x7⟩:MS) (⟨t,p,h,l,x0,x1,x2,x3,x4,x5,x6,x7⟩:MS) from rfl
  have h2:=Bx.fold Dg Gh rfl hR h2
  exact h2
end
set_option maxRecDepth 100000 in
theorem Amu:DV Z8 Aff:=by
 refine O9 Dg (mk:=[]) FH (I:=[]) Try.func12 mix (B:=saB) (by kernel_rfl) rfl (by kernel_rfl) 0 λp0 s hbd hp ad E G=>?_
 have hp0:Dk s.l:=hp _ (.head _)
 have hp1:s.l.length≤1000:=hp _ (.tail _ (.head _))
 have hp2:inB s.l:=hp _ (.tail _ (.tail _ (.head _)))
 show Sl.SW Dg Try.prog Z8 (Post Dg E G (Fz.outC (Ho s)) (Fz.nwC p0 [.st (.mod s)] (Ho s)) (Fz.mksC (Ho s))) saB saN E G [.code []] (Fz.sL p0 [.st (.mod s)] ad) (Fz.sK p0 [.st (.mod s)] ad)
 refine Bx.addr Dg Gh 0 (p0:=p0) (s:=s) rfl λo e=>?_
 subst e
 refine Bx.QK Dg Gh 0 (s:=s) rfl λo' ad2 y e hfy hRy=>?_
 injection e with e;subst e
 have key:EF (IA Es.l) λy=>Es.R s y→Sl.SW Dg Try.prog Z8 (Post Dg E G (Fz.outC (Ho s)) (Fz.nwC ⟨o,0,none⟩ [.st (.mod s)] (Ho s)) (Fz.mksC (Ho s))) saB saN E G [.code []] (Kr 0 (Fz.sL ⟨o,0,none⟩ [.st (.mod s)] ad)) (Es.opK 0 o ad2 y (Fz.sK ⟨o,0,none⟩ [.st (.mod s)] ad)):=by
  intro t p h l x0 x1 x2 x3 x4 x5 x6 x7 hR
  have e:(⟨t,p,h,l,x0,x1,x2,x3,x4,x5,x6,x7⟩:MS)=s:=hR
  subst e
  refine pcF (f:=Z8) FH Try.func12 (Apk (λ_ _ _=>False) (λtd e12 e0 e2 K=>∃z bb,td=[.ops [0,1,1] 5, .code [1,1,1]]∧e12=some ⟨12,none,KZ bb, .many [.pt 3 (.cell 0)]⟩∧e0=some ⟨0,none, .pointer (some ⟨o,0,none⟩), .pt 0 (.cell 0)⟩∧e2=some ⟨2,none, .pointer (some ⟨z,0,none⟩), .pt 2 (.cell 0)⟩∧K=sK1 o (ad2 0).b z bb l t p h x0 x1 x2 x3 x4 x5 x6 x7) o ad ad2 _ t p h l x0 x1 x2 x3 x4 x5 x6 x7) (λ_ _ _ _ h=>False.elim h) (λtd L K hz=>?_) (λz=>⟨λh=>(by cases h), λ_ bb=>⟨z,bb,rfl,rfl,rfl,rfl,rfl⟩⟩)
  obtain ⟨z,bb,rfl,e12,e0,e2,rfl⟩:=hz
  refine Sl.SW.sub Dg (L':=[⟨12,none,KZ bb, .many [.pt 3 (.cell 0)]⟩,⟨0,none, .pointer (some ⟨o,0,none⟩), .pt 0 (.cell 0)⟩,⟨2,none, .pointer (some ⟨z,0,none⟩), .pt 2 (.cell 0)⟩]) ?_ (mem3 (Dp e12).1 (Dp e0).1 (Dp e2).1)
  refine Sl.SW.opCall Dg (α:={x:List BB×Option Nat×Nat//x.1.Perm l∧MV x.1}) (vf:= λx=>Be x.1.2.1 x.1.1.length x.1.2.2) (pf:= λ_=> .pt 4 .slice) (Kf:= λx=>sK1 o (ad2 0).b z bb l t p h x0 x1 x2 x3 x4 x5 x6 x7++[rowB x.1.2.1 x.1.2.2 x.1.1]) (g:=Z7) rfl (by kernel_rfl) rfl (λhk x=>⟨Bf.append _ _,AqA _ _ _,?_⟩) (λw hS=>AqB hp1 hp2 hS) (λx=>?_)
  ·exact Bg.2 ⟨_,rfl,rfl⟩
  ·obtain ⟨⟨l',a,cap⟩,h1,h2⟩:=x
   dsimp only at h1 h2
   refine Sl.SW.sub Dg (L':=[⟨13,none,Be a l'.length cap, .pt 4 .slice⟩,⟨0,none, .pointer (some ⟨o,0,none⟩), .pt 0 (.cell 0)⟩,⟨2,none, .pointer (some ⟨z,0,none⟩), .pt 2 (.cell 0)⟩]) (ArQ (ad2 0) hp0 h1 h2) (mem3 (nJ _) (mA _ (mA _ (nJ _))) (mA _ (mA _ (mA _ (nJ _)))))
 exact key.at y hfy hRy
def Afg:Tb:=(Z8,Aff)::AnH
theorem Wj:D7 Afg:=Ea Amu AnI
end
section
open Go.Sl
theorem ArR:(BN ⟨1,8,10,[],0,0,0,0,0,0,0,0⟩ 1 20 0 0 1024 32&&BN ⟨1,8,10,[],0,0,0,0,0,0,0,0⟩ 1 20 0 0 1040 32&&BN ⟨1,8,10,[],0,0,0,0,0,0,0,0⟩ 1 20 0 3 0 0&&!BN ⟨1,8,10,[],0,0,0,0,0,0,0,0⟩ 1 20 0 0 1024 20)=true:=by kernel_rfl
def AnU:Bool:=true
def Ai4:Bool:=(let r0:MS:={t:=1,p:=8,h:=10,l:=[],r0:=0,r1:=0,r2:=0,r3:=0,r4:=0,r5:=0,r6:=0,r7:=0};(let r4:Bool:=BN r0 1 20 0 0 1024 32;r4&&BN r0 1 20 0 0 1040 32&&BN r0 1 20 0 3 0 0&&!BN r0 1 20 0 0 1024 20))
abbrev Apm:Ct Sg:=⟨none,false,[], .b⟩
def Z9:Entry Sg:=BU Apm AnU ([])
theorem AnV:Ai4=AnU:=by
 exact ArR
theorem Afh:DV 7 Z9:=
 EL Dg Wj (I:=[2999998]) Try.func7 mix (B:=AP Try.f7) (by kernel_rfl) rfl (by kernel_rfl) 400
  λ_ hb hp=>⟨(Ai4),(.bind ({t:=1,p:=8,h:=10,l:=[],r0:=0,r1:=0,r2:=0,r3:=0,r4:=0,r5:=0,r6:=0,r7:=0}) λr0:MS=>(.need ((0:Int)=0) (.bind (BN r0 1 20 0 0 1024 32) λr4:Bool=>(.need (Dk (MS.l r0)) (.need (r4=true→Dk (MS.l r0)) (.need ((r4&&BN r0 1 20 0 0 1040 32)=true→Dk (MS.l r0)) (.need ((r4&&BN r0 1 20 0 0 1040 32&&BN r0 1 20 0 3 0 0)=true→Dk (MS.l r0)) .t))))))), λ_ _ _=>by kernel_rfl,(λr0 e0=>⟨(by first|(subst_vars;exact lK)|(intro;subst_vars;exact lK)|rfl), λz1=>(λr4 e4=>⟨(by first|(subst_vars;exact lK)|(intro;subst_vars;exact lK)|rfl), λz5=>⟨(by first|(subst_vars;exact lK)|(intro;subst_vars;exact lK)|rfl), λz6=>⟨(by first|(subst_vars;exact lK)|(intro;subst_vars;exact lK)|rfl), λz7=>⟨(by first|(subst_vars;exact lK)|(intro;subst_vars;exact lK)|rfl), λz8=>trivial⟩⟩⟩⟩)⟩),AnV⟩
def Ai5:Tb:=(7,Z9)::Afg
theorem Yv:D7 Ai5:=Ea Afh Wj
def Acf (xs ys:LI) (s0 s1 s2 s3 s4 s5 s6 s7:Int):Bool:=decide (xs.length≤60)
def AkM (xs ys:LI) (s0 s1 s2 s3 s4 s5 s6 s7:Int):Bool:=decide ((↑(iH xs):Int)≤60)
abbrev AqC:Ct Sg:=⟨none,false,[.agg [.ro [some .i64,some .i64], .i .i64, .i .i64, .i .i64, .i .i64, .i .i64, .i .i64, .i .i64, .i .i64]], .b⟩
def AdP:Entry Sg:=BU AqC Acf (λ_ _ _ _ _ _ _ _ _ _=>[])
theorem Apn (xs ys:LI) (s0 s1 s2 s3 s4 s5 s6 s7:Int) (hl0:xs.length≤9223372036854775807):AkM xs ys s0 s1 s2 s3 s4 s5 s6 s7=(Acf xs ys s0 s1 s2 s3 s4 s5 s6 s7):=by
 show decide ((↑(iH xs):Int)≤(60:Int))=decide (xs.length≤60)
 by_cases h:xs.length≤60
 ·rw [decide_eq_true h,decide_eq_true (by omega)]
 ·rw [decide_eq_false h,decide_eq_false (by omega)]
theorem Ai6:DV 6 AdP:=
 EL Dg Yv (I:=[]) Try.func6 mix (B:=AP Try.f6) (by kernel_rfl) rfl (by kernel_rfl) 400
  λ_ xs ys s0 s1 s2 s3 s4 s5 s6 s7 hb hp=>have hl0:xs.length≤9223372036854775807:=hb.1.1;⟨(AkM xs ys s0 s1 s2 s3 s4 s5 s6 s7), .t, λ_ _ _=>by kernel_rfl,trivial,Apn xs ys s0 s1 s2 s3 s4 s5 s6 s7 hl0⟩
def AkN:Tb:=(6,AdP)::Ai5
theorem SX:D7 AkN:=Ea Ai6 Yv
end
section
open Go Go.Sl
structure Rt (t p s P:Int):Prop where
 r:Ac t p s=true
 tp:1≤t∧t≤16
 pp:4≤p∧p≤1024
 ss:10≤s∧s≤20
 eP:P=2^s.toNat
 P0:1024≤P∧P≤1048576
 pg:BM t p s=P
theorem PT {t p s:Int} (h:Ac t p s=true):Rt t p s (2^s.toNat):=by
 have h':=PH.1 h
 refine ⟨h,h'.1,h'.2.1,h'.2.2,rfl,⟨?_,?_⟩,Aqt h⟩
 ·have:=WG (show 10≤s.toNat by omega);omega
 ·have:=WG (show s.toNat≤20 by omega);omega
theorem JJ {p P:Int} (hp:4≤p∧p≤1024) (hP:1024≤P∧P≤1048576):4096≤P*p∧P*p≤1073741824:=by
 constructor
 ·have:=Int.mul_le_mul hP.1 hp.1 (by decide) (by omega);omega
 ·have:=Int.mul_le_mul hP.2 hp.2 (by omega) (by decide);omega
theorem MW {t p s P:Int} (h:Rt t p s P):DW t p s=P*p∧EG t p s=P*p:=by
 have:=JJ h.pp h.P0
 unfold DW EG
 rw [JG,h.pg,h.r,Hm (by omega)]
 exact ⟨rfl,rfl⟩
theorem Wl {t p s:Int} (h:Ac t p s=false):DW t p s=0∧EG t p s=0:=by
 unfold DW EG
 rw [JG,Ae1 h,h,Int.zero_mul]
 exact ⟨rfl,rfl⟩
theorem Ai7 {t p s P:Int} (h:Rt t p s P):BZ t p s=0:=by rw [KJ,h.r];rfl
theorem AnX {t p s:Int} (h:Ac t p s=false):BZ t p s=1:=by rw [KJ,h];rfl
theorem Apo {t p s P z:Int} (h:Rt t p s P) (hz:1≤z∧z≤P*p):H6 t p s z=((z-1)/P+1,true)∧Ia t p s z=((z-1)/P+1,true):=by
 have hm:=JJ h.pp h.P0
 have hP0:=h.P0
 have hss:=h.ss
 have e1:Int.fdiv (z-1) P=(z-1)/P:=Int.fdiv_eq_ediv_of_nonneg _ (by omega)
 have e2:Int.tdiv z P=z/P:=Int.tdiv_eq_ediv_of_nonneg (by omega)
 have e3:Int.tmod z P=z%P:=Int.tmod_eq_emod_of_nonneg (by omega)
 have h4:=Int.emod_nonneg z (show P≠0 by omega)
 have h5:=Int.emod_lt_of_pos z (show 0<P by omega)
 have h6:=Int.mul_ediv_add_emod z P
 have h7:0≤z/P:=Int.ediv_nonneg (by omega) (by omega)
 have h8:z/P≤z:=Int.ediv_le_self _ (by omega)
 have key:(z-1)/P+1=if 0<z%P then z/P+1 else z/P:=by
  split
  ·congr 1
   have e:z-1=P*(z/P)+(z%P-1):=by omega
   rw [e,Int.mul_add_ediv_left _ _ (by omega),Int.ediv_eq_zero_of_lt (a:=z%P-1) (by omega) (by omega)];omega
  ·have e:z-1=P*(z/P-1)+(P-1):=by rw [Int.mul_sub];omega
   rw [e,Int.mul_add_ediv_left _ _ (by omega),Int.ediv_eq_zero_of_lt (a:=P-1) (by omega) (by omega)];omega
 have hk1:0≤(z-1)/P:=Int.ediv_nonneg (by omega) (by omega)
 have hk2:(z-1)/P≤z-1:=Int.ediv_le_self _ (by omega)
 constructor
 ·have hc:(decide (z<1)||decide (z>DW t p s))=false:=by
   rw [(MW h).1];simp;omega
  unfold H6
  rw [hc]
  simp only [cond_false]
  rw [show min s.toNat 64=s.toNat by omega,←h.eP,Hm (n:=z-1) (by omega),e1,Hm (by omega)]
 ·have hc:(!Ac t p s||decide (z<1)||decide (z>EG t p s))=false:=by
   rw [(MW h).2,h.r];simp;omega
  unfold Ia
  rw [hc]
  simp only [cond_false]
  rw [h.pg,e2,e3,key,Hm (n:=z/P) (by omega),Hm (n:=z/P+1) (by omega)]
  by_cases hg:0<z%P
  ·simp [hg]
  ·simp [hg]
theorem AnY {t p s z:Int} (h:¬(Ac t p s=true∧1≤z∧z≤EG t p s)):H6 t p s z=(0,false)∧Ia t p s z=(0,false):=by
 have hb:DW t p s=EG t p s:=by
  cases hr:Ac t p s with
  |false=>rw [(Wl hr).1,(Wl hr).2]
  |true=>rw [(MW (PT hr)).1,(MW (PT hr)).2]
 have hz:Ac t p s=false→EG t p s=0:= λhr=>(Wl hr).2
 constructor
 ·have hc:(decide (z<1)||decide (z>DW t p s))=true:=by
   rw [hb]
   simp only [lU,decide_eq_true_eq]
   cases hr:Ac t p s with
   |false=>have:=hz hr;omega
   |true=>have:¬(1≤z∧z≤EG t p s):= λh'=>h ⟨hr,h'⟩
          omega
  unfold H6
  rw [hc];rfl
 ·have hc:(!Ac t p s||decide (z<1)||decide (z>EG t p s))=true:=by
   cases hr:Ac t p s with
   |false=>simp
   |true=>have:¬(1≤z∧z≤EG t p s):= λh'=>h ⟨hr,h'⟩
          simp only [kL,jW,lU,decide_eq_true_eq];omega
  unfold Ia
  rw [hc];rfl
theorem Apq (t p s z:Int):H6 t p s z=Ia t p s z:=by
 by_cases h:Ac t p s=true∧1≤z∧z≤EG t p s
 ·have hr:=PT h.1
  rw [(MW hr).2] at h
  obtain ⟨a,b⟩:=Apo hr h.2
  rw [a,b]
 ·obtain ⟨a,b⟩:=AnY h
  rw [a,b]
theorem Amv (s:Int):GU s=EO s:=by
 simp only [GU,EO,Aey]
theorem AqD (s z:Int):MP s z=Jq s z:=by
 unfold MP Jq
 cases hz:decide (z<1) with
 |true=>rfl
 |false=>
  simp only [cond_false,Ih,Amv]
  cases hf:MN (EO s) z with
  |none=>rfl
  |some k=>
   have h0:¬((0:Int)>LJ (some k)):=by simp only [LJ];omega
   rw [if_neg h0]
   simp [LJ,AfZ]
theorem AjK (k a b:Int):Hq k a b=Dh k a b:=by
 by_cases hk:k=1∨k=2∨k=3∨k=4∨k=5∨k=6∨k=7∨k=8∨k=9
 ·rcases hk with rfl|rfl|rfl|rfl|rfl|rfl|rfl|rfl|rfl<;>simp [Hq,Dh,JH]<;>(cases h:a==0<;>simp [bne,h])
 ·have h1:(k==1)=false:=by simp;omega
  have h2:(k==2)=false:=by simp;omega
  have h3:(k==3)=false:=by simp;omega
  have h4:(k==4)=false:=by simp;omega
  have h5:(k==5)=false:=by simp;omega
  have h6:(k==6)=false:=by simp;omega
  have h7:(k==7)=false:=by simp;omega
  have h8:(k==8)=false:=by simp;omega
  have h9:(k==9)=false:=by simp;omega
  simp [Hq,Dh,JH,h1,h2,h3,h4,h5,h6,h7,h8,h9]
theorem SY (t p h z:Int):BI t p h z=BJ t p h z:=by
 unfold BI BJ
 rw [Apq,AqD,Aey,JG]
 have e:(!(Ia t p h z).2)=(!Ac t p h||decide (z<1)||decide (z>EG t p h)):=by
  unfold Ia
  cases (!Ac t p h||decide (z<1)||decide (z>EG t p h)) with
  |true=>rfl
  |false=>simp only [cond_false];cases decide (Int.tmod z (BM t p h)>0)<;>rfl
 rw [e]
end
section
open Go Go.Sl
theorem AnZ {t p h a z:Int} (hr:Ac t p h=true):JI t p h a z=true↔1≤z∧(2:Int)^h.toNat≤a∧a+z≤(2:Int)^h.toNat+(2:Int)^h.toNat*p:=by
 have h1:=PT hr
 have h2:=JJ h1.pp h1.P0
 have h3:=h1.P0
 unfold JI
 rw [JG,h1.pg,(MW h1).1]
 generalize (2:Int)^h.toNat=P at*
 generalize P*p=B at*
 simp only [iE,decide_eq_true_eq]
 constructor
 ·rintro ⟨⟨⟨g1,g2⟩,g3⟩,g4⟩
  rw [Hm (n:=P+B) (by omega),Hm (n:=P+B-z) (by omega)] at g4
  omega
 ·rintro ⟨g1,g2,g3⟩
  rw [Hm (n:=P+B) (by omega),Hm (n:=P+B-z) (by omega)]
  omega
theorem AqE {t p h a z:Int} (hr:Ac t p h=true):Ui t p h a z=true↔1≤z∧(2:Int)^h.toNat≤a∧a+z≤(2:Int)^h.toNat+(2:Int)^h.toNat*p:=by
 have h1:=PT hr
 have h2:=JJ h1.pp h1.P0
 have h3:=h1.P0
 have h4:=h1.pp
 unfold Ui AoP
 rw [h1.pg,Hm (n:=p+1) (by omega),show (2:Int)^h.toNat*(p+1)=2^h.toNat*p+2^h.toNat by rw [Int.mul_add,Int.mul_one]]
 generalize (2:Int)^h.toNat=P at*
 generalize P*p=B at*
 rw [Hm (n:=B+P) (by omega)]
 simp only [iE,decide_eq_true_eq]
 constructor
 ·rintro ⟨⟨⟨g1,g2⟩,g3⟩,g4⟩
  rw [Hm (n:=B+P-a) (by omega)] at g4
  omega
 ·rintro ⟨g1,g2,g3⟩
  rw [Hm (n:=B+P-a) (by omega)]
  omega
theorem Asv {t p h a z:Int} (hr:Ac t p h=true):Ui t p h a z=JI t p h a z:=by
 rw [mS,AnZ hr,AqE hr]
theorem in_lt {t p h a z:Int} (hr:Ac t p h=true) (hi:JI t p h a z=true):1≤z∧1024≤a∧a+z≤1075838976:=by
 have h1:=PT hr
 have h2:=JJ h1.pp h1.P0
 have h3:=h1.P0
 have:=(AnZ hr).1 hi
 omega
theorem Apr {t p h:Int} (hr:Ac t p h=true) {x y:Int×Int} (hx:JI t p h x.1 x.2=true) (hy:JI t p h y.1 y.2=true):Ed x.1 x.2 y.1 y.2=true↔x.1<y.1+y.2∧y.1<x.1+x.2:=by
 have h1:=in_lt hr hx
 have h2:=in_lt hr hy
 unfold Ed
 rw [Hm (n:=y.1+y.2) (by omega),Hm (n:=x.1+x.2) (by omega)]
 simp only [iE,decide_eq_true_eq]
theorem AdQ {l:Bs} {x:Int×Int} (h:x ∉ l):He l x=l++[x]:=by
 unfold He JM
 have:l.any (NP x)=false:=by
  rw [List.any_eq_false]
  intro y hy e
  rw [JR] at e
  exact h (e▸hy)
 rw [this];rfl
theorem AdR {l:Bs} {x y:Int×Int}:y∈La l x↔y∈l∧y≠x:=by
 unfold La
 rw [mD]
 constructor
 ·rintro ⟨h1,h2⟩
  refine ⟨h1, λe=>?_⟩
  rw [(JR).2 e.symm] at h2;cases h2
 ·rintro ⟨h1,h2⟩
  refine ⟨h1,?_⟩
  cases he:NP x y with
  |false=>rfl
  |true=>exact absurd (JR.1 he).symm h2
theorem AqF (l:Bs) (x:Int×Int):(La l x).Sublist l:=List.filter_sublist
theorem ArS {l:Bs} (h:Dk l) (x:Int×Int):Dk (La l x):=List.Nodup.sublist ((AqF l x).map _) h
theorem ArT {l:Bs} (h:Dk l) {x:Int×Int} (hx:∀y∈l,y.1≠x.1):Dk (He l x):=by
 rw [AdQ (λhm=>hx x hm rfl)]
 unfold Dk
 rw [jD,List.nodup_append]
 refine ⟨h,by simp, λa ha b hb=>?_⟩
 obtain ⟨y,hy,rfl⟩:=kN.1 ha
 simp only [iD,kD,jR] at hb
 subst hb
 exact hx y hy
theorem AsK {l:Bs} (h:Dk l):l.Nodup:=(List.pairwise_map.1 h).imp λhne e=>hne (congrArg _ e)
theorem MX (l:Bs):(AY l).Perm l:=(AkL l).1
theorem ArU {l:Bs} {x:Int×Int} (h:x ∉ l):AY (He l x)=insL (AY l) x:=by rw [AdQ h,AeS]
theorem Asw {l:Bs} (h:Dk l):(AY l).Nodup:=(MX l).nodup_iff.2 (AsK h)
theorem ArV {l:Bs} {i:Nat} (h:i<(AY l).length):((AY l).map (·.1)).getD i 0=((AY l)[i]).1∧((AY l).map (·.2)).getD i 0=((AY l)[i]).2:=by
 simp [iC,iM,iK h]
theorem Ai8 {l:Bs} (hn:Dk l) {a:Int} (h:(atR l a).2.2=true):∃x:Int×Int,x∈l∧x.1=a∧atR l a=(x.1,x.2,true)∧0≤BK ((AY l).map (·.1)) a∧(AY l)[(BK ((AY l).map (·.1)) a).toNat]? =some x:=by
 unfold atR at h ⊢
 obtain ⟨x,hx⟩:=Option.isSome_iff_exists.1 h
 have hm:=List.mem_of_find?_eq_some hx
 have he:x.1=a:=by simpa using List.find?_some hx
 rw [hx]
 refine ⟨x,hm,he,rfl,?_⟩
 have hs:x∈AY l:=(MX l).mem_iff.2 hm
 cases hf:((AY l).map (·.1)).findIdx? (· ==a) with
 |none=>
  rw [mQ] at hf
  have:=hf x.1 (kN.2 ⟨x,hs,rfl⟩)
  simp [he] at this
 |some i=>
  have e:BK ((AY l).map (·.1)) a=(i:Int):=by unfold BK;rw [hf]
  rw [e]
  rw [lQ] at hf
  obtain ⟨hi,h1,_⟩:=hf
  refine ⟨by omega,?_⟩
  have hi':i<(AY l).length:=by simpa using hi
  rw [show ((i:Int)).toNat=i by omega,iK hi']
  congr 1
  have h2:((AY l)[i]).1=a:=by simpa using h1
  exact Amt hn ((MX l).mem_iff.1 (nV _)) hm (by rw [h2,he])
theorem ArW {l:Bs} {a:Int} (h:(atR l a).2.2=false):(∀x∈l,x.1≠a)∧atR l a=(0,0,false)∧BK ((AY l).map (·.1)) a= -1:=by
 unfold atR at h ⊢
 have hn:PQ l a=none:=by cases hb:PQ l a with
  |none=>rfl
  |some x=>rw [hb] at h;cases h
 have h1:∀x∈l,x.1≠a:= λx hx e=>by
  have:=List.find?_eq_none.1 hn x hx
  simp [e] at this
 refine ⟨h1,by rw [hn];rfl,?_⟩
 have:((AY l).map (·.1)).findIdx? (· ==a)=none:=by
  rw [mQ]
  intro y hy
  obtain ⟨x,hx,rfl⟩:=kN.1 hy
  have:=h1 x ((MX l).mem_iff.1 hx)
  simpa using this
 unfold BK;rw [this]
structure MI (s:MS):Prop where
 c:Ac s.t s.p s.h=true
 nd:Dk s.l
 inn:∀x∈s.l,JI s.t s.p s.h x.1 x.2=true
 ap:∀x∈s.l,∀y∈s.l,x≠y→Ed x.1 x.2 y.1 y.2=false
 rt:∀r∈[s.r0,s.r1,s.r2,s.r3,s.r4,s.r5,s.r6,s.r7],r≠0→∃x∈s.l,x.1=r
def toR (s:MS):RS:=⟨s.t,s.p,s.h,(AY s.l).map (·.1),(AY s.l).map (·.2),s.r0,s.r1,s.r2,s.r3,s.r4,s.r5,s.r6,s.r7⟩
theorem AkO {x b u:Int×Int}:okB x b u=true↔(x=u∨Ed x.1 x.2 b.1 b.2=false):=by
 unfold okB
 have e:(x.1==u.1&&(x.2==u.2&&true))=true↔x=u:=by
  obtain ⟨a,b⟩:=x;obtain ⟨c,d⟩:=u
  simp
 cases hx:(x.1==u.1&&(x.2==u.2&&true)) with
 |true=>simp [e.1 hx]
 |false=>
  have:¬x=u:= λh=>by rw [e.2 h] at hx;cases hx
  simp [this]
def Aps (l:Bs) (w:Int) (u:Int×Int):Prop:=(w= -1∧u=(0,0))∨(0≤w∧(AY l)[w.toNat]? =some u)
theorem ApN {s:MS} (hI:MI s) {a z w:Int} {u:Int×Int} (hw:Aps s.l w u):OV (toR s) a z w=Eu s a z u.1 u.2:=by
 unfold OV Eu
 rw [show Ui (toR s).t (toR s).p (toR s).h a z=JI s.t s.p s.h a z from Asv hI.c]
 congr 1
 rw [mS,jN,jN]
 have hlen:(toR s).a.length=(AY s.l).length:=by show ((AY s.l).map _).length=_;simp
 have key:∀(j:Nat) (hj:j<(AY s.l).length),(!fcR (toR s) a z w j)=true↔okB ((AY s.l)[j]) (a,z) u=true:=by
  intro j hj
  obtain ⟨e1,e2⟩:=ArV hj
  rw [AkO]
  unfold fcR Ed
  rw [show (toR s).a.getD j 0=((AY s.l)[j]).1 from e1,show (toR s).z.getD j 0=((AY s.l)[j]).2 from e2]
  have hne:((j:Int) !=w)=true↔(AY s.l)[j]≠u:=by
   rw [bne_iff_ne]
   rcases hw with ⟨rfl,rfl⟩|⟨h0,hw⟩
   ·constructor
    ·intro _ e
     have hm:=hI.inn _ ((MX s.l).mem_iff.1 (nV hj))
     have:=in_lt hI.c hm
     rw [e] at this
     exact absurd this.1 (by decide)
    ·intro _;omega
   ·obtain ⟨hlt,hw⟩:=List.getElem?_eq_some_iff.1 hw
    constructor
    ·intro h e
     have:=(List.getElem_inj (Asw hI.nd)).1 (e.trans hw.symm)
     omega
    ·intro h e
     apply h
     have e3:j=w.toNat:=by omega
     subst e3
     exact hw
  cases hb:((j:Int) !=w) with
  |true=>
   have h1:=hne.1 hb
   simp only [oO,kU,h1,false_or]
  |false=>
   have h1:(AY s.l)[j]=u:=Classical.byContradiction λh=>by rw [hne.2 h] at hb;cases hb
   simp [h1]
 constructor
 ·intro h x hx
  obtain ⟨j,hj,rfl⟩:=nY ((MX s.l).mem_iff.2 hx)
  exact (key j hj).1 (h j (by rw [hlen];exact kV.2 hj))
 ·intro h j hj
  have hj:j<(AY s.l).length:=by rw [hlen] at hj;exact kV.1 hj
  exact (key j hj).2 (h _ ((MX s.l).mem_iff.1 (nV hj)))
end
section
open Go Go.Sl
theorem Jc (c e u v:Int):Bl c e u v=BC c e u v:=by
 unfold Bl BC
 simp only [Bool.and_true,Bool.and_assoc]
theorem Acg (e u v o x:Int):(e==0&&(u==o&&(v==x&&true)))=Et e u v o x:=by
 unfold Et
 simp only [Bool.and_true,Bool.and_assoc]
theorem AkP {c e u v:Int} (h:BC c e u v=true):e=c:=by
 unfold BC at h
 simp only [iE,beq_iff_eq] at h
 exact h.1.1
theorem Ai9 {c:Int} (hc:c≠0) (e u v n:Int):(BC c e u v&&FQ e u v n)=BC c e u v:=by
 cases h:BC c e u v with
 |false=>rfl
 |true=>
  have:=AkP h
  unfold FQ
  have h1:(e !=0)=true:=by rw [bne_iff_ne];omega
  rw [h1];rfl
theorem WN {s:MS} (hI:MI s) {w:Int} {o:Int×Int} (hw:Aps s.l w o) (z e u v n:Int):(F8 (toR s) z e u v w&&FQ e u v n)=Gj s z e u v n o.1 o.2:=by
 unfold F8 Gj
 rw [show BJ (toR s).t (toR s).p (toR s).h z=BI s.t s.p s.h z from (SY _ _ _ _).symm]
 cases h2:(BI s.t s.p s.h z).2 with
 |false=>
  simp only [Bool.not_false,cond_true]
  rw [Jc];exact Ai9 (by decide) _ _ _ _
 |true=>
  simp only [kL,cond_false]
  rw [ApN hI hw]
  cases he:(e !=0) with
  |true=>
   have h0:(e==0)=false:=by rw [bne_iff_ne] at he;simpa using he
   rw [h0,Bool.false_and,Bool.or_false,cond_true,Jc]
   exact Ai9 (by decide) _ _ _ _
  |false=>
   have h0:e=0:=by simpa using he
   subst h0
   have h3:BC 3 0 u v=false:=by
    cases h:BC 3 0 u v with
    |false=>rfl
    |true=>have:=AkP h;omega
   rw [h3,cond_false]
   unfold FQ
   simp only [jW,bne_self_eq_false]
   rw [Bool.and_comm];rfl
theorem Ach (l:Bs):Aps l (-1) (0,0):= .inl ⟨rfl,rfl⟩
theorem AdS (s:MS) (a:Int):KL s a=bif decide (a<0)||decide (a>7) then (0,false) else (OX (toR s) a,true):=by
 unfold KL
 have e:(decide (a<0)||decide (a≥8))=(decide (a<0)||decide (a>7)):=rfl
 rw [e];rfl
theorem AqG (s:MS) (a:Int):[s.r0,s.r1,s.r2,s.r3,s.r4,s.r5,s.r6,s.r7].contains a=F7 (toR s) a:=by
 unfold F7
 show _=[s.r0,s.r1,s.r2,s.r3,s.r4,s.r5,s.r6,s.r7].any (· ==a)
 rw [mS,lH]
 simp only [List.contains_iff_mem,beq_iff_eq,exists_eq_right]
theorem Apt {k a c:Int} (hk:¬(k=1∨k=2∨k=3∨k=4∨k=5∨k=6∨k=7∨k=8∨k=9)):Dh k a c=false:=by
 have h1:(k==1)=false:=by simp;omega
 have h2:(k==2)=false:=by simp;omega
 have h3:(k==3)=false:=by simp;omega
 have h4:(k==4)=false:=by simp;omega
 have h5:(k==5)=false:=by simp;omega
 have h6:(k==6)=false:=by simp;omega
 have h7:(k==7)=false:=by simp;omega
 have h8:(k==8)=false:=by simp;omega
 have h9:(k==9)=false:=by simp;omega
 simp [Dh,JH,h1,h2,h3,h4,h5,h6,h7,h8,h9]
theorem Aci {s:MS} (hI:MI s) (a:Int):decide (BK (toR s).a a<0)=!(atR s.l a).2.2:=by
 cases h:(atR s.l a).2.2 with
 |true=>
  obtain ⟨x,_,_,_,h1,_⟩:=Ai8 hI.nd h
  exact decide_eq_false (by show ¬BK ((AY s.l).map (·.1)) a<0;omega)
 |false=>
  obtain ⟨_,_,h1⟩:=ArW h
  exact decide_eq_true (by show BK ((AY s.l).map (·.1)) a<0;omega)
theorem AkQ {s:MS} (hI:MI s) {a:Int} (h:(atR s.l a).2.2=true):(toR s).z.getD (BK (toR s).a a).toNat 0=(atR s.l a).2.1:=by
 obtain ⟨x,_,_,e,_,h2⟩:=Ai8 hI.nd h
 show ((AY s.l).map (·.2)).getD (BK ((AY s.l).map (·.1)) a).toNat 0=_
 rw [e,iC,iM,h2];rfl
theorem len_eq (s:MS):(toR s).a.length=s.l.length:=by show ((AY s.l).map _).length=_;rw [jV,Z4]
theorem Aoa {s:MS} (hI:MI s) (k a c e u v:Int):BN s k a c e u v=AZ (toR s) k a c e u v:=by
 unfold BN AZ
 rw [AjK,Jc]
 cases hr:Dh k a c with
 |false=>rfl
 |true=>
  simp only [kL,cond_false]
  have hk:k=1∨k=2∨k=3∨k=4∨k=5∨k=6∨k=7∨k=8∨k=9:=Classical.byContradiction λhk=>by rw [Apt hk] at hr;cases hr
  rcases hk with rfl|rfl|rfl|rfl|rfl|rfl|rfl|rfl|rfl
  ·show Ja s 1 a c e u v=(F8 (toR s) a e u v (-1)&&FQ e u v (BJ (toR s).t (toR s).p (toR s).h a).1)
   rw [WN hI (Ach _),show BJ (toR s).t (toR s).p (toR s).h a=BI s.t s.p s.h a from (SY _ _ _ _).symm];rfl
  ·show Jr s 2 a c e u v=bif decide (BK (toR s).a a<0) then BC 4 e u v else bif F7 (toR s) a then BC 6 e u v else Et e u v ((toR s).z.getD (BK (toR s).a a).toNat 0) 0
   unfold Jr AhD
   rw [Aci hI,AqG,Jc,Jc,Acg]
   cases h:(atR s.l a).2.2 with
   |false=>rfl
   |true=>rw [AkQ hI h]
  ·show Gu s 3 a c e u v=bif decide (BK (toR s).a a<0) then BC 4 e u v else bif u==a then F8 (toR s) c e u v (BK (toR s).a a)&&FQ e u v (BJ (toR s).t (toR s).p (toR s).h c).1 else F8 (toR s) c e u v (-1)&&FQ e u v (BJ (toR s).t (toR s).p (toR s).h c).1
   unfold Gu
   rw [Aci hI,Jc]
   cases h:(atR s.l a).2.2 with
   |false=>rfl
   |true=>
    simp only [kL,cond_false]
    rw [WN hI (Ach _),show BJ (toR s).t (toR s).p (toR s).h c=BI s.t s.p s.h c from (SY _ _ _ _).symm]
    cases hu:(u==a) with
    |true=>
     have hu':u=a:=by simpa using hu
     subst hu'
     obtain ⟨x,_,_,e1,h1,h2⟩:=Ai8 hI.nd h
     rw [WN hI (w:=BK (toR s).a u) (o:=x) (.inr ⟨h1,h2⟩),e1]
     simp only [bne_self_eq_false,cond_false,cond_true]
    |false=>
     have hu':(u !=a)=true:=by simp only [bne,hu,Bool.not_false]
     rw [hu']
     simp only [cond_true,cond_false]
  ·show Ic s 4 a c e u v=bif decide (a<0)||decide (a>7) then BC 5 e u v else F8 (toR s) c e u v (-1)&&FQ e u v (OX (toR s) a)
   unfold Ic
   rw [AdS,Jc,WN hI (Ach _)]
   cases (decide (a<0)||decide (a>7))<;>rfl
  ·show KX s 5 a c e u v=bif decide (a<0)||decide (a>7) then BC 5 e u v else bif c !=0&&decide (BK (toR s).a c<0) then BC 4 e u v else Et e u v c (OX (toR s) a)
   unfold KX
   simp only [AdS,Jc,Aci hI]
   cases (decide (a<0)||decide (a>7)) with
   |true=>rfl
   |false=>
    simp only [cond_false,kL]
    rw [Acg]
  ·show KW s 6 a c e u v=bif decide (a<0)||decide (a>7) then BC 5 e u v else Et e u v (OX (toR s) a) 0
   unfold KW
   simp only [AdS,Jc]
   cases (decide (a<0)||decide (a>7)) with
   |true=>rfl
   |false=>
    simp only [cond_false,kL]
    rw [Acg]
  ·show MQ s 7 a c e u v=bif decide (BK (toR s).a a<0) then BC 4 e u v else Et e u v ((toR s).z.getD (BK (toR s).a a).toNat 0) 0
   unfold MQ
   simp only [Aci hI,Jc]
   cases h:(atR s.l a).2.2 with
   |false=>rfl
   |true=>rw [AkQ hI h];simp only [kL,cond_false];rw [Acg]
  ·show IZ s 8 a c e u v=(e==0&&decide (u≥0)&&decide (u≤s.p)&&v==((toR s).a.length:Int))
   rw [len_eq];rfl
  ·show I7 s 9 a c e u v=bif decide (a<0)||decide (a>8) then BC 7 e u v else e==0&&decide (u≥0)&&decide (u≤4)&&v==0
   unfold I7
   have e9:(decide (a<0)||decide (a≥9))=(decide (a<0)||decide (a>8)):=rfl
   rw [e9,Jc]
end
section
open Go Go.Sl
theorem Aob (a z b y:Int):Ed a z b y=Ed b y a z:=by unfold Ed;exact Bool.and_comm _ _
structure Yw (t p h:Int) (l:Bs):Prop where
 nd:Dk l
 inn:∀x∈l,JI t p h x.1 x.2=true
 ap:∀x∈l,∀y∈l,x≠y→Ed x.1 x.2 y.1 y.2=false
theorem MI.li {s:MS} (h:MI s):Yw s.t s.p s.h s.l:=⟨h.nd,h.inn,h.ap⟩
theorem Yw.del {t p h:Int} {l:Bs} (hl:Yw t p h l) (x:Int×Int):Yw t p h (La l x):=
 ⟨ArS hl.nd x, λy hy=>hl.inn y (AdR.1 hy).1, λy hy z hz=>hl.ap y (AdR.1 hy).1 z (AdR.1 hz).1⟩
theorem Yw.new {t p h:Int} {l:Bs} (hr:Ac t p h=true) (hl:Yw t p h l) {b:Int×Int} (hb:JI t p h b.1 b.2=true) (hm:∀x∈l,Ed x.1 x.2 b.1 b.2=false):(∀x∈l,x.1≠b.1):=by
 intro x hx e
 have h1:=in_lt hr (hl.inn x hx)
 have h2:=in_lt hr hb
 have h3:=(Apr hr (hl.inn x hx) hb).2 ⟨by omega,by omega⟩
 rw [hm x hx] at h3;cases h3
theorem Yw.add {t p h:Int} {l:Bs} (hr:Ac t p h=true) (hl:Yw t p h l) {b:Int×Int} (hb:JI t p h b.1 b.2=true) (hm:∀x∈l,Ed x.1 x.2 b.1 b.2=false):
 Yw t p h (He l b)∧He l b=l++[b]∧AY (He l b)=insL (AY l) b:=by
 have h1:=hl.new hr hb hm
 have h2:b ∉ l:= λh=>h1 b h rfl
 have e:=AdQ h2
 refine ⟨⟨ArT hl.nd h1,?_,?_⟩,e,ArU h2⟩
 ·rw [e];intro x hx
  rcases lT.1 hx with hx|hx
  ·exact hl.inn x hx
  ·rw [jR.1 hx];exact hb
 ·rw [e];intro x hx y hy hne
  rcases lT.1 hx with hx|hx<;>rcases lT.1 hy with hy|hy
  ·exact hl.ap x hx y hy hne
  ·rw [jR.1 hy];exact hm x hx
  ·rw [jR.1 hx,Aob];exact hm y hy
  ·rw [jR.1 hx,jR.1 hy] at hne;exact absurd rfl hne
theorem AqH {s:MS} {a z a2 z2:Int} (h:Eu s a z a2 z2=true):JI s.t s.p s.h a z=true∧∀x∈s.l,x=(a2,z2)∨Ed x.1 x.2 a z=false:=by
 unfold Eu at h
 rw [iE,jN] at h
 exact ⟨h.1, λx hx=>AkO.1 (h.2 x hx)⟩
theorem AqI {s:MS} (hI:MI s) {x:Int×Int} (hx:x∈s.l):x≠(0,0):= λe=>by
 have:=in_lt hI.c (hI.inn x hx)
 rw [e] at this
 exact absurd this.1 (by decide)
theorem Apu {s:MS} (hI:MI s) {a z:Int} (h:Eu s a z 0 0=true):JI s.t s.p s.h a z=true∧∀x∈s.l,Ed x.1 x.2 a z=false:=by
 obtain ⟨h1,h2⟩:=AqH h
 exact ⟨h1, λx hx=>(h2 x hx).resolve_left (AqI hI hx)⟩
theorem Jd {α β:Type} (f:α→β):∀(l:List α) (i:Nat),(l.map f).eraseIdx i=(l.eraseIdx i).map f
 |[],_=>rfl
 |_::_,0=>rfl
 |x::l,i+1=>congrArg (f x:: ·) (Jd f l i)
end
section
open Go Go.Sl
theorem Aoc {t p h:Int} (hr:Ac t p h=true):MI ⟨t,p,h,[],0,0,0,0,0,0,0,0⟩:=by
 refine ⟨hr,lK, λx hx=>(by cases hx), λx hx=>(by cases hx), λr hr hn=>?_⟩
 simp only [iG,jF,or_false,or_self] at hr
 exact absurd hr hn
theorem MI.inB {s:MS} (hI:MI s):inB s.l:= λx hx=>by
 have:=in_lt hI.c (hI.inn x hx)
 omega
theorem Aod (xa xz:LI) (u0 u1 u2 u3 u4 u5 u6 u7:Int):Hr xa xz u0 u1 u2 u3 u4 u5 u6 u7 xa xz u0 u1 u2 u3 u4 u5 u6 u7=true:=by
 simp [Hr]
theorem st_len (s:MS):(Ho s).1.length=(Ho s).2.1.length:=by
 show ((AY s.l).map _).length=((AY s.l).map _).length
 rw [jV,jV]
end
section
open Go Go.Sl
section
variable {t p h:Int} {xs ys:LI}
def Ru (t p h:Int) (xs ys:LI) (n:Nat):Prop:=∀j:Nat,j<n→Eu (GH t p h xs ys j) (xs.getD j 0) (ys.getD j 0) 0 0=true
def Amw (t p h:Int) (xs ys:LI) (n:Nat):Prop:=∀j:Nat,j<n→OV (IJ t p h xs ys j) (xs.getD j 0) (ys.getD j 0) (-1)=true
def rtU (l:Bs) (rs:LI) (n:Nat):Prop:=∀i:Nat,i<n→rs.getD i 0≠0→(atR l (rs.getD i 0)).2.2=true
def ArX (l:Bs) (rs:LI) (n:Nat):Prop:=∀i:Nat,i<n→rs.getD i 0≠0→0≤BK (l.map (·.1)) (rs.getD i 0)
def DU (t p h:Int) (xs ys rs:LI):Prop:=Ru t p h xs ys xs.length∧rtU (Ba xs ys) rs 8
def Asx (t p h:Int) (xs ys rs:LI):Prop:=Amw t p h xs ys xs.length∧ArX (AY (Ba xs ys)) rs 8
theorem AkR (hl:xs.length=ys.length) {i:Nat} (hi:i<xs.length) (hI:MI (GH t p h xs ys i)) (hf:Eu (GH t p h xs ys i) (xs.getD i 0) (ys.getD i 0) 0 0=true):
 MI (GH t p h xs ys (i+1))∧He ((Ba xs ys).take i) (xs.getD i 0,ys.getD i 0)=(Ba xs ys).take (i+1):=by
 obtain ⟨h1,h2⟩:=Apu hI hf
 obtain ⟨h3,h4,_⟩:=hI.li.add hI.c (b:=(xs.getD i 0,ys.getD i 0)) h1 h2
 have e:He ((Ba xs ys).take i) (xs.getD i 0,ys.getD i 0)=(Ba xs ys).take (i+1):=by
  have h4:He ((Ba xs ys).take i) (xs.getD i 0,ys.getD i 0)=(Ba xs ys).take i++[(xs.getD i 0,ys.getD i 0)]:=h4
  rw [h4,nN,WI hl hi];rfl
 have h3:Yw t p h (He ((Ba xs ys).take i) (xs.getD i 0,ys.getD i 0)):=h3
 rw [e] at h3
 refine ⟨⟨hI.c,h3.nd,h3.inn,h3.ap, λr hr hn=>?_⟩,e⟩
 simp only [GH,iG,jF,or_false,or_self] at hr
 exact absurd hr hn
theorem Acj (hr:Ac t p h=true) (hl:xs.length=ys.length):∀n,n≤xs.length→Ru t p h xs ys n→MI (GH t p h xs ys n)
 |0,_,_=>Aoc hr
 |n+1,hn,hf=>(AkR hl (by omega) (Acj hr hl n (by omega) λj hj=>hf j (by omega)) (hf n (by omega))).1
theorem Aoe {n:Nat} {a z:Int} (hI:MI (GH t p h xs ys n)):OV (IJ t p h xs ys n) a z (-1)=Eu (GH t p h xs ys n) a z 0 0:=ApN hI (Ach _)
theorem AiA (hr:Ac t p h=true) (hl:xs.length=ys.length):∀n,n≤xs.length→(Ru t p h xs ys n↔Amw t p h xs ys n)
 |0,_=>⟨λ_ j hj=>absurd hj (kB j), λ_ j hj=>absurd hj (kB j)⟩
 |n+1,hn=>by
  have ih:=AiA hr hl n (by omega)
  constructor
  ·intro hf j hj
   have h1:Ru t p h xs ys n:= λj hj=>hf j (by omega)
   by_cases hjn:j<n
   ·exact ih.1 h1 j hjn
   ·have:j=n:=by omega
    subst this
    rw [Aoe (Acj hr hl _ (by omega) h1)]
    exact hf _ (by omega)
  ·intro hf j hj
   have h1:Ru t p h xs ys n:=ih.2 λj hj=>hf j (by omega)
   by_cases hjn:j<n
   ·exact h1 j hjn
   ·have:j=n:=by omega
    subst this
    rw [←Aoe (Acj hr hl _ (by omega) h1)]
    exact hf _ (by omega)
theorem ApO {l:Bs} (hn:Dk l) (a:Int):(atR l a).2.2=true↔0≤BK ((AY l).map (·.1)) a:=by
 cases h:(atR l a).2.2 with
 |true=>obtain ⟨x,_,_,_,h1,_⟩:=Ai8 hn h;exact ⟨λ_=>h1, λ_=>rfl⟩
 |false=>obtain ⟨_,_,h1⟩:=ArW h;rw [h1];exact ⟨λe=>(by cases e), λe=>absurd e (by decide)⟩
theorem AiB (hr:Ac t p h=true) (hl:xs.length=ys.length) (rs:LI):DU t p h xs ys rs↔Asx t p h xs ys rs:=by
 have e:∀hf:Ru t p h xs ys xs.length,Dk (Ba xs ys):= λhf=>by
  have:=(Acj hr hl _ (jY _) hf).nd
  rw [Rj hl] at this
  exact this
 constructor
 ·rintro ⟨h1,h2⟩
  exact ⟨(AiA hr hl _ (jY _)).1 h1, λi hi hn=>(ApO (e h1) _).1 (h2 i hi hn)⟩
 ·rintro ⟨h1,h2⟩
  have h1':=(AiA hr hl _ (jY _)).2 h1
  exact ⟨h1', λi hi hn=>(ApO (e h1') _).2 (h2 i hi hn)⟩
theorem Aof (hr:Ac t p h=true) (hl:xs.length=ys.length) {s0 s1 s2 s3 s4 s5 s6 s7:Int} (hg:DU t p h xs ys [s0,s1,s2,s3,s4,s5,s6,s7]):MI (OU t p h xs ys s0 s1 s2 s3 s4 s5 s6 s7):=by
 have h1:=Acj hr hl _ (jY _) hg.1
 have e:=Rj (t:=t) (p:=p) (h:=h) hl
 have hn:Dk (Ba xs ys):=by rw [←e];exact h1.nd
 have hi:∀x∈Ba xs ys,JI t p h x.1 x.2=true:=by rw [←e];exact h1.inn
 have ha:∀x∈Ba xs ys,∀y∈Ba xs ys,x≠y→Ed x.1 x.2 y.1 y.2=false:=by rw [←e];exact h1.ap
 refine ⟨hr,hn,hi,ha, λr hr' hne=>?_⟩
 have hr':r∈[s0,s1,s2,s3,s4,s5,s6,s7]:=hr'
 obtain ⟨i,hi,hri⟩:=nY hr'
 have hd:[s0,s1,s2,s3,s4,s5,s6,s7].getD i 0=r:=by rw [iC,iK hi,hri];rfl
 have:=hg.2 i (by simpa using hi) (by rw [hd];exact hne)
 rw [hd] at this
 obtain ⟨x,hx,he,_⟩:=Ai8 hn this
 exact ⟨x,hx,he⟩
end
end
section
open Go.Sl
def CQ (t p h:Int) (xs ys:LI) (s0 s1 s2 s3 s4 s5 s6 s7:Int):Unit:=()
abbrev AqJ:Ct Sg:=⟨none,false,[.agg [.i .i64, .i .i64, .i .i64], .agg [.ro [some .i64,some .i64], .i .i64, .i .i64, .i .i64, .i .i64, .i .i64, .i .i64, .i .i64, .i .i64]], .vc (kA none)⟩
def AkS:Entry Sg:=BU AqJ CQ (λt p h xs ys s0 s1 s2 s3 s4 s5 s6 s7=>[Ac t p h=true,xs.length=ys.length,¬DU t p h xs ys [s0,s1,s2,s3,s4,s5,s6,s7]])
def AdT (t p h:Int) (xs ys:LI) (s0 s1 s2 s3 s4 s5 s6 s7:Int) (Q0:MS→Int→Prop) (Q1:MS→Int→Int→Int→Prop) (Q2:Int→Int→Int→List (Int×Int)→Int→Int→Int→Int→Int→Int→Int→Int→Int→Int→Int→Prop) (Q3:Int→Int→Int→List (Int×Int)→Int→Int→Int→Int→Int→Int→Int→Int→Int→Prop) (Q4:MS→Int→Prop) (Q5:MS→Int→Int→Int→Int→Int→Int→Int→Int→Int→Prop) (Q6:MS→Prop) (R_:Unit→Prop):Prop:=(∀r2:MS,r2=({t:=t,p:=p,h:=h,l:=[],r0:=0,r1:=0,r2:=0,r3:=0,r4:=0,r5:=0,r6:=0,r7:=0})→(Ap (BZ t p h=0) (AV (false) (R_ (())) (Q0 (r2) (0)))))
def ZA (t p h:Int) (xs ys:LI) (s0 s1 s2 s3 s4 s5 s6 s7:Int) (q_:MS) (i_:Int) (Q0:MS→Int→Prop) (Q1:MS→Int→Int→Int→Prop) (Q2:Int→Int→Int→List (Int×Int)→Int→Int→Int→Int→Int→Int→Int→Int→Int→Int→Int→Prop) (Q3:Int→Int→Int→List (Int×Int)→Int→Int→Int→Int→Int→Int→Int→Int→Int→Prop) (Q4:MS→Int→Prop) (Q5:MS→Int→Int→Int→Int→Int→Int→Int→Int→Int→Prop) (Q6:MS→Prop) (R_:Unit→Prop):Prop:=(AV (decide (i_<(↑(iH xs):Int))) (Ap (0≤i_∧i_<(↑(iH xs):Int)) (∀r3:Bool,r3=(JI (MS.t q_) (MS.p q_) (MS.h q_) (iN xs (jI i_) 0) (iN ys (jI i_) 0)&&List.all (MS.l q_) λx=>okB x (iN xs (jI i_) 0,iN ys (jI i_) 0) (0,0))→(AV (!r3) (R_ (())) (Q1 (q_) (iN xs (jI i_) 0) (iN ys (jI i_) 0) (i_))))) (Q5 (q_) (s0) (s1) (s2) (s3) (s4) (s5) (s6) (s7) (0)))
def ET (t p h:Int) (xs ys:LI) (s0 s1 s2 s3 s4 s5 s6 s7:Int) (q_:MS) (i_:Int) (r_:Unit):Prop:=q_=GH t p h xs ys i_.toNat∧MI (GH t p h xs ys i_.toNat)∧Ru t p h xs ys i_.toNat∧0≤i_∧i_≤(xs.length:Int)
def ZB (t p h:Int) (xs ys:LI) (s0 s1 s2 s3 s4 s5 s6 s7:Int) (q_:MS) (y_ z_ i_ t_ p_ h_:Int) (l_:List (Int×Int)) (x0_ x1_ x2_ x3_ x4_ x5_ x6_ x7_:Int) (Q2:Int→Int→Int→List (Int×Int)→Int→Int→Int→Int→Int→Int→Int→Int→Int→Int→Int→Prop):Prop:=(Q2 (t_) (p_) (h_) (l_) (x0_) (x1_) (x2_) (x3_) (x4_) (x5_) (x6_) (x7_) (y_) (z_) (i_))
def EU (t p h:Int) (xs ys:LI) (s0 s1 s2 s3 s4 s5 s6 s7:Int) (q_:MS) (y_ z_ i_:Int) (r_:Unit):Prop:=Eu (GH t p h xs ys i_.toNat) (xs.getD i_.toNat 0) (ys.getD i_.toNat 0) 0 0=true∧y_=xs.getD i_.toNat 0∧z_=ys.getD i_.toNat 0∧i_<(xs.length:Int)∧q_=GH t p h xs ys i_.toNat∧MI (GH t p h xs ys i_.toNat)∧Ru t p h xs ys i_.toNat∧0≤i_∧i_≤(xs.length:Int)
def ZC (t p h:Int) (xs ys:LI) (s0 s1 s2 s3 s4 s5 s6 s7 t_ p_ h_:Int) (l_:List (Int×Int)) (r0_ r1_ r2_ r3_ r4_ r5_ r6_ r7_ y_ z_ i_:Int) (Q0:MS→Int→Prop) (Q1:MS→Int→Int→Int→Prop) (Q2:Int→Int→Int→List (Int×Int)→Int→Int→Int→Int→Int→Int→Int→Int→Int→Int→Int→Prop) (Q3:Int→Int→Int→List (Int×Int)→Int→Int→Int→Int→Int→Int→Int→Int→Int→Prop) (Q4:MS→Int→Prop) (Q5:MS→Int→Int→Int→Int→Int→Int→Int→Int→Int→Prop) (Q6:MS→Prop) (R_:Unit→Prop):Prop:=(Q3 (t_) (p_) (h_) (He l_ (y_,z_)) (r0_) (r1_) (r2_) (r3_) (r4_) (r5_) (r6_) (r7_) (i_))
def E5 (t p h:Int) (xs ys:LI) (s0 s1 s2 s3 s4 s5 s6 s7 t_ p_ h_:Int) (l_:List (Int×Int)) (r0_ r1_ r2_ r3_ r4_ r5_ r6_ r7_ y_ z_ i_:Int) (r_:Unit):Prop:=Eu (GH t p h xs ys i_.toNat) (xs.getD i_.toNat 0) (ys.getD i_.toNat 0) 0 0=true∧y_=xs.getD i_.toNat 0∧z_=ys.getD i_.toNat 0∧i_<(xs.length:Int)∧⟨t_,p_,h_,l_,r0_,r1_,r2_,r3_,r4_,r5_,r6_,r7_⟩=GH t p h xs ys i_.toNat∧MI (GH t p h xs ys i_.toNat)∧Ru t p h xs ys i_.toNat∧0≤i_∧i_≤(xs.length:Int)
def ZE (t p h:Int) (xs ys:LI) (s0 s1 s2 s3 s4 s5 s6 s7 t_ p_ h_:Int) (l_:List (Int×Int)) (r0_ r1_ r2_ r3_ r4_ r5_ r6_ r7_ i_:Int) (Q4:MS→Int→Prop):Prop:=(Q4 ({t:=t_,p:=p_,h:=h_,l:=l_,r0:=r0_,r1:=r1_,r2:=r2_,r3:=r3_,r4:=r4_,r5:=r5_,r6:=r6_,r7:=r7_}) (i_))
def EW (t p h:Int) (xs ys:LI) (s0 s1 s2 s3 s4 s5 s6 s7 t_ p_ h_:Int) (l_:List (Int×Int)) (r0_ r1_ r2_ r3_ r4_ r5_ r6_ r7_ i_:Int) (r_:Unit):Prop:=r_=()∧⟨t_,p_,h_,l_,r0_,r1_,r2_,r3_,r4_,r5_,r6_,r7_⟩=GH t p h xs ys (i_.toNat+1)∧Ru t p h xs ys (i_.toNat+1)∧MI (GH t p h xs ys (i_.toNat+1))∧0≤i_∧i_<(xs.length:Int)
def ZF (t p h:Int) (xs ys:LI) (s0 s1 s2 s3 s4 s5 s6 s7:Int) (q_:MS) (i_:Int) (Q0:MS→Int→Prop) (Q1:MS→Int→Int→Int→Prop) (Q2:Int→Int→Int→List (Int×Int)→Int→Int→Int→Int→Int→Int→Int→Int→Int→Int→Int→Prop) (Q3:Int→Int→Int→List (Int×Int)→Int→Int→Int→Int→Int→Int→Int→Int→Int→Prop) (Q4:MS→Int→Prop) (Q5:MS→Int→Int→Int→Int→Int→Int→Int→Int→Int→Prop) (Q6:MS→Prop) (R_:Unit→Prop):Prop:=(Q0 (q_) (iO iB (i_+1)))
def E8 (t p h:Int) (xs ys:LI) (s0 s1 s2 s3 s4 s5 s6 s7:Int) (q_:MS) (i_:Int) (r_:Unit):Prop:=q_=GH t p h xs ys (i_.toNat+1)∧Ru t p h xs ys (i_.toNat+1)∧MI (GH t p h xs ys (i_.toNat+1))∧0≤i_∧i_<(xs.length:Int)
def ZG (t p h:Int) (xs ys:LI) (s0 s1 s2 s3 s4 s5 s6 s7:Int) (q_:MS) (c0_ c1_ c2_ c3_ c4_ c5_ c6_ c7_ i_:Int) (Q0:MS→Int→Prop) (Q1:MS→Int→Int→Int→Prop) (Q2:Int→Int→Int→List (Int×Int)→Int→Int→Int→Int→Int→Int→Int→Int→Int→Int→Int→Prop) (Q3:Int→Int→Int→List (Int×Int)→Int→Int→Int→Int→Int→Int→Int→Int→Int→Prop) (Q4:MS→Int→Prop) (Q5:MS→Int→Int→Int→Int→Int→Int→Int→Int→Int→Prop) (Q6:MS→Prop) (R_:Unit→Prop):Prop:=(AV (decide (i_<8)) (Ap (0≤i_∧i_<8) (∀r2:Int×Int×Bool,r2=(atR (MS.l q_) (iN [c0_,c1_,c2_,c3_,c4_,c5_,c6_,c7_] (jI i_) 0))→(Ap (Dk (MS.l q_)) (AV (iN [c0_,c1_,c2_,c3_,c4_,c5_,c6_,c7_] (jI i_) (0:Int) !=0&&!r2.2.2) (R_ (())) (Q5 (q_) (c0_) (c1_) (c2_) (c3_) (c4_) (c5_) (c6_) (c7_) (iO iB (i_+1))))))) (Q6 (q_)))
def EX (t p h:Int) (xs ys:LI) (s0 s1 s2 s3 s4 s5 s6 s7:Int) (q_:MS) (c0_ c1_ c2_ c3_ c4_ c5_ c6_ c7_ i_:Int) (r_:Unit):Prop:=q_=GH t p h xs ys xs.length∧MI (GH t p h xs ys xs.length)∧Ru t p h xs ys xs.length∧rtU (Ba xs ys) [s0,s1,s2,s3,s4,s5,s6,s7] i_.toNat∧0≤i_∧i_≤8∧c0_=s0∧c1_=s1∧c2_=s2∧c3_=s3∧c4_=s4∧c5_=s5∧c6_=s6∧c7_=s7
def F5 (t p h:Int) (xs ys:LI) (s0 s1 s2 s3 s4 s5 s6 s7:Int) (q_:MS) (r_:Unit):Prop:=False
abbrev ZH (p0:Addr) (t p h:Int) (xs ys:LI) (s0 s1 s2 s3 s4 s5 s6 s7:Int):Hd Sg:=⟨none,[0,1,0,1,1,1],[.blk 0, .code [1,1,1,1]],[5,17,3,19,18],[.objb Du, .roc [.ints .i64 (xs), .ints .i64 (ys)], .box 27 [.ags 1 (xs.length), .ic .i64 (s0), .ic .i64 (s1), .ic .i64 (s2), .ic .i64 (s3), .ic .i64 (s4), .ic .i64 (s5), .ic .i64 (s6), .ic .i64 (s7)], .i .i64, .ic .i64 ((xs.length:Int))]⟩
abbrev ZI (p0:Addr) (t p h:Int) (xs ys:LI) (s0 s1 s2 s3 s4 s5 s6 s7:Int):Hd Sg:=⟨some 900,[1,1,0,0,1,1,0,0,1,0,1,1,1],[.blk 1, .code [1,1,1,0,0,1,0,1,1,1], .again [0,1,0,1,1,1], .blk 0, .code [1,1,1,1]],[5,17,3,7,19,18],[.objb Du, .roc [.ints .i64 (xs), .ints .i64 (ys)], .box 27 [.ags 1 (xs.length), .ic .i64 (s0), .ic .i64 (s1), .ic .i64 (s2), .ic .i64 (s3), .ic .i64 (s4), .ic .i64 (s5), .ic .i64 (s6), .ic .i64 (s7)], .box 55 [.i .i64, .i .i64], .i .i64, .ic .i64 ((xs.length:Int))]⟩
abbrev ZJ (p0:Addr) (t p h:Int) (xs ys:LI) (s0 s1 s2 s3 s4 s5 s6 s7:Int):Hd Sg:=⟨some 900,[1,1,0,0,1,1,0,0,1,0,1,1,1],[.blk 1, .code [1,1,1,0,0,1,0,1,1,1], .again [0,1,0,1,1,1], .blk 0, .code [1,1,1,1]],[5,17,3,7,19,18],[.box Es.t Es.l, .roc [.ints .i64 (xs), .ints .i64 (ys)], .box 27 [.ags 2 (xs.length), .ic .i64 (s0), .ic .i64 (s1), .ic .i64 (s2), .ic .i64 (s3), .ic .i64 (s4), .ic .i64 (s5), .ic .i64 (s6), .ic .i64 (s7)], .box 55 [.i .i64, .i .i64], .i .i64, .ic .i64 ((xs.length:Int))]⟩
abbrev ZK (p0:Addr) (t p h:Int) (xs ys:LI) (s0 s1 s2 s3 s4 s5 s6 s7:Int):Hd Sg:=⟨some 0,[1,1,1,0,0,1,0,1,1,1],[.again [0,1,0,1,1,1], .blk 0, .code [1,1,1,1]],[5,17,3,19,18],[.box Es.t Es.l, .roc [.ints .i64 (xs), .ints .i64 (ys)], .box 27 [.ags 2 (xs.length), .ic .i64 (s0), .ic .i64 (s1), .ic .i64 (s2), .ic .i64 (s3), .ic .i64 (s4), .ic .i64 (s5), .ic .i64 (s6), .ic .i64 (s7)], .i .i64, .ic .i64 ((xs.length:Int))]⟩
abbrev ZL (p0:Addr) (t p h:Int) (xs ys:LI) (s0 s1 s2 s3 s4 s5 s6 s7:Int):Hd Sg:=⟨some 0,[1,1,1,0,0,1,0,1,1,1],[.again [0,1,0,1,1,1], .blk 0, .code [1,1,1,1]],[5,17,3,19,18],[.objb Du, .roc [.ints .i64 (xs), .ints .i64 (ys)], .box 27 [.ags 1 (xs.length), .ic .i64 (s0), .ic .i64 (s1), .ic .i64 (s2), .ic .i64 (s3), .ic .i64 (s4), .ic .i64 (s5), .ic .i64 (s6), .ic .i64 (s7)], .i .i64, .ic .i64 ((xs.length:Int))]⟩
abbrev ZM (p0:Addr) (t p h:Int) (xs ys:LI) (s0 s1 s2 s3 s4 s5 s6 s7:Int):Hd Sg:=⟨none,[0,1,0,1,1,1,1],[.blk 2, .code [1,1,1,1,1]],[5,17,3,35,36],[.objb Du, .roc [.ints .i64 (xs), .ints .i64 (ys)], .box 27 [.ags 1 (xs.length), .ic .i64 (s0), .ic .i64 (s1), .ic .i64 (s2), .ic .i64 (s3), .ic .i64 (s4), .ic .i64 (s5), .ic .i64 (s6), .ic .i64 (s7)], .agg [.i .i64, .i .i64, .i .i64, .i .i64, .i .i64, .i .i64, .i .i64, .i .i64], .i .i64]⟩
abbrev ZN (p0:Addr) (t p h:Int) (xs ys:LI) (s0 s1 s2 s3 s4 s5 s6 s7:Int):Hd Sg:=⟨some 0,[0,1,1,1,1,1],[.code [1,1,1,1,1,1]],[5],[.objb Du]⟩
theorem AjL (t p h:Int) (xs ys:LI) (s0 s1 s2 s3 s4 s5 s6 s7:Int) (hp0:Ac t p h=true) (hp1:xs.length=ys.length) (hp2:¬DU t p h xs ys [s0,s1,s2,s3,s4,s5,s6,s7]) (hl0:xs.length≤9223372036854775807):AdT t p h xs ys s0 s1 s2 s3 s4 s5 s6 s7 (λq_' i_'=>ET t p h xs ys s0 s1 s2 s3 s4 s5 s6 s7 q_' i_' (CQ t p h xs ys s0 s1 s2 s3 s4 s5 s6 s7)) (λq_' y_' z_' i_'=>EU t p h xs ys s0 s1 s2 s3 s4 s5 s6 s7 q_' y_' z_' i_' (CQ t p h xs ys s0 s1 s2 s3 s4 s5 s6 s7)) (λt_' p_' h_' l_' r0_' r1_' r2_' r3_' r4_' r5_' r6_' r7_' y_' z_' i_'=>E5 t p h xs ys s0 s1 s2 s3 s4 s5 s6 s7 t_' p_' h_' l_' r0_' r1_' r2_' r3_' r4_' r5_' r6_' r7_' y_' z_' i_' (CQ t p h xs ys s0 s1 s2 s3 s4 s5 s6 s7)) (λt_' p_' h_' l_' r0_' r1_' r2_' r3_' r4_' r5_' r6_' r7_' i_'=>EW t p h xs ys s0 s1 s2 s3 s4 s5 s6 s7 t_' p_' h_' l_' r0_' r1_' r2_' r3_' r4_' r5_' r6_' r7_' i_' (CQ t p h xs ys s0 s1 s2 s3 s4 s5 s6 s7)) (λq_' i_'=>E8 t p h xs ys s0 s1 s2 s3 s4 s5 s6 s7 q_' i_' (CQ t p h xs ys s0 s1 s2 s3 s4 s5 s6 s7)) (λq_' c0_' c1_' c2_' c3_' c4_' c5_' c6_' c7_' i_'=>EX t p h xs ys s0 s1 s2 s3 s4 s5 s6 s7 q_' c0_' c1_' c2_' c3_' c4_' c5_' c6_' c7_' i_' (CQ t p h xs ys s0 s1 s2 s3 s4 s5 s6 s7)) (λq_'=>F5 t p h xs ys s0 s1 s2 s3 s4 s5 s6 s7 q_' (CQ t p h xs ys s0 s1 s2 s3 s4 s5 s6 s7)) (λr__=>r__=(CQ t p h xs ys s0 s1 s2 s3 s4 s5 s6 s7)):=by
 unfold AdT
 try unfold ET
 try unfold EU
 try unfold E5
 try unfold EW
 try unfold E8
 try unfold EX
 try unfold F5
 rintro r2 rfl
 exact ⟨Ai7 (PT hp0), λ_=>⟨λh=>(by cases h), λ_=>⟨rfl,Aoc hp0, λj hj=>absurd hj (kB j),by decide,by omega⟩⟩⟩
theorem AjM (t p h:Int) (xs ys:LI) (s0 s1 s2 s3 s4 s5 s6 s7:Int) (hp0:Ac t p h=true) (hp1:xs.length=ys.length) (hp2:¬DU t p h xs ys [s0,s1,s2,s3,s4,s5,s6,s7]) (hl0:xs.length≤9223372036854775807) (q_:MS) (i_:Int) {r_:Unit} (hI:ET t p h xs ys s0 s1 s2 s3 s4 s5 s6 s7 q_ i_ r_):ZA t p h xs ys s0 s1 s2 s3 s4 s5 s6 s7 q_ i_ (λq_' i_'=>ET t p h xs ys s0 s1 s2 s3 s4 s5 s6 s7 q_' i_' r_∧lx (9,((xs.length:Int)-i_').toNat,9) (9,((xs.length:Int)-i_).toNat,9)) (λq_' y_' z_' i_'=>EU t p h xs ys s0 s1 s2 s3 s4 s5 s6 s7 q_' y_' z_' i_' r_∧lx (9,((xs.length:Int)-i_').toNat,8) (9,((xs.length:Int)-i_).toNat,9)) (λt_' p_' h_' l_' r0_' r1_' r2_' r3_' r4_' r5_' r6_' r7_' y_' z_' i_'=>E5 t p h xs ys s0 s1 s2 s3 s4 s5 s6 s7 t_' p_' h_' l_' r0_' r1_' r2_' r3_' r4_' r5_' r6_' r7_' y_' z_' i_' r_∧lx (9,((xs.length:Int)-i_').toNat,7) (9,((xs.length:Int)-i_).toNat,9)) (λt_' p_' h_' l_' r0_' r1_' r2_' r3_' r4_' r5_' r6_' r7_' i_'=>EW t p h xs ys s0 s1 s2 s3 s4 s5 s6 s7 t_' p_' h_' l_' r0_' r1_' r2_' r3_' r4_' r5_' r6_' r7_' i_' r_∧lx (9,((xs.length:Int)-i_').toNat,6) (9,((xs.length:Int)-i_).toNat,9)) (λq_' i_'=>E8 t p h xs ys s0 s1 s2 s3 s4 s5 s6 s7 q_' i_' r_∧lx (9,((xs.length:Int)-i_').toNat,5) (9,((xs.length:Int)-i_).toNat,9)) (λq_' c0_' c1_' c2_' c3_' c4_' c5_' c6_' c7_' i_'=>EX t p h xs ys s0 s1 s2 s3 s4 s5 s6 s7 q_' c0_' c1_' c2_' c3_' c4_' c5_' c6_' c7_' i_' r_∧lx (5,(8-i_').toNat,0) (9,((xs.length:Int)-i_).toNat,9)) (λq_'=>F5 t p h xs ys s0 s1 s2 s3 s4 s5 s6 s7 q_' r_∧lx (0,0,0) (9,((xs.length:Int)-i_).toNat,9)) (λr__=>r__=r_):=by
 unfold ET at hI
 unfold ZA
 try unfold ET
 try unfold EU
 try unfold E5
 try unfold EW
 try unfold E8
 try unfold EX
 try unfold F5
 obtain ⟨rfl,hM,hf,h1,h2⟩:=hI
 refine ⟨λhlt=>?_, λhlt=>?_⟩
 ·have hlt:i_<(xs.length:Int):=by simpa using hlt
  refine ⟨⟨h1,hlt⟩, λ_=>?_⟩
  rintro r3 rfl
  refine ⟨λ_=>rfl, λhn=>⟨⟨?_,rfl,rfl,hlt,rfl,hM,hf,h1,h2⟩,Bo⟩⟩
  rw [lO] at hn
  exact hn
 ·have hlt:¬i_<(xs.length:Int):=by simpa using hlt
  have e:i_.toNat=xs.length:=by omega
  rw [e] at hM hf ⊢
  exact ⟨⟨rfl,hM,hf, λj hj=>absurd hj (kB j),by decide,by decide,rfl,rfl,rfl,rfl,rfl,rfl,rfl,rfl⟩,Bo⟩
theorem AjN (t p h:Int) (xs ys:LI) (s0 s1 s2 s3 s4 s5 s6 s7:Int) (hp0:Ac t p h=true) (hp1:xs.length=ys.length) (hp2:¬DU t p h xs ys [s0,s1,s2,s3,s4,s5,s6,s7]) (hl0:xs.length≤9223372036854775807) (q_:MS) (y_ z_ i_ t_ p_ h_:Int) (l_:List (Int×Int)) (x0_ x1_ x2_ x3_ x4_ x5_ x6_ x7_:Int) {r_:Unit} (hI:EU t p h xs ys s0 s1 s2 s3 s4 s5 s6 s7 q_ y_ z_ i_ r_) (hx:D6 ⟨t_,p_,h_,l_,x0_,x1_,x2_,x3_,x4_,x5_,x6_,x7_⟩ (q_)):ZB t p h xs ys s0 s1 s2 s3 s4 s5 s6 s7 q_ y_ z_ i_ t_ p_ h_ l_ x0_ x1_ x2_ x3_ x4_ x5_ x6_ x7_ (λt_' p_' h_' l_' r0_' r1_' r2_' r3_' r4_' r5_' r6_' r7_' y_' z_' i_'=>E5 t p h xs ys s0 s1 s2 s3 s4 s5 s6 s7 t_' p_' h_' l_' r0_' r1_' r2_' r3_' r4_' r5_' r6_' r7_' y_' z_' i_' r_∧lx (9,((xs.length:Int)-i_').toNat,7) (9,((xs.length:Int)-i_).toNat,8)):=by
 unfold EU at hI
 unfold ZB
 try unfold ET
 try unfold EU
 try unfold E5
 try unfold EW
 try unfold E8
 try unfold EX
 try unfold F5
 obtain ⟨hfr,h1,h2,h3,rfl,hM,hf,h4,h5⟩:=hI
 exact ⟨⟨hfr,h1,h2,h3,hx,hM,hf,h4,h5⟩,Bo⟩
theorem AjO (t p h:Int) (xs ys:LI) (s0 s1 s2 s3 s4 s5 s6 s7:Int) (hp0:Ac t p h=true) (hp1:xs.length=ys.length) (hp2:¬DU t p h xs ys [s0,s1,s2,s3,s4,s5,s6,s7]) (hl0:xs.length≤9223372036854775807) (t_ p_ h_:Int) (l_:List (Int×Int)) (r0_ r1_ r2_ r3_ r4_ r5_ r6_ r7_ y_ z_ i_:Int) {r_:Unit} (hI:E5 t p h xs ys s0 s1 s2 s3 s4 s5 s6 s7 t_ p_ h_ l_ r0_ r1_ r2_ r3_ r4_ r5_ r6_ r7_ y_ z_ i_ r_):ZC t p h xs ys s0 s1 s2 s3 s4 s5 s6 s7 t_ p_ h_ l_ r0_ r1_ r2_ r3_ r4_ r5_ r6_ r7_ y_ z_ i_ (λq_' i_'=>ET t p h xs ys s0 s1 s2 s3 s4 s5 s6 s7 q_' i_' r_∧lx (9,((xs.length:Int)-i_').toNat,9) (9,((xs.length:Int)-i_).toNat,7)) (λq_' y_' z_' i_'=>EU t p h xs ys s0 s1 s2 s3 s4 s5 s6 s7 q_' y_' z_' i_' r_∧lx (9,((xs.length:Int)-i_').toNat,8) (9,((xs.length:Int)-i_).toNat,7)) (λt_' p_' h_' l_' r0_' r1_' r2_' r3_' r4_' r5_' r6_' r7_' y_' z_' i_'=>E5 t p h xs ys s0 s1 s2 s3 s4 s5 s6 s7 t_' p_' h_' l_' r0_' r1_' r2_' r3_' r4_' r5_' r6_' r7_' y_' z_' i_' r_∧lx (9,((xs.length:Int)-i_').toNat,7) (9,((xs.length:Int)-i_).toNat,7)) (λt_' p_' h_' l_' r0_' r1_' r2_' r3_' r4_' r5_' r6_' r7_' i_'=>EW t p h xs ys s0 s1 s2 s3 s4 s5 s6 s7 t_' p_' h_' l_' r0_' r1_' r2_' r3_' r4_' r5_' r6_' r7_' i_' r_∧lx (9,((xs.length:Int)-i_').toNat,6) (9,((xs.length:Int)-i_).toNat,7)) (λq_' i_'=>E8 t p h xs ys s0 s1 s2 s3 s4 s5 s6 s7 q_' i_' r_∧lx (9,((xs.length:Int)-i_').toNat,5) (9,((xs.length:Int)-i_).toNat,7)) (λq_' c0_' c1_' c2_' c3_' c4_' c5_' c6_' c7_' i_'=>EX t p h xs ys s0 s1 s2 s3 s4 s5 s6 s7 q_' c0_' c1_' c2_' c3_' c4_' c5_' c6_' c7_' i_' r_∧lx (5,(8-i_').toNat,0) (9,((xs.length:Int)-i_).toNat,7)) (λq_'=>F5 t p h xs ys s0 s1 s2 s3 s4 s5 s6 s7 q_' r_∧lx (0,0,0) (9,((xs.length:Int)-i_).toNat,7)) (λr__=>r__=r_):=by
 unfold E5 at hI
 unfold ZC
 try unfold ET
 try unfold EU
 try unfold E5
 try unfold EW
 try unfold E8
 try unfold EX
 try unfold F5
 obtain ⟨hfr,rfl,rfl,h3,hE,hM,hf,h4,h5⟩:=hI
 injection hE with e1 e2 e3 e4 f0 f1 f2 f3 f4 f5 f6 f7
 subst e1 e2 e3 e4 f0 f1 f2 f3 f4 f5 f6 f7
 obtain ⟨g1,g2⟩:=AkR hp1 (by omega) hM hfr
 have hf':Ru t_ p_ h_ xs ys (i_.toNat+1):= λj hj=>by
  by_cases hji:j<i_.toNat
  ·exact hf j hji
  ·have:j=i_.toNat:=by omega
   subst this;exact hfr
 refine ⟨⟨rfl,?_,hf',g1,h4,h3⟩,Bo⟩
 unfold GH
 rw [g2]
theorem Yx (t p h:Int) (xs ys:LI) (s0 s1 s2 s3 s4 s5 s6 s7:Int) (hp0:Ac t p h=true) (hp1:xs.length=ys.length) (hp2:¬DU t p h xs ys [s0,s1,s2,s3,s4,s5,s6,s7]) (hl0:xs.length≤9223372036854775807) (t_ p_ h_:Int) (l_:List (Int×Int)) (r0_ r1_ r2_ r3_ r4_ r5_ r6_ r7_ i_:Int) {r_:Unit} (hI:EW t p h xs ys s0 s1 s2 s3 s4 s5 s6 s7 t_ p_ h_ l_ r0_ r1_ r2_ r3_ r4_ r5_ r6_ r7_ i_ r_):(D6 ⟨t_,p_,h_,l_,r0_,r1_,r2_,r3_,r4_,r5_,r6_,r7_⟩ ⟨t_,p_,h_,l_,r0_,r1_,r2_,r3_,r4_,r5_,r6_,r7_⟩)∧ZE t p h xs ys s0 s1 s2 s3 s4 s5 s6 s7 t_ p_ h_ l_ r0_ r1_ r2_ r3_ r4_ r5_ r6_ r7_ i_ (λq_' i_'=>E8 t p h xs ys s0 s1 s2 s3 s4 s5 s6 s7 q_' i_' r_∧lx (9,((xs.length:Int)-i_').toNat,5) (9,((xs.length:Int)-i_).toNat,6)):=by
 unfold EW at hI
 unfold ZE
 try unfold ET
 try unfold EU
 try unfold E5
 try unfold EW
 try unfold E8
 try unfold EX
 try unfold F5
 exact ⟨rfl,hI.2,Bo⟩
theorem AjP (t p h:Int) (xs ys:LI) (s0 s1 s2 s3 s4 s5 s6 s7:Int) (hp0:Ac t p h=true) (hp1:xs.length=ys.length) (hp2:¬DU t p h xs ys [s0,s1,s2,s3,s4,s5,s6,s7]) (hl0:xs.length≤9223372036854775807) (q_:MS) (i_:Int) {r_:Unit} (hI:E8 t p h xs ys s0 s1 s2 s3 s4 s5 s6 s7 q_ i_ r_):ZF t p h xs ys s0 s1 s2 s3 s4 s5 s6 s7 q_ i_ (λq_' i_'=>ET t p h xs ys s0 s1 s2 s3 s4 s5 s6 s7 q_' i_' r_∧lx (9,((xs.length:Int)-i_').toNat,9) (9,((xs.length:Int)-i_).toNat,5)) (λq_' y_' z_' i_'=>EU t p h xs ys s0 s1 s2 s3 s4 s5 s6 s7 q_' y_' z_' i_' r_∧lx (9,((xs.length:Int)-i_').toNat,8) (9,((xs.length:Int)-i_).toNat,5)) (λt_' p_' h_' l_' r0_' r1_' r2_' r3_' r4_' r5_' r6_' r7_' y_' z_' i_'=>E5 t p h xs ys s0 s1 s2 s3 s4 s5 s6 s7 t_' p_' h_' l_' r0_' r1_' r2_' r3_' r4_' r5_' r6_' r7_' y_' z_' i_' r_∧lx (9,((xs.length:Int)-i_').toNat,7) (9,((xs.length:Int)-i_).toNat,5)) (λt_' p_' h_' l_' r0_' r1_' r2_' r3_' r4_' r5_' r6_' r7_' i_'=>EW t p h xs ys s0 s1 s2 s3 s4 s5 s6 s7 t_' p_' h_' l_' r0_' r1_' r2_' r3_' r4_' r5_' r6_' r7_' i_' r_∧lx (9,((xs.length:Int)-i_').toNat,6) (9,((xs.length:Int)-i_).toNat,5)) (λq_' i_'=>E8 t p h xs ys s0 s1 s2 s3 s4 s5 s6 s7 q_' i_' r_∧lx (9,((xs.length:Int)-i_').toNat,5) (9,((xs.length:Int)-i_).toNat,5)) (λq_' c0_' c1_' c2_' c3_' c4_' c5_' c6_' c7_' i_'=>EX t p h xs ys s0 s1 s2 s3 s4 s5 s6 s7 q_' c0_' c1_' c2_' c3_' c4_' c5_' c6_' c7_' i_' r_∧lx (5,(8-i_').toNat,0) (9,((xs.length:Int)-i_).toNat,5)) (λq_'=>F5 t p h xs ys s0 s1 s2 s3 s4 s5 s6 s7 q_' r_∧lx (0,0,0) (9,((xs.length:Int)-i_).toNat,5)) (λr__=>r__=r_):=by
 unfold E8 at hI
 unfold ZF
 try unfold ET
 try unfold EU
 try unfold E5
 try unfold EW
 try unfold E8
 try unfold EX
 try unfold F5
 obtain ⟨rfl,hf,hM,h1,h2⟩:=hI
 rw [Hm (n:=i_+1) (by omega)]
 have e:(i_+1).toNat=i_.toNat+1:=by omega
 rw [←e] at hf hM ⊢
 exact ⟨⟨rfl,hM,hf,by omega,by omega⟩,Bo⟩
theorem AjQ (t p h:Int) (xs ys:LI) (s0 s1 s2 s3 s4 s5 s6 s7:Int) (hp0:Ac t p h=true) (hp1:xs.length=ys.length) (hp2:¬DU t p h xs ys [s0,s1,s2,s3,s4,s5,s6,s7]) (hl0:xs.length≤9223372036854775807) (q_:MS) (c0_ c1_ c2_ c3_ c4_ c5_ c6_ c7_ i_:Int) {r_:Unit} (hI:EX t p h xs ys s0 s1 s2 s3 s4 s5 s6 s7 q_ c0_ c1_ c2_ c3_ c4_ c5_ c6_ c7_ i_ r_):ZG t p h xs ys s0 s1 s2 s3 s4 s5 s6 s7 q_ c0_ c1_ c2_ c3_ c4_ c5_ c6_ c7_ i_ (λq_' i_'=>ET t p h xs ys s0 s1 s2 s3 s4 s5 s6 s7 q_' i_' r_∧lx (9,((xs.length:Int)-i_').toNat,9) (5,(8-i_).toNat,0)) (λq_' y_' z_' i_'=>EU t p h xs ys s0 s1 s2 s3 s4 s5 s6 s7 q_' y_' z_' i_' r_∧lx (9,((xs.length:Int)-i_').toNat,8) (5,(8-i_).toNat,0)) (λt_' p_' h_' l_' r0_' r1_' r2_' r3_' r4_' r5_' r6_' r7_' y_' z_' i_'=>E5 t p h xs ys s0 s1 s2 s3 s4 s5 s6 s7 t_' p_' h_' l_' r0_' r1_' r2_' r3_' r4_' r5_' r6_' r7_' y_' z_' i_' r_∧lx (9,((xs.length:Int)-i_').toNat,7) (5,(8-i_).toNat,0)) (λt_' p_' h_' l_' r0_' r1_' r2_' r3_' r4_' r5_' r6_' r7_' i_'=>EW t p h xs ys s0 s1 s2 s3 s4 s5 s6 s7 t_' p_' h_' l_' r0_' r1_' r2_' r3_' r4_' r5_' r6_' r7_' i_' r_∧lx (9,((xs.length:Int)-i_').toNat,6) (5,(8-i_).toNat,0)) (λq_' i_'=>E8 t p h xs ys s0 s1 s2 s3 s4 s5 s6 s7 q_' i_' r_∧lx (9,((xs.length:Int)-i_').toNat,5) (5,(8-i_).toNat,0)) (λq_' c0_' c1_' c2_' c3_' c4_' c5_' c6_' c7_' i_'=>EX t p h xs ys s0 s1 s2 s3 s4 s5 s6 s7 q_' c0_' c1_' c2_' c3_' c4_' c5_' c6_' c7_' i_' r_∧lx (5,(8-i_').toNat,0) (5,(8-i_).toNat,0)) (λq_'=>F5 t p h xs ys s0 s1 s2 s3 s4 s5 s6 s7 q_' r_∧lx (0,0,0) (5,(8-i_).toNat,0)) (λr__=>r__=r_):=by
 unfold EX at hI
 unfold ZG
 try unfold ET
 try unfold EU
 try unfold E5
 try unfold EW
 try unfold E8
 try unfold EX
 try unfold F5
 obtain ⟨rfl,hM,hf,hrt,h1,h2,rfl,rfl,rfl,rfl,rfl,rfl,rfl,rfl⟩:=hI
 have hL:(GH t p h xs ys xs.length).l=Ba xs ys:=Rj hp1
 refine ⟨λhlt=>?_, λhlt=>?_⟩
 ·have hlt:i_<8:=by simpa using hlt
  refine ⟨⟨h1,hlt⟩, λ_=>?_⟩
  rintro r2 rfl
  refine ⟨hM.nd, λ_=>⟨λ_=>rfl, λhb=>?_⟩⟩
  rw [hL] at hb
  rw [Hm (n:=i_+1) (by omega)]
  refine ⟨⟨rfl,hM,hf, λj hj hn=>?_,by omega,by omega,rfl,rfl,rfl,rfl,rfl,rfl,rfl,rfl⟩,Bo⟩
  by_cases hji:j<i_.toNat
  ·exact hrt j hji hn
  ·have:j=i_.toNat:=by omega
   subst this
   rw [kI] at hb
   rcases hb with hb|hb
   ·exact absurd (by simpa using hb) hn
   ·simpa using hb
 ·have hlt:¬i_<8:=by simpa using hlt
  have e:i_.toNat=8:=by omega
  rw [e] at hrt
  exact ⟨absurd ⟨hf,hrt⟩ hp2,Bo⟩
theorem Apv:DV 8 AkS:=
 AgV Dg SX (I:=[43424338900,694866000,2706000,2999998,1643000000005,1643000000017,1643000000003,1643000000019,1643000000018,6571000000005,6571000000017,6571000000003,6571000000035,6571000000036]) Try.func8 mix (B:=AP Try.f8) (by kernel_rfl) rfl (by kernel_rfl) 400
  λp0 t p h xs ys s0 s1 s2 s3 s4 s5 s6 s7 hb hp=>have hl0:xs.length≤9223372036854775807:=hb.2.1.1;have hp0:Ac t p h=true:=hp _ (.head _);have hp1:xs.length=ys.length:=hp _ (.tail _ (.head _));have hp2:¬DU t p h xs ys [s0,s1,s2,s3,s4,s5,s6,s7]:=hp _ (.tail _ (.tail _ (.head _)));⟨[ZH p0 t p h xs ys s0 s1 s2 s3 s4 s5 s6 s7,ZI p0 t p h xs ys s0 s1 s2 s3 s4 s5 s6 s7,ZJ p0 t p h xs ys s0 s1 s2 s3 s4 s5 s6 s7,ZK p0 t p h xs ys s0 s1 s2 s3 s4 s5 s6 s7,ZL p0 t p h xs ys s0 s1 s2 s3 s4 s5 s6 s7,ZM p0 t p h xs ys s0 s1 s2 s3 s4 s5 s6 s7,ZN p0 t p h xs ys s0 s1 s2 s3 s4 s5 s6 s7],[.run, .opn ⟨Du,Es⟩ 0 (λad=>(ad 0).b) 2, .run, .cls ⟨Du,Es⟩ (λad=>(ad 0).b) (λad i=>ad (i+1)) 4, .run, .run, .run], λj=>iN [Ag (Hd.kd (ZH p0 t p h xs ys s0 s1 s2 s3 s4 s5 s6 s7)) (λq_' i_'=>ET t p h xs ys s0 s1 s2 s3 s4 s5 s6 s7 q_' i_' (CQ t p h xs ys s0 s1 s2 s3 s4 s5 s6 s7)),Ag (Hd.kd (ZI p0 t p h xs ys s0 s1 s2 s3 s4 s5 s6 s7)) (λq_' y_' z_' i_'=>EU t p h xs ys s0 s1 s2 s3 s4 s5 s6 s7 q_' y_' z_' i_' (CQ t p h xs ys s0 s1 s2 s3 s4 s5 s6 s7)),Ag (Hd.kd (ZJ p0 t p h xs ys s0 s1 s2 s3 s4 s5 s6 s7)) (λt_' p_' h_' l_' r0_' r1_' r2_' r3_' r4_' r5_' r6_' r7_' y_' z_' i_'=>E5 t p h xs ys s0 s1 s2 s3 s4 s5 s6 s7 t_' p_' h_' l_' r0_' r1_' r2_' r3_' r4_' r5_' r6_' r7_' y_' z_' i_' (CQ t p h xs ys s0 s1 s2 s3 s4 s5 s6 s7)),Ag (Hd.kd (ZK p0 t p h xs ys s0 s1 s2 s3 s4 s5 s6 s7)) (λt_' p_' h_' l_' r0_' r1_' r2_' r3_' r4_' r5_' r6_' r7_' i_'=>EW t p h xs ys s0 s1 s2 s3 s4 s5 s6 s7 t_' p_' h_' l_' r0_' r1_' r2_' r3_' r4_' r5_' r6_' r7_' i_' (CQ t p h xs ys s0 s1 s2 s3 s4 s5 s6 s7)),Ag (Hd.kd (ZL p0 t p h xs ys s0 s1 s2 s3 s4 s5 s6 s7)) (λq_' i_'=>E8 t p h xs ys s0 s1 s2 s3 s4 s5 s6 s7 q_' i_' (CQ t p h xs ys s0 s1 s2 s3 s4 s5 s6 s7)),Ag (Hd.kd (ZM p0 t p h xs ys s0 s1 s2 s3 s4 s5 s6 s7)) (λq_' c0_' c1_' c2_' c3_' c4_' c5_' c6_' c7_' i_'=>EX t p h xs ys s0 s1 s2 s3 s4 s5 s6 s7 q_' c0_' c1_' c2_' c3_' c4_' c5_' c6_' c7_' i_' (CQ t p h xs ys s0 s1 s2 s3 s4 s5 s6 s7)),Ag (Hd.kd (ZN p0 t p h xs ys s0 s1 s2 s3 s4 s5 s6 s7)) (λq_'=>F5 t p h xs ys s0 s1 s2 s3 s4 s5 s6 s7 q_' (CQ t p h xs ys s0 s1 s2 s3 s4 s5 s6 s7))] j (λ_=>False), λj=>iN [Ag (Hd.kd (ZH p0 t p h xs ys s0 s1 s2 s3 s4 s5 s6 s7)) (λq_' i_'=>(9,((xs.length:Int)-i_').toNat,9)),Ag (Hd.kd (ZI p0 t p h xs ys s0 s1 s2 s3 s4 s5 s6 s7)) (λq_' y_' z_' i_'=>(9,((xs.length:Int)-i_').toNat,8)),Ag (Hd.kd (ZJ p0 t p h xs ys s0 s1 s2 s3 s4 s5 s6 s7)) (λt_' p_' h_' l_' r0_' r1_' r2_' r3_' r4_' r5_' r6_' r7_' y_' z_' i_'=>(9,((xs.length:Int)-i_').toNat,7)),Ag (Hd.kd (ZK p0 t p h xs ys s0 s1 s2 s3 s4 s5 s6 s7)) (λt_' p_' h_' l_' r0_' r1_' r2_' r3_' r4_' r5_' r6_' r7_' i_'=>(9,((xs.length:Int)-i_').toNat,6)),Ag (Hd.kd (ZL p0 t p h xs ys s0 s1 s2 s3 s4 s5 s6 s7)) (λq_' i_'=>(9,((xs.length:Int)-i_').toNat,5)),Ag (Hd.kd (ZM p0 t p h xs ys s0 s1 s2 s3 s4 s5 s6 s7)) (λq_' c0_' c1_' c2_' c3_' c4_' c5_' c6_' c7_' i_'=>(5,(8-i_').toNat,0)),Ag (Hd.kd (ZN p0 t p h xs ys s0 s1 s2 s3 s4 s5 s6 s7)) (λq_'=>(0,0,0))] j (λ_=>(0,0,0)),by kernel_rfl,⟨AdT t p h xs ys s0 s1 s2 s3 s4 s5 s6 s7 (λq_' i_'=>ET t p h xs ys s0 s1 s2 s3 s4 s5 s6 s7 q_' i_' (CQ t p h xs ys s0 s1 s2 s3 s4 s5 s6 s7)) (λq_' y_' z_' i_'=>EU t p h xs ys s0 s1 s2 s3 s4 s5 s6 s7 q_' y_' z_' i_' (CQ t p h xs ys s0 s1 s2 s3 s4 s5 s6 s7)) (λt_' p_' h_' l_' r0_' r1_' r2_' r3_' r4_' r5_' r6_' r7_' y_' z_' i_'=>E5 t p h xs ys s0 s1 s2 s3 s4 s5 s6 s7 t_' p_' h_' l_' r0_' r1_' r2_' r3_' r4_' r5_' r6_' r7_' y_' z_' i_' (CQ t p h xs ys s0 s1 s2 s3 s4 s5 s6 s7)) (λt_' p_' h_' l_' r0_' r1_' r2_' r3_' r4_' r5_' r6_' r7_' i_'=>EW t p h xs ys s0 s1 s2 s3 s4 s5 s6 s7 t_' p_' h_' l_' r0_' r1_' r2_' r3_' r4_' r5_' r6_' r7_' i_' (CQ t p h xs ys s0 s1 s2 s3 s4 s5 s6 s7)) (λq_' i_'=>E8 t p h xs ys s0 s1 s2 s3 s4 s5 s6 s7 q_' i_' (CQ t p h xs ys s0 s1 s2 s3 s4 s5 s6 s7)) (λq_' c0_' c1_' c2_' c3_' c4_' c5_' c6_' c7_' i_'=>EX t p h xs ys s0 s1 s2 s3 s4 s5 s6 s7 q_' c0_' c1_' c2_' c3_' c4_' c5_' c6_' c7_' i_' (CQ t p h xs ys s0 s1 s2 s3 s4 s5 s6 s7)) (λq_'=>F5 t p h xs ys s0 s1 s2 s3 s4 s5 s6 s7 q_' (CQ t p h xs ys s0 s1 s2 s3 s4 s5 s6 s7)) (λr__=>r__=(CQ t p h xs ys s0 s1 s2 s3 s4 s5 s6 s7)), λ_ _ _=>by kernel_rfl,AjL t p h xs ys s0 s1 s2 s3 s4 s5 s6 s7 hp0 hp1 hp2 hl0⟩,⟨λq_ i_ hI=>⟨ZA t p h xs ys s0 s1 s2 s3 s4 s5 s6 s7 q_ i_ (λq_' i_'=>ET t p h xs ys s0 s1 s2 s3 s4 s5 s6 s7 q_' i_' (CQ t p h xs ys s0 s1 s2 s3 s4 s5 s6 s7)∧lx (9,((xs.length:Int)-i_').toNat,9) (9,((xs.length:Int)-i_).toNat,9)) (λq_' y_' z_' i_'=>EU t p h xs ys s0 s1 s2 s3 s4 s5 s6 s7 q_' y_' z_' i_' (CQ t p h xs ys s0 s1 s2 s3 s4 s5 s6 s7)∧lx (9,((xs.length:Int)-i_').toNat,8) (9,((xs.length:Int)-i_).toNat,9)) (λt_' p_' h_' l_' r0_' r1_' r2_' r3_' r4_' r5_' r6_' r7_' y_' z_' i_'=>E5 t p h xs ys s0 s1 s2 s3 s4 s5 s6 s7 t_' p_' h_' l_' r0_' r1_' r2_' r3_' r4_' r5_' r6_' r7_' y_' z_' i_' (CQ t p h xs ys s0 s1 s2 s3 s4 s5 s6 s7)∧lx (9,((xs.length:Int)-i_').toNat,7) (9,((xs.length:Int)-i_).toNat,9)) (λt_' p_' h_' l_' r0_' r1_' r2_' r3_' r4_' r5_' r6_' r7_' i_'=>EW t p h xs ys s0 s1 s2 s3 s4 s5 s6 s7 t_' p_' h_' l_' r0_' r1_' r2_' r3_' r4_' r5_' r6_' r7_' i_' (CQ t p h xs ys s0 s1 s2 s3 s4 s5 s6 s7)∧lx (9,((xs.length:Int)-i_').toNat,6) (9,((xs.length:Int)-i_).toNat,9)) (λq_' i_'=>E8 t p h xs ys s0 s1 s2 s3 s4 s5 s6 s7 q_' i_' (CQ t p h xs ys s0 s1 s2 s3 s4 s5 s6 s7)∧lx (9,((xs.length:Int)-i_').toNat,5) (9,((xs.length:Int)-i_).toNat,9)) (λq_' c0_' c1_' c2_' c3_' c4_' c5_' c6_' c7_' i_'=>EX t p h xs ys s0 s1 s2 s3 s4 s5 s6 s7 q_' c0_' c1_' c2_' c3_' c4_' c5_' c6_' c7_' i_' (CQ t p h xs ys s0 s1 s2 s3 s4 s5 s6 s7)∧lx (5,(8-i_').toNat,0) (9,((xs.length:Int)-i_).toNat,9)) (λq_'=>F5 t p h xs ys s0 s1 s2 s3 s4 s5 s6 s7 q_' (CQ t p h xs ys s0 s1 s2 s3 s4 s5 s6 s7)∧lx (0,0,0) (9,((xs.length:Int)-i_).toNat,9)) (λr__=>r__=(CQ t p h xs ys s0 s1 s2 s3 s4 s5 s6 s7)), λ_ _ _=>by kernel_rfl,AjM t p h xs ys s0 s1 s2 s3 s4 s5 s6 s7 hp0 hp1 hp2 hl0 q_ i_ hI⟩,⟨⟨Gh, λq_ y_ z_ i_ hI=>⟨q_, λ_=>by kernel_rfl, λt_ p_ h_ l_ x0_ x1_ x2_ x3_ x4_ x5_ x6_ x7_ hx=>⟨ZB t p h xs ys s0 s1 s2 s3 s4 s5 s6 s7 q_ y_ z_ i_ t_ p_ h_ l_ x0_ x1_ x2_ x3_ x4_ x5_ x6_ x7_ (λt_' p_' h_' l_' r0_' r1_' r2_' r3_' r4_' r5_' r6_' r7_' y_' z_' i_'=>E5 t p h xs ys s0 s1 s2 s3 s4 s5 s6 s7 t_' p_' h_' l_' r0_' r1_' r2_' r3_' r4_' r5_' r6_' r7_' y_' z_' i_' (CQ t p h xs ys s0 s1 s2 s3 s4 s5 s6 s7)∧lx (9,((xs.length:Int)-i_').toNat,7) (9,((xs.length:Int)-i_).toNat,8)), λ_ _=>by kernel_rfl,AjN t p h xs ys s0 s1 s2 s3 s4 s5 s6 s7 hp0 hp1 hp2 hl0 q_ y_ z_ i_ t_ p_ h_ l_ x0_ x1_ x2_ x3_ x4_ x5_ x6_ x7_ hI hx⟩⟩⟩,⟨λt_ p_ h_ l_ r0_ r1_ r2_ r3_ r4_ r5_ r6_ r7_ y_ z_ i_ hI=>⟨ZC t p h xs ys s0 s1 s2 s3 s4 s5 s6 s7 t_ p_ h_ l_ r0_ r1_ r2_ r3_ r4_ r5_ r6_ r7_ y_ z_ i_ (λq_' i_'=>ET t p h xs ys s0 s1 s2 s3 s4 s5 s6 s7 q_' i_' (CQ t p h xs ys s0 s1 s2 s3 s4 s5 s6 s7)∧lx (9,((xs.length:Int)-i_').toNat,9) (9,((xs.length:Int)-i_).toNat,7)) (λq_' y_' z_' i_'=>EU t p h xs ys s0 s1 s2 s3 s4 s5 s6 s7 q_' y_' z_' i_' (CQ t p h xs ys s0 s1 s2 s3 s4 s5 s6 s7)∧lx (9,((xs.length:Int)-i_').toNat,8) (9,((xs.length:Int)-i_).toNat,7)) (λt_' p_' h_' l_' r0_' r1_' r2_' r3_' r4_' r5_' r6_' r7_' y_' z_' i_'=>E5 t p h xs ys s0 s1 s2 s3 s4 s5 s6 s7 t_' p_' h_' l_' r0_' r1_' r2_' r3_' r4_' r5_' r6_' r7_' y_' z_' i_' (CQ t p h xs ys s0 s1 s2 s3 s4 s5 s6 s7)∧lx (9,((xs.length:Int)-i_').toNat,7) (9,((xs.length:Int)-i_).toNat,7)) (λt_' p_' h_' l_' r0_' r1_' r2_' r3_' r4_' r5_' r6_' r7_' i_'=>EW t p h xs ys s0 s1 s2 s3 s4 s5 s6 s7 t_' p_' h_' l_' r0_' r1_' r2_' r3_' r4_' r5_' r6_' r7_' i_' (CQ t p h xs ys s0 s1 s2 s3 s4 s5 s6 s7)∧lx (9,((xs.length:Int)-i_').toNat,6) (9,((xs.length:Int)-i_).toNat,7)) (λq_' i_'=>E8 t p h xs ys s0 s1 s2 s3 s4 s5 s6 s7 q_' i_' (CQ t p h xs ys s0 s1 s2 s3 s4 s5 s6 s7)∧lx (9,((xs.length:Int)-i_').toNat,5) (9,((xs.length:Int)-i_).toNat,7)) (λq_' c0_' c1_' c2_' c3_' c4_' c5_' c6_' c7_' i_'=>EX t p h xs ys s0 s1 s2 s3 s4 s5 s6 s7 q_' c0_' c1_' c2_' c3_' c4_' c5_' c6_' c7_' i_' (CQ t p h xs ys s0 s1 s2 s3 s4 s5 s6 s7)∧lx (5,(8-i_').toNat,0) (9,((xs.length:Int)-i_).toNat,7)) (λq_'=>F5 t p h xs ys s0 s1 s2 s3 s4 s5 s6 s7 q_' (CQ t p h xs ys s0 s1 s2 s3 s4 s5 s6 s7)∧lx (0,0,0) (9,((xs.length:Int)-i_).toNat,7)) (λr__=>r__=(CQ t p h xs ys s0 s1 s2 s3 s4 s5 s6 s7)), λ_ _ _=>by kernel_rfl,AjO t p h xs ys s0 s1 s2 s3 s4 s5 s6 s7 hp0 hp1 hp2 hl0 t_ p_ h_ l_ r0_ r1_ r2_ r3_ r4_ r5_ r6_ r7_ y_ z_ i_ hI⟩,⟨⟨Gh, λt_ p_ h_ l_ r0_ r1_ r2_ r3_ r4_ r5_ r6_ r7_ i_ hI=>⟨⟨t_,p_,h_,l_,r0_,r1_,r2_,r3_,r4_,r5_,r6_,r7_⟩,ZE t p h xs ys s0 s1 s2 s3 s4 s5 s6 s7 t_ p_ h_ l_ r0_ r1_ r2_ r3_ r4_ r5_ r6_ r7_ i_ (λq_' i_'=>E8 t p h xs ys s0 s1 s2 s3 s4 s5 s6 s7 q_' i_' (CQ t p h xs ys s0 s1 s2 s3 s4 s5 s6 s7)∧lx (9,((xs.length:Int)-i_').toNat,5) (9,((xs.length:Int)-i_).toNat,6)),(Yx t p h xs ys s0 s1 s2 s3 s4 s5 s6 s7 hp0 hp1 hp2 hl0 t_ p_ h_ l_ r0_ r1_ r2_ r3_ r4_ r5_ r6_ r7_ i_ hI).1, λ_=>by kernel_rfl,(Yx t p h xs ys s0 s1 s2 s3 s4 s5 s6 s7 hp0 hp1 hp2 hl0 t_ p_ h_ l_ r0_ r1_ r2_ r3_ r4_ r5_ r6_ r7_ i_ hI).2⟩⟩,⟨λq_ i_ hI=>⟨ZF t p h xs ys s0 s1 s2 s3 s4 s5 s6 s7 q_ i_ (λq_' i_'=>ET t p h xs ys s0 s1 s2 s3 s4 s5 s6 s7 q_' i_' (CQ t p h xs ys s0 s1 s2 s3 s4 s5 s6 s7)∧lx (9,((xs.length:Int)-i_').toNat,9) (9,((xs.length:Int)-i_).toNat,5)) (λq_' y_' z_' i_'=>EU t p h xs ys s0 s1 s2 s3 s4 s5 s6 s7 q_' y_' z_' i_' (CQ t p h xs ys s0 s1 s2 s3 s4 s5 s6 s7)∧lx (9,((xs.length:Int)-i_').toNat,8) (9,((xs.length:Int)-i_).toNat,5)) (λt_' p_' h_' l_' r0_' r1_' r2_' r3_' r4_' r5_' r6_' r7_' y_' z_' i_'=>E5 t p h xs ys s0 s1 s2 s3 s4 s5 s6 s7 t_' p_' h_' l_' r0_' r1_' r2_' r3_' r4_' r5_' r6_' r7_' y_' z_' i_' (CQ t p h xs ys s0 s1 s2 s3 s4 s5 s6 s7)∧lx (9,((xs.length:Int)-i_').toNat,7) (9,((xs.length:Int)-i_).toNat,5)) (λt_' p_' h_' l_' r0_' r1_' r2_' r3_' r4_' r5_' r6_' r7_' i_'=>EW t p h xs ys s0 s1 s2 s3 s4 s5 s6 s7 t_' p_' h_' l_' r0_' r1_' r2_' r3_' r4_' r5_' r6_' r7_' i_' (CQ t p h xs ys s0 s1 s2 s3 s4 s5 s6 s7)∧lx (9,((xs.length:Int)-i_').toNat,6) (9,((xs.length:Int)-i_).toNat,5)) (λq_' i_'=>E8 t p h xs ys s0 s1 s2 s3 s4 s5 s6 s7 q_' i_' (CQ t p h xs ys s0 s1 s2 s3 s4 s5 s6 s7)∧lx (9,((xs.length:Int)-i_').toNat,5) (9,((xs.length:Int)-i_).toNat,5)) (λq_' c0_' c1_' c2_' c3_' c4_' c5_' c6_' c7_' i_'=>EX t p h xs ys s0 s1 s2 s3 s4 s5 s6 s7 q_' c0_' c1_' c2_' c3_' c4_' c5_' c6_' c7_' i_' (CQ t p h xs ys s0 s1 s2 s3 s4 s5 s6 s7)∧lx (5,(8-i_').toNat,0) (9,((xs.length:Int)-i_).toNat,5)) (λq_'=>F5 t p h xs ys s0 s1 s2 s3 s4 s5 s6 s7 q_' (CQ t p h xs ys s0 s1 s2 s3 s4 s5 s6 s7)∧lx (0,0,0) (9,((xs.length:Int)-i_).toNat,5)) (λr__=>r__=(CQ t p h xs ys s0 s1 s2 s3 s4 s5 s6 s7)), λ_ _ _=>by kernel_rfl,AjP t p h xs ys s0 s1 s2 s3 s4 s5 s6 s7 hp0 hp1 hp2 hl0 q_ i_ hI⟩,⟨λq_ c0_ c1_ c2_ c3_ c4_ c5_ c6_ c7_ i_ hI=>⟨ZG t p h xs ys s0 s1 s2 s3 s4 s5 s6 s7 q_ c0_ c1_ c2_ c3_ c4_ c5_ c6_ c7_ i_ (λq_' i_'=>ET t p h xs ys s0 s1 s2 s3 s4 s5 s6 s7 q_' i_' (CQ t p h xs ys s0 s1 s2 s3 s4 s5 s6 s7)∧lx (9,((xs.length:Int)-i_').toNat,9) (5,(8-i_).toNat,0)) (λq_' y_' z_' i_'=>EU t p h xs ys s0 s1 s2 s3 s4 s5 s6 s7 q_' y_' z_' i_' (CQ t p h xs ys s0 s1 s2 s3 s4 s5 s6 s7)∧lx (9,((xs.length:Int)-i_').toNat,8) (5,(8-i_).toNat,0)) (λt_' p_' h_' l_' r0_' r1_' r2_' r3_' r4_' r5_' r6_' r7_' y_' z_' i_'=>E5 t p h xs ys s0 s1 s2 s3 s4 s5 s6 s7 t_' p_' h_' l_' r0_' r1_' r2_' r3_' r4_' r5_' r6_' r7_' y_' z_' i_' (CQ t p h xs ys s0 s1 s2 s3 s4 s5 s6 s7)∧lx (9,((xs.length:Int)-i_').toNat,7) (5,(8-i_).toNat,0)) (λt_' p_' h_' l_' r0_' r1_' r2_' r3_' r4_' r5_' r6_' r7_' i_'=>EW t p h xs ys s0 s1 s2 s3 s4 s5 s6 s7 t_' p_' h_' l_' r0_' r1_' r2_' r3_' r4_' r5_' r6_' r7_' i_' (CQ t p h xs ys s0 s1 s2 s3 s4 s5 s6 s7)∧lx (9,((xs.length:Int)-i_').toNat,6) (5,(8-i_).toNat,0)) (λq_' i_'=>E8 t p h xs ys s0 s1 s2 s3 s4 s5 s6 s7 q_' i_' (CQ t p h xs ys s0 s1 s2 s3 s4 s5 s6 s7)∧lx (9,((xs.length:Int)-i_').toNat,5) (5,(8-i_).toNat,0)) (λq_' c0_' c1_' c2_' c3_' c4_' c5_' c6_' c7_' i_'=>EX t p h xs ys s0 s1 s2 s3 s4 s5 s6 s7 q_' c0_' c1_' c2_' c3_' c4_' c5_' c6_' c7_' i_' (CQ t p h xs ys s0 s1 s2 s3 s4 s5 s6 s7)∧lx (5,(8-i_').toNat,0) (5,(8-i_).toNat,0)) (λq_'=>F5 t p h xs ys s0 s1 s2 s3 s4 s5 s6 s7 q_' (CQ t p h xs ys s0 s1 s2 s3 s4 s5 s6 s7)∧lx (0,0,0) (5,(8-i_).toNat,0)) (λr__=>r__=(CQ t p h xs ys s0 s1 s2 s3 s4 s5 s6 s7)), λ_ _ _=>by kernel_rfl,AjQ t p h xs ys s0 s1 s2 s3 s4 s5 s6 s7 hp0 hp1 hp2 hl0 q_ c0_ c1_ c2_ c3_ c4_ c5_ c6_ c7_ i_ hI⟩,⟨λq_ hI=>False.elim hI,trivial⟩⟩⟩⟩⟩⟩⟩⟩
def AkT:Tb:=(8,AkS)::AkN
theorem Ack:D7 AkT:=Ea Apv SX
end
section
open Go.Sl
def Dj (t p h:Int) (xs ys:LI) (s0 s1 s2 s3 s4 s5 s6 s7:Int):Unit:=()
abbrev AqK:Ct Sg:=⟨none,false,[.agg [.i .i64, .i .i64, .i .i64], .agg [.ro [some .i64,some .i64], .i .i64, .i .i64, .i .i64, .i .i64, .i .i64, .i .i64, .i .i64, .i .i64]], .vc (kA none)⟩
def AkU:Entry Sg:=BU AqK Dj (λt p h xs ys s0 s1 s2 s3 s4 s5 s6 s7=>[Ac t p h=true,xs.length=ys.length,xs.length≤999,¬DU t p h xs ys [s0,s1,s2,s3,s4,s5,s6,s7]])
def AdU (t p h:Int) (xs ys:LI) (s0 s1 s2 s3 s4 s5 s6 s7:Int) (Q0:RS→Int→Prop) (Q1:RS→Int→Prop) (Q2:RS→Prop) (R_:Unit→Prop):Prop:=(∀r2:RS,r2=({t:=t,p:=p,h:=h,a:=[],z:=[],r0:=0,r1:=0,r2:=0,r3:=0,r4:=0,r5:=0,r6:=0,r7:=0})→(Ap (Ac t p h=true) (AV (false) (R_ (())) (Q0 (r2) (0)))))
def ZO (t p h:Int) (xs ys:LI) (s0 s1 s2 s3 s4 s5 s6 s7:Int) (q_:RS) (i_:Int) (Q0:RS→Int→Prop) (Q1:RS→Int→Prop) (Q2:RS→Prop) (R_:Unit→Prop):Prop:=(AV (decide (i_<(↑(iH xs):Int))) (Ap (0≤i_∧i_<(↑(iH xs):Int)) (∀r2:Bool,r2=(OV q_ (iN xs (jI i_) 0) (iN ys (jI i_) 0) (-1))→(Ap (iH (RS.a q_)≤1000) (AV (!r2) (R_ (())) (Ap (0≤i_∧i_<(↑(iH xs):Int)) (∀r6:RS,r6=(DL q_ (iN xs (jI i_) 0) (iN ys (jI i_) 0))→(Ap (iH (RS.a q_)≤1000) (Q0 (r6) (iO iB (i_+1)))))))))) (Q1 (q_) (0)))
def CP (t p h:Int) (xs ys:LI) (s0 s1 s2 s3 s4 s5 s6 s7:Int) (q_:RS) (i_:Int) (r_:Unit):Prop:=q_=IJ t p h xs ys i_.toNat∧Amw t p h xs ys i_.toNat∧0≤i_∧i_≤(xs.length:Int)
def Tc (t p h:Int) (xs ys:LI) (s0 s1 s2 s3 s4 s5 s6 s7:Int) (q_:RS) (Q0:RS→Int→Prop) (Q1:RS→Int→Prop) (Q2:RS→Prop) (R_:Unit→Prop):Prop:=(AV (true) (Ap ((0:Int)≤0∧(0:Int)<8) (Ap ((s0 !=0)=true→(0:Int)≤0∧(0:Int)<8) (Ap ((s0 !=0)=true→iH (RS.a q_)≤1000) (AV (s0 !=0&&decide (BK (RS.a q_) s0<0)) (R_ (())) (Q1 (q_) (1)))))) (Q2 (q_)))
def Td (t p h:Int) (xs ys:LI) (s0 s1 s2 s3 s4 s5 s6 s7:Int) (q_:RS) (Q0:RS→Int→Prop) (Q1:RS→Int→Prop) (Q2:RS→Prop) (R_:Unit→Prop):Prop:=(AV (true) (Ap ((0:Int)≤1∧(1:Int)<8) (Ap ((s1 !=0)=true→(0:Int)≤1∧(1:Int)<8) (Ap ((s1 !=0)=true→iH (RS.a q_)≤1000) (AV (s1 !=0&&decide (BK (RS.a q_) s1<0)) (R_ (())) (Q1 (q_) (2)))))) (Q2 (q_)))
def Tf (t p h:Int) (xs ys:LI) (s0 s1 s2 s3 s4 s5 s6 s7:Int) (q_:RS) (Q0:RS→Int→Prop) (Q1:RS→Int→Prop) (Q2:RS→Prop) (R_:Unit→Prop):Prop:=(AV (true) (Ap ((0:Int)≤2∧(2:Int)<8) (Ap ((s2 !=0)=true→(0:Int)≤2∧(2:Int)<8) (Ap ((s2 !=0)=true→iH (RS.a q_)≤1000) (AV (s2 !=0&&decide (BK (RS.a q_) s2<0)) (R_ (())) (Q1 (q_) (3)))))) (Q2 (q_)))
def Ti (t p h:Int) (xs ys:LI) (s0 s1 s2 s3 s4 s5 s6 s7:Int) (q_:RS) (Q0:RS→Int→Prop) (Q1:RS→Int→Prop) (Q2:RS→Prop) (R_:Unit→Prop):Prop:=(AV (true) (Ap ((0:Int)≤3∧(3:Int)<8) (Ap ((s3 !=0)=true→(0:Int)≤3∧(3:Int)<8) (Ap ((s3 !=0)=true→iH (RS.a q_)≤1000) (AV (s3 !=0&&decide (BK (RS.a q_) s3<0)) (R_ (())) (Q1 (q_) (4)))))) (Q2 (q_)))
def Tj (t p h:Int) (xs ys:LI) (s0 s1 s2 s3 s4 s5 s6 s7:Int) (q_:RS) (Q0:RS→Int→Prop) (Q1:RS→Int→Prop) (Q2:RS→Prop) (R_:Unit→Prop):Prop:=(AV (true) (Ap ((0:Int)≤4∧(4:Int)<8) (Ap ((s4 !=0)=true→(0:Int)≤4∧(4:Int)<8) (Ap ((s4 !=0)=true→iH (RS.a q_)≤1000) (AV (s4 !=0&&decide (BK (RS.a q_) s4<0)) (R_ (())) (Q1 (q_) (5)))))) (Q2 (q_)))
def Tm (t p h:Int) (xs ys:LI) (s0 s1 s2 s3 s4 s5 s6 s7:Int) (q_:RS) (Q0:RS→Int→Prop) (Q1:RS→Int→Prop) (Q2:RS→Prop) (R_:Unit→Prop):Prop:=(AV (true) (Ap ((0:Int)≤5∧(5:Int)<8) (Ap ((s5 !=0)=true→(0:Int)≤5∧(5:Int)<8) (Ap ((s5 !=0)=true→iH (RS.a q_)≤1000) (AV (s5 !=0&&decide (BK (RS.a q_) s5<0)) (R_ (())) (Q1 (q_) (6)))))) (Q2 (q_)))
def Tn (t p h:Int) (xs ys:LI) (s0 s1 s2 s3 s4 s5 s6 s7:Int) (q_:RS) (Q0:RS→Int→Prop) (Q1:RS→Int→Prop) (Q2:RS→Prop) (R_:Unit→Prop):Prop:=(AV (true) (Ap ((0:Int)≤6∧(6:Int)<8) (Ap ((s6 !=0)=true→(0:Int)≤6∧(6:Int)<8) (Ap ((s6 !=0)=true→iH (RS.a q_)≤1000) (AV (s6 !=0&&decide (BK (RS.a q_) s6<0)) (R_ (())) (Q1 (q_) (7)))))) (Q2 (q_)))
def Tq (t p h:Int) (xs ys:LI) (s0 s1 s2 s3 s4 s5 s6 s7:Int) (q_:RS) (Q0:RS→Int→Prop) (Q1:RS→Int→Prop) (Q2:RS→Prop) (R_:Unit→Prop):Prop:=(AV (true) (Ap ((0:Int)≤7∧(7:Int)<8) (Ap ((s7 !=0)=true→(0:Int)≤7∧(7:Int)<8) (Ap ((s7 !=0)=true→iH (RS.a q_)≤1000) (AV (s7 !=0&&decide (BK (RS.a q_) s7<0)) (R_ (())) (Q1 (q_) (8)))))) (Q2 (q_)))
def Tt (t p h:Int) (xs ys:LI) (s0 s1 s2 s3 s4 s5 s6 s7:Int) (q_:RS) (Q0:RS→Int→Prop) (Q1:RS→Int→Prop) (Q2:RS→Prop) (R_:Unit→Prop):Prop:=(AV (false) (Ap ((0:Int)≤8∧(8:Int)<8) False) (Q2 (q_)))
def Bz (t p h:Int) (xs ys:LI) (s0 s1 s2 s3 s4 s5 s6 s7:Int) (q_:RS) (i_:Int) (r_:Unit):Prop:=r_=()∧q_=IJ t p h xs ys xs.length∧Amw t p h xs ys xs.length∧ArX (AY (Ba xs ys)) [s0,s1,s2,s3,s4,s5,s6,s7] i_.toNat∧0≤i_∧i_≤8
def CY (t p h:Int) (xs ys:LI) (s0 s1 s2 s3 s4 s5 s6 s7:Int) (q_:RS) (r_:Unit):Prop:=False
abbrev ZP (p0:Addr) (t p h:Int) (xs ys:LI) (s0 s1 s2 s3 s4 s5 s6 s7:Int):Hd Sg:=⟨none,[0,1,0,1,1,1],[.blk 0, .code [1,1,1,1]],[5,1,3,6],[.objb CW, .agg [.roc [.ints .i64 (xs), .ints .i64 (ys)], .ic .i64 (s0), .ic .i64 (s1), .ic .i64 (s2), .ic .i64 (s3), .ic .i64 (s4), .ic .i64 (s5), .ic .i64 (s6), .ic .i64 (s7)], .box 27 [.ags 1 (xs.length), .ic .i64 (s0), .ic .i64 (s1), .ic .i64 (s2), .ic .i64 (s3), .ic .i64 (s4), .ic .i64 (s5), .ic .i64 (s6), .ic .i64 (s7)], .i .i64]⟩
abbrev ZQ (p0:Addr) (t p h:Int) (xs ys:LI) (s0 s1 s2 s3 s4 s5 s6 s7:Int):Hd Sg:=⟨none,[0,1,0,1,1,1,1],[.blk 2, .code [1,1,1,1,1]],[5,1,3,7],[.objb CW, .agg [.roc [.ints .i64 (xs), .ints .i64 (ys)], .ic .i64 (s0), .ic .i64 (s1), .ic .i64 (s2), .ic .i64 (s3), .ic .i64 (s4), .ic .i64 (s5), .ic .i64 (s6), .ic .i64 (s7)], .box 27 [.ags 1 (xs.length), .ic .i64 (s0), .ic .i64 (s1), .ic .i64 (s2), .ic .i64 (s3), .ic .i64 (s4), .ic .i64 (s5), .ic .i64 (s6), .ic .i64 (s7)], .i .i64]⟩
abbrev ZR (p0:Addr) (t p h:Int) (xs ys:LI) (s0 s1 s2 s3 s4 s5 s6 s7:Int):Hd Sg:=⟨some 0,[0,1,1,1,1,1],[.code [1,1,1,1,1,1]],[5],[.objb CW]⟩
theorem AjR (t p h:Int) (xs ys:LI) (s0 s1 s2 s3 s4 s5 s6 s7:Int) (hp0:Ac t p h=true) (hp1:xs.length=ys.length) (hp2:xs.length≤999) (hp3:¬DU t p h xs ys [s0,s1,s2,s3,s4,s5,s6,s7]) (hl0:xs.length≤9223372036854775807):AdU t p h xs ys s0 s1 s2 s3 s4 s5 s6 s7 (λq_' i_'=>CP t p h xs ys s0 s1 s2 s3 s4 s5 s6 s7 q_' i_' (Dj t p h xs ys s0 s1 s2 s3 s4 s5 s6 s7)) (λq_' i_'=>Bz t p h xs ys s0 s1 s2 s3 s4 s5 s6 s7 q_' i_' (Dj t p h xs ys s0 s1 s2 s3 s4 s5 s6 s7)) (λq_'=>CY t p h xs ys s0 s1 s2 s3 s4 s5 s6 s7 q_' (Dj t p h xs ys s0 s1 s2 s3 s4 s5 s6 s7)) (λr__=>r__=(Dj t p h xs ys s0 s1 s2 s3 s4 s5 s6 s7)):=by
 unfold AdU
 try unfold CP
 try unfold Bz
 try unfold CY
 rintro r2 rfl
 exact ⟨hp0, λ_=>⟨λh=>(by cases h), λ_=>⟨rfl, λj hj=>absurd hj (kB j),by decide,by omega⟩⟩⟩
theorem AjS (t p h:Int) (xs ys:LI) (s0 s1 s2 s3 s4 s5 s6 s7:Int) (hp0:Ac t p h=true) (hp1:xs.length=ys.length) (hp2:xs.length≤999) (hp3:¬DU t p h xs ys [s0,s1,s2,s3,s4,s5,s6,s7]) (hl0:xs.length≤9223372036854775807) (q_:RS) (i_:Int) {r_:Unit} (hI:CP t p h xs ys s0 s1 s2 s3 s4 s5 s6 s7 q_ i_ r_):ZO t p h xs ys s0 s1 s2 s3 s4 s5 s6 s7 q_ i_ (λq_' i_'=>CP t p h xs ys s0 s1 s2 s3 s4 s5 s6 s7 q_' i_' r_∧lx (9,((xs.length:Int)-i_').toNat,0) (9,((xs.length:Int)-i_).toNat,0)) (λq_' i_'=>Bz t p h xs ys s0 s1 s2 s3 s4 s5 s6 s7 q_' i_' r_∧lx (5,(8-i_').toNat,0) (9,((xs.length:Int)-i_).toNat,0)) (λq_'=>CY t p h xs ys s0 s1 s2 s3 s4 s5 s6 s7 q_' r_∧lx (0,0,0) (9,((xs.length:Int)-i_).toNat,0)) (λr__=>r__=r_):=by
 unfold CP at hI
 unfold ZO
 try unfold CP
 try unfold Bz
 try unfold CY
 obtain ⟨rfl,hf,h1,h2⟩:=hI
 refine ⟨λhlt=>?_, λhlt=>?_⟩
 ·have hlt:i_<(xs.length:Int):=by simpa using hlt
  refine ⟨⟨h1,hlt⟩, λ_=>?_⟩
  rintro r2 rfl
  refine ⟨FB hp2, λ_=>⟨λ_=>rfl, λhn=>⟨⟨h1,hlt⟩, λ_=>?_⟩⟩⟩
  rintro r6 rfl
  refine ⟨FB hp2, λ_=>?_⟩
  have e:(i_+1).toNat=i_.toNat+1:=by omega
  rw [lO] at hn
  rw [Hm (n:=i_+1) (by omega),Aim hp1 (by omega)]
  refine ⟨⟨by rw [e], λj hj=>?_,by omega,by omega⟩,Bo⟩
  by_cases hji:j<i_.toNat
  ·exact hf j hji
  ·have:j=i_.toNat:=by omega
   subst this;exact hn
 ·have hlt:¬i_<(xs.length:Int):=by simpa using hlt
  have e:i_.toNat=xs.length:=by omega
  rw [e] at hf ⊢
  exact ⟨⟨rfl,rfl,hf, λj hj=>absurd hj (kB j),by decide,by decide⟩,Bo⟩
theorem Aog (t p h:Int) (xs ys:LI) (s0 s1 s2 s3 s4 s5 s6 s7:Int) (hp0:Ac t p h=true) (hp1:xs.length=ys.length) (hp2:xs.length≤999) (hp3:¬DU t p h xs ys [s0,s1,s2,s3,s4,s5,s6,s7]) (hl0:xs.length≤9223372036854775807) (q_:RS) (i_:Int) {r_:Unit} (hI:Bz t p h xs ys s0 s1 s2 s3 s4 s5 s6 s7 q_ i_ r_):i_=0∨i_=1∨i_=2∨i_=3∨i_=4∨i_=5∨i_=6∨i_=7∨i_=8:=by
 unfold Bz at hI
 omega
theorem AfH (t p h:Int) (xs ys:LI) (s0 s1 s2 s3 s4 s5 s6 s7:Int) (hp0:Ac t p h=true) (hp1:xs.length=ys.length) (hp2:xs.length≤999) (hp3:¬DU t p h xs ys [s0,s1,s2,s3,s4,s5,s6,s7]) (hl0:xs.length≤9223372036854775807) (q_:RS) {r_:Unit} (hI:Bz t p h xs ys s0 s1 s2 s3 s4 s5 s6 s7 q_ (0:Int) r_):Tc t p h xs ys s0 s1 s2 s3 s4 s5 s6 s7 q_ (λq_' i_'=>CP t p h xs ys s0 s1 s2 s3 s4 s5 s6 s7 q_' i_' r_∧lx (9,((xs.length:Int)-i_').toNat,0) (5,(8-(0:Int)).toNat,0)) (λq_' i_'=>Bz t p h xs ys s0 s1 s2 s3 s4 s5 s6 s7 q_' i_' r_∧lx (5,(8-i_').toNat,0) (5,(8-(0:Int)).toNat,0)) (λq_'=>CY t p h xs ys s0 s1 s2 s3 s4 s5 s6 s7 q_' r_∧lx (0,0,0) (5,(8-(0:Int)).toNat,0)) (λr__=>r__=r_):=by
 unfold Bz at hI
 unfold Tc
 try unfold CP
 try unfold Bz
 try unfold CY
 obtain ⟨hr_,rfl,hf,hrt,_,_⟩:=hI
 have e:(IJ t p h xs ys xs.length).a=(AY (Ba xs ys)).map (·.1):=by
  show (AY (lP _ _)).map _=_
  rw [Gv hp1]
 refine ⟨λ_=>⟨by decide, λ_=>⟨λ_=>by decide, λ_=>⟨λ_=>FB hp2, λ_=>⟨λ_=>rfl, λhb=>⟨⟨hr_,rfl,hf, λj hj hn=>?_,by decide,by decide⟩,Bo⟩⟩⟩⟩⟩, λh=>(by cases h)⟩
 rw [e] at hb
 by_cases hji:j<0
 ·exact hrt j hji hn
 ·have:j=0:=by
   have hj:j<1:=hj
   omega
  subst this
  have hn:s0≠0:=hn
  show 0≤BK ((AY (Ba xs ys)).map (·.1)) s0
  rw [kI] at hb
  rcases hb with hb|hb
  ·exact absurd (by simpa using hb) hn
  ·have:=of_decide_eq_false hb
   omega
theorem AfI (t p h:Int) (xs ys:LI) (s0 s1 s2 s3 s4 s5 s6 s7:Int) (hp0:Ac t p h=true) (hp1:xs.length=ys.length) (hp2:xs.length≤999) (hp3:¬DU t p h xs ys [s0,s1,s2,s3,s4,s5,s6,s7]) (hl0:xs.length≤9223372036854775807) (q_:RS) {r_:Unit} (hI:Bz t p h xs ys s0 s1 s2 s3 s4 s5 s6 s7 q_ (1:Int) r_):Td t p h xs ys s0 s1 s2 s3 s4 s5 s6 s7 q_ (λq_' i_'=>CP t p h xs ys s0 s1 s2 s3 s4 s5 s6 s7 q_' i_' r_∧lx (9,((xs.length:Int)-i_').toNat,0) (5,(8-(1:Int)).toNat,0)) (λq_' i_'=>Bz t p h xs ys s0 s1 s2 s3 s4 s5 s6 s7 q_' i_' r_∧lx (5,(8-i_').toNat,0) (5,(8-(1:Int)).toNat,0)) (λq_'=>CY t p h xs ys s0 s1 s2 s3 s4 s5 s6 s7 q_' r_∧lx (0,0,0) (5,(8-(1:Int)).toNat,0)) (λr__=>r__=r_):=by
 unfold Bz at hI
 unfold Td
 try unfold CP
 try unfold Bz
 try unfold CY
 obtain ⟨hr_,rfl,hf,hrt,_,_⟩:=hI
 have e:(IJ t p h xs ys xs.length).a=(AY (Ba xs ys)).map (·.1):=by
  show (AY (lP _ _)).map _=_
  rw [Gv hp1]
 refine ⟨λ_=>⟨by decide, λ_=>⟨λ_=>by decide, λ_=>⟨λ_=>FB hp2, λ_=>⟨λ_=>rfl, λhb=>⟨⟨hr_,rfl,hf, λj hj hn=>?_,by decide,by decide⟩,Bo⟩⟩⟩⟩⟩, λh=>(by cases h)⟩
 rw [e] at hb
 by_cases hji:j<1
 ·exact hrt j hji hn
 ·have:j=1:=by
   have hj:j<2:=hj
   omega
  subst this
  have hn:s1≠0:=hn
  show 0≤BK ((AY (Ba xs ys)).map (·.1)) s1
  rw [kI] at hb
  rcases hb with hb|hb
  ·exact absurd (by simpa using hb) hn
  ·have:=of_decide_eq_false hb
   omega
theorem AfJ (t p h:Int) (xs ys:LI) (s0 s1 s2 s3 s4 s5 s6 s7:Int) (hp0:Ac t p h=true) (hp1:xs.length=ys.length) (hp2:xs.length≤999) (hp3:¬DU t p h xs ys [s0,s1,s2,s3,s4,s5,s6,s7]) (hl0:xs.length≤9223372036854775807) (q_:RS) {r_:Unit} (hI:Bz t p h xs ys s0 s1 s2 s3 s4 s5 s6 s7 q_ (2:Int) r_):Tf t p h xs ys s0 s1 s2 s3 s4 s5 s6 s7 q_ (λq_' i_'=>CP t p h xs ys s0 s1 s2 s3 s4 s5 s6 s7 q_' i_' r_∧lx (9,((xs.length:Int)-i_').toNat,0) (5,(8-(2:Int)).toNat,0)) (λq_' i_'=>Bz t p h xs ys s0 s1 s2 s3 s4 s5 s6 s7 q_' i_' r_∧lx (5,(8-i_').toNat,0) (5,(8-(2:Int)).toNat,0)) (λq_'=>CY t p h xs ys s0 s1 s2 s3 s4 s5 s6 s7 q_' r_∧lx (0,0,0) (5,(8-(2:Int)).toNat,0)) (λr__=>r__=r_):=by
 unfold Bz at hI
 unfold Tf
 try unfold CP
 try unfold Bz
 try unfold CY
 obtain ⟨hr_,rfl,hf,hrt,_,_⟩:=hI
 have e:(IJ t p h xs ys xs.length).a=(AY (Ba xs ys)).map (·.1):=by
  show (AY (lP _ _)).map _=_
  rw [Gv hp1]
 refine ⟨λ_=>⟨by decide, λ_=>⟨λ_=>by decide, λ_=>⟨λ_=>FB hp2, λ_=>⟨λ_=>rfl, λhb=>⟨⟨hr_,rfl,hf, λj hj hn=>?_,by decide,by decide⟩,Bo⟩⟩⟩⟩⟩, λh=>(by cases h)⟩
 rw [e] at hb
 by_cases hji:j<2
 ·exact hrt j hji hn
 ·have:j=2:=by
   have hj:j<3:=hj
   omega
  subst this
  have hn:s2≠0:=hn
  show 0≤BK ((AY (Ba xs ys)).map (·.1)) s2
  rw [kI] at hb
  rcases hb with hb|hb
  ·exact absurd (by simpa using hb) hn
  ·have:=of_decide_eq_false hb
   omega
theorem AfK (t p h:Int) (xs ys:LI) (s0 s1 s2 s3 s4 s5 s6 s7:Int) (hp0:Ac t p h=true) (hp1:xs.length=ys.length) (hp2:xs.length≤999) (hp3:¬DU t p h xs ys [s0,s1,s2,s3,s4,s5,s6,s7]) (hl0:xs.length≤9223372036854775807) (q_:RS) {r_:Unit} (hI:Bz t p h xs ys s0 s1 s2 s3 s4 s5 s6 s7 q_ (3:Int) r_):Ti t p h xs ys s0 s1 s2 s3 s4 s5 s6 s7 q_ (λq_' i_'=>CP t p h xs ys s0 s1 s2 s3 s4 s5 s6 s7 q_' i_' r_∧lx (9,((xs.length:Int)-i_').toNat,0) (5,(8-(3:Int)).toNat,0)) (λq_' i_'=>Bz t p h xs ys s0 s1 s2 s3 s4 s5 s6 s7 q_' i_' r_∧lx (5,(8-i_').toNat,0) (5,(8-(3:Int)).toNat,0)) (λq_'=>CY t p h xs ys s0 s1 s2 s3 s4 s5 s6 s7 q_' r_∧lx (0,0,0) (5,(8-(3:Int)).toNat,0)) (λr__=>r__=r_):=by
 unfold Bz at hI
 unfold Ti
 try unfold CP
 try unfold Bz
 try unfold CY
 obtain ⟨hr_,rfl,hf,hrt,_,_⟩:=hI
 have e:(IJ t p h xs ys xs.length).a=(AY (Ba xs ys)).map (·.1):=by
  show (AY (lP _ _)).map _=_
  rw [Gv hp1]
 refine ⟨λ_=>⟨by decide, λ_=>⟨λ_=>by decide, λ_=>⟨λ_=>FB hp2, λ_=>⟨λ_=>rfl, λhb=>⟨⟨hr_,rfl,hf, λj hj hn=>?_,by decide,by decide⟩,Bo⟩⟩⟩⟩⟩, λh=>(by cases h)⟩
 rw [e] at hb
 by_cases hji:j<3
 ·exact hrt j hji hn
 ·have:j=3:=by
   have hj:j<4:=hj
   omega
  subst this
  have hn:s3≠0:=hn
  show 0≤BK ((AY (Ba xs ys)).map (·.1)) s3
  rw [kI] at hb
  rcases hb with hb|hb
  ·exact absurd (by simpa using hb) hn
  ·have:=of_decide_eq_false hb
   omega
theorem AfL (t p h:Int) (xs ys:LI) (s0 s1 s2 s3 s4 s5 s6 s7:Int) (hp0:Ac t p h=true) (hp1:xs.length=ys.length) (hp2:xs.length≤999) (hp3:¬DU t p h xs ys [s0,s1,s2,s3,s4,s5,s6,s7]) (hl0:xs.length≤9223372036854775807) (q_:RS) {r_:Unit} (hI:Bz t p h xs ys s0 s1 s2 s3 s4 s5 s6 s7 q_ (4:Int) r_):Tj t p h xs ys s0 s1 s2 s3 s4 s5 s6 s7 q_ (λq_' i_'=>CP t p h xs ys s0 s1 s2 s3 s4 s5 s6 s7 q_' i_' r_∧lx (9,((xs.length:Int)-i_').toNat,0) (5,(8-(4:Int)).toNat,0)) (λq_' i_'=>Bz t p h xs ys s0 s1 s2 s3 s4 s5 s6 s7 q_' i_' r_∧lx (5,(8-i_').toNat,0) (5,(8-(4:Int)).toNat,0)) (λq_'=>CY t p h xs ys s0 s1 s2 s3 s4 s5 s6 s7 q_' r_∧lx (0,0,0) (5,(8-(4:Int)).toNat,0)) (λr__=>r__=r_):=by
 unfold Bz at hI
 unfold Tj
 try unfold CP
 try unfold Bz
 try unfold CY
 obtain ⟨hr_,rfl,hf,hrt,_,_⟩:=hI
 have e:(IJ t p h xs ys xs.length).a=(AY (Ba xs ys)).map (·.1):=by
  show (AY (lP _ _)).map _=_
  rw [Gv hp1]
 refine ⟨λ_=>⟨by decide, λ_=>⟨λ_=>by decide, λ_=>⟨λ_=>FB hp2, λ_=>⟨λ_=>rfl, λhb=>⟨⟨hr_,rfl,hf, λj hj hn=>?_,by decide,by decide⟩,Bo⟩⟩⟩⟩⟩, λh=>(by cases h)⟩
 rw [e] at hb
 by_cases hji:j<4
 ·exact hrt j hji hn
 ·have:j=4:=by
   have hj:j<5:=hj
   omega
  subst this
  have hn:s4≠0:=hn
  show 0≤BK ((AY (Ba xs ys)).map (·.1)) s4
  rw [kI] at hb
  rcases hb with hb|hb
  ·exact absurd (by simpa using hb) hn
  ·have:=of_decide_eq_false hb
   omega
theorem AfM (t p h:Int) (xs ys:LI) (s0 s1 s2 s3 s4 s5 s6 s7:Int) (hp0:Ac t p h=true) (hp1:xs.length=ys.length) (hp2:xs.length≤999) (hp3:¬DU t p h xs ys [s0,s1,s2,s3,s4,s5,s6,s7]) (hl0:xs.length≤9223372036854775807) (q_:RS) {r_:Unit} (hI:Bz t p h xs ys s0 s1 s2 s3 s4 s5 s6 s7 q_ (5:Int) r_):Tm t p h xs ys s0 s1 s2 s3 s4 s5 s6 s7 q_ (λq_' i_'=>CP t p h xs ys s0 s1 s2 s3 s4 s5 s6 s7 q_' i_' r_∧lx (9,((xs.length:Int)-i_').toNat,0) (5,(8-(5:Int)).toNat,0)) (λq_' i_'=>Bz t p h xs ys s0 s1 s2 s3 s4 s5 s6 s7 q_' i_' r_∧lx (5,(8-i_').toNat,0) (5,(8-(5:Int)).toNat,0)) (λq_'=>CY t p h xs ys s0 s1 s2 s3 s4 s5 s6 s7 q_' r_∧lx (0,0,0) (5,(8-(5:Int)).toNat,0)) (λr__=>r__=r_):=by
 unfold Bz at hI
 unfold Tm
 try unfold CP
 try unfold Bz
 try unfold CY
 obtain ⟨hr_,rfl,hf,hrt,_,_⟩:=hI
 have e:(IJ t p h xs ys xs.length).a=(AY (Ba xs ys)).map (·.1):=by
  show (AY (lP _ _)).map _=_
  rw [Gv hp1]
 refine ⟨λ_=>⟨by decide, λ_=>⟨λ_=>by decide, λ_=>⟨λ_=>FB hp2, λ_=>⟨λ_=>rfl, λhb=>⟨⟨hr_,rfl,hf, λj hj hn=>?_,by decide,by decide⟩,Bo⟩⟩⟩⟩⟩, λh=>(by cases h)⟩
 rw [e] at hb
 by_cases hji:j<5
 ·exact hrt j hji hn
 ·have:j=5:=by
   have hj:j<6:=hj
   omega
  subst this
  have hn:s5≠0:=hn
  show 0≤BK ((AY (Ba xs ys)).map (·.1)) s5
  rw [kI] at hb
  rcases hb with hb|hb
  ·exact absurd (by simpa using hb) hn
  ·have:=of_decide_eq_false hb
   omega
theorem AfN (t p h:Int) (xs ys:LI) (s0 s1 s2 s3 s4 s5 s6 s7:Int) (hp0:Ac t p h=true) (hp1:xs.length=ys.length) (hp2:xs.length≤999) (hp3:¬DU t p h xs ys [s0,s1,s2,s3,s4,s5,s6,s7]) (hl0:xs.length≤9223372036854775807) (q_:RS) {r_:Unit} (hI:Bz t p h xs ys s0 s1 s2 s3 s4 s5 s6 s7 q_ (6:Int) r_):Tn t p h xs ys s0 s1 s2 s3 s4 s5 s6 s7 q_ (λq_' i_'=>CP t p h xs ys s0 s1 s2 s3 s4 s5 s6 s7 q_' i_' r_∧lx (9,((xs.length:Int)-i_').toNat,0) (5,(8-(6:Int)).toNat,0)) (λq_' i_'=>Bz t p h xs ys s0 s1 s2 s3 s4 s5 s6 s7 q_' i_' r_∧lx (5,(8-i_').toNat,0) (5,(8-(6:Int)).toNat,0)) (λq_'=>CY t p h xs ys s0 s1 s2 s3 s4 s5 s6 s7 q_' r_∧lx (0,0,0) (5,(8-(6:Int)).toNat,0)) (λr__=>r__=r_):=by
 unfold Bz at hI
 unfold Tn
 try unfold CP
 try unfold Bz
 try unfold CY
 obtain ⟨hr_,rfl,hf,hrt,_,_⟩:=hI
 have e:(IJ t p h xs ys xs.length).a=(AY (Ba xs ys)).map (·.1):=by
  show (AY (lP _ _)).map _=_
  rw [Gv hp1]
 refine ⟨λ_=>⟨by decide, λ_=>⟨λ_=>by decide, λ_=>⟨λ_=>FB hp2, λ_=>⟨λ_=>rfl, λhb=>⟨⟨hr_,rfl,hf, λj hj hn=>?_,by decide,by decide⟩,Bo⟩⟩⟩⟩⟩, λh=>(by cases h)⟩
 rw [e] at hb
 by_cases hji:j<6
 ·exact hrt j hji hn
 ·have:j=6:=by
   have hj:j<7:=hj
   omega
  subst this
  have hn:s6≠0:=hn
  show 0≤BK ((AY (Ba xs ys)).map (·.1)) s6
  rw [kI] at hb
  rcases hb with hb|hb
  ·exact absurd (by simpa using hb) hn
  ·have:=of_decide_eq_false hb
   omega
theorem AfO (t p h:Int) (xs ys:LI) (s0 s1 s2 s3 s4 s5 s6 s7:Int) (hp0:Ac t p h=true) (hp1:xs.length=ys.length) (hp2:xs.length≤999) (hp3:¬DU t p h xs ys [s0,s1,s2,s3,s4,s5,s6,s7]) (hl0:xs.length≤9223372036854775807) (q_:RS) {r_:Unit} (hI:Bz t p h xs ys s0 s1 s2 s3 s4 s5 s6 s7 q_ (7:Int) r_):Tq t p h xs ys s0 s1 s2 s3 s4 s5 s6 s7 q_ (λq_' i_'=>CP t p h xs ys s0 s1 s2 s3 s4 s5 s6 s7 q_' i_' r_∧lx (9,((xs.length:Int)-i_').toNat,0) (5,(8-(7:Int)).toNat,0)) (λq_' i_'=>Bz t p h xs ys s0 s1 s2 s3 s4 s5 s6 s7 q_' i_' r_∧lx (5,(8-i_').toNat,0) (5,(8-(7:Int)).toNat,0)) (λq_'=>CY t p h xs ys s0 s1 s2 s3 s4 s5 s6 s7 q_' r_∧lx (0,0,0) (5,(8-(7:Int)).toNat,0)) (λr__=>r__=r_):=by
 unfold Bz at hI
 unfold Tq
 try unfold CP
 try unfold Bz
 try unfold CY
 obtain ⟨hr_,rfl,hf,hrt,_,_⟩:=hI
 have e:(IJ t p h xs ys xs.length).a=(AY (Ba xs ys)).map (·.1):=by
  show (AY (lP _ _)).map _=_
  rw [Gv hp1]
 refine ⟨λ_=>⟨by decide, λ_=>⟨λ_=>by decide, λ_=>⟨λ_=>FB hp2, λ_=>⟨λ_=>rfl, λhb=>⟨⟨hr_,rfl,hf, λj hj hn=>?_,by decide,by decide⟩,Bo⟩⟩⟩⟩⟩, λh=>(by cases h)⟩
 rw [e] at hb
 by_cases hji:j<7
 ·exact hrt j hji hn
 ·have:j=7:=by
   have hj:j<8:=hj
   omega
  subst this
  have hn:s7≠0:=hn
  show 0≤BK ((AY (Ba xs ys)).map (·.1)) s7
  rw [kI] at hb
  rcases hb with hb|hb
  ·exact absurd (by simpa using hb) hn
  ·have:=of_decide_eq_false hb
   omega
theorem AfP (t p h:Int) (xs ys:LI) (s0 s1 s2 s3 s4 s5 s6 s7:Int) (hp0:Ac t p h=true) (hp1:xs.length=ys.length) (hp2:xs.length≤999) (hp3:¬DU t p h xs ys [s0,s1,s2,s3,s4,s5,s6,s7]) (hl0:xs.length≤9223372036854775807) (q_:RS) {r_:Unit} (hI:Bz t p h xs ys s0 s1 s2 s3 s4 s5 s6 s7 q_ (8:Int) r_):Tt t p h xs ys s0 s1 s2 s3 s4 s5 s6 s7 q_ (λq_' i_'=>CP t p h xs ys s0 s1 s2 s3 s4 s5 s6 s7 q_' i_' r_∧lx (9,((xs.length:Int)-i_').toNat,0) (5,(8-(8:Int)).toNat,0)) (λq_' i_'=>Bz t p h xs ys s0 s1 s2 s3 s4 s5 s6 s7 q_' i_' r_∧lx (5,(8-i_').toNat,0) (5,(8-(8:Int)).toNat,0)) (λq_'=>CY t p h xs ys s0 s1 s2 s3 s4 s5 s6 s7 q_' r_∧lx (0,0,0) (5,(8-(8:Int)).toNat,0)) (λr__=>r__=r_):=by
 unfold Bz at hI
 unfold Tt
 try unfold CP
 try unfold Bz
 try unfold CY
 obtain ⟨hr_,rfl,hf,hrt,_,_⟩:=hI
 exact ⟨λh=>(by cases h), λ_=>⟨absurd ((AiB hp0 hp1 _).2 ⟨hf,hrt⟩) hp3,Bo⟩⟩
theorem Apw:DV 9 AkU:=
 LC Dg Ack (I:=[2706000,2999998,1643000000005,1643000000001,1643000000003,1643000000006,6571000000005,6571000000001,6571000000003,6571000000007]) Try.func9 mix (B:=AP Try.f9) (by kernel_rfl) rfl (by kernel_rfl) 400
  λp0 t p h xs ys s0 s1 s2 s3 s4 s5 s6 s7 hb hp=>have hl0:xs.length≤9223372036854775807:=hb.2.1.1;have hp0:Ac t p h=true:=hp _ (.head _);have hp1:xs.length=ys.length:=hp _ (.tail _ (.head _));have hp2:xs.length≤999:=hp _ (.tail _ (.tail _ (.head _)));have hp3:¬DU t p h xs ys [s0,s1,s2,s3,s4,s5,s6,s7]:=hp _ (.tail _ (.tail _ (.tail _ (.head _))));⟨[ZP p0 t p h xs ys s0 s1 s2 s3 s4 s5 s6 s7,ZQ p0 t p h xs ys s0 s1 s2 s3 s4 s5 s6 s7,ZR p0 t p h xs ys s0 s1 s2 s3 s4 s5 s6 s7], λj=>iN [Ag (Hd.kd (ZP p0 t p h xs ys s0 s1 s2 s3 s4 s5 s6 s7)) (λq_' i_'=>CP t p h xs ys s0 s1 s2 s3 s4 s5 s6 s7 q_' i_' (Dj t p h xs ys s0 s1 s2 s3 s4 s5 s6 s7)),Ag (Hd.kd (ZQ p0 t p h xs ys s0 s1 s2 s3 s4 s5 s6 s7)) (λq_' i_'=>Bz t p h xs ys s0 s1 s2 s3 s4 s5 s6 s7 q_' i_' (Dj t p h xs ys s0 s1 s2 s3 s4 s5 s6 s7)),Ag (Hd.kd (ZR p0 t p h xs ys s0 s1 s2 s3 s4 s5 s6 s7)) (λq_'=>CY t p h xs ys s0 s1 s2 s3 s4 s5 s6 s7 q_' (Dj t p h xs ys s0 s1 s2 s3 s4 s5 s6 s7))] j (λ_=>False), λj=>iN [Ag (Hd.kd (ZP p0 t p h xs ys s0 s1 s2 s3 s4 s5 s6 s7)) (λq_' i_'=>(9,((xs.length:Int)-i_').toNat,0)),Ag (Hd.kd (ZQ p0 t p h xs ys s0 s1 s2 s3 s4 s5 s6 s7)) (λq_' i_'=>(5,(8-i_').toNat,0)),Ag (Hd.kd (ZR p0 t p h xs ys s0 s1 s2 s3 s4 s5 s6 s7)) (λq_'=>(0,0,0))] j (λ_=>(0,0,0)),by kernel_rfl,⟨AdU t p h xs ys s0 s1 s2 s3 s4 s5 s6 s7 (λq_' i_'=>CP t p h xs ys s0 s1 s2 s3 s4 s5 s6 s7 q_' i_' (Dj t p h xs ys s0 s1 s2 s3 s4 s5 s6 s7)) (λq_' i_'=>Bz t p h xs ys s0 s1 s2 s3 s4 s5 s6 s7 q_' i_' (Dj t p h xs ys s0 s1 s2 s3 s4 s5 s6 s7)) (λq_'=>CY t p h xs ys s0 s1 s2 s3 s4 s5 s6 s7 q_' (Dj t p h xs ys s0 s1 s2 s3 s4 s5 s6 s7)) (λr__=>r__=(Dj t p h xs ys s0 s1 s2 s3 s4 s5 s6 s7)), λ_ _ _=>by kernel_rfl,AjR t p h xs ys s0 s1 s2 s3 s4 s5 s6 s7 hp0 hp1 hp2 hp3 hl0⟩,⟨λq_ i_ hI=>⟨ZO t p h xs ys s0 s1 s2 s3 s4 s5 s6 s7 q_ i_ (λq_' i_'=>CP t p h xs ys s0 s1 s2 s3 s4 s5 s6 s7 q_' i_' (Dj t p h xs ys s0 s1 s2 s3 s4 s5 s6 s7)∧lx (9,((xs.length:Int)-i_').toNat,0) (9,((xs.length:Int)-i_).toNat,0)) (λq_' i_'=>Bz t p h xs ys s0 s1 s2 s3 s4 s5 s6 s7 q_' i_' (Dj t p h xs ys s0 s1 s2 s3 s4 s5 s6 s7)∧lx (5,(8-i_').toNat,0) (9,((xs.length:Int)-i_).toNat,0)) (λq_'=>CY t p h xs ys s0 s1 s2 s3 s4 s5 s6 s7 q_' (Dj t p h xs ys s0 s1 s2 s3 s4 s5 s6 s7)∧lx (0,0,0) (9,((xs.length:Int)-i_).toNat,0)) (λr__=>r__=(Dj t p h xs ys s0 s1 s2 s3 s4 s5 s6 s7)), λ_ _ _=>by kernel_rfl,AjS t p h xs ys s0 s1 s2 s3 s4 s5 s6 s7 hp0 hp1 hp2 hp3 hl0 q_ i_ hI⟩,⟨λq_ i_ hI=>(by
   rcases Aog t p h xs ys s0 s1 s2 s3 s4 s5 s6 s7 hp0 hp1 hp2 hp3 hl0 q_ i_ hI with rfl|rfl|rfl|rfl|rfl|rfl|rfl|rfl|rfl
   ·exact ⟨Tc t p h xs ys s0 s1 s2 s3 s4 s5 s6 s7 q_ (λq_' i_'=>CP t p h xs ys s0 s1 s2 s3 s4 s5 s6 s7 q_' i_' (Dj t p h xs ys s0 s1 s2 s3 s4 s5 s6 s7)∧lx (9,((xs.length:Int)-i_').toNat,0) (5,(8-(0:Int)).toNat,0)) (λq_' i_'=>Bz t p h xs ys s0 s1 s2 s3 s4 s5 s6 s7 q_' i_' (Dj t p h xs ys s0 s1 s2 s3 s4 s5 s6 s7)∧lx (5,(8-i_').toNat,0) (5,(8-(0:Int)).toNat,0)) (λq_'=>CY t p h xs ys s0 s1 s2 s3 s4 s5 s6 s7 q_' (Dj t p h xs ys s0 s1 s2 s3 s4 s5 s6 s7)∧lx (0,0,0) (5,(8-(0:Int)).toNat,0)) (λr__=>r__=(Dj t p h xs ys s0 s1 s2 s3 s4 s5 s6 s7)), λ_ _ _=>by kernel_rfl,AfH t p h xs ys s0 s1 s2 s3 s4 s5 s6 s7 hp0 hp1 hp2 hp3 hl0 q_ hI⟩
   ·exact ⟨Td t p h xs ys s0 s1 s2 s3 s4 s5 s6 s7 q_ (λq_' i_'=>CP t p h xs ys s0 s1 s2 s3 s4 s5 s6 s7 q_' i_' (Dj t p h xs ys s0 s1 s2 s3 s4 s5 s6 s7)∧lx (9,((xs.length:Int)-i_').toNat,0) (5,(8-(1:Int)).toNat,0)) (λq_' i_'=>Bz t p h xs ys s0 s1 s2 s3 s4 s5 s6 s7 q_' i_' (Dj t p h xs ys s0 s1 s2 s3 s4 s5 s6 s7)∧lx (5,(8-i_').toNat,0) (5,(8-(1:Int)).toNat,0)) (λq_'=>CY t p h xs ys s0 s1 s2 s3 s4 s5 s6 s7 q_' (Dj t p h xs ys s0 s1 s2 s3 s4 s5 s6 s7)∧lx (0,0,0) (5,(8-(1:Int)).toNat,0)) (λr__=>r__=(Dj t p h xs ys s0 s1 s2 s3 s4 s5 s6 s7)), λ_ _ _=>by kernel_rfl,AfI t p h xs ys s0 s1 s2 s3 s4 s5 s6 s7 hp0 hp1 hp2 hp3 hl0 q_ hI⟩
   ·exact ⟨Tf t p h xs ys s0 s1 s2 s3 s4 s5 s6 s7 q_ (λq_' i_'=>CP t p h xs ys s0 s1 s2 s3 s4 s5 s6 s7 q_' i_' (Dj t p h xs ys s0 s1 s2 s3 s4 s5 s6 s7)∧lx (9,((xs.length:Int)-i_').toNat,0) (5,(8-(2:Int)).toNat,0)) (λq_' i_'=>Bz t p h xs ys s0 s1 s2 s3 s4 s5 s6 s7 q_' i_' (Dj t p h xs ys s0 s1 s2 s3 s4 s5 s6 s7)∧lx (5,(8-i_').toNat,0) (5,(8-(2:Int)).toNat,0)) (λq_'=>CY t p h xs ys s0 s1 s2 s3 s4 s5 s6 s7 q_' (Dj t p h xs ys s0 s1 s2 s3 s4 s5 s6 s7)∧lx (0,0,0) (5,(8-(2:Int)).toNat,0)) (λr__=>r__=(Dj t p h xs ys s0 s1 s2 s3 s4 s5 s6 s7)), λ_ _ _=>by kernel_rfl,AfJ t p h xs ys s0 s1 s2 s3 s4 s5 s6 s7 hp0 hp1 hp2 hp3 hl0 q_ hI⟩
   ·exact ⟨Ti t p h xs ys s0 s1 s2 s3 s4 s5 s6 s7 q_ (λq_' i_'=>CP t p h xs ys s0 s1 s2 s3 s4 s5 s6 s7 q_' i_' (Dj t p h xs ys s0 s1 s2 s3 s4 s5 s6 s7)∧lx (9,((xs.length:Int)-i_').toNat,0) (5,(8-(3:Int)).toNat,0)) (λq_' i_'=>Bz t p h xs ys s0 s1 s2 s3 s4 s5 s6 s7 q_' i_' (Dj t p h xs ys s0 s1 s2 s3 s4 s5 s6 s7)∧lx (5,(8-i_').toNat,0) (5,(8-(3:Int)).toNat,0)) (λq_'=>CY t p h xs ys s0 s1 s2 s3 s4 s5 s6 s7 q_' (Dj t p h xs ys s0 s1 s2 s3 s4 s5 s6 s7)∧lx (0,0,0) (5,(8-(3:Int)).toNat,0)) (λr__=>r__=(Dj t p h xs ys s0 s1 s2 s3 s4 s5 s6 s7)), λ_ _ _=>by kernel_rfl,AfK t p h xs ys s0 s1 s2 s3 s4 s5 s6 s7 hp0 hp1 hp2 hp3 hl0 q_ hI⟩
   ·exact ⟨Tj t p h xs ys s0 s1 s2 s3 s4 s5 s6 s7 q_ (λq_' i_'=>CP t p h xs ys s0 s1 s2 s3 s4 s5 s6 s7 q_' i_' (Dj t p h xs ys s0 s1 s2 s3 s4 s5 s6 s7)∧lx (9,((xs.length:Int)-i_').toNat,0) (5,(8-(4:Int)).toNat,0)) (λq_' i_'=>Bz t p h xs ys s0 s1 s2 s3 s4 s5 s6 s7 q_' i_' (Dj t p h xs ys s0 s1 s2 s3 s4 s5 s6 s7)∧lx (5,(8-i_').toNat,0) (5,(8-(4:Int)).toNat,0)) (λq_'=>CY t p h xs ys s0 s1 s2 s3 s4 s5 s6 s7 q_' (Dj t p h xs ys s0 s1 s2 s3 s4 s5 s6 s7)∧lx (0,0,0) (5,(8-(4:Int)).toNat,0)) (λr__=>r__=(Dj t p h xs ys s0 s1 s2 s3 s4 s5 s6 s7)), λ_ _ _=>by kernel_rfl,AfL t p h xs ys s0 s1 s2 s3 s4 s5 s6 s7 hp0 hp1 hp2 hp3 hl0 q_ hI⟩
   ·exact ⟨Tm t p h xs ys s0 s1 s2 s3 s4 s5 s6 s7 q_ (λq_' i_'=>CP t p h xs ys s0 s1 s2 s3 s4 s5 s6 s7 q_' i_' (Dj t p h xs ys s0 s1 s2 s3 s4 s5 s6 s7)∧lx (9,((xs.length:Int)-i_').toNat,0) (5,(8-(5:Int)).toNat,0)) (λq_' i_'=>Bz t p h xs ys s0 s1 s2 s3 s4 s5 s6 s7 q_' i_' (Dj t p h xs ys s0 s1 s2 s3 s4 s5 s6 s7)∧lx (5,(8-i_').toNat,0) (5,(8-(5:Int)).toNat,0)) (λq_'=>CY t p h xs ys s0 s1 s2 s3 s4 s5 s6 s7 q_' (Dj t p h xs ys s0 s1 s2 s3 s4 s5 s6 s7)∧lx (0,0,0) (5,(8-(5:Int)).toNat,0)) (λr__=>r__=(Dj t p h xs ys s0 s1 s2 s3 s4 s5 s6 s7)), λ_ _ _=>by kernel_rfl,AfM t p h xs ys s0 s1 s2 s3 s4 s5 s6 s7 hp0 hp1 hp2 hp3 hl0 q_ hI⟩
   ·exact ⟨Tn t p h xs ys s0 s1 s2 s3 s4 s5 s6 s7 q_ (λq_' i_'=>CP t p h xs ys s0 s1 s2 s3 s4 s5 s6 s7 q_' i_' (Dj t p h xs ys s0 s1 s2 s3 s4 s5 s6 s7)∧lx (9,((xs.length:Int)-i_').toNat,0) (5,(8-(6:Int)).toNat,0)) (λq_' i_'=>Bz t p h xs ys s0 s1 s2 s3 s4 s5 s6 s7 q_' i_' (Dj t p h xs ys s0 s1 s2 s3 s4 s5 s6 s7)∧lx (5,(8-i_').toNat,0) (5,(8-(6:Int)).toNat,0)) (λq_'=>CY t p h xs ys s0 s1 s2 s3 s4 s5 s6 s7 q_' (Dj t p h xs ys s0 s1 s2 s3 s4 s5 s6 s7)∧lx (0,0,0) (5,(8-(6:Int)).toNat,0)) (λr__=>r__=(Dj t p h xs ys s0 s1 s2 s3 s4 s5 s6 s7)), λ_ _ _=>by kernel_rfl,AfN t p h xs ys s0 s1 s2 s3 s4 s5 s6 s7 hp0 hp1 hp2 hp3 hl0 q_ hI⟩
   ·exact ⟨Tq t p h xs ys s0 s1 s2 s3 s4 s5 s6 s7 q_ (λq_' i_'=>CP t p h xs ys s0 s1 s2 s3 s4 s5 s6 s7 q_' i_' (Dj t p h xs ys s0 s1 s2 s3 s4 s5 s6 s7)∧lx (9,((xs.length:Int)-i_').toNat,0) (5,(8-(7:Int)).toNat,0)) (λq_' i_'=>Bz t p h xs ys s0 s1 s2 s3 s4 s5 s6 s7 q_' i_' (Dj t p h xs ys s0 s1 s2 s3 s4 s5 s6 s7)∧lx (5,(8-i_').toNat,0) (5,(8-(7:Int)).toNat,0)) (λq_'=>CY t p h xs ys s0 s1 s2 s3 s4 s5 s6 s7 q_' (Dj t p h xs ys s0 s1 s2 s3 s4 s5 s6 s7)∧lx (0,0,0) (5,(8-(7:Int)).toNat,0)) (λr__=>r__=(Dj t p h xs ys s0 s1 s2 s3 s4 s5 s6 s7)), λ_ _ _=>by kernel_rfl,AfO t p h xs ys s0 s1 s2 s3 s4 s5 s6 s7 hp0 hp1 hp2 hp3 hl0 q_ hI⟩
   ·exact ⟨Tt t p h xs ys s0 s1 s2 s3 s4 s5 s6 s7 q_ (λq_' i_'=>CP t p h xs ys s0 s1 s2 s3 s4 s5 s6 s7 q_' i_' (Dj t p h xs ys s0 s1 s2 s3 s4 s5 s6 s7)∧lx (9,((xs.length:Int)-i_').toNat,0) (5,(8-(8:Int)).toNat,0)) (λq_' i_'=>Bz t p h xs ys s0 s1 s2 s3 s4 s5 s6 s7 q_' i_' (Dj t p h xs ys s0 s1 s2 s3 s4 s5 s6 s7)∧lx (5,(8-i_').toNat,0) (5,(8-(8:Int)).toNat,0)) (λq_'=>CY t p h xs ys s0 s1 s2 s3 s4 s5 s6 s7 q_' (Dj t p h xs ys s0 s1 s2 s3 s4 s5 s6 s7)∧lx (0,0,0) (5,(8-(8:Int)).toNat,0)) (λr__=>r__=(Dj t p h xs ys s0 s1 s2 s3 s4 s5 s6 s7)), λ_ _ _=>by kernel_rfl,AfP t p h xs ys s0 s1 s2 s3 s4 s5 s6 s7 hp0 hp1 hp2 hp3 hl0 q_ hI⟩),⟨λq_ hI=>False.elim hI,trivial⟩⟩⟩⟩
def AqL:Tb:=(9,AkU)::AkT
theorem Amx:D7 AqL:=Ea Apw Ack
end
end Go.Proofs.Ytdjfnbbmfmjckaa
namespace Go.Sl
section
open Go.RowKit
variable {σ:Type}
inductive Apx (σ:Type):Type 1 where
 |run
 |opn (b:BxP σ) (k:Nat) (o:(Nat→Ad)→Nat) (j:Nat)
 |cls (b:BxP σ) (o:(Nat→Ad)→Nat) (a:(Nat→Ad)→Nat→Ad) (j:Nat)
 |wid (ext:Nat→List (Value×Pr)→List (Chunk σ)→Option (Tree σ))
variable (D:Addr→σ→CZ)
def Amy (P:Program) (ext:Nat→List (Value×Pr)→List (Chunk σ)→Option (Tree σ)) (E:Ev) (G:Hp):Prop:=
 ∀g args prs K t,ext g (lI args prs) K=some t→∀w,AQ K args prs→Dz K→Af D E G w K→∀Q:Value→Pr→List (Chunk σ)→Prop,t.holds Q (λ_ _ _=>False)→
  Qz P g args.toArray w λen w'=>∃v p K',en= .returned v∧Q v p K'∧Bf K K'∧Dz K'∧BH K' v p∧Af D E G w' K'
def Amz (P:Program) (T:List (Nat×Entry σ)) (ext:Nat→List (Value×Pr)→List (Chunk σ)→Option (Tree σ)) (I:List Nat) (fuel:Nat) (B:Code) (rs:List ResultVar) (n:Nat) (p:List Nat) (td:List Ab) (L:List Ak) (K:List (Chunk σ)):Tree σ:=
 wide P T ext n (opsOf (Sl.sub B p)) false (λQ L K=> .need False (.stuck (.lst p Q::td) L K)) (λL' K'=>run P T I fuel B rs n td L' K') ((opsOf (Sl.sub B p)).size+1) (jQ (opsOf (Sl.sub B p)).size) L K
def ApP (B:Code) (p:List Nat):Prop:=∃id,Sl.sub B p= .region id (opsOf (Sl.sub B p)) true
theorem SW.wid {P:Program} {T:List (Nat×Entry σ)} (hT:BO D P T) {I:List Nat} {f:FuncId} {fn:Func} (hfn:P.funcs[f]? =some fn) (hmix:P.follows .mixedOrders=true) {R:Ending→World→Prop} {B:Code} {E:Ev} {G:Hp} {ext:Nat→List (Value×Pr)→List (Chunk σ)→Option (Tree σ)} (hx:Amy D P ext E G) {p:List Nat} {td:List Ab} {L:List Ak} {K:List (Chunk σ)}
 (hp:ApP B p) (hw:Oy (opsOf (Sl.sub B p))=true) (fuel:Nat) {R':Value→Pr→List (Chunk σ)→Prop} (hR:∀v p K w,R' v p K→Af D E G w K→R (.returned v) w)
 (h:(Amz P T ext I fuel B fn.results.toList fn.ntmps p td L K).holds R' (SW D P f R B fn.ntmps E G)):SW D P f R B fn.ntmps E G (.code p::td) L K:= λa w hF hS=>by
 obtain ⟨id,hc⟩:=hp
 show WT P f R (.code (Sl.sub B p)::td.map (item B)) a w
 rw [hc]
 refine WT.step (λcs=>stepR_region_draw) ?_
 simp only [Region.schedule,hmix,kS,if_true]
 unfold Amz at h
 exact Aar D hT (Ako hw) (nx:=false) (λh=>(by cases h)) hx (st:= λQ L K=> .need False (.stuck (.lst p Q::td) L K)) (λ_ _ _ h=>And.left h) (λL' K' _ hko a' w' hF' hS'=>WT.step (λcs=>stepR_region_end) (SW.run D hT (I:=I) hfn hmix (R':=R') hR fuel rfl hko a' w' hF' hS')) (opsOf (Sl.sub B p)).size _ _ _ _ _ K a a _ (Ag9 _) (H5.start D hF (Sat.drawn hS _)) h
section
variable (c:Ct σ) (P:Program) (T:List (Nat×Entry σ)) (I:List Nat) (fuel:Nat) (fn:Func) (B:Code) (p0:Addr) (cs:List (Cm σ)) (hs:List (Hd σ)) (hk:List (Apx σ)) (r0:Ty c.RK) (Inv:Nat→List (Cm σ)→Prop) (ms:Nat→List (Cm σ)→Nat×Nat×Nat)
def Am0 (j:Nat) (h:Hd σ):Prop:=
 match hk.getD j .run with
 | .run=>EF h.kd λx=>Inv j x→∃W:Prop,(∀ad β γ,c.lhsW p0 cs hs (λr=>r=r0) (λj' x'=>Inv j' x'∧lx (ms j' x') (ms j x)) (run P T (h.stp I) fuel B fn.results.toList fn.ntmps h.tds (h.L ad x) (h.K ad x)) β γ=
    c.rhsW p0 cs hs (run P T (h.stp I) fuel B fn.results.toList fn.ntmps h.tds (h.L ad x) (h.K ad x)) W β γ)∧W
 | .opn b k of j2=>b.b.Is D∧match hs[j2]? with
   |some h2=>EF h.kd λx=>Inv j x→∃s:b.wr.τ,(∀ad,(h.K ad x)[k]? =some (.obj ⟨of ad,0,none⟩ (b.wr.inj s)))∧EF (IA b.b.l) λy=>b.b.R s y→∃W:Prop,(∀ad ad2,(P8 [h2] (λ_ x'=>Inv j2 x'∧lx (ms j2 x') (ms j x)) h.tds (Kr k (h.L ad x)) (b.b.opK k (of ad) ad2 y (h.K ad x)),L8 [h2] h.tds (Kr k (h.L ad x)) (b.b.opK k (of ad) ad2 y (h.K ad x)),OA [h2] h.tds (Kr k (h.L ad x)) (b.b.opK k (of ad) ad2 y (h.K ad x)))=
     (W,L9 [h2] h.tds (Kr k (h.L ad x)) (b.b.opK k (of ad) ad2 y (h.K ad x)),true))∧W
   |none=>False
 | .cls b of af j2=>b.b.Is D∧match hs[j2]? with
   |some h2=>EF h.kd λx=>Inv j x→∃(s:b.wr.τ) (W:Prop),b.b.R s (x.take (Lu b.b.l))∧(∀ad,((h.K ad x).take (1+Fv b.b.l),LD (Fv b.b.l) ((h.K ad x).drop (1+Fv b.b.l)),Dn (IA b.b.l) (x.take (Lu b.b.l)),P8 [h2] (λ_ x'=>Inv j2 x'∧lx (ms j2 x') (ms j x)) h.tds (LV 0 (jK 1 (Fv b.b.l)) (h.L ad x)) ((EM (h.K ad x) .dead (jK 1 (Fv b.b.l))).set 0 (.obj ⟨of ad,0,none⟩ (b.wr.inj s))),L8 [h2] h.tds (LV 0 (jK 1 (Fv b.b.l)) (h.L ad x)) ((EM (h.K ad x) .dead (jK 1 (Fv b.b.l))).set 0 (.obj ⟨of ad,0,none⟩ (b.wr.inj s))),OA [h2] h.tds (LV 0 (jK 1 (Fv b.b.l)) (h.L ad x)) ((EM (h.K ad x) .dead (jK 1 (Fv b.b.l))).set 0 (.obj ⟨of ad,0,none⟩ (b.wr.inj s))))=
     (b.b.bk (of ad) (af ad) 1 (x.take (Lu b.b.l)),true,true,W,L9 [h2] h.tds (LV 0 (jK 1 (Fv b.b.l)) (h.L ad x)) ((EM (h.K ad x) .dead (jK 1 (Fv b.b.l))).set 0 (.obj ⟨of ad,0,none⟩ (b.wr.inj s))),true))∧W
   |none=>False
 | .wid ext=>(∀E G,Amy D P ext E G)∧ApP B h.p∧Oy (opsOf (Sl.sub B h.p))=true∧h.tds= .code h.p::h.td∧EF h.kd λx=>Inv j x→∃W:Prop,(∀ad β γ,c.lhsW p0 cs hs (λr=>r=r0) (λj' x'=>Inv j' x'∧lx (ms j' x') (ms j x)) (Amz P T ext (h.stp I) fuel B fn.results.toList fn.ntmps h.p h.td (h.L ad x) (h.K ad x)) β γ=
    c.rhsW p0 cs hs (Amz P T ext (h.stp I) fuel B fn.results.toList fn.ntmps h.p h.td (h.L ad x) (h.K ad x)) W β γ)∧W
def Acl:List (Hd σ)→Nat→Prop
 |[],_=>True
 |h::r,j=>Am0 D c P T I fuel fn B p0 cs hs hk r0 Inv ms j h∧Acl r (j+1)
end
section
variable {c:Ct σ} {P:Program} {T:List (Nat×Entry σ)} {I:List Nat} {fuel:Nat} {fn:Func} {B:Code} {p0:Addr} {cs:List (Cm σ)} {hs:List (Hd σ)} {hk:List (Apx σ)} {r0:Ty c.RK} {Inv:Nat→List (Cm σ)→Prop} {ms:Nat→List (Cm σ)→Nat×Nat×Nat} {f:FuncId} {R:Ending→World→Prop} {E:Ev} {G:Hp}
theorem Acm:∀{l:List (Hd σ)} {m i:Nat} {h:Hd σ},Acl D c P T I fuel fn B p0 cs hs hk r0 Inv ms l m→l[i]? =some h→Am0 D c P T I fuel fn B p0 cs hs hk r0 Inv ms (m+i) h
 |[],_,_,_,_,h=>by simp at h
 |h0::r,m,0,h,hs,hg=>by simp at hg;subst hg;exact hs.1
 |h0::r,m,i+1,h,hs,hg=>by
  have:=Acm hs.2 (i:=i) (by simpa using hg)
  rw [show m+1+i=m+(i+1) by omega] at this
  exact this
theorem Aoh (hT:BO D P T) (hfn:P.funcs[f]? =some fn) (hmix:P.follows .mixedOrders=true) (hc:hcode B hs=GL B hs) (hst:Acl D c P T I fuel fn B p0 cs hs hk r0 Inv ms hs 0):
 ∀j h,hs[j]? =some h→∀s,Dn h.kd s=true→Inv j s→∀ad,SW D P f (Post D E G (c.outC r0) (c.nwC p0 cs r0) (c.mksC r0)) B fn.ntmps E G h.tds (h.L ad s) (h.K ad s):=by
 have loop:∀x:Nat×Nat×Nat,∀j h,hs[j]? =some h→∀s,Dn h.kd s=true→Inv j s→ms j s=x→∀ad,SW D P f (Post D E G (c.outC r0) (c.nwC p0 cs r0) (c.mksC r0)) B fn.ntmps E G h.tds (h.L ad s) (h.K ad s):=by
  refine Aa7 λx ih j h hg s hf hI hm ad=>?_
  have hq:=Acm D hst hg
  rw [lD] at hq
  have H':∀j' h',hs[j']? =some h'→∀s',Dn h'.kd s'=true→(Inv j' s'∧lx (ms j' s') (ms j s))→∀ad',SW D P f (Post D E G (c.outC r0) (c.nwC p0 cs r0) (c.mksC r0)) B fn.ntmps E G h'.tds (h'.L ad' s') (h'.K ad' s'):= λj' h' hg' s' hf' hI' ad'=>ih _ (by rw [←hm];exact hI'.2) j' h' hg' s' hf' hI'.1 rfl ad'
  unfold Am0 at hq
  split at hq
  ·obtain ⟨W,hW1,hW2⟩:=hq.at s hf hI
   exact SW.go D hT (I:=h.stp I) hfn hmix fuel rfl (MJ D (hW1 ad) hW2 hc H')
  ·rename_i b k of j2 _
   obtain ⟨hb,hq⟩:=hq
   split at hq
   ·rename_i h2 hg2
    obtain ⟨st,hk0,hq⟩:=hq.at s hf hI
    refine Bx.QK D hb k (hk0 ad) λo' ad2 y e hfy hRy=>?_
    injection e with e;subst e
    obtain ⟨W,hW1,hW2⟩:=hq.at y hfy hRy
    have e:=hW1 ad ad2
    simp only [iP] at e
    refine Ny D (hs:=[h2]) (KU hc hg2) e.2.1 e.2.2 (by rw [e.1];exact hW2) λj' h' hg' s' hf' hI' ad'=>?_
    cases j' with
    |zero=>simp at hg';subst hg';exact H' j2 _ hg2 s' hf' hI' ad'
    |succ j'=>simp at hg'
   ·exact hq.elim
  ·rename_i b of af j2 _
   obtain ⟨hb,hq⟩:=hq
   split at hq
   ·rename_i h2 hg2
    obtain ⟨st,W,hR,hW1,hW2⟩:=hq.at s hf hI
    have e:=hW1 ad
    simp only [iP] at e
    refine Bx.YN D hb (o:=of ad) (ad:=af ad) (y:=s.take (Lu b.b.l)) (rest:=(h.K ad s).drop (1+Fv b.b.l)) (s:=st) (by rw [←e.1,List.take_append_drop]) e.2.1 e.2.2.1 hR ?_
    refine Ny D (hs:=[h2]) (KU hc hg2) e.2.2.2.2.1 e.2.2.2.2.2 (by rw [e.2.2.2.1];exact hW2) λj' h' hg' s' hf' hI' ad'=>?_
    cases j' with
    |zero=>simp at hg';subst hg';exact H' j2 _ hg2 s' hf' hI' ad'
    |succ j'=>simp at hg'
   ·exact hq.elim
  ·rename_i ext _
   obtain ⟨hx,hp,hw,htd,hq⟩:=hq
   obtain ⟨W,hW1,hW2⟩:=hq.at s hf hI
   rw [htd]
   exact SW.wid D hT (I:=h.stp I) hfn hmix (hx E G) hp hw fuel (λv p K w h hS=>h.post D hS) (MJ D (hW1 ad) hW2 hc H')
 exact λj h hg s hf hI ad=>loop _ j h hg s hf hI rfl ad
end
theorem ArY {c:Ct σ} {P:Program} {T:List (Nat×Entry σ)} (hT:BO D P T) {I:List Nat} {f:FuncId} {fn:Func} {B:Code} (hfn:P.funcs[f]? =some fn) (hmix:P.follows .mixedOrders=true) (hB:fn.body=some B)
 (ha:IB c.ash=true) (hl:jS c.full.length fn.ntmps=true) {F:Kq c.AK (Ty c.RK)} {pre:Kq c.AK (List Prop)} (fuel:Nat)
 (H:∀p0,EF c.AK λcs=>UV c.full cs→(∀p∈Ag c.AK pre cs,p)→∃(hs:List (Hd σ)) (hk:List (Apx σ)) (Inv:Nat→List (Cm σ)→Prop) (ms:Nat→List (Cm σ)→Nat×Nat×Nat),hcode B hs=GL B hs∧
   (∃W:Prop,(∀ad β γ,c.lhsW p0 cs hs (λr=>r=Ag c.AK F cs) Inv (c.tree P T I fuel fn B p0 cs ad) β γ=c.rhsW p0 cs hs (c.tree P T I fuel fn B p0 cs ad) W β γ)∧W)∧
   Acl D c P T I fuel fn B p0 cs hs hk (Ag c.AK F cs) Inv ms hs 0):F9 D P f (BU c F pre):=by
 refine O9 D (mk:=[]) hT (I:=I) hfn hmix hB ha hl fuel λp0=>?_
 refine EF.imp (λcs hH hb hp ad E G=>?_) (H p0)
 obtain ⟨hs,hk,Inv,ms,hc,⟨W,hW,hW'⟩,hst⟩:=hH hb hp
 exact MJ D (hW ad) hW' hc (Aoh D hT hfn hmix hc hst)
end
end Go.Sl
namespace Go.Proofs.Ytdjfnbbmfmjckaa
section
open Go Go.Sl
abbrev gAp:Nat:=19
abbrev gAl:Nat:=15
def Agb (g:Nat) (s:RS) (k a c e u v:Int):RS×Bool:=bif iL g gAp then Ae s k a c e u v else (s,AZ s k a c e u v)
def nC (o:Nat) (s:RS) (a:Option Nat) (cap j:Nat):Chunk Sg:= .cells o 47 [(.int .i64 s.t, .no),(.int .i64 s.p, .no),(.int .i64 s.h, .no),(Be a s.a.length cap, .pt j .slice),(.int .i64 s.r0, .no),(.int .i64 s.r1, .no),(.int .i64 s.r2, .no),(.int .i64 s.r3, .no),(.int .i64 s.r4, .no),(.int .i64 s.r5, .no),(.int .i64 s.r6, .no),(.int .i64 s.r7, .no)]
def nR (s:RS) (a:Option Nat) (cap:Nat):Chunk Sg:= .row a 55 s.a.length cap [.ints .i64 s.a, .ints .i64 s.z]
section
variable {E:Ev} {G:Hp} {w:World} {X:List (Chunk Sg)} {s:RS} {o:Nat} {a:Option Nat} {cap j:Nat}
theorem Asa (h:Af Dg E G w (nC o s a cap j::nR s a cap::X)):s.z.length=s.a.length:=by
 obtain ⟨Y,q,_,h1,_⟩:=h.get Dg (k:=1) rfl
 exact h1.1 (.ints .i64 s.z) (by simp)
theorem AqM (h:Af Dg E G w (nC o s a cap j::nR s a cap::X)):Af Dg E G w (.obj ⟨o,0,none⟩ (.rf s)::X):=by
 have hz:=Asa h
 have h1:Sat E G w ((Bq.bk o (λ_=>{o:=a,c:=cap,b:=0,a:=none,p:=⟨0,0,none⟩}) 1 [.i s.t, .i s.p, .i s.h, .n s.a.length, .li s.a, .li s.z, .i s.r0, .i s.r1, .i s.r2, .i s.r3, .i s.r4, .i s.r5, .i s.r6, .i s.r7]).map (den Dg G)++X.map (den Dg G)):=h
 have hR:Bq.R s [.i s.t, .i s.p, .i s.h, .n s.a.length, .li s.a, .li s.z, .i s.r0, .i s.r1, .i s.r2, .i s.r3, .i s.r4, .i s.r5, .i s.r6, .i s.r7]:=(⟨rfl,hz,rfl⟩:Bj ⟨s.t,s.p,s.h,s.a.length,s.a,s.z,s.r0,s.r1,s.r2,s.r3,s.r4,s.r5,s.r6,s.r7⟩ s)
 exact Bx.fold Dg Ik rfl hR h1
theorem AqN {C:Chunk Sg} {Y:List (Chunk Sg)} (h:Af Dg E G w (C::Y)):Af Dg E G w (C:: .dead::Y):=by
 refine Sat.pick h (0::(Y.length+5)::jK 1 Y.length) ?_ λi B hi=>?_
 ·refine lF.2 ⟨λhm=>?_,lF.2 ⟨λhm=>?_,List.nodup_range' ..⟩⟩
  ·rcases iG.1 hm with hm|hm
   ·omega
   ·have:=List.mem_range'_1.1 hm;omega
  ·have:=List.mem_range'_1.1 hm;omega
 ·match i,hi with
  |0,hi=>exact .inl ⟨0,rfl,hi⟩
  |1,hi=>
   injection hi with hi;subst hi
   exact .inr λ_ _ _=>trivial
  |i+2,hi=>
   have hi':(Y.map (den Dg G))[i]? =some B:=hi
   have hl:i<Y.length:=by have:=BD hi';simpa using this
   refine .inl ⟨i+1,?_,hi'⟩
   show (jK 1 Y.length)[i]? =some (i+1)
   rw [List.getElem?_range' hl,Nat.one_mul,Nat.add_comm]
theorem Aoi (h:Af Dg E G w (.obj ⟨o,0,none⟩ (.rf s)::X)):∃a cap,Af Dg E G w (nC o s a cap (X.length+2):: .dead::X++[nR s a cap]):=by
 obtain ⟨x,⟨h1,h2,h3⟩,h4⟩:=Sat.QI (α:=Nat×(Nat→Ad)×List (Cm Sg)) (p:= λx=>(⟨o,0,none⟩:Addr)=⟨x.1,0,none⟩∧Dn (IA Bq.l) x.2.2=true∧Bq.R s x.2.2) (A0:= λx=>den Dg G (.cells x.1 Bq.t (J5 (DK x.2.1 Bq.l 1 0 x.2.2)))) (Bs:= λx=>(GK (DK x.2.1 Bq.l 1 0 x.2.2)).map (den Dg G)) (k:=0) h (by
  show some (Bq.A s ⟨o,0,none⟩)=_
  congr 1)
 obtain ⟨o',ad,y⟩:=x
 injection h1 with h1
 dsimp only at h1 h2 h3 h4
 subst h1
 have key:EF (IA Bq.l) λy=>Bq.R s y→Sat E G w (((.obj ⟨o,0,none⟩ (.rf s)::X:List (Chunk Sg)).map (den Dg G)).set 0 (den Dg G (.cells o Bq.t (J5 (DK ad Bq.l 1 0 y))))++(GK (DK ad Bq.l 1 0 y)).map (den Dg G))→∃a cap,Af Dg E G w (nC o s a cap (X.length+2):: .dead::X++[nR s a cap]):=by
  intro t p hh n al zl x0 x1 x2 x3 x4 x5 x6 x7 hR hS
  have hR:Bj ⟨t,p,hh,n,al,zl,x0,x1,x2,x3,x4,x5,x6,x7⟩ s:=hR
  have hn:=hR.n
  have he:=hR.eq
  dsimp only at hn he
  subst hn he
  refine ⟨(ad 0).o,(ad 0).c,?_⟩
  have h5:Af Dg E G w (nC o ⟨t,p,hh,al,zl,x0,x1,x2,x3,x4,x5,x6,x7⟩ (ad 0).o (ad 0).c (X.length+2)::(X++[nR ⟨t,p,hh,al,zl,x0,x1,x2,x3,x4,x5,x6,x7⟩ (ad 0).o (ad 0).c])):=by
   unfold Af
   rw [iD,jD]
   exact hS
  exact AqN h5
 exact key.at y h2 h3 h4
theorem Am1 {g:Nat} (hg:g=gAp∨g=gAl) (hn:s.a.length≤1000) (h:Af Dg E G w (nC o s a cap j::nR s a cap::X)) (k x c e u v:Int):
 Calls Try.prog g #[.pointer (some ⟨o,0,none⟩), .agg #[.int .i64 k, .int .i64 x, .int .i64 c], .agg #[.int .i64 e, .int .i64 u, .int .i64 v]] w λen w'=>
  en= .returned (.bool (Agb g s k x c e u v).2)∧∃a' cap',Af Dg E G w' (nC o (Agb g s k x c e u v).1 a' cap' (X.length+2):: .dead::X++[nR (Agb g s k x c e u v).1 a' cap']):=by
 have h1:=AqM h
 rcases hg with rfl|rfl
 ·obtain ⟨k',hk,hk2,hc⟩:=J3 Dg (K:= .obj ⟨o,0,none⟩ (.rf s)::X) AbX (args:=[(.pointer (some ⟨o,0,none⟩), .obj (.rf s)),(.agg #[.int .i64 k, .int .i64 x, .int .i64 c], .none),(.agg #[.int .i64 e, .int .i64 u, .int .i64 v], .none)]) (prs:=[.pt 0 .obj, .no, .no])
   ⟨Bg.2 ⟨_,rfl,rfl⟩,A8,A8,trivial⟩ rfl (c:=⟨Ae s k x c e u v, λr=>⟨[s.a.length≤1000],YL KY.rob (Ku KY.RK r),KY.mksC r,KY.outC r,KY.rs.outp⟩⟩) rfl rfl (λp hp=>by
     have hp:p∈[s.a.length≤1000]:=hp
     simp only [iG,jF,or_false] at hp
     rw [hp];exact hn) h1 rfl
  have hk:k'∈[0]:=hk
  simp only [iG,jF,or_false] at hk
  subst hk
  refine hc.mono ?_
  rintro en w' ⟨acs,ha,rfl,hS⟩
  cases acs with
  |cons _ _=>exact ha.elim
  |nil=>
   have hS:Af Dg E G w' (.obj ⟨o,0,none⟩ (.rf (Ae s k x c e u v).1)::X++[]):=hS
   rw [kZ] at hS
   exact ⟨rfl,Aoi hS⟩
 ·obtain ⟨k',hk,hk2,hc⟩:=J3 Dg (K:= .obj ⟨o,0,none⟩ (.rf s)::X) Yt (args:=[(.pointer (some ⟨o,0,none⟩), .obj (.rf s)),(.agg #[.int .i64 k, .int .i64 x, .int .i64 c], .none),(.agg #[.int .i64 e, .int .i64 u, .int .i64 v], .none)]) (prs:=[.pt 0 .obj, .no, .no])
   ⟨Bg.2 ⟨_,rfl,rfl⟩,A8,A8,trivial⟩ rfl (c:=⟨AZ s k x c e u v, λr=>⟨[s.a.length≤1000],YL JY.rob (Ku JY.RK r),JY.mksC r,JY.outC r,JY.rs.outp⟩⟩) rfl rfl (λp hp=>by
     have hp:p∈[s.a.length≤1000]:=hp
     simp only [iG,jF,or_false] at hp
     rw [hp];exact hn) h1 rfl
  have hk:k'∈[0]:=hk
  simp only [iG,jF,or_false] at hk
  subst hk
  refine hc.mono ?_
  rintro en w' ⟨acs,ha,rfl,hS⟩
  cases acs with
  |cons _ _=>exact ha.elim
  |nil=>
   have hS:Af Dg E G w' (.obj ⟨o,0,none⟩ (.rf s)::X++[]):=hS
   rw [kZ] at hS
   exact ⟨rfl,Aoi hS⟩
end
def ApR (g:Nat):Bool:=iL g gAp||iL g gAl
def Am2 (g:Nat) (ags:List (Value×Pr)) (K:List (Chunk Sg)):Option (Tree Sg):=
 match ApR g,ags,K with
 |true,[(.pointer (some ⟨o,0,none⟩), .pt j0 (.cell f0)),(.agg ⟨[.int .i64 k, .int .i64 x, .int .i64 c]⟩,_),(.agg ⟨[.int .i64 e, .int .i64 u, .int .i64 v]⟩,_)],
  .cells o' t [(.int .i64 ct, .no),(.int .i64 cp, .no),(.int .i64 ch, .no),(.slice sa sn sc, .pt j .slice),(.int .i64 x0, .no),(.int .i64 x1, .no),(.int .i64 x2, .no),(.int .i64 x3, .no),(.int .i64 x4, .no),(.int .i64 x5, .no),(.int .i64 x6, .no),(.int .i64 x7, .no)]:: .row a tb n cap [.ints .i64 xs, .ints .i64 zs]::X=>
  bif iL t 47&&iL tb 55&&iL j 1&&iL j0 0&&iL f0 0 then
   some (.need (n=xs.length∧xs.length≤1000) (.bind (Agb g ⟨ct,cp,ch,xs,zs,x0,x1,x2,x3,x4,x5,x6,x7⟩ k x c e u v) λr=> .freshS λa' cap'=> .ret (.bool r.2) .no (nC o' r.1 a' cap' (X.length+2):: .dead::X++[nR r.1 a' cap']))) else none
 |_,_,_=>none
theorem AsL {K:List (Chunk Sg)} {args:List Value} {prs:List Pr} (h:AQ K args prs) {a b c:Value} {p q r:Pr} (e:lI args prs=[(a,p),(b,q),(c,r)]):args=[a,b,c]∧prs=[p,q,r]:=by
 match args,prs,h,e with
 |[a',b',c'],[p',q',r'],_,e=>
  simp only [mL,List.zip_nil_right,jZ,iP,and_true] at e
  obtain ⟨⟨rfl,rfl⟩,⟨rfl,rfl⟩,rfl,rfl⟩:=e
  exact ⟨rfl,rfl⟩
 |[],[],_,e=>simp at e
 |[_],[_],_,e=>simp at e
 |[_,_],[_,_],_,e=>simp at e
 |_::_::_::_::_,_::_::_::_::_,_,e=>simp at e
theorem Afi {o:Nat} {s s':RS} {a a':Option Nat} {cap cap' j j':Nat} {X:List (Chunk Sg)}:Bf (nC o s a cap j::nR s a cap::X) (nC o s' a' cap' j':: .dead::X++[nR s' a' cap']):= λk c hk=>by
 match k,hk with
 |0,hk=>
  injection hk with hk;subst hk
  exact ⟨_,rfl, λv pk h=>by cases pk<;>exact h⟩
 |1,hk=>exact ⟨.dead,rfl, λv pk _=>trivial⟩
 |k+2,hk=>
  have hk:X[k]? =some c:=hk
  refine ⟨c,?_, λv pk h=>h⟩
  show (X++[nR s' a' cap'])[k]? =some c
  rw [iI (BD hk)]
  exact hk
theorem Apy {o:Nat} {s s':RS} {a a':Option Nat} {cap cap' j:Nat} {X:List (Chunk Sg)} (h:Dz (nC o s a cap j::nR s a cap::X)):Dz (nC o s' a' cap' (X.length+2):: .dead::X++[nR s' a' cap']):= λk b t cs hk=>by
 match k,hk with
 |0,hk=>
  have hk:nC o s' a' cap' (X.length+2)= .cells b t cs:=by injection hk
  unfold nC at hk
  injection hk with _ _ hk
  subst hk
  intro x hx
  simp only [iG,jF,or_false] at hx
  have hs:BH (nC o s' a' cap' (X.length+2):: .dead::X++[nR s' a' cap']) (Be a' s'.a.length cap') (.pt (X.length+2) .slice):=Bg.2 ⟨nR s' a' cap',by
   show (X++[nR s' a' cap'])[X.length]? =_
   rw [iJ (jY _),nF];rfl,rfl⟩
  rcases hx with rfl|rfl|rfl|rfl|rfl|rfl|rfl|rfl|rfl|rfl|rfl|rfl<;>first|exact A8|exact hs
 |1,hk=>cases hk
 |k+2,hk=>
  have hk:(X++[nR s' a' cap'])[k]? =some (.cells b t cs):=hk
  rcases jB k X.length with hl|hl
  ·rw [iI hl] at hk
   intro x hx
   exact (h (k+2) b t cs hk x hx).ext Afi
  ·rw [iJ hl] at hk
   have h0:k-X.length=0:=by have:=BD hk;simp only [jJ,mE] at this;omega
   rw [h0] at hk
   simp [nR] at hk
theorem Apz (E:Ev) (G:Hp):Amy Dg Try.prog Am2 E G:=by
 intro g args prs K t ht w hps hk hS Q hQ
 unfold Am2 at ht
 split at ht
 ·rename_i o j0 f0 k x c _ e u v _ o' t' ct cp ch sa sn sc j x0 x1 x2 x3 x4 x5 x6 x7 a tb n cap xs zs X hg hz
  cases hb:(iL t' 47&&iL tb 55&&iL j 1&&iL j0 0&&iL f0 0) with
  |false=>rw [hb] at ht;cases ht
  |true=>
   rw [hb] at ht
   simp only [cond_true,iA] at ht
   subst ht
   simp only [iE] at hb
   have e1:=iF hb.1.1.1.1
   have e2:=iF hb.1.1.1.2
   have e3:=iF hb.1.1.2
   have e4:=iF hb.1.2
   have e5:=iF hb.2
   subst e1 e2 e3 e4 e5
   obtain ⟨rfl,rfl⟩:=AsL hps hz
   obtain ⟨⟨rfl,hle⟩,hQ⟩:=hQ
   have hQ:=hQ ⟨rfl,hle⟩ _ rfl
   have ho:o=o':=by
    obtain ⟨ck,hc1,hc2⟩:=Bg.1 hps.1
    injection hc1 with hc1;subst hc1
    have hc2:(kA (some ⟨o,0,none⟩))= .pointer (some ⟨o',0,none⟩):=hc2
    injection hc2 with hc2;injection hc2 with hc2;injection hc2 with hc2
   subst ho
   have hsl:(kY sa sn sc)=Be a xs.length cap:=by
    obtain ⟨ck,hc1,hc2⟩:=Bg.1 (hk 0 _ _ _ rfl (.slice sa sn sc, .pt 1 .slice) (by simp))
    injection hc1 with hc1;subst hc1
    exact hc2
   rw [hsl] at hk hS
   have hS':Af Dg E G w (nC o ⟨ct,cp,ch,xs,zs,x0,x1,x2,x3,x4,x5,x6,x7⟩ a cap 1::nR ⟨ct,cp,ch,xs,zs,x0,x1,x2,x3,x4,x5,x6,x7⟩ a cap::X):=hS
   have hk':Dz (nC o ⟨ct,cp,ch,xs,zs,x0,x1,x2,x3,x4,x5,x6,x7⟩ a cap 1::nR ⟨ct,cp,ch,xs,zs,x0,x1,x2,x3,x4,x5,x6,x7⟩ a cap::X):=hk
   have hg':g=gAp∨g=gAl:=by
    unfold ApR at hg
    rw [lU] at hg
    exact hg.imp iF iF
   refine ⟨λ_=>(Am1 hg' hle hS' k x c e u v).mono ?_, λhy=>?_⟩
   ·rintro en w' ⟨rfl,a',cap',h5⟩
    refine ⟨_,_,_,rfl,hQ a' cap',?_,?_,A8,h5⟩
    ·show Bf (.cells o 47 [_,_,_,(.slice sa sn sc, .pt 1 .slice),_,_,_,_,_,_,_,_]::_::_) _
     rw [hsl]
     exact Afi (s:=⟨ct,cp,ch,xs,zs,x0,x1,x2,x3,x4,x5,x6,x7⟩) (a:=a) (cap:=cap) (j:=1)
    ·exact Apy hk'
   ·exfalso
    rcases hg' with rfl|rfl<;>exact absurd hy (by decide)
 ·cases ht
end
section
open Go.Sl
def Nl (t p h:Int) (xs ys:LI) (s0 s1 s2 s3 s4 s5 s6 s7 k a c e u v:Int):Bool:=true
abbrev AkV:Ct Sg:=⟨none,false,[.agg [.i .i64, .i .i64, .i .i64], .agg [.ro [some .i64,some .i64], .i .i64, .i .i64, .i .i64, .i .i64, .i .i64, .i .i64, .i .i64, .i .i64], .agg [.i .i64, .i .i64, .i .i64, .i .i64, .i .i64, .i .i64]], .b⟩
def AqO:Entry Sg:=BU AkV Nl (λt p h xs ys s0 s1 s2 s3 s4 s5 s6 s7 k a c e u v=>[Ac t p h=true,xs.length=ys.length,DU t p h xs ys [s0,s1,s2,s3,s4,s5,s6,s7]])
def AkW (t p h:Int) (xs ys:LI) (s0 s1 s2 s3 s4 s5 s6 s7 k a c e u v:Int) (Q0:RS→MS→Prop) (Q1:Int→Int→Int→Nat→LI→LI→Int→Int→Int→Int→Int→Int→Int→Int→MS→Prop) (Q2:Int→Int→Int→Nat→LI→LI→Int→Int→Int→Int→Int→Int→Int→Int→MS→Int→Bool→Int→Bool→Prop) (R_:Bool→Prop):Prop:=(∀r3:Bool,r3=(Acf xs ys s0 s1 s2 s3 s4 s5 s6 s7)→(AV (!r3) (∀r5:Bool,r5=(true)→(R_ (r5))) (∀r5:MS,r5=(Gm t p h xs ys s0 s1 s2 s3 s4 s5 s6 s7)→(Ap (BZ t p h=0) (Ap (iH xs=iH ys) (Ap (LK t p h xs ys) (Ap (Dk (Ba xs ys)) (Ap (LM (Ba xs ys) [s0,s1,s2,s3,s4,s5,s6,s7]) (∀r12:RS,r12=(Iw t p h xs ys s0 s1 s2 s3 s4 s5 s6 s7)→(Ap (Ac t p h=true) (Ap (iH xs=iH ys) (Ap (iH xs≤999) (Ap (H7 t p h xs ys) (Ap (H8 (AY (Ba xs ys)) [s0,s1,s2,s3,s4,s5,s6,s7]) (AV (false) (Ap (false=true→Dk (MS.l r5)) (AV (false&&!BN r5 k a c e u v) (∀r22:LI×LI×Int×Int×Int×Int×Int×Int×Int×Int,r22=(Ho r5)→(Ap (Dk (MS.l r5)) (Ap (iH (MS.l r5)≤1000) (Ap (inB (MS.l r5)) (Ap (true=true→iH r22.1=iH r22.2.1) (Ap (true=true→0=0) (R_ (Hr r22.1 r22.2.1 r22.2.2.1 r22.2.2.2.1 r22.2.2.2.2.1 r22.2.2.2.2.2.1 r22.2.2.2.2.2.2.1 r22.2.2.2.2.2.2.2.1 r22.2.2.2.2.2.2.2.2.1 r22.2.2.2.2.2.2.2.2.2 [] [] 0 0 0 0 0 0 0 0&&true)))))))) (R_ (false)))) (Q0 (r12) (r5)))))))))))))))))
def AiC (t p h:Int) (xs ys:LI) (s0 s1 s2 s3 s4 s5 s6 s7 k a c e u v:Int) (q_:RS) (m_:MS) (t_ p_ h_:Int) (n_:Nat) (al_ zl_:LI) (x0_ x1_ x2_ x3_ x4_ x5_ x6_ x7_:Int) (Q1:Int→Int→Int→Nat→LI→LI→Int→Int→Int→Int→Int→Int→Int→Int→MS→Prop):Prop:=(Q1 (t_) (p_) (h_) (n_) (al_) (zl_) (x0_) (x1_) (x2_) (x3_) (x4_) (x5_) (x6_) (x7_) (m_))
def IR (t p h:Int) (xs ys:LI) (s0 s1 s2 s3 s4 s5 s6 s7 k a c e u v:Int) (q_:RS) (m_:MS) (r_:Bool):Prop:=r_=true∧xs.length≤60∧q_=toR m_∧m_=OU t p h xs ys s0 s1 s2 s3 s4 s5 s6 s7
def AiD (t p h:Int) (xs ys:LI) (s0 s1 s2 s3 s4 s5 s6 s7 k a c e u v t_ p_ h_:Int) (n_:Nat) (a_ z_:LI) (r0_ r1_ r2_ r3_ r4_ r5_ r6_ r7_:Int) (m_:MS) (Q0:RS→MS→Prop) (Q1:Int→Int→Int→Nat→LI→LI→Int→Int→Int→Int→Int→Int→Int→Int→MS→Prop) (Q2:Int→Int→Int→Nat→LI→LI→Int→Int→Int→Int→Int→Int→Int→Int→MS→Int→Bool→Int→Bool→Prop) (R_:Bool→Prop):Prop:=(∀r0:Int×Bool,r0=(BI t p h a)→(∀r1:Int×Bool,r1=(BJ t p h a)→(Q2 (t_) (p_) (h_) (n_) (a_) (z_) (r0_) (r1_) (r2_) (r3_) (r4_) (r5_) (r6_) (r7_) (m_) r0.1 r0.2 r1.1 r1.2)))
def Ip (t p h:Int) (xs ys:LI) (s0 s1 s2 s3 s4 s5 s6 s7 k a c e u v t_ p_ h_:Int) (n_:Nat) (a_ z_:LI) (r0_ r1_ r2_ r3_ r4_ r5_ r6_ r7_:Int) (m_:MS) (r_:Bool):Prop:=r_=true∧xs.length≤60∧Bj ⟨t_,p_,h_,n_,a_,z_,r0_,r1_,r2_,r3_,r4_,r5_,r6_,r7_⟩ (toR m_)∧m_=OU t p h xs ys s0 s1 s2 s3 s4 s5 s6 s7
abbrev AdV (m_:MS) (k a c e u v:Int) (n_:Nat) (a_:LI) (t_ p_ h_:Int) (z_:LI) (r0_ r1_ r2_ r3_ r4_ r5_ r6_ r7_ u_ v_:Int) (ok_ is_:Bool) (R_:Bool→Prop):Prop:=(AV (true) (∀r1:Bool,r1=(BN m_ k a c e u v)→(Ap (Dk (MS.l m_)) (Ap (n_=iH a_∧iH a_≤1000) (∀r4:RS×Bool,r4=(({t:=t_,p:=p_,h:=h_,a:=a_,z:=z_,r0:=r0_,r1:=r1_,r2:=r2_,r3:=r3_,r4:=r4_,r5:=r5_,r6:=r6_,r7:=r7_},AZ {t:=t_,p:=p_,h:=h_,a:=a_,z:=z_,r0:=r0_,r1:=r1_,r2:=r2_,r3:=r3_,r4:=r4_,r5:=r5_,r6:=r6_,r7:=r7_} k a c e u v))→(tw_ (AV (r1==r4.2) (∀r7:LI×LI×Int×Int×Int×Int×Int×Int×Int×Int,r7=(Ho m_)→(Ap (Dk (MS.l m_)) (Ap (iH (MS.l m_)≤1000) (Ap (inB (MS.l m_)) (∀r12:Bool,r12=(Hr r7.1 r7.2.1 r7.2.2.1 r7.2.2.2.1 r7.2.2.2.2.1 r7.2.2.2.2.2.1 r7.2.2.2.2.2.2.1 r7.2.2.2.2.2.2.2.1 r7.2.2.2.2.2.2.2.2.1 r7.2.2.2.2.2.2.2.2.2 (RS.a r4.1) (RS.z r4.1) (RS.r0 r4.1) (RS.r1 r4.1) (RS.r2 r4.1) (RS.r3 r4.1) (RS.r4 r4.1) (RS.r5 r4.1) (RS.r6 r4.1) (RS.r7 r4.1))→(Ap (iH r7.1=iH r7.2.1) (Ap (iH (RS.a r4.1)=iH (RS.z r4.1)) (AV (r12&&u_==v_&&ok_==is_) (∀r16:Bool,r16=(true)→(R_ (r16))) (R_ (false)))))))))) (R_ (false)))))))) (R_ (false)))
def AiE (t p h:Int) (xs ys:LI) (s0 s1 s2 s3 s4 s5 s6 s7 k a c e u v t_ p_ h_:Int) (n_:Nat) (a_ z_:LI) (r0_ r1_ r2_ r3_ r4_ r5_ r6_ r7_:Int) (m_:MS) (u_:Int) (ok_:Bool) (v_:Int) (is_:Bool) (Q0:RS→MS→Prop) (Q1:Int→Int→Int→Nat→LI→LI→Int→Int→Int→Int→Int→Int→Int→Int→MS→Prop) (Q2:Int→Int→Int→Nat→LI→LI→Int→Int→Int→Int→Int→Int→Int→Int→MS→Int→Bool→Int→Bool→Prop) (R_:Bool→Prop):Prop:=((AdV m_ k a c e u v n_ a_ t_ p_ h_ z_ r0_ r1_ r2_ r3_ r4_ r5_ r6_ r7_ u_ v_ ok_ is_ R_)∧(tw_ (tw_ (AdV m_ k a c e u v n_ a_ t_ p_ h_ z_ r0_ r1_ r2_ r3_ r4_ r5_ r6_ r7_ u_ v_ ok_ is_ R_))))
def IU (t p h:Int) (xs ys:LI) (s0 s1 s2 s3 s4 s5 s6 s7 k a c e u v t_ p_ h_:Int) (n_:Nat) (a_ z_:LI) (r0_ r1_ r2_ r3_ r4_ r5_ r6_ r7_:Int) (m_:MS) (u_:Int) (ok_:Bool) (v_:Int) (is_ r_:Bool):Prop:=r_=true∧xs.length≤60∧Bj ⟨t_,p_,h_,n_,a_,z_,r0_,r1_,r2_,r3_,r4_,r5_,r6_,r7_⟩ (toR m_)∧m_=OU t p h xs ys s0 s1 s2 s3 s4 s5 s6 s7∧(u_,ok_)=BI t p h a∧(v_,is_)=BJ t p h a
abbrev ZT (p0:Addr) (t p h:Int) (xs ys:LI) (s0 s1 s2 s3 s4 s5 s6 s7 k a c e u v:Int):Hd Sg:=⟨some 0,[0,1,1,1,1],[.code [1,1,1,1,1]],[8,7,3,5],[.objb CW, .objb Du, .box 23 [.ic .i64 (t), .ic .i64 (p), .ic .i64 (h)], .box 34 [.ic .i64 (k), .ic .i64 (a), .ic .i64 (c), .ic .i64 (e), .ic .i64 (u), .ic .i64 (v)]]⟩
abbrev ZU (p0:Addr) (t p h:Int) (xs ys:LI) (s0 s1 s2 s3 s4 s5 s6 s7 k a c e u v:Int):Hd Sg:=⟨some 0,[0,1,1,1,1],[.code [1,1,1,1,1]],[8,7,3,5],[.box Bq.t Bq.l, .objb Du, .box 23 [.ic .i64 (t), .ic .i64 (p), .ic .i64 (h)], .box 34 [.ic .i64 (k), .ic .i64 (a), .ic .i64 (c), .ic .i64 (e), .ic .i64 (u), .ic .i64 (v)]]⟩
abbrev ZV (p0:Addr) (t p h:Int) (xs ys:LI) (s0 s1 s2 s3 s4 s5 s6 s7 k a c e u v:Int):Hd Sg:=⟨some 900,[0,1,1,1,1,1,1],[.code [1,1,1,1,1,1,1]],[8,7,5,9,10,11,12],[.box Bq.t Bq.l, .objb Du, .box 34 [.ic .i64 (k), .ic .i64 (a), .ic .i64 (c), .ic .i64 (e), .ic .i64 (u), .ic .i64 (v)], .i .i64, .b, .i .i64, .b]⟩
theorem AjT (t p h:Int) (xs ys:LI) (s0 s1 s2 s3 s4 s5 s6 s7 k a c e u v:Int) (hp0:Ac t p h=true) (hp1:xs.length=ys.length) (hp2:DU t p h xs ys [s0,s1,s2,s3,s4,s5,s6,s7]) (hl0:xs.length≤9223372036854775807):AkW t p h xs ys s0 s1 s2 s3 s4 s5 s6 s7 k a c e u v (λq_' m_'=>IR t p h xs ys s0 s1 s2 s3 s4 s5 s6 s7 k a c e u v q_' m_' (Nl t p h xs ys s0 s1 s2 s3 s4 s5 s6 s7 k a c e u v)) (λt_' p_' h_' n_' a_' z_' r0_' r1_' r2_' r3_' r4_' r5_' r6_' r7_' m_'=>Ip t p h xs ys s0 s1 s2 s3 s4 s5 s6 s7 k a c e u v t_' p_' h_' n_' a_' z_' r0_' r1_' r2_' r3_' r4_' r5_' r6_' r7_' m_' (Nl t p h xs ys s0 s1 s2 s3 s4 s5 s6 s7 k a c e u v)) (λt_' p_' h_' n_' a_' z_' r0_' r1_' r2_' r3_' r4_' r5_' r6_' r7_' m_' u_' ok_' v_' is_'=>IU t p h xs ys s0 s1 s2 s3 s4 s5 s6 s7 k a c e u v t_' p_' h_' n_' a_' z_' r0_' r1_' r2_' r3_' r4_' r5_' r6_' r7_' m_' u_' ok_' v_' is_' (Nl t p h xs ys s0 s1 s2 s3 s4 s5 s6 s7 k a c e u v)) (λr__=>r__=(Nl t p h xs ys s0 s1 s2 s3 s4 s5 s6 s7 k a c e u v)):=by
 unfold AkW
 try unfold IR
 try unfold Ip
 try unfold IU
 rintro r3 rfl
 refine ⟨λ_=>?_, λhn=>?_⟩
 ·rintro r5 rfl;rfl
 ·have h6:xs.length≤60:=by
   rw [lO] at hn
   exact of_decide_eq_true hn
  have hMI:=Aof hp0 hp1 hp2
  have hg:=(AiB hp0 hp1 _).1 hp2
  rintro r5 rfl
  refine ⟨Ai7 (PT hp0), λ_=>⟨hp1, λ_=>⟨hp2.1, λ_=>⟨hMI.nd, λ_=>⟨hp2.2, λ_=>?_⟩⟩⟩⟩⟩
  rintro r12 rfl
  exact ⟨hp0, λ_=>⟨hp1, λ_=>⟨by omega, λ_=>⟨hg.1, λ_=>⟨hg.2, λ_=>⟨λh=>(by cases h), λ_=>⟨rfl,h6,rfl,rfl⟩⟩⟩⟩⟩⟩⟩
theorem AjU (t p h:Int) (xs ys:LI) (s0 s1 s2 s3 s4 s5 s6 s7 k a c e u v:Int) (hp0:Ac t p h=true) (hp1:xs.length=ys.length) (hp2:DU t p h xs ys [s0,s1,s2,s3,s4,s5,s6,s7]) (hl0:xs.length≤9223372036854775807) (q_:RS) (m_:MS) (t_ p_ h_:Int) (n_:Nat) (al_ zl_:LI) (x0_ x1_ x2_ x3_ x4_ x5_ x6_ x7_:Int) {r_:Bool} (hI:IR t p h xs ys s0 s1 s2 s3 s4 s5 s6 s7 k a c e u v q_ m_ r_) (hx:Bj ⟨t_,p_,h_,n_,al_,zl_,x0_,x1_,x2_,x3_,x4_,x5_,x6_,x7_⟩ (q_)):AiC t p h xs ys s0 s1 s2 s3 s4 s5 s6 s7 k a c e u v q_ m_ t_ p_ h_ n_ al_ zl_ x0_ x1_ x2_ x3_ x4_ x5_ x6_ x7_ (λt_' p_' h_' n_' a_' z_' r0_' r1_' r2_' r3_' r4_' r5_' r6_' r7_' m_'=>Ip t p h xs ys s0 s1 s2 s3 s4 s5 s6 s7 k a c e u v t_' p_' h_' n_' a_' z_' r0_' r1_' r2_' r3_' r4_' r5_' r6_' r7_' m_' r_∧lx (2,0,0) (3,0,0)):=by
 unfold IR at hI
 unfold AiC
 try unfold IR
 try unfold Ip
 try unfold IU
 obtain ⟨hr,h6,rfl,hm⟩:=hI
 exact ⟨⟨hr,h6,hx,hm⟩,Bo⟩
theorem AjV (t p h:Int) (xs ys:LI) (s0 s1 s2 s3 s4 s5 s6 s7 k a c e u v:Int) (hp0:Ac t p h=true) (hp1:xs.length=ys.length) (hp2:DU t p h xs ys [s0,s1,s2,s3,s4,s5,s6,s7]) (hl0:xs.length≤9223372036854775807) (t_ p_ h_:Int) (n_:Nat) (a_ z_:LI) (r0_ r1_ r2_ r3_ r4_ r5_ r6_ r7_:Int) (m_:MS) {r_:Bool} (hI:Ip t p h xs ys s0 s1 s2 s3 s4 s5 s6 s7 k a c e u v t_ p_ h_ n_ a_ z_ r0_ r1_ r2_ r3_ r4_ r5_ r6_ r7_ m_ r_):AiD t p h xs ys s0 s1 s2 s3 s4 s5 s6 s7 k a c e u v t_ p_ h_ n_ a_ z_ r0_ r1_ r2_ r3_ r4_ r5_ r6_ r7_ m_ (λq_' m_'=>IR t p h xs ys s0 s1 s2 s3 s4 s5 s6 s7 k a c e u v q_' m_' r_∧lx (3,0,0) (2,0,0)) (λt_' p_' h_' n_' a_' z_' r0_' r1_' r2_' r3_' r4_' r5_' r6_' r7_' m_'=>Ip t p h xs ys s0 s1 s2 s3 s4 s5 s6 s7 k a c e u v t_' p_' h_' n_' a_' z_' r0_' r1_' r2_' r3_' r4_' r5_' r6_' r7_' m_' r_∧lx (2,0,0) (2,0,0)) (λt_' p_' h_' n_' a_' z_' r0_' r1_' r2_' r3_' r4_' r5_' r6_' r7_' m_' u_' ok_' v_' is_'=>IU t p h xs ys s0 s1 s2 s3 s4 s5 s6 s7 k a c e u v t_' p_' h_' n_' a_' z_' r0_' r1_' r2_' r3_' r4_' r5_' r6_' r7_' m_' u_' ok_' v_' is_' r_∧lx (1,0,0) (2,0,0)) (λr__=>r__=r_):=by
 unfold Ip at hI
 unfold AiD
 try unfold IR
 try unfold Ip
 try unfold IU
 obtain ⟨hr,h6,hR,hm⟩:=hI
 rintro r0 rfl r1 rfl
 exact ⟨⟨hr,h6,hR,hm,rfl,rfl⟩,Bo⟩
theorem AjW (t p h:Int) (xs ys:LI) (s0 s1 s2 s3 s4 s5 s6 s7 k a c e u v:Int) (hp0:Ac t p h=true) (hp1:xs.length=ys.length) (hp2:DU t p h xs ys [s0,s1,s2,s3,s4,s5,s6,s7]) (hl0:xs.length≤9223372036854775807) (t_ p_ h_:Int) (n_:Nat) (a_ z_:LI) (r0_ r1_ r2_ r3_ r4_ r5_ r6_ r7_:Int) (m_:MS) (u_:Int) (ok_:Bool) (v_:Int) (is_:Bool) {r_:Bool} (hI:IU t p h xs ys s0 s1 s2 s3 s4 s5 s6 s7 k a c e u v t_ p_ h_ n_ a_ z_ r0_ r1_ r2_ r3_ r4_ r5_ r6_ r7_ m_ u_ ok_ v_ is_ r_):AiE t p h xs ys s0 s1 s2 s3 s4 s5 s6 s7 k a c e u v t_ p_ h_ n_ a_ z_ r0_ r1_ r2_ r3_ r4_ r5_ r6_ r7_ m_ u_ ok_ v_ is_ (λq_' m_'=>IR t p h xs ys s0 s1 s2 s3 s4 s5 s6 s7 k a c e u v q_' m_' r_∧lx (3,0,0) (1,0,0)) (λt_' p_' h_' n_' a_' z_' r0_' r1_' r2_' r3_' r4_' r5_' r6_' r7_' m_'=>Ip t p h xs ys s0 s1 s2 s3 s4 s5 s6 s7 k a c e u v t_' p_' h_' n_' a_' z_' r0_' r1_' r2_' r3_' r4_' r5_' r6_' r7_' m_' r_∧lx (2,0,0) (1,0,0)) (λt_' p_' h_' n_' a_' z_' r0_' r1_' r2_' r3_' r4_' r5_' r6_' r7_' m_' u_' ok_' v_' is_'=>IU t p h xs ys s0 s1 s2 s3 s4 s5 s6 s7 k a c e u v t_' p_' h_' n_' a_' z_' r0_' r1_' r2_' r3_' r4_' r5_' r6_' r7_' m_' u_' ok_' v_' is_' r_∧lx (1,0,0) (1,0,0)) (λr__=>r__=r_):=by
 unfold IU at hI
 unfold AiE AdV
 try unfold IR
 try unfold Ip
 try unfold IU
 obtain ⟨hr,h6,hR,rfl,hu,hv⟩:=hI
 have hMI:=Aof hp0 hp1 hp2
 have hlen:(OU t p h xs ys s0 s1 s2 s3 s4 s5 s6 s7).l.length=xs.length:=Jb hp1
 have hAl:=Aoa hMI k a c e u v
 generalize OU t p h xs ys s0 s1 s2 s3 s4 s5 s6 s7=m_ at*
 rw [←SY,←hu] at hv
 injection hv with hv1 hv2
 subst hv1 hv2
 have hE:=hR.eq
 have hn:=hR.n
 dsimp only at hE hn
 unfold toR at hE
 injection hE with e1 e2 e3 e4 e5 f0 f1 f2 f3 f4 f5 f6 f7
 subst e1 e2 e3 e4 e5 f0 f1 f2 f3 f4 f5 f6 f7
 have hla:((AY m_.l).map (λx:Int×Int=>x.1)).length≤1000:=by rw [jV,Z4];omega
 have hz:((AY m_.l).map (λx:Int×Int=>x.1)).length=((AY m_.l).map (λx:Int×Int=>x.2)).length:=by rw [jV,jV]
 refine ⟨?_,⟨?_,?_⟩,⟨?_,?_⟩⟩<;>
 ·refine ⟨λ_=>?_, λh=>(by cases h)⟩
  rintro r1 rfl
  refine ⟨hMI.nd, λ_=>⟨⟨hn,hla⟩, λ_=>?_⟩⟩
  rintro r4 rfl
  refine ⟨?_,?_⟩<;>
  ·refine ⟨λ_=>?_, λhb=>?_⟩
   ·rintro r7 rfl
    refine ⟨hMI.nd, λ_=>⟨by omega, λ_=>⟨hMI.inB, λ_=>?_⟩⟩⟩
    rintro r12 rfl
    refine ⟨st_len _, λ_=>⟨hz, λ_=>⟨λ_=>?_, λhb=>?_⟩⟩⟩
    ·rintro r16 rfl
     exact hr.symm
    ·exfalso
     change (Hr ((AY m_.l).map (·.1)) ((AY m_.l).map (·.2)) m_.r0 m_.r1 m_.r2 m_.r3 m_.r4 m_.r5 m_.r6 m_.r7 ((AY m_.l).map (·.1)) ((AY m_.l).map (·.2)) m_.r0 m_.r1 m_.r2 m_.r3 m_.r4 m_.r5 m_.r6 m_.r7&&_&&_)=false at hb
     rw [Aod] at hb
     simp at hb
   ·exfalso
    change (BN m_ k a c e u v==AZ (toR m_) k a c e u v)=false at hb
    rw [hAl] at hb
    simp at hb
theorem Ap0:DV 3 AqO:=
 ArY Dg SX (I:=[1426000,7826900,2999998]) Try.func3 mix (B:=AP Try.f3) (by kernel_rfl) rfl (by kernel_rfl) 400
  λp0 t p h xs ys s0 s1 s2 s3 s4 s5 s6 s7 k a c e u v hb hp=>have hl0:xs.length≤9223372036854775807:=hb.2.1.1;have hp0:Ac t p h=true:=hp _ (.head _);have hp1:xs.length=ys.length:=hp _ (.tail _ (.head _));have hp2:DU t p h xs ys [s0,s1,s2,s3,s4,s5,s6,s7]:=hp _ (.tail _ (.tail _ (.head _)));⟨[ZT p0 t p h xs ys s0 s1 s2 s3 s4 s5 s6 s7 k a c e u v,ZU p0 t p h xs ys s0 s1 s2 s3 s4 s5 s6 s7 k a c e u v,ZV p0 t p h xs ys s0 s1 s2 s3 s4 s5 s6 s7 k a c e u v],[.opn ⟨CW,Bq⟩ 0 (λad=>(ad 0).b) 1, .run, .wid Am2], λj=>iN [Ag (Hd.kd (ZT p0 t p h xs ys s0 s1 s2 s3 s4 s5 s6 s7 k a c e u v)) (λq_' m_'=>IR t p h xs ys s0 s1 s2 s3 s4 s5 s6 s7 k a c e u v q_' m_' (Nl t p h xs ys s0 s1 s2 s3 s4 s5 s6 s7 k a c e u v)),Ag (Hd.kd (ZU p0 t p h xs ys s0 s1 s2 s3 s4 s5 s6 s7 k a c e u v)) (λt_' p_' h_' n_' a_' z_' r0_' r1_' r2_' r3_' r4_' r5_' r6_' r7_' m_'=>Ip t p h xs ys s0 s1 s2 s3 s4 s5 s6 s7 k a c e u v t_' p_' h_' n_' a_' z_' r0_' r1_' r2_' r3_' r4_' r5_' r6_' r7_' m_' (Nl t p h xs ys s0 s1 s2 s3 s4 s5 s6 s7 k a c e u v)),Ag (Hd.kd (ZV p0 t p h xs ys s0 s1 s2 s3 s4 s5 s6 s7 k a c e u v)) (λt_' p_' h_' n_' a_' z_' r0_' r1_' r2_' r3_' r4_' r5_' r6_' r7_' m_' u_' ok_' v_' is_'=>IU t p h xs ys s0 s1 s2 s3 s4 s5 s6 s7 k a c e u v t_' p_' h_' n_' a_' z_' r0_' r1_' r2_' r3_' r4_' r5_' r6_' r7_' m_' u_' ok_' v_' is_' (Nl t p h xs ys s0 s1 s2 s3 s4 s5 s6 s7 k a c e u v))] j (λ_=>False), λj=>iN [Ag (Hd.kd (ZT p0 t p h xs ys s0 s1 s2 s3 s4 s5 s6 s7 k a c e u v)) (λq_' m_'=>(3,0,0)),Ag (Hd.kd (ZU p0 t p h xs ys s0 s1 s2 s3 s4 s5 s6 s7 k a c e u v)) (λt_' p_' h_' n_' a_' z_' r0_' r1_' r2_' r3_' r4_' r5_' r6_' r7_' m_'=>(2,0,0)),Ag (Hd.kd (ZV p0 t p h xs ys s0 s1 s2 s3 s4 s5 s6 s7 k a c e u v)) (λt_' p_' h_' n_' a_' z_' r0_' r1_' r2_' r3_' r4_' r5_' r6_' r7_' m_' u_' ok_' v_' is_'=>(1,0,0))] j (λ_=>(0,0,0)),by kernel_rfl,⟨_, λ_ _ _=>by kernel_rfl,AjT t p h xs ys s0 s1 s2 s3 s4 s5 s6 s7 k a c e u v hp0 hp1 hp2 hl0⟩,⟨⟨Ik, λq_ m_ hI=>⟨q_, λ_=>by kernel_rfl, λt_ p_ h_ n_ al_ zl_ x0_ x1_ x2_ x3_ x4_ x5_ x6_ x7_ hx=>⟨_, λ_ _=>by kernel_rfl,AjU t p h xs ys s0 s1 s2 s3 s4 s5 s6 s7 k a c e u v hp0 hp1 hp2 hl0 q_ m_ t_ p_ h_ n_ al_ zl_ x0_ x1_ x2_ x3_ x4_ x5_ x6_ x7_ hI hx⟩⟩⟩,⟨λt_ p_ h_ n_ a_ z_ r0_ r1_ r2_ r3_ r4_ r5_ r6_ r7_ m_ hI=>⟨_, λ_ _ _=>by kernel_rfl,AjV t p h xs ys s0 s1 s2 s3 s4 s5 s6 s7 k a c e u v hp0 hp1 hp2 hl0 t_ p_ h_ n_ a_ z_ r0_ r1_ r2_ r3_ r4_ r5_ r6_ r7_ m_ hI⟩,⟨⟨Apz,⟨_,rfl⟩,by kernel_rfl,rfl, λt_ p_ h_ n_ a_ z_ r0_ r1_ r2_ r3_ r4_ r5_ r6_ r7_ m_ u_ ok_ v_ is_ hI=>⟨_, λ_ _ _=>by kernel_rfl,AjW t p h xs ys s0 s1 s2 s3 s4 s5 s6 s7 k a c e u v hp0 hp1 hp2 hl0 t_ p_ h_ n_ a_ z_ r0_ r1_ r2_ r3_ r4_ r5_ r6_ r7_ m_ u_ ok_ v_ is_ hI⟩⟩,trivial⟩⟩⟩⟩
theorem AjX (t p h:Int) (xs ys:LI) (s0 s1 s2 s3 s4 s5 s6 s7 k a c e u v:Int) (a_0:Option Addr) (c_0:Nat) {E_:Ev} {G_:Hp} {w_:World} (hr0:Ef G_ a_0 xs.length [.ints .i64 xs, .ints .i64 ys]∧xs.length≤c_0) (hp0:Ac t p h=true) (hp1:xs.length=ys.length) (hp2:DU t p h xs ys [s0,s1,s2,s3,s4,s5,s6,s7]) (hS:Sat E_ G_ w_ []):Calls Try.prog 3 #[(.agg #[.int .i64 t, .int .i64 p, .int .i64 h]),(.agg #[.slice a_0 xs.length c_0, .int .i64 s0, .int .i64 s1, .int .i64 s2, .int .i64 s3, .int .i64 s4, .int .i64 s5, .int .i64 s6, .int .i64 s7]),(.agg #[.int .i64 k, .int .i64 a, .int .i64 c, .int .i64 e, .int .i64 u, .int .i64 v])] w_ (λen w'=>en= .returned (.bool (Nl t p h xs ys s0 s1 s2 s3 s4 s5 s6 s7 k a c e u v))∧Sat E_ G_ w' []):=by
 refine AgN Dg (c:=AkV) (F:=Nl) (pre:= λt p h xs ys s0 s1 s2 s3 s4 s5 s6 s7 k a c e u v=>[Ac t p h=true,xs.length=ys.length,DU t p h xs ys [s0,s1,s2,s3,s4,s5,s6,s7]]) Ap0 [((.agg #[.int .i64 t, .int .i64 p, .int .i64 h]),(.none)),((.agg #[.slice a_0 xs.length c_0, .int .i64 s0, .int .i64 s1, .int .i64 s2, .int .i64 s3, .int .i64 s4, .int .i64 s5, .int .i64 s6, .int .i64 s7]),(.many [.row xs.length [.ints .i64 xs, .ints .i64 ys], .none, .none, .none, .none, .none, .none, .none, .none])),((.agg #[.int .i64 k, .int .i64 a, .int .i64 c, .int .i64 e, .int .i64 u, .int .i64 v]),(.none))] [.i t, .i p, .i h, .li xs, .li ys, .i s0, .i s1, .i s2, .i s3, .i s4, .i s5, .i s6, .i s7, .i k, .i a, .i c, .i e, .i u, .i v] (by kernel_rfl) _ (by kernel_rfl) (by kernel_rfl) (by kernel_rfl) ?_ ?_ hS
 ·intro p_ hp_
  have hp_:p_∈[(Ac t p h=true:Prop),(xs.length=ys.length:Prop),(DU t p h xs ys [s0,s1,s2,s3,s4,s5,s6,s7]:Prop)]:=hp_
  simp only [iG,jF,or_false] at hp_
  rcases hp_ with rfl|rfl|rfl
  ·exact hp0
  ·exact hp1
  ·exact hp2
 ·intro x hx
  simp only [iG,jF,or_false] at hx
  rcases hx with rfl|rfl|rfl
  ·first|(simp only [EC,Ee,and_true,true_and];done)|(simp only [EC,Ee,and_true,true_and];exact ⟨_,_,rfl,trivial⟩)|simp [EC,Ee]
  ·first|(simp only [EC,Ee,and_true,true_and];done)|(simp only [EC,Ee,and_true,true_and];exact ⟨_,_,rfl,hr0.1,hr0.2, λh=>by cases h⟩)|simp [EC,Ee]
  ·first|(simp only [EC,Ee,and_true,true_and];done)|(simp only [EC,Ee,and_true,true_and];exact ⟨_,_,rfl,trivial⟩)|simp [EC,Ee]
end
section
open Go.Sl
def Acn (t p h:Int) (xs ys:LI) (s0 s1 s2 s3 s4 s5 s6 s7 k a c e u v:Int):Bool:=true
abbrev AiF:Ct Sg:=⟨none,false,[.agg [.i .i64, .i .i64, .i .i64], .agg [.ro [some .i64,some .i64], .i .i64, .i .i64, .i .i64, .i .i64, .i .i64, .i .i64, .i .i64, .i .i64], .agg [.i .i64, .i .i64, .i .i64, .i .i64, .i .i64, .i .i64]], .b⟩
def Ap1:Entry Sg:=BU AiF Acn (λt p h xs ys s0 s1 s2 s3 s4 s5 s6 s7 k a c e u v=>[Ac t p h=true,xs.length=ys.length,¬DU t p h xs ys [s0,s1,s2,s3,s4,s5,s6,s7]])
abbrev AdW (R_:Bool→Prop):Prop:=(AV (false) (Ap (False) (Ap (False) False)) (AV (true) (Ap (true=true→0=0) (Ap (true=true→0=0) (R_ (true)))) (Ap (False) False)))
def AiG (t p h:Int) (xs ys:LI) (s0 s1 s2 s3 s4 s5 s6 s7 k a c e u v:Int) (R_:Bool→Prop):Prop:=(AV (!Acf xs ys s0 s1 s2 s3 s4 s5 s6 s7) (R_ (true)) (Ap (Ac t p h=true) (Ap (iH xs=iH ys) (Ap (¬DU t p h xs ys [s0,s1,s2,s3,s4,s5,s6,s7]) (Ap (Ac t p h=true) (Ap (iH xs=iH ys) (Ap (iH xs≤999) (Ap (¬DU t p h xs ys [s0,s1,s2,s3,s4,s5,s6,s7]) (AV (true) (AV (true) (AV (false) (Ap (False) (Ap (False) False)) (AV (true) (AV (true) (AdW R_) (R_ (false))) (AV (!Hq k a c) (AV (!Bl 1 e u v) (AdW R_) (R_ (false))) (Ap (False) False)))) (R_ (false))) False)))))))))
theorem AiH (t p h:Int) (xs ys:LI) (s0 s1 s2 s3 s4 s5 s6 s7 k a c e u v:Int) (hp0:Ac t p h=true) (hp1:xs.length=ys.length) (hp2:¬DU t p h xs ys [s0,s1,s2,s3,s4,s5,s6,s7]) (hl0:xs.length≤9223372036854775807):AiG t p h xs ys s0 s1 s2 s3 s4 s5 s6 s7 k a c e u v (λr__=>r__=(Acn t p h xs ys s0 s1 s2 s3 s4 s5 s6 s7 k a c e u v)):=by
 unfold AiG AdW
 refine ⟨λ_=>rfl, λhn=>?_⟩
 have h6:xs.length≤60:=by
  rw [lO] at hn
  exact of_decide_eq_true hn
 exact ⟨hp0, λ_=>⟨hp1, λ_=>⟨hp2, λ_=>⟨hp0, λ_=>⟨hp1, λ_=>⟨by omega, λ_=>⟨hp2, λ_=>⟨λ_=>⟨λ_=>⟨λh=>(by cases h), λ_=>⟨λ_=>⟨λ_=>⟨λh=>(by cases h), λ_=>⟨λ_=>⟨λ_=>rfl, λ_=>⟨λ_=>rfl, λ_=>rfl⟩⟩, λh=>(by cases h)⟩⟩, λh=>(by cases h)⟩, λh=>(by cases h)⟩⟩, λh=>(by cases h)⟩, λh=>(by cases h)⟩⟩⟩⟩⟩⟩⟩⟩
theorem Aoj:DV 3 Ap1:=
 Vd Dg Amx (I:=[10,12,26,1426000]) Try.func3 mix (B:=AP Try.f3) (by kernel_rfl) rfl (by kernel_rfl) 400
  λ_ t p h xs ys s0 s1 s2 s3 s4 s5 s6 s7 k a c e u v hb hp=>⟨_, λ_ _ _=>by kernel_rfl,AiH t p h xs ys s0 s1 s2 s3 s4 s5 s6 s7 k a c e u v (hp _ (.head _)) (hp _ (.tail _ (.head _))) (hp _ (.tail _ (.tail _ (.head _)))) (hb.2.1.1)⟩
theorem AiI (t p h:Int) (xs ys:LI) (s0 s1 s2 s3 s4 s5 s6 s7 k a c e u v:Int) (a_0:Option Addr) (c_0:Nat) {E_:Ev} {G_:Hp} {w_:World} (hr0:Ef G_ a_0 xs.length [.ints .i64 xs, .ints .i64 ys]∧xs.length≤c_0) (hp0:Ac t p h=true) (hp1:xs.length=ys.length) (hp2:¬DU t p h xs ys [s0,s1,s2,s3,s4,s5,s6,s7]) (hS:Sat E_ G_ w_ []):Calls Try.prog 3 #[(.agg #[.int .i64 t, .int .i64 p, .int .i64 h]),(.agg #[.slice a_0 xs.length c_0, .int .i64 s0, .int .i64 s1, .int .i64 s2, .int .i64 s3, .int .i64 s4, .int .i64 s5, .int .i64 s6, .int .i64 s7]),(.agg #[.int .i64 k, .int .i64 a, .int .i64 c, .int .i64 e, .int .i64 u, .int .i64 v])] w_ (λen w'=>en= .returned (.bool (Acn t p h xs ys s0 s1 s2 s3 s4 s5 s6 s7 k a c e u v))∧Sat E_ G_ w' []):=by
 refine AgN Dg (c:=AiF) (F:=Acn) (pre:= λt p h xs ys s0 s1 s2 s3 s4 s5 s6 s7 k a c e u v=>[Ac t p h=true,xs.length=ys.length,¬DU t p h xs ys [s0,s1,s2,s3,s4,s5,s6,s7]]) Aoj [((.agg #[.int .i64 t, .int .i64 p, .int .i64 h]),(.none)),((.agg #[.slice a_0 xs.length c_0, .int .i64 s0, .int .i64 s1, .int .i64 s2, .int .i64 s3, .int .i64 s4, .int .i64 s5, .int .i64 s6, .int .i64 s7]),(.many [.row xs.length [.ints .i64 xs, .ints .i64 ys], .none, .none, .none, .none, .none, .none, .none, .none])),((.agg #[.int .i64 k, .int .i64 a, .int .i64 c, .int .i64 e, .int .i64 u, .int .i64 v]),(.none))] [.i t, .i p, .i h, .li xs, .li ys, .i s0, .i s1, .i s2, .i s3, .i s4, .i s5, .i s6, .i s7, .i k, .i a, .i c, .i e, .i u, .i v] (by kernel_rfl) _ (by kernel_rfl) (by kernel_rfl) (by kernel_rfl) ?_ ?_ hS
 ·intro p_ hp_
  have hp_:p_∈[(Ac t p h=true:Prop),(xs.length=ys.length:Prop),(¬DU t p h xs ys [s0,s1,s2,s3,s4,s5,s6,s7]:Prop)]:=hp_
  simp only [iG,jF,or_false] at hp_
  rcases hp_ with rfl|rfl|rfl
  ·exact hp0
  ·exact hp1
  ·exact hp2
 ·intro x hx
  simp only [iG,jF,or_false] at hx
  rcases hx with rfl|rfl|rfl
  ·first|(simp only [EC,Ee,and_true,true_and];done)|(simp only [EC,Ee,and_true,true_and];exact ⟨_,_,rfl,trivial⟩)|simp [EC,Ee]
  ·first|(simp only [EC,Ee,and_true,true_and];done)|(simp only [EC,Ee,and_true,true_and];exact ⟨_,_,rfl,hr0.1,hr0.2, λh=>by cases h⟩)|simp [EC,Ee]
  ·first|(simp only [EC,Ee,and_true,true_and];done)|(simp only [EC,Ee,and_true,true_and];exact ⟨_,_,rfl,trivial⟩)|simp [EC,Ee]
end
section
open Go.Sl
def ApS:Tb:=(6,AdP)::(7,Z9)::SC
theorem AiJ:D7 ApS:=Ea Ai6 (Ea Afh ND)
def ApT (t p h:Int) (xs ys:LI) (s0 s1 s2 s3 s4 s5 s6 s7:Int):Unit:=()
abbrev AqP:Ct Sg:=⟨none,false,[.agg [.i .i64, .i .i64, .i .i64], .agg [.ro [some .i64,some .i64], .i .i64, .i .i64, .i .i64, .i .i64, .i .i64, .i .i64, .i .i64, .i .i64]], .vc (kA none)⟩
def AkX:Entry Sg:=BU AqP ApT (λt p h xs ys s0 s1 s2 s3 s4 s5 s6 s7=>[Ac t p h=false])
def AkY (t p h:Int) (xs ys:LI) (s0 s1 s2 s3 s4 s5 s6 s7:Int) (R_:Unit→Prop):Prop:=(AV (BZ t p h !=0) (AV (true) (R_ (())) False) (Ap (False) False))
theorem AjY (t p h:Int) (xs ys:LI) (s0 s1 s2 s3 s4 s5 s6 s7:Int) (hp0:Ac t p h=false) (hl0:xs.length≤9223372036854775807):AkY t p h xs ys s0 s1 s2 s3 s4 s5 s6 s7 (λr__=>r__=(ApT t p h xs ys s0 s1 s2 s3 s4 s5 s6 s7)):=by
 unfold AkY
 refine ⟨λ_=>⟨λ_=>rfl, λh=>(by cases h)⟩, λhc=>?_⟩
 rw [AnX hp0] at hc;cases hc
theorem Ap2:DV 8 AkX:=
 Vd Dg AiJ (I:=[16,1026004,1362000]) Try.func8 mix (B:=AP Try.f8) (by kernel_rfl) rfl (by kernel_rfl) 400
  λ_ t p h xs ys s0 s1 s2 s3 s4 s5 s6 s7 hb hp=>⟨_, λ_ _ _=>by kernel_rfl,AjY t p h xs ys s0 s1 s2 s3 s4 s5 s6 s7 (hp _ (.head _)) (hb.2.1.1)⟩
def AkZ:Tb:=(8,AkX)::ApS
theorem Aco:D7 AkZ:=Ea Ap2 AiJ
def ApU (t p h:Int) (xs ys:LI) (s0 s1 s2 s3 s4 s5 s6 s7:Int):Unit:=()
abbrev AqQ:Ct Sg:=⟨none,false,[.agg [.i .i64, .i .i64, .i .i64], .agg [.ro [some .i64,some .i64], .i .i64, .i .i64, .i .i64, .i .i64, .i .i64, .i .i64, .i .i64, .i .i64]], .vc (kA none)⟩
def Ala:Entry Sg:=BU AqQ ApU (λt p h xs ys s0 s1 s2 s3 s4 s5 s6 s7=>[Ac t p h=false])
def Alb (t p h:Int) (xs ys:LI) (s0 s1 s2 s3 s4 s5 s6 s7:Int) (R_:Unit→Prop):Prop:=(AV (!Ac t p h) (AV (true) (R_ (())) False) (Ap (False) False))
theorem AjZ (t p h:Int) (xs ys:LI) (s0 s1 s2 s3 s4 s5 s6 s7:Int) (hp0:Ac t p h=false) (hl0:xs.length≤9223372036854775807):Alb t p h xs ys s0 s1 s2 s3 s4 s5 s6 s7 (λr__=>r__=(ApU t p h xs ys s0 s1 s2 s3 s4 s5 s6 s7)):=by
 unfold Alb
 refine ⟨λ_=>⟨λ_=>rfl, λh=>(by cases h)⟩, λhc=>?_⟩
 rw [hp0] at hc;cases hc
theorem Ap3:DV 9 Ala:=
 Vd Dg Aco (I:=[17,1026002,1362000]) Try.func9 mix (B:=AP Try.f9) (by kernel_rfl) rfl (by kernel_rfl) 400
  λ_ t p h xs ys s0 s1 s2 s3 s4 s5 s6 s7 hb hp=>⟨_, λ_ _ _=>by kernel_rfl,AjZ t p h xs ys s0 s1 s2 s3 s4 s5 s6 s7 (hp _ (.head _)) (hb.2.1.1)⟩
def AqR:Tb:=(9,Ala)::AkZ
theorem Am3:D7 AqR:=Ea Ap3 Aco
def Acp (t p h:Int) (xs ys:LI) (s0 s1 s2 s3 s4 s5 s6 s7 k a c e u v:Int):Bool:=true
abbrev AiK:Ct Sg:=⟨none,false,[.agg [.i .i64, .i .i64, .i .i64], .agg [.ro [some .i64,some .i64], .i .i64, .i .i64, .i .i64, .i .i64, .i .i64, .i .i64, .i .i64, .i .i64], .agg [.i .i64, .i .i64, .i .i64, .i .i64, .i .i64, .i .i64]], .b⟩
def Ap4:Entry Sg:=BU AiK Acp (λt p h xs ys s0 s1 s2 s3 s4 s5 s6 s7 k a c e u v=>[Ac t p h=false])
abbrev AdX (R_:Bool→Prop):Prop:=(AV (false) (Ap (False) (Ap (False) False)) (AV (true) (Ap (true=true→0=0) (Ap (true=true→0=0) (R_ (true)))) (Ap (False) False)))
def AiL (t p h:Int) (xs ys:LI) (s0 s1 s2 s3 s4 s5 s6 s7 k a c e u v:Int) (R_:Bool→Prop):Prop:=(AV (!Acf xs ys s0 s1 s2 s3 s4 s5 s6 s7) (R_ (true)) (Ap (Ac t p h=false) (Ap (Ac t p h=false) (AV (true) (AV (true) (AV (false) (Ap (False) (Ap (False) False)) (AV (true) (AV (true) (AdX R_) (R_ (false))) (AV (!Hq k a c) (AV (!Bl 1 e u v) (AdX R_) (R_ (false))) (Ap (False) False)))) (R_ (false))) False))))
theorem AiM (t p h:Int) (xs ys:LI) (s0 s1 s2 s3 s4 s5 s6 s7 k a c e u v:Int) (hp0:Ac t p h=false) (hl0:xs.length≤9223372036854775807):AiL t p h xs ys s0 s1 s2 s3 s4 s5 s6 s7 k a c e u v (λr__=>r__=(Acp t p h xs ys s0 s1 s2 s3 s4 s5 s6 s7 k a c e u v)):=by
 unfold AiL AdX
 exact ⟨λ_=>rfl, λ_=>⟨hp0, λ_=>⟨hp0, λ_=>⟨λ_=>⟨λ_=>⟨λh=>(by cases h), λ_=>⟨λ_=>⟨λ_=>⟨λh=>(by cases h), λ_=>⟨λ_=>⟨λ_=>rfl, λ_=>⟨λ_=>rfl, λ_=>rfl⟩⟩, λh=>(by cases h)⟩⟩, λh=>(by cases h)⟩, λh=>(by cases h)⟩⟩, λh=>(by cases h)⟩, λh=>(by cases h)⟩⟩⟩⟩
theorem Aok:DV 3 Ap4:=
 Vd Dg Am3 (I:=[10,12,26,1426000]) Try.func3 mix (B:=AP Try.f3) (by kernel_rfl) rfl (by kernel_rfl) 400
  λ_ t p h xs ys s0 s1 s2 s3 s4 s5 s6 s7 k a c e u v hb hp=>⟨_, λ_ _ _=>by kernel_rfl,AiM t p h xs ys s0 s1 s2 s3 s4 s5 s6 s7 k a c e u v (hp _ (.head _)) (hb.2.1.1)⟩
theorem AiN (t p h:Int) (xs ys:LI) (s0 s1 s2 s3 s4 s5 s6 s7 k a c e u v:Int) (a_0:Option Addr) (c_0:Nat) {E_:Ev} {G_:Hp} {w_:World} (hr0:Ef G_ a_0 xs.length [.ints .i64 xs, .ints .i64 ys]∧xs.length≤c_0) (hp0:Ac t p h=false) (hS:Sat E_ G_ w_ []):Calls Try.prog 3 #[(.agg #[.int .i64 t, .int .i64 p, .int .i64 h]),(.agg #[.slice a_0 xs.length c_0, .int .i64 s0, .int .i64 s1, .int .i64 s2, .int .i64 s3, .int .i64 s4, .int .i64 s5, .int .i64 s6, .int .i64 s7]),(.agg #[.int .i64 k, .int .i64 a, .int .i64 c, .int .i64 e, .int .i64 u, .int .i64 v])] w_ (λen w'=>en= .returned (.bool (Acp t p h xs ys s0 s1 s2 s3 s4 s5 s6 s7 k a c e u v))∧Sat E_ G_ w' []):=by
 refine AgN Dg (c:=AiK) (F:=Acp) (pre:= λt p h xs ys s0 s1 s2 s3 s4 s5 s6 s7 k a c e u v=>[Ac t p h=false]) Aok [((.agg #[.int .i64 t, .int .i64 p, .int .i64 h]),(.none)),((.agg #[.slice a_0 xs.length c_0, .int .i64 s0, .int .i64 s1, .int .i64 s2, .int .i64 s3, .int .i64 s4, .int .i64 s5, .int .i64 s6, .int .i64 s7]),(.many [.row xs.length [.ints .i64 xs, .ints .i64 ys], .none, .none, .none, .none, .none, .none, .none, .none])),((.agg #[.int .i64 k, .int .i64 a, .int .i64 c, .int .i64 e, .int .i64 u, .int .i64 v]),(.none))] [.i t, .i p, .i h, .li xs, .li ys, .i s0, .i s1, .i s2, .i s3, .i s4, .i s5, .i s6, .i s7, .i k, .i a, .i c, .i e, .i u, .i v] (by kernel_rfl) _ (by kernel_rfl) (by kernel_rfl) (by kernel_rfl) ?_ ?_ hS
 ·intro p_ hp_
  have hp_:p_∈[(Ac t p h=false:Prop)]:=hp_
  simp only [iG,jF,or_false] at hp_
  rcases hp_ with rfl
  ·exact hp0
 ·intro x hx
  simp only [iG,jF,or_false] at hx
  rcases hx with rfl|rfl|rfl
  ·first|(simp only [EC,Ee,and_true,true_and];done)|(simp only [EC,Ee,and_true,true_and];exact ⟨_,_,rfl,trivial⟩)|simp [EC,Ee]
  ·first|(simp only [EC,Ee,and_true,true_and];done)|(simp only [EC,Ee,and_true,true_and];exact ⟨_,_,rfl,hr0.1,hr0.2, λh=>by cases h⟩)|simp [EC,Ee]
  ·first|(simp only [EC,Ee,and_true,true_and];done)|(simp only [EC,Ee,and_true,true_and];exact ⟨_,_,rfl,trivial⟩)|simp [EC,Ee]
end
section
open Go Go.Sl
def ModelAllows (_t _p _h:Int) (_xs _ys:LI) (_s0 _s1 _s2 _s3 _s4 _s5 _s6 _s7 _k _a _c _e _u _v:Int):Bool:=true
theorem WV (t p h:Int) (xs ys:LI) (s0 s1 s2 s3 s4 s5 s6 s7 k a c e u v:Int) (a_0:Option Addr) (c_0:Nat) {E_:Ev} {G_:Hp} {w_:World} (hr0:Ef G_ a_0 xs.length [.ints .i64 xs, .ints .i64 ys]∧xs.length≤c_0) (hS:Sat E_ G_ w_ []):
 Calls Try.prog 3 #[.agg #[.int .i64 t, .int .i64 p, .int .i64 h], .agg #[.slice a_0 xs.length c_0, .int .i64 s0, .int .i64 s1, .int .i64 s2, .int .i64 s3, .int .i64 s4, .int .i64 s5, .int .i64 s6, .int .i64 s7], .agg #[.int .i64 k, .int .i64 a, .int .i64 c, .int .i64 e, .int .i64 u, .int .i64 v]] w_ (λen w'=>en= .returned (.bool (ModelAllows t p h xs ys s0 s1 s2 s3 s4 s5 s6 s7 k a c e u v))∧Sat E_ G_ w' []):=by
 have hl:xs.length=ys.length:=(hr0.1.1 (.ints .i64 ys) (by simp)).symm
 cases hr:Ac t p h with
 |true=>
  by_cases hg:DU t p h xs ys [s0,s1,s2,s3,s4,s5,s6,s7]
  ·exact AjX t p h xs ys s0 s1 s2 s3 s4 s5 s6 s7 k a c e u v a_0 c_0 hr0 hr hl hg hS
  ·exact AiI t p h xs ys s0 s1 s2 s3 s4 s5 s6 s7 k a c e u v a_0 c_0 hr0 hr hl hg hS
 |false=>exact AiN t p h xs ys s0 s1 s2 s3 s4 s5 s6 s7 k a c e u v a_0 c_0 hr0 hr hS
end
end Go.Proofs.Ytdjfnbbmfmjckaa
namespace Go.Sl
section
open Go.RowKit Go.ChangeShapes Go.WideShapes Go.ChangeAt
section
variable {H:Type} {enc:TypeId×Value→H} {P:Program} {w:World} {base:Nat} {sp:Nat→Bool} {held:Bool}
theorem Am4 {fuel:Nat} {cs0:List Value} {x0:DataW H×List MemPlace} {t e:TypeId} (d:Nat) (ht:P.underlying t=some (.slice e)) {sh:List Ko} (hsh:Si P d e=some sh) (hce:P.cellsOf e=sh.length) (hf:DataW.trod enc P w base sp held fuel t cs0=some x0):
 ∃(a:Option Addr) (len cap:Nat) (cols:List Au),cs0=[.slice a len cap]∧Aax len sh cols∧(Ef (λb=>w.heap[b]?) a len cols∧len≤cap):=by
 rcases Go.Deep.open_slice ht hf with ⟨hcs,_⟩|⟨a,len0,cap0,m,n,Dt,Pl,hcs,hb,hl,hm,hmm,_,hx⟩
 ·subst hcs
  obtain ⟨h1,h2⟩:=UU (cs:= λ_=>[]) (n:=0) sh 0 λi hi=>absurd hi (kB _)
  refine ⟨none,0,0,_,rfl,h1,⟨λc hc=>?_, λi hi=>absurd hi (kB _),oE _⟩,jY _⟩
  obtain ⟨k,hk⟩:=kT hc
  exact (h2 k c hk).1
 ·subst hcs
  have hml:len0≤m:=by rw [hmm];split<;>omega
  obtain ⟨cs,hcs⟩:=Go.Deep.choose_lt (α:=List Value) (p:= λi cs'=>w.cells? base (a.add (i*P.cellsOf e)) (P.cellsOf e)=some cs'∧DataW.trod enc P w base sp held n e cs'=some (Dt i,Pl i)) (n:=len0) λi hi=>hx i (by omega)
  have hcells:∀i,i<len0→Hg sh (cs i):= λi hi=>QF d e sh n _ _ hsh (hcs i hi).2
  obtain ⟨h1,h2⟩:=UU (cs:=cs) (n:=len0) sh 0 λi hi k s hk=>by
   obtain ⟨x,hx1,hx2⟩:=Xp (hcells i hi) k s hk
   rw [lD,iC,hx1]
   exact hx2
  refine ⟨some a,len0,cap0,_,rfl,h1,⟨λc hc=>?_, λi hi=>⟨a,rfl, λj c hj=>?_⟩,by omega⟩,by omega⟩
  ·obtain ⟨k,hk⟩:=kT hc
   exact (h2 k c hk).1
  ·obtain ⟨_,hlen,hget⟩:=World.cells?_some (hcs i hi).1
   have hj':j<sh.length:=by
    have:=BD hj
    rwa [Sj] at this
   rw [AgJ,Sj,←hce,←Go.Deep.add_add,hget j (by omega),(h2 j c hj).2 i hi,lD,iC]
   rw [iK (by omega)]
   rfl
theorem Am5 {r:Reach} {b0:Nat} {t tS tR e:TypeId} {v:Value} {dt:DataW H} {ps:List MemPlace} {fs:Array Field} {f0 f1:Field} (d:Nat) (hu:P.underlying t=some (.struct fs)) (hfs:fs= #[f0,f1])
 (o0:f0.offset=0∧f0.type=tS) (o1:f1.offset=1∧f1.type=tR) (hct:P.cellsOf t=9) (hcS:P.cellsOf tS=1) (hcR:P.cellsOf tR=8) (ht:P.underlying tS=some (.slice e)) {sh shR:List Ko} (hsh:Si P d e=some sh) (hce:P.cellsOf e=sh.length) (hR:Si P d tR=some shR)
 (hv:Value.okWide P w r b0 t v) (h:DataW.Trod enc P w base sp held t v dt ps):
 ∃(a:Option Addr) (len cap:Nat) (cols:List Au) (vs:List Value),v= .agg (kY a len cap::vs).toArray∧Aax len sh cols∧(Ef (λb=>w.heap[b]?) a len cols∧len≤cap)∧Hg shR vs:=by
 subst hfs
 unfold Value.okWide at hv
 rw [hu] at hv
 obtain ⟨cs,rfl,_,_⟩:=hv
 obtain ⟨fuel,hf⟩:=h
 have hf:DataW.trod enc P w base sp held fuel t cs.toList=some (dt,ps):=hf
 obtain ⟨xs,n,_,_,hlen,hxl,hg⟩:=DataW.trod_struct hu hf
 have hl9:cs.toList.length=9:=by rw [hlen,hct]
 have hx2:xs.length=2:=by rw [hxl];rfl
 have g0:=hg 0 f0 rfl
 have g1:=hg 1 f1 rfl
 rw [iK (by omega),o0.1,o0.2,hcS] at g0
 rw [iK (by omega),o1.1,o1.2,hcR] at g1
 obtain ⟨a,len,cap,cols,k1,k2,k3⟩:=Am4 d ht hsh hce g0
 have k4:=QF d tR shR n _ _ hR g1
 refine ⟨a,len,cap,cols,cs.toList.drop 1,?_,k2,k3,?_⟩
 ·congr 1
  apply Array.toList_inj.1
  generalize cs.toList=l at*
  match l,hl9 with
  |b::l',_=>
   simp only [mN,List.take_succ_cons,List.take_zero,jZ,and_true] at k1
   rw [k1];rfl
 ·rw [List.take_of_length_le (by rw [List.length_drop,hl9];decide)] at k4
  exact k4
end
end
end Go.Sl
namespace Go.Proofs.Ytdjfnbbmfmjckaa
section
open Go.ChangeShapes Go.WideShapes Go.ChangeAt Go.RowKit Go.Joins Go.Sl
theorem Acr:ownKnob Try.prog.godebug=none:=by kernel_rfl
theorem U8:laidOutB Try.prog=true:=by kernel_rfl
set_option maxRecDepth 100000 in
theorem Wn (os:Os) (started:os.Started) (H:Type) (enc:TypeId×Value→H):
 ReturnsInHanded {} Try.checked os 3 .any (Rows.modelAllowsSpec.pre6 enc Try.prog Try.f3 Rows.modelAllowsRow.domain false) (Rows.modelAllowsSpec.post enc Try.prog Try.f3 false true false false):=by
 refine returnsInHanded_of_change (C:=Try.checked) Acr started (by kernel_rfl) Try.func3
  (ChangeSpec.witness6 (enc:=enc) (C:=Try.checked) false ⟨#[], #[.agg #[.int .i64 0, .int .i64 0, .int .i64 0], .agg #[.slice none 0 0, .int .i64 0, .int .i64 0, .int .i64 0, .int .i64 0, .int .i64 0, .int .i64 0, .int .i64 0, .int .i64 0], .agg #[.int .i64 0, .int .i64 0, .int .i64 0, .int .i64 0, .int .i64 0, .int .i64 0]],[]⟩ 8 (by kernel_rfl) (by kernel_rfl) (by kernel_rfl) (by kernel_rfl)) ?_
 intro W base args ds gs before hval0 hW _ _
 have hval:∀(j:Nat) t v,Try.f3.params[j]? =some t→args[j]? =some v→Value.okWide Try.prog W .any base t v:=hval0
 have hW':=hW
 obtain ⟨p,q,hA0,_,_,_,_⟩:=hW
 have hA:DataW.TrodAll enc Try.prog W 0 (λ_=>true) true Try.f3.params.toList args.toList ds p:=hA0
 rw [Try.params3] at hA hval
 obtain ⟨v0,v1,v2,d0,d1,d2,p0,p1,p2,rfl,rfl,_,h0,h1,h2⟩:=trodAll_three hA
 obtain ⟨k0,rfl,hk0⟩:=Aep 8 (by kernel_rfl) (sh:=[.int .i64, .int .i64, .int .i64]) (by kernel_rfl) (hval 0 23 v0 rfl rfl) h0
 obtain ⟨_,r0_0,rfl,⟨a0_0,rfl,wa0_0⟩,hk0⟩:=hk0
 have ba0_0:=Lt wa0_0
 obtain ⟨_,r0_1,rfl,⟨a0_1,rfl,wa0_1⟩,hk0⟩:=hk0
 have ba0_1:=Lt wa0_1
 obtain ⟨_,r0_2,rfl,⟨a0_2,rfl,wa0_2⟩,hk0⟩:=hk0
 have ba0_2:=Lt wa0_2
 obtain rfl:=hk0
 obtain ⟨s1,n1,c1,k1,vs1,rfl,hk1,hr1,hq1⟩:=Am5 8 Try.underlying27 rfl ⟨rfl,rfl⟩ ⟨rfl,rfl⟩ (by kernel_rfl) (by kernel_rfl) (by kernel_rfl) Try.underlying24 (sh:=[.int .i64, .int .i64]) (shR:=[.int .i64, .int .i64, .int .i64, .int .i64, .int .i64, .int .i64, .int .i64, .int .i64]) (by kernel_rfl) (by kernel_rfl) (by kernel_rfl) (hval 1 27 v1 rfl rfl) h1
 obtain ⟨_,r1_0,rfl,⟨x1_0,rfl,hl1_0,hw1_0⟩,hk1⟩:=hk1
 obtain ⟨_,r1_1,rfl,⟨x1_1,rfl,hl1_1,hw1_1⟩,hk1⟩:=hk1
 obtain rfl:=hk1
 subst hl1_0
 obtain ⟨_,q1_0,rfl,⟨a1_0,rfl,wa1_0⟩,hq1⟩:=hq1
 obtain ⟨_,q1_1,rfl,⟨a1_1,rfl,wa1_1⟩,hq1⟩:=hq1
 obtain ⟨_,q1_2,rfl,⟨a1_2,rfl,wa1_2⟩,hq1⟩:=hq1
 obtain ⟨_,q1_3,rfl,⟨a1_3,rfl,wa1_3⟩,hq1⟩:=hq1
 obtain ⟨_,q1_4,rfl,⟨a1_4,rfl,wa1_4⟩,hq1⟩:=hq1
 obtain ⟨_,q1_5,rfl,⟨a1_5,rfl,wa1_5⟩,hq1⟩:=hq1
 obtain ⟨_,q1_6,rfl,⟨a1_6,rfl,wa1_6⟩,hq1⟩:=hq1
 obtain ⟨_,q1_7,rfl,⟨a1_7,rfl,wa1_7⟩,hq1⟩:=hq1
 obtain rfl:=hq1
 obtain ⟨k2,rfl,hk2⟩:=Aep 8 (by kernel_rfl) (sh:=[.int .i64, .int .i64, .int .i64, .int .i64, .int .i64, .int .i64]) (by kernel_rfl) (hval 2 34 v2 rfl rfl) h2
 obtain ⟨_,r2_0,rfl,⟨a2_0,rfl,wa2_0⟩,hk2⟩:=hk2
 have ba2_0:=Lt wa2_0
 obtain ⟨_,r2_1,rfl,⟨a2_1,rfl,wa2_1⟩,hk2⟩:=hk2
 have ba2_1:=Lt wa2_1
 obtain ⟨_,r2_2,rfl,⟨a2_2,rfl,wa2_2⟩,hk2⟩:=hk2
 have ba2_2:=Lt wa2_2
 obtain ⟨_,r2_3,rfl,⟨a2_3,rfl,wa2_3⟩,hk2⟩:=hk2
 have ba2_3:=Lt wa2_3
 obtain ⟨_,r2_4,rfl,⟨a2_4,rfl,wa2_4⟩,hk2⟩:=hk2
 have ba2_4:=Lt wa2_4
 obtain ⟨_,r2_5,rfl,⟨a2_5,rfl,wa2_5⟩,hk2⟩:=hk2
 have ba2_5:=Lt wa2_5
 obtain rfl:=hk2
 clear hA0 hval0
 refine (WV a0_0 a0_1 a0_2 x1_0 x1_1 a1_0 a1_1 a1_2 a1_3 a1_4 a1_5 a1_6 a1_7 a2_0 a2_1 a2_2 a2_3 a2_4 a2_5 s1 c1 hr1 (Sat.start W)).mono λe W' ⟨he,hS⟩=>?_
 rw [show ModelAllows a0_0 a0_1 a0_2 x1_0 x1_1 a1_0 a1_1 a1_2 a1_3 a1_4 a1_5 a1_6 a1_7 a2_0 a2_1 a2_2 a2_3 a2_4 a2_5=true from rfl] at he
 subst he
 exact ⟨_,rfl,Ao9 4 U8 hW' rfl rfl Try.underlying4 (by kernel_rfl) ⟨rfl,rfl,rfl⟩ hS.below⟩
theorem ModelAllows_holds:Rows.ModelAllowsSaid:=
 OpenClaim.holds_of_wide 3 Try.f3 rfl rfl rfl rfl rfl rfl rfl ⟨rfl,rfl,rfl,rfl,rfl⟩ rfl rfl rfl rfl rfl (by kernel_rfl) Try.func3 (by kernel_rfl)
  (of_decide_eq_true (by kernel_rfl)) (by unfold Func.isWrapper;rw [if_neg (of_decide_eq_false (by kernel_rfl))];exact ⟨rfl,rfl⟩)
  (λos started H enc _=>Wn os started H enc)
#print axioms ModelAllows_holds
end
end Go.Proofs.Ytdjfnbbmfmjckaa
