/-
  Which of every answers, one by one, are applied, and what is held behind each, is as the document says: the law's function answers true for every configuration and list. Conditions: none.
-/
import Derived.Test.YtdjfnbbmfmjckaaJModelRuns4
import Derived.Shelf.SlSortCmp.NoneTotal
import Derived.Test.YtdjfnbbmfmjckaaRows
set_option linter.unusedSimpArgs false
set_option linter.unusedVariables false
open Option.some renaming injEq → iA
open Go.IntKind renaming i64 → iB, wrap → iS
open List renaming getD_eq_getElem?_getD → iC, map_cons → iD, mem_cons → iF, getElem?_append_left → iH, getElem?_append_right → iI, getElem?_eq_getElem → iK, getElem?_map → iL, getD → iM, length → iN, getElem?_set_self → iT, getElem?_set_ne → iW, map_append → jD, getElem?_eq_none → jE, not_mem_nil → jF, length_cons → jI, range' → jJ, length_append → jK, all_eq_true → jN, range → jQ, mem_singleton → jR, map_set → jU, cons_append → jY, map_nil → kB, length_map → kC, mem_map → kK, getElem?_cons_succ → kL, mem_range → kS, append_nil → kX, ext_getElem? → kZ, nodup_cons → lD, any_eq_true → lF, zip → lH, nodup_nil → lJ, findIdx?_eq_some_iff_getElem → lN, mem_append → lR, mem_filter → lZ, length_nil → mA, zip_cons_cons → mI, eraseIdx_sublist → mL, findIdx?_eq_none_iff → mN, mem_append_left → mS, map → mT, eq_nil_of_length_eq_zero → nD, nil_append → nH, getElem_mem → nT, getElem?_eq_some_iff → nV
open Nat renaming eq_of_beq_eq_true → iE, beq → iJ, le_of_ble_eq_true → iP, lt_or_ge → jB, ble → jT, le_refl → kA, mul_le_mul_right → kE, zero_add → lG, le_trans → lO, mod_lt → lY, sub_self → nE, zero_le → oE
open Bool renaming and_eq_true → iG, not_true → jW, false_or → jX, or_eq_false_iff → kF, true_or → kQ, not_eq_true' → kW, or_eq_true → lS, not_false → lX, eq_iff_iff → mP, true_and → oA
open Prod.mk renaming injEq → iO
open Option renaming map_some → iR, map → mG
open Go.Value renaming int → iX, pointer → kH, slice → lA, map → lB, func → lU, tuple → oO
open Array renaming getElem?_eq_getElem → jM, getElem?_toList → mM, toList_append → nY
open Go.Sl.Chunk renaming cells → jG, obj → kP, bm → kV, row → kY, dead → oN
open Int renaming toNat → jL
open List.cons renaming injEq → jV
open Go.Sl.Pr renaming no → kG, pt → lE
open Prod renaming fst → kJ, snd → mF
open List.Mem renaming tail → lW, head → nI
open Go.Sl.PK renaming map → mO, cell → nU, slice → oI
open List.Perm renaming refl → oH
namespace Go.Proofs.Ytdjfnbbmfmjckaa
section
open Go.Sl
def Ko (s:RS) (f g i:Int):RS:=⟨s.t,s.p,s.h,s.a,s.z,DX s.r0 f g i 0,DX s.r1 f g i 1,DX s.r2 f g i 2,DX s.r3 f g i 3,DX s.r4 f g i 4,DX s.r5 f g i 5,DX s.r6 f g i 6,DX s.r7 f g i 7⟩
def Ef (s:RS) (i x:Int):RS:=⟨s.t,s.p,s.h,s.a,s.z,(bif i==0 then x else s.r0),(bif i==1 then x else s.r1),(bif i==2 then x else s.r2),(bif i==3 then x else s.r3),(bif i==4 then x else s.r4),(bif i==5 then x else s.r5),(bif i==6 then x else s.r6),(bif i==7 then x else s.r7)⟩
def GM (s:RS) (k a c u v:Int):RS:=bif k==1 then DI s u v else bif k==2 then Dz s (CY s.a a) else bif k==3 then Ko (DI (Dz s (CY s.a a)) u v) a u 8 else bif k==4 then Ef (DI s u (BR s.t s.p s.h c).1) a u else bif k==5 then Ef s a c else s
theorem Ama {s:RS} {k:Int} (h:s.a.length≤1000):(Dz s k).a.length≤1000:=lO (List.length_eraseIdx_le _ _) h
theorem alR {s:RS} {k a c u v:Int} (h:Bc s k a c 0 u v=true):Dk k a c=true∧gR s k a=false∧Ny s k a c 0 u v=true:=by
 unfold Bc at h
 cases hr:Dk k a c with
 |false=>rw [hr] at h;cases h
 |true=>
  cases hg:gR s k a with
  |true=>rw [hr,hg] at h;cases h
  |false=>rw [hr,hg] at h;exact ⟨rfl,rfl,h⟩
theorem alN {s:RS} {k a c u v:Int} (h:Bc s k a c 0 u v=true) (hk:(k==2||k==3||k==7)=true):0≤CY s.a a:=Adf (alR h).2.1 hk
theorem Aeo {s:RS} {k a c u v:Int} (h:Dj s k a c 0 u v=true):0≤a∧a<8:=by
 unfold Dj at h
 cases hb:decide (a<0)||decide (a>7) with
 |true=>rw [hb] at h;cases h
 |false=>simp only [kF,decide_eq_false_iff_not] at hb;omega
theorem AqE {s:RS} {a c u v:Int} (h:Bc s 4 a c 0 u v=true):0≤a∧a<8:=Aeo (alR h).2.2
theorem AqF {s:RS} {a c u v:Int} (h:Bc s 5 a c 0 u v=true):0≤a∧a<8:=Aeo (alR h).2.2
def Ac (s:RS) (k a c e u v:Int):RS×Bool:=bif !Bc s k a c e u v then (s,false) else bif e !=0 then (s,true) else (GM s k a c u v,true)
abbrev Kq:Ct Sg:=⟨some D7,false,[.agg [.i .i64, .i .i64, .i .i64], .agg [.i .i64, .i .i64, .i .i64]], .b⟩
def Aep:Entry Sg:=CP Kq (λ(s:RS) (k:Int) (a:Int) (c:Int) (e:Int) (u:Int) (v:Int)=>bif !Bc s k a c e u v then (s,false) else bif e !=0 then (s,true) else (GM s k a c u v,true)) (λs k a c e u v=>[s.a.length≤1000])
def Aeq (s:RS) (k a c e u v:Int) (Q0:RS→Prop) (Q1:Int→Int→Int→Nat→LI→LI→Int→Int→Int→Int→Int→Int→Int→Int→Prop) (Q2:Int→Int→Int→Nat→LI→LI→Int→Int→Int→Int→Int→Int→Int→Int→Int→Prop) (Q3:Int→Prop) (Q4:Int→Int→Int→Nat→LI→LI→Int→Int→Int→Int→Int→Int→Int→Int→Int→Prop) (Q5:Int→Int→Int→Nat→LI→LI→Int→Int→Int→Int→Int→Int→Int→Int→Int→Prop) (Q6:Int→Prop) (Q7:RS→Int→Prop) (Q8:Int→Int→Int→Nat→LI→LI→Int→Int→Int→Int→Int→Int→Int→Int→Int→Prop) (Q9:Int→Prop) (Q10:Int→Int→Int→Nat→LI→LI→Int→Int→Int→Int→Int→Int→Int→Int→Int→Prop) (R_:RS×Bool→Prop) (O_:Int→Int→Int→Nat→LI→LI→Int→Int→Int→Int→Int→Int→Int→Int→Bool→Prop):Prop:=(∀r2:Bool,r2=(bif !Dk k a c then BM 1 e u v else bif gR s k a then BM 4 e u v else Ny s k a c e u v)→(Ba (iN (RS.a s)≤1000) (BH (!r2) (R_ ((s,false))) (BH (e !=0) (R_ ((s,true))) (∀r6:Int,r6=(CY (RS.a s) a)→(Ba (iN (RS.a s)≤1000) (BH (k==1) (∀r9:RS,r9=(DI s u v)→(Ba (iN (RS.a s)≤1000) (R_ ((r9,true))))) (BH (k==2) (∀r10:RS,r10=(Dz s r6)→(Ba (iN (RS.a s)≤1000) (Ba (0≤r6) (R_ ((r10,true)))))) (BH (k==3) (∀r11:RS,r11=(Dz s r6)→(Ba (iN (RS.a s)≤1000) (Ba (0≤r6) (∀r14:RS,r14=(DI r11 u v)→(Ba (iN (RS.a r11)≤1000) (Q0 (r14))))))) (BH (k==4) (Q3 (k)) (BH (k==5) (Q9 (a)) (R_ ((s,true))))))))))))))
def Abq (s:RS) (k a c e u v:Int) (q_:RS) (t_ p_ h_:Int) (n_:Nat) (al_ zl_:LI) (x0_ x1_ x2_ x3_ x4_ x5_ x6_ x7_:Int) (Q1:Int→Int→Int→Nat→LI→LI→Int→Int→Int→Int→Int→Int→Int→Int→Prop):Prop:=(Q1 (t_) (p_) (h_) (n_) (al_) (zl_) (x0_) (x1_) (x2_) (x3_) (x4_) (x5_) (x6_) (x7_))
def AB (s:RS) (k a c e u v:Int) (q_:RS):Prop:=q_=(DI (Dz s (CY s.a a)) u v)∧k=3∧Bc s k a c e u v=true∧e=0
def Abr (s:RS) (k a c e u v t_ p_ h_:Int) (n_:Nat) (a_ z_:LI) (r0_ r1_ r2_ r3_ r4_ r5_ r6_ r7_:Int) (Q0:RS→Prop) (Q1:Int→Int→Int→Nat→LI→LI→Int→Int→Int→Int→Int→Int→Int→Int→Prop) (Q2:Int→Int→Int→Nat→LI→LI→Int→Int→Int→Int→Int→Int→Int→Int→Int→Prop) (Q3:Int→Prop) (Q4:Int→Int→Int→Nat→LI→LI→Int→Int→Int→Int→Int→Int→Int→Int→Int→Prop) (Q5:Int→Int→Int→Nat→LI→LI→Int→Int→Int→Int→Int→Int→Int→Int→Int→Prop) (Q6:Int→Prop) (Q7:RS→Int→Prop) (Q8:Int→Int→Int→Nat→LI→LI→Int→Int→Int→Int→Int→Int→Int→Int→Int→Prop) (Q9:Int→Prop) (Q10:Int→Int→Int→Nat→LI→LI→Int→Int→Int→Int→Int→Int→Int→Int→Int→Prop) (R_:RS×Bool→Prop) (O_:Int→Int→Int→Nat→LI→LI→Int→Int→Int→Int→Int→Int→Int→Int→Bool→Prop):Prop:=(Q2 (t_) (p_) (h_) (n_) (a_) (z_) (r0_) (r1_) (r2_) (r3_) (r4_) (r5_) (r6_) (r7_) (0))
def A7 (s:RS) (k a c e u v t_ p_ h_:Int) (n_:Nat) (a_ z_:LI) (r0_ r1_ r2_ r3_ r4_ r5_ r6_ r7_:Int):Prop:=BI ⟨t_,p_,h_,n_,a_,z_,r0_,r1_,r2_,r3_,r4_,r5_,r6_,r7_⟩ (DI (Dz s (CY s.a a)) u v)∧k=3∧Bc s k a c e u v=true∧e=0
def Vm (s:RS) (k a c e u v t_ p_ h_:Int) (n_:Nat) (a_ z_:LI) (r0_ r1_ r2_ r3_ r4_ r5_ r6_ r7_:Int) (Q0:RS→Prop) (Q1:Int→Int→Int→Nat→LI→LI→Int→Int→Int→Int→Int→Int→Int→Int→Prop) (Q2:Int→Int→Int→Nat→LI→LI→Int→Int→Int→Int→Int→Int→Int→Int→Int→Prop) (Q3:Int→Prop) (Q4:Int→Int→Int→Nat→LI→LI→Int→Int→Int→Int→Int→Int→Int→Int→Int→Prop) (Q5:Int→Int→Int→Nat→LI→LI→Int→Int→Int→Int→Int→Int→Int→Int→Int→Prop) (Q6:Int→Prop) (Q7:RS→Int→Prop) (Q8:Int→Int→Int→Nat→LI→LI→Int→Int→Int→Int→Int→Int→Int→Int→Int→Prop) (Q9:Int→Prop) (Q10:Int→Int→Int→Nat→LI→LI→Int→Int→Int→Int→Int→Int→Int→Int→Int→Prop) (R_:RS×Bool→Prop) (O_:Int→Int→Int→Nat→LI→LI→Int→Int→Int→Int→Int→Int→Int→Int→Bool→Prop):Prop:=(BH (true) (Ba ((0:Int)≤0∧(0:Int)<8) (BH (r0_==a) (Ba ((0:Int)≤0∧(0:Int)<8) (Q2 (t_) (p_) (h_) (n_) (a_) (z_) (u) (r1_) (r2_) (r3_) (r4_) (r5_) (r6_) (r7_) (1))) (Q2 (t_) (p_) (h_) (n_) (a_) (z_) (r0_) (r1_) (r2_) (r3_) (r4_) (r5_) (r6_) (r7_) (1)))) (O_ (t_) (p_) (h_) (n_) (a_) (z_) (r0_) (r1_) (r2_) (r3_) (r4_) (r5_) (r6_) (r7_) (true)))
def Vo (s:RS) (k a c e u v t_ p_ h_:Int) (n_:Nat) (a_ z_:LI) (r0_ r1_ r2_ r3_ r4_ r5_ r6_ r7_:Int) (Q0:RS→Prop) (Q1:Int→Int→Int→Nat→LI→LI→Int→Int→Int→Int→Int→Int→Int→Int→Prop) (Q2:Int→Int→Int→Nat→LI→LI→Int→Int→Int→Int→Int→Int→Int→Int→Int→Prop) (Q3:Int→Prop) (Q4:Int→Int→Int→Nat→LI→LI→Int→Int→Int→Int→Int→Int→Int→Int→Int→Prop) (Q5:Int→Int→Int→Nat→LI→LI→Int→Int→Int→Int→Int→Int→Int→Int→Int→Prop) (Q6:Int→Prop) (Q7:RS→Int→Prop) (Q8:Int→Int→Int→Nat→LI→LI→Int→Int→Int→Int→Int→Int→Int→Int→Int→Prop) (Q9:Int→Prop) (Q10:Int→Int→Int→Nat→LI→LI→Int→Int→Int→Int→Int→Int→Int→Int→Int→Prop) (R_:RS×Bool→Prop) (O_:Int→Int→Int→Nat→LI→LI→Int→Int→Int→Int→Int→Int→Int→Int→Bool→Prop):Prop:=(BH (true) (Ba ((0:Int)≤1∧(1:Int)<8) (BH (r1_==a) (Ba ((0:Int)≤1∧(1:Int)<8) (Q2 (t_) (p_) (h_) (n_) (a_) (z_) (r0_) (u) (r2_) (r3_) (r4_) (r5_) (r6_) (r7_) (2))) (Q2 (t_) (p_) (h_) (n_) (a_) (z_) (r0_) (r1_) (r2_) (r3_) (r4_) (r5_) (r6_) (r7_) (2)))) (O_ (t_) (p_) (h_) (n_) (a_) (z_) (r0_) (r1_) (r2_) (r3_) (r4_) (r5_) (r6_) (r7_) (true)))
def Vp (s:RS) (k a c e u v t_ p_ h_:Int) (n_:Nat) (a_ z_:LI) (r0_ r1_ r2_ r3_ r4_ r5_ r6_ r7_:Int) (Q0:RS→Prop) (Q1:Int→Int→Int→Nat→LI→LI→Int→Int→Int→Int→Int→Int→Int→Int→Prop) (Q2:Int→Int→Int→Nat→LI→LI→Int→Int→Int→Int→Int→Int→Int→Int→Int→Prop) (Q3:Int→Prop) (Q4:Int→Int→Int→Nat→LI→LI→Int→Int→Int→Int→Int→Int→Int→Int→Int→Prop) (Q5:Int→Int→Int→Nat→LI→LI→Int→Int→Int→Int→Int→Int→Int→Int→Int→Prop) (Q6:Int→Prop) (Q7:RS→Int→Prop) (Q8:Int→Int→Int→Nat→LI→LI→Int→Int→Int→Int→Int→Int→Int→Int→Int→Prop) (Q9:Int→Prop) (Q10:Int→Int→Int→Nat→LI→LI→Int→Int→Int→Int→Int→Int→Int→Int→Int→Prop) (R_:RS×Bool→Prop) (O_:Int→Int→Int→Nat→LI→LI→Int→Int→Int→Int→Int→Int→Int→Int→Bool→Prop):Prop:=(BH (true) (Ba ((0:Int)≤2∧(2:Int)<8) (BH (r2_==a) (Ba ((0:Int)≤2∧(2:Int)<8) (Q2 (t_) (p_) (h_) (n_) (a_) (z_) (r0_) (r1_) (u) (r3_) (r4_) (r5_) (r6_) (r7_) (3))) (Q2 (t_) (p_) (h_) (n_) (a_) (z_) (r0_) (r1_) (r2_) (r3_) (r4_) (r5_) (r6_) (r7_) (3)))) (O_ (t_) (p_) (h_) (n_) (a_) (z_) (r0_) (r1_) (r2_) (r3_) (r4_) (r5_) (r6_) (r7_) (true)))
def Vq (s:RS) (k a c e u v t_ p_ h_:Int) (n_:Nat) (a_ z_:LI) (r0_ r1_ r2_ r3_ r4_ r5_ r6_ r7_:Int) (Q0:RS→Prop) (Q1:Int→Int→Int→Nat→LI→LI→Int→Int→Int→Int→Int→Int→Int→Int→Prop) (Q2:Int→Int→Int→Nat→LI→LI→Int→Int→Int→Int→Int→Int→Int→Int→Int→Prop) (Q3:Int→Prop) (Q4:Int→Int→Int→Nat→LI→LI→Int→Int→Int→Int→Int→Int→Int→Int→Int→Prop) (Q5:Int→Int→Int→Nat→LI→LI→Int→Int→Int→Int→Int→Int→Int→Int→Int→Prop) (Q6:Int→Prop) (Q7:RS→Int→Prop) (Q8:Int→Int→Int→Nat→LI→LI→Int→Int→Int→Int→Int→Int→Int→Int→Int→Prop) (Q9:Int→Prop) (Q10:Int→Int→Int→Nat→LI→LI→Int→Int→Int→Int→Int→Int→Int→Int→Int→Prop) (R_:RS×Bool→Prop) (O_:Int→Int→Int→Nat→LI→LI→Int→Int→Int→Int→Int→Int→Int→Int→Bool→Prop):Prop:=(BH (true) (Ba ((0:Int)≤3∧(3:Int)<8) (BH (r3_==a) (Ba ((0:Int)≤3∧(3:Int)<8) (Q2 (t_) (p_) (h_) (n_) (a_) (z_) (r0_) (r1_) (r2_) (u) (r4_) (r5_) (r6_) (r7_) (4))) (Q2 (t_) (p_) (h_) (n_) (a_) (z_) (r0_) (r1_) (r2_) (r3_) (r4_) (r5_) (r6_) (r7_) (4)))) (O_ (t_) (p_) (h_) (n_) (a_) (z_) (r0_) (r1_) (r2_) (r3_) (r4_) (r5_) (r6_) (r7_) (true)))
def Vr (s:RS) (k a c e u v t_ p_ h_:Int) (n_:Nat) (a_ z_:LI) (r0_ r1_ r2_ r3_ r4_ r5_ r6_ r7_:Int) (Q0:RS→Prop) (Q1:Int→Int→Int→Nat→LI→LI→Int→Int→Int→Int→Int→Int→Int→Int→Prop) (Q2:Int→Int→Int→Nat→LI→LI→Int→Int→Int→Int→Int→Int→Int→Int→Int→Prop) (Q3:Int→Prop) (Q4:Int→Int→Int→Nat→LI→LI→Int→Int→Int→Int→Int→Int→Int→Int→Int→Prop) (Q5:Int→Int→Int→Nat→LI→LI→Int→Int→Int→Int→Int→Int→Int→Int→Int→Prop) (Q6:Int→Prop) (Q7:RS→Int→Prop) (Q8:Int→Int→Int→Nat→LI→LI→Int→Int→Int→Int→Int→Int→Int→Int→Int→Prop) (Q9:Int→Prop) (Q10:Int→Int→Int→Nat→LI→LI→Int→Int→Int→Int→Int→Int→Int→Int→Int→Prop) (R_:RS×Bool→Prop) (O_:Int→Int→Int→Nat→LI→LI→Int→Int→Int→Int→Int→Int→Int→Int→Bool→Prop):Prop:=(BH (true) (Ba ((0:Int)≤4∧(4:Int)<8) (BH (r4_==a) (Ba ((0:Int)≤4∧(4:Int)<8) (Q2 (t_) (p_) (h_) (n_) (a_) (z_) (r0_) (r1_) (r2_) (r3_) (u) (r5_) (r6_) (r7_) (5))) (Q2 (t_) (p_) (h_) (n_) (a_) (z_) (r0_) (r1_) (r2_) (r3_) (r4_) (r5_) (r6_) (r7_) (5)))) (O_ (t_) (p_) (h_) (n_) (a_) (z_) (r0_) (r1_) (r2_) (r3_) (r4_) (r5_) (r6_) (r7_) (true)))
def Vs (s:RS) (k a c e u v t_ p_ h_:Int) (n_:Nat) (a_ z_:LI) (r0_ r1_ r2_ r3_ r4_ r5_ r6_ r7_:Int) (Q0:RS→Prop) (Q1:Int→Int→Int→Nat→LI→LI→Int→Int→Int→Int→Int→Int→Int→Int→Prop) (Q2:Int→Int→Int→Nat→LI→LI→Int→Int→Int→Int→Int→Int→Int→Int→Int→Prop) (Q3:Int→Prop) (Q4:Int→Int→Int→Nat→LI→LI→Int→Int→Int→Int→Int→Int→Int→Int→Int→Prop) (Q5:Int→Int→Int→Nat→LI→LI→Int→Int→Int→Int→Int→Int→Int→Int→Int→Prop) (Q6:Int→Prop) (Q7:RS→Int→Prop) (Q8:Int→Int→Int→Nat→LI→LI→Int→Int→Int→Int→Int→Int→Int→Int→Int→Prop) (Q9:Int→Prop) (Q10:Int→Int→Int→Nat→LI→LI→Int→Int→Int→Int→Int→Int→Int→Int→Int→Prop) (R_:RS×Bool→Prop) (O_:Int→Int→Int→Nat→LI→LI→Int→Int→Int→Int→Int→Int→Int→Int→Bool→Prop):Prop:=(BH (true) (Ba ((0:Int)≤5∧(5:Int)<8) (BH (r5_==a) (Ba ((0:Int)≤5∧(5:Int)<8) (Q2 (t_) (p_) (h_) (n_) (a_) (z_) (r0_) (r1_) (r2_) (r3_) (r4_) (u) (r6_) (r7_) (6))) (Q2 (t_) (p_) (h_) (n_) (a_) (z_) (r0_) (r1_) (r2_) (r3_) (r4_) (r5_) (r6_) (r7_) (6)))) (O_ (t_) (p_) (h_) (n_) (a_) (z_) (r0_) (r1_) (r2_) (r3_) (r4_) (r5_) (r6_) (r7_) (true)))
def Vt (s:RS) (k a c e u v t_ p_ h_:Int) (n_:Nat) (a_ z_:LI) (r0_ r1_ r2_ r3_ r4_ r5_ r6_ r7_:Int) (Q0:RS→Prop) (Q1:Int→Int→Int→Nat→LI→LI→Int→Int→Int→Int→Int→Int→Int→Int→Prop) (Q2:Int→Int→Int→Nat→LI→LI→Int→Int→Int→Int→Int→Int→Int→Int→Int→Prop) (Q3:Int→Prop) (Q4:Int→Int→Int→Nat→LI→LI→Int→Int→Int→Int→Int→Int→Int→Int→Int→Prop) (Q5:Int→Int→Int→Nat→LI→LI→Int→Int→Int→Int→Int→Int→Int→Int→Int→Prop) (Q6:Int→Prop) (Q7:RS→Int→Prop) (Q8:Int→Int→Int→Nat→LI→LI→Int→Int→Int→Int→Int→Int→Int→Int→Int→Prop) (Q9:Int→Prop) (Q10:Int→Int→Int→Nat→LI→LI→Int→Int→Int→Int→Int→Int→Int→Int→Int→Prop) (R_:RS×Bool→Prop) (O_:Int→Int→Int→Nat→LI→LI→Int→Int→Int→Int→Int→Int→Int→Int→Bool→Prop):Prop:=(BH (true) (Ba ((0:Int)≤6∧(6:Int)<8) (BH (r6_==a) (Ba ((0:Int)≤6∧(6:Int)<8) (Q2 (t_) (p_) (h_) (n_) (a_) (z_) (r0_) (r1_) (r2_) (r3_) (r4_) (r5_) (u) (r7_) (7))) (Q2 (t_) (p_) (h_) (n_) (a_) (z_) (r0_) (r1_) (r2_) (r3_) (r4_) (r5_) (r6_) (r7_) (7)))) (O_ (t_) (p_) (h_) (n_) (a_) (z_) (r0_) (r1_) (r2_) (r3_) (r4_) (r5_) (r6_) (r7_) (true)))
def Vu (s:RS) (k a c e u v t_ p_ h_:Int) (n_:Nat) (a_ z_:LI) (r0_ r1_ r2_ r3_ r4_ r5_ r6_ r7_:Int) (Q0:RS→Prop) (Q1:Int→Int→Int→Nat→LI→LI→Int→Int→Int→Int→Int→Int→Int→Int→Prop) (Q2:Int→Int→Int→Nat→LI→LI→Int→Int→Int→Int→Int→Int→Int→Int→Int→Prop) (Q3:Int→Prop) (Q4:Int→Int→Int→Nat→LI→LI→Int→Int→Int→Int→Int→Int→Int→Int→Int→Prop) (Q5:Int→Int→Int→Nat→LI→LI→Int→Int→Int→Int→Int→Int→Int→Int→Int→Prop) (Q6:Int→Prop) (Q7:RS→Int→Prop) (Q8:Int→Int→Int→Nat→LI→LI→Int→Int→Int→Int→Int→Int→Int→Int→Int→Prop) (Q9:Int→Prop) (Q10:Int→Int→Int→Nat→LI→LI→Int→Int→Int→Int→Int→Int→Int→Int→Int→Prop) (R_:RS×Bool→Prop) (O_:Int→Int→Int→Nat→LI→LI→Int→Int→Int→Int→Int→Int→Int→Int→Bool→Prop):Prop:=(BH (true) (Ba ((0:Int)≤7∧(7:Int)<8) (BH (r7_==a) (Ba ((0:Int)≤7∧(7:Int)<8) (Q2 (t_) (p_) (h_) (n_) (a_) (z_) (r0_) (r1_) (r2_) (r3_) (r4_) (r5_) (r6_) (u) (8))) (Q2 (t_) (p_) (h_) (n_) (a_) (z_) (r0_) (r1_) (r2_) (r3_) (r4_) (r5_) (r6_) (r7_) (8)))) (O_ (t_) (p_) (h_) (n_) (a_) (z_) (r0_) (r1_) (r2_) (r3_) (r4_) (r5_) (r6_) (r7_) (true)))
def Vw (s:RS) (k a c e u v t_ p_ h_:Int) (n_:Nat) (a_ z_:LI) (r0_ r1_ r2_ r3_ r4_ r5_ r6_ r7_:Int) (Q0:RS→Prop) (Q1:Int→Int→Int→Nat→LI→LI→Int→Int→Int→Int→Int→Int→Int→Int→Prop) (Q2:Int→Int→Int→Nat→LI→LI→Int→Int→Int→Int→Int→Int→Int→Int→Int→Prop) (Q3:Int→Prop) (Q4:Int→Int→Int→Nat→LI→LI→Int→Int→Int→Int→Int→Int→Int→Int→Int→Prop) (Q5:Int→Int→Int→Nat→LI→LI→Int→Int→Int→Int→Int→Int→Int→Int→Int→Prop) (Q6:Int→Prop) (Q7:RS→Int→Prop) (Q8:Int→Int→Int→Nat→LI→LI→Int→Int→Int→Int→Int→Int→Int→Int→Int→Prop) (Q9:Int→Prop) (Q10:Int→Int→Int→Nat→LI→LI→Int→Int→Int→Int→Int→Int→Int→Int→Int→Prop) (R_:RS×Bool→Prop) (O_:Int→Int→Int→Nat→LI→LI→Int→Int→Int→Int→Int→Int→Int→Int→Bool→Prop):Prop:=(BH (false) (Ba ((0:Int)≤8∧(8:Int)<8) (Ba (False) False)) (O_ (t_) (p_) (h_) (n_) (a_) (z_) (r0_) (r1_) (r2_) (r3_) (r4_) (r5_) (r6_) (r7_) (true)))
def Ah (s:RS) (k a c e u v t_ p_ h_:Int) (n_:Nat) (a_ z_:LI) (r0_ r1_ r2_ r3_ r4_ r5_ r6_ r7_ i_:Int):Prop:=BI ⟨t_,p_,h_,n_,a_,z_,r0_,r1_,r2_,r3_,r4_,r5_,r6_,r7_⟩ (Ko (DI (Dz s (CY s.a a)) u v) a u i_)∧0≤i_∧i_≤8∧k=3∧Bc s k a c e u v=true∧e=0
def Abs (s:RS) (k a c e u v k_ t_ p_ h_:Int) (n_:Nat) (al_ zl_:LI) (x0_ x1_ x2_ x3_ x4_ x5_ x6_ x7_:Int) (Q4:Int→Int→Int→Nat→LI→LI→Int→Int→Int→Int→Int→Int→Int→Int→Int→Prop):Prop:=(Q4 (t_) (p_) (h_) (n_) (al_) (zl_) (x0_) (x1_) (x2_) (x3_) (x4_) (x5_) (x6_) (x7_) (k_))
def AC (s:RS) (k a c e u v k_:Int):Prop:=k_=k∧k=4∧Bc s k a c e u v=true∧e=0
def Abt (s:RS) (k a c e u v t_ p_ h_:Int) (n_:Nat) (a_ z_:LI) (r0_ r1_ r2_ r3_ r4_ r5_ r6_ r7_ k_:Int) (Q0:RS→Prop) (Q1:Int→Int→Int→Nat→LI→LI→Int→Int→Int→Int→Int→Int→Int→Int→Prop) (Q2:Int→Int→Int→Nat→LI→LI→Int→Int→Int→Int→Int→Int→Int→Int→Int→Prop) (Q3:Int→Prop) (Q4:Int→Int→Int→Nat→LI→LI→Int→Int→Int→Int→Int→Int→Int→Int→Int→Prop) (Q5:Int→Int→Int→Nat→LI→LI→Int→Int→Int→Int→Int→Int→Int→Int→Int→Prop) (Q6:Int→Prop) (Q7:RS→Int→Prop) (Q8:Int→Int→Int→Nat→LI→LI→Int→Int→Int→Int→Int→Int→Int→Int→Int→Prop) (Q9:Int→Prop) (Q10:Int→Int→Int→Nat→LI→LI→Int→Int→Int→Int→Int→Int→Int→Int→Int→Prop) (R_:RS×Bool→Prop) (O_:Int→Int→Int→Nat→LI→LI→Int→Int→Int→Int→Int→Int→Int→Int→Bool→Prop):Prop:=(Q5 (t_) (p_) (h_) (n_) (a_) (z_) (r0_) (r1_) (r2_) (r3_) (r4_) (r5_) (r6_) (r7_) (kJ (BR t_ p_ h_ c)))
def A8 (s:RS) (k a c e u v t_ p_ h_:Int) (n_:Nat) (a_ z_:LI) (r0_ r1_ r2_ r3_ r4_ r5_ r6_ r7_ k_:Int):Prop:=BI ⟨t_,p_,h_,n_,a_,z_,r0_,r1_,r2_,r3_,r4_,r5_,r6_,r7_⟩ s∧k_=k∧k=4∧Bc s k a c e u v=true∧e=0
def Ry (s:RS) (k a c e u v t_ p_ h_:Int) (n_:Nat) (a_ z_:LI) (r0_ r1_ r2_ r3_ r4_ r5_ r6_ r7_ w_:Int) (Q6:Int→Prop):Prop:=(Q6 (w_))
def AL (s:RS) (k a c e u v t_ p_ h_:Int) (n_:Nat) (a_ z_:LI) (r0_ r1_ r2_ r3_ r4_ r5_ r6_ r7_ w_:Int):Prop:=BI ⟨t_,p_,h_,n_,a_,z_,r0_,r1_,r2_,r3_,r4_,r5_,r6_,r7_⟩ s∧w_=(BR s.t s.p s.h c).1∧k=4∧Bc s k a c e u v=true∧e=0
def Abu (s:RS) (k a c e u v w_:Int) (Q0:RS→Prop) (Q1:Int→Int→Int→Nat→LI→LI→Int→Int→Int→Int→Int→Int→Int→Int→Prop) (Q2:Int→Int→Int→Nat→LI→LI→Int→Int→Int→Int→Int→Int→Int→Int→Int→Prop) (Q3:Int→Prop) (Q4:Int→Int→Int→Nat→LI→LI→Int→Int→Int→Int→Int→Int→Int→Int→Int→Prop) (Q5:Int→Int→Int→Nat→LI→LI→Int→Int→Int→Int→Int→Int→Int→Int→Int→Prop) (Q6:Int→Prop) (Q7:RS→Int→Prop) (Q8:Int→Int→Int→Nat→LI→LI→Int→Int→Int→Int→Int→Int→Int→Int→Int→Prop) (Q9:Int→Prop) (Q10:Int→Int→Int→Nat→LI→LI→Int→Int→Int→Int→Int→Int→Int→Int→Int→Prop) (R_:RS×Bool→Prop) (O_:Int→Int→Int→Nat→LI→LI→Int→Int→Int→Int→Int→Int→Int→Int→Bool→Prop):Prop:=(∀r0:RS,r0=(DI s u w_)→(Ba (iN (RS.a s)≤1000) (Q7 (r0) (a))))
def Aw (s:RS) (k a c e u v w_:Int):Prop:=w_=(BR s.t s.p s.h c).1∧k=4∧Bc s k a c e u v=true∧e=0
def Abv (s:RS) (k a c e u v:Int) (q_:RS) (i_ t_ p_ h_:Int) (n_:Nat) (al_ zl_:LI) (x0_ x1_ x2_ x3_ x4_ x5_ x6_ x7_:Int) (Q8:Int→Int→Int→Nat→LI→LI→Int→Int→Int→Int→Int→Int→Int→Int→Int→Prop):Prop:=(Q8 (t_) (p_) (h_) (n_) (al_) (zl_) (x0_) (x1_) (x2_) (x3_) (x4_) (x5_) (x6_) (x7_) (i_))
def AO (s:RS) (k a c e u v:Int) (q_:RS) (i_:Int):Prop:=q_=(DI s u (BR s.t s.p s.h c).1)∧i_=a∧0≤a∧a<8∧k=4∧Bc s k a c e u v=true∧e=0
def Vx (s:RS) (k a c e u v t_ p_ h_:Int) (n_:Nat) (a_ z_:LI) (r0_ r1_ r2_ r3_ r4_ r5_ r6_ r7_:Int) (Q0:RS→Prop) (Q1:Int→Int→Int→Nat→LI→LI→Int→Int→Int→Int→Int→Int→Int→Int→Prop) (Q2:Int→Int→Int→Nat→LI→LI→Int→Int→Int→Int→Int→Int→Int→Int→Int→Prop) (Q3:Int→Prop) (Q4:Int→Int→Int→Nat→LI→LI→Int→Int→Int→Int→Int→Int→Int→Int→Int→Prop) (Q5:Int→Int→Int→Nat→LI→LI→Int→Int→Int→Int→Int→Int→Int→Int→Int→Prop) (Q6:Int→Prop) (Q7:RS→Int→Prop) (Q8:Int→Int→Int→Nat→LI→LI→Int→Int→Int→Int→Int→Int→Int→Int→Int→Prop) (Q9:Int→Prop) (Q10:Int→Int→Int→Nat→LI→LI→Int→Int→Int→Int→Int→Int→Int→Int→Int→Prop) (R_:RS×Bool→Prop) (O_:Int→Int→Int→Nat→LI→LI→Int→Int→Int→Int→Int→Int→Int→Int→Bool→Prop):Prop:=(Ba ((0:Int)≤0∧(0:Int)<8) (O_ (t_) (p_) (h_) (n_) (a_) (z_) (u) (r1_) (r2_) (r3_) (r4_) (r5_) (r6_) (r7_) (true)))
def Vy (s:RS) (k a c e u v t_ p_ h_:Int) (n_:Nat) (a_ z_:LI) (r0_ r1_ r2_ r3_ r4_ r5_ r6_ r7_:Int) (Q0:RS→Prop) (Q1:Int→Int→Int→Nat→LI→LI→Int→Int→Int→Int→Int→Int→Int→Int→Prop) (Q2:Int→Int→Int→Nat→LI→LI→Int→Int→Int→Int→Int→Int→Int→Int→Int→Prop) (Q3:Int→Prop) (Q4:Int→Int→Int→Nat→LI→LI→Int→Int→Int→Int→Int→Int→Int→Int→Int→Prop) (Q5:Int→Int→Int→Nat→LI→LI→Int→Int→Int→Int→Int→Int→Int→Int→Int→Prop) (Q6:Int→Prop) (Q7:RS→Int→Prop) (Q8:Int→Int→Int→Nat→LI→LI→Int→Int→Int→Int→Int→Int→Int→Int→Int→Prop) (Q9:Int→Prop) (Q10:Int→Int→Int→Nat→LI→LI→Int→Int→Int→Int→Int→Int→Int→Int→Int→Prop) (R_:RS×Bool→Prop) (O_:Int→Int→Int→Nat→LI→LI→Int→Int→Int→Int→Int→Int→Int→Int→Bool→Prop):Prop:=(Ba ((0:Int)≤1∧(1:Int)<8) (O_ (t_) (p_) (h_) (n_) (a_) (z_) (r0_) (u) (r2_) (r3_) (r4_) (r5_) (r6_) (r7_) (true)))
def Vz (s:RS) (k a c e u v t_ p_ h_:Int) (n_:Nat) (a_ z_:LI) (r0_ r1_ r2_ r3_ r4_ r5_ r6_ r7_:Int) (Q0:RS→Prop) (Q1:Int→Int→Int→Nat→LI→LI→Int→Int→Int→Int→Int→Int→Int→Int→Prop) (Q2:Int→Int→Int→Nat→LI→LI→Int→Int→Int→Int→Int→Int→Int→Int→Int→Prop) (Q3:Int→Prop) (Q4:Int→Int→Int→Nat→LI→LI→Int→Int→Int→Int→Int→Int→Int→Int→Int→Prop) (Q5:Int→Int→Int→Nat→LI→LI→Int→Int→Int→Int→Int→Int→Int→Int→Int→Prop) (Q6:Int→Prop) (Q7:RS→Int→Prop) (Q8:Int→Int→Int→Nat→LI→LI→Int→Int→Int→Int→Int→Int→Int→Int→Int→Prop) (Q9:Int→Prop) (Q10:Int→Int→Int→Nat→LI→LI→Int→Int→Int→Int→Int→Int→Int→Int→Int→Prop) (R_:RS×Bool→Prop) (O_:Int→Int→Int→Nat→LI→LI→Int→Int→Int→Int→Int→Int→Int→Int→Bool→Prop):Prop:=(Ba ((0:Int)≤2∧(2:Int)<8) (O_ (t_) (p_) (h_) (n_) (a_) (z_) (r0_) (r1_) (u) (r3_) (r4_) (r5_) (r6_) (r7_) (true)))
def V3 (s:RS) (k a c e u v t_ p_ h_:Int) (n_:Nat) (a_ z_:LI) (r0_ r1_ r2_ r3_ r4_ r5_ r6_ r7_:Int) (Q0:RS→Prop) (Q1:Int→Int→Int→Nat→LI→LI→Int→Int→Int→Int→Int→Int→Int→Int→Prop) (Q2:Int→Int→Int→Nat→LI→LI→Int→Int→Int→Int→Int→Int→Int→Int→Int→Prop) (Q3:Int→Prop) (Q4:Int→Int→Int→Nat→LI→LI→Int→Int→Int→Int→Int→Int→Int→Int→Int→Prop) (Q5:Int→Int→Int→Nat→LI→LI→Int→Int→Int→Int→Int→Int→Int→Int→Int→Prop) (Q6:Int→Prop) (Q7:RS→Int→Prop) (Q8:Int→Int→Int→Nat→LI→LI→Int→Int→Int→Int→Int→Int→Int→Int→Int→Prop) (Q9:Int→Prop) (Q10:Int→Int→Int→Nat→LI→LI→Int→Int→Int→Int→Int→Int→Int→Int→Int→Prop) (R_:RS×Bool→Prop) (O_:Int→Int→Int→Nat→LI→LI→Int→Int→Int→Int→Int→Int→Int→Int→Bool→Prop):Prop:=(Ba ((0:Int)≤3∧(3:Int)<8) (O_ (t_) (p_) (h_) (n_) (a_) (z_) (r0_) (r1_) (r2_) (u) (r4_) (r5_) (r6_) (r7_) (true)))
def V4 (s:RS) (k a c e u v t_ p_ h_:Int) (n_:Nat) (a_ z_:LI) (r0_ r1_ r2_ r3_ r4_ r5_ r6_ r7_:Int) (Q0:RS→Prop) (Q1:Int→Int→Int→Nat→LI→LI→Int→Int→Int→Int→Int→Int→Int→Int→Prop) (Q2:Int→Int→Int→Nat→LI→LI→Int→Int→Int→Int→Int→Int→Int→Int→Int→Prop) (Q3:Int→Prop) (Q4:Int→Int→Int→Nat→LI→LI→Int→Int→Int→Int→Int→Int→Int→Int→Int→Prop) (Q5:Int→Int→Int→Nat→LI→LI→Int→Int→Int→Int→Int→Int→Int→Int→Int→Prop) (Q6:Int→Prop) (Q7:RS→Int→Prop) (Q8:Int→Int→Int→Nat→LI→LI→Int→Int→Int→Int→Int→Int→Int→Int→Int→Prop) (Q9:Int→Prop) (Q10:Int→Int→Int→Nat→LI→LI→Int→Int→Int→Int→Int→Int→Int→Int→Int→Prop) (R_:RS×Bool→Prop) (O_:Int→Int→Int→Nat→LI→LI→Int→Int→Int→Int→Int→Int→Int→Int→Bool→Prop):Prop:=(Ba ((0:Int)≤4∧(4:Int)<8) (O_ (t_) (p_) (h_) (n_) (a_) (z_) (r0_) (r1_) (r2_) (r3_) (u) (r5_) (r6_) (r7_) (true)))
def V5 (s:RS) (k a c e u v t_ p_ h_:Int) (n_:Nat) (a_ z_:LI) (r0_ r1_ r2_ r3_ r4_ r5_ r6_ r7_:Int) (Q0:RS→Prop) (Q1:Int→Int→Int→Nat→LI→LI→Int→Int→Int→Int→Int→Int→Int→Int→Prop) (Q2:Int→Int→Int→Nat→LI→LI→Int→Int→Int→Int→Int→Int→Int→Int→Int→Prop) (Q3:Int→Prop) (Q4:Int→Int→Int→Nat→LI→LI→Int→Int→Int→Int→Int→Int→Int→Int→Int→Prop) (Q5:Int→Int→Int→Nat→LI→LI→Int→Int→Int→Int→Int→Int→Int→Int→Int→Prop) (Q6:Int→Prop) (Q7:RS→Int→Prop) (Q8:Int→Int→Int→Nat→LI→LI→Int→Int→Int→Int→Int→Int→Int→Int→Int→Prop) (Q9:Int→Prop) (Q10:Int→Int→Int→Nat→LI→LI→Int→Int→Int→Int→Int→Int→Int→Int→Int→Prop) (R_:RS×Bool→Prop) (O_:Int→Int→Int→Nat→LI→LI→Int→Int→Int→Int→Int→Int→Int→Int→Bool→Prop):Prop:=(Ba ((0:Int)≤5∧(5:Int)<8) (O_ (t_) (p_) (h_) (n_) (a_) (z_) (r0_) (r1_) (r2_) (r3_) (r4_) (u) (r6_) (r7_) (true)))
def V6 (s:RS) (k a c e u v t_ p_ h_:Int) (n_:Nat) (a_ z_:LI) (r0_ r1_ r2_ r3_ r4_ r5_ r6_ r7_:Int) (Q0:RS→Prop) (Q1:Int→Int→Int→Nat→LI→LI→Int→Int→Int→Int→Int→Int→Int→Int→Prop) (Q2:Int→Int→Int→Nat→LI→LI→Int→Int→Int→Int→Int→Int→Int→Int→Int→Prop) (Q3:Int→Prop) (Q4:Int→Int→Int→Nat→LI→LI→Int→Int→Int→Int→Int→Int→Int→Int→Int→Prop) (Q5:Int→Int→Int→Nat→LI→LI→Int→Int→Int→Int→Int→Int→Int→Int→Int→Prop) (Q6:Int→Prop) (Q7:RS→Int→Prop) (Q8:Int→Int→Int→Nat→LI→LI→Int→Int→Int→Int→Int→Int→Int→Int→Int→Prop) (Q9:Int→Prop) (Q10:Int→Int→Int→Nat→LI→LI→Int→Int→Int→Int→Int→Int→Int→Int→Int→Prop) (R_:RS×Bool→Prop) (O_:Int→Int→Int→Nat→LI→LI→Int→Int→Int→Int→Int→Int→Int→Int→Bool→Prop):Prop:=(Ba ((0:Int)≤6∧(6:Int)<8) (O_ (t_) (p_) (h_) (n_) (a_) (z_) (r0_) (r1_) (r2_) (r3_) (r4_) (r5_) (u) (r7_) (true)))
def V7 (s:RS) (k a c e u v t_ p_ h_:Int) (n_:Nat) (a_ z_:LI) (r0_ r1_ r2_ r3_ r4_ r5_ r6_ r7_:Int) (Q0:RS→Prop) (Q1:Int→Int→Int→Nat→LI→LI→Int→Int→Int→Int→Int→Int→Int→Int→Prop) (Q2:Int→Int→Int→Nat→LI→LI→Int→Int→Int→Int→Int→Int→Int→Int→Int→Prop) (Q3:Int→Prop) (Q4:Int→Int→Int→Nat→LI→LI→Int→Int→Int→Int→Int→Int→Int→Int→Int→Prop) (Q5:Int→Int→Int→Nat→LI→LI→Int→Int→Int→Int→Int→Int→Int→Int→Int→Prop) (Q6:Int→Prop) (Q7:RS→Int→Prop) (Q8:Int→Int→Int→Nat→LI→LI→Int→Int→Int→Int→Int→Int→Int→Int→Int→Prop) (Q9:Int→Prop) (Q10:Int→Int→Int→Nat→LI→LI→Int→Int→Int→Int→Int→Int→Int→Int→Int→Prop) (R_:RS×Bool→Prop) (O_:Int→Int→Int→Nat→LI→LI→Int→Int→Int→Int→Int→Int→Int→Int→Bool→Prop):Prop:=(Ba ((0:Int)≤7∧(7:Int)<8) (O_ (t_) (p_) (h_) (n_) (a_) (z_) (r0_) (r1_) (r2_) (r3_) (r4_) (r5_) (r6_) (u) (true)))
def Ai (s:RS) (k a c e u v t_ p_ h_:Int) (n_:Nat) (a_ z_:LI) (r0_ r1_ r2_ r3_ r4_ r5_ r6_ r7_ i_:Int):Prop:=BI ⟨t_,p_,h_,n_,a_,z_,r0_,r1_,r2_,r3_,r4_,r5_,r6_,r7_⟩ (DI s u (BR s.t s.p s.h c).1)∧i_=a∧0≤a∧a<8∧k=4∧Bc s k a c e u v=true∧e=0
def Abw (s:RS) (k a c e u v i_ t_ p_ h_:Int) (n_:Nat) (al_ zl_:LI) (x0_ x1_ x2_ x3_ x4_ x5_ x6_ x7_:Int) (Q10:Int→Int→Int→Nat→LI→LI→Int→Int→Int→Int→Int→Int→Int→Int→Int→Prop):Prop:=(Q10 (t_) (p_) (h_) (n_) (al_) (zl_) (x0_) (x1_) (x2_) (x3_) (x4_) (x5_) (x6_) (x7_) (i_))
def AP (s:RS) (k a c e u v i_:Int):Prop:=i_=a∧0≤a∧a<8∧k=5∧Bc s k a c e u v=true∧e=0
def TC (s:RS) (k a c e u v t_ p_ h_:Int) (n_:Nat) (a_ z_:LI) (r0_ r1_ r2_ r3_ r4_ r5_ r6_ r7_:Int) (Q0:RS→Prop) (Q1:Int→Int→Int→Nat→LI→LI→Int→Int→Int→Int→Int→Int→Int→Int→Prop) (Q2:Int→Int→Int→Nat→LI→LI→Int→Int→Int→Int→Int→Int→Int→Int→Int→Prop) (Q3:Int→Prop) (Q4:Int→Int→Int→Nat→LI→LI→Int→Int→Int→Int→Int→Int→Int→Int→Int→Prop) (Q5:Int→Int→Int→Nat→LI→LI→Int→Int→Int→Int→Int→Int→Int→Int→Int→Prop) (Q6:Int→Prop) (Q7:RS→Int→Prop) (Q8:Int→Int→Int→Nat→LI→LI→Int→Int→Int→Int→Int→Int→Int→Int→Int→Prop) (Q9:Int→Prop) (Q10:Int→Int→Int→Nat→LI→LI→Int→Int→Int→Int→Int→Int→Int→Int→Int→Prop) (R_:RS×Bool→Prop) (O_:Int→Int→Int→Nat→LI→LI→Int→Int→Int→Int→Int→Int→Int→Int→Bool→Prop):Prop:=(Ba ((0:Int)≤0∧(0:Int)<8) (O_ (t_) (p_) (h_) (n_) (a_) (z_) (c) (r1_) (r2_) (r3_) (r4_) (r5_) (r6_) (r7_) (true)))
def TD (s:RS) (k a c e u v t_ p_ h_:Int) (n_:Nat) (a_ z_:LI) (r0_ r1_ r2_ r3_ r4_ r5_ r6_ r7_:Int) (Q0:RS→Prop) (Q1:Int→Int→Int→Nat→LI→LI→Int→Int→Int→Int→Int→Int→Int→Int→Prop) (Q2:Int→Int→Int→Nat→LI→LI→Int→Int→Int→Int→Int→Int→Int→Int→Int→Prop) (Q3:Int→Prop) (Q4:Int→Int→Int→Nat→LI→LI→Int→Int→Int→Int→Int→Int→Int→Int→Int→Prop) (Q5:Int→Int→Int→Nat→LI→LI→Int→Int→Int→Int→Int→Int→Int→Int→Int→Prop) (Q6:Int→Prop) (Q7:RS→Int→Prop) (Q8:Int→Int→Int→Nat→LI→LI→Int→Int→Int→Int→Int→Int→Int→Int→Int→Prop) (Q9:Int→Prop) (Q10:Int→Int→Int→Nat→LI→LI→Int→Int→Int→Int→Int→Int→Int→Int→Int→Prop) (R_:RS×Bool→Prop) (O_:Int→Int→Int→Nat→LI→LI→Int→Int→Int→Int→Int→Int→Int→Int→Bool→Prop):Prop:=(Ba ((0:Int)≤1∧(1:Int)<8) (O_ (t_) (p_) (h_) (n_) (a_) (z_) (r0_) (c) (r2_) (r3_) (r4_) (r5_) (r6_) (r7_) (true)))
def TE (s:RS) (k a c e u v t_ p_ h_:Int) (n_:Nat) (a_ z_:LI) (r0_ r1_ r2_ r3_ r4_ r5_ r6_ r7_:Int) (Q0:RS→Prop) (Q1:Int→Int→Int→Nat→LI→LI→Int→Int→Int→Int→Int→Int→Int→Int→Prop) (Q2:Int→Int→Int→Nat→LI→LI→Int→Int→Int→Int→Int→Int→Int→Int→Int→Prop) (Q3:Int→Prop) (Q4:Int→Int→Int→Nat→LI→LI→Int→Int→Int→Int→Int→Int→Int→Int→Int→Prop) (Q5:Int→Int→Int→Nat→LI→LI→Int→Int→Int→Int→Int→Int→Int→Int→Int→Prop) (Q6:Int→Prop) (Q7:RS→Int→Prop) (Q8:Int→Int→Int→Nat→LI→LI→Int→Int→Int→Int→Int→Int→Int→Int→Int→Prop) (Q9:Int→Prop) (Q10:Int→Int→Int→Nat→LI→LI→Int→Int→Int→Int→Int→Int→Int→Int→Int→Prop) (R_:RS×Bool→Prop) (O_:Int→Int→Int→Nat→LI→LI→Int→Int→Int→Int→Int→Int→Int→Int→Bool→Prop):Prop:=(Ba ((0:Int)≤2∧(2:Int)<8) (O_ (t_) (p_) (h_) (n_) (a_) (z_) (r0_) (r1_) (c) (r3_) (r4_) (r5_) (r6_) (r7_) (true)))
def TF (s:RS) (k a c e u v t_ p_ h_:Int) (n_:Nat) (a_ z_:LI) (r0_ r1_ r2_ r3_ r4_ r5_ r6_ r7_:Int) (Q0:RS→Prop) (Q1:Int→Int→Int→Nat→LI→LI→Int→Int→Int→Int→Int→Int→Int→Int→Prop) (Q2:Int→Int→Int→Nat→LI→LI→Int→Int→Int→Int→Int→Int→Int→Int→Int→Prop) (Q3:Int→Prop) (Q4:Int→Int→Int→Nat→LI→LI→Int→Int→Int→Int→Int→Int→Int→Int→Int→Prop) (Q5:Int→Int→Int→Nat→LI→LI→Int→Int→Int→Int→Int→Int→Int→Int→Int→Prop) (Q6:Int→Prop) (Q7:RS→Int→Prop) (Q8:Int→Int→Int→Nat→LI→LI→Int→Int→Int→Int→Int→Int→Int→Int→Int→Prop) (Q9:Int→Prop) (Q10:Int→Int→Int→Nat→LI→LI→Int→Int→Int→Int→Int→Int→Int→Int→Int→Prop) (R_:RS×Bool→Prop) (O_:Int→Int→Int→Nat→LI→LI→Int→Int→Int→Int→Int→Int→Int→Int→Bool→Prop):Prop:=(Ba ((0:Int)≤3∧(3:Int)<8) (O_ (t_) (p_) (h_) (n_) (a_) (z_) (r0_) (r1_) (r2_) (c) (r4_) (r5_) (r6_) (r7_) (true)))
def TG (s:RS) (k a c e u v t_ p_ h_:Int) (n_:Nat) (a_ z_:LI) (r0_ r1_ r2_ r3_ r4_ r5_ r6_ r7_:Int) (Q0:RS→Prop) (Q1:Int→Int→Int→Nat→LI→LI→Int→Int→Int→Int→Int→Int→Int→Int→Prop) (Q2:Int→Int→Int→Nat→LI→LI→Int→Int→Int→Int→Int→Int→Int→Int→Int→Prop) (Q3:Int→Prop) (Q4:Int→Int→Int→Nat→LI→LI→Int→Int→Int→Int→Int→Int→Int→Int→Int→Prop) (Q5:Int→Int→Int→Nat→LI→LI→Int→Int→Int→Int→Int→Int→Int→Int→Int→Prop) (Q6:Int→Prop) (Q7:RS→Int→Prop) (Q8:Int→Int→Int→Nat→LI→LI→Int→Int→Int→Int→Int→Int→Int→Int→Int→Prop) (Q9:Int→Prop) (Q10:Int→Int→Int→Nat→LI→LI→Int→Int→Int→Int→Int→Int→Int→Int→Int→Prop) (R_:RS×Bool→Prop) (O_:Int→Int→Int→Nat→LI→LI→Int→Int→Int→Int→Int→Int→Int→Int→Bool→Prop):Prop:=(Ba ((0:Int)≤4∧(4:Int)<8) (O_ (t_) (p_) (h_) (n_) (a_) (z_) (r0_) (r1_) (r2_) (r3_) (c) (r5_) (r6_) (r7_) (true)))
def TI (s:RS) (k a c e u v t_ p_ h_:Int) (n_:Nat) (a_ z_:LI) (r0_ r1_ r2_ r3_ r4_ r5_ r6_ r7_:Int) (Q0:RS→Prop) (Q1:Int→Int→Int→Nat→LI→LI→Int→Int→Int→Int→Int→Int→Int→Int→Prop) (Q2:Int→Int→Int→Nat→LI→LI→Int→Int→Int→Int→Int→Int→Int→Int→Int→Prop) (Q3:Int→Prop) (Q4:Int→Int→Int→Nat→LI→LI→Int→Int→Int→Int→Int→Int→Int→Int→Int→Prop) (Q5:Int→Int→Int→Nat→LI→LI→Int→Int→Int→Int→Int→Int→Int→Int→Int→Prop) (Q6:Int→Prop) (Q7:RS→Int→Prop) (Q8:Int→Int→Int→Nat→LI→LI→Int→Int→Int→Int→Int→Int→Int→Int→Int→Prop) (Q9:Int→Prop) (Q10:Int→Int→Int→Nat→LI→LI→Int→Int→Int→Int→Int→Int→Int→Int→Int→Prop) (R_:RS×Bool→Prop) (O_:Int→Int→Int→Nat→LI→LI→Int→Int→Int→Int→Int→Int→Int→Int→Bool→Prop):Prop:=(Ba ((0:Int)≤5∧(5:Int)<8) (O_ (t_) (p_) (h_) (n_) (a_) (z_) (r0_) (r1_) (r2_) (r3_) (r4_) (c) (r6_) (r7_) (true)))
def TJ (s:RS) (k a c e u v t_ p_ h_:Int) (n_:Nat) (a_ z_:LI) (r0_ r1_ r2_ r3_ r4_ r5_ r6_ r7_:Int) (Q0:RS→Prop) (Q1:Int→Int→Int→Nat→LI→LI→Int→Int→Int→Int→Int→Int→Int→Int→Prop) (Q2:Int→Int→Int→Nat→LI→LI→Int→Int→Int→Int→Int→Int→Int→Int→Int→Prop) (Q3:Int→Prop) (Q4:Int→Int→Int→Nat→LI→LI→Int→Int→Int→Int→Int→Int→Int→Int→Int→Prop) (Q5:Int→Int→Int→Nat→LI→LI→Int→Int→Int→Int→Int→Int→Int→Int→Int→Prop) (Q6:Int→Prop) (Q7:RS→Int→Prop) (Q8:Int→Int→Int→Nat→LI→LI→Int→Int→Int→Int→Int→Int→Int→Int→Int→Prop) (Q9:Int→Prop) (Q10:Int→Int→Int→Nat→LI→LI→Int→Int→Int→Int→Int→Int→Int→Int→Int→Prop) (R_:RS×Bool→Prop) (O_:Int→Int→Int→Nat→LI→LI→Int→Int→Int→Int→Int→Int→Int→Int→Bool→Prop):Prop:=(Ba ((0:Int)≤6∧(6:Int)<8) (O_ (t_) (p_) (h_) (n_) (a_) (z_) (r0_) (r1_) (r2_) (r3_) (r4_) (r5_) (c) (r7_) (true)))
def TK (s:RS) (k a c e u v t_ p_ h_:Int) (n_:Nat) (a_ z_:LI) (r0_ r1_ r2_ r3_ r4_ r5_ r6_ r7_:Int) (Q0:RS→Prop) (Q1:Int→Int→Int→Nat→LI→LI→Int→Int→Int→Int→Int→Int→Int→Int→Prop) (Q2:Int→Int→Int→Nat→LI→LI→Int→Int→Int→Int→Int→Int→Int→Int→Int→Prop) (Q3:Int→Prop) (Q4:Int→Int→Int→Nat→LI→LI→Int→Int→Int→Int→Int→Int→Int→Int→Int→Prop) (Q5:Int→Int→Int→Nat→LI→LI→Int→Int→Int→Int→Int→Int→Int→Int→Int→Prop) (Q6:Int→Prop) (Q7:RS→Int→Prop) (Q8:Int→Int→Int→Nat→LI→LI→Int→Int→Int→Int→Int→Int→Int→Int→Int→Prop) (Q9:Int→Prop) (Q10:Int→Int→Int→Nat→LI→LI→Int→Int→Int→Int→Int→Int→Int→Int→Int→Prop) (R_:RS×Bool→Prop) (O_:Int→Int→Int→Nat→LI→LI→Int→Int→Int→Int→Int→Int→Int→Int→Bool→Prop):Prop:=(Ba ((0:Int)≤7∧(7:Int)<8) (O_ (t_) (p_) (h_) (n_) (a_) (z_) (r0_) (r1_) (r2_) (r3_) (r4_) (r5_) (r6_) (c) (true)))
def Ag (s:RS) (k a c e u v t_ p_ h_:Int) (n_:Nat) (a_ z_:LI) (r0_ r1_ r2_ r3_ r4_ r5_ r6_ r7_ i_:Int):Prop:=BI ⟨t_,p_,h_,n_,a_,z_,r0_,r1_,r2_,r3_,r4_,r5_,r6_,r7_⟩ s∧i_=a∧0≤a∧a<8∧k=5∧Bc s k a c e u v=true∧e=0
theorem Afc (s:RS) (k a c e u v:Int) (hp0:s.a.length≤1000):Aeq s k a c e u v (λq_'=>AB s k a c e u v q_') (λt_' p_' h_' n_' a_' z_' r0_' r1_' r2_' r3_' r4_' r5_' r6_' r7_'=>A7 s k a c e u v t_' p_' h_' n_' a_' z_' r0_' r1_' r2_' r3_' r4_' r5_' r6_' r7_') (λt_' p_' h_' n_' a_' z_' r0_' r1_' r2_' r3_' r4_' r5_' r6_' r7_' i_'=>Ah s k a c e u v t_' p_' h_' n_' a_' z_' r0_' r1_' r2_' r3_' r4_' r5_' r6_' r7_' i_') (λk_'=>AC s k a c e u v k_') (λt_' p_' h_' n_' a_' z_' r0_' r1_' r2_' r3_' r4_' r5_' r6_' r7_' k_'=>A8 s k a c e u v t_' p_' h_' n_' a_' z_' r0_' r1_' r2_' r3_' r4_' r5_' r6_' r7_' k_') (λt_' p_' h_' n_' a_' z_' r0_' r1_' r2_' r3_' r4_' r5_' r6_' r7_' w_'=>AL s k a c e u v t_' p_' h_' n_' a_' z_' r0_' r1_' r2_' r3_' r4_' r5_' r6_' r7_' w_') (λw_'=>Aw s k a c e u v w_') (λq_' i_'=>AO s k a c e u v q_' i_') (λt_' p_' h_' n_' a_' z_' r0_' r1_' r2_' r3_' r4_' r5_' r6_' r7_' i_'=>Ai s k a c e u v t_' p_' h_' n_' a_' z_' r0_' r1_' r2_' r3_' r4_' r5_' r6_' r7_' i_') (λi_'=>AP s k a c e u v i_') (λt_' p_' h_' n_' a_' z_' r0_' r1_' r2_' r3_' r4_' r5_' r6_' r7_' i_'=>Ag s k a c e u v t_' p_' h_' n_' a_' z_' r0_' r1_' r2_' r3_' r4_' r5_' r6_' r7_' i_') (λr__=>r__=(Ac s k a c e u v)) (λt_ p_ h_ n_ al_ zl_ x0_ x1_ x2_ x3_ x4_ x5_ x6_ x7_ r_=>BI ⟨t_,p_,h_,n_,al_,zl_,x0_,x1_,x2_,x3_,x4_,x5_,x6_,x7_⟩ ((Ac s k a c e u v).1)∧r_=(Ac s k a c e u v).2):=by
 unfold Aeq
 try unfold AB
 try unfold A7
 try unfold Ah
 try unfold AC
 try unfold A8
 try unfold AL
 try unfold Aw
 try unfold AO
 try unfold Ai
 try unfold AP
 try unfold Ag
 rintro r2 hr2
 have hr2:r2=Bc s k a c e u v:=hr2
 subst hr2
 refine ⟨hp0, λ_=>⟨λh=>?_, λh=>⟨λhe=>?_, λhe=>?_⟩⟩⟩
 ·show _=Ac s k a c e u v
  unfold Ac;rw [h];rfl
 ·show _=Ac s k a c e u v
  unfold Ac;rw [h,he];rfl
 rintro r6 rfl
 refine ⟨hp0, λ_=>?_⟩
 have hA:Bc s k a c e u v=true:=by simpa using h
 have h0:e=0:=by simpa using he
 subst h0
 have key:Ac s k a c 0 u v=(GM s k a c u v,true):=by unfold Ac;rw [hA];rfl
 refine ⟨λh1=>?_, λh1=>⟨λh2=>?_, λh2=>⟨λh3=>?_, λh3=>⟨λh4=>⟨rfl,by simpa using h4,hA,rfl⟩, λh4=>⟨λh5=>?_, λh5=>?_⟩⟩⟩⟩⟩
 ·rintro r9 rfl
  refine ⟨hp0, λ_=>?_⟩
  show _=Ac s k a c 0 u v
  rw [key];unfold GM;rw [h1];rfl
 ·rintro r10 rfl
  refine ⟨hp0, λ_=>⟨alN hA (by rw [h2];rfl), λ_=>?_⟩⟩
  show _=Ac s k a c 0 u v
  rw [key];unfold GM;rw [h1,h2];rfl
 ·rintro r11 rfl
  refine ⟨hp0, λ_=>⟨alN hA (by rw [h3];simp), λ_=>?_⟩⟩
  rintro r14 rfl
  exact ⟨Ama hp0, λ_=>⟨rfl,by simpa using h3,hA,rfl⟩⟩
 ·have hk:k=5:=by simpa using h5
  subst hk
  have h8:=AqF hA
  exact ⟨rfl,h8.1,h8.2,rfl,hA,rfl⟩
 ·show _=Ac s k a c 0 u v
  rw [key];unfold GM;rw [h1,h2,h3,h4,h5];rfl
theorem Afd (s:RS) (k a c e u v:Int) (hp0:s.a.length≤1000) (q_:RS) (t_ p_ h_:Int) (n_:Nat) (al_ zl_:LI) (x0_ x1_ x2_ x3_ x4_ x5_ x6_ x7_:Int) (hI:AB s k a c e u v q_) (hx:BI ⟨t_,p_,h_,n_,al_,zl_,x0_,x1_,x2_,x3_,x4_,x5_,x6_,x7_⟩ (q_)):Abq s k a c e u v q_ t_ p_ h_ n_ al_ zl_ x0_ x1_ x2_ x3_ x4_ x5_ x6_ x7_ (λt_' p_' h_' n_' a_' z_' r0_' r1_' r2_' r3_' r4_' r5_' r6_' r7_'=>A7 s k a c e u v t_' p_' h_' n_' a_' z_' r0_' r1_' r2_' r3_' r4_' r5_' r6_' r7_'∧lx (19,0,0) (20,0,0)):=by
 unfold AB at hI
 unfold Abq
 try unfold AB
 try unfold A7
 try unfold Ah
 try unfold AC
 try unfold A8
 try unfold AL
 try unfold Aw
 try unfold AO
 try unfold Ai
 try unfold AP
 try unfold Ag
 obtain ⟨rfl,h⟩:=hI
 exact ⟨⟨hx,h⟩,BU⟩
theorem Afe (s:RS) (k a c e u v:Int) (hp0:s.a.length≤1000) (t_ p_ h_:Int) (n_:Nat) (a_ z_:LI) (r0_ r1_ r2_ r3_ r4_ r5_ r6_ r7_:Int) (hI:A7 s k a c e u v t_ p_ h_ n_ a_ z_ r0_ r1_ r2_ r3_ r4_ r5_ r6_ r7_):Abr s k a c e u v t_ p_ h_ n_ a_ z_ r0_ r1_ r2_ r3_ r4_ r5_ r6_ r7_ (λq_'=>AB s k a c e u v q_'∧lx (20,0,0) (19,0,0)) (λt_' p_' h_' n_' a_' z_' r0_' r1_' r2_' r3_' r4_' r5_' r6_' r7_'=>A7 s k a c e u v t_' p_' h_' n_' a_' z_' r0_' r1_' r2_' r3_' r4_' r5_' r6_' r7_'∧lx (19,0,0) (19,0,0)) (λt_' p_' h_' n_' a_' z_' r0_' r1_' r2_' r3_' r4_' r5_' r6_' r7_' i_'=>Ah s k a c e u v t_' p_' h_' n_' a_' z_' r0_' r1_' r2_' r3_' r4_' r5_' r6_' r7_' i_'∧lx (18,(8-i_').toNat,0) (19,0,0)) (λk_'=>AC s k a c e u v k_'∧lx (17,0,0) (19,0,0)) (λt_' p_' h_' n_' a_' z_' r0_' r1_' r2_' r3_' r4_' r5_' r6_' r7_' k_'=>A8 s k a c e u v t_' p_' h_' n_' a_' z_' r0_' r1_' r2_' r3_' r4_' r5_' r6_' r7_' k_'∧lx (16,0,0) (19,0,0)) (λt_' p_' h_' n_' a_' z_' r0_' r1_' r2_' r3_' r4_' r5_' r6_' r7_' w_'=>AL s k a c e u v t_' p_' h_' n_' a_' z_' r0_' r1_' r2_' r3_' r4_' r5_' r6_' r7_' w_'∧lx (15,0,0) (19,0,0)) (λw_'=>Aw s k a c e u v w_'∧lx (14,0,0) (19,0,0)) (λq_' i_'=>AO s k a c e u v q_' i_'∧lx (13,0,0) (19,0,0)) (λt_' p_' h_' n_' a_' z_' r0_' r1_' r2_' r3_' r4_' r5_' r6_' r7_' i_'=>Ai s k a c e u v t_' p_' h_' n_' a_' z_' r0_' r1_' r2_' r3_' r4_' r5_' r6_' r7_' i_'∧lx (12,0,0) (19,0,0)) (λi_'=>AP s k a c e u v i_'∧lx (11,0,0) (19,0,0)) (λt_' p_' h_' n_' a_' z_' r0_' r1_' r2_' r3_' r4_' r5_' r6_' r7_' i_'=>Ag s k a c e u v t_' p_' h_' n_' a_' z_' r0_' r1_' r2_' r3_' r4_' r5_' r6_' r7_' i_'∧lx (10,0,0) (19,0,0)) (λr__=>r__=(Ac s k a c e u v)) (λt_ p_ h_ n_ al_ zl_ x0_ x1_ x2_ x3_ x4_ x5_ x6_ x7_ r_=>BI ⟨t_,p_,h_,n_,al_,zl_,x0_,x1_,x2_,x3_,x4_,x5_,x6_,x7_⟩ ((Ac s k a c e u v).1)∧r_=(Ac s k a c e u v).2):=by
 unfold A7 at hI
 unfold Abr
 try unfold AB
 try unfold A7
 try unfold Ah
 try unfold AC
 try unfold A8
 try unfold AL
 try unfold Aw
 try unfold AO
 try unfold Ai
 try unfold AP
 try unfold Ag
 obtain ⟨hR,rfl,hA,rfl⟩:=hI
 exact ⟨⟨⟨hR.n,hR.z,by show Ko _ _ _ 0=_;rw [←hR.eq];rfl⟩,by decide,by decide,rfl,hA,rfl⟩,BU⟩
theorem AiW (s:RS) (k a c e u v:Int) (hp0:s.a.length≤1000) (t_ p_ h_:Int) (n_:Nat) (a_ z_:LI) (r0_ r1_ r2_ r3_ r4_ r5_ r6_ r7_ i_:Int) (hI:Ah s k a c e u v t_ p_ h_ n_ a_ z_ r0_ r1_ r2_ r3_ r4_ r5_ r6_ r7_ i_):i_=0∨i_=1∨i_=2∨i_=3∨i_=4∨i_=5∨i_=6∨i_=7∨i_=8:=by
 unfold Ah at hI
 omega
theorem Abx (s:RS) (k a c e u v:Int) (hp0:s.a.length≤1000) (t_ p_ h_:Int) (n_:Nat) (a_ z_:LI) (r0_ r1_ r2_ r3_ r4_ r5_ r6_ r7_:Int) (hI:Ah s k a c e u v t_ p_ h_ n_ a_ z_ r0_ r1_ r2_ r3_ r4_ r5_ r6_ r7_ (0:Int)):Vm s k a c e u v t_ p_ h_ n_ a_ z_ r0_ r1_ r2_ r3_ r4_ r5_ r6_ r7_ (λq_'=>AB s k a c e u v q_'∧lx (20,0,0) (18,(8-(0:Int)).toNat,0)) (λt_' p_' h_' n_' a_' z_' r0_' r1_' r2_' r3_' r4_' r5_' r6_' r7_'=>A7 s k a c e u v t_' p_' h_' n_' a_' z_' r0_' r1_' r2_' r3_' r4_' r5_' r6_' r7_'∧lx (19,0,0) (18,(8-(0:Int)).toNat,0)) (λt_' p_' h_' n_' a_' z_' r0_' r1_' r2_' r3_' r4_' r5_' r6_' r7_' i_'=>Ah s k a c e u v t_' p_' h_' n_' a_' z_' r0_' r1_' r2_' r3_' r4_' r5_' r6_' r7_' i_'∧lx (18,(8-i_').toNat,0) (18,(8-(0:Int)).toNat,0)) (λk_'=>AC s k a c e u v k_'∧lx (17,0,0) (18,(8-(0:Int)).toNat,0)) (λt_' p_' h_' n_' a_' z_' r0_' r1_' r2_' r3_' r4_' r5_' r6_' r7_' k_'=>A8 s k a c e u v t_' p_' h_' n_' a_' z_' r0_' r1_' r2_' r3_' r4_' r5_' r6_' r7_' k_'∧lx (16,0,0) (18,(8-(0:Int)).toNat,0)) (λt_' p_' h_' n_' a_' z_' r0_' r1_' r2_' r3_' r4_' r5_' r6_' r7_' w_'=>AL s k a c e u v t_' p_' h_' n_' a_' z_' r0_' r1_' r2_' r3_' r4_' r5_' r6_' r7_' w_'∧lx (15,0,0) (18,(8-(0:Int)).toNat,0)) (λw_'=>Aw s k a c e u v w_'∧lx (14,0,0) (18,(8-(0:Int)).toNat,0)) (λq_' i_'=>AO s k a c e u v q_' i_'∧lx (13,0,0) (18,(8-(0:Int)).toNat,0)) (λt_' p_' h_' n_' a_' z_' r0_' r1_' r2_' r3_' r4_' r5_' r6_' r7_' i_'=>Ai s k a c e u v t_' p_' h_' n_' a_' z_' r0_' r1_' r2_' r3_' r4_' r5_' r6_' r7_' i_'∧lx (12,0,0) (18,(8-(0:Int)).toNat,0)) (λi_'=>AP s k a c e u v i_'∧lx (11,0,0) (18,(8-(0:Int)).toNat,0)) (λt_' p_' h_' n_' a_' z_' r0_' r1_' r2_' r3_' r4_' r5_' r6_' r7_' i_'=>Ag s k a c e u v t_' p_' h_' n_' a_' z_' r0_' r1_' r2_' r3_' r4_' r5_' r6_' r7_' i_'∧lx (10,0,0) (18,(8-(0:Int)).toNat,0)) (λr__=>r__=(Ac s k a c e u v)) (λt_ p_ h_ n_ al_ zl_ x0_ x1_ x2_ x3_ x4_ x5_ x6_ x7_ r_=>BI ⟨t_,p_,h_,n_,al_,zl_,x0_,x1_,x2_,x3_,x4_,x5_,x6_,x7_⟩ ((Ac s k a c e u v).1)∧r_=(Ac s k a c e u v).2):=by
 unfold Ah at hI
 unfold Vm
 try unfold AB
 try unfold A7
 try unfold Ah
 try unfold AC
 try unfold A8
 try unfold AL
 try unfold Aw
 try unfold AO
 try unfold Ai
 try unfold AP
 try unfold Ag
 obtain ⟨hR,_,_,rfl,hA,rfl⟩:=hI
 have hE:=hR.eq
 injection hE with e1 e2 e3 e4 e5 f0 f1 f2 f3 f4 f5 f6 f7
 refine ⟨λ_=>⟨by decide, λ_=>⟨λe=>⟨by decide, λ_=>⟨⟨⟨hR.n,hR.z,?_⟩,by decide,by decide,rfl,hA,rfl⟩,BU⟩⟩, λe=>⟨⟨⟨hR.n,hR.z,?_⟩,by decide,by decide,rfl,hA,rfl⟩,BU⟩⟩⟩, λh=>(by cases h)⟩
 ·have g:DX (DI (Dz s (CY s.a a)) u v).r0 a u 1 0=u:=by
   have f:(DI (Dz s (CY s.a a)) u v).r0=r0_:=f0
   unfold DX;rw [f,e];rfl
  simp only [Ko,RS.mk.injEq]
  exact ⟨e1,e2,e3,e4,e5,g,f1,f2,f3,f4,f5,f6,f7⟩
 ·have g:DX (DI (Dz s (CY s.a a)) u v).r0 a u 1 0=r0_:=by
   have f:(DI (Dz s (CY s.a a)) u v).r0=r0_:=f0
   unfold DX;rw [f,e];rfl
  simp only [Ko,RS.mk.injEq]
  exact ⟨e1,e2,e3,e4,e5,g,f1,f2,f3,f4,f5,f6,f7⟩
theorem Aby (s:RS) (k a c e u v:Int) (hp0:s.a.length≤1000) (t_ p_ h_:Int) (n_:Nat) (a_ z_:LI) (r0_ r1_ r2_ r3_ r4_ r5_ r6_ r7_:Int) (hI:Ah s k a c e u v t_ p_ h_ n_ a_ z_ r0_ r1_ r2_ r3_ r4_ r5_ r6_ r7_ (1:Int)):Vo s k a c e u v t_ p_ h_ n_ a_ z_ r0_ r1_ r2_ r3_ r4_ r5_ r6_ r7_ (λq_'=>AB s k a c e u v q_'∧lx (20,0,0) (18,(8-(1:Int)).toNat,0)) (λt_' p_' h_' n_' a_' z_' r0_' r1_' r2_' r3_' r4_' r5_' r6_' r7_'=>A7 s k a c e u v t_' p_' h_' n_' a_' z_' r0_' r1_' r2_' r3_' r4_' r5_' r6_' r7_'∧lx (19,0,0) (18,(8-(1:Int)).toNat,0)) (λt_' p_' h_' n_' a_' z_' r0_' r1_' r2_' r3_' r4_' r5_' r6_' r7_' i_'=>Ah s k a c e u v t_' p_' h_' n_' a_' z_' r0_' r1_' r2_' r3_' r4_' r5_' r6_' r7_' i_'∧lx (18,(8-i_').toNat,0) (18,(8-(1:Int)).toNat,0)) (λk_'=>AC s k a c e u v k_'∧lx (17,0,0) (18,(8-(1:Int)).toNat,0)) (λt_' p_' h_' n_' a_' z_' r0_' r1_' r2_' r3_' r4_' r5_' r6_' r7_' k_'=>A8 s k a c e u v t_' p_' h_' n_' a_' z_' r0_' r1_' r2_' r3_' r4_' r5_' r6_' r7_' k_'∧lx (16,0,0) (18,(8-(1:Int)).toNat,0)) (λt_' p_' h_' n_' a_' z_' r0_' r1_' r2_' r3_' r4_' r5_' r6_' r7_' w_'=>AL s k a c e u v t_' p_' h_' n_' a_' z_' r0_' r1_' r2_' r3_' r4_' r5_' r6_' r7_' w_'∧lx (15,0,0) (18,(8-(1:Int)).toNat,0)) (λw_'=>Aw s k a c e u v w_'∧lx (14,0,0) (18,(8-(1:Int)).toNat,0)) (λq_' i_'=>AO s k a c e u v q_' i_'∧lx (13,0,0) (18,(8-(1:Int)).toNat,0)) (λt_' p_' h_' n_' a_' z_' r0_' r1_' r2_' r3_' r4_' r5_' r6_' r7_' i_'=>Ai s k a c e u v t_' p_' h_' n_' a_' z_' r0_' r1_' r2_' r3_' r4_' r5_' r6_' r7_' i_'∧lx (12,0,0) (18,(8-(1:Int)).toNat,0)) (λi_'=>AP s k a c e u v i_'∧lx (11,0,0) (18,(8-(1:Int)).toNat,0)) (λt_' p_' h_' n_' a_' z_' r0_' r1_' r2_' r3_' r4_' r5_' r6_' r7_' i_'=>Ag s k a c e u v t_' p_' h_' n_' a_' z_' r0_' r1_' r2_' r3_' r4_' r5_' r6_' r7_' i_'∧lx (10,0,0) (18,(8-(1:Int)).toNat,0)) (λr__=>r__=(Ac s k a c e u v)) (λt_ p_ h_ n_ al_ zl_ x0_ x1_ x2_ x3_ x4_ x5_ x6_ x7_ r_=>BI ⟨t_,p_,h_,n_,al_,zl_,x0_,x1_,x2_,x3_,x4_,x5_,x6_,x7_⟩ ((Ac s k a c e u v).1)∧r_=(Ac s k a c e u v).2):=by
 unfold Ah at hI
 unfold Vo
 try unfold AB
 try unfold A7
 try unfold Ah
 try unfold AC
 try unfold A8
 try unfold AL
 try unfold Aw
 try unfold AO
 try unfold Ai
 try unfold AP
 try unfold Ag
 obtain ⟨hR,_,_,rfl,hA,rfl⟩:=hI
 have hE:=hR.eq
 injection hE with e1 e2 e3 e4 e5 f0 f1 f2 f3 f4 f5 f6 f7
 refine ⟨λ_=>⟨by decide, λ_=>⟨λe=>⟨by decide, λ_=>⟨⟨⟨hR.n,hR.z,?_⟩,by decide,by decide,rfl,hA,rfl⟩,BU⟩⟩, λe=>⟨⟨⟨hR.n,hR.z,?_⟩,by decide,by decide,rfl,hA,rfl⟩,BU⟩⟩⟩, λh=>(by cases h)⟩
 ·have g:DX (DI (Dz s (CY s.a a)) u v).r1 a u 2 1=u:=by
   have f:(DI (Dz s (CY s.a a)) u v).r1=r1_:=f1
   unfold DX;rw [f,e];rfl
  simp only [Ko,RS.mk.injEq]
  exact ⟨e1,e2,e3,e4,e5,f0,g,f2,f3,f4,f5,f6,f7⟩
 ·have g:DX (DI (Dz s (CY s.a a)) u v).r1 a u 2 1=r1_:=by
   have f:(DI (Dz s (CY s.a a)) u v).r1=r1_:=f1
   unfold DX;rw [f,e];rfl
  simp only [Ko,RS.mk.injEq]
  exact ⟨e1,e2,e3,e4,e5,f0,g,f2,f3,f4,f5,f6,f7⟩
theorem Abz (s:RS) (k a c e u v:Int) (hp0:s.a.length≤1000) (t_ p_ h_:Int) (n_:Nat) (a_ z_:LI) (r0_ r1_ r2_ r3_ r4_ r5_ r6_ r7_:Int) (hI:Ah s k a c e u v t_ p_ h_ n_ a_ z_ r0_ r1_ r2_ r3_ r4_ r5_ r6_ r7_ (2:Int)):Vp s k a c e u v t_ p_ h_ n_ a_ z_ r0_ r1_ r2_ r3_ r4_ r5_ r6_ r7_ (λq_'=>AB s k a c e u v q_'∧lx (20,0,0) (18,(8-(2:Int)).toNat,0)) (λt_' p_' h_' n_' a_' z_' r0_' r1_' r2_' r3_' r4_' r5_' r6_' r7_'=>A7 s k a c e u v t_' p_' h_' n_' a_' z_' r0_' r1_' r2_' r3_' r4_' r5_' r6_' r7_'∧lx (19,0,0) (18,(8-(2:Int)).toNat,0)) (λt_' p_' h_' n_' a_' z_' r0_' r1_' r2_' r3_' r4_' r5_' r6_' r7_' i_'=>Ah s k a c e u v t_' p_' h_' n_' a_' z_' r0_' r1_' r2_' r3_' r4_' r5_' r6_' r7_' i_'∧lx (18,(8-i_').toNat,0) (18,(8-(2:Int)).toNat,0)) (λk_'=>AC s k a c e u v k_'∧lx (17,0,0) (18,(8-(2:Int)).toNat,0)) (λt_' p_' h_' n_' a_' z_' r0_' r1_' r2_' r3_' r4_' r5_' r6_' r7_' k_'=>A8 s k a c e u v t_' p_' h_' n_' a_' z_' r0_' r1_' r2_' r3_' r4_' r5_' r6_' r7_' k_'∧lx (16,0,0) (18,(8-(2:Int)).toNat,0)) (λt_' p_' h_' n_' a_' z_' r0_' r1_' r2_' r3_' r4_' r5_' r6_' r7_' w_'=>AL s k a c e u v t_' p_' h_' n_' a_' z_' r0_' r1_' r2_' r3_' r4_' r5_' r6_' r7_' w_'∧lx (15,0,0) (18,(8-(2:Int)).toNat,0)) (λw_'=>Aw s k a c e u v w_'∧lx (14,0,0) (18,(8-(2:Int)).toNat,0)) (λq_' i_'=>AO s k a c e u v q_' i_'∧lx (13,0,0) (18,(8-(2:Int)).toNat,0)) (λt_' p_' h_' n_' a_' z_' r0_' r1_' r2_' r3_' r4_' r5_' r6_' r7_' i_'=>Ai s k a c e u v t_' p_' h_' n_' a_' z_' r0_' r1_' r2_' r3_' r4_' r5_' r6_' r7_' i_'∧lx (12,0,0) (18,(8-(2:Int)).toNat,0)) (λi_'=>AP s k a c e u v i_'∧lx (11,0,0) (18,(8-(2:Int)).toNat,0)) (λt_' p_' h_' n_' a_' z_' r0_' r1_' r2_' r3_' r4_' r5_' r6_' r7_' i_'=>Ag s k a c e u v t_' p_' h_' n_' a_' z_' r0_' r1_' r2_' r3_' r4_' r5_' r6_' r7_' i_'∧lx (10,0,0) (18,(8-(2:Int)).toNat,0)) (λr__=>r__=(Ac s k a c e u v)) (λt_ p_ h_ n_ al_ zl_ x0_ x1_ x2_ x3_ x4_ x5_ x6_ x7_ r_=>BI ⟨t_,p_,h_,n_,al_,zl_,x0_,x1_,x2_,x3_,x4_,x5_,x6_,x7_⟩ ((Ac s k a c e u v).1)∧r_=(Ac s k a c e u v).2):=by
 unfold Ah at hI
 unfold Vp
 try unfold AB
 try unfold A7
 try unfold Ah
 try unfold AC
 try unfold A8
 try unfold AL
 try unfold Aw
 try unfold AO
 try unfold Ai
 try unfold AP
 try unfold Ag
 obtain ⟨hR,_,_,rfl,hA,rfl⟩:=hI
 have hE:=hR.eq
 injection hE with e1 e2 e3 e4 e5 f0 f1 f2 f3 f4 f5 f6 f7
 refine ⟨λ_=>⟨by decide, λ_=>⟨λe=>⟨by decide, λ_=>⟨⟨⟨hR.n,hR.z,?_⟩,by decide,by decide,rfl,hA,rfl⟩,BU⟩⟩, λe=>⟨⟨⟨hR.n,hR.z,?_⟩,by decide,by decide,rfl,hA,rfl⟩,BU⟩⟩⟩, λh=>(by cases h)⟩
 ·have g:DX (DI (Dz s (CY s.a a)) u v).r2 a u 3 2=u:=by
   have f:(DI (Dz s (CY s.a a)) u v).r2=r2_:=f2
   unfold DX;rw [f,e];rfl
  simp only [Ko,RS.mk.injEq]
  exact ⟨e1,e2,e3,e4,e5,f0,f1,g,f3,f4,f5,f6,f7⟩
 ·have g:DX (DI (Dz s (CY s.a a)) u v).r2 a u 3 2=r2_:=by
   have f:(DI (Dz s (CY s.a a)) u v).r2=r2_:=f2
   unfold DX;rw [f,e];rfl
  simp only [Ko,RS.mk.injEq]
  exact ⟨e1,e2,e3,e4,e5,f0,f1,g,f3,f4,f5,f6,f7⟩
theorem Ab0 (s:RS) (k a c e u v:Int) (hp0:s.a.length≤1000) (t_ p_ h_:Int) (n_:Nat) (a_ z_:LI) (r0_ r1_ r2_ r3_ r4_ r5_ r6_ r7_:Int) (hI:Ah s k a c e u v t_ p_ h_ n_ a_ z_ r0_ r1_ r2_ r3_ r4_ r5_ r6_ r7_ (3:Int)):Vq s k a c e u v t_ p_ h_ n_ a_ z_ r0_ r1_ r2_ r3_ r4_ r5_ r6_ r7_ (λq_'=>AB s k a c e u v q_'∧lx (20,0,0) (18,(8-(3:Int)).toNat,0)) (λt_' p_' h_' n_' a_' z_' r0_' r1_' r2_' r3_' r4_' r5_' r6_' r7_'=>A7 s k a c e u v t_' p_' h_' n_' a_' z_' r0_' r1_' r2_' r3_' r4_' r5_' r6_' r7_'∧lx (19,0,0) (18,(8-(3:Int)).toNat,0)) (λt_' p_' h_' n_' a_' z_' r0_' r1_' r2_' r3_' r4_' r5_' r6_' r7_' i_'=>Ah s k a c e u v t_' p_' h_' n_' a_' z_' r0_' r1_' r2_' r3_' r4_' r5_' r6_' r7_' i_'∧lx (18,(8-i_').toNat,0) (18,(8-(3:Int)).toNat,0)) (λk_'=>AC s k a c e u v k_'∧lx (17,0,0) (18,(8-(3:Int)).toNat,0)) (λt_' p_' h_' n_' a_' z_' r0_' r1_' r2_' r3_' r4_' r5_' r6_' r7_' k_'=>A8 s k a c e u v t_' p_' h_' n_' a_' z_' r0_' r1_' r2_' r3_' r4_' r5_' r6_' r7_' k_'∧lx (16,0,0) (18,(8-(3:Int)).toNat,0)) (λt_' p_' h_' n_' a_' z_' r0_' r1_' r2_' r3_' r4_' r5_' r6_' r7_' w_'=>AL s k a c e u v t_' p_' h_' n_' a_' z_' r0_' r1_' r2_' r3_' r4_' r5_' r6_' r7_' w_'∧lx (15,0,0) (18,(8-(3:Int)).toNat,0)) (λw_'=>Aw s k a c e u v w_'∧lx (14,0,0) (18,(8-(3:Int)).toNat,0)) (λq_' i_'=>AO s k a c e u v q_' i_'∧lx (13,0,0) (18,(8-(3:Int)).toNat,0)) (λt_' p_' h_' n_' a_' z_' r0_' r1_' r2_' r3_' r4_' r5_' r6_' r7_' i_'=>Ai s k a c e u v t_' p_' h_' n_' a_' z_' r0_' r1_' r2_' r3_' r4_' r5_' r6_' r7_' i_'∧lx (12,0,0) (18,(8-(3:Int)).toNat,0)) (λi_'=>AP s k a c e u v i_'∧lx (11,0,0) (18,(8-(3:Int)).toNat,0)) (λt_' p_' h_' n_' a_' z_' r0_' r1_' r2_' r3_' r4_' r5_' r6_' r7_' i_'=>Ag s k a c e u v t_' p_' h_' n_' a_' z_' r0_' r1_' r2_' r3_' r4_' r5_' r6_' r7_' i_'∧lx (10,0,0) (18,(8-(3:Int)).toNat,0)) (λr__=>r__=(Ac s k a c e u v)) (λt_ p_ h_ n_ al_ zl_ x0_ x1_ x2_ x3_ x4_ x5_ x6_ x7_ r_=>BI ⟨t_,p_,h_,n_,al_,zl_,x0_,x1_,x2_,x3_,x4_,x5_,x6_,x7_⟩ ((Ac s k a c e u v).1)∧r_=(Ac s k a c e u v).2):=by
 unfold Ah at hI
 unfold Vq
 try unfold AB
 try unfold A7
 try unfold Ah
 try unfold AC
 try unfold A8
 try unfold AL
 try unfold Aw
 try unfold AO
 try unfold Ai
 try unfold AP
 try unfold Ag
 obtain ⟨hR,_,_,rfl,hA,rfl⟩:=hI
 have hE:=hR.eq
 injection hE with e1 e2 e3 e4 e5 f0 f1 f2 f3 f4 f5 f6 f7
 refine ⟨λ_=>⟨by decide, λ_=>⟨λe=>⟨by decide, λ_=>⟨⟨⟨hR.n,hR.z,?_⟩,by decide,by decide,rfl,hA,rfl⟩,BU⟩⟩, λe=>⟨⟨⟨hR.n,hR.z,?_⟩,by decide,by decide,rfl,hA,rfl⟩,BU⟩⟩⟩, λh=>(by cases h)⟩
 ·have g:DX (DI (Dz s (CY s.a a)) u v).r3 a u 4 3=u:=by
   have f:(DI (Dz s (CY s.a a)) u v).r3=r3_:=f3
   unfold DX;rw [f,e];rfl
  simp only [Ko,RS.mk.injEq]
  exact ⟨e1,e2,e3,e4,e5,f0,f1,f2,g,f4,f5,f6,f7⟩
 ·have g:DX (DI (Dz s (CY s.a a)) u v).r3 a u 4 3=r3_:=by
   have f:(DI (Dz s (CY s.a a)) u v).r3=r3_:=f3
   unfold DX;rw [f,e];rfl
  simp only [Ko,RS.mk.injEq]
  exact ⟨e1,e2,e3,e4,e5,f0,f1,f2,g,f4,f5,f6,f7⟩
theorem Ab1 (s:RS) (k a c e u v:Int) (hp0:s.a.length≤1000) (t_ p_ h_:Int) (n_:Nat) (a_ z_:LI) (r0_ r1_ r2_ r3_ r4_ r5_ r6_ r7_:Int) (hI:Ah s k a c e u v t_ p_ h_ n_ a_ z_ r0_ r1_ r2_ r3_ r4_ r5_ r6_ r7_ (4:Int)):Vr s k a c e u v t_ p_ h_ n_ a_ z_ r0_ r1_ r2_ r3_ r4_ r5_ r6_ r7_ (λq_'=>AB s k a c e u v q_'∧lx (20,0,0) (18,(8-(4:Int)).toNat,0)) (λt_' p_' h_' n_' a_' z_' r0_' r1_' r2_' r3_' r4_' r5_' r6_' r7_'=>A7 s k a c e u v t_' p_' h_' n_' a_' z_' r0_' r1_' r2_' r3_' r4_' r5_' r6_' r7_'∧lx (19,0,0) (18,(8-(4:Int)).toNat,0)) (λt_' p_' h_' n_' a_' z_' r0_' r1_' r2_' r3_' r4_' r5_' r6_' r7_' i_'=>Ah s k a c e u v t_' p_' h_' n_' a_' z_' r0_' r1_' r2_' r3_' r4_' r5_' r6_' r7_' i_'∧lx (18,(8-i_').toNat,0) (18,(8-(4:Int)).toNat,0)) (λk_'=>AC s k a c e u v k_'∧lx (17,0,0) (18,(8-(4:Int)).toNat,0)) (λt_' p_' h_' n_' a_' z_' r0_' r1_' r2_' r3_' r4_' r5_' r6_' r7_' k_'=>A8 s k a c e u v t_' p_' h_' n_' a_' z_' r0_' r1_' r2_' r3_' r4_' r5_' r6_' r7_' k_'∧lx (16,0,0) (18,(8-(4:Int)).toNat,0)) (λt_' p_' h_' n_' a_' z_' r0_' r1_' r2_' r3_' r4_' r5_' r6_' r7_' w_'=>AL s k a c e u v t_' p_' h_' n_' a_' z_' r0_' r1_' r2_' r3_' r4_' r5_' r6_' r7_' w_'∧lx (15,0,0) (18,(8-(4:Int)).toNat,0)) (λw_'=>Aw s k a c e u v w_'∧lx (14,0,0) (18,(8-(4:Int)).toNat,0)) (λq_' i_'=>AO s k a c e u v q_' i_'∧lx (13,0,0) (18,(8-(4:Int)).toNat,0)) (λt_' p_' h_' n_' a_' z_' r0_' r1_' r2_' r3_' r4_' r5_' r6_' r7_' i_'=>Ai s k a c e u v t_' p_' h_' n_' a_' z_' r0_' r1_' r2_' r3_' r4_' r5_' r6_' r7_' i_'∧lx (12,0,0) (18,(8-(4:Int)).toNat,0)) (λi_'=>AP s k a c e u v i_'∧lx (11,0,0) (18,(8-(4:Int)).toNat,0)) (λt_' p_' h_' n_' a_' z_' r0_' r1_' r2_' r3_' r4_' r5_' r6_' r7_' i_'=>Ag s k a c e u v t_' p_' h_' n_' a_' z_' r0_' r1_' r2_' r3_' r4_' r5_' r6_' r7_' i_'∧lx (10,0,0) (18,(8-(4:Int)).toNat,0)) (λr__=>r__=(Ac s k a c e u v)) (λt_ p_ h_ n_ al_ zl_ x0_ x1_ x2_ x3_ x4_ x5_ x6_ x7_ r_=>BI ⟨t_,p_,h_,n_,al_,zl_,x0_,x1_,x2_,x3_,x4_,x5_,x6_,x7_⟩ ((Ac s k a c e u v).1)∧r_=(Ac s k a c e u v).2):=by
 unfold Ah at hI
 unfold Vr
 try unfold AB
 try unfold A7
 try unfold Ah
 try unfold AC
 try unfold A8
 try unfold AL
 try unfold Aw
 try unfold AO
 try unfold Ai
 try unfold AP
 try unfold Ag
 obtain ⟨hR,_,_,rfl,hA,rfl⟩:=hI
 have hE:=hR.eq
 injection hE with e1 e2 e3 e4 e5 f0 f1 f2 f3 f4 f5 f6 f7
 refine ⟨λ_=>⟨by decide, λ_=>⟨λe=>⟨by decide, λ_=>⟨⟨⟨hR.n,hR.z,?_⟩,by decide,by decide,rfl,hA,rfl⟩,BU⟩⟩, λe=>⟨⟨⟨hR.n,hR.z,?_⟩,by decide,by decide,rfl,hA,rfl⟩,BU⟩⟩⟩, λh=>(by cases h)⟩
 ·have g:DX (DI (Dz s (CY s.a a)) u v).r4 a u 5 4=u:=by
   have f:(DI (Dz s (CY s.a a)) u v).r4=r4_:=f4
   unfold DX;rw [f,e];rfl
  simp only [Ko,RS.mk.injEq]
  exact ⟨e1,e2,e3,e4,e5,f0,f1,f2,f3,g,f5,f6,f7⟩
 ·have g:DX (DI (Dz s (CY s.a a)) u v).r4 a u 5 4=r4_:=by
   have f:(DI (Dz s (CY s.a a)) u v).r4=r4_:=f4
   unfold DX;rw [f,e];rfl
  simp only [Ko,RS.mk.injEq]
  exact ⟨e1,e2,e3,e4,e5,f0,f1,f2,f3,g,f5,f6,f7⟩
theorem Ab2 (s:RS) (k a c e u v:Int) (hp0:s.a.length≤1000) (t_ p_ h_:Int) (n_:Nat) (a_ z_:LI) (r0_ r1_ r2_ r3_ r4_ r5_ r6_ r7_:Int) (hI:Ah s k a c e u v t_ p_ h_ n_ a_ z_ r0_ r1_ r2_ r3_ r4_ r5_ r6_ r7_ (5:Int)):Vs s k a c e u v t_ p_ h_ n_ a_ z_ r0_ r1_ r2_ r3_ r4_ r5_ r6_ r7_ (λq_'=>AB s k a c e u v q_'∧lx (20,0,0) (18,(8-(5:Int)).toNat,0)) (λt_' p_' h_' n_' a_' z_' r0_' r1_' r2_' r3_' r4_' r5_' r6_' r7_'=>A7 s k a c e u v t_' p_' h_' n_' a_' z_' r0_' r1_' r2_' r3_' r4_' r5_' r6_' r7_'∧lx (19,0,0) (18,(8-(5:Int)).toNat,0)) (λt_' p_' h_' n_' a_' z_' r0_' r1_' r2_' r3_' r4_' r5_' r6_' r7_' i_'=>Ah s k a c e u v t_' p_' h_' n_' a_' z_' r0_' r1_' r2_' r3_' r4_' r5_' r6_' r7_' i_'∧lx (18,(8-i_').toNat,0) (18,(8-(5:Int)).toNat,0)) (λk_'=>AC s k a c e u v k_'∧lx (17,0,0) (18,(8-(5:Int)).toNat,0)) (λt_' p_' h_' n_' a_' z_' r0_' r1_' r2_' r3_' r4_' r5_' r6_' r7_' k_'=>A8 s k a c e u v t_' p_' h_' n_' a_' z_' r0_' r1_' r2_' r3_' r4_' r5_' r6_' r7_' k_'∧lx (16,0,0) (18,(8-(5:Int)).toNat,0)) (λt_' p_' h_' n_' a_' z_' r0_' r1_' r2_' r3_' r4_' r5_' r6_' r7_' w_'=>AL s k a c e u v t_' p_' h_' n_' a_' z_' r0_' r1_' r2_' r3_' r4_' r5_' r6_' r7_' w_'∧lx (15,0,0) (18,(8-(5:Int)).toNat,0)) (λw_'=>Aw s k a c e u v w_'∧lx (14,0,0) (18,(8-(5:Int)).toNat,0)) (λq_' i_'=>AO s k a c e u v q_' i_'∧lx (13,0,0) (18,(8-(5:Int)).toNat,0)) (λt_' p_' h_' n_' a_' z_' r0_' r1_' r2_' r3_' r4_' r5_' r6_' r7_' i_'=>Ai s k a c e u v t_' p_' h_' n_' a_' z_' r0_' r1_' r2_' r3_' r4_' r5_' r6_' r7_' i_'∧lx (12,0,0) (18,(8-(5:Int)).toNat,0)) (λi_'=>AP s k a c e u v i_'∧lx (11,0,0) (18,(8-(5:Int)).toNat,0)) (λt_' p_' h_' n_' a_' z_' r0_' r1_' r2_' r3_' r4_' r5_' r6_' r7_' i_'=>Ag s k a c e u v t_' p_' h_' n_' a_' z_' r0_' r1_' r2_' r3_' r4_' r5_' r6_' r7_' i_'∧lx (10,0,0) (18,(8-(5:Int)).toNat,0)) (λr__=>r__=(Ac s k a c e u v)) (λt_ p_ h_ n_ al_ zl_ x0_ x1_ x2_ x3_ x4_ x5_ x6_ x7_ r_=>BI ⟨t_,p_,h_,n_,al_,zl_,x0_,x1_,x2_,x3_,x4_,x5_,x6_,x7_⟩ ((Ac s k a c e u v).1)∧r_=(Ac s k a c e u v).2):=by
 unfold Ah at hI
 unfold Vs
 try unfold AB
 try unfold A7
 try unfold Ah
 try unfold AC
 try unfold A8
 try unfold AL
 try unfold Aw
 try unfold AO
 try unfold Ai
 try unfold AP
 try unfold Ag
 obtain ⟨hR,_,_,rfl,hA,rfl⟩:=hI
 have hE:=hR.eq
 injection hE with e1 e2 e3 e4 e5 f0 f1 f2 f3 f4 f5 f6 f7
 refine ⟨λ_=>⟨by decide, λ_=>⟨λe=>⟨by decide, λ_=>⟨⟨⟨hR.n,hR.z,?_⟩,by decide,by decide,rfl,hA,rfl⟩,BU⟩⟩, λe=>⟨⟨⟨hR.n,hR.z,?_⟩,by decide,by decide,rfl,hA,rfl⟩,BU⟩⟩⟩, λh=>(by cases h)⟩
 ·have g:DX (DI (Dz s (CY s.a a)) u v).r5 a u 6 5=u:=by
   have f:(DI (Dz s (CY s.a a)) u v).r5=r5_:=f5
   unfold DX;rw [f,e];rfl
  simp only [Ko,RS.mk.injEq]
  exact ⟨e1,e2,e3,e4,e5,f0,f1,f2,f3,f4,g,f6,f7⟩
 ·have g:DX (DI (Dz s (CY s.a a)) u v).r5 a u 6 5=r5_:=by
   have f:(DI (Dz s (CY s.a a)) u v).r5=r5_:=f5
   unfold DX;rw [f,e];rfl
  simp only [Ko,RS.mk.injEq]
  exact ⟨e1,e2,e3,e4,e5,f0,f1,f2,f3,f4,g,f6,f7⟩
theorem Ab3 (s:RS) (k a c e u v:Int) (hp0:s.a.length≤1000) (t_ p_ h_:Int) (n_:Nat) (a_ z_:LI) (r0_ r1_ r2_ r3_ r4_ r5_ r6_ r7_:Int) (hI:Ah s k a c e u v t_ p_ h_ n_ a_ z_ r0_ r1_ r2_ r3_ r4_ r5_ r6_ r7_ (6:Int)):Vt s k a c e u v t_ p_ h_ n_ a_ z_ r0_ r1_ r2_ r3_ r4_ r5_ r6_ r7_ (λq_'=>AB s k a c e u v q_'∧lx (20,0,0) (18,(8-(6:Int)).toNat,0)) (λt_' p_' h_' n_' a_' z_' r0_' r1_' r2_' r3_' r4_' r5_' r6_' r7_'=>A7 s k a c e u v t_' p_' h_' n_' a_' z_' r0_' r1_' r2_' r3_' r4_' r5_' r6_' r7_'∧lx (19,0,0) (18,(8-(6:Int)).toNat,0)) (λt_' p_' h_' n_' a_' z_' r0_' r1_' r2_' r3_' r4_' r5_' r6_' r7_' i_'=>Ah s k a c e u v t_' p_' h_' n_' a_' z_' r0_' r1_' r2_' r3_' r4_' r5_' r6_' r7_' i_'∧lx (18,(8-i_').toNat,0) (18,(8-(6:Int)).toNat,0)) (λk_'=>AC s k a c e u v k_'∧lx (17,0,0) (18,(8-(6:Int)).toNat,0)) (λt_' p_' h_' n_' a_' z_' r0_' r1_' r2_' r3_' r4_' r5_' r6_' r7_' k_'=>A8 s k a c e u v t_' p_' h_' n_' a_' z_' r0_' r1_' r2_' r3_' r4_' r5_' r6_' r7_' k_'∧lx (16,0,0) (18,(8-(6:Int)).toNat,0)) (λt_' p_' h_' n_' a_' z_' r0_' r1_' r2_' r3_' r4_' r5_' r6_' r7_' w_'=>AL s k a c e u v t_' p_' h_' n_' a_' z_' r0_' r1_' r2_' r3_' r4_' r5_' r6_' r7_' w_'∧lx (15,0,0) (18,(8-(6:Int)).toNat,0)) (λw_'=>Aw s k a c e u v w_'∧lx (14,0,0) (18,(8-(6:Int)).toNat,0)) (λq_' i_'=>AO s k a c e u v q_' i_'∧lx (13,0,0) (18,(8-(6:Int)).toNat,0)) (λt_' p_' h_' n_' a_' z_' r0_' r1_' r2_' r3_' r4_' r5_' r6_' r7_' i_'=>Ai s k a c e u v t_' p_' h_' n_' a_' z_' r0_' r1_' r2_' r3_' r4_' r5_' r6_' r7_' i_'∧lx (12,0,0) (18,(8-(6:Int)).toNat,0)) (λi_'=>AP s k a c e u v i_'∧lx (11,0,0) (18,(8-(6:Int)).toNat,0)) (λt_' p_' h_' n_' a_' z_' r0_' r1_' r2_' r3_' r4_' r5_' r6_' r7_' i_'=>Ag s k a c e u v t_' p_' h_' n_' a_' z_' r0_' r1_' r2_' r3_' r4_' r5_' r6_' r7_' i_'∧lx (10,0,0) (18,(8-(6:Int)).toNat,0)) (λr__=>r__=(Ac s k a c e u v)) (λt_ p_ h_ n_ al_ zl_ x0_ x1_ x2_ x3_ x4_ x5_ x6_ x7_ r_=>BI ⟨t_,p_,h_,n_,al_,zl_,x0_,x1_,x2_,x3_,x4_,x5_,x6_,x7_⟩ ((Ac s k a c e u v).1)∧r_=(Ac s k a c e u v).2):=by
 unfold Ah at hI
 unfold Vt
 try unfold AB
 try unfold A7
 try unfold Ah
 try unfold AC
 try unfold A8
 try unfold AL
 try unfold Aw
 try unfold AO
 try unfold Ai
 try unfold AP
 try unfold Ag
 obtain ⟨hR,_,_,rfl,hA,rfl⟩:=hI
 have hE:=hR.eq
 injection hE with e1 e2 e3 e4 e5 f0 f1 f2 f3 f4 f5 f6 f7
 refine ⟨λ_=>⟨by decide, λ_=>⟨λe=>⟨by decide, λ_=>⟨⟨⟨hR.n,hR.z,?_⟩,by decide,by decide,rfl,hA,rfl⟩,BU⟩⟩, λe=>⟨⟨⟨hR.n,hR.z,?_⟩,by decide,by decide,rfl,hA,rfl⟩,BU⟩⟩⟩, λh=>(by cases h)⟩
 ·have g:DX (DI (Dz s (CY s.a a)) u v).r6 a u 7 6=u:=by
   have f:(DI (Dz s (CY s.a a)) u v).r6=r6_:=f6
   unfold DX;rw [f,e];rfl
  simp only [Ko,RS.mk.injEq]
  exact ⟨e1,e2,e3,e4,e5,f0,f1,f2,f3,f4,f5,g,f7⟩
 ·have g:DX (DI (Dz s (CY s.a a)) u v).r6 a u 7 6=r6_:=by
   have f:(DI (Dz s (CY s.a a)) u v).r6=r6_:=f6
   unfold DX;rw [f,e];rfl
  simp only [Ko,RS.mk.injEq]
  exact ⟨e1,e2,e3,e4,e5,f0,f1,f2,f3,f4,f5,g,f7⟩
theorem Ab4 (s:RS) (k a c e u v:Int) (hp0:s.a.length≤1000) (t_ p_ h_:Int) (n_:Nat) (a_ z_:LI) (r0_ r1_ r2_ r3_ r4_ r5_ r6_ r7_:Int) (hI:Ah s k a c e u v t_ p_ h_ n_ a_ z_ r0_ r1_ r2_ r3_ r4_ r5_ r6_ r7_ (7:Int)):Vu s k a c e u v t_ p_ h_ n_ a_ z_ r0_ r1_ r2_ r3_ r4_ r5_ r6_ r7_ (λq_'=>AB s k a c e u v q_'∧lx (20,0,0) (18,(8-(7:Int)).toNat,0)) (λt_' p_' h_' n_' a_' z_' r0_' r1_' r2_' r3_' r4_' r5_' r6_' r7_'=>A7 s k a c e u v t_' p_' h_' n_' a_' z_' r0_' r1_' r2_' r3_' r4_' r5_' r6_' r7_'∧lx (19,0,0) (18,(8-(7:Int)).toNat,0)) (λt_' p_' h_' n_' a_' z_' r0_' r1_' r2_' r3_' r4_' r5_' r6_' r7_' i_'=>Ah s k a c e u v t_' p_' h_' n_' a_' z_' r0_' r1_' r2_' r3_' r4_' r5_' r6_' r7_' i_'∧lx (18,(8-i_').toNat,0) (18,(8-(7:Int)).toNat,0)) (λk_'=>AC s k a c e u v k_'∧lx (17,0,0) (18,(8-(7:Int)).toNat,0)) (λt_' p_' h_' n_' a_' z_' r0_' r1_' r2_' r3_' r4_' r5_' r6_' r7_' k_'=>A8 s k a c e u v t_' p_' h_' n_' a_' z_' r0_' r1_' r2_' r3_' r4_' r5_' r6_' r7_' k_'∧lx (16,0,0) (18,(8-(7:Int)).toNat,0)) (λt_' p_' h_' n_' a_' z_' r0_' r1_' r2_' r3_' r4_' r5_' r6_' r7_' w_'=>AL s k a c e u v t_' p_' h_' n_' a_' z_' r0_' r1_' r2_' r3_' r4_' r5_' r6_' r7_' w_'∧lx (15,0,0) (18,(8-(7:Int)).toNat,0)) (λw_'=>Aw s k a c e u v w_'∧lx (14,0,0) (18,(8-(7:Int)).toNat,0)) (λq_' i_'=>AO s k a c e u v q_' i_'∧lx (13,0,0) (18,(8-(7:Int)).toNat,0)) (λt_' p_' h_' n_' a_' z_' r0_' r1_' r2_' r3_' r4_' r5_' r6_' r7_' i_'=>Ai s k a c e u v t_' p_' h_' n_' a_' z_' r0_' r1_' r2_' r3_' r4_' r5_' r6_' r7_' i_'∧lx (12,0,0) (18,(8-(7:Int)).toNat,0)) (λi_'=>AP s k a c e u v i_'∧lx (11,0,0) (18,(8-(7:Int)).toNat,0)) (λt_' p_' h_' n_' a_' z_' r0_' r1_' r2_' r3_' r4_' r5_' r6_' r7_' i_'=>Ag s k a c e u v t_' p_' h_' n_' a_' z_' r0_' r1_' r2_' r3_' r4_' r5_' r6_' r7_' i_'∧lx (10,0,0) (18,(8-(7:Int)).toNat,0)) (λr__=>r__=(Ac s k a c e u v)) (λt_ p_ h_ n_ al_ zl_ x0_ x1_ x2_ x3_ x4_ x5_ x6_ x7_ r_=>BI ⟨t_,p_,h_,n_,al_,zl_,x0_,x1_,x2_,x3_,x4_,x5_,x6_,x7_⟩ ((Ac s k a c e u v).1)∧r_=(Ac s k a c e u v).2):=by
 unfold Ah at hI
 unfold Vu
 try unfold AB
 try unfold A7
 try unfold Ah
 try unfold AC
 try unfold A8
 try unfold AL
 try unfold Aw
 try unfold AO
 try unfold Ai
 try unfold AP
 try unfold Ag
 obtain ⟨hR,_,_,rfl,hA,rfl⟩:=hI
 have hE:=hR.eq
 injection hE with e1 e2 e3 e4 e5 f0 f1 f2 f3 f4 f5 f6 f7
 refine ⟨λ_=>⟨by decide, λ_=>⟨λe=>⟨by decide, λ_=>⟨⟨⟨hR.n,hR.z,?_⟩,by decide,by decide,rfl,hA,rfl⟩,BU⟩⟩, λe=>⟨⟨⟨hR.n,hR.z,?_⟩,by decide,by decide,rfl,hA,rfl⟩,BU⟩⟩⟩, λh=>(by cases h)⟩
 ·have g:DX (DI (Dz s (CY s.a a)) u v).r7 a u 8 7=u:=by
   have f:(DI (Dz s (CY s.a a)) u v).r7=r7_:=f7
   unfold DX;rw [f,e];rfl
  simp only [Ko,RS.mk.injEq]
  exact ⟨e1,e2,e3,e4,e5,f0,f1,f2,f3,f4,f5,f6,g⟩
 ·have g:DX (DI (Dz s (CY s.a a)) u v).r7 a u 8 7=r7_:=by
   have f:(DI (Dz s (CY s.a a)) u v).r7=r7_:=f7
   unfold DX;rw [f,e];rfl
  simp only [Ko,RS.mk.injEq]
  exact ⟨e1,e2,e3,e4,e5,f0,f1,f2,f3,f4,f5,f6,g⟩
theorem Ab5 (s:RS) (k a c e u v:Int) (hp0:s.a.length≤1000) (t_ p_ h_:Int) (n_:Nat) (a_ z_:LI) (r0_ r1_ r2_ r3_ r4_ r5_ r6_ r7_:Int) (hI:Ah s k a c e u v t_ p_ h_ n_ a_ z_ r0_ r1_ r2_ r3_ r4_ r5_ r6_ r7_ (8:Int)):Vw s k a c e u v t_ p_ h_ n_ a_ z_ r0_ r1_ r2_ r3_ r4_ r5_ r6_ r7_ (λq_'=>AB s k a c e u v q_'∧lx (20,0,0) (18,(8-(8:Int)).toNat,0)) (λt_' p_' h_' n_' a_' z_' r0_' r1_' r2_' r3_' r4_' r5_' r6_' r7_'=>A7 s k a c e u v t_' p_' h_' n_' a_' z_' r0_' r1_' r2_' r3_' r4_' r5_' r6_' r7_'∧lx (19,0,0) (18,(8-(8:Int)).toNat,0)) (λt_' p_' h_' n_' a_' z_' r0_' r1_' r2_' r3_' r4_' r5_' r6_' r7_' i_'=>Ah s k a c e u v t_' p_' h_' n_' a_' z_' r0_' r1_' r2_' r3_' r4_' r5_' r6_' r7_' i_'∧lx (18,(8-i_').toNat,0) (18,(8-(8:Int)).toNat,0)) (λk_'=>AC s k a c e u v k_'∧lx (17,0,0) (18,(8-(8:Int)).toNat,0)) (λt_' p_' h_' n_' a_' z_' r0_' r1_' r2_' r3_' r4_' r5_' r6_' r7_' k_'=>A8 s k a c e u v t_' p_' h_' n_' a_' z_' r0_' r1_' r2_' r3_' r4_' r5_' r6_' r7_' k_'∧lx (16,0,0) (18,(8-(8:Int)).toNat,0)) (λt_' p_' h_' n_' a_' z_' r0_' r1_' r2_' r3_' r4_' r5_' r6_' r7_' w_'=>AL s k a c e u v t_' p_' h_' n_' a_' z_' r0_' r1_' r2_' r3_' r4_' r5_' r6_' r7_' w_'∧lx (15,0,0) (18,(8-(8:Int)).toNat,0)) (λw_'=>Aw s k a c e u v w_'∧lx (14,0,0) (18,(8-(8:Int)).toNat,0)) (λq_' i_'=>AO s k a c e u v q_' i_'∧lx (13,0,0) (18,(8-(8:Int)).toNat,0)) (λt_' p_' h_' n_' a_' z_' r0_' r1_' r2_' r3_' r4_' r5_' r6_' r7_' i_'=>Ai s k a c e u v t_' p_' h_' n_' a_' z_' r0_' r1_' r2_' r3_' r4_' r5_' r6_' r7_' i_'∧lx (12,0,0) (18,(8-(8:Int)).toNat,0)) (λi_'=>AP s k a c e u v i_'∧lx (11,0,0) (18,(8-(8:Int)).toNat,0)) (λt_' p_' h_' n_' a_' z_' r0_' r1_' r2_' r3_' r4_' r5_' r6_' r7_' i_'=>Ag s k a c e u v t_' p_' h_' n_' a_' z_' r0_' r1_' r2_' r3_' r4_' r5_' r6_' r7_' i_'∧lx (10,0,0) (18,(8-(8:Int)).toNat,0)) (λr__=>r__=(Ac s k a c e u v)) (λt_ p_ h_ n_ al_ zl_ x0_ x1_ x2_ x3_ x4_ x5_ x6_ x7_ r_=>BI ⟨t_,p_,h_,n_,al_,zl_,x0_,x1_,x2_,x3_,x4_,x5_,x6_,x7_⟩ ((Ac s k a c e u v).1)∧r_=(Ac s k a c e u v).2):=by
 unfold Ah at hI
 unfold Vw
 try unfold AB
 try unfold A7
 try unfold Ah
 try unfold AC
 try unfold A8
 try unfold AL
 try unfold Aw
 try unfold AO
 try unfold Ai
 try unfold AP
 try unfold Ag
 obtain ⟨hR,_,_,rfl,hA,rfl⟩:=hI
 have key:Ac s 3 a c 0 u v=(GM s 3 a c u v,true):=by unfold Ac;rw [hA];rfl
 refine ⟨λh=>(by cases h), λ_=>⟨?_,?_⟩⟩
 ·show BI _ (Ac s 3 a c 0 u v).1
  rw [key];exact hR
 ·show _=(Ac s 3 a c 0 u v).2
  rw [key]
theorem Aff (s:RS) (k a c e u v:Int) (hp0:s.a.length≤1000) (k_ t_ p_ h_:Int) (n_:Nat) (al_ zl_:LI) (x0_ x1_ x2_ x3_ x4_ x5_ x6_ x7_:Int) (hI:AC s k a c e u v k_) (hx:BI ⟨t_,p_,h_,n_,al_,zl_,x0_,x1_,x2_,x3_,x4_,x5_,x6_,x7_⟩ (s)):Abs s k a c e u v k_ t_ p_ h_ n_ al_ zl_ x0_ x1_ x2_ x3_ x4_ x5_ x6_ x7_ (λt_' p_' h_' n_' a_' z_' r0_' r1_' r2_' r3_' r4_' r5_' r6_' r7_' k_'=>A8 s k a c e u v t_' p_' h_' n_' a_' z_' r0_' r1_' r2_' r3_' r4_' r5_' r6_' r7_' k_'∧lx (16,0,0) (17,0,0)):=by
 unfold AC at hI
 unfold Abs
 try unfold AB
 try unfold A7
 try unfold Ah
 try unfold AC
 try unfold A8
 try unfold AL
 try unfold Aw
 try unfold AO
 try unfold Ai
 try unfold AP
 try unfold Ag
 exact ⟨⟨hx,hI⟩,BU⟩
theorem Afg (s:RS) (k a c e u v:Int) (hp0:s.a.length≤1000) (t_ p_ h_:Int) (n_:Nat) (a_ z_:LI) (r0_ r1_ r2_ r3_ r4_ r5_ r6_ r7_ k_:Int) (hI:A8 s k a c e u v t_ p_ h_ n_ a_ z_ r0_ r1_ r2_ r3_ r4_ r5_ r6_ r7_ k_):Abt s k a c e u v t_ p_ h_ n_ a_ z_ r0_ r1_ r2_ r3_ r4_ r5_ r6_ r7_ k_ (λq_'=>AB s k a c e u v q_'∧lx (20,0,0) (16,0,0)) (λt_' p_' h_' n_' a_' z_' r0_' r1_' r2_' r3_' r4_' r5_' r6_' r7_'=>A7 s k a c e u v t_' p_' h_' n_' a_' z_' r0_' r1_' r2_' r3_' r4_' r5_' r6_' r7_'∧lx (19,0,0) (16,0,0)) (λt_' p_' h_' n_' a_' z_' r0_' r1_' r2_' r3_' r4_' r5_' r6_' r7_' i_'=>Ah s k a c e u v t_' p_' h_' n_' a_' z_' r0_' r1_' r2_' r3_' r4_' r5_' r6_' r7_' i_'∧lx (18,(8-i_').toNat,0) (16,0,0)) (λk_'=>AC s k a c e u v k_'∧lx (17,0,0) (16,0,0)) (λt_' p_' h_' n_' a_' z_' r0_' r1_' r2_' r3_' r4_' r5_' r6_' r7_' k_'=>A8 s k a c e u v t_' p_' h_' n_' a_' z_' r0_' r1_' r2_' r3_' r4_' r5_' r6_' r7_' k_'∧lx (16,0,0) (16,0,0)) (λt_' p_' h_' n_' a_' z_' r0_' r1_' r2_' r3_' r4_' r5_' r6_' r7_' w_'=>AL s k a c e u v t_' p_' h_' n_' a_' z_' r0_' r1_' r2_' r3_' r4_' r5_' r6_' r7_' w_'∧lx (15,0,0) (16,0,0)) (λw_'=>Aw s k a c e u v w_'∧lx (14,0,0) (16,0,0)) (λq_' i_'=>AO s k a c e u v q_' i_'∧lx (13,0,0) (16,0,0)) (λt_' p_' h_' n_' a_' z_' r0_' r1_' r2_' r3_' r4_' r5_' r6_' r7_' i_'=>Ai s k a c e u v t_' p_' h_' n_' a_' z_' r0_' r1_' r2_' r3_' r4_' r5_' r6_' r7_' i_'∧lx (12,0,0) (16,0,0)) (λi_'=>AP s k a c e u v i_'∧lx (11,0,0) (16,0,0)) (λt_' p_' h_' n_' a_' z_' r0_' r1_' r2_' r3_' r4_' r5_' r6_' r7_' i_'=>Ag s k a c e u v t_' p_' h_' n_' a_' z_' r0_' r1_' r2_' r3_' r4_' r5_' r6_' r7_' i_'∧lx (10,0,0) (16,0,0)) (λr__=>r__=(Ac s k a c e u v)) (λt_ p_ h_ n_ al_ zl_ x0_ x1_ x2_ x3_ x4_ x5_ x6_ x7_ r_=>BI ⟨t_,p_,h_,n_,al_,zl_,x0_,x1_,x2_,x3_,x4_,x5_,x6_,x7_⟩ ((Ac s k a c e u v).1)∧r_=(Ac s k a c e u v).2):=by
 unfold A8 at hI
 unfold Abt
 try unfold AB
 try unfold A7
 try unfold Ah
 try unfold AC
 try unfold A8
 try unfold AL
 try unfold Aw
 try unfold AO
 try unfold Ai
 try unfold AP
 try unfold Ag
 obtain ⟨hR,_,rfl,hA,rfl⟩:=hI
 exact ⟨⟨hR,by rw [hR.eq],rfl,hA,rfl⟩,BU⟩
theorem TL (s:RS) (k a c e u v:Int) (hp0:s.a.length≤1000) (t_ p_ h_:Int) (n_:Nat) (a_ z_:LI) (r0_ r1_ r2_ r3_ r4_ r5_ r6_ r7_ w_:Int) (hI:AL s k a c e u v t_ p_ h_ n_ a_ z_ r0_ r1_ r2_ r3_ r4_ r5_ r6_ r7_ w_):(BI ⟨t_,p_,h_,n_,a_,z_,r0_,r1_,r2_,r3_,r4_,r5_,r6_,r7_⟩ s)∧Ry s k a c e u v t_ p_ h_ n_ a_ z_ r0_ r1_ r2_ r3_ r4_ r5_ r6_ r7_ w_ (λw_'=>Aw s k a c e u v w_'∧lx (14,0,0) (15,0,0)):=by
 unfold AL at hI
 unfold Ry
 try unfold AB
 try unfold A7
 try unfold Ah
 try unfold AC
 try unfold A8
 try unfold AL
 try unfold Aw
 try unfold AO
 try unfold Ai
 try unfold AP
 try unfold Ag
 obtain ⟨hR,hI⟩:=hI
 exact ⟨hR,hI,BU⟩
theorem Afh (s:RS) (k a c e u v:Int) (hp0:s.a.length≤1000) (w_:Int) (hI:Aw s k a c e u v w_):Abu s k a c e u v w_ (λq_'=>AB s k a c e u v q_'∧lx (20,0,0) (14,0,0)) (λt_' p_' h_' n_' a_' z_' r0_' r1_' r2_' r3_' r4_' r5_' r6_' r7_'=>A7 s k a c e u v t_' p_' h_' n_' a_' z_' r0_' r1_' r2_' r3_' r4_' r5_' r6_' r7_'∧lx (19,0,0) (14,0,0)) (λt_' p_' h_' n_' a_' z_' r0_' r1_' r2_' r3_' r4_' r5_' r6_' r7_' i_'=>Ah s k a c e u v t_' p_' h_' n_' a_' z_' r0_' r1_' r2_' r3_' r4_' r5_' r6_' r7_' i_'∧lx (18,(8-i_').toNat,0) (14,0,0)) (λk_'=>AC s k a c e u v k_'∧lx (17,0,0) (14,0,0)) (λt_' p_' h_' n_' a_' z_' r0_' r1_' r2_' r3_' r4_' r5_' r6_' r7_' k_'=>A8 s k a c e u v t_' p_' h_' n_' a_' z_' r0_' r1_' r2_' r3_' r4_' r5_' r6_' r7_' k_'∧lx (16,0,0) (14,0,0)) (λt_' p_' h_' n_' a_' z_' r0_' r1_' r2_' r3_' r4_' r5_' r6_' r7_' w_'=>AL s k a c e u v t_' p_' h_' n_' a_' z_' r0_' r1_' r2_' r3_' r4_' r5_' r6_' r7_' w_'∧lx (15,0,0) (14,0,0)) (λw_'=>Aw s k a c e u v w_'∧lx (14,0,0) (14,0,0)) (λq_' i_'=>AO s k a c e u v q_' i_'∧lx (13,0,0) (14,0,0)) (λt_' p_' h_' n_' a_' z_' r0_' r1_' r2_' r3_' r4_' r5_' r6_' r7_' i_'=>Ai s k a c e u v t_' p_' h_' n_' a_' z_' r0_' r1_' r2_' r3_' r4_' r5_' r6_' r7_' i_'∧lx (12,0,0) (14,0,0)) (λi_'=>AP s k a c e u v i_'∧lx (11,0,0) (14,0,0)) (λt_' p_' h_' n_' a_' z_' r0_' r1_' r2_' r3_' r4_' r5_' r6_' r7_' i_'=>Ag s k a c e u v t_' p_' h_' n_' a_' z_' r0_' r1_' r2_' r3_' r4_' r5_' r6_' r7_' i_'∧lx (10,0,0) (14,0,0)) (λr__=>r__=(Ac s k a c e u v)) (λt_ p_ h_ n_ al_ zl_ x0_ x1_ x2_ x3_ x4_ x5_ x6_ x7_ r_=>BI ⟨t_,p_,h_,n_,al_,zl_,x0_,x1_,x2_,x3_,x4_,x5_,x6_,x7_⟩ ((Ac s k a c e u v).1)∧r_=(Ac s k a c e u v).2):=by
 unfold Aw at hI
 unfold Abu
 try unfold AB
 try unfold A7
 try unfold Ah
 try unfold AC
 try unfold A8
 try unfold AL
 try unfold Aw
 try unfold AO
 try unfold Ai
 try unfold AP
 try unfold Ag
 obtain ⟨rfl,rfl,hA,rfl⟩:=hI
 rintro r0 rfl
 have h8:=AqE hA
 exact ⟨hp0, λ_=>⟨⟨rfl,rfl,h8.1,h8.2,rfl,hA,rfl⟩,BU⟩⟩
theorem Afi (s:RS) (k a c e u v:Int) (hp0:s.a.length≤1000) (q_:RS) (i_ t_ p_ h_:Int) (n_:Nat) (al_ zl_:LI) (x0_ x1_ x2_ x3_ x4_ x5_ x6_ x7_:Int) (hI:AO s k a c e u v q_ i_) (hx:BI ⟨t_,p_,h_,n_,al_,zl_,x0_,x1_,x2_,x3_,x4_,x5_,x6_,x7_⟩ (q_)):Abv s k a c e u v q_ i_ t_ p_ h_ n_ al_ zl_ x0_ x1_ x2_ x3_ x4_ x5_ x6_ x7_ (λt_' p_' h_' n_' a_' z_' r0_' r1_' r2_' r3_' r4_' r5_' r6_' r7_' i_'=>Ai s k a c e u v t_' p_' h_' n_' a_' z_' r0_' r1_' r2_' r3_' r4_' r5_' r6_' r7_' i_'∧lx (12,0,0) (13,0,0)):=by
 unfold AO at hI
 unfold Abv
 try unfold AB
 try unfold A7
 try unfold Ah
 try unfold AC
 try unfold A8
 try unfold AL
 try unfold Aw
 try unfold AO
 try unfold Ai
 try unfold AP
 try unfold Ag
 obtain ⟨rfl,h⟩:=hI
 exact ⟨⟨hx,h⟩,BU⟩
theorem AiX (s:RS) (k a c e u v:Int) (hp0:s.a.length≤1000) (t_ p_ h_:Int) (n_:Nat) (a_ z_:LI) (r0_ r1_ r2_ r3_ r4_ r5_ r6_ r7_ i_:Int) (hI:Ai s k a c e u v t_ p_ h_ n_ a_ z_ r0_ r1_ r2_ r3_ r4_ r5_ r6_ r7_ i_):i_=0∨i_=1∨i_=2∨i_=3∨i_=4∨i_=5∨i_=6∨i_=7:=by
 unfold Ai at hI
 omega
theorem Ab6 (s:RS) (k a c e u v:Int) (hp0:s.a.length≤1000) (t_ p_ h_:Int) (n_:Nat) (a_ z_:LI) (r0_ r1_ r2_ r3_ r4_ r5_ r6_ r7_:Int) (hI:Ai s k a c e u v t_ p_ h_ n_ a_ z_ r0_ r1_ r2_ r3_ r4_ r5_ r6_ r7_ (0:Int)):Vx s k a c e u v t_ p_ h_ n_ a_ z_ r0_ r1_ r2_ r3_ r4_ r5_ r6_ r7_ (λq_'=>AB s k a c e u v q_'∧lx (20,0,0) (12,0,0)) (λt_' p_' h_' n_' a_' z_' r0_' r1_' r2_' r3_' r4_' r5_' r6_' r7_'=>A7 s k a c e u v t_' p_' h_' n_' a_' z_' r0_' r1_' r2_' r3_' r4_' r5_' r6_' r7_'∧lx (19,0,0) (12,0,0)) (λt_' p_' h_' n_' a_' z_' r0_' r1_' r2_' r3_' r4_' r5_' r6_' r7_' i_'=>Ah s k a c e u v t_' p_' h_' n_' a_' z_' r0_' r1_' r2_' r3_' r4_' r5_' r6_' r7_' i_'∧lx (18,(8-i_').toNat,0) (12,0,0)) (λk_'=>AC s k a c e u v k_'∧lx (17,0,0) (12,0,0)) (λt_' p_' h_' n_' a_' z_' r0_' r1_' r2_' r3_' r4_' r5_' r6_' r7_' k_'=>A8 s k a c e u v t_' p_' h_' n_' a_' z_' r0_' r1_' r2_' r3_' r4_' r5_' r6_' r7_' k_'∧lx (16,0,0) (12,0,0)) (λt_' p_' h_' n_' a_' z_' r0_' r1_' r2_' r3_' r4_' r5_' r6_' r7_' w_'=>AL s k a c e u v t_' p_' h_' n_' a_' z_' r0_' r1_' r2_' r3_' r4_' r5_' r6_' r7_' w_'∧lx (15,0,0) (12,0,0)) (λw_'=>Aw s k a c e u v w_'∧lx (14,0,0) (12,0,0)) (λq_' i_'=>AO s k a c e u v q_' i_'∧lx (13,0,0) (12,0,0)) (λt_' p_' h_' n_' a_' z_' r0_' r1_' r2_' r3_' r4_' r5_' r6_' r7_' i_'=>Ai s k a c e u v t_' p_' h_' n_' a_' z_' r0_' r1_' r2_' r3_' r4_' r5_' r6_' r7_' i_'∧lx (12,0,0) (12,0,0)) (λi_'=>AP s k a c e u v i_'∧lx (11,0,0) (12,0,0)) (λt_' p_' h_' n_' a_' z_' r0_' r1_' r2_' r3_' r4_' r5_' r6_' r7_' i_'=>Ag s k a c e u v t_' p_' h_' n_' a_' z_' r0_' r1_' r2_' r3_' r4_' r5_' r6_' r7_' i_'∧lx (10,0,0) (12,0,0)) (λr__=>r__=(Ac s k a c e u v)) (λt_ p_ h_ n_ al_ zl_ x0_ x1_ x2_ x3_ x4_ x5_ x6_ x7_ r_=>BI ⟨t_,p_,h_,n_,al_,zl_,x0_,x1_,x2_,x3_,x4_,x5_,x6_,x7_⟩ ((Ac s k a c e u v).1)∧r_=(Ac s k a c e u v).2):=by
 unfold Ai at hI
 unfold Vx
 try unfold AB
 try unfold A7
 try unfold Ah
 try unfold AC
 try unfold A8
 try unfold AL
 try unfold Aw
 try unfold AO
 try unfold Ai
 try unfold AP
 try unfold Ag
 obtain ⟨hR,rfl,_,_,rfl,hA,rfl⟩:=hI
 have key:Ac s 4 0 c 0 u v=(GM s 4 0 c u v,true):=by unfold Ac;rw [hA];rfl
 refine ⟨by decide, λ_=>⟨?_,?_⟩⟩
 ·show BI _ (Ac s 4 0 c 0 u v).1
  rw [key];exact ⟨hR.n,hR.z,by show Ef _ _ _=_;unfold Ef;rw [hR.eq];rfl⟩
 ·show _=(Ac s 4 0 c 0 u v).2
  rw [key]
theorem Ab7 (s:RS) (k a c e u v:Int) (hp0:s.a.length≤1000) (t_ p_ h_:Int) (n_:Nat) (a_ z_:LI) (r0_ r1_ r2_ r3_ r4_ r5_ r6_ r7_:Int) (hI:Ai s k a c e u v t_ p_ h_ n_ a_ z_ r0_ r1_ r2_ r3_ r4_ r5_ r6_ r7_ (1:Int)):Vy s k a c e u v t_ p_ h_ n_ a_ z_ r0_ r1_ r2_ r3_ r4_ r5_ r6_ r7_ (λq_'=>AB s k a c e u v q_'∧lx (20,0,0) (12,0,0)) (λt_' p_' h_' n_' a_' z_' r0_' r1_' r2_' r3_' r4_' r5_' r6_' r7_'=>A7 s k a c e u v t_' p_' h_' n_' a_' z_' r0_' r1_' r2_' r3_' r4_' r5_' r6_' r7_'∧lx (19,0,0) (12,0,0)) (λt_' p_' h_' n_' a_' z_' r0_' r1_' r2_' r3_' r4_' r5_' r6_' r7_' i_'=>Ah s k a c e u v t_' p_' h_' n_' a_' z_' r0_' r1_' r2_' r3_' r4_' r5_' r6_' r7_' i_'∧lx (18,(8-i_').toNat,0) (12,0,0)) (λk_'=>AC s k a c e u v k_'∧lx (17,0,0) (12,0,0)) (λt_' p_' h_' n_' a_' z_' r0_' r1_' r2_' r3_' r4_' r5_' r6_' r7_' k_'=>A8 s k a c e u v t_' p_' h_' n_' a_' z_' r0_' r1_' r2_' r3_' r4_' r5_' r6_' r7_' k_'∧lx (16,0,0) (12,0,0)) (λt_' p_' h_' n_' a_' z_' r0_' r1_' r2_' r3_' r4_' r5_' r6_' r7_' w_'=>AL s k a c e u v t_' p_' h_' n_' a_' z_' r0_' r1_' r2_' r3_' r4_' r5_' r6_' r7_' w_'∧lx (15,0,0) (12,0,0)) (λw_'=>Aw s k a c e u v w_'∧lx (14,0,0) (12,0,0)) (λq_' i_'=>AO s k a c e u v q_' i_'∧lx (13,0,0) (12,0,0)) (λt_' p_' h_' n_' a_' z_' r0_' r1_' r2_' r3_' r4_' r5_' r6_' r7_' i_'=>Ai s k a c e u v t_' p_' h_' n_' a_' z_' r0_' r1_' r2_' r3_' r4_' r5_' r6_' r7_' i_'∧lx (12,0,0) (12,0,0)) (λi_'=>AP s k a c e u v i_'∧lx (11,0,0) (12,0,0)) (λt_' p_' h_' n_' a_' z_' r0_' r1_' r2_' r3_' r4_' r5_' r6_' r7_' i_'=>Ag s k a c e u v t_' p_' h_' n_' a_' z_' r0_' r1_' r2_' r3_' r4_' r5_' r6_' r7_' i_'∧lx (10,0,0) (12,0,0)) (λr__=>r__=(Ac s k a c e u v)) (λt_ p_ h_ n_ al_ zl_ x0_ x1_ x2_ x3_ x4_ x5_ x6_ x7_ r_=>BI ⟨t_,p_,h_,n_,al_,zl_,x0_,x1_,x2_,x3_,x4_,x5_,x6_,x7_⟩ ((Ac s k a c e u v).1)∧r_=(Ac s k a c e u v).2):=by
 unfold Ai at hI
 unfold Vy
 try unfold AB
 try unfold A7
 try unfold Ah
 try unfold AC
 try unfold A8
 try unfold AL
 try unfold Aw
 try unfold AO
 try unfold Ai
 try unfold AP
 try unfold Ag
 obtain ⟨hR,rfl,_,_,rfl,hA,rfl⟩:=hI
 have key:Ac s 4 1 c 0 u v=(GM s 4 1 c u v,true):=by unfold Ac;rw [hA];rfl
 refine ⟨by decide, λ_=>⟨?_,?_⟩⟩
 ·show BI _ (Ac s 4 1 c 0 u v).1
  rw [key];exact ⟨hR.n,hR.z,by show Ef _ _ _=_;unfold Ef;rw [hR.eq];rfl⟩
 ·show _=(Ac s 4 1 c 0 u v).2
  rw [key]
theorem Ab8 (s:RS) (k a c e u v:Int) (hp0:s.a.length≤1000) (t_ p_ h_:Int) (n_:Nat) (a_ z_:LI) (r0_ r1_ r2_ r3_ r4_ r5_ r6_ r7_:Int) (hI:Ai s k a c e u v t_ p_ h_ n_ a_ z_ r0_ r1_ r2_ r3_ r4_ r5_ r6_ r7_ (2:Int)):Vz s k a c e u v t_ p_ h_ n_ a_ z_ r0_ r1_ r2_ r3_ r4_ r5_ r6_ r7_ (λq_'=>AB s k a c e u v q_'∧lx (20,0,0) (12,0,0)) (λt_' p_' h_' n_' a_' z_' r0_' r1_' r2_' r3_' r4_' r5_' r6_' r7_'=>A7 s k a c e u v t_' p_' h_' n_' a_' z_' r0_' r1_' r2_' r3_' r4_' r5_' r6_' r7_'∧lx (19,0,0) (12,0,0)) (λt_' p_' h_' n_' a_' z_' r0_' r1_' r2_' r3_' r4_' r5_' r6_' r7_' i_'=>Ah s k a c e u v t_' p_' h_' n_' a_' z_' r0_' r1_' r2_' r3_' r4_' r5_' r6_' r7_' i_'∧lx (18,(8-i_').toNat,0) (12,0,0)) (λk_'=>AC s k a c e u v k_'∧lx (17,0,0) (12,0,0)) (λt_' p_' h_' n_' a_' z_' r0_' r1_' r2_' r3_' r4_' r5_' r6_' r7_' k_'=>A8 s k a c e u v t_' p_' h_' n_' a_' z_' r0_' r1_' r2_' r3_' r4_' r5_' r6_' r7_' k_'∧lx (16,0,0) (12,0,0)) (λt_' p_' h_' n_' a_' z_' r0_' r1_' r2_' r3_' r4_' r5_' r6_' r7_' w_'=>AL s k a c e u v t_' p_' h_' n_' a_' z_' r0_' r1_' r2_' r3_' r4_' r5_' r6_' r7_' w_'∧lx (15,0,0) (12,0,0)) (λw_'=>Aw s k a c e u v w_'∧lx (14,0,0) (12,0,0)) (λq_' i_'=>AO s k a c e u v q_' i_'∧lx (13,0,0) (12,0,0)) (λt_' p_' h_' n_' a_' z_' r0_' r1_' r2_' r3_' r4_' r5_' r6_' r7_' i_'=>Ai s k a c e u v t_' p_' h_' n_' a_' z_' r0_' r1_' r2_' r3_' r4_' r5_' r6_' r7_' i_'∧lx (12,0,0) (12,0,0)) (λi_'=>AP s k a c e u v i_'∧lx (11,0,0) (12,0,0)) (λt_' p_' h_' n_' a_' z_' r0_' r1_' r2_' r3_' r4_' r5_' r6_' r7_' i_'=>Ag s k a c e u v t_' p_' h_' n_' a_' z_' r0_' r1_' r2_' r3_' r4_' r5_' r6_' r7_' i_'∧lx (10,0,0) (12,0,0)) (λr__=>r__=(Ac s k a c e u v)) (λt_ p_ h_ n_ al_ zl_ x0_ x1_ x2_ x3_ x4_ x5_ x6_ x7_ r_=>BI ⟨t_,p_,h_,n_,al_,zl_,x0_,x1_,x2_,x3_,x4_,x5_,x6_,x7_⟩ ((Ac s k a c e u v).1)∧r_=(Ac s k a c e u v).2):=by
 unfold Ai at hI
 unfold Vz
 try unfold AB
 try unfold A7
 try unfold Ah
 try unfold AC
 try unfold A8
 try unfold AL
 try unfold Aw
 try unfold AO
 try unfold Ai
 try unfold AP
 try unfold Ag
 obtain ⟨hR,rfl,_,_,rfl,hA,rfl⟩:=hI
 have key:Ac s 4 2 c 0 u v=(GM s 4 2 c u v,true):=by unfold Ac;rw [hA];rfl
 refine ⟨by decide, λ_=>⟨?_,?_⟩⟩
 ·show BI _ (Ac s 4 2 c 0 u v).1
  rw [key];exact ⟨hR.n,hR.z,by show Ef _ _ _=_;unfold Ef;rw [hR.eq];rfl⟩
 ·show _=(Ac s 4 2 c 0 u v).2
  rw [key]
theorem Ab9 (s:RS) (k a c e u v:Int) (hp0:s.a.length≤1000) (t_ p_ h_:Int) (n_:Nat) (a_ z_:LI) (r0_ r1_ r2_ r3_ r4_ r5_ r6_ r7_:Int) (hI:Ai s k a c e u v t_ p_ h_ n_ a_ z_ r0_ r1_ r2_ r3_ r4_ r5_ r6_ r7_ (3:Int)):V3 s k a c e u v t_ p_ h_ n_ a_ z_ r0_ r1_ r2_ r3_ r4_ r5_ r6_ r7_ (λq_'=>AB s k a c e u v q_'∧lx (20,0,0) (12,0,0)) (λt_' p_' h_' n_' a_' z_' r0_' r1_' r2_' r3_' r4_' r5_' r6_' r7_'=>A7 s k a c e u v t_' p_' h_' n_' a_' z_' r0_' r1_' r2_' r3_' r4_' r5_' r6_' r7_'∧lx (19,0,0) (12,0,0)) (λt_' p_' h_' n_' a_' z_' r0_' r1_' r2_' r3_' r4_' r5_' r6_' r7_' i_'=>Ah s k a c e u v t_' p_' h_' n_' a_' z_' r0_' r1_' r2_' r3_' r4_' r5_' r6_' r7_' i_'∧lx (18,(8-i_').toNat,0) (12,0,0)) (λk_'=>AC s k a c e u v k_'∧lx (17,0,0) (12,0,0)) (λt_' p_' h_' n_' a_' z_' r0_' r1_' r2_' r3_' r4_' r5_' r6_' r7_' k_'=>A8 s k a c e u v t_' p_' h_' n_' a_' z_' r0_' r1_' r2_' r3_' r4_' r5_' r6_' r7_' k_'∧lx (16,0,0) (12,0,0)) (λt_' p_' h_' n_' a_' z_' r0_' r1_' r2_' r3_' r4_' r5_' r6_' r7_' w_'=>AL s k a c e u v t_' p_' h_' n_' a_' z_' r0_' r1_' r2_' r3_' r4_' r5_' r6_' r7_' w_'∧lx (15,0,0) (12,0,0)) (λw_'=>Aw s k a c e u v w_'∧lx (14,0,0) (12,0,0)) (λq_' i_'=>AO s k a c e u v q_' i_'∧lx (13,0,0) (12,0,0)) (λt_' p_' h_' n_' a_' z_' r0_' r1_' r2_' r3_' r4_' r5_' r6_' r7_' i_'=>Ai s k a c e u v t_' p_' h_' n_' a_' z_' r0_' r1_' r2_' r3_' r4_' r5_' r6_' r7_' i_'∧lx (12,0,0) (12,0,0)) (λi_'=>AP s k a c e u v i_'∧lx (11,0,0) (12,0,0)) (λt_' p_' h_' n_' a_' z_' r0_' r1_' r2_' r3_' r4_' r5_' r6_' r7_' i_'=>Ag s k a c e u v t_' p_' h_' n_' a_' z_' r0_' r1_' r2_' r3_' r4_' r5_' r6_' r7_' i_'∧lx (10,0,0) (12,0,0)) (λr__=>r__=(Ac s k a c e u v)) (λt_ p_ h_ n_ al_ zl_ x0_ x1_ x2_ x3_ x4_ x5_ x6_ x7_ r_=>BI ⟨t_,p_,h_,n_,al_,zl_,x0_,x1_,x2_,x3_,x4_,x5_,x6_,x7_⟩ ((Ac s k a c e u v).1)∧r_=(Ac s k a c e u v).2):=by
 unfold Ai at hI
 unfold V3
 try unfold AB
 try unfold A7
 try unfold Ah
 try unfold AC
 try unfold A8
 try unfold AL
 try unfold Aw
 try unfold AO
 try unfold Ai
 try unfold AP
 try unfold Ag
 obtain ⟨hR,rfl,_,_,rfl,hA,rfl⟩:=hI
 have key:Ac s 4 3 c 0 u v=(GM s 4 3 c u v,true):=by unfold Ac;rw [hA];rfl
 refine ⟨by decide, λ_=>⟨?_,?_⟩⟩
 ·show BI _ (Ac s 4 3 c 0 u v).1
  rw [key];exact ⟨hR.n,hR.z,by show Ef _ _ _=_;unfold Ef;rw [hR.eq];rfl⟩
 ·show _=(Ac s 4 3 c 0 u v).2
  rw [key]
theorem AbA (s:RS) (k a c e u v:Int) (hp0:s.a.length≤1000) (t_ p_ h_:Int) (n_:Nat) (a_ z_:LI) (r0_ r1_ r2_ r3_ r4_ r5_ r6_ r7_:Int) (hI:Ai s k a c e u v t_ p_ h_ n_ a_ z_ r0_ r1_ r2_ r3_ r4_ r5_ r6_ r7_ (4:Int)):V4 s k a c e u v t_ p_ h_ n_ a_ z_ r0_ r1_ r2_ r3_ r4_ r5_ r6_ r7_ (λq_'=>AB s k a c e u v q_'∧lx (20,0,0) (12,0,0)) (λt_' p_' h_' n_' a_' z_' r0_' r1_' r2_' r3_' r4_' r5_' r6_' r7_'=>A7 s k a c e u v t_' p_' h_' n_' a_' z_' r0_' r1_' r2_' r3_' r4_' r5_' r6_' r7_'∧lx (19,0,0) (12,0,0)) (λt_' p_' h_' n_' a_' z_' r0_' r1_' r2_' r3_' r4_' r5_' r6_' r7_' i_'=>Ah s k a c e u v t_' p_' h_' n_' a_' z_' r0_' r1_' r2_' r3_' r4_' r5_' r6_' r7_' i_'∧lx (18,(8-i_').toNat,0) (12,0,0)) (λk_'=>AC s k a c e u v k_'∧lx (17,0,0) (12,0,0)) (λt_' p_' h_' n_' a_' z_' r0_' r1_' r2_' r3_' r4_' r5_' r6_' r7_' k_'=>A8 s k a c e u v t_' p_' h_' n_' a_' z_' r0_' r1_' r2_' r3_' r4_' r5_' r6_' r7_' k_'∧lx (16,0,0) (12,0,0)) (λt_' p_' h_' n_' a_' z_' r0_' r1_' r2_' r3_' r4_' r5_' r6_' r7_' w_'=>AL s k a c e u v t_' p_' h_' n_' a_' z_' r0_' r1_' r2_' r3_' r4_' r5_' r6_' r7_' w_'∧lx (15,0,0) (12,0,0)) (λw_'=>Aw s k a c e u v w_'∧lx (14,0,0) (12,0,0)) (λq_' i_'=>AO s k a c e u v q_' i_'∧lx (13,0,0) (12,0,0)) (λt_' p_' h_' n_' a_' z_' r0_' r1_' r2_' r3_' r4_' r5_' r6_' r7_' i_'=>Ai s k a c e u v t_' p_' h_' n_' a_' z_' r0_' r1_' r2_' r3_' r4_' r5_' r6_' r7_' i_'∧lx (12,0,0) (12,0,0)) (λi_'=>AP s k a c e u v i_'∧lx (11,0,0) (12,0,0)) (λt_' p_' h_' n_' a_' z_' r0_' r1_' r2_' r3_' r4_' r5_' r6_' r7_' i_'=>Ag s k a c e u v t_' p_' h_' n_' a_' z_' r0_' r1_' r2_' r3_' r4_' r5_' r6_' r7_' i_'∧lx (10,0,0) (12,0,0)) (λr__=>r__=(Ac s k a c e u v)) (λt_ p_ h_ n_ al_ zl_ x0_ x1_ x2_ x3_ x4_ x5_ x6_ x7_ r_=>BI ⟨t_,p_,h_,n_,al_,zl_,x0_,x1_,x2_,x3_,x4_,x5_,x6_,x7_⟩ ((Ac s k a c e u v).1)∧r_=(Ac s k a c e u v).2):=by
 unfold Ai at hI
 unfold V4
 try unfold AB
 try unfold A7
 try unfold Ah
 try unfold AC
 try unfold A8
 try unfold AL
 try unfold Aw
 try unfold AO
 try unfold Ai
 try unfold AP
 try unfold Ag
 obtain ⟨hR,rfl,_,_,rfl,hA,rfl⟩:=hI
 have key:Ac s 4 4 c 0 u v=(GM s 4 4 c u v,true):=by unfold Ac;rw [hA];rfl
 refine ⟨by decide, λ_=>⟨?_,?_⟩⟩
 ·show BI _ (Ac s 4 4 c 0 u v).1
  rw [key];exact ⟨hR.n,hR.z,by show Ef _ _ _=_;unfold Ef;rw [hR.eq];rfl⟩
 ·show _=(Ac s 4 4 c 0 u v).2
  rw [key]
theorem AbB (s:RS) (k a c e u v:Int) (hp0:s.a.length≤1000) (t_ p_ h_:Int) (n_:Nat) (a_ z_:LI) (r0_ r1_ r2_ r3_ r4_ r5_ r6_ r7_:Int) (hI:Ai s k a c e u v t_ p_ h_ n_ a_ z_ r0_ r1_ r2_ r3_ r4_ r5_ r6_ r7_ (5:Int)):V5 s k a c e u v t_ p_ h_ n_ a_ z_ r0_ r1_ r2_ r3_ r4_ r5_ r6_ r7_ (λq_'=>AB s k a c e u v q_'∧lx (20,0,0) (12,0,0)) (λt_' p_' h_' n_' a_' z_' r0_' r1_' r2_' r3_' r4_' r5_' r6_' r7_'=>A7 s k a c e u v t_' p_' h_' n_' a_' z_' r0_' r1_' r2_' r3_' r4_' r5_' r6_' r7_'∧lx (19,0,0) (12,0,0)) (λt_' p_' h_' n_' a_' z_' r0_' r1_' r2_' r3_' r4_' r5_' r6_' r7_' i_'=>Ah s k a c e u v t_' p_' h_' n_' a_' z_' r0_' r1_' r2_' r3_' r4_' r5_' r6_' r7_' i_'∧lx (18,(8-i_').toNat,0) (12,0,0)) (λk_'=>AC s k a c e u v k_'∧lx (17,0,0) (12,0,0)) (λt_' p_' h_' n_' a_' z_' r0_' r1_' r2_' r3_' r4_' r5_' r6_' r7_' k_'=>A8 s k a c e u v t_' p_' h_' n_' a_' z_' r0_' r1_' r2_' r3_' r4_' r5_' r6_' r7_' k_'∧lx (16,0,0) (12,0,0)) (λt_' p_' h_' n_' a_' z_' r0_' r1_' r2_' r3_' r4_' r5_' r6_' r7_' w_'=>AL s k a c e u v t_' p_' h_' n_' a_' z_' r0_' r1_' r2_' r3_' r4_' r5_' r6_' r7_' w_'∧lx (15,0,0) (12,0,0)) (λw_'=>Aw s k a c e u v w_'∧lx (14,0,0) (12,0,0)) (λq_' i_'=>AO s k a c e u v q_' i_'∧lx (13,0,0) (12,0,0)) (λt_' p_' h_' n_' a_' z_' r0_' r1_' r2_' r3_' r4_' r5_' r6_' r7_' i_'=>Ai s k a c e u v t_' p_' h_' n_' a_' z_' r0_' r1_' r2_' r3_' r4_' r5_' r6_' r7_' i_'∧lx (12,0,0) (12,0,0)) (λi_'=>AP s k a c e u v i_'∧lx (11,0,0) (12,0,0)) (λt_' p_' h_' n_' a_' z_' r0_' r1_' r2_' r3_' r4_' r5_' r6_' r7_' i_'=>Ag s k a c e u v t_' p_' h_' n_' a_' z_' r0_' r1_' r2_' r3_' r4_' r5_' r6_' r7_' i_'∧lx (10,0,0) (12,0,0)) (λr__=>r__=(Ac s k a c e u v)) (λt_ p_ h_ n_ al_ zl_ x0_ x1_ x2_ x3_ x4_ x5_ x6_ x7_ r_=>BI ⟨t_,p_,h_,n_,al_,zl_,x0_,x1_,x2_,x3_,x4_,x5_,x6_,x7_⟩ ((Ac s k a c e u v).1)∧r_=(Ac s k a c e u v).2):=by
 unfold Ai at hI
 unfold V5
 try unfold AB
 try unfold A7
 try unfold Ah
 try unfold AC
 try unfold A8
 try unfold AL
 try unfold Aw
 try unfold AO
 try unfold Ai
 try unfold AP
 try unfold Ag
 obtain ⟨hR,rfl,_,_,rfl,hA,rfl⟩:=hI
 have key:Ac s 4 5 c 0 u v=(GM s 4 5 c u v,true):=by unfold Ac;rw [hA];rfl
 refine ⟨by decide, λ_=>⟨?_,?_⟩⟩
 ·show BI _ (Ac s 4 5 c 0 u v).1
  rw [key];exact ⟨hR.n,hR.z,by show Ef _ _ _=_;unfold Ef;rw [hR.eq];rfl⟩
 ·show _=(Ac s 4 5 c 0 u v).2
  rw [key]
theorem AbC (s:RS) (k a c e u v:Int) (hp0:s.a.length≤1000) (t_ p_ h_:Int) (n_:Nat) (a_ z_:LI) (r0_ r1_ r2_ r3_ r4_ r5_ r6_ r7_:Int) (hI:Ai s k a c e u v t_ p_ h_ n_ a_ z_ r0_ r1_ r2_ r3_ r4_ r5_ r6_ r7_ (6:Int)):V6 s k a c e u v t_ p_ h_ n_ a_ z_ r0_ r1_ r2_ r3_ r4_ r5_ r6_ r7_ (λq_'=>AB s k a c e u v q_'∧lx (20,0,0) (12,0,0)) (λt_' p_' h_' n_' a_' z_' r0_' r1_' r2_' r3_' r4_' r5_' r6_' r7_'=>A7 s k a c e u v t_' p_' h_' n_' a_' z_' r0_' r1_' r2_' r3_' r4_' r5_' r6_' r7_'∧lx (19,0,0) (12,0,0)) (λt_' p_' h_' n_' a_' z_' r0_' r1_' r2_' r3_' r4_' r5_' r6_' r7_' i_'=>Ah s k a c e u v t_' p_' h_' n_' a_' z_' r0_' r1_' r2_' r3_' r4_' r5_' r6_' r7_' i_'∧lx (18,(8-i_').toNat,0) (12,0,0)) (λk_'=>AC s k a c e u v k_'∧lx (17,0,0) (12,0,0)) (λt_' p_' h_' n_' a_' z_' r0_' r1_' r2_' r3_' r4_' r5_' r6_' r7_' k_'=>A8 s k a c e u v t_' p_' h_' n_' a_' z_' r0_' r1_' r2_' r3_' r4_' r5_' r6_' r7_' k_'∧lx (16,0,0) (12,0,0)) (λt_' p_' h_' n_' a_' z_' r0_' r1_' r2_' r3_' r4_' r5_' r6_' r7_' w_'=>AL s k a c e u v t_' p_' h_' n_' a_' z_' r0_' r1_' r2_' r3_' r4_' r5_' r6_' r7_' w_'∧lx (15,0,0) (12,0,0)) (λw_'=>Aw s k a c e u v w_'∧lx (14,0,0) (12,0,0)) (λq_' i_'=>AO s k a c e u v q_' i_'∧lx (13,0,0) (12,0,0)) (λt_' p_' h_' n_' a_' z_' r0_' r1_' r2_' r3_' r4_' r5_' r6_' r7_' i_'=>Ai s k a c e u v t_' p_' h_' n_' a_' z_' r0_' r1_' r2_' r3_' r4_' r5_' r6_' r7_' i_'∧lx (12,0,0) (12,0,0)) (λi_'=>AP s k a c e u v i_'∧lx (11,0,0) (12,0,0)) (λt_' p_' h_' n_' a_' z_' r0_' r1_' r2_' r3_' r4_' r5_' r6_' r7_' i_'=>Ag s k a c e u v t_' p_' h_' n_' a_' z_' r0_' r1_' r2_' r3_' r4_' r5_' r6_' r7_' i_'∧lx (10,0,0) (12,0,0)) (λr__=>r__=(Ac s k a c e u v)) (λt_ p_ h_ n_ al_ zl_ x0_ x1_ x2_ x3_ x4_ x5_ x6_ x7_ r_=>BI ⟨t_,p_,h_,n_,al_,zl_,x0_,x1_,x2_,x3_,x4_,x5_,x6_,x7_⟩ ((Ac s k a c e u v).1)∧r_=(Ac s k a c e u v).2):=by
 unfold Ai at hI
 unfold V6
 try unfold AB
 try unfold A7
 try unfold Ah
 try unfold AC
 try unfold A8
 try unfold AL
 try unfold Aw
 try unfold AO
 try unfold Ai
 try unfold AP
 try unfold Ag
 obtain ⟨hR,rfl,_,_,rfl,hA,rfl⟩:=hI
 have key:Ac s 4 6 c 0 u v=(GM s 4 6 c u v,true):=by unfold Ac;rw [hA];rfl
 refine ⟨by decide, λ_=>⟨?_,?_⟩⟩
 ·show BI _ (Ac s 4 6 c 0 u v).1
  rw [key];exact ⟨hR.n,hR.z,by show Ef _ _ _=_;unfold Ef;rw [hR.eq];rfl⟩
 ·show _=(Ac s 4 6 c 0 u v).2
  rw [key]
theorem AbD (s:RS) (k a c e u v:Int) (hp0:s.a.length≤1000) (t_ p_ h_:Int) (n_:Nat) (a_ z_:LI) (r0_ r1_ r2_ r3_ r4_ r5_ r6_ r7_:Int) (hI:Ai s k a c e u v t_ p_ h_ n_ a_ z_ r0_ r1_ r2_ r3_ r4_ r5_ r6_ r7_ (7:Int)):V7 s k a c e u v t_ p_ h_ n_ a_ z_ r0_ r1_ r2_ r3_ r4_ r5_ r6_ r7_ (λq_'=>AB s k a c e u v q_'∧lx (20,0,0) (12,0,0)) (λt_' p_' h_' n_' a_' z_' r0_' r1_' r2_' r3_' r4_' r5_' r6_' r7_'=>A7 s k a c e u v t_' p_' h_' n_' a_' z_' r0_' r1_' r2_' r3_' r4_' r5_' r6_' r7_'∧lx (19,0,0) (12,0,0)) (λt_' p_' h_' n_' a_' z_' r0_' r1_' r2_' r3_' r4_' r5_' r6_' r7_' i_'=>Ah s k a c e u v t_' p_' h_' n_' a_' z_' r0_' r1_' r2_' r3_' r4_' r5_' r6_' r7_' i_'∧lx (18,(8-i_').toNat,0) (12,0,0)) (λk_'=>AC s k a c e u v k_'∧lx (17,0,0) (12,0,0)) (λt_' p_' h_' n_' a_' z_' r0_' r1_' r2_' r3_' r4_' r5_' r6_' r7_' k_'=>A8 s k a c e u v t_' p_' h_' n_' a_' z_' r0_' r1_' r2_' r3_' r4_' r5_' r6_' r7_' k_'∧lx (16,0,0) (12,0,0)) (λt_' p_' h_' n_' a_' z_' r0_' r1_' r2_' r3_' r4_' r5_' r6_' r7_' w_'=>AL s k a c e u v t_' p_' h_' n_' a_' z_' r0_' r1_' r2_' r3_' r4_' r5_' r6_' r7_' w_'∧lx (15,0,0) (12,0,0)) (λw_'=>Aw s k a c e u v w_'∧lx (14,0,0) (12,0,0)) (λq_' i_'=>AO s k a c e u v q_' i_'∧lx (13,0,0) (12,0,0)) (λt_' p_' h_' n_' a_' z_' r0_' r1_' r2_' r3_' r4_' r5_' r6_' r7_' i_'=>Ai s k a c e u v t_' p_' h_' n_' a_' z_' r0_' r1_' r2_' r3_' r4_' r5_' r6_' r7_' i_'∧lx (12,0,0) (12,0,0)) (λi_'=>AP s k a c e u v i_'∧lx (11,0,0) (12,0,0)) (λt_' p_' h_' n_' a_' z_' r0_' r1_' r2_' r3_' r4_' r5_' r6_' r7_' i_'=>Ag s k a c e u v t_' p_' h_' n_' a_' z_' r0_' r1_' r2_' r3_' r4_' r5_' r6_' r7_' i_'∧lx (10,0,0) (12,0,0)) (λr__=>r__=(Ac s k a c e u v)) (λt_ p_ h_ n_ al_ zl_ x0_ x1_ x2_ x3_ x4_ x5_ x6_ x7_ r_=>BI ⟨t_,p_,h_,n_,al_,zl_,x0_,x1_,x2_,x3_,x4_,x5_,x6_,x7_⟩ ((Ac s k a c e u v).1)∧r_=(Ac s k a c e u v).2):=by
 unfold Ai at hI
 unfold V7
 try unfold AB
 try unfold A7
 try unfold Ah
 try unfold AC
 try unfold A8
 try unfold AL
 try unfold Aw
 try unfold AO
 try unfold Ai
 try unfold AP
 try unfold Ag
 obtain ⟨hR,rfl,_,_,rfl,hA,rfl⟩:=hI
 have key:Ac s 4 7 c 0 u v=(GM s 4 7 c u v,true):=by unfold Ac;rw [hA];rfl
 refine ⟨by decide, λ_=>⟨?_,?_⟩⟩
 ·show BI _ (Ac s 4 7 c 0 u v).1
  rw [key];exact ⟨hR.n,hR.z,by show Ef _ _ _=_;unfold Ef;rw [hR.eq];rfl⟩
 ·show _=(Ac s 4 7 c 0 u v).2
  rw [key]
theorem Afj (s:RS) (k a c e u v:Int) (hp0:s.a.length≤1000) (i_ t_ p_ h_:Int) (n_:Nat) (al_ zl_:LI) (x0_ x1_ x2_ x3_ x4_ x5_ x6_ x7_:Int) (hI:AP s k a c e u v i_) (hx:BI ⟨t_,p_,h_,n_,al_,zl_,x0_,x1_,x2_,x3_,x4_,x5_,x6_,x7_⟩ (s)):Abw s k a c e u v i_ t_ p_ h_ n_ al_ zl_ x0_ x1_ x2_ x3_ x4_ x5_ x6_ x7_ (λt_' p_' h_' n_' a_' z_' r0_' r1_' r2_' r3_' r4_' r5_' r6_' r7_' i_'=>Ag s k a c e u v t_' p_' h_' n_' a_' z_' r0_' r1_' r2_' r3_' r4_' r5_' r6_' r7_' i_'∧lx (10,0,0) (11,0,0)):=by
 unfold AP at hI
 unfold Abw
 try unfold AB
 try unfold A7
 try unfold Ah
 try unfold AC
 try unfold A8
 try unfold AL
 try unfold Aw
 try unfold AO
 try unfold Ai
 try unfold AP
 try unfold Ag
 exact ⟨⟨hx,hI⟩,BU⟩
theorem AhD (s:RS) (k a c e u v:Int) (hp0:s.a.length≤1000) (t_ p_ h_:Int) (n_:Nat) (a_ z_:LI) (r0_ r1_ r2_ r3_ r4_ r5_ r6_ r7_ i_:Int) (hI:Ag s k a c e u v t_ p_ h_ n_ a_ z_ r0_ r1_ r2_ r3_ r4_ r5_ r6_ r7_ i_):i_=0∨i_=1∨i_=2∨i_=3∨i_=4∨i_=5∨i_=6∨i_=7:=by
 unfold Ag at hI
 omega
theorem YY (s:RS) (k a c e u v:Int) (hp0:s.a.length≤1000) (t_ p_ h_:Int) (n_:Nat) (a_ z_:LI) (r0_ r1_ r2_ r3_ r4_ r5_ r6_ r7_:Int) (hI:Ag s k a c e u v t_ p_ h_ n_ a_ z_ r0_ r1_ r2_ r3_ r4_ r5_ r6_ r7_ (0:Int)):TC s k a c e u v t_ p_ h_ n_ a_ z_ r0_ r1_ r2_ r3_ r4_ r5_ r6_ r7_ (λq_'=>AB s k a c e u v q_'∧lx (20,0,0) (10,0,0)) (λt_' p_' h_' n_' a_' z_' r0_' r1_' r2_' r3_' r4_' r5_' r6_' r7_'=>A7 s k a c e u v t_' p_' h_' n_' a_' z_' r0_' r1_' r2_' r3_' r4_' r5_' r6_' r7_'∧lx (19,0,0) (10,0,0)) (λt_' p_' h_' n_' a_' z_' r0_' r1_' r2_' r3_' r4_' r5_' r6_' r7_' i_'=>Ah s k a c e u v t_' p_' h_' n_' a_' z_' r0_' r1_' r2_' r3_' r4_' r5_' r6_' r7_' i_'∧lx (18,(8-i_').toNat,0) (10,0,0)) (λk_'=>AC s k a c e u v k_'∧lx (17,0,0) (10,0,0)) (λt_' p_' h_' n_' a_' z_' r0_' r1_' r2_' r3_' r4_' r5_' r6_' r7_' k_'=>A8 s k a c e u v t_' p_' h_' n_' a_' z_' r0_' r1_' r2_' r3_' r4_' r5_' r6_' r7_' k_'∧lx (16,0,0) (10,0,0)) (λt_' p_' h_' n_' a_' z_' r0_' r1_' r2_' r3_' r4_' r5_' r6_' r7_' w_'=>AL s k a c e u v t_' p_' h_' n_' a_' z_' r0_' r1_' r2_' r3_' r4_' r5_' r6_' r7_' w_'∧lx (15,0,0) (10,0,0)) (λw_'=>Aw s k a c e u v w_'∧lx (14,0,0) (10,0,0)) (λq_' i_'=>AO s k a c e u v q_' i_'∧lx (13,0,0) (10,0,0)) (λt_' p_' h_' n_' a_' z_' r0_' r1_' r2_' r3_' r4_' r5_' r6_' r7_' i_'=>Ai s k a c e u v t_' p_' h_' n_' a_' z_' r0_' r1_' r2_' r3_' r4_' r5_' r6_' r7_' i_'∧lx (12,0,0) (10,0,0)) (λi_'=>AP s k a c e u v i_'∧lx (11,0,0) (10,0,0)) (λt_' p_' h_' n_' a_' z_' r0_' r1_' r2_' r3_' r4_' r5_' r6_' r7_' i_'=>Ag s k a c e u v t_' p_' h_' n_' a_' z_' r0_' r1_' r2_' r3_' r4_' r5_' r6_' r7_' i_'∧lx (10,0,0) (10,0,0)) (λr__=>r__=(Ac s k a c e u v)) (λt_ p_ h_ n_ al_ zl_ x0_ x1_ x2_ x3_ x4_ x5_ x6_ x7_ r_=>BI ⟨t_,p_,h_,n_,al_,zl_,x0_,x1_,x2_,x3_,x4_,x5_,x6_,x7_⟩ ((Ac s k a c e u v).1)∧r_=(Ac s k a c e u v).2):=by
 unfold Ag at hI
 unfold TC
 try unfold AB
 try unfold A7
 try unfold Ah
 try unfold AC
 try unfold A8
 try unfold AL
 try unfold Aw
 try unfold AO
 try unfold Ai
 try unfold AP
 try unfold Ag
 obtain ⟨hR,rfl,_,_,rfl,hA,rfl⟩:=hI
 have key:Ac s 5 0 c 0 u v=(GM s 5 0 c u v,true):=by unfold Ac;rw [hA];rfl
 refine ⟨by decide, λ_=>⟨?_,?_⟩⟩
 ·show BI _ (Ac s 5 0 c 0 u v).1
  rw [key];exact ⟨hR.n,hR.z,by show Ef _ _ _=_;unfold Ef;rw [hR.eq];rfl⟩
 ·show _=(Ac s 5 0 c 0 u v).2
  rw [key]
theorem YZ (s:RS) (k a c e u v:Int) (hp0:s.a.length≤1000) (t_ p_ h_:Int) (n_:Nat) (a_ z_:LI) (r0_ r1_ r2_ r3_ r4_ r5_ r6_ r7_:Int) (hI:Ag s k a c e u v t_ p_ h_ n_ a_ z_ r0_ r1_ r2_ r3_ r4_ r5_ r6_ r7_ (1:Int)):TD s k a c e u v t_ p_ h_ n_ a_ z_ r0_ r1_ r2_ r3_ r4_ r5_ r6_ r7_ (λq_'=>AB s k a c e u v q_'∧lx (20,0,0) (10,0,0)) (λt_' p_' h_' n_' a_' z_' r0_' r1_' r2_' r3_' r4_' r5_' r6_' r7_'=>A7 s k a c e u v t_' p_' h_' n_' a_' z_' r0_' r1_' r2_' r3_' r4_' r5_' r6_' r7_'∧lx (19,0,0) (10,0,0)) (λt_' p_' h_' n_' a_' z_' r0_' r1_' r2_' r3_' r4_' r5_' r6_' r7_' i_'=>Ah s k a c e u v t_' p_' h_' n_' a_' z_' r0_' r1_' r2_' r3_' r4_' r5_' r6_' r7_' i_'∧lx (18,(8-i_').toNat,0) (10,0,0)) (λk_'=>AC s k a c e u v k_'∧lx (17,0,0) (10,0,0)) (λt_' p_' h_' n_' a_' z_' r0_' r1_' r2_' r3_' r4_' r5_' r6_' r7_' k_'=>A8 s k a c e u v t_' p_' h_' n_' a_' z_' r0_' r1_' r2_' r3_' r4_' r5_' r6_' r7_' k_'∧lx (16,0,0) (10,0,0)) (λt_' p_' h_' n_' a_' z_' r0_' r1_' r2_' r3_' r4_' r5_' r6_' r7_' w_'=>AL s k a c e u v t_' p_' h_' n_' a_' z_' r0_' r1_' r2_' r3_' r4_' r5_' r6_' r7_' w_'∧lx (15,0,0) (10,0,0)) (λw_'=>Aw s k a c e u v w_'∧lx (14,0,0) (10,0,0)) (λq_' i_'=>AO s k a c e u v q_' i_'∧lx (13,0,0) (10,0,0)) (λt_' p_' h_' n_' a_' z_' r0_' r1_' r2_' r3_' r4_' r5_' r6_' r7_' i_'=>Ai s k a c e u v t_' p_' h_' n_' a_' z_' r0_' r1_' r2_' r3_' r4_' r5_' r6_' r7_' i_'∧lx (12,0,0) (10,0,0)) (λi_'=>AP s k a c e u v i_'∧lx (11,0,0) (10,0,0)) (λt_' p_' h_' n_' a_' z_' r0_' r1_' r2_' r3_' r4_' r5_' r6_' r7_' i_'=>Ag s k a c e u v t_' p_' h_' n_' a_' z_' r0_' r1_' r2_' r3_' r4_' r5_' r6_' r7_' i_'∧lx (10,0,0) (10,0,0)) (λr__=>r__=(Ac s k a c e u v)) (λt_ p_ h_ n_ al_ zl_ x0_ x1_ x2_ x3_ x4_ x5_ x6_ x7_ r_=>BI ⟨t_,p_,h_,n_,al_,zl_,x0_,x1_,x2_,x3_,x4_,x5_,x6_,x7_⟩ ((Ac s k a c e u v).1)∧r_=(Ac s k a c e u v).2):=by
 unfold Ag at hI
 unfold TD
 try unfold AB
 try unfold A7
 try unfold Ah
 try unfold AC
 try unfold A8
 try unfold AL
 try unfold Aw
 try unfold AO
 try unfold Ai
 try unfold AP
 try unfold Ag
 obtain ⟨hR,rfl,_,_,rfl,hA,rfl⟩:=hI
 have key:Ac s 5 1 c 0 u v=(GM s 5 1 c u v,true):=by unfold Ac;rw [hA];rfl
 refine ⟨by decide, λ_=>⟨?_,?_⟩⟩
 ·show BI _ (Ac s 5 1 c 0 u v).1
  rw [key];exact ⟨hR.n,hR.z,by show Ef _ _ _=_;unfold Ef;rw [hR.eq];rfl⟩
 ·show _=(Ac s 5 1 c 0 u v).2
  rw [key]
theorem Za (s:RS) (k a c e u v:Int) (hp0:s.a.length≤1000) (t_ p_ h_:Int) (n_:Nat) (a_ z_:LI) (r0_ r1_ r2_ r3_ r4_ r5_ r6_ r7_:Int) (hI:Ag s k a c e u v t_ p_ h_ n_ a_ z_ r0_ r1_ r2_ r3_ r4_ r5_ r6_ r7_ (2:Int)):TE s k a c e u v t_ p_ h_ n_ a_ z_ r0_ r1_ r2_ r3_ r4_ r5_ r6_ r7_ (λq_'=>AB s k a c e u v q_'∧lx (20,0,0) (10,0,0)) (λt_' p_' h_' n_' a_' z_' r0_' r1_' r2_' r3_' r4_' r5_' r6_' r7_'=>A7 s k a c e u v t_' p_' h_' n_' a_' z_' r0_' r1_' r2_' r3_' r4_' r5_' r6_' r7_'∧lx (19,0,0) (10,0,0)) (λt_' p_' h_' n_' a_' z_' r0_' r1_' r2_' r3_' r4_' r5_' r6_' r7_' i_'=>Ah s k a c e u v t_' p_' h_' n_' a_' z_' r0_' r1_' r2_' r3_' r4_' r5_' r6_' r7_' i_'∧lx (18,(8-i_').toNat,0) (10,0,0)) (λk_'=>AC s k a c e u v k_'∧lx (17,0,0) (10,0,0)) (λt_' p_' h_' n_' a_' z_' r0_' r1_' r2_' r3_' r4_' r5_' r6_' r7_' k_'=>A8 s k a c e u v t_' p_' h_' n_' a_' z_' r0_' r1_' r2_' r3_' r4_' r5_' r6_' r7_' k_'∧lx (16,0,0) (10,0,0)) (λt_' p_' h_' n_' a_' z_' r0_' r1_' r2_' r3_' r4_' r5_' r6_' r7_' w_'=>AL s k a c e u v t_' p_' h_' n_' a_' z_' r0_' r1_' r2_' r3_' r4_' r5_' r6_' r7_' w_'∧lx (15,0,0) (10,0,0)) (λw_'=>Aw s k a c e u v w_'∧lx (14,0,0) (10,0,0)) (λq_' i_'=>AO s k a c e u v q_' i_'∧lx (13,0,0) (10,0,0)) (λt_' p_' h_' n_' a_' z_' r0_' r1_' r2_' r3_' r4_' r5_' r6_' r7_' i_'=>Ai s k a c e u v t_' p_' h_' n_' a_' z_' r0_' r1_' r2_' r3_' r4_' r5_' r6_' r7_' i_'∧lx (12,0,0) (10,0,0)) (λi_'=>AP s k a c e u v i_'∧lx (11,0,0) (10,0,0)) (λt_' p_' h_' n_' a_' z_' r0_' r1_' r2_' r3_' r4_' r5_' r6_' r7_' i_'=>Ag s k a c e u v t_' p_' h_' n_' a_' z_' r0_' r1_' r2_' r3_' r4_' r5_' r6_' r7_' i_'∧lx (10,0,0) (10,0,0)) (λr__=>r__=(Ac s k a c e u v)) (λt_ p_ h_ n_ al_ zl_ x0_ x1_ x2_ x3_ x4_ x5_ x6_ x7_ r_=>BI ⟨t_,p_,h_,n_,al_,zl_,x0_,x1_,x2_,x3_,x4_,x5_,x6_,x7_⟩ ((Ac s k a c e u v).1)∧r_=(Ac s k a c e u v).2):=by
 unfold Ag at hI
 unfold TE
 try unfold AB
 try unfold A7
 try unfold Ah
 try unfold AC
 try unfold A8
 try unfold AL
 try unfold Aw
 try unfold AO
 try unfold Ai
 try unfold AP
 try unfold Ag
 obtain ⟨hR,rfl,_,_,rfl,hA,rfl⟩:=hI
 have key:Ac s 5 2 c 0 u v=(GM s 5 2 c u v,true):=by unfold Ac;rw [hA];rfl
 refine ⟨by decide, λ_=>⟨?_,?_⟩⟩
 ·show BI _ (Ac s 5 2 c 0 u v).1
  rw [key];exact ⟨hR.n,hR.z,by show Ef _ _ _=_;unfold Ef;rw [hR.eq];rfl⟩
 ·show _=(Ac s 5 2 c 0 u v).2
  rw [key]
theorem Zb (s:RS) (k a c e u v:Int) (hp0:s.a.length≤1000) (t_ p_ h_:Int) (n_:Nat) (a_ z_:LI) (r0_ r1_ r2_ r3_ r4_ r5_ r6_ r7_:Int) (hI:Ag s k a c e u v t_ p_ h_ n_ a_ z_ r0_ r1_ r2_ r3_ r4_ r5_ r6_ r7_ (3:Int)):TF s k a c e u v t_ p_ h_ n_ a_ z_ r0_ r1_ r2_ r3_ r4_ r5_ r6_ r7_ (λq_'=>AB s k a c e u v q_'∧lx (20,0,0) (10,0,0)) (λt_' p_' h_' n_' a_' z_' r0_' r1_' r2_' r3_' r4_' r5_' r6_' r7_'=>A7 s k a c e u v t_' p_' h_' n_' a_' z_' r0_' r1_' r2_' r3_' r4_' r5_' r6_' r7_'∧lx (19,0,0) (10,0,0)) (λt_' p_' h_' n_' a_' z_' r0_' r1_' r2_' r3_' r4_' r5_' r6_' r7_' i_'=>Ah s k a c e u v t_' p_' h_' n_' a_' z_' r0_' r1_' r2_' r3_' r4_' r5_' r6_' r7_' i_'∧lx (18,(8-i_').toNat,0) (10,0,0)) (λk_'=>AC s k a c e u v k_'∧lx (17,0,0) (10,0,0)) (λt_' p_' h_' n_' a_' z_' r0_' r1_' r2_' r3_' r4_' r5_' r6_' r7_' k_'=>A8 s k a c e u v t_' p_' h_' n_' a_' z_' r0_' r1_' r2_' r3_' r4_' r5_' r6_' r7_' k_'∧lx (16,0,0) (10,0,0)) (λt_' p_' h_' n_' a_' z_' r0_' r1_' r2_' r3_' r4_' r5_' r6_' r7_' w_'=>AL s k a c e u v t_' p_' h_' n_' a_' z_' r0_' r1_' r2_' r3_' r4_' r5_' r6_' r7_' w_'∧lx (15,0,0) (10,0,0)) (λw_'=>Aw s k a c e u v w_'∧lx (14,0,0) (10,0,0)) (λq_' i_'=>AO s k a c e u v q_' i_'∧lx (13,0,0) (10,0,0)) (λt_' p_' h_' n_' a_' z_' r0_' r1_' r2_' r3_' r4_' r5_' r6_' r7_' i_'=>Ai s k a c e u v t_' p_' h_' n_' a_' z_' r0_' r1_' r2_' r3_' r4_' r5_' r6_' r7_' i_'∧lx (12,0,0) (10,0,0)) (λi_'=>AP s k a c e u v i_'∧lx (11,0,0) (10,0,0)) (λt_' p_' h_' n_' a_' z_' r0_' r1_' r2_' r3_' r4_' r5_' r6_' r7_' i_'=>Ag s k a c e u v t_' p_' h_' n_' a_' z_' r0_' r1_' r2_' r3_' r4_' r5_' r6_' r7_' i_'∧lx (10,0,0) (10,0,0)) (λr__=>r__=(Ac s k a c e u v)) (λt_ p_ h_ n_ al_ zl_ x0_ x1_ x2_ x3_ x4_ x5_ x6_ x7_ r_=>BI ⟨t_,p_,h_,n_,al_,zl_,x0_,x1_,x2_,x3_,x4_,x5_,x6_,x7_⟩ ((Ac s k a c e u v).1)∧r_=(Ac s k a c e u v).2):=by
 unfold Ag at hI
 unfold TF
 try unfold AB
 try unfold A7
 try unfold Ah
 try unfold AC
 try unfold A8
 try unfold AL
 try unfold Aw
 try unfold AO
 try unfold Ai
 try unfold AP
 try unfold Ag
 obtain ⟨hR,rfl,_,_,rfl,hA,rfl⟩:=hI
 have key:Ac s 5 3 c 0 u v=(GM s 5 3 c u v,true):=by unfold Ac;rw [hA];rfl
 refine ⟨by decide, λ_=>⟨?_,?_⟩⟩
 ·show BI _ (Ac s 5 3 c 0 u v).1
  rw [key];exact ⟨hR.n,hR.z,by show Ef _ _ _=_;unfold Ef;rw [hR.eq];rfl⟩
 ·show _=(Ac s 5 3 c 0 u v).2
  rw [key]
theorem Zd (s:RS) (k a c e u v:Int) (hp0:s.a.length≤1000) (t_ p_ h_:Int) (n_:Nat) (a_ z_:LI) (r0_ r1_ r2_ r3_ r4_ r5_ r6_ r7_:Int) (hI:Ag s k a c e u v t_ p_ h_ n_ a_ z_ r0_ r1_ r2_ r3_ r4_ r5_ r6_ r7_ (4:Int)):TG s k a c e u v t_ p_ h_ n_ a_ z_ r0_ r1_ r2_ r3_ r4_ r5_ r6_ r7_ (λq_'=>AB s k a c e u v q_'∧lx (20,0,0) (10,0,0)) (λt_' p_' h_' n_' a_' z_' r0_' r1_' r2_' r3_' r4_' r5_' r6_' r7_'=>A7 s k a c e u v t_' p_' h_' n_' a_' z_' r0_' r1_' r2_' r3_' r4_' r5_' r6_' r7_'∧lx (19,0,0) (10,0,0)) (λt_' p_' h_' n_' a_' z_' r0_' r1_' r2_' r3_' r4_' r5_' r6_' r7_' i_'=>Ah s k a c e u v t_' p_' h_' n_' a_' z_' r0_' r1_' r2_' r3_' r4_' r5_' r6_' r7_' i_'∧lx (18,(8-i_').toNat,0) (10,0,0)) (λk_'=>AC s k a c e u v k_'∧lx (17,0,0) (10,0,0)) (λt_' p_' h_' n_' a_' z_' r0_' r1_' r2_' r3_' r4_' r5_' r6_' r7_' k_'=>A8 s k a c e u v t_' p_' h_' n_' a_' z_' r0_' r1_' r2_' r3_' r4_' r5_' r6_' r7_' k_'∧lx (16,0,0) (10,0,0)) (λt_' p_' h_' n_' a_' z_' r0_' r1_' r2_' r3_' r4_' r5_' r6_' r7_' w_'=>AL s k a c e u v t_' p_' h_' n_' a_' z_' r0_' r1_' r2_' r3_' r4_' r5_' r6_' r7_' w_'∧lx (15,0,0) (10,0,0)) (λw_'=>Aw s k a c e u v w_'∧lx (14,0,0) (10,0,0)) (λq_' i_'=>AO s k a c e u v q_' i_'∧lx (13,0,0) (10,0,0)) (λt_' p_' h_' n_' a_' z_' r0_' r1_' r2_' r3_' r4_' r5_' r6_' r7_' i_'=>Ai s k a c e u v t_' p_' h_' n_' a_' z_' r0_' r1_' r2_' r3_' r4_' r5_' r6_' r7_' i_'∧lx (12,0,0) (10,0,0)) (λi_'=>AP s k a c e u v i_'∧lx (11,0,0) (10,0,0)) (λt_' p_' h_' n_' a_' z_' r0_' r1_' r2_' r3_' r4_' r5_' r6_' r7_' i_'=>Ag s k a c e u v t_' p_' h_' n_' a_' z_' r0_' r1_' r2_' r3_' r4_' r5_' r6_' r7_' i_'∧lx (10,0,0) (10,0,0)) (λr__=>r__=(Ac s k a c e u v)) (λt_ p_ h_ n_ al_ zl_ x0_ x1_ x2_ x3_ x4_ x5_ x6_ x7_ r_=>BI ⟨t_,p_,h_,n_,al_,zl_,x0_,x1_,x2_,x3_,x4_,x5_,x6_,x7_⟩ ((Ac s k a c e u v).1)∧r_=(Ac s k a c e u v).2):=by
 unfold Ag at hI
 unfold TG
 try unfold AB
 try unfold A7
 try unfold Ah
 try unfold AC
 try unfold A8
 try unfold AL
 try unfold Aw
 try unfold AO
 try unfold Ai
 try unfold AP
 try unfold Ag
 obtain ⟨hR,rfl,_,_,rfl,hA,rfl⟩:=hI
 have key:Ac s 5 4 c 0 u v=(GM s 5 4 c u v,true):=by unfold Ac;rw [hA];rfl
 refine ⟨by decide, λ_=>⟨?_,?_⟩⟩
 ·show BI _ (Ac s 5 4 c 0 u v).1
  rw [key];exact ⟨hR.n,hR.z,by show Ef _ _ _=_;unfold Ef;rw [hR.eq];rfl⟩
 ·show _=(Ac s 5 4 c 0 u v).2
  rw [key]
theorem Ze (s:RS) (k a c e u v:Int) (hp0:s.a.length≤1000) (t_ p_ h_:Int) (n_:Nat) (a_ z_:LI) (r0_ r1_ r2_ r3_ r4_ r5_ r6_ r7_:Int) (hI:Ag s k a c e u v t_ p_ h_ n_ a_ z_ r0_ r1_ r2_ r3_ r4_ r5_ r6_ r7_ (5:Int)):TI s k a c e u v t_ p_ h_ n_ a_ z_ r0_ r1_ r2_ r3_ r4_ r5_ r6_ r7_ (λq_'=>AB s k a c e u v q_'∧lx (20,0,0) (10,0,0)) (λt_' p_' h_' n_' a_' z_' r0_' r1_' r2_' r3_' r4_' r5_' r6_' r7_'=>A7 s k a c e u v t_' p_' h_' n_' a_' z_' r0_' r1_' r2_' r3_' r4_' r5_' r6_' r7_'∧lx (19,0,0) (10,0,0)) (λt_' p_' h_' n_' a_' z_' r0_' r1_' r2_' r3_' r4_' r5_' r6_' r7_' i_'=>Ah s k a c e u v t_' p_' h_' n_' a_' z_' r0_' r1_' r2_' r3_' r4_' r5_' r6_' r7_' i_'∧lx (18,(8-i_').toNat,0) (10,0,0)) (λk_'=>AC s k a c e u v k_'∧lx (17,0,0) (10,0,0)) (λt_' p_' h_' n_' a_' z_' r0_' r1_' r2_' r3_' r4_' r5_' r6_' r7_' k_'=>A8 s k a c e u v t_' p_' h_' n_' a_' z_' r0_' r1_' r2_' r3_' r4_' r5_' r6_' r7_' k_'∧lx (16,0,0) (10,0,0)) (λt_' p_' h_' n_' a_' z_' r0_' r1_' r2_' r3_' r4_' r5_' r6_' r7_' w_'=>AL s k a c e u v t_' p_' h_' n_' a_' z_' r0_' r1_' r2_' r3_' r4_' r5_' r6_' r7_' w_'∧lx (15,0,0) (10,0,0)) (λw_'=>Aw s k a c e u v w_'∧lx (14,0,0) (10,0,0)) (λq_' i_'=>AO s k a c e u v q_' i_'∧lx (13,0,0) (10,0,0)) (λt_' p_' h_' n_' a_' z_' r0_' r1_' r2_' r3_' r4_' r5_' r6_' r7_' i_'=>Ai s k a c e u v t_' p_' h_' n_' a_' z_' r0_' r1_' r2_' r3_' r4_' r5_' r6_' r7_' i_'∧lx (12,0,0) (10,0,0)) (λi_'=>AP s k a c e u v i_'∧lx (11,0,0) (10,0,0)) (λt_' p_' h_' n_' a_' z_' r0_' r1_' r2_' r3_' r4_' r5_' r6_' r7_' i_'=>Ag s k a c e u v t_' p_' h_' n_' a_' z_' r0_' r1_' r2_' r3_' r4_' r5_' r6_' r7_' i_'∧lx (10,0,0) (10,0,0)) (λr__=>r__=(Ac s k a c e u v)) (λt_ p_ h_ n_ al_ zl_ x0_ x1_ x2_ x3_ x4_ x5_ x6_ x7_ r_=>BI ⟨t_,p_,h_,n_,al_,zl_,x0_,x1_,x2_,x3_,x4_,x5_,x6_,x7_⟩ ((Ac s k a c e u v).1)∧r_=(Ac s k a c e u v).2):=by
 unfold Ag at hI
 unfold TI
 try unfold AB
 try unfold A7
 try unfold Ah
 try unfold AC
 try unfold A8
 try unfold AL
 try unfold Aw
 try unfold AO
 try unfold Ai
 try unfold AP
 try unfold Ag
 obtain ⟨hR,rfl,_,_,rfl,hA,rfl⟩:=hI
 have key:Ac s 5 5 c 0 u v=(GM s 5 5 c u v,true):=by unfold Ac;rw [hA];rfl
 refine ⟨by decide, λ_=>⟨?_,?_⟩⟩
 ·show BI _ (Ac s 5 5 c 0 u v).1
  rw [key];exact ⟨hR.n,hR.z,by show Ef _ _ _=_;unfold Ef;rw [hR.eq];rfl⟩
 ·show _=(Ac s 5 5 c 0 u v).2
  rw [key]
theorem Zf (s:RS) (k a c e u v:Int) (hp0:s.a.length≤1000) (t_ p_ h_:Int) (n_:Nat) (a_ z_:LI) (r0_ r1_ r2_ r3_ r4_ r5_ r6_ r7_:Int) (hI:Ag s k a c e u v t_ p_ h_ n_ a_ z_ r0_ r1_ r2_ r3_ r4_ r5_ r6_ r7_ (6:Int)):TJ s k a c e u v t_ p_ h_ n_ a_ z_ r0_ r1_ r2_ r3_ r4_ r5_ r6_ r7_ (λq_'=>AB s k a c e u v q_'∧lx (20,0,0) (10,0,0)) (λt_' p_' h_' n_' a_' z_' r0_' r1_' r2_' r3_' r4_' r5_' r6_' r7_'=>A7 s k a c e u v t_' p_' h_' n_' a_' z_' r0_' r1_' r2_' r3_' r4_' r5_' r6_' r7_'∧lx (19,0,0) (10,0,0)) (λt_' p_' h_' n_' a_' z_' r0_' r1_' r2_' r3_' r4_' r5_' r6_' r7_' i_'=>Ah s k a c e u v t_' p_' h_' n_' a_' z_' r0_' r1_' r2_' r3_' r4_' r5_' r6_' r7_' i_'∧lx (18,(8-i_').toNat,0) (10,0,0)) (λk_'=>AC s k a c e u v k_'∧lx (17,0,0) (10,0,0)) (λt_' p_' h_' n_' a_' z_' r0_' r1_' r2_' r3_' r4_' r5_' r6_' r7_' k_'=>A8 s k a c e u v t_' p_' h_' n_' a_' z_' r0_' r1_' r2_' r3_' r4_' r5_' r6_' r7_' k_'∧lx (16,0,0) (10,0,0)) (λt_' p_' h_' n_' a_' z_' r0_' r1_' r2_' r3_' r4_' r5_' r6_' r7_' w_'=>AL s k a c e u v t_' p_' h_' n_' a_' z_' r0_' r1_' r2_' r3_' r4_' r5_' r6_' r7_' w_'∧lx (15,0,0) (10,0,0)) (λw_'=>Aw s k a c e u v w_'∧lx (14,0,0) (10,0,0)) (λq_' i_'=>AO s k a c e u v q_' i_'∧lx (13,0,0) (10,0,0)) (λt_' p_' h_' n_' a_' z_' r0_' r1_' r2_' r3_' r4_' r5_' r6_' r7_' i_'=>Ai s k a c e u v t_' p_' h_' n_' a_' z_' r0_' r1_' r2_' r3_' r4_' r5_' r6_' r7_' i_'∧lx (12,0,0) (10,0,0)) (λi_'=>AP s k a c e u v i_'∧lx (11,0,0) (10,0,0)) (λt_' p_' h_' n_' a_' z_' r0_' r1_' r2_' r3_' r4_' r5_' r6_' r7_' i_'=>Ag s k a c e u v t_' p_' h_' n_' a_' z_' r0_' r1_' r2_' r3_' r4_' r5_' r6_' r7_' i_'∧lx (10,0,0) (10,0,0)) (λr__=>r__=(Ac s k a c e u v)) (λt_ p_ h_ n_ al_ zl_ x0_ x1_ x2_ x3_ x4_ x5_ x6_ x7_ r_=>BI ⟨t_,p_,h_,n_,al_,zl_,x0_,x1_,x2_,x3_,x4_,x5_,x6_,x7_⟩ ((Ac s k a c e u v).1)∧r_=(Ac s k a c e u v).2):=by
 unfold Ag at hI
 unfold TJ
 try unfold AB
 try unfold A7
 try unfold Ah
 try unfold AC
 try unfold A8
 try unfold AL
 try unfold Aw
 try unfold AO
 try unfold Ai
 try unfold AP
 try unfold Ag
 obtain ⟨hR,rfl,_,_,rfl,hA,rfl⟩:=hI
 have key:Ac s 5 6 c 0 u v=(GM s 5 6 c u v,true):=by unfold Ac;rw [hA];rfl
 refine ⟨by decide, λ_=>⟨?_,?_⟩⟩
 ·show BI _ (Ac s 5 6 c 0 u v).1
  rw [key];exact ⟨hR.n,hR.z,by show Ef _ _ _=_;unfold Ef;rw [hR.eq];rfl⟩
 ·show _=(Ac s 5 6 c 0 u v).2
  rw [key]
theorem Zg (s:RS) (k a c e u v:Int) (hp0:s.a.length≤1000) (t_ p_ h_:Int) (n_:Nat) (a_ z_:LI) (r0_ r1_ r2_ r3_ r4_ r5_ r6_ r7_:Int) (hI:Ag s k a c e u v t_ p_ h_ n_ a_ z_ r0_ r1_ r2_ r3_ r4_ r5_ r6_ r7_ (7:Int)):TK s k a c e u v t_ p_ h_ n_ a_ z_ r0_ r1_ r2_ r3_ r4_ r5_ r6_ r7_ (λq_'=>AB s k a c e u v q_'∧lx (20,0,0) (10,0,0)) (λt_' p_' h_' n_' a_' z_' r0_' r1_' r2_' r3_' r4_' r5_' r6_' r7_'=>A7 s k a c e u v t_' p_' h_' n_' a_' z_' r0_' r1_' r2_' r3_' r4_' r5_' r6_' r7_'∧lx (19,0,0) (10,0,0)) (λt_' p_' h_' n_' a_' z_' r0_' r1_' r2_' r3_' r4_' r5_' r6_' r7_' i_'=>Ah s k a c e u v t_' p_' h_' n_' a_' z_' r0_' r1_' r2_' r3_' r4_' r5_' r6_' r7_' i_'∧lx (18,(8-i_').toNat,0) (10,0,0)) (λk_'=>AC s k a c e u v k_'∧lx (17,0,0) (10,0,0)) (λt_' p_' h_' n_' a_' z_' r0_' r1_' r2_' r3_' r4_' r5_' r6_' r7_' k_'=>A8 s k a c e u v t_' p_' h_' n_' a_' z_' r0_' r1_' r2_' r3_' r4_' r5_' r6_' r7_' k_'∧lx (16,0,0) (10,0,0)) (λt_' p_' h_' n_' a_' z_' r0_' r1_' r2_' r3_' r4_' r5_' r6_' r7_' w_'=>AL s k a c e u v t_' p_' h_' n_' a_' z_' r0_' r1_' r2_' r3_' r4_' r5_' r6_' r7_' w_'∧lx (15,0,0) (10,0,0)) (λw_'=>Aw s k a c e u v w_'∧lx (14,0,0) (10,0,0)) (λq_' i_'=>AO s k a c e u v q_' i_'∧lx (13,0,0) (10,0,0)) (λt_' p_' h_' n_' a_' z_' r0_' r1_' r2_' r3_' r4_' r5_' r6_' r7_' i_'=>Ai s k a c e u v t_' p_' h_' n_' a_' z_' r0_' r1_' r2_' r3_' r4_' r5_' r6_' r7_' i_'∧lx (12,0,0) (10,0,0)) (λi_'=>AP s k a c e u v i_'∧lx (11,0,0) (10,0,0)) (λt_' p_' h_' n_' a_' z_' r0_' r1_' r2_' r3_' r4_' r5_' r6_' r7_' i_'=>Ag s k a c e u v t_' p_' h_' n_' a_' z_' r0_' r1_' r2_' r3_' r4_' r5_' r6_' r7_' i_'∧lx (10,0,0) (10,0,0)) (λr__=>r__=(Ac s k a c e u v)) (λt_ p_ h_ n_ al_ zl_ x0_ x1_ x2_ x3_ x4_ x5_ x6_ x7_ r_=>BI ⟨t_,p_,h_,n_,al_,zl_,x0_,x1_,x2_,x3_,x4_,x5_,x6_,x7_⟩ ((Ac s k a c e u v).1)∧r_=(Ac s k a c e u v).2):=by
 unfold Ag at hI
 unfold TK
 try unfold AB
 try unfold A7
 try unfold Ah
 try unfold AC
 try unfold A8
 try unfold AL
 try unfold Aw
 try unfold AO
 try unfold Ai
 try unfold AP
 try unfold Ag
 obtain ⟨hR,rfl,_,_,rfl,hA,rfl⟩:=hI
 have key:Ac s 5 7 c 0 u v=(GM s 5 7 c u v,true):=by unfold Ac;rw [hA];rfl
 refine ⟨by decide, λ_=>⟨?_,?_⟩⟩
 ·show BI _ (Ac s 5 7 c 0 u v).1
  rw [key];exact ⟨hR.n,hR.z,by show Ef _ _ _=_;unfold Ef;rw [hR.eq];rfl⟩
 ·show _=(Ac s 5 7 c 0 u v).2
  rw [key]
theorem AbE:DZ 19 Aep:=
 EX Dg I5 false TB (I:=[1772789138000,1521130898900,6889840018000,11184807314900,7158275474900,2999998,1500000000000,1500000000004,1500000000005,1500000000008]) Try.func19 mix (B:=AY Try.f19) (by kernel_rfl) rfl (by kernel_rfl) 400
  λo s k a c e u v hb hp=>have hp0:s.a.length≤1000:=hp _ (.head _);⟨s,(Ac s k a c e u v).1,(Ac s k a c e u v).2,[⟨some 0,[0,1,1,0,1,1,1,1,1,0,1,0,1,1,1,1],[.code [1,1,1,0,1,1,1,1,1,0,1,0,1,1,1,1], .blk 0, .code [1,1,1,1,1]],[0,4,5],[.objc D7 ⟨o,0,none⟩, .box 29 [.ic .i64 (k), .ic .i64 (a), .ic .i64 (c)], .box 32 [.ic .i64 (e), .ic .i64 (u), .ic .i64 (v)]]⟩,⟨some 0,[0,1,1,0,1,1,1,1,1,0,1,0,1,1,1,1],[.code [1,1,1,0,1,1,1,1,1,0,1,0,1,1,1,1], .blk 0, .code [1,1,1,1,1]],[0,4,5],[.boxc o BL.t BL.l, .box 29 [.ic .i64 (k), .ic .i64 (a), .ic .i64 (c)], .box 32 [.ic .i64 (e), .ic .i64 (u), .ic .i64 (v)]]⟩,⟨none,[0,1,1,1,0,1,1,1,1,1,0,1,0,1,1,1,1],[.blk 1, .blk 0, .code [1,1,1,1,1]],[0,4,5,8],[.boxc o BL.t BL.l, .box 29 [.ic .i64 (k), .ic .i64 (a), .ic .i64 (c)], .box 32 [.ic .i64 (e), .ic .i64 (u), .ic .i64 (v)], .i .i64]⟩,⟨some 900,[0,0,1,1,1,1,1,1,1,0,1,0,1,1,1,1],[.code [1,0,1,1,1,1,1,1,1,0,1,0,1,1,1,1], .blk 0, .code [1,1,1,1,1]],[0,4,5,24],[.objk D7 ⟨o,0,none⟩ (s), .box 29 [.ic .i64 (k), .ic .i64 (a), .ic .i64 (c)], .box 32 [.ic .i64 (e), .ic .i64 (u), .ic .i64 (v)], .i .i64]⟩,⟨some 900,[0,0,1,1,1,1,1,1,1,0,1,0,1,1,1,1],[.code [1,0,1,1,1,1,1,1,1,0,1,0,1,1,1,1], .blk 0, .code [1,1,1,1,1]],[0,4,5,24],[.boxc o BL.t BL.l, .box 29 [.ic .i64 (k), .ic .i64 (a), .ic .i64 (c)], .box 32 [.ic .i64 (e), .ic .i64 (u), .ic .i64 (v)], .i .i64]⟩,⟨some 0,[0,1,0,1,1,1,1,1,1,1,0,1,0,1,1,1,1],[.code [1,1,0,1,1,1,1,1,1,1,0,1,0,1,1,1,1], .blk 0, .code [1,1,1,1,1]],[0,4,5,9],[.boxc o BL.t BL.l, .box 29 [.ic .i64 (k), .ic .i64 (a), .ic .i64 (c)], .box 32 [.ic .i64 (e), .ic .i64 (u), .ic .i64 (v)], .i .i64]⟩,⟨some 0,[0,1,0,1,1,1,1,1,1,1,0,1,0,1,1,1,1],[.code [1,1,0,1,1,1,1,1,1,1,0,1,0,1,1,1,1], .blk 0, .code [1,1,1,1,1]],[0,4,5,9],[.objk D7 ⟨o,0,none⟩ (s), .box 29 [.ic .i64 (k), .ic .i64 (a), .ic .i64 (c)], .box 32 [.ic .i64 (e), .ic .i64 (u), .ic .i64 (v)], .i .i64]⟩,⟨some 900,[1,1,0,1,1,1,1,1,1,1,0,1,0,1,1,1,1],[.blk 0, .code [1,1,1,1,1]],[0,4,5],[.objc D7 ⟨o,0,none⟩, .box 29 [.ic .i64 (k), .i .i64, .ic .i64 (c)], .box 32 [.ic .i64 (e), .ic .i64 (u), .ic .i64 (v)]]⟩,⟨some 900,[1,1,0,1,1,1,1,1,1,1,0,1,0,1,1,1,1],[.blk 0, .code [1,1,1,1,1]],[0,4,5],[.boxc o BL.t BL.l, .box 29 [.ic .i64 (k), .i .i64, .ic .i64 (c)], .box 32 [.ic .i64 (e), .ic .i64 (u), .ic .i64 (v)]]⟩,⟨some 900,[0,1,1,1,1,1,1,1,1,1,0,1,0,1,1,1,1],[.blk 0, .code [1,1,1,1,1]],[0,4,5],[.objk D7 ⟨o,0,none⟩ (s), .box 29 [.ic .i64 (k), .i .i64, .ic .i64 (c)], .box 32 [.ic .i64 (e), .ic .i64 (u), .ic .i64 (v)]]⟩,⟨some 900,[0,1,1,1,1,1,1,1,1,1,0,1,0,1,1,1,1],[.blk 0, .code [1,1,1,1,1]],[0,4,5],[.boxc o BL.t BL.l, .box 29 [.ic .i64 (k), .i .i64, .ic .i64 (c)], .box 32 [.ic .i64 (e), .ic .i64 (u), .ic .i64 (v)]]⟩],[.opn 0 (λ_=>o) 1, .run, .run, .opn 0 (λ_=>o) 4, .run, .cls 6, .run, .opn 0 (λ_=>o) 8, .run, .opn 0 (λ_=>o) 10, .run], λj=>iM [Ak (Hd.kd (⟨some 0,[0,1,1,0,1,1,1,1,1,0,1,0,1,1,1,1],[.code [1,1,1,0,1,1,1,1,1,0,1,0,1,1,1,1], .blk 0, .code [1,1,1,1,1]],[0,4,5],[.objc D7 ⟨o,0,none⟩, .box 29 [.ic .i64 (k), .ic .i64 (a), .ic .i64 (c)], .box 32 [.ic .i64 (e), .ic .i64 (u), .ic .i64 (v)]]⟩:Hd Sg)) (λq_'=>AB s k a c e u v q_'),Ak (Hd.kd (⟨some 0,[0,1,1,0,1,1,1,1,1,0,1,0,1,1,1,1],[.code [1,1,1,0,1,1,1,1,1,0,1,0,1,1,1,1], .blk 0, .code [1,1,1,1,1]],[0,4,5],[.boxc o BL.t BL.l, .box 29 [.ic .i64 (k), .ic .i64 (a), .ic .i64 (c)], .box 32 [.ic .i64 (e), .ic .i64 (u), .ic .i64 (v)]]⟩:Hd Sg)) (λt_' p_' h_' n_' a_' z_' r0_' r1_' r2_' r3_' r4_' r5_' r6_' r7_'=>A7 s k a c e u v t_' p_' h_' n_' a_' z_' r0_' r1_' r2_' r3_' r4_' r5_' r6_' r7_'),Ak (Hd.kd (⟨none,[0,1,1,1,0,1,1,1,1,1,0,1,0,1,1,1,1],[.blk 1, .blk 0, .code [1,1,1,1,1]],[0,4,5,8],[.boxc o BL.t BL.l, .box 29 [.ic .i64 (k), .ic .i64 (a), .ic .i64 (c)], .box 32 [.ic .i64 (e), .ic .i64 (u), .ic .i64 (v)], .i .i64]⟩:Hd Sg)) (λt_' p_' h_' n_' a_' z_' r0_' r1_' r2_' r3_' r4_' r5_' r6_' r7_' i_'=>Ah s k a c e u v t_' p_' h_' n_' a_' z_' r0_' r1_' r2_' r3_' r4_' r5_' r6_' r7_' i_'),Ak (Hd.kd (⟨some 900,[0,0,1,1,1,1,1,1,1,0,1,0,1,1,1,1],[.code [1,0,1,1,1,1,1,1,1,0,1,0,1,1,1,1], .blk 0, .code [1,1,1,1,1]],[0,4,5,24],[.objk D7 ⟨o,0,none⟩ (s), .box 29 [.ic .i64 (k), .ic .i64 (a), .ic .i64 (c)], .box 32 [.ic .i64 (e), .ic .i64 (u), .ic .i64 (v)], .i .i64]⟩:Hd Sg)) (λk_'=>AC s k a c e u v k_'),Ak (Hd.kd (⟨some 900,[0,0,1,1,1,1,1,1,1,0,1,0,1,1,1,1],[.code [1,0,1,1,1,1,1,1,1,0,1,0,1,1,1,1], .blk 0, .code [1,1,1,1,1]],[0,4,5,24],[.boxc o BL.t BL.l, .box 29 [.ic .i64 (k), .ic .i64 (a), .ic .i64 (c)], .box 32 [.ic .i64 (e), .ic .i64 (u), .ic .i64 (v)], .i .i64]⟩:Hd Sg)) (λt_' p_' h_' n_' a_' z_' r0_' r1_' r2_' r3_' r4_' r5_' r6_' r7_' k_'=>A8 s k a c e u v t_' p_' h_' n_' a_' z_' r0_' r1_' r2_' r3_' r4_' r5_' r6_' r7_' k_'),Ak (Hd.kd (⟨some 0,[0,1,0,1,1,1,1,1,1,1,0,1,0,1,1,1,1],[.code [1,1,0,1,1,1,1,1,1,1,0,1,0,1,1,1,1], .blk 0, .code [1,1,1,1,1]],[0,4,5,9],[.boxc o BL.t BL.l, .box 29 [.ic .i64 (k), .ic .i64 (a), .ic .i64 (c)], .box 32 [.ic .i64 (e), .ic .i64 (u), .ic .i64 (v)], .i .i64]⟩:Hd Sg)) (λt_' p_' h_' n_' a_' z_' r0_' r1_' r2_' r3_' r4_' r5_' r6_' r7_' w_'=>AL s k a c e u v t_' p_' h_' n_' a_' z_' r0_' r1_' r2_' r3_' r4_' r5_' r6_' r7_' w_'),Ak (Hd.kd (⟨some 0,[0,1,0,1,1,1,1,1,1,1,0,1,0,1,1,1,1],[.code [1,1,0,1,1,1,1,1,1,1,0,1,0,1,1,1,1], .blk 0, .code [1,1,1,1,1]],[0,4,5,9],[.objk D7 ⟨o,0,none⟩ (s), .box 29 [.ic .i64 (k), .ic .i64 (a), .ic .i64 (c)], .box 32 [.ic .i64 (e), .ic .i64 (u), .ic .i64 (v)], .i .i64]⟩:Hd Sg)) (λw_'=>Aw s k a c e u v w_'),Ak (Hd.kd (⟨some 900,[1,1,0,1,1,1,1,1,1,1,0,1,0,1,1,1,1],[.blk 0, .code [1,1,1,1,1]],[0,4,5],[.objc D7 ⟨o,0,none⟩, .box 29 [.ic .i64 (k), .i .i64, .ic .i64 (c)], .box 32 [.ic .i64 (e), .ic .i64 (u), .ic .i64 (v)]]⟩:Hd Sg)) (λq_' i_'=>AO s k a c e u v q_' i_'),Ak (Hd.kd (⟨some 900,[1,1,0,1,1,1,1,1,1,1,0,1,0,1,1,1,1],[.blk 0, .code [1,1,1,1,1]],[0,4,5],[.boxc o BL.t BL.l, .box 29 [.ic .i64 (k), .i .i64, .ic .i64 (c)], .box 32 [.ic .i64 (e), .ic .i64 (u), .ic .i64 (v)]]⟩:Hd Sg)) (λt_' p_' h_' n_' a_' z_' r0_' r1_' r2_' r3_' r4_' r5_' r6_' r7_' i_'=>Ai s k a c e u v t_' p_' h_' n_' a_' z_' r0_' r1_' r2_' r3_' r4_' r5_' r6_' r7_' i_'),Ak (Hd.kd (⟨some 900,[0,1,1,1,1,1,1,1,1,1,0,1,0,1,1,1,1],[.blk 0, .code [1,1,1,1,1]],[0,4,5],[.objk D7 ⟨o,0,none⟩ (s), .box 29 [.ic .i64 (k), .i .i64, .ic .i64 (c)], .box 32 [.ic .i64 (e), .ic .i64 (u), .ic .i64 (v)]]⟩:Hd Sg)) (λi_'=>AP s k a c e u v i_'),Ak (Hd.kd (⟨some 900,[0,1,1,1,1,1,1,1,1,1,0,1,0,1,1,1,1],[.blk 0, .code [1,1,1,1,1]],[0,4,5],[.boxc o BL.t BL.l, .box 29 [.ic .i64 (k), .i .i64, .ic .i64 (c)], .box 32 [.ic .i64 (e), .ic .i64 (u), .ic .i64 (v)]]⟩:Hd Sg)) (λt_' p_' h_' n_' a_' z_' r0_' r1_' r2_' r3_' r4_' r5_' r6_' r7_' i_'=>Ag s k a c e u v t_' p_' h_' n_' a_' z_' r0_' r1_' r2_' r3_' r4_' r5_' r6_' r7_' i_')] j (λ_=>False), λj=>iM [Ak (Hd.kd (⟨some 0,[0,1,1,0,1,1,1,1,1,0,1,0,1,1,1,1],[.code [1,1,1,0,1,1,1,1,1,0,1,0,1,1,1,1], .blk 0, .code [1,1,1,1,1]],[0,4,5],[.objc D7 ⟨o,0,none⟩, .box 29 [.ic .i64 (k), .ic .i64 (a), .ic .i64 (c)], .box 32 [.ic .i64 (e), .ic .i64 (u), .ic .i64 (v)]]⟩:Hd Sg)) (λq_'=>(20,0,0)),Ak (Hd.kd (⟨some 0,[0,1,1,0,1,1,1,1,1,0,1,0,1,1,1,1],[.code [1,1,1,0,1,1,1,1,1,0,1,0,1,1,1,1], .blk 0, .code [1,1,1,1,1]],[0,4,5],[.boxc o BL.t BL.l, .box 29 [.ic .i64 (k), .ic .i64 (a), .ic .i64 (c)], .box 32 [.ic .i64 (e), .ic .i64 (u), .ic .i64 (v)]]⟩:Hd Sg)) (λt_' p_' h_' n_' a_' z_' r0_' r1_' r2_' r3_' r4_' r5_' r6_' r7_'=>(19,0,0)),Ak (Hd.kd (⟨none,[0,1,1,1,0,1,1,1,1,1,0,1,0,1,1,1,1],[.blk 1, .blk 0, .code [1,1,1,1,1]],[0,4,5,8],[.boxc o BL.t BL.l, .box 29 [.ic .i64 (k), .ic .i64 (a), .ic .i64 (c)], .box 32 [.ic .i64 (e), .ic .i64 (u), .ic .i64 (v)], .i .i64]⟩:Hd Sg)) (λt_' p_' h_' n_' a_' z_' r0_' r1_' r2_' r3_' r4_' r5_' r6_' r7_' i_'=>(18,(8-i_').toNat,0)),Ak (Hd.kd (⟨some 900,[0,0,1,1,1,1,1,1,1,0,1,0,1,1,1,1],[.code [1,0,1,1,1,1,1,1,1,0,1,0,1,1,1,1], .blk 0, .code [1,1,1,1,1]],[0,4,5,24],[.objk D7 ⟨o,0,none⟩ (s), .box 29 [.ic .i64 (k), .ic .i64 (a), .ic .i64 (c)], .box 32 [.ic .i64 (e), .ic .i64 (u), .ic .i64 (v)], .i .i64]⟩:Hd Sg)) (λk_'=>(17,0,0)),Ak (Hd.kd (⟨some 900,[0,0,1,1,1,1,1,1,1,0,1,0,1,1,1,1],[.code [1,0,1,1,1,1,1,1,1,0,1,0,1,1,1,1], .blk 0, .code [1,1,1,1,1]],[0,4,5,24],[.boxc o BL.t BL.l, .box 29 [.ic .i64 (k), .ic .i64 (a), .ic .i64 (c)], .box 32 [.ic .i64 (e), .ic .i64 (u), .ic .i64 (v)], .i .i64]⟩:Hd Sg)) (λt_' p_' h_' n_' a_' z_' r0_' r1_' r2_' r3_' r4_' r5_' r6_' r7_' k_'=>(16,0,0)),Ak (Hd.kd (⟨some 0,[0,1,0,1,1,1,1,1,1,1,0,1,0,1,1,1,1],[.code [1,1,0,1,1,1,1,1,1,1,0,1,0,1,1,1,1], .blk 0, .code [1,1,1,1,1]],[0,4,5,9],[.boxc o BL.t BL.l, .box 29 [.ic .i64 (k), .ic .i64 (a), .ic .i64 (c)], .box 32 [.ic .i64 (e), .ic .i64 (u), .ic .i64 (v)], .i .i64]⟩:Hd Sg)) (λt_' p_' h_' n_' a_' z_' r0_' r1_' r2_' r3_' r4_' r5_' r6_' r7_' w_'=>(15,0,0)),Ak (Hd.kd (⟨some 0,[0,1,0,1,1,1,1,1,1,1,0,1,0,1,1,1,1],[.code [1,1,0,1,1,1,1,1,1,1,0,1,0,1,1,1,1], .blk 0, .code [1,1,1,1,1]],[0,4,5,9],[.objk D7 ⟨o,0,none⟩ (s), .box 29 [.ic .i64 (k), .ic .i64 (a), .ic .i64 (c)], .box 32 [.ic .i64 (e), .ic .i64 (u), .ic .i64 (v)], .i .i64]⟩:Hd Sg)) (λw_'=>(14,0,0)),Ak (Hd.kd (⟨some 900,[1,1,0,1,1,1,1,1,1,1,0,1,0,1,1,1,1],[.blk 0, .code [1,1,1,1,1]],[0,4,5],[.objc D7 ⟨o,0,none⟩, .box 29 [.ic .i64 (k), .i .i64, .ic .i64 (c)], .box 32 [.ic .i64 (e), .ic .i64 (u), .ic .i64 (v)]]⟩:Hd Sg)) (λq_' i_'=>(13,0,0)),Ak (Hd.kd (⟨some 900,[1,1,0,1,1,1,1,1,1,1,0,1,0,1,1,1,1],[.blk 0, .code [1,1,1,1,1]],[0,4,5],[.boxc o BL.t BL.l, .box 29 [.ic .i64 (k), .i .i64, .ic .i64 (c)], .box 32 [.ic .i64 (e), .ic .i64 (u), .ic .i64 (v)]]⟩:Hd Sg)) (λt_' p_' h_' n_' a_' z_' r0_' r1_' r2_' r3_' r4_' r5_' r6_' r7_' i_'=>(12,0,0)),Ak (Hd.kd (⟨some 900,[0,1,1,1,1,1,1,1,1,1,0,1,0,1,1,1,1],[.blk 0, .code [1,1,1,1,1]],[0,4,5],[.objk D7 ⟨o,0,none⟩ (s), .box 29 [.ic .i64 (k), .i .i64, .ic .i64 (c)], .box 32 [.ic .i64 (e), .ic .i64 (u), .ic .i64 (v)]]⟩:Hd Sg)) (λi_'=>(11,0,0)),Ak (Hd.kd (⟨some 900,[0,1,1,1,1,1,1,1,1,1,0,1,0,1,1,1,1],[.blk 0, .code [1,1,1,1,1]],[0,4,5],[.boxc o BL.t BL.l, .box 29 [.ic .i64 (k), .i .i64, .ic .i64 (c)], .box 32 [.ic .i64 (e), .ic .i64 (u), .ic .i64 (v)]]⟩:Hd Sg)) (λt_' p_' h_' n_' a_' z_' r0_' r1_' r2_' r3_' r4_' r5_' r6_' r7_' i_'=>(10,0,0))] j (λ_=>(0,0,0)),by kernel_rfl, λ_ _=>by kernel_rfl,by kernel_rfl,⟨_, λ_ _ _=>by kernel_rfl,Afc s k a c e u v hp0⟩,⟨λq_ hI=>⟨q_, λ_=>by kernel_rfl, λt_ p_ h_ n_ al_ zl_ x0_ x1_ x2_ x3_ x4_ x5_ x6_ x7_ hx=>⟨_, λ_ _=>by kernel_rfl,Afd s k a c e u v hp0 q_ t_ p_ h_ n_ al_ zl_ x0_ x1_ x2_ x3_ x4_ x5_ x6_ x7_ hI hx⟩⟩,⟨λt_ p_ h_ n_ a_ z_ r0_ r1_ r2_ r3_ r4_ r5_ r6_ r7_ hI=>⟨_, λ_ _ _=>by kernel_rfl,Afe s k a c e u v hp0 t_ p_ h_ n_ a_ z_ r0_ r1_ r2_ r3_ r4_ r5_ r6_ r7_ hI⟩,⟨λt_ p_ h_ n_ a_ z_ r0_ r1_ r2_ r3_ r4_ r5_ r6_ r7_ i_ hI=>(by
   rcases AiW s k a c e u v hp0 t_ p_ h_ n_ a_ z_ r0_ r1_ r2_ r3_ r4_ r5_ r6_ r7_ i_ hI with rfl|rfl|rfl|rfl|rfl|rfl|rfl|rfl|rfl
   ·exact ⟨_, λ_ _ _=>by kernel_rfl,Abx s k a c e u v hp0 t_ p_ h_ n_ a_ z_ r0_ r1_ r2_ r3_ r4_ r5_ r6_ r7_ hI⟩
   ·exact ⟨_, λ_ _ _=>by kernel_rfl,Aby s k a c e u v hp0 t_ p_ h_ n_ a_ z_ r0_ r1_ r2_ r3_ r4_ r5_ r6_ r7_ hI⟩
   ·exact ⟨_, λ_ _ _=>by kernel_rfl,Abz s k a c e u v hp0 t_ p_ h_ n_ a_ z_ r0_ r1_ r2_ r3_ r4_ r5_ r6_ r7_ hI⟩
   ·exact ⟨_, λ_ _ _=>by kernel_rfl,Ab0 s k a c e u v hp0 t_ p_ h_ n_ a_ z_ r0_ r1_ r2_ r3_ r4_ r5_ r6_ r7_ hI⟩
   ·exact ⟨_, λ_ _ _=>by kernel_rfl,Ab1 s k a c e u v hp0 t_ p_ h_ n_ a_ z_ r0_ r1_ r2_ r3_ r4_ r5_ r6_ r7_ hI⟩
   ·exact ⟨_, λ_ _ _=>by kernel_rfl,Ab2 s k a c e u v hp0 t_ p_ h_ n_ a_ z_ r0_ r1_ r2_ r3_ r4_ r5_ r6_ r7_ hI⟩
   ·exact ⟨_, λ_ _ _=>by kernel_rfl,Ab3 s k a c e u v hp0 t_ p_ h_ n_ a_ z_ r0_ r1_ r2_ r3_ r4_ r5_ r6_ r7_ hI⟩
   ·exact ⟨_, λ_ _ _=>by kernel_rfl,Ab4 s k a c e u v hp0 t_ p_ h_ n_ a_ z_ r0_ r1_ r2_ r3_ r4_ r5_ r6_ r7_ hI⟩
   ·exact ⟨_, λ_ _ _=>by kernel_rfl,Ab5 s k a c e u v hp0 t_ p_ h_ n_ a_ z_ r0_ r1_ r2_ r3_ r4_ r5_ r6_ r7_ hI⟩),⟨λk_ hI=>⟨s, λ_=>by kernel_rfl, λt_ p_ h_ n_ al_ zl_ x0_ x1_ x2_ x3_ x4_ x5_ x6_ x7_ hx=>⟨_, λ_ _=>by kernel_rfl,Aff s k a c e u v hp0 k_ t_ p_ h_ n_ al_ zl_ x0_ x1_ x2_ x3_ x4_ x5_ x6_ x7_ hI hx⟩⟩,⟨λt_ p_ h_ n_ a_ z_ r0_ r1_ r2_ r3_ r4_ r5_ r6_ r7_ k_ hI=>⟨_, λ_ _ _=>by kernel_rfl,Afg s k a c e u v hp0 t_ p_ h_ n_ a_ z_ r0_ r1_ r2_ r3_ r4_ r5_ r6_ r7_ k_ hI⟩,⟨λt_ p_ h_ n_ a_ z_ r0_ r1_ r2_ r3_ r4_ r5_ r6_ r7_ w_ hI=>⟨s,Ry s k a c e u v t_ p_ h_ n_ a_ z_ r0_ r1_ r2_ r3_ r4_ r5_ r6_ r7_ w_ (λw_'=>Aw s k a c e u v w_'∧lx (14,0,0) (15,0,0)),(TL s k a c e u v hp0 t_ p_ h_ n_ a_ z_ r0_ r1_ r2_ r3_ r4_ r5_ r6_ r7_ w_ hI).1, λ_=>by kernel_rfl,(TL s k a c e u v hp0 t_ p_ h_ n_ a_ z_ r0_ r1_ r2_ r3_ r4_ r5_ r6_ r7_ w_ hI).2⟩,⟨λw_ hI=>⟨_, λ_ _ _=>by kernel_rfl,Afh s k a c e u v hp0 w_ hI⟩,⟨λq_ i_ hI=>⟨q_, λ_=>by kernel_rfl, λt_ p_ h_ n_ al_ zl_ x0_ x1_ x2_ x3_ x4_ x5_ x6_ x7_ hx=>⟨_, λ_ _=>by kernel_rfl,Afi s k a c e u v hp0 q_ i_ t_ p_ h_ n_ al_ zl_ x0_ x1_ x2_ x3_ x4_ x5_ x6_ x7_ hI hx⟩⟩,⟨λt_ p_ h_ n_ a_ z_ r0_ r1_ r2_ r3_ r4_ r5_ r6_ r7_ i_ hI=>(by
   rcases AiX s k a c e u v hp0 t_ p_ h_ n_ a_ z_ r0_ r1_ r2_ r3_ r4_ r5_ r6_ r7_ i_ hI with rfl|rfl|rfl|rfl|rfl|rfl|rfl|rfl
   ·exact ⟨_, λ_ _ _=>by kernel_rfl,Ab6 s k a c e u v hp0 t_ p_ h_ n_ a_ z_ r0_ r1_ r2_ r3_ r4_ r5_ r6_ r7_ hI⟩
   ·exact ⟨_, λ_ _ _=>by kernel_rfl,Ab7 s k a c e u v hp0 t_ p_ h_ n_ a_ z_ r0_ r1_ r2_ r3_ r4_ r5_ r6_ r7_ hI⟩
   ·exact ⟨_, λ_ _ _=>by kernel_rfl,Ab8 s k a c e u v hp0 t_ p_ h_ n_ a_ z_ r0_ r1_ r2_ r3_ r4_ r5_ r6_ r7_ hI⟩
   ·exact ⟨_, λ_ _ _=>by kernel_rfl,Ab9 s k a c e u v hp0 t_ p_ h_ n_ a_ z_ r0_ r1_ r2_ r3_ r4_ r5_ r6_ r7_ hI⟩
   ·exact ⟨_, λ_ _ _=>by kernel_rfl,AbA s k a c e u v hp0 t_ p_ h_ n_ a_ z_ r0_ r1_ r2_ r3_ r4_ r5_ r6_ r7_ hI⟩
   ·exact ⟨_, λ_ _ _=>by kernel_rfl,AbB s k a c e u v hp0 t_ p_ h_ n_ a_ z_ r0_ r1_ r2_ r3_ r4_ r5_ r6_ r7_ hI⟩
   ·exact ⟨_, λ_ _ _=>by kernel_rfl,AbC s k a c e u v hp0 t_ p_ h_ n_ a_ z_ r0_ r1_ r2_ r3_ r4_ r5_ r6_ r7_ hI⟩
   ·exact ⟨_, λ_ _ _=>by kernel_rfl,AbD s k a c e u v hp0 t_ p_ h_ n_ a_ z_ r0_ r1_ r2_ r3_ r4_ r5_ r6_ r7_ hI⟩),⟨λi_ hI=>⟨s, λ_=>by kernel_rfl, λt_ p_ h_ n_ al_ zl_ x0_ x1_ x2_ x3_ x4_ x5_ x6_ x7_ hx=>⟨_, λ_ _=>by kernel_rfl,Afj s k a c e u v hp0 i_ t_ p_ h_ n_ al_ zl_ x0_ x1_ x2_ x3_ x4_ x5_ x6_ x7_ hI hx⟩⟩,⟨λt_ p_ h_ n_ a_ z_ r0_ r1_ r2_ r3_ r4_ r5_ r6_ r7_ i_ hI=>(by
   rcases AhD s k a c e u v hp0 t_ p_ h_ n_ a_ z_ r0_ r1_ r2_ r3_ r4_ r5_ r6_ r7_ i_ hI with rfl|rfl|rfl|rfl|rfl|rfl|rfl|rfl
   ·exact ⟨_, λ_ _ _=>by kernel_rfl,YY s k a c e u v hp0 t_ p_ h_ n_ a_ z_ r0_ r1_ r2_ r3_ r4_ r5_ r6_ r7_ hI⟩
   ·exact ⟨_, λ_ _ _=>by kernel_rfl,YZ s k a c e u v hp0 t_ p_ h_ n_ a_ z_ r0_ r1_ r2_ r3_ r4_ r5_ r6_ r7_ hI⟩
   ·exact ⟨_, λ_ _ _=>by kernel_rfl,Za s k a c e u v hp0 t_ p_ h_ n_ a_ z_ r0_ r1_ r2_ r3_ r4_ r5_ r6_ r7_ hI⟩
   ·exact ⟨_, λ_ _ _=>by kernel_rfl,Zb s k a c e u v hp0 t_ p_ h_ n_ a_ z_ r0_ r1_ r2_ r3_ r4_ r5_ r6_ r7_ hI⟩
   ·exact ⟨_, λ_ _ _=>by kernel_rfl,Zd s k a c e u v hp0 t_ p_ h_ n_ a_ z_ r0_ r1_ r2_ r3_ r4_ r5_ r6_ r7_ hI⟩
   ·exact ⟨_, λ_ _ _=>by kernel_rfl,Ze s k a c e u v hp0 t_ p_ h_ n_ a_ z_ r0_ r1_ r2_ r3_ r4_ r5_ r6_ r7_ hI⟩
   ·exact ⟨_, λ_ _ _=>by kernel_rfl,Zf s k a c e u v hp0 t_ p_ h_ n_ a_ z_ r0_ r1_ r2_ r3_ r4_ r5_ r6_ r7_ hI⟩
   ·exact ⟨_, λ_ _ _=>by kernel_rfl,Zg s k a c e u v hp0 t_ p_ h_ n_ a_ z_ r0_ r1_ r2_ r3_ r4_ r5_ r6_ r7_ hI⟩),trivial⟩⟩⟩⟩⟩⟩⟩⟩⟩⟩⟩⟩
def Aer:Tb:=(19,Aep)::Abp
theorem AhE:DU Aer:=Ej AbE TB
end
section
open Go.Sl
def CZ (l:List (Int×Int)):List (Int×Int):=l.foldl insL []
theorem Amb (l:List (Int×Int)) (x:Int×Int):CZ (l++[x])=insL (CZ l) x:=by unfold CZ;rw [List.foldl_append];rfl
theorem Ant (l:List (Int×Int)):(CZ l).length=l.length:=by
 have key:∀(l a:List (Int×Int)),(l.foldl insL a).length=a.length+l.length:=by
  intro l
  induction l with
  |nil=>intro a;rfl
  |cons x l ih=>intro a;rw [List.foldl_cons,ih,YO,jI];omega
 unfold CZ;rw [key];simp
theorem AoI (l:List (Int×Int)):EI (l.map (·.1)) (l.map (·.2))=l:=by
 unfold EI
 induction l with
 |nil=>rfl
 |cons x l ih=>simp only [iD,mI,ih]
def Amc:Tb:=Aer
theorem Amd:DU Amc:=AhE
end
section
open Go Go.Sl
abbrev LL:=List (LI)
abbrev BB:=Int×Int
abbrev Yf:=LL→BB→LL
abbrev It:=Option (Nat×List BB×List BB)
def Jf (A:LL→Dl) (b:Nat) (l:List BB) (it:It) (q2:Addr) (bb:Nat) (st:LL):List (Chunk Sg):=[.bm b l it, .obj q2 (.any A st), .cells bb 58 [(.map (some b), .pt 0 .map)]]
def kyN (A:LL→Dl) (b:Nat) (l:List BB) (q2:Addr) (bb lr:Nat) (I:LL→List BB→Prop) (v0 v1:Value) (x:BB) (K:List (Chunk Sg)) (st:LL):Prop:=
 v0= .func (.yield lr) #[] #[]∧v1=EF x∧∃i cu re,K=Jf A b l (some (i,cu,re)) q2 bb st∧I st (x::re)
def Ou (A:LL→Dl) (b:Nat) (l:List BB) (q2:Addr) (bb lr:Nat) (I:LL→List BB→Prop) (yf:Yf):List (Value×Pr)→List (Chunk Sg)→Option (Tree Sg)
 |[(v0,_),(.agg ⟨[.int k1 x, .int k2 y]⟩,_)], .bm b' l' it':: .obj q3 (.any A' st)::c3::X=>some (.need (kyN A b l q2 bb lr I v0 (.agg ⟨[.int k1 x, .int k2 y]⟩) (x,y) [.bm b' l' it', .obj q3 (.any A' st),c3] st) (.bind (yf st (x,y)) λr=> .ret (.bool true) .no (.bm b' l' it':: .obj q3 (.any A' r)::c3::X.map λ_=> .dead)))
 |_,_=>none
def kyL (lr bb i:Nat):List Aj:=[⟨5,none, .pointer (some ⟨i,0,none⟩), .pt 0 .iter⟩,⟨0,none, .func (.yield lr) #[] #[], .no⟩,⟨1,none, .pointer (some ⟨bb,0,none⟩), .pt 2 (.cell 0)⟩]
theorem Anu (R':Value→Pr→List (Chunk Sg)→Prop) (S0:List Ab→Option Aj→Option Aj→Option Aj→List (Chunk Sg)→Prop) (A:LL→Dl) (b:Nat) (l:List BB) (q2:Addr) (bb lr:Nat) (I:LL→List BB→Prop) (yf:Yf) (st:LL):
 (Ep Try.prog II (Ou A b l q2 bb lr I yf) [2999998,2999996] 60 (AY Try.f69) Try.f69.results.toList Try.f69.ntmps [.code []] (Eg 0 [(.func (.yield lr) #[] #[], .no),(.pointer (some ⟨bb,0,none⟩), .pt 2 (.cell 0))]) (Jf A b l none q2 bb st)).holds R' (λtd L K=>S0 td (Sl.look L 5) (Sl.look L 0) (Sl.look L 1) K)=
 (∀b0_0:Nat,(S0 ([Ab.code [0,1],Ab.blk 0]) (some ⟨5,none,kH (some ⟨b0_0,0,none⟩),lE 0 PK.iter⟩) (some ⟨0,none,lU (Fn.yield lr) ⟨[]⟩ ⟨[]⟩,kG⟩) (some ⟨1,none,kH (some ⟨bb,0,none⟩),lE 2 (nU 0)⟩) ([kV b l (some (b0_0,[],l)),kP q2 (Sg.any A st),jG bb 58 [(lB (some b),lE 0 mO)]]))):=by
 kernel_rfl
theorem Aj8 (R':Value→Pr→List (Chunk Sg)→Prop) (S0:List Ab→Option Aj→Option Aj→Option Aj→List (Chunk Sg)→Prop) (A:LL→Dl) (b:Nat) (l:List BB) (q2:Addr) (bb lr i:Nat) (I:LL→List BB→Prop) (yf:Yf) (cu re:List BB) (st:LL):
 (Ep Try.prog II (Ou A b l q2 bb lr I yf) [2999998,2999996] 60 (AY Try.f69) Try.f69.results.toList Try.f69.ntmps [.code [0,0,1], .again [0,1], .blk 0] (kyL lr bb i) (Jf A b l (some (i,cu,re)) q2 bb st)).holds R' (λtd L K=>S0 td (Sl.look L 5) (Sl.look L 0) (Sl.look L 1) K)=
 (BH (Pg re) (BH (false) (Ba (QF cu=true) (∀b3_0:Nat,(Ba (kyN A b l q2 bb lr I (lU (Fn.yield lr) ⟨[]⟩ ⟨[]⟩) (Value.agg ⟨[iX iB (kJ (hdB cu)),iX iB (mF (hdB cu))]⟩) (kJ (hdB cu),mF (hdB cu)) [kV b l (some (i,cu,re)),kP q2 (Sg.any A st),jG bb 58 [(lB (some b),lE 0 mO)]] st) (∀r5:List (LI),r5=(yf st (kJ (hdB cu),mF (hdB cu)))→(BH (false) (R' (oO ⟨[]⟩) (kG) ([kV b l (some (i,cu,re)),kP q2 (Sg.any A r5),jG bb 58 [(lB (some b),lE 0 mO)],oN])) (S0 ([Ab.again [0,1],Ab.blk 0]) (some ⟨5,none,kH (some ⟨i,0,none⟩),lE 0 PK.iter⟩) (some ⟨0,none,lU (Fn.yield lr) ⟨[]⟩ ⟨[]⟩,kG⟩) (some ⟨1,none,kH (some ⟨bb,0,none⟩),lE 2 (nU 0)⟩) ([kV b l (some (i,cu,re)),kP q2 (Sg.any A r5),jG bb 58 [(lB (some b),lE 0 mO)],oN]))))))) (R' (oO ⟨[]⟩) (kG) ([kV b l (some (i,cu,re)),kP q2 (Sg.any A st),jG bb 58 [(lB (some b),lE 0 mO)]]))) (∀b1_0:Nat,(BH (true) (Ba (QF [Dx re b1_0]=true) (∀b4_0:Nat,(Ba (kyN A b l q2 bb lr I (lU (Fn.yield lr) ⟨[]⟩ ⟨[]⟩) (Value.agg ⟨[iX iB (kJ (hdB [Dx re b1_0])),iX iB (mF (hdB [Dx re b1_0]))]⟩) (kJ (hdB [Dx re b1_0]),mF (hdB [Dx re b1_0])) [kV b l (some (i,[Dx re b1_0],G5 re b1_0)),kP q2 (Sg.any A st),jG bb 58 [(lB (some b),lE 0 mO)]] st) (∀r6:List (LI),r6=(yf st (kJ (hdB [Dx re b1_0]),mF (hdB [Dx re b1_0])))→(BH (false) (R' (oO ⟨[]⟩) (kG) ([kV b l (some (i,[Dx re b1_0],G5 re b1_0)),kP q2 (Sg.any A r6),jG bb 58 [(lB (some b),lE 0 mO)],oN])) (S0 ([Ab.again [0,1],Ab.blk 0]) (some ⟨5,none,kH (some ⟨i,0,none⟩),lE 0 PK.iter⟩) (some ⟨0,none,lU (Fn.yield lr) ⟨[]⟩ ⟨[]⟩,kG⟩) (some ⟨1,none,kH (some ⟨bb,0,none⟩),lE 2 (nU 0)⟩) ([kV b l (some (i,[Dx re b1_0],G5 re b1_0)),kP q2 (Sg.any A r6),jG bb 58 [(lB (some b),lE 0 mO)],oN]))))))) (R' (oO ⟨[]⟩) (kG) ([kV b l (some (i,[Dx re b1_0],G5 re b1_0)),kP q2 (Sg.any A st),jG bb 58 [(lB (some b),lE 0 mO)]]))))):=by
 kernel_rfl
theorem AbF {α:Type}:∀{l:List α} {i:Nat} (h:i<l.length),l.Perm (l[i]::l.eraseIdx i)
 |x::l,0,_=>oH _
 |x::l,i+1,h=>by
  have:=AbF (l:=l) (i:=i) (by simpa using h)
  show (x::l).Perm ((l[i]'(by simpa using h))::x::l.eraseIdx i)
  exact (List.Perm.cons x this).trans (List.Perm.swap _ _ _)
theorem Ame {r:List BB} (h:Pg r=false) (n:Nat):r.Perm (Dx r n::G5 r n):=by
 have hl:0<r.length:=by cases r with|nil=>cases h|cons _ _=>simp
 have hlt:n%r.length<r.length:=lY _ hl
 have e:Dx r n=r[n%r.length]:=by unfold Dx;rw [iC,iK hlt];rfl
 rw [e];exact AbF hlt
def AkE (E:Ev) (G:Hp) (A:LL→Dl) (b:Nat) (l:List BB) (q2:Addr) (bb lr:Nat) (I:LL→List BB→Prop) (yf:Yf):Prop:=
 ∀st x re it,I st (x::re)→∀w,Af Dg E G w (Jf A b l it q2 bb st)→PR Try.prog lr #[EF x] w λen w'=>en= .returned (.bool true)∧Af Dg E G w' (Jf A b l it q2 bb (yf st x))
theorem AhF {A:LL→Dl} {b:Nat} {l:List BB} {it:It} {q2:Addr} {bb:Nat} (st:LL):DC (Jf A b l it q2 bb st):=
 PX (by simp [Jf,cellsAll,AV,BP,DK])
theorem Amf {K X:List (Chunk Sg)} (h:DC K):DC (K++X.map λ_=>oN):=h.append λb t cs hm=>by
 obtain ⟨_,_,e⟩:=kK.1 hm
 cases e
theorem V8 {E:Ev} {G:Hp} {A:LL→Dl} {b:Nat} {l:List BB} {q2:Addr} {bb lr:Nat} {I:LL→List BB→Prop} {yf:Yf} (h:AkE E G A b l q2 bb lr I yf):Alp Dg Try.prog (Ou A b l q2 bb lr I yf) E G:=by
 intro args prs K t ht w hps hk hS Q hQ l' av hav
 have hz:=(Acd hps).2
 generalize hzz:lH args prs=z at ht hz
 unfold Ou at ht
 split at ht
 ·rename_i v0 p0 k1 x k2 y p2 b' l1 it' q3 A' st c3 X
  injection ht with ht;subst ht
  obtain ⟨⟨h0,h1,i,cu,re,h3,h4⟩,hb⟩:=hQ
  have hq:=hb ⟨h0,h1,i,cu,re,h3,h4⟩ _ rfl
  simp only [iD,kB] at hz
  subst hz
  unfold EF at h1
  simp only [Value.agg.injEq] at h1
  have h1:=congrArg Array.toList h1
  simp only [jV,Value.int.injEq,and_true] at h1
  obtain ⟨rfl,rfl⟩:=h1
  subst h0
  rw [Jf,jV,jV,jV] at h3
  obtain ⟨e1,e2,e3,_⟩:=h3
  injection e1 with e1 e5 e6;subst e1;subst e5;subst e6
  injection e2 with e2 e4;subst e2
  injection e4 with e4 _;subst e4
  subst e3
  have ha:l'=lr∧av= #[EF (x,y)]:=by
   have:=congrArg Array.toList hav
   simp only [nY,jY,nH,jV] at this
   obtain ⟨e5,e6⟩:=this
   injection e5 with e5 _ _
   injection e5 with e5
   exact ⟨e5.symm,by apply Array.toList_inj.1;exact e6.symm⟩
  obtain ⟨rfl,rfl⟩:=ha
  have hS0:Af Dg E G w (Jf A' b' l1 (some (i,cu,re)) q3 bb st):=Af.order Dg hS [0,1,2] rfl rfl
  obtain ⟨fn,tmps,assign,body,g1,g2⟩:=h st (x,y) re _ h4 w hS0
  refine ⟨fn,tmps,assign,body,g1, λcs hcs=>?_⟩
  obtain ⟨e,w',S,⟨g3,g4⟩,g5⟩:=g2 cs hcs
  refine ⟨e,w',S,⟨_,_,_,g3,hq,?_,Amf (X:=X) (AhF (yf st (x,y))),AA,?_⟩,g5⟩
  ·intro k c hk
   match k,hk with
   |0,hk=>exact ⟨_,rfl, λv pk hv=>by injection hk with hk;subst hk;exact hv⟩
   |1,hk=>exact ⟨_,rfl, λv pk hv=>by injection hk with hk;subst hk;cases pk<;>first|exact hv|exact hv.elim⟩
   |2,hk=>exact ⟨_,rfl, λv pk hv=>by injection hk with hk;subst hk;exact hv⟩
   |k+3,hk=>
    refine ⟨.dead,?_, λv pk hv=>trivial⟩
    have hlt:=BN hk
    simp only [jI] at hlt
    simp only [kL,iL]
    rw [iK (by omega)];rfl
  ·show Af Dg E G w' (Jf A' b' l1 (some (i,cu,re)) q3 bb (yf st (x,y))++X.map λ_=> .dead)
   exact Af.Aql Dg g4 X
 ·cases ht
section
variable {yf:Yf} {A:LL→Dl} {b:Nat} {l:List BB} {q2:Addr} {bb lr:Nat} {E:Ev} {G:Hp} {I:LL→List BB→Prop}
abbrev Zh:FuncId:=69
noncomputable abbrev kyB:Code:=AY Try.f69
noncomputable abbrev kyM:Nat:=Try.f69.ntmps
theorem ApE {L:List Aj} {K:List (Chunk Sg)} {i:Nat} (e5:Sl.look L 5=some ⟨5,none, .pointer (some ⟨i,0,none⟩), .pt 0 .iter⟩) (e0:Sl.look L 0=some ⟨0,none, .func (.yield lr) #[] #[], .no⟩) (e1:Sl.look L 1=some ⟨1,none, .pointer (some ⟨bb,0,none⟩), .pt 2 (.cell 0)⟩) (h5:BP K (.pointer (some ⟨i,0,none⟩)) (.pt 0 .iter)) (h1:BP K (.pointer (some ⟨bb,0,none⟩)) (.pt 2 (.cell 0))):∀e∈kyL lr bb i,Agv L K e:= λe he=>by
 simp only [kyL,iF,jF,or_false] at he
 rcases he with rfl|rfl|rfl
 ·exact ⟨rfl,⟨_,(Dw e5).1⟩,h5⟩
 ·exact ⟨rfl,⟨_,(Dw e0).1⟩,AA⟩
 ·exact ⟨rfl,⟨_,(Dw e1).1⟩,h1⟩
def kyS (A:LL→Dl) (b:Nat) (l:List BB) (q2:Addr) (bb lr:Nat) (E:Ev) (G:Hp) (R:Ending→World→Prop) (td:List Ab) (e5 e0 e1:Option Aj) (K:List (Chunk Sg)):Prop:=
 ∃i cu re st c,td=[.again [0,1], .blk 0]∧e5=some ⟨5,none, .pointer (some ⟨i,0,none⟩), .pt 0 .iter⟩∧e0=some ⟨0,none, .func (.yield lr) #[] #[], .no⟩∧e1=some ⟨1,none, .pointer (some ⟨bb,0,none⟩), .pt 2 (.cell 0)⟩∧K=Jf A b l (some (i,cu,re)) q2 bb st++[c]∧
  Sl.SW Dg Try.prog Zh R kyB kyM E G [.code [0,0,1], .again [0,1], .blk 0] (kyL lr bb i) (Jf A b l (some (i,cu,re)) q2 bb st)
theorem ApF {R:Ending→World→Prop} {td:List Ab} {L:List Aj} {K:List (Chunk Sg)} (h:kyS A b l q2 bb lr E G R td (Sl.look L 5) (Sl.look L 0) (Sl.look L 1) K):Sl.SW Dg Try.prog Zh R kyB kyM E G td L K:=by
 obtain ⟨i,cu,re,st,c,rfl,e5,e0,e1,rfl,hsw⟩:=h
 refine Sl.SW.re Dg (α:=Unit) (L':=kyL lr bb i) (Kf:= λ_=>Jf A b l (some (i,cu,re)) q2 bb st) (λw hS=>⟨(),Af.order Dg hS [0,1,2] rfl rfl⟩) (λ_=>AhF st) (λ_=>ApE e5 e0 e1 (Bl.2 ⟨_,rfl,rfl⟩) (Bl.2 ⟨_,rfl,rfl⟩)) λ_=>Sl.SW.again Dg hsw
theorem Aqo (hY:AkE E G A b l q2 bb lr I yf) (hI:∀st x re,I st (x::re)→I (yf st x) re) (hP:∀st re re',re.Perm re'→I st re→I st re') {R:Ending→World→Prop} (hR:∀st v w',I st []→Af Dg E G w' (Jf A b l none q2 bb st)→R (.returned v) w') (i:Nat):∀(k:Nat) (re cu:List BB) (st:LL),re.length=k→I st re→
 Sl.SW Dg Try.prog Zh R kyB kyM E G [.code [0,0,1], .again [0,1], .blk 0] (kyL lr bb i) (Jf A b l (some (i,cu,re)) q2 bb st):=by
 intro k
 induction k with
 |zero=>
  intro re cu st hk h0
  have:re=[]:=nD hk
  subst this
  refine Nl Dg EY (Y:=Ou A b l q2 bb lr I yf) (I:=[2999998,2999996]) mix 60 (f:=Zh) (V8 hY) (.inl ⟨rfl,Try.f69,Try.func69,rfl⟩) (Q:= λ_=>True) (λ_ _ _ _=>trivial)
   (R':= λv p K=>K=Jf A b l (some (i,cu,[])) q2 bb st) (λv p K w h _ _ _ hS=>hR st v w h0 (by rw [h] at hS;exact Af.Aqm Dg hS)) _ _ _ trivial ?_
  refine Agx (Aj8 (λv p K=>K=Jf A b l (some (i,cu,[])) q2 bb st) (λ_ _ _ _ _=>False) A b l q2 bb lr i I yf cu [] st) (λtd L K (h:False)=>h.elim) ⟨λ_=>⟨λh=>(by cases h), λ_=>rfl⟩, λh=>(by cases h)⟩
 |succ k ih=>
  intro re cu st hk h0
  have hne:Pg re=false:=by cases re with|nil=>cases hk|cons _ _=>rfl
  refine Nl Dg EY (Y:=Ou A b l q2 bb lr I yf) (I:=[2999998,2999996]) mix 60 (f:=Zh) (V8 hY) (.inl ⟨rfl,Try.f69,Try.func69,rfl⟩) (Q:= λ_=>True) (λ_ _ _ _=>trivial)
   (R':= λ_ _ _=>False) (λv p K w h _ _ _ hS=>h.elim) _ _ _ trivial ?_
  refine Agx (Aj8 (λv p K=>False) (kyS A b l q2 bb lr E G R) A b l q2 bb lr i I yf cu re st) (λtd L K h=>ApF h) ⟨λh=>(by rw [hne] at h;cases h), λ_ n=>⟨λ_=>⟨rfl, λ_ b4=>?_⟩, λh=>(by cases h)⟩⟩
  have hp:re.Perm (Dx re n::G5 re n):=Ame hne n
  have h1:I st (Dx re n::G5 re n):=hP st re _ hp h0
  refine ⟨⟨rfl,rfl,i,[Dx re n],G5 re n,rfl,h1⟩, λ_ r hr=>?_⟩
  subst hr
  refine ⟨λh=>(by cases h), λ_=>⟨i,[Dx re n],G5 re n,yf st (Dx re n), .dead,rfl,rfl,rfl,rfl,rfl,?_⟩⟩
  refine ih _ _ _ ?_ (hI _ _ _ h1)
  have:=hp.length_eq
  simp only [jI] at this
  omega
set_option maxRecDepth 100000 in
theorem Anv (hY:AkE E G A b l q2 bb lr I yf) (hI:∀st x re,I st (x::re)→I (yf st x) re) (hP:∀st re re',re.Perm re'→I st re→I st re') {R:Ending→World→Prop} {w:World} {st:LL} (hS:Af Dg E G w (Jf A b l none q2 bb st)) (h0:I st l)
 (hR:∀st v w',I st []→Af Dg E G w' (Jf A b l none q2 bb st)→R (.returned v) w'):
 Calls Try.prog Zh #[.func (.yield lr) #[] #[], .pointer (some ⟨bb,0,none⟩)] w R:=by
 refine IX Try.func69 (c:=kyB) (by kernel_rfl) ?_
 have hgo:=Nl Dg EY (Y:=Ou A b l q2 bb lr I yf) (I:=[2999998,2999996]) mix 60 (f:=Zh) (rs:=Try.f69.results.toList) (B:=kyB) (R:=R) (n:=kyM) (E:=E) (G:=G) (V8 hY) (.inl ⟨rfl,Try.f69,Try.func69,rfl⟩) (Q:= λ_=>True) (λ_ _ _ _=>trivial)
  (R':= λ_ _ _=>False) (λ_ _ _ _ h=>h.elim) [.code []] (Eg 0 [(.func (.yield lr) #[] #[], .no),(.pointer (some ⟨bb,0,none⟩), .pt 2 (.cell 0))]) (Jf A b l none q2 bb st) trivial ?_
 ·exact hgo _ w (Fr.start (n:=kyM) [(.func (.yield lr) #[] #[], .no),(.pointer (some ⟨bb,0,none⟩), .pt 2 (.cell 0))] (iP (by kernel_rfl)) (λx hx=>by
   simp only [iF,jF,or_false] at hx
   rcases hx with rfl|rfl
   ·exact AA
   ·exact Bl.2 ⟨_,rfl,rfl⟩) (AhF st)) hS
 ·refine Agx (Anu (λ_ _ _=>False) (λtd e5 e0 e1 K=>∃i,td=[.code [0,1], .blk 0]∧e5=some ⟨5,none, .pointer (some ⟨i,0,none⟩), .pt 0 .iter⟩∧e0=some ⟨0,none, .func (.yield lr) #[] #[], .no⟩∧e1=some ⟨1,none, .pointer (some ⟨bb,0,none⟩), .pt 2 (.cell 0)⟩∧K=Jf A b l (some (i,[],l)) q2 bb st) A b l q2 bb lr I yf st) (λtd L K h=>?_) (λi=>⟨i,rfl,rfl,rfl,rfl,rfl⟩)
  obtain ⟨i,rfl,e5,e0,e1,rfl⟩:=h
  refine Sl.SW.sub Dg (L':=kyL lr bb i) (Sl.SW.enter Dg (by kernel_rfl) (Aqo hY hI hP hR i l.length l [] st rfl h0)) λe he=>?_
  simp only [kyL,iF,jF,or_false] at he
  rcases he with rfl|rfl|rfl
  ·exact (Dw e5).1
  ·exact (Dw e0).1
  ·exact (Dw e1).1
end
end
section
open Go Go.Sl
def k0 (b:Nat) (l:List BB) (bb:Nat) (q0:Addr) (s0:Sg):List (Chunk Sg):=[.bm b l none, .cells bb 58 [(.map (some b), .pt 0 .map)], .obj q0 s0]
abbrev Kr (bb:Nat):Value:= .func (.func 69) #[] #[.pointer (some ⟨bb,0,none⟩)]
theorem Anw (R':Value→Pr→List (Chunk Sg)→Prop) (S0:List Ab→Option Aj→Option Aj→List (Chunk Sg)→Prop) (b:Nat) (l:List BB) (bb:Nat) (q0:Addr) (s0:Sg):
 (run Try.prog II [2999998] 60 (AY Try.f82) Try.f82.results.toList Try.f82.ntmps [.code []] (Eg 0 [(.slice none 0 0, .no),(Kr bb, .many [.pt 1 (.cell 0)])]) (k0 b l bb q0 s0)).holds R' (λtd L K=>S0 td (Sl.look L 2) (Sl.look L 6) K)=
 (∀b0_0:Nat,(S0 ([Ab.code [0,1,0,1],Ab.blk 0,Ab.code [1,1]]) (some ⟨2,none,kH (some ⟨b0_0,0,none⟩),lE 3 (nU 0)⟩) (some ⟨6,none,lU (Fn.func 69) ⟨[]⟩ ⟨[kH (some ⟨bb,0,none⟩)]⟩,Pr.many [lE 1 (nU 0)]⟩) ([kV b l none,jG bb 58 [(lB (some b),lE 0 mO)],kP q0 s0,jG b0_0 24 [(lA none 0 0,kG)]]))):=by
 kernel_rfl
def QB (b:Nat) (x:Obj):Chunk Sg:= .obj ⟨0,0,none⟩ (.any (λ_=>pt b x) [])
abbrev gL (st:LL) (i:Nat):LI:=st.getD i []
def kq (b:Nat) (l:List BB) (it:It) (bb Dm lr:Nat) (o1 o2:Obj) (q0:Addr) (s0:Sg) (sb:Nat) (st:LL) (a:Option Nat×Nat):List (Chunk Sg):=
 [.bm b l it, .cells bb 58 [(.map (some b), .pt 0 .map)],QB Dm o1,QB lr o2, .obj q0 s0, .cells sb 24 [(Bi a.1 (gL st 0).length a.2, .pt 6 .slice)], .row a.1 55 (gL st 0).length a.2 [.ints .i64 (gL st 0), .ints .i64 (gL st 1)]]
abbrev QC:List Nat:=[0,1,0,1]
def TM (sb:Nat):List Aj:=[⟨2,none, .pointer (some ⟨sb,0,none⟩), .pt 5 (.cell 0)⟩]
theorem Aqp (R':Value→Pr→List (Chunk Sg)→Prop) (S0:List Ab→Option Aj→Option Aj→List (Chunk Sg)→Prop) (b:Nat) (l:List BB) (it:It) (bb Dm lr:Nat) (o1 o2:Obj) (q0:Addr) (s0:Sg) (sb:Nat) (st:LL) (a:Option Nat×Nat) (x:BB):
 (run Try.prog II [2999998,2999997] 60 (AY Try.f82) [.cell 0 1000000] Try.f82.ntmps [.code (0::QC), .raw .beginRound, .code (1::QC)] (⟨7,none,EF x, .no⟩::TM sb) (kq b l it bb Dm lr o1 o2 q0 s0 sb st a)).holds R' (λtd L K=>S0 td (Sl.look L 2) (Sl.look L 5) K)=
 (∀b0_0:Nat,(S0 ([Ab.raw Item.beginRound,Ab.code [1,0,1,0,1]]) (some ⟨2,none,kH (some ⟨sb,0,none⟩),lE 5 (nU 0)⟩) (some ⟨5,none,kH (some ⟨b0_0,0,none⟩),lE 7 (nU 0)⟩) ([kV b l it,jG bb 58 [(lB (some b),lE 0 mO)],kP ⟨0,0,none⟩ (Sg.any (λx=>pt Dm o1) []),kP ⟨0,0,none⟩ (Sg.any (λx=>pt lr o2) []),kP q0 s0,jG sb 24 [(lA (mG (λb=>⟨b,0,none⟩) a.1) (iN (gL st 0)) a.2,lE 6 oI)],kY a.1 55 (iN (gL st 0)) a.2 [Au.ints iB (gL st 0),Au.ints iB (gL st 1)],jG b0_0 55 [(iX iB x.1,kG),(iX iB x.2,kG)]]))):=by
 kernel_rfl
theorem Aqq (R':Value→Pr→List (Chunk Sg)→Prop) (S0:List Ab→Option Aj→List (Chunk Sg)→Prop) (b:Nat) (l:List BB) (it:It) (bb Dm lr b5:Nat) (o1 o2:Obj) (q0:Addr) (s0:Sg) (sb:Nat) (st:LL) (a:Option Nat×Nat) (x:BB):
 (run Try.prog II [2999998,2999997] 60 (AY Try.f82) [.cell 0 1000000] Try.f82.ntmps [.code (1::QC)] (⟨5,none, .pointer (some ⟨b5,0,none⟩), .pt 7 (.cell 0)⟩::TM sb) (kq b l it bb Dm lr o1 o2 q0 s0 sb st a++[.cells b5 55 [(.int .i64 x.1, .no),(.int .i64 x.2, .no)]])).holds R' (λtd L K=>S0 td (Sl.look L 2) K)=
 (∀b0_0:Nat,(Ba ((iN (gL st 0)+1)*16≤140737488355328) (∀(b2_0:Option Nat) (b2_1:Nat),(S0 ([]) (some ⟨2,none,kH (some ⟨sb,0,none⟩),lE 5 (nU 0)⟩) ([kV b l it,jG bb 58 [(lB (some b),lE 0 mO)],kP ⟨0,0,none⟩ (Sg.any (λx=>pt Dm o1) []),kP ⟨0,0,none⟩ (Sg.any (λx=>pt lr o2) []),kP q0 s0,jG sb 24 [(lA (mG (λb=>⟨b,0,none⟩) b2_0) (iN (gL st 0)+1) b2_1,lE 9 oI)],oN,jG b5 55 [(iX iB x.1,kG),(iX iB x.2,kG)],kY (some b0_0) 55 1 1 [Au.ints iB [x.1],Au.ints iB [x.2]],kY b2_0 55 (iN (gL st 0)+1) b2_1 [Au.ints iB (gL st 0++[x.1]),Au.ints iB (gL st 1++[x.2])]]))))):=by
 kernel_rfl
theorem ApG (R':Value→Pr→List (Chunk Sg)→Prop) (S0:List Ab→Option Aj→List (Chunk Sg)→Prop) (b:Nat) (l:List BB) (it:It) (bb Dm lr:Nat) (o1 o2:Obj) (q0:Addr) (s0:Sg) (sb:Nat) (st:LL) (a:Option Nat×Nat):
 (run Try.prog II [2999998,2999997] 60 (AY Try.f82) [.cell 0 1000000] Try.f82.ntmps [.blk 0, .code [1,1]] (TM sb) (kq b l it bb Dm lr o1 o2 q0 s0 sb st a)).holds R' (λtd L K=>S0 td (Sl.look L 4) K)=
 (S0 ([Ab.code [1,1,1]]) (some ⟨4,none,lA (mG (λb=>⟨b,0,none⟩) a.1) (iN (gL st 0)) a.2,lE 6 oI⟩) ([kV b l it,jG bb 58 [(lB (some b),lE 0 mO)],kP ⟨0,0,none⟩ (Sg.any (λx=>pt Dm o1) []),kP ⟨0,0,none⟩ (Sg.any (λx=>pt lr o2) []),kP q0 s0,jG sb 24 [(lA (mG (λb=>⟨b,0,none⟩) a.1) (iN (gL st 0)) a.2,lE 6 oI)],kY a.1 55 (iN (gL st 0)) a.2 [Au.ints iB (gL st 0),Au.ints iB (gL st 1)]])):=by
 kernel_rfl
theorem ApH:KY Try.prog 1000000=none:=by kernel_rfl
theorem pcE {T:Tb} (hT:DU T) {I:List Nat} (hI:rounds I=true) {f:Fq} {R:Ending→World→Prop} {B:Code} {n:Nat} {E:Ev} {G:Hp} {td:List Ab} {L:List Aj} {K:List (Chunk Sg)} {fuel:Nat} {S':List Ab→List Aj→List (Chunk Sg)→Prop} {X:Prop}
 (he:(run Try.prog T I fuel B [.cell 0 1000000] n td L K).holds (λ_ _ _=>False) S'=X) (hS:∀td L K,S' td L K→Sl.SW Dg Try.prog f R B n E G td L K) (hX:X):Sl.SW Dg Try.prog f R B n E G td L K:=
 O7 Dg hT mix fuel (.inr ⟨hI,Ae9 ApH⟩) (Q:= λ_=>True) (λ_ _ _ _=>trivial) (R':= λ_ _ _=>False) (λ_ _ _ _ h=>h.elim) _ _ _ trivial (Tree.FN (λ_ _ _ h=>h) hS (he.mpr hX))
theorem pcF {T:Tb} (hT:DU T) {I:List Nat} {f:FuncId} {fn:Func} (hfn:Try.prog.funcs[f]? =some fn) {R:Ending→World→Prop} {B:Code} {E:Ev} {G:Hp} {td:List Ab} {L:List Aj} {K:List (Chunk Sg)} {fuel:Nat} {R':Value→Pr→List (Chunk Sg)→Prop} {S':List Ab→List Aj→List (Chunk Sg)→Prop} {X:Prop}
 (he:(run Try.prog T I fuel B fn.results.toList fn.ntmps td L K).holds R' S'=X) (hR:∀v p K w,R' v p K→Af Dg E G w K→R (.returned v) w) (hS:∀td L K,S' td L K→Sl.SW Dg Try.prog f R B fn.ntmps E G td L K) (hX:X):Sl.SW Dg Try.prog f R B fn.ntmps E G td L K:=
 O7 Dg hT mix fuel (f:=(f:Fq)) (.inl ⟨rfl,fn,hfn,rfl⟩) (Q:= λ_=>True) (λ_ _ _ _=>trivial) (R':=R') (λv p K w h _ _ _ hS=>hR v p K w h hS) _ _ _ trivial (Tree.FN (λ_ _ _ h=>h) hS (he.mpr hX))
def asY:Yf:= λst x=>[gL st 0++[x.1],gL st 1++[x.2]]
def asI (l:List BB) (st:LL) (re:List BB):Prop:=(gL st 1).length=(gL st 0).length∧(EI (gL st 0) (gL st 1)++re).Perm l
theorem Anx {l:List BB} (st:LL) (x:BB) (re:List BB) (h:asI l st (x::re)):asI l (asY st x) re:=by
 obtain ⟨h1,h2⟩:=h
 refine ⟨by show (gL st 1++[x.2]).length=(gL st 0++[x.1]).length;rw [jK,jK,h1];rfl,?_⟩
 show (EI (gL st 0++[x.1]) (gL st 1++[x.2])++re).Perm l
 rw [Oq h1]
 simpa using h2
theorem Anz {l:List BB} (st:LL) (re re':List BB) (hp:re.Perm re') (h:asI l st re):asI l st re':=⟨h.1,(List.Perm.append_left _ hp.symm).trans h.2⟩
theorem AoJ {l:List BB} {st:LL} {re:List BB} (h:asI l st re):(gL st 0).length+re.length=l.length:=by
 have:=h.2.length_eq
 rw [jK,LC h.1.symm] at this
 exact this
theorem Ami (b:Nat) (l:List BB) (it:It) (bb Dm lr:Nat) (o1 o2:Obj) (q0:Addr) (s0:Sg) (sb:Nat) (st:LL) (a:Option Nat×Nat):DC (kq b l it bb Dm lr o1 o2 q0 s0 sb st a):=
 PX (by simp [kq,QB,Bi,cellsAll,AV,BP,DK])
section
variable {E:Ev} {G:Hp}
abbrev LD:FuncId:=82
noncomputable abbrev asB:Code:=AY Try.f82
noncomputable abbrev asN:Nat:=Try.f82.ntmps
noncomputable abbrev Iu (tmps:Array Value) (Dm:Nat):Loop:=QY LD tmps #[7] (Sl.sub asB (0::QC)) (Sl.sub asB (1::QC)) Dm .ready none
set_option maxRecDepth 100000 in
theorem An0 {b bb Dm lr sb:Nat} {l:List BB} {it:It} {q0:Addr} {s0:Sg} {st:LL} {a:Option Nat×Nat} {x:BB} {tmps:Array Value} (hlen:((gL st 0).length+1)*16≤140737488355328) (Rr:Ending→World→Prop)
 (H:∀w' a',Af Dg E G w' (kq b l it bb Dm lr (.deferred (some [])) (.loop (Iu tmps Dm)) q0 s0 sb (asY st x) a')→Rr (.returned (.bool true)) w'):
 Sl.SW Dg Try.prog ⟨LD,some lr,[]⟩ Rr asB asN E G [.code (0::QC), .raw .beginRound, .code (1::QC)] (⟨7,none,EF x, .no⟩::TM sb) (kq b l it bb Dm lr (.deferred (some [])) (.loop (Iu tmps Dm)) q0 s0 sb st a):=by
 refine pcE (I:=[2999998,2999997]) EY rfl (Aqp (λ_ _ _=>False) (λtd e2 e5 K=>∃b5,td=[.raw .beginRound, .code (1::QC)]∧e2=some ⟨2,none, .pointer (some ⟨sb,0,none⟩), .pt 5 (.cell 0)⟩∧e5=some ⟨5,none, .pointer (some ⟨b5,0,none⟩), .pt 7 (.cell 0)⟩∧
  K=kq b l it bb Dm lr (.deferred (some [])) (.loop (Iu tmps Dm)) q0 s0 sb st a++[.cells b5 55 [(.int .i64 x.1, .no),(.int .i64 x.2, .no)]]) b l it bb Dm lr (.deferred (some [])) (.loop (Iu tmps Dm)) q0 s0 sb st a x) (λtd L K h=>?_) (λb5=>⟨b5,rfl,rfl,rfl,rfl⟩)
 obtain ⟨b5,rfl,e2,e5,rfl⟩:=h
 refine Sl.SW.sub Dg (L':=⟨5,none, .pointer (some ⟨b5,0,none⟩), .pt 7 (.cell 0)⟩::TM sb) ?_ (λe he=>by
  simp only [TM,iF,jF,or_false] at he
  rcases he with rfl|rfl
  ·exact (Dw e5).1
  ·exact (Dw e2).1)
 refine Sl.SW.busy Dg (f:=⟨LD,some lr,[]⟩) (l:=lr) (j:=3) (s':= .any (λ_=>pt lr (.loop {Iu tmps Dm with state:= .busy})) []) rfl rfl rfl rfl rfl ?_
 show Sl.SW Dg Try.prog ⟨LD,some lr,[]⟩ Rr asB asN E G [.code (1::QC)] (⟨5,none, .pointer (some ⟨b5,0,none⟩), .pt 7 (.cell 0)⟩::TM sb) (kq b l it bb Dm lr (.deferred (some [])) (.loop {Iu tmps Dm with state:= .busy}) q0 s0 sb st a++[.cells b5 55 [(.int .i64 x.1, .no),(.int .i64 x.2, .no)]])
 refine pcE (I:=[2999998,2999997]) EY rfl (Aqq (λ_ _ _=>False) (λtd e2 K=>∃b6 a' c2,td=[]∧K=[.bm b l it, .cells bb 58 [(.map (some b), .pt 0 .map)],QB Dm (.deferred (some [])),QB lr (.loop {Iu tmps Dm with state:= .busy}), .obj q0 s0, .cells sb 24 [(Bi a'.1 ((gL st 0).length+1) a'.2, .pt 9 .slice)], .dead,c2,b6, .row a'.1 55 ((gL st 0).length+1) a'.2 [.ints .i64 (gL st 0++[x.1]), .ints .i64 (gL st 1++[x.2])]]) b l it bb Dm lr b5 (.deferred (some [])) (.loop {Iu tmps Dm with state:= .busy}) q0 s0 sb st a x) (λtd L K h=>?_) (λb6=>⟨hlen, λ_ a1 c1=>⟨_,(a1,c1),_,rfl,rfl⟩⟩)
 obtain ⟨b6,a',c2,rfl,rfl⟩:=h
 refine Sl.SW.on Dg (f:=⟨LD,some lr,[]⟩) (l:=lr) (j:=3) (s':= .any (λ_=>pt lr (.loop (Iu tmps Dm))) []) rfl rfl rfl rfl λw' _ hS=>H w' a' ?_
 refine Af.ord Dg hS [0,1,2,3,4,5,9] rfl ?_
 have e:(gL (asY st x) 0).length=(gL st 0).length+1:=by show (gL st 0++[x.1]).length=_;simp
 unfold kq
 rw [e];rfl
theorem Amk (args:Array Value) (w:World):(callFunc 69 args).run Try.prog w= .ok (.enter 69 args) w:=
 Kw (by kernel_rfl) args w
theorem AhG (b:Nat) (l:List BB) (bb:Nat) (q0:Addr) (s0:Sg):DC (k0 b l bb q0 s0):=PX (by simp [k0,cellsAll,AV,BP,DK])
set_option maxRecDepth 100000 in
theorem An1 {b bb:Nat} {l:List BB} {q0:Addr} {s0:Sg} (hl:l.length≤1000) {R:Ending→World→Prop} {w:World} (hS:Af Dg E G w (k0 b l bb q0 s0))
 (hR:∀st (a:Option Nat×Nat) w',asI l st []→Af Dg E G w' (k0 b l bb q0 s0++[.row a.1 55 (gL st 0).length a.2 [.ints .i64 (gL st 0), .ints .i64 (gL st 1)]])→R (.returned (Bi a.1 (gL st 0).length a.2)) w'):
 Calls Try.prog LD #[.slice none 0 0,Kr bb] w R:=by
 refine IX Try.func82 (c:=asB) (by kernel_rfl) ?_
 have hgo:Sl.SW Dg Try.prog LD R asB asN E G [.code []] (Eg 0 [(.slice none 0 0, .no),(Kr bb, .many [.pt 1 (.cell 0)])]) (k0 b l bb q0 s0):=by
  refine pcF (f:=LD) EY Try.func82 (Anw (λ_ _ _=>False) (λtd e2 e6 K=>∃sb,td=[.code QC, .blk 0, .code [1,1]]∧e2=some ⟨2,none, .pointer (some ⟨sb,0,none⟩), .pt 3 (.cell 0)⟩∧e6=some ⟨6,none,Kr bb, .many [.pt 1 (.cell 0)]⟩∧K=k0 b l bb q0 s0++[.cells sb 24 [(.slice none 0 0, .no)]]) b l bb q0 s0)
   (λ_ _ _ _ h=>h.elim) (λtd L K h=>?_) (λsb=>⟨sb,rfl,rfl,rfl,rfl⟩)
  obtain ⟨sb,rfl,e2,e6,rfl⟩:=h
  refine Sl.SW.rangeFunc Dg (t:=6) (ps:= #[7]) (lb:= #[.pointer (some ⟨bb,0,none⟩)]) (by kernel_rfl) (Dw e6).1 Amk λa w hF hS=>?_
  generalize hDm:w.heap.size=Dm at hS ⊢
  generalize hlr:Dm+1=lr at hS ⊢
  generalize J3 w LD a.tmps #[7] (Sl.sub asB (0::QC)) (Sl.sub asB (1::QC))=w1 at hS ⊢
  let rc0:Obj:= .loop (Iu a.tmps Dm)
  let A:LL→Dl:= λst Y h=>∃x:Option Nat×Nat,Sl.star (([QB Dm (.deferred (some [])),QB lr rc0, .obj q0 s0, .cells sb 24 [(Bi x.1 (gL st 0).length x.2, .pt 6 .slice)], .row x.1 55 (gL st 0).length x.2 [.ints .i64 (gL st 0), .ints .i64 (gL st 1)]]:List (Chunk Sg)).map (den Dg G)) Y h
  have pack:∀w it st x,Af Dg E G w (kq b l it bb Dm lr (.deferred (some [])) rc0 q0 s0 sb st x)→Af Dg E G w (Jf A b l it ⟨0,0,none⟩ bb st):= λw it st x h=>
   Af.order Dg (Af.Al8 Dg (c:= .obj ⟨0,0,none⟩ (.any A st)) (Ks:=[QB Dm (.deferred (some [])),QB lr rc0, .obj q0 s0, .cells sb 24 [(Bi x.1 (gL st 0).length x.2, .pt 6 .slice)], .row x.1 55 (gL st 0).length x.2 [.ints .i64 (gL st 0), .ints .i64 (gL st 1)]]) (K1:=[.bm b l it, .cells bb 58 [(.map (some b), .pt 0 .map)]]) (h.order Dg [2,3,4,5,6,0,1] rfl rfl) λY k hx=>⟨x,hx⟩) [1,0,2] rfl rfl
  have unpack:∀w it st,Af Dg E G w (Jf A b l it ⟨0,0,none⟩ bb st)→∃x,Af Dg E G w (kq b l it bb Dm lr (.deferred (some [])) rc0 q0 s0 sb st x):= λw it st h=>by
   obtain ⟨x,hx⟩:=Af.Agw Dg (k0:= λ_=>QB Dm (.deferred (some []))) (ks:= λx:Option Nat×Nat=>[QB lr rc0, .obj q0 s0, .cells sb 24 [(Bi x.1 (gL st 0).length x.2, .pt 6 .slice)], .row x.1 55 (gL st 0).length x.2 [.ints .i64 (gL st 0), .ints .i64 (gL st 1)]]) h (k:=1) (c:= .obj ⟨0,0,none⟩ (.any A st)) rfl rfl
   exact ⟨x,Af.order Dg hx [0,2,1,3,4,5,6] rfl rfl⟩
  have recAt:∀w it st x,Af Dg E G w (kq b l it bb Dm lr (.deferred (some [])) rc0 q0 s0 sb st x)→w.heap[lr]? =some rc0:= λw it st x h=>
   Af.objPt Dg (q:=⟨0,0,none⟩) (s:= .any (λ_=>pt lr rc0) []) h (j:=3) rfl rfl
  have hL':∀it st x o2,∀e∈TM sb,Agv _ (kq b l it bb Dm lr (.deferred (some [])) o2 q0 s0 sb st x) e:= λit st x o2 e he=>by
   simp only [TM,iF,jF,or_false] at he
   subst he
   exact ⟨rfl,⟨_,(Dw e2).1⟩,Bl.2 ⟨_,rfl,rfl⟩⟩
  have hY:AkE E G A b l ⟨0,0,none⟩ bb lr (asI l) asY:=by
   intro st x re it hI w2 hS2
   obtain ⟨a2,h3⟩:=unpack _ _ _ hS2
   have h4:=recAt _ _ _ _ h3
   refine Akh Dg (L':=TM sb) (p:=QC) (p1:=7) (Dm:=Dm) (f:=LD) (v1:=EF x) hF (Ami _ _ _ _ _ _ _ _ _ _ _ _ _) (iP (by kernel_rfl)) (λe he=>⟨?_,hL' _ _ _ _ e he⟩) h4 h3 ?_
   ·simp only [TM,iF,jF,or_false] at he
    subst he;exact (by decide:(2:Nat)≠7)
   ·have hb:=AoJ hI
    simp only [jI] at hb
    exact An0 (lO (kE 16 (show (gL st 0).length+1≤1000 by omega)) (by decide)) _ λw' a' h5=>⟨rfl,pack _ _ _ a' h5⟩
  have hS1:Af Dg E G w1 (kq b l none bb Dm lr (.deferred (some [])) rc0 q0 s0 sb [[],[]] (none,0)):=by
   have h6:Af Dg E G w1 ((k0 b l bb q0 s0++[.cells sb 24 [(.slice none 0 0, .no)]])++[QB Dm (.deferred (some [])),QB lr rc0]):=by
    unfold Af
    rw [jD]
    exact hS
   have h7:=Af.Ap5 Dg h6 (c:= .row none 55 0 0 [.ints .i64 [], .ints .i64 []]) rfl
   exact Af.ord Dg h7 [0,1,4,5,2,3,6] rfl rfl
  have hq:=Anv (bb:=bb) hY Anx Anz (pack _ _ _ _ hS1) (⟨rfl,oH _⟩:asI l [[],[]] l) (R:= λe w3=>(∃v,e= .returned v)∧∃st,asI l st []∧Af Dg E G w3 (Jf A b l none ⟨0,0,none⟩ bb st)) λst v w' hI h=>⟨⟨v,rfl⟩,st,hI,h⟩
  refine hq.mono λe w3 ⟨hv,st,hI,h6⟩=>⟨hv,?_⟩
  obtain ⟨x,h7⟩:=unpack _ _ _ h6
  have h8:=recAt _ _ _ _ h7
  refine ⟨_,_,h8,(λh=>by simp [Iu,QY] at h),rfl,?_⟩
  have h9:=Af.putObj Dg (q:=⟨0,0,none⟩) (s:= .any (λ_=>pt lr rc0) []) (l:=lr) (x:=rc0) (y:= .loop {Iu a.tmps Dm with state:= .exhausted}) (s':= .any (λ_=>pt lr (.loop {Iu a.tmps Dm with state:= .exhausted})) []) h7 (j:=3) rfl rfl rfl
  refine (show Sl.SW Dg Try.prog ⟨LD,none,[Sl.mark Dm]⟩ R asB asN E G [.blk 0, .code [1,1]] (TM sb) (kq b l none bb Dm lr (.deferred (some [])) (.loop {Iu a.tmps Dm with state:= .exhausted}) q0 s0 sb st x) from ?_) a _ (hF.re (Ami _ _ _ _ _ _ _ _ _ _ _ _ _) λe he=>hL' _ _ _ _ e he) h9
  refine pcE (I:=[2999998,2999997]) EY rfl (ApG (λ_ _ _=>False) (λtd e4 K=>td=[.code [1,1,1]]∧e4=some ⟨4,none,Bi x.1 (gL st 0).length x.2, .pt 6 .slice⟩∧K=kq b l none bb Dm lr (.deferred (some [])) (.loop {Iu a.tmps Dm with state:= .exhausted}) q0 s0 sb st x) b l none bb Dm lr (.deferred (some [])) (.loop {Iu a.tmps Dm with state:= .exhausted}) q0 s0 sb st x) (λtd L K h=>?_) ⟨rfl,rfl,rfl⟩
  obtain ⟨rfl,e4,rfl⟩:=h
  refine Sl.SW.sub Dg (L':=[⟨4,none,Bi x.1 (gL st 0).length x.2, .pt 6 .slice⟩]) ?_ (λe he=>by
   simp only [iF,jF,or_false] at he
   subst he;exact (Dw e4).1)
  exact Sl.SW.finish_mark Dg (f:=⟨LD,none,[Sl.mark Dm]⟩) (Dm:=Dm) (j:=2) (q:=⟨0,0,none⟩) (s:= .any (λ_=>pt Dm (.deferred (some []))) []) (s':= .any (λ_=>pt Dm (.deferred none)) []) (vs:=[(Bi x.1 (gL st 0).length x.2, .pt 6 .slice)]) rfl rfl Try.func82 (.inr ⟨[],by kernel_rfl⟩) rfl rfl rfl (by kernel_rfl)
   λw' hS=>hR st x w' hI (Af.ord Dg hS [0,1,4,6] rfl rfl)
 exact hgo _ w (Fr.start (n:=asN) [(.slice none 0 0, .no),(Kr bb, .many [.pt 1 (.cell 0)])] (iP (by kernel_rfl)) (λx hx=>by
  simp only [iF,jF,or_false] at hx
  rcases hx with rfl|rfl
  ·exact AA
  ·simp only [BP,AV,and_true];exact ⟨_,rfl,rfl⟩) (AhG _ _ _ _ _)) hS
end
end
section
open Go Go.Shelf Go.RowKit Go.Lib Go.Sort
abbrev Bd:Type:={x:Int×Int// -4611686018427387904≤x.1∧x.1<4611686018427387904}
instance:Inhabited Bd:=⟨⟨(0,0),by decide⟩⟩
def Ov (x:Bd):List Value:=[.int .i64 x.1.1, .int .i64 x.1.2]
def bdC (x y:Bd):Int:=x.1.1-y.1.1
abbrev Yh:FuncId:=40
set_option maxHeartbeats 1000000 in
theorem AkF (x y:Bd) (W:World):Calls Try.prog Yh #[.agg #[.int .i64 x.1.1, .int .i64 x.1.2], .agg #[.int .i64 y.1.1, .int .i64 y.1.2]] W λe w'=>e= .returned (.int .i64 (bdC x y))∧∃q os',w'=grow (W.drewN q) os':=by
 have hs:iB.wrap (x.1.1-y.1.1)=bdC x y:=by
  have h1:=x.2;have h2:=y.2
  unfold bdC
  rw [IntKind.wrap_i64]
  omega
 go_enter Try.func40,Try.ntmps40
 go_wp2
 go_ret
 exact ⟨rfl,0,_,by rw [alloc_eq_grow,alloc_eq_grow,grow_grow];rfl⟩
theorem Afx (x y:Bd):ltOf bdC x y=decide (x.1.1<y.1.1):=by
 show decide (x.1.1-y.1.1<0)=_
 by_cases h:x.1.1<y.1.1
 ·rw [decide_eq_true h,decide_eq_true (by omega)]
 ·rw [decide_eq_false h,decide_eq_false (by omega)]
theorem ApJ:SWO (ltOf bdC) where
 irrefl x:=by rw [Afx];simp
 trans x y z h1 h2:=by rw [Afx,decide_eq_true_eq] at*;omega
 ntrans x y z h1 h2:=by rw [Afx,decide_eq_false_iff_not] at*;omega
theorem AoK (blk off size:Nat) (w:World):CmpLays Try.prog Yh #[] Ov 2 bdC blk off size w:= λ_ _ _ _ x y=>AkF x y _
end
section
open Go Go.Sl Go.Shelf Go.RowKit Go.Lib Go.Sort
abbrev Bs:=List (Int×Int)
def rowB (a:Option Nat) (cap:Nat) (l:Bs):Chunk Sg:= .row a 55 l.length cap [.ints .i64 (l.map (·.1)), .ints .i64 (l.map (·.2))]
def lsB (d:Array Bd):Bs:=d.toList.map (·.1)
theorem J8 (d:Array Bd):(lsB d).length=d.size:=by simp [lsB]
theorem VZ (d:Array Bd) {i:Nat} (h:i<d.size):(lsB d)[i]? =some d[i]!.1:=by
 simp [lsB,h,getElem!_pos]
theorem Aml (d:Array Bd):flat [.ints .i64 ((lsB d).map (·.1)), .ints .i64 ((lsB d).map (·.2))] d.size=(flatK Ov 2 d).toList:=by
 refine kZ λt=>?_
 by_cases ht:t<d.size*2
 ·have hi:t/2<d.size:=by omega
  have e1:(flatK Ov 2 d).toList[t]? =some ((Ov d[t/2]!)[t%2]!):=by
   rw [←get_flatK Ov 2 d t ht,mM,getElem!_pos (flatK Ov 2 d) t (by simpa using ht),jM (by simpa using ht)]
  rw [e1]
  rcases (by omega:t%2=0∨t%2=1) with h|h
  ·have:=flat_get (cols:=[.ints .i64 ((lsB d).map (·.1)), .ints .i64 ((lsB d).map (·.2))]) (n:=d.size) (i:=t/2) (j:=0) hi rfl
   rw [show t/2*[Au.ints .i64 ((lsB d).map (·.1)), .ints .i64 ((lsB d).map (·.2))].length+0=t by simp only [jI,mA];omega] at this
   rw [this,h]
   simp only [Au.at,iC,iL,VZ d hi]
   rfl
  ·have:=flat_get (cols:=[.ints .i64 ((lsB d).map (·.1)), .ints .i64 ((lsB d).map (·.2))]) (n:=d.size) (i:=t/2) (j:=1) hi rfl
   rw [show t/2*[Au.ints .i64 ((lsB d).map (·.1)), .ints .i64 ((lsB d).map (·.2))].length+1=t by simp only [jI,mA];omega] at this
   rw [this,h]
   simp only [Au.at,iC,iL,VZ d hi]
   rfl
 ·rw [jE (by rw [Gs];simp only [jI,mA];omega),jE (by simp;omega)]
theorem AoL (F c:Array Value) (h:F.size≤c.size):(putCells id 0 F c).toList.take F.size=F.toList:=by
 refine kZ λt=>?_
 by_cases ht:t<F.size
 ·rw [List.getElem?_take_of_lt ht,mM,mM]
  simp only [putCells,Array.getElem?_mapIdx]
  rw [jM (by omega),jM ht]
  simp only [iR,id]
  rw [if_pos ⟨by omega,by omega⟩,getElem!_pos F _ (by omega)]
  rfl
 ·rw [jE (by simp;omega),jE (by simp;omega)]
theorem Sat.grow {E:Ev} {G:Hp} {As:List Dl}:∀(os:List Obj) {w:World},Sat E G w As→Sat E G (Sort.grow w os.toArray) As
 |[],w,h=>by simpa using h
 |o::os,w,h=>by
  have e:Sort.grow w (o::os).toArray=Sort.grow (w.alloc o) os.toArray:=by rw [alloc_eq_grow,grow_grow];congr 1;simp
  rw [e]
  refine Sat.grow os ((Sat.alloc h o).drop λi A hi=>?_)
  rw [iH (BN hi)]
  exact hi
theorem TN (w:World) (b c:Nat) (f:Array Value→Array Value):(mapBlock w b f).heap[c]? =if b=c then w.heap[c]?.map (onCells f) else w.heap[c]? :=by
 unfold mapBlock
 simp only [Array.getElem?_modify]
variable {E:Ev} {G:Hp} {K:List (Chunk Sg)}
theorem AhI {w:World} {j b cap:Nat} {l:Bs} (hS:Af Dg E G w K) (hj:K[j]? =some (rowB (some b) cap l)):∃cs:Array Value,w.heap[b]? =some (.cells cs 55 (0,0))∧l.length≤cap∧cap≤maxLen∧cs.size=cap*2∧cs.toList.take (l.length*2)=flat [.ints .i64 (l.map (·.1)), .ints .i64 (l.map (·.2))] l.length:=by
 obtain ⟨Z,hz,hw,e,hg,o,ho,hA⟩:=hS
 obtain ⟨_,_,cs,h4,h5,h6,h7,h8⟩:=hA j _ (Ey (show (K.map (den Dg G))[j]? =some (den Dg G (rowB (some b) cap l)) by rw [iL,hj];rfl)) Z (Hp.le_refl Z)
 exact ⟨cs,JQ h4,h5,h6,h7,h8⟩
theorem Amm {w:World} {j b cap:Nat} {d:Array Bd} (hS:Af Dg E G w K) (hj:K[j]? =some (rowB (some b) cap (lsB d))):HoldsK Ov 2 w b 0 d:=by
 obtain ⟨cs,h4,h5,h6,h7,h8⟩:=AhI hS hj
 intro t ht
 have ht':t<d.size*2:=by simpa using ht
 rw [J8] at h8
 have e:cs[t]? =some (flatK Ov 2 d)[t]! :=by
  have:=congrArg (λl=>l[t]?) h8
  rw [Aml] at this
  simp only [List.getElem?_take_of_lt ht',mM] at this
  rw [this,getElem!_pos (flatK Ov 2 d) t (by simpa using ht'),jM (by simpa using ht')]
 refine ⟨?_,?_⟩
 ·simp only [World.cell?,h4,lG,e];rfl
 ·simp only [World.frozen?,h4];simp
theorem Amn {w:World} {j b cap:Nat} {l:Bs} {d d':Array Bd} {m:Nat} {os:Array Obj} (hS:Af Dg E G w K) (hj:K[j]? =some (rowB (some b) cap l)) (hl:lsB d=l) (hd:d'.size=d.size):
 Af Dg E G (sortWorldK Ov 2 w b 0 m d' os) (K.set j (rowB (some b) cap (lsB d'))):=by
 unfold sortWorldK putRowK putRow
 have hj':(K.map (den Dg G))[j]? =some (den Dg G (rowB (some b) cap l)):=by rw [iL,hj];rfl
 obtain ⟨cs,h4,h5,h6,h7,h8⟩:=AhI hS hj
 have h1:=Sat.drawn hS (w.drawn+m)
 have ls:l.length=d.size:=by rw [←hl,J8]
 have h2:=Sat.write' (w':=mapBlock (Sort.ahead w m) b (putCells id 0 (flatK Ov 2 d'))) (b:=b) (A':=den Dg G (rowB (some b) cap (lsB d'))) h1 hj' (λY k hk=>by
  obtain ⟨_,_,cs,h4,_⟩:=hk
  rw [h4];simp) ⟨rfl,rfl,rfl⟩ (by simp [mapBlock,Sort.ahead]) (λc hc=>by
  rw [TN,if_neg (Ne.symm hc)];rfl) (λY k k' hk ho hb=>by
  have hw:w.heap[b]? =some (.cells cs 55 (0,0)):=h4
  rw [TN,if_pos rfl,show (Sort.ahead w m).heap[b]? =w.heap[b]? from rfl,hw] at hb
  have hs:(flatK Ov 2 d').size=(lsB d').length*2:=by rw [size_flatK,J8]
  have hl':(lsB d').length=l.length:=by rw [J8,ls,hd]
  refine ⟨λc hc=>?_,by simp,_,hb,by omega,h6,?_,?_⟩
  ·simp only [iF,jF,or_false] at hc
   rcases hc with rfl|rfl<;>simp [Au.len]
  ·simp only [putCells,Array.size_mapIdx];exact h7
  ·rw [show (lsB d').length*[Au.ints .i64 ((lsB d').map (·.1)), .ints .i64 ((lsB d').map (·.2))].length=(flatK Ov 2 d').size from hs.symm,AoL _ _ (by rw [hs,h7];omega),J8,Aml])
 have h3:=Sat.grow os.toList h2
 unfold Af
 rw [jU]
 exact h3
end
section
open Go Go.Sl Go.Shelf Go.RowKit Go.Lib Go.Sort
def inB (l:Bs):Prop:=∀x∈l, -4611686018427387904≤x.1∧x.1<4611686018427387904
def LG (l:Bs):Prop:=l.Pairwise λx y=>x.1≤y.1
def mkD (l:Bs) (hb:inB l):Array Bd:=(l.pmap Subtype.mk hb).toArray
theorem ApK (l:Bs) (hb:inB l):lsB (mkD l hb)=l:=by
 have h:∀(l:Bs) (hb:inB l),(l.pmap Subtype.mk hb).map (·.1)=l:=by
  intro l
  induction l with
  |nil=>intro _;rfl
  |cons x l ih=>intro hb;exact congrArg (x:: ·) (ih _)
 exact h l hb
abbrev ApL:FuncId:=68
variable {E:Ev} {G:Hp} {K:List (Chunk Sg)}
theorem Amo {w:World} {j cap:Nat} {a:Option Nat} {l:Bs} (hS:Af Dg E G w K) (hj:K[j]? =some (rowB a cap l)) (hb:inB l) (h1k:l.length≤1000):
 Calls Try.prog ApL #[Bi a l.length cap, .func (.func Yh) #[] #[]] w λe w'=>e= .returned (.tuple #[])∧∃l':Bs,l'.Perm l∧LG l'∧Af Dg E G w' (K.set j (rowB a cap l')):=by
 cases a with
 |none=>
  have hn:l=[]:=by
   obtain ⟨Z,hz,hw,e,hg,o,ho,hA⟩:=hS
   obtain ⟨_,_,h4,_⟩:=hA j _ (Ey (show (K.map (den Dg G))[j]? =some (den Dg G (rowB none cap l)) by rw [iL,hj];rfl)) Z (Hp.le_refl Z)
   exact nD h4
  subst hn
  have h:=AnyF.slices_SortFunc_none {Try.Ajq with} none cap (.func (.func Yh) #[] #[]) w
  refine h.mono ?_
  rintro e w' ⟨rfl,rfl⟩
  refine ⟨rfl,[],oH _,List.Pairwise.nil,?_⟩
  have e:K.set j (rowB none cap [])=K:=kZ λi=>by
   by_cases h:j=i
   ·subst h;rw [iT (BN hj),hj]
   ·rw [iW h]
  rw [e]
  exact hS
 |some b=>
  have eg:∀args w,(callFunc Yh args).run Try.prog w= .ok (.enter Yh args) w:=enters_of Try.func40 (by kernel_rfl) rfl
  have e:=ApK l hb
  have hj':K[j]? =some (rowB (some b) cap (lsB (mkD l hb))):=by rw [e];exact hj
  obtain ⟨cs,h4,h5,h6,h7,h8⟩:=AhI hS hj
  have es:(mkD l hb).size=l.length:=by rw [←J8,e]
  have h:=AnyQ.slices_SortFunc Try.Ajq 2 Try.isAgg55 Try.sizeOf55 Ov (λ_=>rfl) (λx v hv=>by simp [Ov] at hv;rcases hv with rfl|rfl<;>rfl) bdC ApJ Yh #[] b 0 cap (mkD l hb) w eg (AoK b 0 _ w) (Amm hS hj') (lt_of_heap h4) (by rw [es];omega)
  rw [es] at h
  refine h.mono ?_
  rintro e1 w' ⟨rfl,d',n,os,hp,hs,rfl⟩
  obtain ⟨hp1,_,hp2⟩:=hp
  refine ⟨rfl,lsB d',?_,?_,Amn hS hj' rfl hp1⟩
  ·rw [←es] at hp2
   have h9:(d'.extract 0 (mkD l hb).size)=d':=by rw [←hp1];simp
   have h10:((mkD l hb).extract 0 (mkD l hb).size)=mkD l hb:=by simp
   rw [h9,h10] at hp2
   have:=hp2.map (·.1)
   show (d'.toList.map (·.1)).Perm l
   rw [show l=(mkD l hb).toList.map (·.1) from e.symm]
   exact this
  ·unfold LG
   rw [List.pairwise_iff_getElem]
   intro i k hi hk hik
   rw [J8] at hi hk
   have h11:=hs i k (oE _) hik (by rw [←es,←hp1];exact hk)
   rw [Afx,decide_eq_false_iff_not] at h11
   have a1:=VZ d' hi
   have a2:=VZ d' hk
   rw [iK (by rw [J8];exact hi)] at a1
   rw [iK (by rw [J8];exact hk)] at a2
   injection a1 with a1;injection a2 with a2
   rw [a1,a2]
   omega
end
section
open Go Go.Sl
abbrev k1 (b:Nat) (l:List BB) (bb:Nat) (q0:Addr) (s0:Sg) (l':List BB) (a:Option Nat) (cap:Nat):List (Chunk Sg):=k0 b l bb q0 s0++[rowB a cap l']
theorem An2 (R':Value→Pr→List (Chunk Sg)→Prop) (S0:List Ab→Option Aj→List (Chunk Sg)→Prop) (b:Nat) (l:List BB) (bb:Nat) (q0:Addr) (s0:Sg):
 (run Try.prog II [2999998] 60 (AY Try.f67) Try.f67.results.toList Try.f67.ntmps [.code []] (Eg 0 [(Kr bb, .many [.pt 1 (.cell 0)])]) (k0 b l bb q0 s0)).holds R' (λtd L K=>S0 td (Sl.look L 3) K)=
 (S0 ([Ab.ops [0,1] 1,Ab.code [1,1]]) (some ⟨3,none,lU (Fn.func 69) ⟨[]⟩ ⟨[kH (some ⟨bb,0,none⟩)]⟩,Pr.many [lE 1 (nU 0)]⟩) ([kV b l none,jG bb 58 [(lB (some b),lE 0 mO)],kP q0 s0])):=by
 kernel_rfl
theorem An3 (R':Value→Pr→List (Chunk Sg)→Prop) (S0:List Ab→Option Aj→Option Aj→List (Chunk Sg)→Prop) (b:Nat) (l:List BB) (bb:Nat) (q0:Addr) (s0:Sg):
 (run Try.prog II [2999998] 60 (AY Try.f38) Try.f38.results.toList Try.f38.ntmps [.code []] (Eg 0 [(Kr bb, .many [.pt 1 (.cell 0)]),(.func (.func Yh) #[] #[], .no)]) (k0 b l bb q0 s0)).holds R' (λtd L K=>S0 td (Sl.look L 6) (Sl.look L 1) K)=
 (S0 ([Ab.ops [0,1] 1,Ab.code [1,1]]) (some ⟨6,none,lU (Fn.func 69) ⟨[]⟩ ⟨[kH (some ⟨bb,0,none⟩)]⟩,Pr.many [lE 1 (nU 0)]⟩) (some ⟨1,none,lU (Fn.func 40) ⟨[]⟩ ⟨[]⟩,kG⟩) ([kV b l none,jG bb 58 [(lB (some b),lE 0 mO)],kP q0 s0])):=by
 kernel_rfl
theorem ApM (R':Value→Pr→List (Chunk Sg)→Prop) (S0:List Ab→List (Chunk Sg)→Prop) (b:Nat) (l:List BB) (bb:Nat) (q0:Addr) (s0:Sg) (l':List BB) (a:Option Nat) (cap:Nat):
 (run Try.prog II [2999998] 60 (AY Try.f67) Try.f67.results.toList Try.f67.ntmps [.ops [0,1] 2, .code [1,1]] [⟨4,none,Bi a l'.length cap, .pt 3 .slice⟩] (k1 b l bb q0 s0 l' a cap)).holds R' (λtd L K=>S0 td K)=
 (R' (lA (mG (λb=>⟨b,0,none⟩) a) (iN l') cap) (lE 3 oI) ([kV b l none,jG bb 58 [(lB (some b),lE 0 mO)],kP q0 s0,kY a 55 (iN l') cap [Au.ints iB (mT (λx=>x.1) l'),Au.ints iB (mT (λx=>x.2) l')]])):=by
 kernel_rfl
theorem ApN (R':Value→Pr→List (Chunk Sg)→Prop) (S0:List Ab→Option Aj→Option Aj→Option Aj→List (Chunk Sg)→Prop) (b:Nat) (l:List BB) (bb:Nat) (q0:Addr) (s0:Sg) (l':List BB) (a:Option Nat) (cap:Nat):
 (run Try.prog II [2999998] 60 (AY Try.f38) Try.f38.results.toList Try.f38.ntmps [.ops [0,1] 2, .code [1,1]] [⟨7,none,Bi a l'.length cap, .pt 3 .slice⟩,⟨1,none, .func (.func Yh) #[] #[], .no⟩] (k1 b l bb q0 s0 l' a cap)).holds R' (λtd L K=>S0 td (Sl.look L 8) (Sl.look L 9) (Sl.look L 5) K)=
 (S0 ([Ab.ops [0,1,1] 2,Ab.code [1,1,1]]) (some ⟨8,none,lA (mG (λb=>⟨b,0,none⟩) a) (iN l') cap,lE 3 oI⟩) (some ⟨9,none,lU (Fn.func 40) ⟨[]⟩ ⟨[]⟩,kG⟩) (some ⟨5,none,lA (mG (λb=>⟨b,0,none⟩) a) (iN l') cap,lE 3 oI⟩) ([kV b l none,jG bb 58 [(lB (some b),lE 0 mO)],kP q0 s0,kY a 55 (iN l') cap [Au.ints iB (mT (λx=>x.1) l'),Au.ints iB (mT (λx=>x.2) l')]])):=by
 kernel_rfl
theorem ApO (R':Value→Pr→List (Chunk Sg)→Prop) (S0:List Ab→List (Chunk Sg)→Prop) (b:Nat) (l:List BB) (bb:Nat) (q0:Addr) (s0:Sg) (l':List BB) (a:Option Nat) (cap n:Nat):
 (run Try.prog II [2999998] 60 (AY Try.f38) Try.f38.results.toList Try.f38.ntmps [.ops [0,1,1] 3, .code [1,1,1]] [⟨5,none,Bi a n cap, .pt 3 .slice⟩] (k1 b l bb q0 s0 l' a cap)).holds R' (λtd L K=>S0 td K)=
 (R' (lA (mG (λb=>⟨b,0,none⟩) a) n cap) (lE 3 oI) ([kV b l none,jG bb 58 [(lB (some b),lE 0 mO)],kP q0 s0,kY a 55 (iN l') cap [Au.ints iB (mT (λx=>x.1) l'),Au.ints iB (mT (λx=>x.2) l')]])):=by
 kernel_rfl
section
variable {E:Ev} {G:Hp}
abbrev AhJ:FuncId:=67
noncomputable abbrev coB:Code:=AY Try.f67
theorem AhK (b:Nat) (l:List BB) (bb:Nat) (q0:Addr) (s0:Sg) (l':List BB) (a:Option Nat) (cap:Nat):DC (k1 b l bb q0 s0 l' a cap):=PX (by simp [k1,k0,rowB,cellsAll,AV,BP,DK])
theorem An4 {xs ys:LI} (h:ys.length=xs.length):(EI xs ys).map (·.1)=xs∧(EI xs ys).map (·.2)=ys:=by
 unfold EI
 exact ⟨List.map_fst_zip (by omega),List.map_snd_zip (by omega)⟩
set_option maxRecDepth 100000 in
theorem An5 {b bb:Nat} {l:List BB} {q0:Addr} {s0:Sg} (hl:l.length≤1000) {R:Ending→World→Prop} {w:World} (hS:Af Dg E G w (k0 b l bb q0 s0))
 (hR:∀(l':List BB) a cap w',l'.Perm l→Af Dg E G w' (k1 b l bb q0 s0 l' a cap)→R (.returned (Bi a l'.length cap)) w'):
 Calls Try.prog AhJ #[Kr bb] w R:=by
 refine IX Try.func67 (c:=coB) (by kernel_rfl) ?_
 have hgo:Sl.SW Dg Try.prog AhJ R coB Try.f67.ntmps E G [.code []] (Eg 0 [(Kr bb, .many [.pt 1 (.cell 0)])]) (k0 b l bb q0 s0):=by
  refine pcF (f:=AhJ) EY Try.func67 (An2 (λ_ _ _=>False) (λtd e3 K=>td=[.ops [0,1] 1, .code [1,1]]∧e3=some ⟨3,none,Kr bb, .many [.pt 1 (.cell 0)]⟩∧K=k0 b l bb q0 s0) b l bb q0 s0)
   (λ_ _ _ _ h=>h.elim) (λtd L K h=>?_) ⟨rfl,rfl,rfl⟩
  obtain ⟨rfl,e3,rfl⟩:=h
  refine Sl.SW.sub Dg (L':=[⟨3,none,Kr bb, .many [.pt 1 (.cell 0)]⟩]) ?_ (λe he=>by
   simp only [iF,jF,or_false] at he
   subst he;exact (Dw e3).1)
  refine Sl.SW.opCall Dg (α:={x:List BB×Option Nat×Nat//x.1.Perm l}) (vf:= λx=>Bi x.1.2.1 x.1.1.length x.1.2.2) (pf:= λ_=> .pt 3 .slice) (Kf:= λx=>k1 b l bb q0 s0 x.1.1 x.1.2.1 x.1.2.2) (g:=LD) rfl (by kernel_rfl) rfl (λhk x=>⟨Bj.append _ _,AhK _ _ _ _ _ _ _ _,?_⟩) (λw hS=>?_) (λx=>?_)
  ·exact Bl.2 ⟨_,rfl,rfl⟩
  ·refine An1 hl hS λst a w' hI h1=>?_
   obtain ⟨e1,e2⟩:=An4 hI.1
   have e3:(EI (gL st 0) (gL st 1)).length=(gL st 0).length:=LC hI.1.symm
   refine ⟨⟨(EI (gL st 0) (gL st 1),a.1,a.2),by simpa using hI.2⟩,?_,?_⟩
   ·show Ending.returned (Bi a.1 (gL st 0).length a.2)=Ending.returned (Bi a.1 (EI (gL st 0) (gL st 1)).length a.2)
    rw [e3]
   ·show Af Dg E G w' (k0 b l bb q0 s0++[.row a.1 55 (EI (gL st 0) (gL st 1)).length a.2 [.ints .i64 ((EI (gL st 0) (gL st 1)).map (·.1)), .ints .i64 ((EI (gL st 0) (gL st 1)).map (·.2))]])
    rw [e1,e2,e3]
    exact h1
  ·obtain ⟨⟨l',a,cap⟩,hp⟩:=x
   refine Sl.SW.sub Dg (L':=[⟨4,none,Bi a l'.length cap, .pt 3 .slice⟩]) ?_ (λe he=>by
    simp only [iF,jF,or_false] at he
    subst he
    exact nI _)
   refine pcF (f:=AhJ) EY Try.func67 (ApM (λv p K=>v=Bi a l'.length cap∧K=k1 b l bb q0 s0 l' a cap) (λ_ _=>False) b l bb q0 s0 l' a cap) (λv p K w h hS=>?_) (λ_ _ _ h=>False.elim h) ⟨rfl,rfl⟩
   obtain ⟨rfl,rfl⟩:=h
   exact hR l' a cap w hp hS
 exact hgo _ w (Fr.start (n:=Try.f67.ntmps) [(Kr bb, .many [.pt 1 (.cell 0)])] (iP (by kernel_rfl)) (λx hx=>by
  simp only [iF,jF,or_false] at hx
  subst hx
  simp only [BP,AV,and_true];exact ⟨_,rfl,rfl⟩) (AhG _ _ _ _ _)) hS
theorem AoM {l l':Bs} (e:l.length=l'.length) {a:Option Nat} {cap:Nat} {v:Value} {pk:PK} (h:DK (rowB a cap l) v pk):DK (rowB a cap l') v pk:=by
 cases pk<;>simp only [DK,rowB,jI,mA] at h ⊢ <;>first|exact h|(rw [←e];exact h)
abbrev Zi:FuncId:=38
noncomputable abbrev NV:Code:=AY Try.f38
abbrev stV:Value:= .func (.func Yh) #[] #[]
set_option maxRecDepth 100000 in
theorem An6 {b bb:Nat} {l:List BB} {q0:Addr} {s0:Sg} (hl:l.length≤1000) (hb:inB l) {R:Ending→World→Prop} {w:World} (hS:Af Dg E G w (k0 b l bb q0 s0))
 (hR:∀(l':List BB) a cap w',l'.Perm l→LG l'→Af Dg E G w' (k1 b l bb q0 s0 l' a cap)→R (.returned (Bi a l'.length cap)) w'):
 Calls Try.prog Zi #[Kr bb,stV] w R:=by
 refine IX Try.func38 (c:=NV) (by kernel_rfl) ?_
 have hgo:Sl.SW Dg Try.prog Zi R NV Try.f38.ntmps E G [.code []] (Eg 0 [(Kr bb, .many [.pt 1 (.cell 0)]),(stV, .no)]) (k0 b l bb q0 s0):=by
  refine pcF (f:=Zi) EY Try.func38 (An3 (λ_ _ _=>False) (λtd e6 e1 K=>td=[.ops [0,1] 1, .code [1,1]]∧e6=some ⟨6,none,Kr bb, .many [.pt 1 (.cell 0)]⟩∧e1=some ⟨1,none,stV, .no⟩∧K=k0 b l bb q0 s0) b l bb q0 s0)
   (λ_ _ _ _ h=>h.elim) (λtd L K h=>?_) ⟨rfl,rfl,rfl,rfl⟩
  obtain ⟨rfl,e6,e1,rfl⟩:=h
  refine Sl.SW.sub Dg (L':=[⟨6,none,Kr bb, .many [.pt 1 (.cell 0)]⟩,⟨1,none,stV, .no⟩]) ?_ (λe he=>by
   simp only [iF,jF,or_false] at he
   rcases he with rfl|rfl
   ·exact (Dw e6).1
   ·exact (Dw e1).1)
  refine Sl.SW.opCall Dg (α:={x:List BB×Option Nat×Nat//x.1.Perm l}) (vf:= λx=>Bi x.1.2.1 x.1.1.length x.1.2.2) (pf:= λ_=> .pt 3 .slice) (Kf:= λx=>k1 b l bb q0 s0 x.1.1 x.1.2.1 x.1.2.2) (g:=AhJ) rfl (by kernel_rfl) rfl (λhk x=>⟨Bj.append _ _,AhK _ _ _ _ _ _ _ _,?_⟩) (λw hS=>?_) (λx=>?_)
  ·exact Bl.2 ⟨_,rfl,rfl⟩
  ·exact An5 hl hS λl' a cap w' hp h1=>⟨⟨(l',a,cap),hp⟩,rfl,h1⟩
  ·obtain ⟨⟨l',a,cap⟩,hp⟩:=x
   dsimp only at hp
   refine Sl.SW.sub Dg (L':=[⟨7,none,Bi a l'.length cap, .pt 3 .slice⟩,⟨1,none,stV, .no⟩]) ?_ (λe he=>by
    simp only [iF,jF,or_false] at he
    rcases he with rfl|rfl
    ·exact nI _
    ·exact lW _ (lW _ (nI _)))
   refine pcF (f:=Zi) EY Try.func38 (ApN (λ_ _ _=>False) (λtd e8 e9 e5 K=>td=[.ops [0,1,1] 2, .code [1,1,1]]∧e8=some ⟨8,none,Bi a l'.length cap, .pt 3 .slice⟩∧e9=some ⟨9,none,stV, .no⟩∧e5=some ⟨5,none,Bi a l'.length cap, .pt 3 .slice⟩∧K=k1 b l bb q0 s0 l' a cap) b l bb q0 s0 l' a cap)
    (λ_ _ _ _ h=>h.elim) (λtd L K h=>?_) ⟨rfl,rfl,rfl,rfl,rfl⟩
   obtain ⟨rfl,e8,e9,e5,rfl⟩:=h
   refine Sl.SW.sub Dg (L':=[⟨8,none,Bi a l'.length cap, .pt 3 .slice⟩,⟨9,none,stV, .no⟩,⟨5,none,Bi a l'.length cap, .pt 3 .slice⟩]) ?_ (λe he=>by
    simp only [iF,jF,or_false] at he
    rcases he with rfl|rfl|rfl
    ·exact (Dw e8).1
    ·exact (Dw e9).1
    ·exact (Dw e5).1)
   refine Sl.SW.opCall Dg (α:={x:List BB//x.Perm l'∧LG x}) (vf:= λ_=> .tuple #[]) (pf:= λ_=> .no) (Kf:= λx=>k1 b l bb q0 s0 x.1 a cap) (g:=ApL) rfl (by kernel_rfl) rfl (λhk x=>⟨?_,AhK _ _ _ _ _ _ _ _,AA⟩) (λw hS=>?_) (λx=>?_)
   ·refine Bj.set (K:=k1 b l bb q0 s0 l' a cap) (i:=3) rfl λv pk h=>?_
    have e:=x.2.1.length_eq
    exact AoM e.symm h
   ·refine (Amo (j:=3) hS rfl (λy hy=>hb y (hp.mem_iff.1 hy)) (by rw [hp.length_eq];exact hl)).mono ?_
    rintro e w' ⟨rfl,l2,h1,h2,h3⟩
    exact ⟨⟨l2,h1,h2⟩,rfl,h3⟩
   ·obtain ⟨l2,h1,h2⟩:=x
    refine Sl.SW.sub Dg (L':=[⟨5,none,Bi a l'.length cap, .pt 3 .slice⟩]) ?_ (λe he=>by
     simp only [iF,jF,or_false] at he
     subst he
     exact lW _ (lW _ (lW _ (nI _))))
    refine pcF (f:=Zi) EY Try.func38 (ApO (λv p K=>v=Bi a l'.length cap∧K=k1 b l bb q0 s0 l2 a cap) (λ_ _=>False) b l bb q0 s0 l2 a cap l'.length) (λv p K w h hS=>?_) (λ_ _ _ h=>False.elim h) ⟨rfl,rfl⟩
    obtain ⟨rfl,rfl⟩:=h
    rw [←h1.length_eq]
    exact hR l2 a cap w (h1.trans hp) h2 hS
 exact hgo _ w (Fr.start (n:=Try.f38.ntmps) [(Kr bb, .many [.pt 1 (.cell 0)]),(stV, .no)] (iP (by kernel_rfl)) (λx hx=>by
  simp only [iF,jF,or_false] at hx
  rcases hx with rfl|rfl
  ·simp only [BP,AV,and_true];exact ⟨_,rfl,rfl⟩
  ·exact AA) (AhG _ _ _ _ _)) hS
end
end
section
open Go Go.Sl
abbrev EN:Ct Sg:=⟨some D5,true,[], .agg [.new 55 [some .i64,some .i64], .i .i64, .i .i64, .i .i64, .i .i64, .i .i64, .i .i64, .i .i64, .i .i64]⟩
abbrev mC (o b k:Nat) (t p h x0 x1 x2 x3 x4 x5 x6 x7:Int):Chunk Sg:= .cells o 60 [(.int .i64 t, .no),(.int .i64 p, .no),(.int .i64 h, .no),(.map (some b), .pt k .map),(.int .i64 x0, .no),(.int .i64 x1, .no),(.int .i64 x2, .no),(.int .i64 x3, .no),(.int .i64 x4, .no),(.int .i64 x5, .no),(.int .i64 x6, .no),(.int .i64 x7, .no)]
abbrev zC (z:Nat):Chunk Sg:= .cells z 27 [(.slice none 0 0, .no),(.int .i64 0, .no),(.int .i64 0, .no),(.int .i64 0, .no),(.int .i64 0, .no),(.int .i64 0, .no),(.int .i64 0, .no),(.int .i64 0, .no),(.int .i64 0, .no)]
abbrev sK1 (o b z bb:Nat) (l:List BB) (t p h x0 x1 x2 x3 x4 x5 x6 x7:Int):List (Chunk Sg):=[mC o b 1 t p h x0 x1 x2 x3 x4 x5 x6 x7, .bm b l none,zC z, .cells bb 58 [(.map (some b), .pt 1 .map)]]
theorem An7 (R':Value→Pr→List (Chunk Sg)→Prop) (S0:List Ab→Option Aj→Option Aj→Option Aj→List (Chunk Sg)→Prop) (o:Nat) (ad ad2:Nat→Ad) (s:MS) (t p h:Int) (l:List BB) (x0 x1 x2 x3 x4 x5 x6 x7:Int):
 (run Try.prog II [2999998,26,39] 100 (AY Try.f12) Try.f12.results.toList Try.f12.ntmps [.code []] (J9 0 (EN.sL ⟨o,0,none⟩ [.st (.mod s)] ad)) (Dq.opK 0 o ad2 [.i t, .i p, .i h, .bl l, .i x0, .i x1, .i x2, .i x3, .i x4, .i x5, .i x6, .i x7] (EN.sK ⟨o,0,none⟩ [.st (.mod s)] ad))).holds R' (λtd L K=>S0 td (Sl.look L 12) (Sl.look L 0) (Sl.look L 2) K)=
 (∀b0_0:Nat,(BH (false) (R' (Value.agg ⟨[lA none 0 0,iX iB (0:Int),iX iB (0:Int),iX iB (0:Int),iX iB (0:Int),iX iB (0:Int),iX iB (0:Int),iX iB (0:Int),iX iB (0:Int)]⟩) (kG) ([jG o 60 [(iX iB t,kG),(iX iB p,kG),(iX iB h,kG),(lB (some (Ad.b (ad2 0))),lE 1 mO),(iX iB x0,kG),(iX iB x1,kG),(iX iB x2,kG),(iX iB x3,kG),(iX iB x4,kG),(iX iB x5,kG),(iX iB x6,kG),(iX iB x7,kG)],kV (Ad.b (ad2 0)) l none,jG b0_0 27 [(lA none 0 0,kG),(iX iB (0:Int),kG),(iX iB (0:Int),kG),(iX iB (0:Int),kG),(iX iB (0:Int),kG),(iX iB (0:Int),kG),(iX iB (0:Int),kG),(iX iB (0:Int),kG),(iX iB (0:Int),kG)]])) (∀b2_0:Nat,(S0 ([Ab.ops [0,1,1] 5,Ab.code [1,1,1]]) (some ⟨12,none,lU (Fn.func 69) ⟨[]⟩ ⟨[kH (some ⟨b2_0,0,none⟩)]⟩,Pr.many [lE 3 (nU 0)]⟩) (some ⟨0,none,kH (some ⟨o,0,none⟩),lE 0 (nU 0)⟩) (some ⟨2,none,kH (some ⟨b0_0,0,none⟩),lE 2 (nU 0)⟩) ([jG o 60 [(iX iB t,kG),(iX iB p,kG),(iX iB h,kG),(lB (some (Ad.b (ad2 0))),lE 1 mO),(iX iB x0,kG),(iX iB x1,kG),(iX iB x2,kG),(iX iB x3,kG),(iX iB x4,kG),(iX iB x5,kG),(iX iB x6,kG),(iX iB x7,kG)],kV (Ad.b (ad2 0)) l none,jG b0_0 27 [(lA none 0 0,kG),(iX iB (0:Int),kG),(iX iB (0:Int),kG),(iX iB (0:Int),kG),(iX iB (0:Int),kG),(iX iB (0:Int),kG),(iX iB (0:Int),kG),(iX iB (0:Int),kG),(iX iB (0:Int),kG)],jG b2_0 58 [(lB (some (Ad.b (ad2 0))),lE 1 mO)]]))))):=by
 kernel_rfl
theorem ApP (R':Value→Pr→List (Chunk Sg)→Prop) (S0:List Ab→List (Chunk Sg)→Prop) (o b z bb:Nat) (l l':List BB) (a:Option Nat) (cap:Nat) (t p h x0 x1 x2 x3 x4 x5 x6 x7:Int):
 (run Try.prog II [2999998] 100 (AY Try.f12) Try.f12.results.toList Try.f12.ntmps [.ops [0,1,1] 6, .code [1,1,1]] [⟨13,none,Bi a l'.length cap, .pt 4 .slice⟩,⟨0,none, .pointer (some ⟨o,0,none⟩), .pt 0 (.cell 0)⟩,⟨2,none, .pointer (some ⟨z,0,none⟩), .pt 2 (.cell 0)⟩] (sK1 o b z bb l t p h x0 x1 x2 x3 x4 x5 x6 x7++[rowB a cap l'])).holds R' (λtd L K=>S0 td K)=
 (R' (Value.agg ⟨[lA (mG (λb=>⟨b,0,none⟩) a) (iN l') cap,iX iB x0,iX iB x1,iX iB x2,iX iB x3,iX iB x4,iX iB x5,iX iB x6,iX iB x7]⟩) (Pr.many [lE 4 oI,kG,kG,kG,kG,kG,kG,kG,kG]) ([jG o 60 [(iX iB t,kG),(iX iB p,kG),(iX iB h,kG),(lB (some b),lE 1 mO),(iX iB x0,kG),(iX iB x1,kG),(iX iB x2,kG),(iX iB x3,kG),(iX iB x4,kG),(iX iB x5,kG),(iX iB x6,kG),(iX iB x7,kG)],kV b l none,jG z 27 [(lA (mG (λb=>⟨b,0,none⟩) a) (iN l') cap,lE 4 oI),(iX iB x0,kG),(iX iB x1,kG),(iX iB x2,kG),(iX iB x3,kG),(iX iB x4,kG),(iX iB x5,kG),(iX iB x6,kG),(iX iB x7,kG)],jG bb 58 [(lB (some b),lE 1 mO)],kY a 55 (iN l') cap [Au.ints iB (mT (λx=>x.1) l'),Au.ints iB (mT (λx=>x.2) l')]])):=by
 kernel_rfl
theorem V9:∀(l:Bs) (b:Int×Int),(insL l b).Perm (b::l)
 |[],b=>oH _
 |x::r,b=>by
  unfold insL
  cases decide (x.1>b.1) with
  |true=>exact oH _
  |false=>exact ((V9 r b).cons x).trans (List.Perm.swap b x r)
theorem AhL:∀(l:Bs) (b:Int×Int),LG l→LG (insL l b)
 |[],b,_=>List.pairwise_singleton _ _
 |x::r,b,h=>by
  obtain ⟨h1,h2⟩:=List.pairwise_cons.1 h
  unfold insL
  cases hx:decide (x.1>b.1) with
  |true=>
   have hx:=of_decide_eq_true hx
   refine List.pairwise_cons.2 ⟨λy hy=>?_,h⟩
   rcases iF.1 hy with rfl|hy
   ·show b.1≤y.1;omega
   ·have:=h1 y hy;show b.1≤y.1;omega
  |false=>
   have hx:=of_decide_eq_false hx
   refine List.pairwise_cons.2 ⟨λy hy=>?_,AhL r b h2⟩
   rcases iF.1 ((V9 r b).mem_iff.1 hy) with rfl|hy
   ·show x.1≤y.1;omega
   ·exact h1 y hy
theorem mem3 {a b c:Aj} {L:List Aj} (ha:a∈L) (hb:b∈L) (hc:c∈L):∀e∈[a,b,c],e∈L:= λe he=>by
 simp only [iF,jF,or_false] at he
 rcases he with rfl|rfl|rfl
 ·exact ha
 ·exact hb
 ·exact hc
theorem Adp (l:Bs):(CZ l).Perm l∧LG (CZ l):=by
 have key:∀(l a:Bs),LG a→(l.foldl insL a).Perm (a++l)∧LG (l.foldl insL a):=by
  intro l
  induction l with
  |nil=>intro a ha;exact ⟨by simp,ha⟩
  |cons x l ih=>
   intro a ha
   obtain ⟨h1,h2⟩:=ih (insL a x) (AhL a x ha)
   refine ⟨h1.trans ?_,h2⟩
   exact ((V9 a x).append_right l).trans List.perm_middle.symm
 have h:=key l [] List.Pairwise.nil
 exact ⟨h.1,h.2⟩
theorem AkG:∀{l:Bs},BZ l→∀{x y:Int×Int},x∈l→y∈l→x.1=y.1→x=y
 |[],_,x,_,hx,_,_=>by cases hx
 |z::l,h,x,y,hx,hy,e=>by
  obtain ⟨h1,h2⟩:=lD.1 (show (z.1::l.map (·.1)).Nodup from h)
  rcases iF.1 hx with e1|hx'<;>rcases iF.1 hy with e2|hy'
  ·rw [e1,e2]
  ·subst e1;exact absurd (kK.2 ⟨y,hy',e.symm⟩) h1
  ·subst e2;exact absurd (kK.2 ⟨x,hx',e⟩) h1
  ·exact AkG h2 hx' hy' e
theorem AhM {l l':Bs} (hn:BZ l) (hp:l'.Perm l) (ho:LG l'):l'=CZ l:=by
 obtain ⟨h1,h2⟩:=Adp l
 refine List.Perm.eq_of_pairwise (le:= λx y:Int×Int=>x.1≤y.1) (λx y hx hy a b=>AkG hn (hp.mem_iff.1 hx) (h1.mem_iff.1 hy) (Int.le_antisymm a b)) ho h2 (hp.trans h1.symm)
def Hg (s:MS):LI×LI×Int×Int×Int×Int×Int×Int×Int×Int:=((CZ s.l).map (·.1),(CZ s.l).map (·.2),s.r0,s.r1,s.r2,s.r3,s.r4,s.r5,s.r6,s.r7)
def Aev:Entry Sg:=CP EN Hg (λs=>[BZ s.l,s.l.length≤1000,inB s.l])
abbrev Zj:FuncId:=12
noncomputable abbrev saB:Code:=AY Try.f12
noncomputable abbrev saN:Nat:=Try.f12.ntmps
section
variable {E:Ev} {G:Hp} {o b z bb:Nat} {l:List BB} {t p h x0 x1 x2 x3 x4 x5 x6 x7:Int} {w:World}
theorem AoN (a:Option Nat) (cap:Nat) (l':Bs):DC (sK1 o b z bb l t p h x0 x1 x2 x3 x4 x5 x6 x7++[rowB a cap l']):=PX (by simp [sK1,mC,zC,rowB,cellsAll,AV,BP,DK])
set_option maxRecDepth 100000 in
theorem AoO (hl:l.length≤1000) (hb:inB l) (hS:Af Dg E G w (sK1 o b z bb l t p h x0 x1 x2 x3 x4 x5 x6 x7)):
 Calls Try.prog Zi #[Kr bb,stV] w λen w'=>∃x:{x:List BB×Option Nat×Nat//x.1.Perm l∧LG x.1},en= .returned (Bi x.1.2.1 x.1.1.length x.1.2.2)∧Af Dg E G w' (sK1 o b z bb l t p h x0 x1 x2 x3 x4 x5 x6 x7++[rowB x.1.2.1 x.1.2.2 x.1.1]):=by
 let A:LL→Dl:= λ_ Y k=>Sl.star (([mC o b 1 t p h x0 x1 x2 x3 x4 x5 x6 x7,zC z]:List (Chunk Sg)).map (den Dg G)) Y k
 have h1:Af Dg E G w ([mC o b 1 t p h x0 x1 x2 x3 x4 x5 x6 x7,zC z]++[.bm b l none, .cells bb 58 [(.map (some b), .pt 0 .map)]]):=Af.ord Dg hS [0,2,1,3] rfl rfl
 have h2:=Af.Al8 Dg (c:= .obj ⟨0,0,none⟩ (.any A [])) h1 λY k hx=>hx
 have h3:Af Dg E G w (k0 b l bb ⟨0,0,none⟩ (.any A [])):=Af.ord Dg h2 [1,2,0] rfl rfl
 refine An6 hl hb h3 λl' a cap w' hp ho h4=>⟨⟨(l',a,cap),hp,ho⟩,rfl,?_⟩
 obtain ⟨_,h5⟩:=Af.Agw Dg (α:=Unit) (k0:= λ_=>mC o b 1 t p h x0 x1 x2 x3 x4 x5 x6 x7) (ks:= λ_=>[zC z]) h4 (k:=2) (c:= .obj ⟨0,0,none⟩ (.any A [])) rfl (by funext Y h;exact propext ⟨λh=>⟨(),h⟩, λ⟨_,h⟩=>h⟩)
 exact Af.ord Dg h5 [2,0,4,1,3] rfl rfl
set_option maxRecDepth 100000 in
theorem ApR (ad0:Ad) (hn:BZ l) {l':Bs} {a:Option Nat} {cap:Nat} (hp:l'.Perm l) (ho:LG l'):
 Sl.SW Dg Try.prog Zj (Post Dg E G (EN.outC (Hg ⟨t,p,h,l,x0,x1,x2,x3,x4,x5,x6,x7⟩)) (EN.nwC ⟨o,0,none⟩ [.st (.mod ⟨t,p,h,l,x0,x1,x2,x3,x4,x5,x6,x7⟩)] (Hg ⟨t,p,h,l,x0,x1,x2,x3,x4,x5,x6,x7⟩)) (EN.mksC (Hg ⟨t,p,h,l,x0,x1,x2,x3,x4,x5,x6,x7⟩))) saB saN E G [.ops [0,1,1] 6, .code [1,1,1]] [⟨13,none,Bi a l'.length cap, .pt 4 .slice⟩,⟨0,none, .pointer (some ⟨o,0,none⟩), .pt 0 (.cell 0)⟩,⟨2,none, .pointer (some ⟨z,0,none⟩), .pt 2 (.cell 0)⟩] (sK1 o b z bb l t p h x0 x1 x2 x3 x4 x5 x6 x7++[rowB a cap l']):=by
 refine pcF (f:=Zj) EY Try.func12 (ApP (λv p' K=>v= .agg #[Bi a l'.length cap, .int .i64 x0, .int .i64 x1, .int .i64 x2, .int .i64 x3, .int .i64 x4, .int .i64 x5, .int .i64 x6, .int .i64 x7]∧∃c2,K=[mC o b 1 t p h x0 x1 x2 x3 x4 x5 x6 x7, .bm b l none,c2, .cells bb 58 [(.map (some b), .pt 1 .map)],rowB a cap l']) (λ_ _=>False) o b z bb l l' a cap t p h x0 x1 x2 x3 x4 x5 x6 x7) (λv p' K w hv hS=>?_) (λ_ _ _ h=>False.elim h) ⟨rfl,_,rfl⟩
 obtain ⟨rfl,c2,rfl⟩:=hv
 have e:=AhM hn hp ho
 subst e
 have h1:Af Dg E G w [mC o b 1 t p h x0 x1 x2 x3 x4 x5 x6 x7, .bm b l none, .row a 55 ((CZ l).map (·.1)).length cap [.ints .i64 ((CZ l).map (·.1)), .ints .i64 ((CZ l).map (·.2))]]:=by
  rw [kC]
  exact Af.ord Dg hS [0,1,4] rfl rfl
 refine ⟨[(a,cap)],⟨trivial,trivial⟩,?_,?_⟩
 ·show _=Ending.returned (.agg #[Bi a ((CZ l).map (·.1)).length cap, .int .i64 x0, .int .i64 x1, .int .i64 x2, .int .i64 x3, .int .i64 x4, .int .i64 x5, .int .i64 x6, .int .i64 x7])
  rw [kC]
 ·have h2:Sat E G w ((Dq.bk o (λ_=>{ad0 with b:=b}) 1 [.i t, .i p, .i h, .bl l, .i x0, .i x1, .i x2, .i x3, .i x4, .i x5, .i x6, .i x7]).map (den Dg G)++[den Dg G (.row a 55 ((CZ l).map (λx:Int×Int=>x.1)).length cap [.ints .i64 ((CZ l).map (λx:Int×Int=>x.1)), .ints .i64 ((CZ l).map (λx:Int×Int=>x.2))])]):=h1
  have hR:Dq.R (⟨t,p,h,l,x0,x1,x2,x3,x4,x5,x6,x7⟩:MS) [.i t, .i p, .i h, .bl l, .i x0, .i x1, .i x2, .i x3, .i x4, .i x5, .i x6, .i x7]:=show CB (⟨t,p,h,l,x0,x1,x2,x3,x4,x5,x6,x7⟩:MS) (⟨t,p,h,l,x0,x1,x2,x3,x4,x5,x6,x7⟩:MS) from rfl
  have h2:=Bx.fold Dg Gx rfl hR h2
  exact h2
end
set_option maxRecDepth 100000 in
theorem AkH:DZ Zj Aev:=by
 refine Qa Dg (mk:=[]) EY (I:=[]) Try.func12 mix (B:=saB) (by kernel_rfl) rfl (by kernel_rfl) 0 λp0 s hbd hp ad E G=>?_
 have hp0:BZ s.l:=hp _ (.head _)
 have hp1:s.l.length≤1000:=hp _ (.tail _ (.head _))
 have hp2:inB s.l:=hp _ (.tail _ (.tail _ (.head _)))
 show Sl.SW Dg Try.prog Zj (Post Dg E G (EN.outC (Hg s)) (EN.nwC p0 [.st (.mod s)] (Hg s)) (EN.mksC (Hg s))) saB saN E G [.code []] (EN.sL p0 [.st (.mod s)] ad) (EN.sK p0 [.st (.mod s)] ad)
 refine Bx.addr Dg Gx 0 (p0:=p0) (s:=s) rfl λo e=>?_
 subst e
 refine Bx.VT Dg Gx 0 (s:=s) rfl λo' ad2 y e hfy hRy=>?_
 injection e with e;subst e
 have key:E8 (Ib Dq.l) λy=>Dq.R s y→Sl.SW Dg Try.prog Zj (Post Dg E G (EN.outC (Hg s)) (EN.nwC ⟨o,0,none⟩ [.st (.mod s)] (Hg s)) (EN.mksC (Hg s))) saB saN E G [.code []] (J9 0 (EN.sL ⟨o,0,none⟩ [.st (.mod s)] ad)) (Dq.opK 0 o ad2 y (EN.sK ⟨o,0,none⟩ [.st (.mod s)] ad)):=by
  intro t p h l x0 x1 x2 x3 x4 x5 x6 x7 hR
  have e:(⟨t,p,h,l,x0,x1,x2,x3,x4,x5,x6,x7⟩:MS)=s:=hR
  subst e
  refine pcF (f:=Zj) EY Try.func12 (An7 (λ_ _ _=>False) (λtd e12 e0 e2 K=>∃z bb,td=[.ops [0,1,1] 5, .code [1,1,1]]∧e12=some ⟨12,none,Kr bb, .many [.pt 3 (.cell 0)]⟩∧e0=some ⟨0,none, .pointer (some ⟨o,0,none⟩), .pt 0 (.cell 0)⟩∧e2=some ⟨2,none, .pointer (some ⟨z,0,none⟩), .pt 2 (.cell 0)⟩∧K=sK1 o (ad2 0).b z bb l t p h x0 x1 x2 x3 x4 x5 x6 x7) o ad ad2 _ t p h l x0 x1 x2 x3 x4 x5 x6 x7) (λ_ _ _ _ h=>False.elim h) (λtd L K hz=>?_) (λz=>⟨λh=>(by cases h), λ_ bb=>⟨z,bb,rfl,rfl,rfl,rfl,rfl⟩⟩)
  obtain ⟨z,bb,rfl,e12,e0,e2,rfl⟩:=hz
  refine Sl.SW.sub Dg (L':=[⟨12,none,Kr bb, .many [.pt 3 (.cell 0)]⟩,⟨0,none, .pointer (some ⟨o,0,none⟩), .pt 0 (.cell 0)⟩,⟨2,none, .pointer (some ⟨z,0,none⟩), .pt 2 (.cell 0)⟩]) ?_ (mem3 (Dw e12).1 (Dw e0).1 (Dw e2).1)
  refine Sl.SW.opCall Dg (α:={x:List BB×Option Nat×Nat//x.1.Perm l∧LG x.1}) (vf:= λx=>Bi x.1.2.1 x.1.1.length x.1.2.2) (pf:= λ_=> .pt 4 .slice) (Kf:= λx=>sK1 o (ad2 0).b z bb l t p h x0 x1 x2 x3 x4 x5 x6 x7++[rowB x.1.2.1 x.1.2.2 x.1.1]) (g:=Zi) rfl (by kernel_rfl) rfl (λhk x=>⟨Bj.append _ _,AoN _ _ _,?_⟩) (λw hS=>AoO hp1 hp2 hS) (λx=>?_)
  ·exact Bl.2 ⟨_,rfl,rfl⟩
  ·obtain ⟨⟨l',a,cap⟩,h1,h2⟩:=x
   dsimp only at h1 h2
   refine Sl.SW.sub Dg (L':=[⟨13,none,Bi a l'.length cap, .pt 4 .slice⟩,⟨0,none, .pointer (some ⟨o,0,none⟩), .pt 0 (.cell 0)⟩,⟨2,none, .pointer (some ⟨z,0,none⟩), .pt 2 (.cell 0)⟩]) (ApR (ad2 0) hp0 h1 h2) (mem3 (nI _) (lW _ (lW _ (nI _))) (lW _ (lW _ (lW _ (nI _)))))
 exact key.at y hfy hRy
def Aew:Tb:=(Zj,Aev)::Amc
theorem VA:DU Aew:=Ej AkH Amd
end
section
open Go.Sl
theorem ApS:(Bo ⟨1,8,10,[],0,0,0,0,0,0,0,0⟩ 1 20 0 0 1024 32&&Bo ⟨1,8,10,[],0,0,0,0,0,0,0,0⟩ 1 20 0 0 1040 32&&Bo ⟨1,8,10,[],0,0,0,0,0,0,0,0⟩ 1 20 0 3 0 0&&!Bo ⟨1,8,10,[],0,0,0,0,0,0,0,0⟩ 1 20 0 0 1024 20)=true:=by kernel_rfl
def Amq:Bool:=true
def AhN:Bool:=(let r0:MS:={t:=1,p:=8,h:=10,l:=[],r0:=0,r1:=0,r2:=0,r3:=0,r4:=0,r5:=0,r6:=0,r7:=0};(let r4:Bool:=Bo r0 1 20 0 0 1024 32;r4&&Bo r0 1 20 0 0 1040 32&&Bo r0 1 20 0 3 0 0&&!Bo r0 1 20 0 0 1024 20))
abbrev An8:Ct Sg:=⟨none,false,[], .b⟩
def Zk:Entry Sg:=CP An8 Amq ([])
theorem Amr:AhN=Amq:=by
 exact ApS
theorem Aex:DZ 7 Zk:=
 EG Dg VA (I:=[2999998]) Try.func7 mix (B:=AY Try.f7) (by kernel_rfl) rfl (by kernel_rfl) 400
  λ_ hb hp=>⟨(AhN),(.bind ({t:=1,p:=8,h:=10,l:=[],r0:=0,r1:=0,r2:=0,r3:=0,r4:=0,r5:=0,r6:=0,r7:=0}) λr0:MS=>(.need ((0:Int)=0) (.bind (Bo r0 1 20 0 0 1024 32) λr4:Bool=>(.need (BZ (MS.l r0)) (.need (r4=true→BZ (MS.l r0)) (.need ((r4&&Bo r0 1 20 0 0 1040 32)=true→BZ (MS.l r0)) (.need ((r4&&Bo r0 1 20 0 0 1040 32&&Bo r0 1 20 0 3 0 0)=true→BZ (MS.l r0)) .t))))))), λ_ _ _=>by kernel_rfl,(λr0 e0=>⟨(by first|(subst_vars;exact lJ)|(intro;subst_vars;exact lJ)|rfl), λz1=>(λr4 e4=>⟨(by first|(subst_vars;exact lJ)|(intro;subst_vars;exact lJ)|rfl), λz5=>⟨(by first|(subst_vars;exact lJ)|(intro;subst_vars;exact lJ)|rfl), λz6=>⟨(by first|(subst_vars;exact lJ)|(intro;subst_vars;exact lJ)|rfl), λz7=>⟨(by first|(subst_vars;exact lJ)|(intro;subst_vars;exact lJ)|rfl), λz8=>trivial⟩⟩⟩⟩)⟩),Amr⟩
def AhO:Tb:=(7,Zk)::Aew
theorem AiY:DU AhO:=Ej Aex VA
def AoP:Tb:=AhO
theorem AkI:DU AoP:=AiY
end
section
open Go Go.Sl
structure Rt (t p s P:Int):Prop where
 r:Ap t p s=true
 tp:1≤t∧t≤16
 pp:4≤p∧p≤1024
 ss:10≤s∧s≤20
 eP:P=2^s.toNat
 P0:1024≤P∧P≤1048576
 pg:BX t p s=P
theorem Rz {t p s:Int} (h:Ap t p s=true):Rt t p s (2^s.toNat):=by
 have h':=OL.1 h
 refine ⟨h,h'.1,h'.2.1,h'.2.2,rfl,⟨?_,?_⟩,Ao7 h⟩
 ·have:=VV (show 10≤s.toNat by omega);omega
 ·have:=VV (show s.toNat≤20 by omega);omega
theorem Jr {p P:Int} (hp:4≤p∧p≤1024) (hP:1024≤P∧P≤1048576):4096≤P*p∧P*p≤1073741824:=by
 constructor
 ·have:=Int.mul_le_mul hP.1 hp.1 (by decide) (by omega);omega
 ·have:=Int.mul_le_mul hP.2 hp.2 (by omega) (by decide);omega
theorem LH {t p s P:Int} (h:Rt t p s P):DV t p s=P*p∧Ew t p s=P*p:=by
 have:=Jr h.pp h.P0
 unfold DV Ew
 rw [Jp,h.pg,h.r,Ic (by omega)]
 exact ⟨rfl,rfl⟩
theorem VB {t p s:Int} (h:Ap t p s=false):DV t p s=0∧Ew t p s=0:=by
 unfold DV Ew
 rw [Jp,AdN h,h,Int.zero_mul]
 exact ⟨rfl,rfl⟩
theorem An9 {t p s P:Int} (h:Rt t p s P):Eu t p s=0:=by rw [JP,h.r];rfl
theorem Ams {t p s:Int} (h:Ap t p s=false):Eu t p s=1:=by rw [JP,h];rfl
theorem AnA {t p s P z:Int} (h:Rt t p s P) (hz:1≤z∧z≤P*p):GL t p s z=((z-1)/P+1,true)∧GU t p s z=((z-1)/P+1,true):=by
 have hm:=Jr h.pp h.P0
 have hP0:=h.P0
 have hss:=h.ss
 have e1:Int.fdiv (z-1) P=(z-1)/P:=Int.fdiv_eq_ediv_of_nonneg _ (by omega)
 have e2:Int.tdiv z P=z/P:=Int.tdiv_eq_ediv_of_nonneg (by omega)
 have e3:Int.tmod z P=z%P:=Int.tmod_eq_emod_of_nonneg (by omega)
 have h4:=Int.emod_nonneg z (show P≠0 by omega)
 have h5:=Int.emod_lt_of_pos z (show 0<P by omega)
 have h6:=Int.mul_ediv_add_emod z P
 have h7:0≤z/P:=Int.ediv_nonneg (by omega) (by omega)
 have h8:z/P≤z:=Int.ediv_le_self _ (by omega)
 have key:(z-1)/P+1=if 0<z%P then z/P+1 else z/P:=by
  split
  ·congr 1
   have e:z-1=P*(z/P)+(z%P-1):=by omega
   rw [e,Int.mul_add_ediv_left _ _ (by omega),Int.ediv_eq_zero_of_lt (a:=z%P-1) (by omega) (by omega)];omega
  ·have e:z-1=P*(z/P-1)+(P-1):=by rw [Int.mul_sub];omega
   rw [e,Int.mul_add_ediv_left _ _ (by omega),Int.ediv_eq_zero_of_lt (a:=P-1) (by omega) (by omega)];omega
 have hk1:0≤(z-1)/P:=Int.ediv_nonneg (by omega) (by omega)
 have hk2:(z-1)/P≤z-1:=Int.ediv_le_self _ (by omega)
 constructor
 ·have hc:(decide (z<1)||decide (z>DV t p s))=false:=by
   rw [(LH h).1];simp;omega
  unfold GL
  rw [hc]
  simp only [cond_false]
  rw [show min s.toNat 64=s.toNat by omega,←h.eP,Ic (n:=z-1) (by omega),e1,Ic (by omega)]
 ·have hc:(!Ap t p s||decide (z<1)||decide (z>Ew t p s))=false:=by
   rw [(LH h).2,h.r];simp;omega
  unfold GU
  rw [hc]
  simp only [cond_false]
  rw [h.pg,e2,e3,key,Ic (n:=z/P) (by omega),Ic (n:=z/P+1) (by omega)]
  by_cases hg:0<z%P
  ·simp [hg]
  ·simp [hg]
theorem Amt {t p s z:Int} (h:¬(Ap t p s=true∧1≤z∧z≤Ew t p s)):GL t p s z=(0,false)∧GU t p s z=(0,false):=by
 have hb:DV t p s=Ew t p s:=by
  cases hr:Ap t p s with
  |false=>rw [(VB hr).1,(VB hr).2]
  |true=>rw [(LH (Rz hr)).1,(LH (Rz hr)).2]
 have hz:Ap t p s=false→Ew t p s=0:= λhr=>(VB hr).2
 constructor
 ·have hc:(decide (z<1)||decide (z>DV t p s))=true:=by
   rw [hb]
   simp only [lS,decide_eq_true_eq]
   cases hr:Ap t p s with
   |false=>have:=hz hr;omega
   |true=>have:¬(1≤z∧z≤Ew t p s):= λh'=>h ⟨hr,h'⟩
          omega
  unfold GL
  rw [hc];rfl
 ·have hc:(!Ap t p s||decide (z<1)||decide (z>Ew t p s))=true:=by
   cases hr:Ap t p s with
   |false=>simp
   |true=>have:¬(1≤z∧z≤Ew t p s):= λh'=>h ⟨hr,h'⟩
          simp only [jW,jX,lS,decide_eq_true_eq];omega
  unfold GU
  rw [hc];rfl
theorem AnB (t p s z:Int):GL t p s z=GU t p s z:=by
 by_cases h:Ap t p s=true∧1≤z∧z≤Ew t p s
 ·have hr:=Rz h.1
  rw [(LH hr).2] at h
  obtain ⟨a,b⟩:=AnA hr h.2
  rw [a,b]
 ·obtain ⟨a,b⟩:=Amt h
  rw [a,b]
theorem AkJ (s:Int):Gu s=ED s:=by
 simp only [Gu,ED,AdK]
theorem AoQ (s z:Int):L8 s z=IQ s z:=by
 unfold L8 IQ
 cases hz:decide (z<1) with
 |true=>rfl
 |false=>
  simp only [cond_false,Hf,AkJ]
  cases hf:Lu (ED s) z with
  |none=>rfl
  |some k=>
   have h0:¬((0:Int)>KP (some k)):=by simp only [KP];omega
   rw [if_neg h0]
   simp [KP,Afw]
theorem Yi (k a b:Int):Iq k a b=Dk k a b:=by
 by_cases hk:k=1∨k=2∨k=3∨k=4∨k=5∨k=6∨k=7∨k=8∨k=9
 ·rcases hk with rfl|rfl|rfl|rfl|rfl|rfl|rfl|rfl|rfl<;>simp [Iq,Dk,Jq]<;>(cases h:a==0<;>simp [bne,h])
 ·have h1:(k==1)=false:=by simp;omega
  have h2:(k==2)=false:=by simp;omega
  have h3:(k==3)=false:=by simp;omega
  have h4:(k==4)=false:=by simp;omega
  have h5:(k==5)=false:=by simp;omega
  have h6:(k==6)=false:=by simp;omega
  have h7:(k==7)=false:=by simp;omega
  have h8:(k==8)=false:=by simp;omega
  have h9:(k==9)=false:=by simp;omega
  simp [Iq,Dk,Jq,h1,h2,h3,h4,h5,h6,h7,h8,h9]
theorem RD (t p h z:Int):Az t p h z=BR t p h z:=by
 unfold Az BR
 rw [AnB,AoQ,AdK,Jp]
 have e:(!(GU t p h z).2)=(!Ap t p h||decide (z<1)||decide (z>Ew t p h)):=by
  unfold GU
  cases (!Ap t p h||decide (z<1)||decide (z>Ew t p h)) with
  |true=>rfl
  |false=>simp only [cond_false];cases decide (Int.tmod z (BX t p h)>0)<;>rfl
 rw [e]
end
section
open Go Go.Sl
theorem Amu {t p h a z:Int} (hr:Ap t p h=true):JY t p h a z=true↔1≤z∧(2:Int)^h.toNat≤a∧a+z≤(2:Int)^h.toNat+(2:Int)^h.toNat*p:=by
 have h1:=Rz hr
 have h2:=Jr h1.pp h1.P0
 have h3:=h1.P0
 unfold JY
 rw [Jp,h1.pg,(LH h1).1]
 generalize (2:Int)^h.toNat=P at*
 generalize P*p=B at*
 simp only [iG,decide_eq_true_eq]
 constructor
 ·rintro ⟨⟨⟨g1,g2⟩,g3⟩,g4⟩
  rw [Ic (n:=P+B) (by omega),Ic (n:=P+B-z) (by omega)] at g4
  omega
 ·rintro ⟨g1,g2,g3⟩
  rw [Ic (n:=P+B) (by omega),Ic (n:=P+B-z) (by omega)]
  omega
theorem AoR {t p h a z:Int} (hr:Ap t p h=true):Tf t p h a z=true↔1≤z∧(2:Int)^h.toNat≤a∧a+z≤(2:Int)^h.toNat+(2:Int)^h.toNat*p:=by
 have h1:=Rz hr
 have h2:=Jr h1.pp h1.P0
 have h3:=h1.P0
 have h4:=h1.pp
 unfold Tf Ank
 rw [h1.pg,Ic (n:=p+1) (by omega),show (2:Int)^h.toNat*(p+1)=2^h.toNat*p+2^h.toNat by rw [Int.mul_add,Int.mul_one]]
 generalize (2:Int)^h.toNat=P at*
 generalize P*p=B at*
 rw [Ic (n:=B+P) (by omega)]
 simp only [iG,decide_eq_true_eq]
 constructor
 ·rintro ⟨⟨⟨g1,g2⟩,g3⟩,g4⟩
  rw [Ic (n:=B+P-a) (by omega)] at g4
  omega
 ·rintro ⟨g1,g2,g3⟩
  rw [Ic (n:=B+P-a) (by omega)]
  omega
theorem Aqr {t p h a z:Int} (hr:Ap t p h=true):Tf t p h a z=JY t p h a z:=by
 rw [mP,Amu hr,AoR hr]
theorem in_lt {t p h a z:Int} (hr:Ap t p h=true) (hi:JY t p h a z=true):1≤z∧1024≤a∧a+z≤1075838976:=by
 have h1:=Rz hr
 have h2:=Jr h1.pp h1.P0
 have h3:=h1.P0
 have:=(Amu hr).1 hi
 omega
theorem AnC {t p h:Int} (hr:Ap t p h=true) {x y:Int×Int} (hx:JY t p h x.1 x.2=true) (hy:JY t p h y.1 y.2=true):DY x.1 x.2 y.1 y.2=true↔x.1<y.1+y.2∧y.1<x.1+x.2:=by
 have h1:=in_lt hr hx
 have h2:=in_lt hr hy
 unfold DY
 rw [Ic (n:=y.1+y.2) (by omega),Ic (n:=x.1+x.2) (by omega)]
 simp only [iG,decide_eq_true_eq]
theorem Adq {l:Bs} {x:Int×Int} (h:x ∉ l):F8 l x=l++[x]:=by
 unfold F8 Ku
 have:l.any (MZ x)=false:=by
  rw [List.any_eq_false]
  intro y hy e
  rw [Jy] at e
  exact h (e▸hy)
 rw [this];rfl
theorem NC {l:Bs} {x y:Int×Int}:y∈FY l x↔y∈l∧y≠x:=by
 unfold FY
 rw [lZ]
 constructor
 ·rintro ⟨h1,h2⟩
  refine ⟨h1, λe=>?_⟩
  rw [(Jy).2 e.symm] at h2;cases h2
 ·rintro ⟨h1,h2⟩
  refine ⟨h1,?_⟩
  cases he:MZ x y with
  |false=>rfl
  |true=>exact absurd (Jy.1 he).symm h2
theorem Adr (l:Bs) (x:Int×Int):(FY l x).Sublist l:=List.filter_sublist
theorem Amv {l:Bs} (h:BZ l) (x:Int×Int):BZ (FY l x):=List.Nodup.sublist ((Adr l x).map _) h
theorem ApT {l:Bs} (h:BZ l) {x:Int×Int} (hx:∀y∈l,y.1≠x.1):BZ (F8 l x):=by
 rw [Adq (λhm=>hx x hm rfl)]
 unfold BZ
 rw [jD,List.nodup_append]
 refine ⟨h,by simp, λa ha b hb=>?_⟩
 obtain ⟨y,hy,rfl⟩:=kK.1 ha
 simp only [iD,kB,jR] at hb
 subst hb
 exact hx y hy
theorem AqG {l:Bs} (h:BZ l):l.Nodup:=(List.pairwise_map.1 h).imp λhne e=>hne (congrArg _ e)
theorem Kt (l:Bs):(CZ l).Perm l:=(Adp l).1
theorem ApU {l:Bs} {x:Int×Int} (h:x ∉ l):CZ (F8 l x)=insL (CZ l) x:=by rw [Adq h,Amb]
theorem Aod {l:Bs} (h:BZ l):(CZ l).Nodup:=(Kt l).nodup_iff.2 (AqG h)
theorem ApV {l:Bs} {i:Nat} (h:i<(CZ l).length):((CZ l).map (·.1)).getD i 0=((CZ l)[i]).1∧((CZ l).map (·.2)).getD i 0=((CZ l)[i]).2:=by
 simp [iC,iL,iK h]
theorem Zl {l:Bs} (hn:BZ l) {a:Int} (h:(atR l a).2.2=true):∃x:Int×Int,x∈l∧x.1=a∧atR l a=(x.1,x.2,true)∧0≤CY ((CZ l).map (·.1)) a∧(CZ l)[(CY ((CZ l).map (·.1)) a).toNat]? =some x:=by
 unfold atR at h ⊢
 obtain ⟨x,hx⟩:=Option.isSome_iff_exists.1 h
 have hm:=List.mem_of_find?_eq_some hx
 have he:x.1=a:=by simpa using List.find?_some hx
 rw [hx]
 refine ⟨x,hm,he,rfl,?_⟩
 have hs:x∈CZ l:=(Kt l).mem_iff.2 hm
 cases hf:((CZ l).map (·.1)).findIdx? (· ==a) with
 |none=>
  rw [mN] at hf
  have:=hf x.1 (kK.2 ⟨x,hs,rfl⟩)
  simp [he] at this
 |some i=>
  have e:CY ((CZ l).map (·.1)) a=(i:Int):=by unfold CY;rw [hf]
  rw [e]
  rw [lN] at hf
  obtain ⟨hi,h1,_⟩:=hf
  refine ⟨by omega,?_⟩
  have hi':i<(CZ l).length:=by simpa using hi
  rw [show ((i:Int)).toNat=i by omega,iK hi']
  congr 1
  have h2:((CZ l)[i]).1=a:=by simpa using h1
  exact AkG hn ((Kt l).mem_iff.1 (nT _)) hm (by rw [h2,he])
theorem AqH {l:Bs} {a:Int} (h:(atR l a).2.2=false):(∀x∈l,x.1≠a)∧atR l a=(0,0,false)∧CY ((CZ l).map (·.1)) a= -1:=by
 unfold atR at h ⊢
 have hn:OW l a=none:=by cases hb:OW l a with
  |none=>rfl
  |some x=>rw [hb] at h;cases h
 have h1:∀x∈l,x.1≠a:= λx hx e=>by
  have:=List.find?_eq_none.1 hn x hx
  simp [e] at this
 refine ⟨h1,by rw [hn];rfl,?_⟩
 have:((CZ l).map (·.1)).findIdx? (· ==a)=none:=by
  rw [mN]
  intro y hy
  obtain ⟨x,hx,rfl⟩:=kK.1 hy
  have:=h1 x ((Kt l).mem_iff.1 hx)
  simpa using this
 unfold CY;rw [this]
theorem ApW {l:Bs} (hn:BZ l) {a:Int} (h:(atR l a).2.2=true):CZ (FY l ((atR l a).1,(atR l a).2.1))=(CZ l).eraseIdx (CY ((CZ l).map (·.1)) a).toNat:=by
 obtain ⟨x,hx,he,e1,_,hi⟩:=Zl hn h
 rw [e1]
 generalize (CY ((CZ l).map (·.1)) a).toNat=i at hi
 obtain ⟨hlt,hi⟩:=nV.1 hi
 have e:(CZ l).eraseIdx i=FY (CZ l) x:=(NQ (Aod hn) (nV.2 ⟨hlt,hi⟩)).symm
 refine (AhM (Amv hn _) ?_ ?_).symm
 ·rw [e];exact (Kt l).filter _
 ·exact List.Pairwise.sublist (mL _ _) (Adp l).2
structure MI (s:MS):Prop where
 c:Ap s.t s.p s.h=true
 nd:BZ s.l
 inn:∀x∈s.l,JY s.t s.p s.h x.1 x.2=true
 ap:∀x∈s.l,∀y∈s.l,x≠y→DY x.1 x.2 y.1 y.2=false
 rt:∀r∈[s.r0,s.r1,s.r2,s.r3,s.r4,s.r5,s.r6,s.r7],r≠0→∃x∈s.l,x.1=r
def toR (s:MS):RS:=⟨s.t,s.p,s.h,(CZ s.l).map (·.1),(CZ s.l).map (·.2),s.r0,s.r1,s.r2,s.r3,s.r4,s.r5,s.r6,s.r7⟩
theorem Aj9 {x b u:Int×Int}:okB x b u=true↔(x=u∨DY x.1 x.2 b.1 b.2=false):=by
 unfold okB
 have e:(x.1==u.1&&(x.2==u.2&&true))=true↔x=u:=by
  obtain ⟨a,b⟩:=x;obtain ⟨c,d⟩:=u
  simp
 cases hx:(x.1==u.1&&(x.2==u.2&&true)) with
 |true=>simp [e.1 hx]
 |false=>
  have:¬x=u:= λh=>by rw [e.2 h] at hx;cases hx
  simp [this]
def AnD (l:Bs) (w:Int) (u:Int×Int):Prop:=(w= -1∧u=(0,0))∨(0≤w∧(CZ l)[w.toNat]? =some u)
theorem Aqs {s:MS} (hI:MI s) {a z w:Int} {u:Int×Int} (hw:AnD s.l w u):XP (toR s) a z w=EQ s a z u.1 u.2:=by
 unfold XP EQ
 rw [show Tf (toR s).t (toR s).p (toR s).h a z=JY s.t s.p s.h a z from Aqr hI.c]
 congr 1
 rw [mP,jN,jN]
 have hlen:(toR s).a.length=(CZ s.l).length:=by show ((CZ s.l).map _).length=_;simp
 have key:∀(j:Nat) (hj:j<(CZ s.l).length),(!fcR (toR s) a z w j)=true↔okB ((CZ s.l)[j]) (a,z) u=true:=by
  intro j hj
  obtain ⟨e1,e2⟩:=ApV hj
  rw [Aj9]
  unfold fcR DY
  rw [show (toR s).a.getD j 0=((CZ s.l)[j]).1 from e1,show (toR s).z.getD j 0=((CZ s.l)[j]).2 from e2]
  have hne:((j:Int) !=w)=true↔(CZ s.l)[j]≠u:=by
   rw [bne_iff_ne]
   rcases hw with ⟨rfl,rfl⟩|⟨h0,hw⟩
   ·constructor
    ·intro _ e
     have hm:=hI.inn _ ((Kt s.l).mem_iff.1 (nT hj))
     have:=in_lt hI.c hm
     rw [e] at this
     exact absurd this.1 (by decide)
    ·intro _;omega
   ·obtain ⟨hlt,hw⟩:=nV.1 hw
    constructor
    ·intro h e
     have:=(List.getElem_inj (Aod hI.nd)).1 (e.trans hw.symm)
     omega
    ·intro h e
     apply h
     have e3:j=w.toNat:=by omega
     subst e3
     exact hw
  cases hb:((j:Int) !=w) with
  |true=>
   have h1:=hne.1 hb
   simp only [oA,kW,h1,false_or]
  |false=>
   have h1:(CZ s.l)[j]=u:=Classical.byContradiction λh=>by rw [hne.2 h] at hb;cases hb
   simp [h1]
 constructor
 ·intro h x hx
  obtain ⟨j,hj,rfl⟩:=List.getElem_of_mem ((Kt s.l).mem_iff.2 hx)
  exact (key j hj).1 (h j (by rw [hlen];exact kS.2 hj))
 ·intro h j hj
  have hj:j<(CZ s.l).length:=by rw [hlen] at hj;exact kS.1 hj
  exact (key j hj).2 (h _ ((Kt s.l).mem_iff.1 (nT hj)))
end
section
open Go Go.Sl
theorem Hl (c e u v:Int):BG c e u v=BM c e u v:=by
 unfold BG BM
 simp only [Bool.and_true,Bool.and_assoc]
theorem AbK (e u v o x:Int):(e==0&&(u==o&&(v==x&&true)))=Em e u v o x:=by
 unfold Em
 simp only [Bool.and_true,Bool.and_assoc]
theorem We {c e u v:Int} (h:BM c e u v=true):e=c:=by
 unfold BM at h
 simp only [iG,beq_iff_eq] at h
 exact h.1.1
theorem AhP {c:Int} (hc:c≠0) (e u v n:Int):(BM c e u v&&Fz e u v n)=BM c e u v:=by
 cases h:BM c e u v with
 |false=>rfl
 |true=>
  have:=We h
  unfold Fz
  have h1:(e !=0)=true:=by rw [bne_iff_ne];omega
  rw [h1];rfl
theorem Wh {s:MS} (hI:MI s) {w:Int} {o:Int×Int} (hw:AnD s.l w o) (z e u v n:Int):(ET (toR s) z e u v w&&Fz e u v n)=ER s z e u v n o.1 o.2:=by
 unfold ET ER
 rw [show BR (toR s).t (toR s).p (toR s).h z=Az s.t s.p s.h z from (RD _ _ _ _).symm]
 cases h2:(Az s.t s.p s.h z).2 with
 |false=>
  simp only [lX,cond_true]
  rw [Hl];exact AhP (by decide) _ _ _ _
 |true=>
  simp only [jW,cond_false]
  rw [Aqs hI hw]
  cases he:(e !=0) with
  |true=>
   have h0:(e==0)=false:=by rw [bne_iff_ne] at he;simpa using he
   rw [h0,Bool.false_and,Bool.or_false,cond_true,Hl]
   exact AhP (by decide) _ _ _ _
  |false=>
   have h0:e=0:=by simpa using he
   subst h0
   have h3:BM 3 0 u v=false:=by
    cases h:BM 3 0 u v with
    |false=>rfl
    |true=>have:=We h;omega
   rw [h3,cond_false]
   unfold Fz
   simp only [jX,bne_self_eq_false]
   rw [Bool.and_comm];rfl
theorem AhQ (l:Bs):AnD l (-1) (0,0):= .inl ⟨rfl,rfl⟩
theorem Ads (s:MS) (a:Int):Hw s a=bif decide (a<0)||decide (a>7) then (0,false) else (Ot (toR s) a,true):=by
 unfold Hw
 have e:(decide (a<0)||decide (a≥8))=(decide (a<0)||decide (a>7)):=rfl
 rw [e];rfl
theorem AoS (s:MS) (a:Int):[s.r0,s.r1,s.r2,s.r3,s.r4,s.r5,s.r6,s.r7].contains a=ES (toR s) a:=by
 unfold ES
 show _=[s.r0,s.r1,s.r2,s.r3,s.r4,s.r5,s.r6,s.r7].any (· ==a)
 rw [mP,lF]
 simp only [List.contains_iff_mem,beq_iff_eq,exists_eq_right]
theorem AhR {k a c:Int} (hk:¬(k=1∨k=2∨k=3∨k=4∨k=5∨k=6∨k=7∨k=8∨k=9)):Dk k a c=false:=by
 have h1:(k==1)=false:=by simp;omega
 have h2:(k==2)=false:=by simp;omega
 have h3:(k==3)=false:=by simp;omega
 have h4:(k==4)=false:=by simp;omega
 have h5:(k==5)=false:=by simp;omega
 have h6:(k==6)=false:=by simp;omega
 have h7:(k==7)=false:=by simp;omega
 have h8:(k==8)=false:=by simp;omega
 have h9:(k==9)=false:=by simp;omega
 simp [Dk,Jq,h1,h2,h3,h4,h5,h6,h7,h8,h9]
theorem AbL {s:MS} (hI:MI s) (a:Int):decide (CY (toR s).a a<0)=!(atR s.l a).2.2:=by
 cases h:(atR s.l a).2.2 with
 |true=>
  obtain ⟨x,_,_,_,h1,_⟩:=Zl hI.nd h
  exact decide_eq_false (by show ¬CY ((CZ s.l).map (·.1)) a<0;omega)
 |false=>
  obtain ⟨_,_,h1⟩:=AqH h
  exact decide_eq_true (by show CY ((CZ s.l).map (·.1)) a<0;omega)
theorem AjA {s:MS} (hI:MI s) {a:Int} (h:(atR s.l a).2.2=true):(toR s).z.getD (CY (toR s).a a).toNat 0=(atR s.l a).2.1:=by
 obtain ⟨x,_,_,e,_,h2⟩:=Zl hI.nd h
 show ((CZ s.l).map (·.2)).getD (CY ((CZ s.l).map (·.1)) a).toNat 0=_
 rw [e,iC,iL,h2];rfl
theorem len_eq (s:MS):(toR s).a.length=s.l.length:=by show ((CZ s.l).map _).length=_;rw [kC,Ant]
theorem Amw {s:MS} (hI:MI s) (k a c e u v:Int):Bo s k a c e u v=Bc (toR s) k a c e u v:=by
 unfold Bo Bc
 rw [Yi,Hl]
 cases hr:Dk k a c with
 |false=>rfl
 |true=>
  simp only [jW,cond_false]
  have hk:k=1∨k=2∨k=3∨k=4∨k=5∨k=6∨k=7∨k=8∨k=9:=Classical.byContradiction λhk=>by rw [AhR hk] at hr;cases hr
  rcases hk with rfl|rfl|rfl|rfl|rfl|rfl|rfl|rfl|rfl
  ·show I8 s 1 a c e u v=(ET (toR s) a e u v (-1)&&Fz e u v (BR (toR s).t (toR s).p (toR s).h a).1)
   rw [Wh hI (AhQ _),show BR (toR s).t (toR s).p (toR s).h a=Az s.t s.p s.h a from (RD _ _ _ _).symm];rfl
  ·show Ig s 2 a c e u v=bif decide (CY (toR s).a a<0) then BM 4 e u v else bif ES (toR s) a then BM 6 e u v else Em e u v ((toR s).z.getD (CY (toR s).a a).toNat 0) 0
   unfold Ig Ahb
   rw [AbL hI,AoS,Hl,Hl,AbK]
   cases h:(atR s.l a).2.2 with
   |false=>rfl
   |true=>rw [AjA hI h]
  ·show Fa s 3 a c e u v=bif decide (CY (toR s).a a<0) then BM 4 e u v else bif u==a then ET (toR s) c e u v (CY (toR s).a a)&&Fz e u v (BR (toR s).t (toR s).p (toR s).h c).1 else ET (toR s) c e u v (-1)&&Fz e u v (BR (toR s).t (toR s).p (toR s).h c).1
   unfold Fa
   rw [AbL hI,Hl]
   cases h:(atR s.l a).2.2 with
   |false=>rfl
   |true=>
    simp only [jW,cond_false]
    rw [Wh hI (AhQ _),show BR (toR s).t (toR s).p (toR s).h c=Az s.t s.p s.h c from (RD _ _ _ _).symm]
    cases hu:(u==a) with
    |true=>
     have hu':u=a:=by simpa using hu
     subst hu'
     obtain ⟨x,_,_,e1,h1,h2⟩:=Zl hI.nd h
     rw [Wh hI (w:=CY (toR s).a u) (o:=x) (.inr ⟨h1,h2⟩),e1]
     simp only [bne_self_eq_false,cond_false,cond_true]
    |false=>
     have hu':(u !=a)=true:=by simp only [bne,hu,lX]
     rw [hu']
     simp only [cond_true,cond_false]
  ·show Fj s 4 a c e u v=bif decide (a<0)||decide (a>7) then BM 5 e u v else ET (toR s) c e u v (-1)&&Fz e u v (Ot (toR s) a)
   unfold Fj
   rw [Ads,Hl,Wh hI (AhQ _)]
   cases (decide (a<0)||decide (a>7))<;>rfl
  ·show GX s 5 a c e u v=bif decide (a<0)||decide (a>7) then BM 5 e u v else bif c !=0&&decide (CY (toR s).a c<0) then BM 4 e u v else Em e u v c (Ot (toR s) a)
   unfold GX
   simp only [Ads,Hl,AbL hI]
   cases (decide (a<0)||decide (a>7)) with
   |true=>rfl
   |false=>
    simp only [cond_false,jW]
    rw [AbK]
  ·show JZ s 6 a c e u v=bif decide (a<0)||decide (a>7) then BM 5 e u v else Em e u v (Ot (toR s) a) 0
   unfold JZ
   simp only [Ads,Hl]
   cases (decide (a<0)||decide (a>7)) with
   |true=>rfl
   |false=>
    simp only [cond_false,jW]
    rw [AbK]
  ·show L9 s 7 a c e u v=bif decide (CY (toR s).a a<0) then BM 4 e u v else Em e u v ((toR s).z.getD (CY (toR s).a a).toNat 0) 0
   unfold L9
   simp only [AbL hI,Hl]
   cases h:(atR s.l a).2.2 with
   |false=>rfl
   |true=>rw [AjA hI h];simp only [jW,cond_false];rw [AbK]
  ·show I7 s 8 a c e u v=(e==0&&decide (u≥0)&&decide (u≤s.p)&&v==((toR s).a.length:Int))
   rw [len_eq];rfl
  ·show H8 s 9 a c e u v=bif decide (a<0)||decide (a>8) then BM 7 e u v else e==0&&decide (u≥0)&&decide (u≤4)&&v==0
   unfold H8
   have e9:(decide (a<0)||decide (a≥9))=(decide (a<0)||decide (a>8)):=rfl
   rw [e9,Hl]
end
section
open Go Go.Sl
theorem Amx (a z b y:Int):DY a z b y=DY b y a z:=by unfold DY;exact Bool.and_comm _ _
structure BLI (t p h:Int) (l:Bs):Prop where
 nd:BZ l
 inn:∀x∈l,JY t p h x.1 x.2=true
 ap:∀x∈l,∀y∈l,x≠y→DY x.1 x.2 y.1 y.2=false
theorem MI.li {s:MS} (h:MI s):BLI s.t s.p s.h s.l:=⟨h.nd,h.inn,h.ap⟩
theorem BLI.del {t p h:Int} {l:Bs} (hl:BLI t p h l) (x:Int×Int):BLI t p h (FY l x):=
 ⟨Amv hl.nd x, λy hy=>hl.inn y (NC.1 hy).1, λy hy z hz=>hl.ap y (NC.1 hy).1 z (NC.1 hz).1⟩
theorem BLI.new {t p h:Int} {l:Bs} (hr:Ap t p h=true) (hl:BLI t p h l) {b:Int×Int} (hb:JY t p h b.1 b.2=true) (hm:∀x∈l,DY x.1 x.2 b.1 b.2=false):(∀x∈l,x.1≠b.1):=by
 intro x hx e
 have h1:=in_lt hr (hl.inn x hx)
 have h2:=in_lt hr hb
 have h3:=(AnC hr (hl.inn x hx) hb).2 ⟨by omega,by omega⟩
 rw [hm x hx] at h3;cases h3
theorem BLI.add {t p h:Int} {l:Bs} (hr:Ap t p h=true) (hl:BLI t p h l) {b:Int×Int} (hb:JY t p h b.1 b.2=true) (hm:∀x∈l,DY x.1 x.2 b.1 b.2=false):
 BLI t p h (F8 l b)∧F8 l b=l++[b]∧CZ (F8 l b)=insL (CZ l) b:=by
 have h1:=hl.new hr hb hm
 have h2:b ∉ l:= λh=>h1 b h rfl
 have e:=Adq h2
 refine ⟨⟨ApT hl.nd h1,?_,?_⟩,e,ApU h2⟩
 ·rw [e];intro x hx
  rcases lR.1 hx with hx|hx
  ·exact hl.inn x hx
  ·rw [jR.1 hx];exact hb
 ·rw [e];intro x hx y hy hne
  rcases lR.1 hx with hx|hx<;>rcases lR.1 hy with hy|hy
  ·exact hl.ap x hx y hy hne
  ·rw [jR.1 hy];exact hm x hx
  ·rw [jR.1 hx,Amx];exact hm y hy
  ·rw [jR.1 hx,jR.1 hy] at hne;exact absurd rfl hne
def PD (l:Bs) (r:Int):Prop:=r≠0→∃x∈l,x.1=r
theorem Amy {l:Bs} {b:Bool} {x y:Int} (hx:PD l x) (hy:PD l y):PD l (bif b then x else y):=by cases b<;>assumption
theorem Amz {l l':Bs} {r:Int} (h:∀x∈l,x∈l') (hr:PD l r):PD l' r:= λhn=>let ⟨x,hx,e⟩:=hr hn;⟨x,h x hx,e⟩
theorem Aoe {l:Bs} {r:Int} {x:Int×Int} (hx:x∈l) (e:x.1=r):PD l r:= λ_=>⟨x,hx,e⟩
theorem Adt {s:MS} {z u v n a2 z2:Int} (h:ER s z 0 u v n a2 z2=true):v=n∧EQ s u (Az s.t s.p s.h z).1 a2 z2=true:=by
 unfold ER at h
 cases h2:(Az s.t s.p s.h z).2 with
 |false=>rw [h2] at h;simp only [lX,cond_true] at h;rw [Hl] at h;have:=We h;omega
 |true=>
  rw [h2] at h
  simp only [jW,cond_false,bne_self_eq_false,iG,beq_iff_eq] at h
  exact h
theorem AjB {s:MS} {a z a2 z2:Int} (h:EQ s a z a2 z2=true):JY s.t s.p s.h a z=true∧∀x∈s.l,x=(a2,z2)∨DY x.1 x.2 a z=false:=by
 unfold EQ at h
 rw [iG,jN] at h
 exact ⟨h.1, λx hx=>Aj9.1 (h.2 x hx)⟩
theorem AjC {s:MS} (hI:MI s) {x:Int×Int} (hx:x∈s.l):x≠(0,0):= λe=>by
 have:=in_lt hI.c (hI.inn x hx)
 rw [e] at this
 exact absurd this.1 (by decide)
theorem AhS {s:MS} (hI:MI s) {a z:Int} (h:EQ s a z 0 0=true):JY s.t s.p s.h a z=true∧∀x∈s.l,DY x.1 x.2 a z=false:=by
 obtain ⟨h1,h2⟩:=AjB h
 exact ⟨h1, λx hx=>(h2 x hx).resolve_left (AjC hI hx)⟩
theorem LJ {c u v:Int} (hc:c≠0):BG c 0 u v=false:=by
 cases h:BG c 0 u v with
 |false=>rfl
 |true=>rw [Hl] at h;have:=We h;omega
theorem Adu {t p h:Int} {l:Bs} {a z r0 r1 r2 r3 r4 r5 r6 r7:Int} (hs:CZ (F8 l (a,z))=insL (CZ l) (a,z)):toR ⟨t,p,h,F8 l (a,z),r0,r1,r2,r3,r4,r5,r6,r7⟩=DI (toR ⟨t,p,h,l,r0,r1,r2,r3,r4,r5,r6,r7⟩) a z:=by
 unfold toR DI
 simp only [AoI,hs]
theorem HY {α β:Type} (f:α→β):∀(l:List α) (i:Nat),(l.map f).eraseIdx i=(l.eraseIdx i).map f
 |[],_=>rfl
 |_::_,0=>rfl
 |x::l,i+1=>congrArg (f x:: ·) (HY f l i)
theorem AhT {s:MS} (hI:MI s) {a:Int} (h:(atR s.l a).2.2=true):toR (AcZ s a)=Dz (toR s) (CY (toR s).a a):=by
 unfold toR AcZ Dz
 simp only [ApW hI.nd h,HY]
theorem ApX {s:MS} (hI:MI s) {k a c u v:Int} (hA:Bo s k a c 0 u v=true):
 MI (FT s k a c u v)∧toR (FT s k a c u v)=GM (toR s) k a c u v∧(FT s k a c u v).l.length≤s.l.length+1∧(FT s k a c u v).t=s.t∧(FT s k a c u v).p=s.p∧(FT s k a c u v).h=s.h:=by
 unfold Bo at hA
 rw [Yi] at hA
 cases hr:Dk k a c with
 |false=>rw [hr] at hA;simp only [lX,cond_true] at hA;rw [LJ (by decide)] at hA;cases hA
 |true=>
  rw [hr] at hA
  simp only [jW,cond_false] at hA
  have hk:k=1∨k=2∨k=3∨k=4∨k=5∨k=6∨k=7∨k=8∨k=9:=Classical.byContradiction λhk=>by rw [AhR hk] at hr;cases hr
  rcases hk with rfl|rfl|rfl|rfl|rfl|rfl|rfl|rfl|rfl
  ·obtain ⟨rfl,hf⟩:=Adt (show ER s a 0 u v (Az s.t s.p s.h a).1 0 0=true from hA)
   obtain ⟨h1,h2⟩:=AhS hI hf
   obtain ⟨h3,h4,h5⟩:=hI.li.add hI.c (b:=(u,(Az s.t s.p s.h a).1)) h1 h2
   show MI (UK s u (Az s.t s.p s.h a).1)∧toR (UK s u (Az s.t s.p s.h a).1)=DI (toR s) u (Az s.t s.p s.h a).1∧_
   refine ⟨⟨hI.c,h3.nd,h3.inn,h3.ap,?_⟩,Adu h5,?_,rfl,rfl,rfl⟩
   ·intro r hr
    exact Amz (l':=F8 s.l (u,(Az s.t s.p s.h a).1)) (λx hx=>by rw [h4];exact mS _ hx) (hI.rt r hr)
   ·show (F8 s.l _).length≤_
    rw [h4];simp
  ·have hA:Ig s 2 a c 0 u v=true:=hA
   unfold Ig at hA
   cases hf:(atR s.l a).2.2 with
   |false=>rw [hf] at hA;simp only [lX,cond_true] at hA;rw [LJ (by decide)] at hA;cases hA
   |true=>
    rw [hf] at hA
    simp only [jW,cond_false] at hA
    cases hc:[s.r0,s.r1,s.r2,s.r3,s.r4,s.r5,s.r6,s.r7].contains a with
    |true=>rw [hc] at hA;simp only [cond_true] at hA;rw [LJ (by decide)] at hA;cases hA
    |false=>
     obtain ⟨x,hx,he,e1,_,_⟩:=Zl hI.nd hf
     have h3:=hI.li.del ((atR s.l a).1,(atR s.l a).2.1)
     show MI (AcZ s a)∧toR (AcZ s a)=Dz (toR s) (CY (toR s).a a)∧_
     refine ⟨⟨hI.c,h3.nd,h3.inn,h3.ap,?_⟩,AhT hI hf,?_,rfl,rfl,rfl⟩
     ·intro r hr hn
      obtain ⟨y,hy,e⟩:=hI.rt r hr hn
      refine ⟨y,NC.2 ⟨hy, λe2=>?_⟩,e⟩
      have:a∈[s.r0,s.r1,s.r2,s.r3,s.r4,s.r5,s.r6,s.r7]:=by
       rw [e1] at e2
       have e3:y.1=x.1:=congrArg (λz:Int×Int=>z.1) e2
       rw [←he,←e3,e];exact hr
      rw [←List.contains_iff_mem,hc] at this;cases this
     ·show (FY s.l _).length≤_
      exact lO (Adr _ _).length_le (Nat.le_succ _)
  ·have hA:Fa s 3 a c 0 u v=true:=hA
   unfold Fa at hA
   cases hf:(atR s.l a).2.2 with
   |false=>rw [hf] at hA;simp only [lX,cond_true] at hA;rw [LJ (by decide)] at hA;cases hA
   |true=>
    rw [hf] at hA
    simp only [jW,cond_false] at hA
    obtain ⟨rfl,hm⟩:=Adt hA
    obtain ⟨x,hx,he,e1,_,_⟩:=Zl hI.nd hf
    obtain ⟨h1,h2⟩:=AjB hm
    have ex:((atR s.l a).1,(atR s.l a).2.1)=x:=by rw [e1]
    have h0:=hI.li.del x
    have h2':∀y∈FY s.l x,DY y.1 y.2 u (Az s.t s.p s.h c).1=false:= λy hy=>by
     obtain ⟨g1,g2⟩:=NC.1 hy
     refine (h2 y g1).resolve_left λe=>?_
     cases hu:(u !=a) with
     |true=>rw [hu] at e;exact AjC hI g1 e
     |false=>rw [hu] at e;exact g2 (e.trans ex)
    obtain ⟨h3,h4,h5⟩:=h0.add hI.c (b:=(u,(Az s.t s.p s.h c).1)) h1 h2'
    have em:mvL s a u (Az s.t s.p s.h c).1=F8 (FY s.l x) (u,(Az s.t s.p s.h c).1):=by unfold mvL;rw [ex]
    show MI (IR s a u (Az s.t s.p s.h c).1 8)∧toR (IR s a u (Az s.t s.p s.h c).1 8)=Ko (DI (Dz (toR s) (CY (toR s).a a)) u (Az s.t s.p s.h c).1) a u 8∧_
    refine ⟨?_,?_,?_,rfl,rfl,rfl⟩
    ·unfold IR
     rw [em]
     refine ⟨hI.c,h3.nd,h3.inn,h3.ap,?_⟩
     have hm1:∀r j,r∈[s.r0,s.r1,s.r2,s.r3,s.r4,s.r5,s.r6,s.r7]→decide ((j:Int)<8)=true→PD (F8 (FY s.l x) (u,(Az s.t s.p s.h c).1)) (DX r a u 8 j):=by
      intro r j hr hj
      unfold DX
      rw [hj,oA]
      cases hra:(r==a) with
      |true=>exact Aoe (x:=(u,(Az s.t s.p s.h c).1)) (by rw [h4];simp) rfl
      |false=>
       intro hn
       obtain ⟨y,hy,e⟩:=hI.rt r hr hn
       refine ⟨y,?_,e⟩
       rw [h4]
       refine mS _ (NC.2 ⟨hy, λe2=>?_⟩)
       subst e2
       rw [←e,he] at hra
       simp at hra
     intro r hr
     simp only [iF,jF,or_false] at hr
     rcases hr with rfl|rfl|rfl|rfl|rfl|rfl|rfl|rfl<;>exact hm1 _ _ (by simp) (by decide)
    ·have e0:=AhT hI hf
     rw [←e0]
     unfold AcZ
     rw [ex,←Adu (l:=FY s.l x) h5]
     unfold IR
     rw [em];rfl
    ·show (mvL s a u _).length≤_
     rw [em,h4,jK]
     have:=(Adr s.l x).length_le
     show (FY s.l x).length+1≤_
     omega
  ·have hA:Fj s 4 a c 0 u v=true:=hA
   unfold Fj at hA
   cases hf:(Hw s a).2 with
   |false=>rw [hf] at hA;simp only [lX,cond_true] at hA;rw [LJ (by decide)] at hA;cases hA
   |true=>
    rw [hf] at hA
    simp only [jW,cond_false] at hA
    obtain ⟨_,hm⟩:=Adt hA
    obtain ⟨h1,h2⟩:=AhS hI hm
    obtain ⟨h3,h4,h5⟩:=hI.li.add hI.c (b:=(u,(Az s.t s.p s.h c).1)) h1 h2
    show MI (UL (UK s u (Az s.t s.p s.h c).1) a u)∧toR (UL (UK s u (Az s.t s.p s.h c).1) a u)=Ef (DI (toR s) u (BR s.t s.p s.h c).1) a u∧_
    refine ⟨⟨hI.c,h3.nd,h3.inn,h3.ap,?_⟩,?_,?_,rfl,rfl,rfl⟩
    ·have g1:PD (F8 s.l (u,(Az s.t s.p s.h c).1)) u:=Aoe (x:=(u,(Az s.t s.p s.h c).1)) (by rw [h4];simp) rfl
     have g2:∀r∈[s.r0,s.r1,s.r2,s.r3,s.r4,s.r5,s.r6,s.r7],PD (F8 s.l (u,(Az s.t s.p s.h c).1)) r:= λr hr=>Amz (λx hx=>by rw [h4];exact mS _ hx) (hI.rt r hr)
     intro r hr
     simp only [UL,UK,iF,jF,or_false] at hr
     rcases hr with rfl|rfl|rfl|rfl|rfl|rfl|rfl|rfl<;>exact Amy g1 (g2 _ (by simp))
    ·rw [←RD]
     have:=Adu (t:=s.t) (p:=s.p) (h:=s.h) (r0:=s.r0) (r1:=s.r1) (r2:=s.r2) (r3:=s.r3) (r4:=s.r4) (r5:=s.r5) (r6:=s.r6) (r7:=s.r7) h5
     show _=Ef (DI (toR ⟨s.t,s.p,s.h,s.l,s.r0,s.r1,s.r2,s.r3,s.r4,s.r5,s.r6,s.r7⟩) u _) a u
     rw [←this];rfl
    ·show (F8 s.l _).length≤_
     rw [h4];simp
  ·have hA:GX s 5 a c 0 u v=true:=hA
   unfold GX at hA
   show MI (UL s a c)∧toR (UL s a c)=Ef (toR s) a c∧_
   refine ⟨⟨hI.c,hI.nd,hI.inn,hI.ap,?_⟩,rfl,Nat.le_succ _,rfl,rfl,rfl⟩
   have g1:PD s.l c:=by
    intro hn
    cases hf:(Hw s a).2 with
    |false=>simp only [hf,lX,cond_true] at hA;rw [LJ (by decide)] at hA;cases hA
    |true=>
     simp only [hf,jW,cond_false] at hA
     cases hc:(atR s.l c).2.2 with
     |false=>
      have hb:(c !=0)=true:=by rw [bne_iff_ne];exact hn
      simp only [hc,hb,lX,Bool.and_true,cond_true] at hA;rw [LJ (by decide)] at hA;cases hA
     |true=>
      obtain ⟨x,hx,he,_⟩:=Zl hI.nd hc
      exact ⟨x,hx,he⟩
   intro r hr
   simp only [UL,iF,jF,or_false] at hr
   rcases hr with rfl|rfl|rfl|rfl|rfl|rfl|rfl|rfl<;>exact Amy g1 (hI.rt _ (by simp))
  all_goals exact ⟨hI,rfl,Nat.le_succ _,rfl,rfl,rfl⟩
end
section
open Go Go.Sl
theorem AnE {s:MS} (hI:MI s) (k a c e u v:Int):MI (Ae s k a c e u v).1∧(Ae s k a c e u v).1.l.length≤s.l.length+1∧(Ae s k a c e u v).1.t=s.t∧(Ae s k a c e u v).1.p=s.p∧(Ae s k a c e u v).1.h=s.h∧
 Ac (toR s) k a c e u v=(toR (Ae s k a c e u v).1,(Ae s k a c e u v).2)∧((!(Ae s k a c e u v).2||e !=0)=true→(Ae s k a c e u v).1=s):=by
 unfold Ae Ac
 rw [←Amw hI]
 cases hA:Bo s k a c e u v with
 |false=>exact ⟨hI,Nat.le_succ _,rfl,rfl,rfl,rfl, λ_=>rfl⟩
 |true=>
  cases he:(e !=0) with
  |true=>exact ⟨hI,Nat.le_succ _,rfl,rfl,rfl,rfl, λ_=>rfl⟩
  |false=>
   have h0:e=0:=by simpa using he
   subst h0
   obtain ⟨g1,g2,g3,g4,g5,g6⟩:=ApX hI hA
   simp only [jW,cond_false]
   exact ⟨g1,g3,g4,g5,g6,by rw [g2], λh=>(by cases h)⟩
theorem ApY {t p h:Int} (hr:Ap t p h=true):MI ⟨t,p,h,[],0,0,0,0,0,0,0,0⟩:=by
 refine ⟨hr,lJ, λx hx=>(by cases hx), λx hx=>(by cases hx), λr hr hn=>?_⟩
 simp only [iF,jF,or_false,or_self] at hr
 exact absurd hr hn
theorem MI.inB {s:MS} (hI:MI s):inB s.l:= λx hx=>by
 have:=in_lt hI.c (hI.inn x hx)
 omega
theorem Am0 (xa xz:LI) (u0 u1 u2 u3 u4 u5 u6 u7:Int):Hr xa xz u0 u1 u2 u3 u4 u5 u6 u7 xa xz u0 u1 u2 u3 u4 u5 u6 u7=true:=by
 simp [Hr]
theorem st_len (s:MS):(Hg s).1.length=(Hg s).2.1.length:=by
 show ((CZ s.l).map _).length=((CZ s.l).map _).length
 rw [kC,kC]
end
end Go.Proofs.Ytdjfnbbmfmjckaa
namespace Go.Sl
section
open Go.RowKit
variable {σ:Type}
inductive AnF (σ:Type):Type 1 where
 |run
 |opn (b:BxP σ) (k:Nat) (o:(Nat→Ad)→Nat) (j:Nat)
 |cls (b:BxP σ) (o:(Nat→Ad)→Nat) (a:(Nat→Ad)→Nat→Ad) (j:Nat)
 |wid (ext:Nat→List (Value×Pr)→List (Chunk σ)→Option (Tree σ))
variable (D:Addr→σ→Dl)
def AkK (P:Program) (ext:Nat→List (Value×Pr)→List (Chunk σ)→Option (Tree σ)) (E:Ev) (G:Hp):Prop:=
 ∀g args prs K t,ext g (lH args prs) K=some t→∀w,AV K args prs→DC K→Af D E G w K→∀Q:Value→Pr→List (Chunk σ)→Prop,t.holds Q (λ_ _ _=>False)→
  PS P g args.toArray w λen w'=>∃v p K',en= .returned v∧Q v p K'∧Bj K K'∧DC K'∧BP K' v p∧Af D E G w' K'
def AkL (P:Program) (T:List (Nat×Entry σ)) (ext:Nat→List (Value×Pr)→List (Chunk σ)→Option (Tree σ)) (I:List Nat) (fuel:Nat) (B:Code) (rs:List ResultVar) (n:Nat) (p:List Nat) (td:List Ab) (L:List Aj) (K:List (Chunk σ)):Tree σ:=
 wide P T ext n (opsOf (Sl.sub B p)) false (λQ L K=> .need False (.stuck (.lst p Q::td) L K)) (λL' K'=>run P T I fuel B rs n td L' K') ((opsOf (Sl.sub B p)).size+1) (jQ (opsOf (Sl.sub B p)).size) L K
def Aof (B:Code) (p:List Nat):Prop:=∃id,Sl.sub B p= .region id (opsOf (Sl.sub B p)) true
theorem SW.wid {P:Program} {T:List (Nat×Entry σ)} (hT:Cb D P T) {I:List Nat} {f:FuncId} {fn:Func} (hfn:P.funcs[f]? =some fn) (hmix:P.follows .mixedOrders=true) {R:Ending→World→Prop} {B:Code} {E:Ev} {G:Hp} {ext:Nat→List (Value×Pr)→List (Chunk σ)→Option (Tree σ)} (hx:AkK D P ext E G) {p:List Nat} {td:List Ab} {L:List Aj} {K:List (Chunk σ)}
 (hp:Aof B p) (hw:NH (opsOf (Sl.sub B p))=true) (fuel:Nat) {R':Value→Pr→List (Chunk σ)→Prop} (hR:∀v p K w,R' v p K→Af D E G w K→R (.returned v) w)
 (h:(AkL P T ext I fuel B fn.results.toList fn.ntmps p td L K).holds R' (SW D P f R B fn.ntmps E G)):SW D P f R B fn.ntmps E G (.code p::td) L K:= λa w hF hS=>by
 obtain ⟨id,hc⟩:=hp
 show WT P f R (.code (Sl.sub B p)::td.map (item B)) a w
 rw [hc]
 refine WT.step (λcs=>stepR_region_draw) ?_
 simp only [Region.schedule,hmix,kQ,if_true]
 unfold AkL at h
 exact ZF D hT (Ajm hw) (nx:=false) (λh=>(by cases h)) hx (st:= λQ L K=> .need False (.stuck (.lst p Q::td) L K)) (λ_ _ _ h=>And.left h) (λL' K' _ hko a' w' hF' hS'=>WT.step (λcs=>stepR_region_end) (SW.run D hT (I:=I) hfn hmix (R':=R') hR fuel rfl hko a' w' hF' hS')) (opsOf (Sl.sub B p)).size _ _ _ _ _ K a a _ (AfT _) (GK.start D hF (Sat.drawn hS _)) h
section
variable (c:Ct σ) (P:Program) (T:List (Nat×Entry σ)) (I:List Nat) (fuel:Nat) (fn:Func) (B:Code) (p0:Addr) (cs:List (Cm σ)) (hs:List (Hd σ)) (hk:List (AnF σ)) (r0:Ty c.RK) (Inv:Nat→List (Cm σ)→Prop) (ms:Nat→List (Cm σ)→Nat×Nat×Nat)
def AkM (j:Nat) (h:Hd σ):Prop:=
 match hk.getD j .run with
 | .run=>E8 h.kd λx=>Inv j x→∃W:Prop,(∀ad β γ,c.lhsW p0 cs hs (λr=>r=r0) (λj' x'=>Inv j' x'∧lx (ms j' x') (ms j x)) (run P T (h.stp I) fuel B fn.results.toList fn.ntmps h.tds (h.L ad x) (h.K ad x)) β γ=
    c.rhsW p0 cs hs (run P T (h.stp I) fuel B fn.results.toList fn.ntmps h.tds (h.L ad x) (h.K ad x)) W β γ)∧W
 | .opn b k of j2=>b.b.Is D∧match hs[j2]? with
   |some h2=>E8 h.kd λx=>Inv j x→∃s:b.wr.τ,(∀ad,(h.K ad x)[k]? =some (.obj ⟨of ad,0,none⟩ (b.wr.inj s)))∧E8 (Ib b.b.l) λy=>b.b.R s y→∃W:Prop,(∀ad ad2,(OD [h2] (λ_ x'=>Inv j2 x'∧lx (ms j2 x') (ms j x)) h.tds (J9 k (h.L ad x)) (b.b.opK k (of ad) ad2 y (h.K ad x)),KI [h2] h.tds (J9 k (h.L ad x)) (b.b.opK k (of ad) ad2 y (h.K ad x)),NV [h2] h.tds (J9 k (h.L ad x)) (b.b.opK k (of ad) ad2 y (h.K ad x)))=
     (W,KJ [h2] h.tds (J9 k (h.L ad x)) (b.b.opK k (of ad) ad2 y (h.K ad x)),true))∧W
   |none=>False
 | .cls b of af j2=>b.b.Is D∧match hs[j2]? with
   |some h2=>E8 h.kd λx=>Inv j x→∃(s:b.wr.τ) (W:Prop),b.b.R s (x.take (KT b.b.l))∧(∀ad,((h.K ad x).take (1+EP b.b.l),KL (EP b.b.l) ((h.K ad x).drop (1+EP b.b.l)),Dy (Ib b.b.l) (x.take (KT b.b.l)),OD [h2] (λ_ x'=>Inv j2 x'∧lx (ms j2 x') (ms j x)) h.tds (KU 0 (jJ 1 (EP b.b.l)) (h.L ad x)) ((E5 (h.K ad x) .dead (jJ 1 (EP b.b.l))).set 0 (.obj ⟨of ad,0,none⟩ (b.wr.inj s))),KI [h2] h.tds (KU 0 (jJ 1 (EP b.b.l)) (h.L ad x)) ((E5 (h.K ad x) .dead (jJ 1 (EP b.b.l))).set 0 (.obj ⟨of ad,0,none⟩ (b.wr.inj s))),NV [h2] h.tds (KU 0 (jJ 1 (EP b.b.l)) (h.L ad x)) ((E5 (h.K ad x) .dead (jJ 1 (EP b.b.l))).set 0 (.obj ⟨of ad,0,none⟩ (b.wr.inj s))))=
     (b.b.bk (of ad) (af ad) 1 (x.take (KT b.b.l)),true,true,W,KJ [h2] h.tds (KU 0 (jJ 1 (EP b.b.l)) (h.L ad x)) ((E5 (h.K ad x) .dead (jJ 1 (EP b.b.l))).set 0 (.obj ⟨of ad,0,none⟩ (b.wr.inj s))),true))∧W
   |none=>False
 | .wid ext=>(∀E G,AkK D P ext E G)∧Aof B h.p∧NH (opsOf (Sl.sub B h.p))=true∧h.tds= .code h.p::h.td∧E8 h.kd λx=>Inv j x→∃W:Prop,(∀ad β γ,c.lhsW p0 cs hs (λr=>r=r0) (λj' x'=>Inv j' x'∧lx (ms j' x') (ms j x)) (AkL P T ext (h.stp I) fuel B fn.results.toList fn.ntmps h.p h.td (h.L ad x) (h.K ad x)) β γ=
    c.rhsW p0 cs hs (AkL P T ext (h.stp I) fuel B fn.results.toList fn.ntmps h.p h.td (h.L ad x) (h.K ad x)) W β γ)∧W
def AbN:List (Hd σ)→Nat→Prop
 |[],_=>True
 |h::r,j=>AkM D c P T I fuel fn B p0 cs hs hk r0 Inv ms j h∧AbN r (j+1)
end
section
variable {c:Ct σ} {P:Program} {T:List (Nat×Entry σ)} {I:List Nat} {fuel:Nat} {fn:Func} {B:Code} {p0:Addr} {cs:List (Cm σ)} {hs:List (Hd σ)} {hk:List (AnF σ)} {r0:Ty c.RK} {Inv:Nat→List (Cm σ)→Prop} {ms:Nat→List (Cm σ)→Nat×Nat×Nat} {f:FuncId} {R:Ending→World→Prop} {E:Ev} {G:Hp}
theorem AbO:∀{l:List (Hd σ)} {m i:Nat} {h:Hd σ},AbN D c P T I fuel fn B p0 cs hs hk r0 Inv ms l m→l[i]? =some h→AkM D c P T I fuel fn B p0 cs hs hk r0 Inv ms (m+i) h
 |[],_,_,_,_,h=>by simp at h
 |h0::r,m,0,h,hs,hg=>by simp at hg;subst hg;exact hs.1
 |h0::r,m,i+1,h,hs,hg=>by
  have:=AbO hs.2 (i:=i) (by simpa using hg)
  rw [show m+1+i=m+(i+1) by omega] at this
  exact this
theorem Am1 (hT:Cb D P T) (hfn:P.funcs[f]? =some fn) (hmix:P.follows .mixedOrders=true) (hc:hcode B hs=G8 B hs) (hst:AbN D c P T I fuel fn B p0 cs hs hk r0 Inv ms hs 0):
 ∀j h,hs[j]? =some h→∀s,Dy h.kd s=true→Inv j s→∀ad,SW D P f (Post D E G (c.outC r0) (c.nwC p0 cs r0) (c.mksC r0)) B fn.ntmps E G h.tds (h.L ad s) (h.K ad s):=by
 have loop:∀x:Nat×Nat×Nat,∀j h,hs[j]? =some h→∀s,Dy h.kd s=true→Inv j s→ms j s=x→∀ad,SW D P f (Post D E G (c.outC r0) (c.nwC p0 cs r0) (c.mksC r0)) B fn.ntmps E G h.tds (h.L ad s) (h.K ad s):=by
  refine Agj λx ih j h hg s hf hI hm ad=>?_
  have hq:=AbO D hst hg
  rw [lG] at hq
  have H':∀j' h',hs[j']? =some h'→∀s',Dy h'.kd s'=true→(Inv j' s'∧lx (ms j' s') (ms j s))→∀ad',SW D P f (Post D E G (c.outC r0) (c.nwC p0 cs r0) (c.mksC r0)) B fn.ntmps E G h'.tds (h'.L ad' s') (h'.K ad' s'):= λj' h' hg' s' hf' hI' ad'=>ih _ (by rw [←hm];exact hI'.2) j' h' hg' s' hf' hI'.1 rfl ad'
  unfold AkM at hq
  split at hq
  ·obtain ⟨W,hW1,hW2⟩:=hq.at s hf hI
   exact SW.go D hT (I:=h.stp I) hfn hmix fuel rfl (Qc D (hW1 ad) hW2 hc H')
  ·rename_i b k of j2 _
   obtain ⟨hb,hq⟩:=hq
   split at hq
   ·rename_i h2 hg2
    obtain ⟨st,hk0,hq⟩:=hq.at s hf hI
    refine Bx.VT D hb k (hk0 ad) λo' ad2 y e hfy hRy=>?_
    injection e with e;subst e
    obtain ⟨W,hW1,hW2⟩:=hq.at y hfy hRy
    have e:=hW1 ad ad2
    simp only [iO] at e
    refine Qb D (hs:=[h2]) (OE hc hg2) e.2.1 e.2.2 (by rw [e.1];exact hW2) λj' h' hg' s' hf' hI' ad'=>?_
    cases j' with
    |zero=>simp at hg';subst hg';exact H' j2 _ hg2 s' hf' hI' ad'
    |succ j'=>simp at hg'
   ·exact hq.elim
  ·rename_i b of af j2 _
   obtain ⟨hb,hq⟩:=hq
   split at hq
   ·rename_i h2 hg2
    obtain ⟨st,W,hR,hW1,hW2⟩:=hq.at s hf hI
    have e:=hW1 ad
    simp only [iO] at e
    refine Bx.Ags D hb (o:=of ad) (ad:=af ad) (y:=s.take (KT b.b.l)) (rest:=(h.K ad s).drop (1+EP b.b.l)) (s:=st) (by rw [←e.1,List.take_append_drop]) e.2.1 e.2.2.1 hR ?_
    refine Qb D (hs:=[h2]) (OE hc hg2) e.2.2.2.2.1 e.2.2.2.2.2 (by rw [e.2.2.2.1];exact hW2) λj' h' hg' s' hf' hI' ad'=>?_
    cases j' with
    |zero=>simp at hg';subst hg';exact H' j2 _ hg2 s' hf' hI' ad'
    |succ j'=>simp at hg'
   ·exact hq.elim
  ·rename_i ext _
   obtain ⟨hx,hp,hw,htd,hq⟩:=hq
   obtain ⟨W,hW1,hW2⟩:=hq.at s hf hI
   rw [htd]
   exact SW.wid D hT (I:=h.stp I) hfn hmix (hx E G) hp hw fuel (λv p K w h hS=>h.post D hS) (Qc D (hW1 ad) hW2 hc H')
 exact λj h hg s hf hI ad=>loop _ j h hg s hf hI rfl ad
end
theorem ApZ {c:Ct σ} {P:Program} {T:List (Nat×Entry σ)} (hT:Cb D P T) {I:List Nat} {f:FuncId} {fn:Func} {B:Code} (hfn:P.funcs[f]? =some fn) (hmix:P.follows .mixedOrders=true) (hB:fn.body=some B)
 (ha:I4 c.ash=true) (hl:jT c.full.length fn.ntmps=true) {F:JX c.AK (Ty c.RK)} {pre:JX c.AK (List Prop)} (fuel:Nat)
 (H:∀p0,E8 c.AK λcs=>WS c.full cs→(∀p∈Ak c.AK pre cs,p)→∃(hs:List (Hd σ)) (hk:List (AnF σ)) (Inv:Nat→List (Cm σ)→Prop) (ms:Nat→List (Cm σ)→Nat×Nat×Nat),hcode B hs=G8 B hs∧
   (∃W:Prop,(∀ad β γ,c.lhsW p0 cs hs (λr=>r=Ak c.AK F cs) Inv (c.tree P T I fuel fn B p0 cs ad) β γ=c.rhsW p0 cs hs (c.tree P T I fuel fn B p0 cs ad) W β γ)∧W)∧
   AbN D c P T I fuel fn B p0 cs hs hk (Ak c.AK F cs) Inv ms hs 0):Fv D P f (CP c F pre):=by
 refine Qa D (mk:=[]) hT (I:=I) hfn hmix hB ha hl fuel λp0=>?_
 refine E8.imp (λcs hH hb hp ad E G=>?_) (H p0)
 obtain ⟨hs,hk,Inv,ms,hc,⟨W,hW,hW'⟩,hst⟩:=hH hb hp
 exact Qc D (hW ad) hW' hc (Am1 D hT hfn hmix hc hst)
end
end Go.Sl
namespace Go.Proofs.Ytdjfnbbmfmjckaa
section
open Go Go.Sl
abbrev gAp:Nat:=19
abbrev gAl:Nat:=15
def AbP (g:Nat) (s:RS) (k a c e u v:Int):RS×Bool:=bif iJ g gAp then Ac s k a c e u v else (s,Bc s k a c e u v)
def nC (o:Nat) (s:RS) (a:Option Nat) (cap j:Nat):Chunk Sg:= .cells o 47 [(.int .i64 s.t, .no),(.int .i64 s.p, .no),(.int .i64 s.h, .no),(Bi a s.a.length cap, .pt j .slice),(.int .i64 s.r0, .no),(.int .i64 s.r1, .no),(.int .i64 s.r2, .no),(.int .i64 s.r3, .no),(.int .i64 s.r4, .no),(.int .i64 s.r5, .no),(.int .i64 s.r6, .no),(.int .i64 s.r7, .no)]
def nR (s:RS) (a:Option Nat) (cap:Nat):Chunk Sg:= .row a 55 s.a.length cap [.ints .i64 s.a, .ints .i64 s.z]
section
variable {E:Ev} {G:Hp} {w:World} {X:List (Chunk Sg)} {s:RS} {o:Nat} {a:Option Nat} {cap j:Nat}
theorem Aqb (h:Af Dg E G w (nC o s a cap j::nR s a cap::X)):s.z.length=s.a.length:=by
 obtain ⟨Y,q,_,h1,_⟩:=h.get Dg (k:=1) rfl
 exact h1.1 (.ints .i64 s.z) (by simp)
theorem AoT (h:Af Dg E G w (nC o s a cap j::nR s a cap::X)):Af Dg E G w (.obj ⟨o,0,none⟩ (.rf s)::X):=by
 have hz:=Aqb h
 have h1:Sat E G w ((BL.bk o (λ_=>{o:=a,c:=cap,b:=0,a:=none,p:=⟨0,0,none⟩}) 1 [.i s.t, .i s.p, .i s.h, .n s.a.length, .li s.a, .li s.z, .i s.r0, .i s.r1, .i s.r2, .i s.r3, .i s.r4, .i s.r5, .i s.r6, .i s.r7]).map (den Dg G)++X.map (den Dg G)):=h
 have hR:BL.R s [.i s.t, .i s.p, .i s.h, .n s.a.length, .li s.a, .li s.z, .i s.r0, .i s.r1, .i s.r2, .i s.r3, .i s.r4, .i s.r5, .i s.r6, .i s.r7]:=(⟨rfl,hz,rfl⟩:BI ⟨s.t,s.p,s.h,s.a.length,s.a,s.z,s.r0,s.r1,s.r2,s.r3,s.r4,s.r5,s.r6,s.r7⟩ s)
 exact Bx.fold Dg I5 rfl hR h1
theorem AoU {C:Chunk Sg} {Y:List (Chunk Sg)} (h:Af Dg E G w (C::Y)):Af Dg E G w (C:: .dead::Y):=by
 refine Sat.pick h (0::(Y.length+5)::jJ 1 Y.length) ?_ λi B hi=>?_
 ·refine lD.2 ⟨λhm=>?_,lD.2 ⟨λhm=>?_,List.nodup_range' ..⟩⟩
  ·rcases iF.1 hm with hm|hm
   ·omega
   ·have:=List.mem_range'_1.1 hm;omega
  ·have:=List.mem_range'_1.1 hm;omega
 ·match i,hi with
  |0,hi=>exact .inl ⟨0,rfl,hi⟩
  |1,hi=>
   injection hi with hi;subst hi
   exact .inr λ_ _ _=>trivial
  |i+2,hi=>
   have hi':(Y.map (den Dg G))[i]? =some B:=hi
   have hl:i<Y.length:=by have:=BN hi';simpa using this
   refine .inl ⟨i+1,?_,hi'⟩
   show (jJ 1 Y.length)[i]? =some (i+1)
   rw [List.getElem?_range' hl,Nat.one_mul,Nat.add_comm]
theorem Am2 (h:Af Dg E G w (.obj ⟨o,0,none⟩ (.rf s)::X)):∃a cap,Af Dg E G w (nC o s a cap (X.length+2):: .dead::X++[nR s a cap]):=by
 obtain ⟨x,⟨h1,h2,h3⟩,h4⟩:=Sat.Qd (α:=Nat×(Nat→Ad)×List (Cm Sg)) (p:= λx=>(⟨o,0,none⟩:Addr)=⟨x.1,0,none⟩∧Dy (Ib BL.l) x.2.2=true∧BL.R s x.2.2) (A0:= λx=>den Dg G (.cells x.1 BL.t (Je (DL x.2.1 BL.l 1 0 x.2.2)))) (Bs:= λx=>(Gp (DL x.2.1 BL.l 1 0 x.2.2)).map (den Dg G)) (k:=0) h (by
  show some (BL.A s ⟨o,0,none⟩)=_
  congr 1)
 obtain ⟨o',ad,y⟩:=x
 injection h1 with h1
 dsimp only at h1 h2 h3 h4
 subst h1
 have key:E8 (Ib BL.l) λy=>BL.R s y→Sat E G w (((.obj ⟨o,0,none⟩ (.rf s)::X:List (Chunk Sg)).map (den Dg G)).set 0 (den Dg G (.cells o BL.t (Je (DL ad BL.l 1 0 y))))++(Gp (DL ad BL.l 1 0 y)).map (den Dg G))→∃a cap,Af Dg E G w (nC o s a cap (X.length+2):: .dead::X++[nR s a cap]):=by
  intro t p hh n al zl x0 x1 x2 x3 x4 x5 x6 x7 hR hS
  have hR:BI ⟨t,p,hh,n,al,zl,x0,x1,x2,x3,x4,x5,x6,x7⟩ s:=hR
  have hn:=hR.n
  have he:=hR.eq
  dsimp only at hn he
  subst hn he
  refine ⟨(ad 0).o,(ad 0).c,?_⟩
  have h5:Af Dg E G w (nC o ⟨t,p,hh,al,zl,x0,x1,x2,x3,x4,x5,x6,x7⟩ (ad 0).o (ad 0).c (X.length+2)::(X++[nR ⟨t,p,hh,al,zl,x0,x1,x2,x3,x4,x5,x6,x7⟩ (ad 0).o (ad 0).c])):=by
   unfold Af
   rw [iD,jD]
   exact hS
  exact AoU h5
 exact key.at y h2 h3 h4
theorem AkN {g:Nat} (hg:g=gAp∨g=gAl) (hn:s.a.length≤1000) (h:Af Dg E G w (nC o s a cap j::nR s a cap::X)) (k x c e u v:Int):
 Calls Try.prog g #[.pointer (some ⟨o,0,none⟩), .agg #[.int .i64 k, .int .i64 x, .int .i64 c], .agg #[.int .i64 e, .int .i64 u, .int .i64 v]] w λen w'=>
  en= .returned (.bool (AbP g s k x c e u v).2)∧∃a' cap',Af Dg E G w' (nC o (AbP g s k x c e u v).1 a' cap' (X.length+2):: .dead::X++[nR (AbP g s k x c e u v).1 a' cap']):=by
 have h1:=AoT h
 rcases hg with rfl|rfl
 ·obtain ⟨k',hk,hk2,hc⟩:=Jc Dg (K:= .obj ⟨o,0,none⟩ (.rf s)::X) AbE (args:=[(.pointer (some ⟨o,0,none⟩), .obj (.rf s)),(.agg #[.int .i64 k, .int .i64 x, .int .i64 c], .none),(.agg #[.int .i64 e, .int .i64 u, .int .i64 v], .none)]) (prs:=[.pt 0 .obj, .no, .no])
   ⟨Bl.2 ⟨_,rfl,rfl⟩,AA,AA,trivial⟩ rfl (c:=⟨Ac s k x c e u v, λr=>⟨[s.a.length≤1000],Y8 Kq.rob (JB Kq.RK r),Kq.mksC r,Kq.outC r,Kq.rs.outp⟩⟩) rfl rfl (λp hp=>by
     have hp:p∈[s.a.length≤1000]:=hp
     simp only [iF,jF,or_false] at hp
     rw [hp];exact hn) h1 rfl
  have hk:k'∈[0]:=hk
  simp only [iF,jF,or_false] at hk
  subst hk
  refine hc.mono ?_
  rintro en w' ⟨acs,ha,rfl,hS⟩
  cases acs with
  |cons _ _=>exact ha.elim
  |nil=>
   have hS:Af Dg E G w' (.obj ⟨o,0,none⟩ (.rf (Ac s k x c e u v).1)::X++[]):=hS
   rw [kX] at hS
   exact ⟨rfl,Am2 hS⟩
 ·obtain ⟨k',hk,hk2,hc⟩:=Jc Dg (K:= .obj ⟨o,0,none⟩ (.rf s)::X) Yg (args:=[(.pointer (some ⟨o,0,none⟩), .obj (.rf s)),(.agg #[.int .i64 k, .int .i64 x, .int .i64 c], .none),(.agg #[.int .i64 e, .int .i64 u, .int .i64 v], .none)]) (prs:=[.pt 0 .obj, .no, .no])
   ⟨Bl.2 ⟨_,rfl,rfl⟩,AA,AA,trivial⟩ rfl (c:=⟨Bc s k x c e u v, λr=>⟨[s.a.length≤1000],Y8 J7.rob (JB J7.RK r),J7.mksC r,J7.outC r,J7.rs.outp⟩⟩) rfl rfl (λp hp=>by
     have hp:p∈[s.a.length≤1000]:=hp
     simp only [iF,jF,or_false] at hp
     rw [hp];exact hn) h1 rfl
  have hk:k'∈[0]:=hk
  simp only [iF,jF,or_false] at hk
  subst hk
  refine hc.mono ?_
  rintro en w' ⟨acs,ha,rfl,hS⟩
  cases acs with
  |cons _ _=>exact ha.elim
  |nil=>
   have hS:Af Dg E G w' (.obj ⟨o,0,none⟩ (.rf s)::X++[]):=hS
   rw [kX] at hS
   exact ⟨rfl,Am2 hS⟩
end
def Aoh (g:Nat):Bool:=iJ g gAp||iJ g gAl
def AkO (g:Nat) (ags:List (Value×Pr)) (K:List (Chunk Sg)):Option (Tree Sg):=
 match Aoh g,ags,K with
 |true,[(.pointer (some ⟨o,0,none⟩), .pt j0 (.cell f0)),(.agg ⟨[.int .i64 k, .int .i64 x, .int .i64 c]⟩,_),(.agg ⟨[.int .i64 e, .int .i64 u, .int .i64 v]⟩,_)],
  .cells o' t [(.int .i64 ct, .no),(.int .i64 cp, .no),(.int .i64 ch, .no),(.slice sa sn sc, .pt j .slice),(.int .i64 x0, .no),(.int .i64 x1, .no),(.int .i64 x2, .no),(.int .i64 x3, .no),(.int .i64 x4, .no),(.int .i64 x5, .no),(.int .i64 x6, .no),(.int .i64 x7, .no)]:: .row a tb n cap [.ints .i64 xs, .ints .i64 zs]::X=>
  bif iJ t 47&&iJ tb 55&&iJ j 1&&iJ j0 0&&iJ f0 0 then
   some (.need (n=xs.length∧xs.length≤1000) (.bind (AbP g ⟨ct,cp,ch,xs,zs,x0,x1,x2,x3,x4,x5,x6,x7⟩ k x c e u v) λr=> .freshS λa' cap'=> .ret (.bool r.2) .no (nC o' r.1 a' cap' (X.length+2):: .dead::X++[nR r.1 a' cap']))) else none
 |_,_,_=>none
theorem AqI {K:List (Chunk Sg)} {args:List Value} {prs:List Pr} (h:AV K args prs) {a b c:Value} {p q r:Pr} (e:lH args prs=[(a,p),(b,q),(c,r)]):args=[a,b,c]∧prs=[p,q,r]:=by
 match args,prs,h,e with
 |[a',b',c'],[p',q',r'],_,e=>
  simp only [mI,List.zip_nil_right,jV,iO,and_true] at e
  obtain ⟨⟨rfl,rfl⟩,⟨rfl,rfl⟩,rfl,rfl⟩:=e
  exact ⟨rfl,rfl⟩
 |[],[],_,e=>simp at e
 |[_],[_],_,e=>simp at e
 |[_,_],[_,_],_,e=>simp at e
 |_::_::_::_::_,_::_::_::_::_,_,e=>simp at e
theorem Aey {o:Nat} {s s':RS} {a a':Option Nat} {cap cap' j j':Nat} {X:List (Chunk Sg)}:Bj (nC o s a cap j::nR s a cap::X) (nC o s' a' cap' j':: .dead::X++[nR s' a' cap']):= λk c hk=>by
 match k,hk with
 |0,hk=>
  injection hk with hk;subst hk
  exact ⟨_,rfl, λv pk h=>by cases pk<;>exact h⟩
 |1,hk=>exact ⟨.dead,rfl, λv pk _=>trivial⟩
 |k+2,hk=>
  have hk:X[k]? =some c:=hk
  refine ⟨c,?_, λv pk h=>h⟩
  show (X++[nR s' a' cap'])[k]? =some c
  rw [iH (BN hk)]
  exact hk
theorem AnG {o:Nat} {s s':RS} {a a':Option Nat} {cap cap' j:Nat} {X:List (Chunk Sg)} (h:DC (nC o s a cap j::nR s a cap::X)):DC (nC o s' a' cap' (X.length+2):: .dead::X++[nR s' a' cap']):= λk b t cs hk=>by
 match k,hk with
 |0,hk=>
  have hk:nC o s' a' cap' (X.length+2)= .cells b t cs:=by injection hk
  unfold nC at hk
  injection hk with _ _ hk
  subst hk
  intro x hx
  simp only [iF,jF,or_false] at hx
  have hs:BP (nC o s' a' cap' (X.length+2):: .dead::X++[nR s' a' cap']) (Bi a' s'.a.length cap') (.pt (X.length+2) .slice):=Bl.2 ⟨nR s' a' cap',by
   show (X++[nR s' a' cap'])[X.length]? =_
   rw [iI (kA _),nE];rfl,rfl⟩
  rcases hx with rfl|rfl|rfl|rfl|rfl|rfl|rfl|rfl|rfl|rfl|rfl|rfl<;>first|exact AA|exact hs
 |1,hk=>cases hk
 |k+2,hk=>
  have hk:(X++[nR s' a' cap'])[k]? =some (.cells b t cs):=hk
  rcases jB k X.length with hl|hl
  ·rw [iH hl] at hk
   intro x hx
   exact (h (k+2) b t cs hk x hx).ext Aey
  ·rw [iI hl] at hk
   have h0:k-X.length=0:=by have:=BN hk;simp only [jI,mA] at this;omega
   rw [h0] at hk
   simp [nR] at hk
theorem AnH (E:Ev) (G:Hp):AkK Dg Try.prog AkO E G:=by
 intro g args prs K t ht w hps hk hS Q hQ
 unfold AkO at ht
 split at ht
 ·rename_i o j0 f0 k x c _ e u v _ o' t' ct cp ch sa sn sc j x0 x1 x2 x3 x4 x5 x6 x7 a tb n cap xs zs X hg hz
  cases hb:(iJ t' 47&&iJ tb 55&&iJ j 1&&iJ j0 0&&iJ f0 0) with
  |false=>rw [hb] at ht;cases ht
  |true=>
   rw [hb] at ht
   simp only [cond_true,iA] at ht
   subst ht
   simp only [iG] at hb
   have e1:=iE hb.1.1.1.1
   have e2:=iE hb.1.1.1.2
   have e3:=iE hb.1.1.2
   have e4:=iE hb.1.2
   have e5:=iE hb.2
   subst e1 e2 e3 e4 e5
   obtain ⟨rfl,rfl⟩:=AqI hps hz
   obtain ⟨⟨rfl,hle⟩,hQ⟩:=hQ
   have hQ:=hQ ⟨rfl,hle⟩ _ rfl
   have ho:o=o':=by
    obtain ⟨ck,hc1,hc2⟩:=Bl.1 hps.1
    injection hc1 with hc1;subst hc1
    have hc2:(kH (some ⟨o,0,none⟩))= .pointer (some ⟨o',0,none⟩):=hc2
    injection hc2 with hc2;injection hc2 with hc2;injection hc2 with hc2
   subst ho
   have hsl:(lA sa sn sc)=Bi a xs.length cap:=by
    obtain ⟨ck,hc1,hc2⟩:=Bl.1 (hk 0 _ _ _ rfl (.slice sa sn sc, .pt 1 .slice) (by simp))
    injection hc1 with hc1;subst hc1
    exact hc2
   rw [hsl] at hk hS
   have hS':Af Dg E G w (nC o ⟨ct,cp,ch,xs,zs,x0,x1,x2,x3,x4,x5,x6,x7⟩ a cap 1::nR ⟨ct,cp,ch,xs,zs,x0,x1,x2,x3,x4,x5,x6,x7⟩ a cap::X):=hS
   have hk':DC (nC o ⟨ct,cp,ch,xs,zs,x0,x1,x2,x3,x4,x5,x6,x7⟩ a cap 1::nR ⟨ct,cp,ch,xs,zs,x0,x1,x2,x3,x4,x5,x6,x7⟩ a cap::X):=hk
   have hg':g=gAp∨g=gAl:=by
    unfold Aoh at hg
    rw [lS] at hg
    exact hg.imp iE iE
   refine ⟨λ_=>(AkN hg' hle hS' k x c e u v).mono ?_, λhy=>?_⟩
   ·rintro en w' ⟨rfl,a',cap',h5⟩
    refine ⟨_,_,_,rfl,hQ a' cap',?_,?_,AA,h5⟩
    ·show Bj (.cells o 47 [_,_,_,(.slice sa sn sc, .pt 1 .slice),_,_,_,_,_,_,_,_]::_::_) _
     rw [hsl]
     exact Aey (s:=⟨ct,cp,ch,xs,zs,x0,x1,x2,x3,x4,x5,x6,x7⟩) (a:=a) (cap:=cap) (j:=1)
    ·exact AnG hk'
   ·exfalso
    rcases hg' with rfl|rfl<;>exact absurd hy (by decide)
 ·cases ht
end
section
open Go.Sl
def IU (t p h:Int) (ks as_ cs es us vs:LI):Bool:=true
abbrev AhU:Ct Sg:=⟨none,false,[.agg [.i .i64, .i .i64, .i .i64], .ro [some .i64,some .i64,some .i64,some .i64,some .i64,some .i64]], .b⟩
def AnI:Entry Sg:=CP AhU IU (λt p h ks as_ cs es us vs=>[Ap t p h=true])
def AhV (t p h:Int) (ks as_ cs es us vs:LI) (Q0:RS→MS→Prop) (Q1:Int→Int→Int→Nat→LI→LI→Int→Int→Int→Int→Int→Int→Int→Int→MS→Prop) (Q2:Int→Int→Int→Nat→LI→LI→Int→Int→Int→Int→Int→Int→Int→Int→MS→Int→Prop) (Q3:Int→Int→Int→Nat→LI→LI→Int→Int→Int→Int→Int→Int→Int→Int→MS→Int→Prop) (R_:Bool→Prop):Prop:=(BH (decide ((↑(iN ks):Int)>60)) (∀r2:Bool,r2=(true)→(R_ (r2))) (∀r2:MS,r2=({t:=t,p:=p,h:=h,l:=[],r0:=0,r1:=0,r2:=0,r3:=0,r4:=0,r5:=0,r6:=0,r7:=0})→(Ba (Eu t p h=0) (∀r5:RS,r5=({t:=t,p:=p,h:=h,a:=[],z:=[],r0:=0,r1:=0,r2:=0,r3:=0,r4:=0,r5:=0,r6:=0,r7:=0})→(Ba (Ap t p h=true) (BH (false) (R_ (false)) (Q0 (r5) (r2))))))))
def Aez (t p h:Int) (ks as_ cs es us vs:LI) (q_:RS) (m_:MS) (t_ p_ h_:Int) (n_:Nat) (al_ zl_:LI) (x0_ x1_ x2_ x3_ x4_ x5_ x6_ x7_:Int) (Q1:Int→Int→Int→Nat→LI→LI→Int→Int→Int→Int→Int→Int→Int→Int→MS→Prop):Prop:=(Q1 (t_) (p_) (h_) (n_) (al_) (zl_) (x0_) (x1_) (x2_) (x3_) (x4_) (x5_) (x6_) (x7_) (m_))
def Gl (t p h:Int) (ks as_ cs es us vs:LI) (q_:RS) (m_:MS) (r_:Bool):Prop:=q_=toR m_∧r_=true∧MI m_∧m_.t=t∧m_.p=p∧m_.h=h∧m_.l.length≤0∧ks.length≤60
def Ae0 (t p h:Int) (ks as_ cs es us vs:LI) (t_ p_ h_:Int) (n_:Nat) (a_ z_:LI) (r0_ r1_ r2_ r3_ r4_ r5_ r6_ r7_:Int) (m_:MS) (Q0:RS→MS→Prop) (Q1:Int→Int→Int→Nat→LI→LI→Int→Int→Int→Int→Int→Int→Int→Int→MS→Prop) (Q2:Int→Int→Int→Nat→LI→LI→Int→Int→Int→Int→Int→Int→Int→Int→MS→Int→Prop) (Q3:Int→Int→Int→Nat→LI→LI→Int→Int→Int→Int→Int→Int→Int→Int→MS→Int→Prop) (R_:Bool→Prop):Prop:=(Q2 (t_) (p_) (h_) (n_) (a_) (z_) (r0_) (r1_) (r2_) (r3_) (r4_) (r5_) (r6_) (r7_) (m_) (0))
def FQ (t p h:Int) (ks as_ cs es us vs:LI) (t_ p_ h_:Int) (n_:Nat) (a_ z_:LI) (r0_ r1_ r2_ r3_ r4_ r5_ r6_ r7_:Int) (m_:MS) (r_:Bool):Prop:=BI ⟨t_,p_,h_,n_,a_,z_,r0_,r1_,r2_,r3_,r4_,r5_,r6_,r7_⟩ (toR m_)∧r_=true∧MI m_∧m_.t=t∧m_.p=p∧m_.h=h∧m_.l.length≤0∧ks.length≤60
def Ae1 (t p h:Int) (ks as_ cs es us vs:LI) (t_ p_ h_:Int) (n_:Nat) (a_ z_:LI) (r0_ r1_ r2_ r3_ r4_ r5_ r6_ r7_:Int) (m_:MS) (i_:Int) (Q0:RS→MS→Prop) (Q1:Int→Int→Int→Nat→LI→LI→Int→Int→Int→Int→Int→Int→Int→Int→MS→Prop) (Q2:Int→Int→Int→Nat→LI→LI→Int→Int→Int→Int→Int→Int→Int→Int→MS→Int→Prop) (Q3:Int→Int→Int→Nat→LI→LI→Int→Int→Int→Int→Int→Int→Int→Int→MS→Int→Prop) (R_:Bool→Prop):Prop:=(BH (decide (i_<(↑(iN ks):Int))) (Q3 (t_) (p_) (h_) (n_) (a_) (z_) (r0_) (r1_) (r2_) (r3_) (r4_) (r5_) (r6_) (r7_) (m_) (i_)) (∀r1:Bool,r1=(true)→(R_ (r1))))
def Gm (t p h:Int) (ks as_ cs es us vs:LI) (t_ p_ h_:Int) (n_:Nat) (a_ z_:LI) (r0_ r1_ r2_ r3_ r4_ r5_ r6_ r7_:Int) (m_:MS) (i_:Int) (r_:Bool):Prop:=BI ⟨t_,p_,h_,n_,a_,z_,r0_,r1_,r2_,r3_,r4_,r5_,r6_,r7_⟩ (toR m_)∧r_=true∧MI m_∧m_.t=t∧m_.p=p∧m_.h=h∧m_.l.length≤i_.toNat∧ks.length≤60∧0≤i_∧i_≤(ks.length:Int)
def Ae2 (t p h:Int) (ks as_ cs es us vs:LI) (t_ p_ h_:Int) (n_:Nat) (a_ z_:LI) (r0_ r1_ r2_ r3_ r4_ r5_ r6_ r7_:Int) (m_:MS) (i_:Int) (Q0:RS→MS→Prop) (Q1:Int→Int→Int→Nat→LI→LI→Int→Int→Int→Int→Int→Int→Int→Int→MS→Prop) (Q2:Int→Int→Int→Nat→LI→LI→Int→Int→Int→Int→Int→Int→Int→Int→MS→Int→Prop) (Q3:Int→Int→Int→Nat→LI→LI→Int→Int→Int→Int→Int→Int→Int→Int→MS→Int→Prop) (R_:Bool→Prop):Prop:=(Ba (0≤i_∧i_<(↑(iN ks):Int)) (Ba (0≤i_∧i_<(↑(iN ks):Int)) (Ba (0≤i_∧i_<(↑(iN ks):Int)) (Ba (0≤i_∧i_<(↑(iN ks):Int)) (∀r4:MS×Bool,r4=(bif !Bo m_ (iM ks (jL i_) 0) (iM as_ (jL i_) 0) (iM cs (jL i_) 0) (iM es (jL i_) 0) (iM us (jL i_) 0) (iM vs (jL i_) 0) then (m_,false) else bif iM es (jL i_) (0:Int) !=0 then (m_,true) else (FT m_ (iM ks (jL i_) 0) (iM as_ (jL i_) 0) (iM cs (jL i_) 0) (iM us (jL i_) 0) (iM vs (jL i_) 0),true))→(Ba (BZ (MS.l m_)) (Ba (n_=iN a_∧iN a_≤1000) (∀r7:RS×Bool,r7=(AbP 19 {t:=t_,p:=p_,h:=h_,a:=a_,z:=z_,r0:=r0_,r1:=r1_,r2:=r2_,r3:=r3_,r4:=r4_,r5:=r5_,r6:=r6_,r7:=r7_} (iM ks (jL i_) 0) (iM as_ (jL i_) 0) (iM cs (jL i_) 0) (iM es (jL i_) 0) (iM us (jL i_) 0) (iM vs (jL i_) 0))→(tw_ (BH (!r4.2==r7.2) (R_ (false)) (∀r10:LI×LI×Int×Int×Int×Int×Int×Int×Int×Int,r10=(Hg r4.1)→(Ba (BZ (MS.l r4.1)) (Ba (iN (MS.l r4.1)≤1000) (Ba (inB (MS.l r4.1)) (∀r15:Bool,r15=(Hr r10.1 r10.2.1 r10.2.2.1 r10.2.2.2.1 r10.2.2.2.2.1 r10.2.2.2.2.2.1 r10.2.2.2.2.2.2.1 r10.2.2.2.2.2.2.2.1 r10.2.2.2.2.2.2.2.2.1 r10.2.2.2.2.2.2.2.2.2 (RS.a r7.1) (RS.z r7.1) (RS.r0 r7.1) (RS.r1 r7.1) (RS.r2 r7.1) (RS.r3 r7.1) (RS.r4 r7.1) (RS.r5 r7.1) (RS.r6 r7.1) (RS.r7 r7.1))→(Ba (iN r10.1=iN r10.2.1) (Ba (iN (RS.a r7.1)=iN (RS.z r7.1)) (BH (!r15) (R_ (false)) (Q2 (RS.t r7.1) (RS.p r7.1) (RS.h r7.1) (iN (RS.a r7.1)) (RS.a r7.1) (RS.z r7.1) (RS.r0 r7.1) (RS.r1 r7.1) (RS.r2 r7.1) (RS.r3 r7.1) (RS.r4 r7.1) (RS.r5 r7.1) (RS.r6 r7.1) (RS.r7 r7.1) r4.1 (iS iB (i_+1)))))))))))))))))))))
def Gn (t p h:Int) (ks as_ cs es us vs:LI) (t_ p_ h_:Int) (n_:Nat) (a_ z_:LI) (r0_ r1_ r2_ r3_ r4_ r5_ r6_ r7_:Int) (m_:MS) (i_:Int) (r_:Bool):Prop:=BI ⟨t_,p_,h_,n_,a_,z_,r0_,r1_,r2_,r3_,r4_,r5_,r6_,r7_⟩ (toR m_)∧r_=true∧MI m_∧m_.t=t∧m_.p=p∧m_.h=h∧m_.l.length≤i_.toNat∧ks.length≤60∧0≤i_∧i_<(ks.length:Int)
abbrev VC (p0:Addr) (t p h:Int) (ks as_ cs es us vs:LI):Hd Sg:=⟨some 0,[0,0,1,1,1,1],[.code [1,0,1,1,1,1], .code [1,1,1,1,1]],[6,5,1],[.objb D7, .objb D5, .roc [.ints .i64 (ks), .ints .i64 (as_), .ints .i64 (cs), .ints .i64 (es), .ints .i64 (us), .ints .i64 (vs)]]⟩
abbrev VD (p0:Addr) (t p h:Int) (ks as_ cs es us vs:LI):Hd Sg:=⟨some 0,[0,0,1,1,1,1],[.code [1,0,1,1,1,1], .code [1,1,1,1,1]],[6,5,1],[.box BL.t BL.l, .objb D5, .roc [.ints .i64 (ks), .ints .i64 (as_), .ints .i64 (cs), .ints .i64 (es), .ints .i64 (us), .ints .i64 (vs)]]⟩
abbrev VE (p0:Addr) (t p h:Int) (ks as_ cs es us vs:LI):Hd Sg:=⟨none,[0,1,0,1,1,1,1],[.blk 0, .code [1,1,1,1,1]],[6,5,1,7],[.box BL.t BL.l, .objb D5, .roc [.ints .i64 (ks), .ints .i64 (as_), .ints .i64 (cs), .ints .i64 (es), .ints .i64 (us), .ints .i64 (vs)], .i .i64]⟩
abbrev VF (p0:Addr) (t p h:Int) (ks as_ cs es us vs:LI):Hd Sg:=⟨some 900,[0,0,0,1,0,0,1,0,1,1,1,1],[.code [1,0,0,1,0,0,1,0,1,1,1,1], .blk 1, .code [1,1,0,0,1,0,1,1,1,1], .again [0,1,0,1,1,1,1], .blk 0, .code [1,1,1,1,1]],[6,5,1,7],[.box BL.t BL.l, .objb D5, .roc [.ints .i64 (ks), .ints .i64 (as_), .ints .i64 (cs), .ints .i64 (es), .ints .i64 (us), .ints .i64 (vs)], .i .i64]⟩
theorem AhW (t p h:Int) (ks as_ cs es us vs:LI) (hp0:Ap t p h=true) (hl0:ks.length≤9223372036854775807):AhV t p h ks as_ cs es us vs (λq_' m_'=>Gl t p h ks as_ cs es us vs q_' m_' (IU t p h ks as_ cs es us vs)) (λt_' p_' h_' n_' a_' z_' r0_' r1_' r2_' r3_' r4_' r5_' r6_' r7_' m_'=>FQ t p h ks as_ cs es us vs t_' p_' h_' n_' a_' z_' r0_' r1_' r2_' r3_' r4_' r5_' r6_' r7_' m_' (IU t p h ks as_ cs es us vs)) (λt_' p_' h_' n_' a_' z_' r0_' r1_' r2_' r3_' r4_' r5_' r6_' r7_' m_' i_'=>Gm t p h ks as_ cs es us vs t_' p_' h_' n_' a_' z_' r0_' r1_' r2_' r3_' r4_' r5_' r6_' r7_' m_' i_' (IU t p h ks as_ cs es us vs)) (λt_' p_' h_' n_' a_' z_' r0_' r1_' r2_' r3_' r4_' r5_' r6_' r7_' m_' i_'=>Gn t p h ks as_ cs es us vs t_' p_' h_' n_' a_' z_' r0_' r1_' r2_' r3_' r4_' r5_' r6_' r7_' m_' i_' (IU t p h ks as_ cs es us vs)) (λr__=>r__=(IU t p h ks as_ cs es us vs)):=by
 unfold AhV
 try unfold Gl
 try unfold FQ
 try unfold Gm
 try unfold Gn
 refine ⟨λ_=>?_, λh=>?_⟩
 ·rintro r2 rfl;rfl
 ·have h:¬((ks.length:Int)>60):=by simpa using h
  rintro r2 rfl
  refine ⟨An9 (Rz hp0), λ_=>?_⟩
  rintro r5 rfl
  exact ⟨hp0, λ_=>⟨λh=>(by cases h), λ_=>⟨rfl,rfl,ApY hp0,rfl,rfl,rfl,kA _,by omega⟩⟩⟩
theorem AhX (t p h:Int) (ks as_ cs es us vs:LI) (hp0:Ap t p h=true) (hl0:ks.length≤9223372036854775807) (q_:RS) (m_:MS) (t_ p_ h_:Int) (n_:Nat) (al_ zl_:LI) (x0_ x1_ x2_ x3_ x4_ x5_ x6_ x7_:Int) {r_:Bool} (hI:Gl t p h ks as_ cs es us vs q_ m_ r_) (hx:BI ⟨t_,p_,h_,n_,al_,zl_,x0_,x1_,x2_,x3_,x4_,x5_,x6_,x7_⟩ (q_)):Aez t p h ks as_ cs es us vs q_ m_ t_ p_ h_ n_ al_ zl_ x0_ x1_ x2_ x3_ x4_ x5_ x6_ x7_ (λt_' p_' h_' n_' a_' z_' r0_' r1_' r2_' r3_' r4_' r5_' r6_' r7_' m_'=>FQ t p h ks as_ cs es us vs t_' p_' h_' n_' a_' z_' r0_' r1_' r2_' r3_' r4_' r5_' r6_' r7_' m_' r_∧lx (1000,4,0) (1000,5,0)):=by
 unfold Gl at hI
 unfold Aez
 try unfold Gl
 try unfold FQ
 try unfold Gm
 try unfold Gn
 obtain ⟨rfl,hr,h1,h2,h3,h4,h5,h8⟩:=hI
 exact ⟨⟨hx,hr,h1,h2,h3,h4,h5,h8⟩,BU⟩
theorem AhY (t p h:Int) (ks as_ cs es us vs:LI) (hp0:Ap t p h=true) (hl0:ks.length≤9223372036854775807) (t_ p_ h_:Int) (n_:Nat) (a_ z_:LI) (r0_ r1_ r2_ r3_ r4_ r5_ r6_ r7_:Int) (m_:MS) {r_:Bool} (hI:FQ t p h ks as_ cs es us vs t_ p_ h_ n_ a_ z_ r0_ r1_ r2_ r3_ r4_ r5_ r6_ r7_ m_ r_):Ae0 t p h ks as_ cs es us vs t_ p_ h_ n_ a_ z_ r0_ r1_ r2_ r3_ r4_ r5_ r6_ r7_ m_ (λq_' m_'=>Gl t p h ks as_ cs es us vs q_' m_' r_∧lx (1000,5,0) (1000,4,0)) (λt_' p_' h_' n_' a_' z_' r0_' r1_' r2_' r3_' r4_' r5_' r6_' r7_' m_'=>FQ t p h ks as_ cs es us vs t_' p_' h_' n_' a_' z_' r0_' r1_' r2_' r3_' r4_' r5_' r6_' r7_' m_' r_∧lx (1000,4,0) (1000,4,0)) (λt_' p_' h_' n_' a_' z_' r0_' r1_' r2_' r3_' r4_' r5_' r6_' r7_' m_' i_'=>Gm t p h ks as_ cs es us vs t_' p_' h_' n_' a_' z_' r0_' r1_' r2_' r3_' r4_' r5_' r6_' r7_' m_' i_' r_∧lx (((ks.length:Int)-i_').toNat,3,0) (1000,4,0)) (λt_' p_' h_' n_' a_' z_' r0_' r1_' r2_' r3_' r4_' r5_' r6_' r7_' m_' i_'=>Gn t p h ks as_ cs es us vs t_' p_' h_' n_' a_' z_' r0_' r1_' r2_' r3_' r4_' r5_' r6_' r7_' m_' i_' r_∧lx (((ks.length:Int)-i_').toNat,2,0) (1000,4,0)) (λr__=>r__=r_):=by
 unfold FQ at hI
 unfold Ae0
 try unfold Gl
 try unfold FQ
 try unfold Gm
 try unfold Gn
 obtain ⟨hR,hr,h1,h2,h3,h4,h5,h8⟩:=hI
 exact ⟨⟨hR,hr,h1,h2,h3,h4,h5,h8,by decide,by omega⟩,BU⟩
theorem AhZ (t p h:Int) (ks as_ cs es us vs:LI) (hp0:Ap t p h=true) (hl0:ks.length≤9223372036854775807) (t_ p_ h_:Int) (n_:Nat) (a_ z_:LI) (r0_ r1_ r2_ r3_ r4_ r5_ r6_ r7_:Int) (m_:MS) (i_:Int) {r_:Bool} (hI:Gm t p h ks as_ cs es us vs t_ p_ h_ n_ a_ z_ r0_ r1_ r2_ r3_ r4_ r5_ r6_ r7_ m_ i_ r_):Ae1 t p h ks as_ cs es us vs t_ p_ h_ n_ a_ z_ r0_ r1_ r2_ r3_ r4_ r5_ r6_ r7_ m_ i_ (λq_' m_'=>Gl t p h ks as_ cs es us vs q_' m_' r_∧lx (1000,5,0) (((ks.length:Int)-i_).toNat,3,0)) (λt_' p_' h_' n_' a_' z_' r0_' r1_' r2_' r3_' r4_' r5_' r6_' r7_' m_'=>FQ t p h ks as_ cs es us vs t_' p_' h_' n_' a_' z_' r0_' r1_' r2_' r3_' r4_' r5_' r6_' r7_' m_' r_∧lx (1000,4,0) (((ks.length:Int)-i_).toNat,3,0)) (λt_' p_' h_' n_' a_' z_' r0_' r1_' r2_' r3_' r4_' r5_' r6_' r7_' m_' i_'=>Gm t p h ks as_ cs es us vs t_' p_' h_' n_' a_' z_' r0_' r1_' r2_' r3_' r4_' r5_' r6_' r7_' m_' i_' r_∧lx (((ks.length:Int)-i_').toNat,3,0) (((ks.length:Int)-i_).toNat,3,0)) (λt_' p_' h_' n_' a_' z_' r0_' r1_' r2_' r3_' r4_' r5_' r6_' r7_' m_' i_'=>Gn t p h ks as_ cs es us vs t_' p_' h_' n_' a_' z_' r0_' r1_' r2_' r3_' r4_' r5_' r6_' r7_' m_' i_' r_∧lx (((ks.length:Int)-i_').toNat,2,0) (((ks.length:Int)-i_).toNat,3,0)) (λr__=>r__=r_):=by
 unfold Gm at hI
 unfold Ae1
 try unfold Gl
 try unfold FQ
 try unfold Gm
 try unfold Gn
 obtain ⟨hR,hr,h1,h2,h3,h4,h5,h8,h6,h7⟩:=hI
 refine ⟨λhlt=>⟨⟨hR,hr,h1,h2,h3,h4,h5,h8,h6,by simpa using hlt⟩,BU⟩, λ_=>?_⟩
 rintro r1 rfl
 exact hr.symm
theorem Aia (t p h:Int) (ks as_ cs es us vs:LI) (hp0:Ap t p h=true) (hl0:ks.length≤9223372036854775807) (t_ p_ h_:Int) (n_:Nat) (a_ z_:LI) (r0_ r1_ r2_ r3_ r4_ r5_ r6_ r7_:Int) (m_:MS) (i_:Int) {r_:Bool} (hI:Gn t p h ks as_ cs es us vs t_ p_ h_ n_ a_ z_ r0_ r1_ r2_ r3_ r4_ r5_ r6_ r7_ m_ i_ r_):Ae2 t p h ks as_ cs es us vs t_ p_ h_ n_ a_ z_ r0_ r1_ r2_ r3_ r4_ r5_ r6_ r7_ m_ i_ (λq_' m_'=>Gl t p h ks as_ cs es us vs q_' m_' r_∧lx (1000,5,0) (((ks.length:Int)-i_).toNat,2,0)) (λt_' p_' h_' n_' a_' z_' r0_' r1_' r2_' r3_' r4_' r5_' r6_' r7_' m_'=>FQ t p h ks as_ cs es us vs t_' p_' h_' n_' a_' z_' r0_' r1_' r2_' r3_' r4_' r5_' r6_' r7_' m_' r_∧lx (1000,4,0) (((ks.length:Int)-i_).toNat,2,0)) (λt_' p_' h_' n_' a_' z_' r0_' r1_' r2_' r3_' r4_' r5_' r6_' r7_' m_' i_'=>Gm t p h ks as_ cs es us vs t_' p_' h_' n_' a_' z_' r0_' r1_' r2_' r3_' r4_' r5_' r6_' r7_' m_' i_' r_∧lx (((ks.length:Int)-i_').toNat,3,0) (((ks.length:Int)-i_).toNat,2,0)) (λt_' p_' h_' n_' a_' z_' r0_' r1_' r2_' r3_' r4_' r5_' r6_' r7_' m_' i_'=>Gn t p h ks as_ cs es us vs t_' p_' h_' n_' a_' z_' r0_' r1_' r2_' r3_' r4_' r5_' r6_' r7_' m_' i_' r_∧lx (((ks.length:Int)-i_').toNat,2,0) (((ks.length:Int)-i_).toNat,2,0)) (λr__=>r__=r_):=by
 unfold Gn at hI
 unfold Ae2
 try unfold Gl
 try unfold FQ
 try unfold Gm
 try unfold Gn
 obtain ⟨hR,hr,h1,rfl,rfl,rfl,h5,h8,h6,h7⟩:=hI
 have hl:a_.length=m_.l.length:=by
  have:=len_eq m_
  rw [hR.eq] at this
  exact this
 refine ⟨⟨h6,h7⟩, λ_=>⟨⟨h6,h7⟩, λ_=>⟨⟨h6,h7⟩, λ_=>⟨⟨h6,h7⟩, λ_=>?_⟩⟩⟩⟩
 intro r4 e4
 have e4:r4=Ae m_ (ks.getD i_.toNat 0) (as_.getD i_.toNat 0) (cs.getD i_.toNat 0) (es.getD i_.toNat 0) (us.getD i_.toNat 0) (vs.getD i_.toNat 0):=e4
 obtain ⟨g1,g2,g3,g4,g5,g6,_⟩:=AnE h1 (ks.getD i_.toNat 0) (as_.getD i_.toNat 0) (cs.getD i_.toNat 0) (es.getD i_.toNat 0) (us.getD i_.toNat 0) (vs.getD i_.toNat 0)
 rw [←e4] at g1 g2 g3 g4 g5 g6
 refine ⟨h1.nd, λ_=>⟨⟨hR.n,by omega⟩, λ_=>?_⟩⟩
 intro r7 e7
 have e7:r7=Ac (toR m_) (ks.getD i_.toNat 0) (as_.getD i_.toNat 0) (cs.getD i_.toNat 0) (es.getD i_.toNat 0) (us.getD i_.toNat 0) (vs.getD i_.toNat 0):=by rw [hR.eq];exact e7
 rw [g6] at e7
 clear e4 g6
 obtain ⟨s',b⟩:=r4
 subst e7
 dsimp only at g1 g2 g3 g4 g5 ⊢
 have hz:(toR s').a.length=(toR s').z.length:=by
  show ((CZ s'.l).map _).length=((CZ s'.l).map _).length
  rw [kC,kC]
 refine ⟨?_,?_⟩<;>
 ·refine ⟨λhb=>?_, λ_=>?_⟩
  ·exfalso
   cases b<;>cases hb
  ·rintro r10 rfl
   refine ⟨g1.nd, λ_=>⟨by omega, λ_=>⟨g1.inB, λ_=>?_⟩⟩⟩
   rintro r15 rfl
   refine ⟨st_len _, λ_=>⟨hz, λ_=>⟨λhb=>?_, λ_=>?_⟩⟩⟩
   ·exfalso
    change (!Hr ((CZ s'.l).map (·.1)) ((CZ s'.l).map (·.2)) s'.r0 s'.r1 s'.r2 s'.r3 s'.r4 s'.r5 s'.r6 s'.r7 ((CZ s'.l).map (·.1)) ((CZ s'.l).map (·.2)) s'.r0 s'.r1 s'.r2 s'.r3 s'.r4 s'.r5 s'.r6 s'.r7)=true at hb
    rw [Am0] at hb
    cases hb
   ·rw [Ic (n:=i_+1) (by omega)]
    exact ⟨⟨⟨rfl,hz.symm,rfl⟩,hr,g1,g3,g4,g5,by omega,h8,by omega,by omega⟩,BU⟩
theorem Am3:DZ 4 AnI:=
 ApZ Dg AkI (I:=[2450000,5660050900,2999998,6571000000006,6571000000005,6571000000001,6571000000007]) Try.func4 mix (B:=AY Try.f4) (by kernel_rfl) rfl (by kernel_rfl) 400
  λp0 t p h ks as_ cs es us vs hb hp=>have hl0:ks.length≤9223372036854775807:=hb.2.1;have hp0:Ap t p h=true:=hp _ (.head _);⟨[VC p0 t p h ks as_ cs es us vs,VD p0 t p h ks as_ cs es us vs,VE p0 t p h ks as_ cs es us vs,VF p0 t p h ks as_ cs es us vs],[.opn ⟨D7,BL⟩ 0 (λad=>(ad 0).b) 1, .run, .run, .wid AkO], λj=>iM [Ak (Hd.kd (VC p0 t p h ks as_ cs es us vs)) (λq_' m_'=>Gl t p h ks as_ cs es us vs q_' m_' (IU t p h ks as_ cs es us vs)),Ak (Hd.kd (VD p0 t p h ks as_ cs es us vs)) (λt_' p_' h_' n_' a_' z_' r0_' r1_' r2_' r3_' r4_' r5_' r6_' r7_' m_'=>FQ t p h ks as_ cs es us vs t_' p_' h_' n_' a_' z_' r0_' r1_' r2_' r3_' r4_' r5_' r6_' r7_' m_' (IU t p h ks as_ cs es us vs)),Ak (Hd.kd (VE p0 t p h ks as_ cs es us vs)) (λt_' p_' h_' n_' a_' z_' r0_' r1_' r2_' r3_' r4_' r5_' r6_' r7_' m_' i_'=>Gm t p h ks as_ cs es us vs t_' p_' h_' n_' a_' z_' r0_' r1_' r2_' r3_' r4_' r5_' r6_' r7_' m_' i_' (IU t p h ks as_ cs es us vs)),Ak (Hd.kd (VF p0 t p h ks as_ cs es us vs)) (λt_' p_' h_' n_' a_' z_' r0_' r1_' r2_' r3_' r4_' r5_' r6_' r7_' m_' i_'=>Gn t p h ks as_ cs es us vs t_' p_' h_' n_' a_' z_' r0_' r1_' r2_' r3_' r4_' r5_' r6_' r7_' m_' i_' (IU t p h ks as_ cs es us vs))] j (λ_=>False), λj=>iM [Ak (Hd.kd (VC p0 t p h ks as_ cs es us vs)) (λq_' m_'=>(1000,5,0)),Ak (Hd.kd (VD p0 t p h ks as_ cs es us vs)) (λt_' p_' h_' n_' a_' z_' r0_' r1_' r2_' r3_' r4_' r5_' r6_' r7_' m_'=>(1000,4,0)),Ak (Hd.kd (VE p0 t p h ks as_ cs es us vs)) (λt_' p_' h_' n_' a_' z_' r0_' r1_' r2_' r3_' r4_' r5_' r6_' r7_' m_' i_'=>(((ks.length:Int)-i_').toNat,3,0)),Ak (Hd.kd (VF p0 t p h ks as_ cs es us vs)) (λt_' p_' h_' n_' a_' z_' r0_' r1_' r2_' r3_' r4_' r5_' r6_' r7_' m_' i_'=>(((ks.length:Int)-i_').toNat,2,0))] j (λ_=>(0,0,0)),by kernel_rfl,⟨_, λ_ _ _=>by kernel_rfl,AhW t p h ks as_ cs es us vs hp0 hl0⟩,⟨⟨I5, λq_ m_ hI=>⟨q_, λ_=>by kernel_rfl, λt_ p_ h_ n_ al_ zl_ x0_ x1_ x2_ x3_ x4_ x5_ x6_ x7_ hx=>⟨_, λ_ _=>by kernel_rfl,AhX t p h ks as_ cs es us vs hp0 hl0 q_ m_ t_ p_ h_ n_ al_ zl_ x0_ x1_ x2_ x3_ x4_ x5_ x6_ x7_ hI hx⟩⟩⟩,⟨λt_ p_ h_ n_ a_ z_ r0_ r1_ r2_ r3_ r4_ r5_ r6_ r7_ m_ hI=>⟨_, λ_ _ _=>by kernel_rfl,AhY t p h ks as_ cs es us vs hp0 hl0 t_ p_ h_ n_ a_ z_ r0_ r1_ r2_ r3_ r4_ r5_ r6_ r7_ m_ hI⟩,⟨λt_ p_ h_ n_ a_ z_ r0_ r1_ r2_ r3_ r4_ r5_ r6_ r7_ m_ i_ hI=>⟨_, λ_ _ _=>by kernel_rfl,AhZ t p h ks as_ cs es us vs hp0 hl0 t_ p_ h_ n_ a_ z_ r0_ r1_ r2_ r3_ r4_ r5_ r6_ r7_ m_ i_ hI⟩,⟨⟨AnH,⟨_,rfl⟩,by kernel_rfl,rfl, λt_ p_ h_ n_ a_ z_ r0_ r1_ r2_ r3_ r4_ r5_ r6_ r7_ m_ i_ hI=>⟨_, λ_ _ _=>by kernel_rfl,Aia t p h ks as_ cs es us vs hp0 hl0 t_ p_ h_ n_ a_ z_ r0_ r1_ r2_ r3_ r4_ r5_ r6_ r7_ m_ i_ hI⟩⟩,trivial⟩⟩⟩⟩⟩
theorem Aib (t p h:Int) (ks as_ cs es us vs:LI) (a_0:Option Addr) (c_0:Nat) {E_:Ev} {G_:Hp} {w_:World} (hr0:En G_ a_0 ks.length [.ints .i64 ks, .ints .i64 as_, .ints .i64 cs, .ints .i64 es, .ints .i64 us, .ints .i64 vs]∧ks.length≤c_0) (hp0:Ap t p h=true) (hS:Sat E_ G_ w_ []):Calls Try.prog 4 #[(.agg #[.int .i64 t, .int .i64 p, .int .i64 h]),(.slice a_0 ks.length c_0)] w_ (λen w'=>en= .returned (.bool (IU t p h ks as_ cs es us vs))∧Sat E_ G_ w' []):=by
 refine Alz Dg (c:=AhU) (F:=IU) (pre:= λt p h ks as_ cs es us vs=>[Ap t p h=true]) Am3 [((.agg #[.int .i64 t, .int .i64 p, .int .i64 h]),(.none)),((.slice a_0 ks.length c_0),(.row ks.length [.ints .i64 ks, .ints .i64 as_, .ints .i64 cs, .ints .i64 es, .ints .i64 us, .ints .i64 vs]))] [.i t, .i p, .i h, .li ks, .li as_, .li cs, .li es, .li us, .li vs] (by kernel_rfl) _ (by kernel_rfl) (by kernel_rfl) (by kernel_rfl) ?_ ?_ hS
 ·intro p_ hp_
  have hp_:p_∈[(Ap t p h=true:Prop)]:=hp_
  simp only [iF,jF,or_false] at hp_
  rcases hp_ with rfl
  ·exact hp0
 ·intro x hx
  simp only [iF,jF,or_false] at hx
  rcases hx with rfl|rfl
  ·first|(simp only [F5,F6,and_true,true_and];done)|(simp only [F5,F6,and_true,true_and];exact ⟨_,_,rfl,trivial⟩)|simp [F5,F6]
  ·first|(simp only [F5,F6,and_true,true_and];done)|(simp only [F5,F6,and_true,true_and];exact ⟨_,_,rfl,hr0.1,hr0.2, λh=>by cases h⟩)|simp [F5,F6]
end
section
open Go.Sl
def Aqt:Tb:=(7,Zk)::Rj
theorem AnJ:DU Aqt:=Ej Aex ML
def Wi (t p h:Int) (ks as_ cs es us vs:LI):Bool:=true
abbrev Ae3:Ct Sg:=⟨none,false,[.agg [.i .i64, .i .i64, .i .i64], .ro [some .i64,some .i64,some .i64,some .i64,some .i64,some .i64]], .b⟩
def Am4:Entry Sg:=CP Ae3 Wi (λt p h ks as_ cs es us vs=>[Ap t p h=false])
def Ae4 (t p h:Int) (ks as_ cs es us vs:LI) (R_:Bool→Prop):Prop:=(BH (decide ((↑(iN ks):Int)>60)) (R_ (true)) ((BH (Eu t p h !=0) (BH (!Ap t p h) (BH (true) (R_ (true)) False) (Ba (False) False)) (Ba (False) False))∧(BH (Eu t p h !=0) (BH (!Ap t p h) (BH (true) (R_ (true)) False) (Ba (False) False)) (Ba (False) False))))
theorem Afk (t p h:Int) (ks as_ cs es us vs:LI) (hp0:Ap t p h=false) (hl0:ks.length≤9223372036854775807):Ae4 t p h ks as_ cs es us vs (λr__=>r__=(Wi t p h ks as_ cs es us vs)):=by
 unfold Ae4
 refine ⟨λ_=>rfl, λ_=>?_⟩
 refine ⟨?_,?_⟩<;>
 ·refine ⟨λ_=>⟨λ_=>⟨λ_=>rfl, λh=>(by cases h)⟩, λh=>?_⟩, λh=>?_⟩
  ·rw [hp0] at h;cases h
  ·rw [Ams hp0] at h;cases h
theorem AkP:DZ 4 Am4:=
 Al3 Dg AnJ (I:=[16,17,1026004,1026002]) Try.func4 mix (B:=AY Try.f4) (by kernel_rfl) rfl (by kernel_rfl) 400
  λ_ t p h ks as_ cs es us vs hb hp=>⟨_, λ_ _ _=>by kernel_rfl,Afk t p h ks as_ cs es us vs (hp _ (.head _)) (hb.2.1)⟩
theorem Afl (t p h:Int) (ks as_ cs es us vs:LI) (a_0:Option Addr) (c_0:Nat) {E_:Ev} {G_:Hp} {w_:World} (hr0:En G_ a_0 ks.length [.ints .i64 ks, .ints .i64 as_, .ints .i64 cs, .ints .i64 es, .ints .i64 us, .ints .i64 vs]∧ks.length≤c_0) (hp0:Ap t p h=false) (hS:Sat E_ G_ w_ []):Calls Try.prog 4 #[(.agg #[.int .i64 t, .int .i64 p, .int .i64 h]),(.slice a_0 ks.length c_0)] w_ (λen w'=>en= .returned (.bool (Wi t p h ks as_ cs es us vs))∧Sat E_ G_ w' []):=by
 refine Alz Dg (c:=Ae3) (F:=Wi) (pre:= λt p h ks as_ cs es us vs=>[Ap t p h=false]) AkP [((.agg #[.int .i64 t, .int .i64 p, .int .i64 h]),(.none)),((.slice a_0 ks.length c_0),(.row ks.length [.ints .i64 ks, .ints .i64 as_, .ints .i64 cs, .ints .i64 es, .ints .i64 us, .ints .i64 vs]))] [.i t, .i p, .i h, .li ks, .li as_, .li cs, .li es, .li us, .li vs] (by kernel_rfl) _ (by kernel_rfl) (by kernel_rfl) (by kernel_rfl) ?_ ?_ hS
 ·intro p_ hp_
  have hp_:p_∈[(Ap t p h=false:Prop)]:=hp_
  simp only [iF,jF,or_false] at hp_
  rcases hp_ with rfl
  ·exact hp0
 ·intro x hx
  simp only [iF,jF,or_false] at hx
  rcases hx with rfl|rfl
  ·first|(simp only [F5,F6,and_true,true_and];done)|(simp only [F5,F6,and_true,true_and];exact ⟨_,_,rfl,trivial⟩)|simp [F5,F6]
  ·first|(simp only [F5,F6,and_true,true_and];done)|(simp only [F5,F6,and_true,true_and];exact ⟨_,_,rfl,hr0.1,hr0.2, λh=>by cases h⟩)|simp [F5,F6]
end
section
open Go Go.Sl
def ModelRuns (_t _p _h:Int) (_ks _as _cs _es _us _vs:LI):Bool:=true
theorem AbQ (t p h:Int) (ks as_ cs es us vs:LI) (a_0:Option Addr) (c_0:Nat) {E_:Ev} {G_:Hp} {w_:World} (hr0:En G_ a_0 ks.length [.ints .i64 ks, .ints .i64 as_, .ints .i64 cs, .ints .i64 es, .ints .i64 us, .ints .i64 vs]∧ks.length≤c_0) (hS:Sat E_ G_ w_ []):
 Calls Try.prog 4 #[.agg #[.int .i64 t, .int .i64 p, .int .i64 h], .slice a_0 ks.length c_0] w_ (λen w'=>en= .returned (.bool (ModelRuns t p h ks as_ cs es us vs))∧Sat E_ G_ w' []):=by
 cases hr:Ap t p h with
 |true=>exact Aib t p h ks as_ cs es us vs a_0 c_0 hr0 hr hS
 |false=>exact Afl t p h ks as_ cs es us vs a_0 c_0 hr0 hr hS
end
section
open Go.ChangeShapes Go.WideShapes Go.ChangeAt Go.RowKit Go.Joins Go.Sl
theorem Afm:ownKnob Try.prog.godebug=none:=by kernel_rfl
theorem Wu:laidOutB Try.prog=true:=by kernel_rfl
set_option maxRecDepth 100000 in
theorem Zm (os:Os) (started:os.Started) (H:Type) (enc:TypeId×Value→H):
 ReturnsInHanded {} Try.checked os 4 .any (Rows.modelRunsSpec.pre6 enc Try.prog Try.f4 Rows.modelRunsRow.domain false) (Rows.modelRunsSpec.post enc Try.prog Try.f4 false true false false):=by
 refine returnsInHanded_of_change (C:=Try.checked) Afm started (by kernel_rfl) Try.func4
  (ChangeSpec.witness6 (enc:=enc) (C:=Try.checked) false ⟨#[], #[.agg #[.int .i64 0, .int .i64 0, .int .i64 0], .slice none 0 0],[]⟩ 8 (by kernel_rfl) (by kernel_rfl) (by kernel_rfl) (by kernel_rfl)) ?_
 intro W base args ds gs before hval0 hW _ _
 have hval:∀(j:Nat) t v,Try.f4.params[j]? =some t→args[j]? =some v→Value.okWide Try.prog W .any base t v:=hval0
 have hW':=hW
 obtain ⟨p,q,hA0,_,_,_,_⟩:=hW
 have hA:DataW.TrodAll enc Try.prog W 0 (λ_=>true) true Try.f4.params.toList args.toList ds p:=hA0
 rw [Try.params4] at hA hval
 obtain ⟨v0,v1,d0,d1,p0,p1,rfl,rfl,_,h0,h1⟩:=trodAll_two hA
 obtain ⟨k0,rfl,hk0⟩:=Alt 8 (by kernel_rfl) (sh:=[.int .i64, .int .i64, .int .i64]) (by kernel_rfl) (hval 0 23 v0 rfl rfl) h0
 obtain ⟨_,r0_0,rfl,⟨a0_0,rfl,wa0_0⟩,hk0⟩:=hk0
 have ba0_0:=Agc wa0_0
 obtain ⟨_,r0_1,rfl,⟨a0_1,rfl,wa0_1⟩,hk0⟩:=hk0
 have ba0_1:=Agc wa0_1
 obtain ⟨_,r0_2,rfl,⟨a0_2,rfl,wa0_2⟩,hk0⟩:=hk0
 have ba0_2:=Agc wa0_2
 obtain rfl:=hk0
 obtain ⟨s1,n1,c1,k1,rfl,hk1,hr1⟩:=Alu 8 Try.underlying49 (sh:=[.int .i64, .int .i64, .int .i64, .int .i64, .int .i64, .int .i64]) (by kernel_rfl) (by kernel_rfl) (hval 1 49 v1 rfl rfl) h1
 obtain ⟨_,r1_0,rfl,⟨x1_0,rfl,hl1_0,hw1_0⟩,hk1⟩:=hk1
 obtain ⟨_,r1_1,rfl,⟨x1_1,rfl,hl1_1,hw1_1⟩,hk1⟩:=hk1
 obtain ⟨_,r1_2,rfl,⟨x1_2,rfl,hl1_2,hw1_2⟩,hk1⟩:=hk1
 obtain ⟨_,r1_3,rfl,⟨x1_3,rfl,hl1_3,hw1_3⟩,hk1⟩:=hk1
 obtain ⟨_,r1_4,rfl,⟨x1_4,rfl,hl1_4,hw1_4⟩,hk1⟩:=hk1
 obtain ⟨_,r1_5,rfl,⟨x1_5,rfl,hl1_5,hw1_5⟩,hk1⟩:=hk1
 obtain rfl:=hk1
 subst hl1_0
 clear hA0 hval0
 refine (AbQ a0_0 a0_1 a0_2 x1_0 x1_1 x1_2 x1_3 x1_4 x1_5 s1 c1 hr1 (Sat.start W)).mono λe W' ⟨he,hS⟩=>?_
 rw [show ModelRuns a0_0 a0_1 a0_2 x1_0 x1_1 x1_2 x1_3 x1_4 x1_5=true from rfl] at he
 subst he
 exact ⟨_,rfl,AmT 4 Wu hW' rfl rfl Try.underlying4 (by kernel_rfl) ⟨rfl,rfl,rfl⟩ hS.below⟩
theorem ModelRuns_holds:Rows.ModelRunsSaid:=
 OpenClaim.holds_of_wide 4 Try.f4 rfl rfl rfl rfl rfl rfl rfl ⟨rfl,rfl,rfl,rfl,rfl⟩ rfl rfl rfl rfl rfl (by kernel_rfl) Try.func4 (by kernel_rfl)
  (of_decide_eq_true (by kernel_rfl)) (by unfold Func.isWrapper;rw [if_neg (of_decide_eq_false (by kernel_rfl))];exact ⟨rfl,rfl⟩)
  (λos started H enc _=>Zm os started H enc)
#print axioms ModelRuns_holds
end
end Go.Proofs.Ytdjfnbbmfmjckaa
