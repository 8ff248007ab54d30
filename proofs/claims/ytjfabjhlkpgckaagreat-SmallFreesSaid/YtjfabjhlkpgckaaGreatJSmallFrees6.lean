/-
  Freeing of every live slot, and flushing of every pocket, of every heap reads and writes what the document says, and the pockets are then what it says: the law's function answers true for every configuration, values and ask. Conditions: none.
-/
import Derived.Test.YtjfabjhlkpgckaaGreatJSmallFrees5
import Derived.Test.YtjfabjhlkpgckaaGreatRows
set_option linter.unusedSimpArgs false
set_option linter.unusedVariables false
open Go.IntKind renaming wrap → iA, i64 → iB, u32 → iO
open List renaming length → iC, getD → iE, getD_eq_getElem?_getD → iI, map_cons → iM, mem_cons → iN, getElem?_append_left → iQ, getElem?_eq_getElem → iR, getElem?_append_right → iS, getElem?_map → iV, length_append → jA, getElem?_set_self → jC, map_append → jD, getElem?_set_ne → jE, getElem?_eq_none → jG, append_assoc → jJ, length_cons → jK, mem_singleton → jL, cons_append → jM, length_map → jR, length_take → jT, replicate → jU, length_singleton → jW, mem_append → jX
open Go.Value renaming slice → iD, pointer → iT, int → iZ
open Prod renaming fst → iF, snd → iH
open Option.some renaming injEq → iG
open Int renaming toNat → iJ, toNat_natCast → jP, mul_le_mul_of_nonneg_right → jZ
open Bool renaming and_eq_true → iK, not_eq_true' → jB, not_eq_false' → jF, or_eq_false_iff → jI, not_true → jO, true_and → jV, false_or → jY
open Nat renaming eq_of_beq_eq_true → iL, le_of_ble_eq_true → iW, lt_or_ge → jH, zero_add → jS
open BitVec renaming ofInt → iP, toNat → jN
open Prod.mk renaming injEq → iU
open Option renaming map_some → iX, map → iY
open List.cons renaming injEq → jQ
namespace Go.Proofs.YtjfabjhlkpgckaaGreat
section
open Go.Sl
theorem good_len {c:Cf} {xs:LI} (h:AGood c xs):xs.length≤1000000:=by
 have h1:=Cf.ok_iff.1 h.ok
 have h2:=h.len
 rw [show c.cells=30+4*c.t+6*c.p by unfold Cf.cells;rw [h.ok];rfl] at h2
 omega
def r12_Parts (t p h:Int) (xs:LI):LI×LI×LI:=bif soundA ⟨t,p,h⟩ xs then ((partsL ⟨t,p,h⟩ xs).map (·.k),(partsL ⟨t,p,h⟩ xs).map (·.a),(partsL ⟨t,p,h⟩ xs).map (·.s)) else ([],[],[])
abbrev c_r12_Parts:Ct Sg:=⟨none,false,[.agg [.i .i64, .i .i64, .i .i64], .ro [some .u32]], .new 115 [some .i64,some .i64,some .i64]⟩
def e_r12_Parts:Entry Sg:=entC c_r12_Parts r12_Parts (λt p h xs=>[bdAll xs])
def r12_Parts_w (t p h:Int) (xs:LI) (R_:LI×LI×LI→Prop):Prop:=(∀r1:Bool,r1=(r12_Sound t p h xs)→(aw_ (bdAll xs) (bw_ (!r1) (R_ (([],[],[]))) (∀r5:LI×LI×LI,r5=(x_parts t p h xs)→(aw_ (AGood {t:=t,p:=p,s:=h} xs) (R_ ((r5.1,r5.2.1,r5.2.2))))))))
theorem r12_Parts_begin (t p h:Int) (xs:LI) (hp0:bdAll xs) (hl0:xs.length≤9223372036854775807):r12_Parts_w t p h xs (λr__=>r__=(r12_Parts t p h xs)):=by
 unfold r12_Parts_w
 have hS:soundA ⟨t,p,h⟩ xs=r12_Sound t p h xs:=rfl
 rintro r rfl
 refine ⟨hp0, λ_=>⟨λh1=>?_, λh1=>?_⟩⟩
 ·show _=r12_Parts t p h xs
  rw [←hS] at h1
  rw [r12_Parts,(jB _).mp h1];rfl
 ·rintro r rfl
  rw [←hS] at h1
  have hs:=(jF _).mp h1
  refine ⟨sound_good hs hp0, λ_=>?_⟩
  show _=r12_Parts t p h xs
  rw [r12_Parts,hs];rfl
theorem r12_Parts_ok:EOk 64 e_r12_Parts:=
 ent_w0 Dg T_small_Alloc_ok (I:=[2999998]) Tryz.func64 mix (B:=bodyOf Tryz.f64) (by kernel_rfl) rfl (by kernel_rfl) 400
  λ_ t p h xs hb hp=>⟨_, λ_ _ _=>by kernel_rfl,r12_Parts_begin t p h xs (hp _ (.head _)) (hb.2.1)⟩
def T_r12_Parts:Tb:=(64,e_r12_Parts)::T_small_Alloc
theorem T_r12_Parts_ok:TOk T_r12_Parts:=tc_ r12_Parts_ok T_small_Alloc_ok
def r17_All (a0 a1 a2 a3 a4 a5 a6 a7 a8:LI) (k:Int):LI:=allL (pkGet k a0 a1 a2 a3 a4 a5 a6 a7 a8) a0.length
abbrev c_r17_All:Ct Sg:=⟨none,false,[.ro [some .i16,some .i16,some .i16,some .i16,some .i16,some .i16,some .i16,some .i16,some .i16], .i .i64], .new 2 [some .i64]⟩
def e_r17_All:Entry Sg:=entC c_r17_All r17_All (λa0 a1 a2 a3 a4 a5 a6 a7 a8 k=>[(0≤k∧k≤8)∧a0.length≤1000∧lenB (pkGet k a0 a1 a2 a3 a4 a5 a6 a7 a8) a0.length=true])
def r17_All_w (a0 a1 a2 a3 a4 a5 a6 a7 a8:LI) (k:Int) (Q0:Int→Nat→LI→Int→Prop) (R_:LI→Prop):Prop:=(Q0 (k) (0) ([]) (0))
def r17_All_w0_0 (a0 a1 a2 a3 a4 a5 a6 a7 a8:LI) (k:Int) (n1:Nat) (ys:LI) (i:Int) (Q0:Int→Nat→LI→Int→Prop) (R_:LI→Prop):Prop:=(bw_ (decide (i<(↑(lenC [Col.sls a0,Col.sls a1,Col.sls a2,Col.sls a3,Col.sls a4,Col.sls a5,Col.sls a6,Col.sls a7,Col.sls a8]):Int))) (aw_ (0≤i∧i<(↑(lenC [Col.sls a0,Col.sls a1,Col.sls a2,Col.sls a3,Col.sls a4,Col.sls a5,Col.sls a6,Col.sls a7,Col.sls a8]):Int)) (aw_ ((0:Int)≤0∧(0:Int)<9) (aw_ ((n1+iC (slR (iE a0 (iJ i) 0)))*8≤140737488355328) (Q0 (0) (n1+iC (slR (iE a0 (iJ i) 0))) (ys++slR (iE a0 (iJ i) 0)) (iA iB (i+1)))))) (R_ (ys)))
def r17_All_w0_1 (a0 a1 a2 a3 a4 a5 a6 a7 a8:LI) (k:Int) (n1:Nat) (ys:LI) (i:Int) (Q0:Int→Nat→LI→Int→Prop) (R_:LI→Prop):Prop:=(bw_ (decide (i<(↑(lenC [Col.sls a0,Col.sls a1,Col.sls a2,Col.sls a3,Col.sls a4,Col.sls a5,Col.sls a6,Col.sls a7,Col.sls a8]):Int))) (aw_ (0≤i∧i<(↑(lenC [Col.sls a0,Col.sls a1,Col.sls a2,Col.sls a3,Col.sls a4,Col.sls a5,Col.sls a6,Col.sls a7,Col.sls a8]):Int)) (aw_ ((0:Int)≤1∧(1:Int)<9) (aw_ ((n1+iC (slR (iE a1 (iJ i) 0)))*8≤140737488355328) (Q0 (1) (n1+iC (slR (iE a1 (iJ i) 0))) (ys++slR (iE a1 (iJ i) 0)) (iA iB (i+1)))))) (R_ (ys)))
def r17_All_w0_2 (a0 a1 a2 a3 a4 a5 a6 a7 a8:LI) (k:Int) (n1:Nat) (ys:LI) (i:Int) (Q0:Int→Nat→LI→Int→Prop) (R_:LI→Prop):Prop:=(bw_ (decide (i<(↑(lenC [Col.sls a0,Col.sls a1,Col.sls a2,Col.sls a3,Col.sls a4,Col.sls a5,Col.sls a6,Col.sls a7,Col.sls a8]):Int))) (aw_ (0≤i∧i<(↑(lenC [Col.sls a0,Col.sls a1,Col.sls a2,Col.sls a3,Col.sls a4,Col.sls a5,Col.sls a6,Col.sls a7,Col.sls a8]):Int)) (aw_ ((0:Int)≤2∧(2:Int)<9) (aw_ ((n1+iC (slR (iE a2 (iJ i) 0)))*8≤140737488355328) (Q0 (2) (n1+iC (slR (iE a2 (iJ i) 0))) (ys++slR (iE a2 (iJ i) 0)) (iA iB (i+1)))))) (R_ (ys)))
def r17_All_w0_3 (a0 a1 a2 a3 a4 a5 a6 a7 a8:LI) (k:Int) (n1:Nat) (ys:LI) (i:Int) (Q0:Int→Nat→LI→Int→Prop) (R_:LI→Prop):Prop:=(bw_ (decide (i<(↑(lenC [Col.sls a0,Col.sls a1,Col.sls a2,Col.sls a3,Col.sls a4,Col.sls a5,Col.sls a6,Col.sls a7,Col.sls a8]):Int))) (aw_ (0≤i∧i<(↑(lenC [Col.sls a0,Col.sls a1,Col.sls a2,Col.sls a3,Col.sls a4,Col.sls a5,Col.sls a6,Col.sls a7,Col.sls a8]):Int)) (aw_ ((0:Int)≤3∧(3:Int)<9) (aw_ ((n1+iC (slR (iE a3 (iJ i) 0)))*8≤140737488355328) (Q0 (3) (n1+iC (slR (iE a3 (iJ i) 0))) (ys++slR (iE a3 (iJ i) 0)) (iA iB (i+1)))))) (R_ (ys)))
def r17_All_w0_4 (a0 a1 a2 a3 a4 a5 a6 a7 a8:LI) (k:Int) (n1:Nat) (ys:LI) (i:Int) (Q0:Int→Nat→LI→Int→Prop) (R_:LI→Prop):Prop:=(bw_ (decide (i<(↑(lenC [Col.sls a0,Col.sls a1,Col.sls a2,Col.sls a3,Col.sls a4,Col.sls a5,Col.sls a6,Col.sls a7,Col.sls a8]):Int))) (aw_ (0≤i∧i<(↑(lenC [Col.sls a0,Col.sls a1,Col.sls a2,Col.sls a3,Col.sls a4,Col.sls a5,Col.sls a6,Col.sls a7,Col.sls a8]):Int)) (aw_ ((0:Int)≤4∧(4:Int)<9) (aw_ ((n1+iC (slR (iE a4 (iJ i) 0)))*8≤140737488355328) (Q0 (4) (n1+iC (slR (iE a4 (iJ i) 0))) (ys++slR (iE a4 (iJ i) 0)) (iA iB (i+1)))))) (R_ (ys)))
def r17_All_w0_5 (a0 a1 a2 a3 a4 a5 a6 a7 a8:LI) (k:Int) (n1:Nat) (ys:LI) (i:Int) (Q0:Int→Nat→LI→Int→Prop) (R_:LI→Prop):Prop:=(bw_ (decide (i<(↑(lenC [Col.sls a0,Col.sls a1,Col.sls a2,Col.sls a3,Col.sls a4,Col.sls a5,Col.sls a6,Col.sls a7,Col.sls a8]):Int))) (aw_ (0≤i∧i<(↑(lenC [Col.sls a0,Col.sls a1,Col.sls a2,Col.sls a3,Col.sls a4,Col.sls a5,Col.sls a6,Col.sls a7,Col.sls a8]):Int)) (aw_ ((0:Int)≤5∧(5:Int)<9) (aw_ ((n1+iC (slR (iE a5 (iJ i) 0)))*8≤140737488355328) (Q0 (5) (n1+iC (slR (iE a5 (iJ i) 0))) (ys++slR (iE a5 (iJ i) 0)) (iA iB (i+1)))))) (R_ (ys)))
def r17_All_w0_6 (a0 a1 a2 a3 a4 a5 a6 a7 a8:LI) (k:Int) (n1:Nat) (ys:LI) (i:Int) (Q0:Int→Nat→LI→Int→Prop) (R_:LI→Prop):Prop:=(bw_ (decide (i<(↑(lenC [Col.sls a0,Col.sls a1,Col.sls a2,Col.sls a3,Col.sls a4,Col.sls a5,Col.sls a6,Col.sls a7,Col.sls a8]):Int))) (aw_ (0≤i∧i<(↑(lenC [Col.sls a0,Col.sls a1,Col.sls a2,Col.sls a3,Col.sls a4,Col.sls a5,Col.sls a6,Col.sls a7,Col.sls a8]):Int)) (aw_ ((0:Int)≤6∧(6:Int)<9) (aw_ ((n1+iC (slR (iE a6 (iJ i) 0)))*8≤140737488355328) (Q0 (6) (n1+iC (slR (iE a6 (iJ i) 0))) (ys++slR (iE a6 (iJ i) 0)) (iA iB (i+1)))))) (R_ (ys)))
def r17_All_w0_7 (a0 a1 a2 a3 a4 a5 a6 a7 a8:LI) (k:Int) (n1:Nat) (ys:LI) (i:Int) (Q0:Int→Nat→LI→Int→Prop) (R_:LI→Prop):Prop:=(bw_ (decide (i<(↑(lenC [Col.sls a0,Col.sls a1,Col.sls a2,Col.sls a3,Col.sls a4,Col.sls a5,Col.sls a6,Col.sls a7,Col.sls a8]):Int))) (aw_ (0≤i∧i<(↑(lenC [Col.sls a0,Col.sls a1,Col.sls a2,Col.sls a3,Col.sls a4,Col.sls a5,Col.sls a6,Col.sls a7,Col.sls a8]):Int)) (aw_ ((0:Int)≤7∧(7:Int)<9) (aw_ ((n1+iC (slR (iE a7 (iJ i) 0)))*8≤140737488355328) (Q0 (7) (n1+iC (slR (iE a7 (iJ i) 0))) (ys++slR (iE a7 (iJ i) 0)) (iA iB (i+1)))))) (R_ (ys)))
def r17_All_w0_8 (a0 a1 a2 a3 a4 a5 a6 a7 a8:LI) (k:Int) (n1:Nat) (ys:LI) (i:Int) (Q0:Int→Nat→LI→Int→Prop) (R_:LI→Prop):Prop:=(bw_ (decide (i<(↑(lenC [Col.sls a0,Col.sls a1,Col.sls a2,Col.sls a3,Col.sls a4,Col.sls a5,Col.sls a6,Col.sls a7,Col.sls a8]):Int))) (aw_ (0≤i∧i<(↑(lenC [Col.sls a0,Col.sls a1,Col.sls a2,Col.sls a3,Col.sls a4,Col.sls a5,Col.sls a6,Col.sls a7,Col.sls a8]):Int)) (aw_ ((0:Int)≤8∧(8:Int)<9) (aw_ ((n1+iC (slR (iE a8 (iJ i) 0)))*8≤140737488355328) (Q0 (8) (n1+iC (slR (iE a8 (iJ i) 0))) (ys++slR (iE a8 (iJ i) 0)) (iA iB (i+1)))))) (R_ (ys)))
def r17_All_I0 (a0 a1 a2 a3 a4 a5 a6 a7 a8:LI) (k kk:Int) (n1:Nat) (ys:LI) (i:Int) (r_:LI):Prop:=kk=k∧0≤kk∧kk≤8∧0≤i∧i≤a0.length∧(a0.length≤1000∧lenB (pkGet kk a0 a1 a2 a3 a4 a5 a6 a7 a8) a0.length=true)∧n1=ys.length∧ys=allL (pkGet kk a0 a1 a2 a3 a4 a5 a6 a7 a8) i.toNat∧r_=allL (pkGet k a0 a1 a2 a3 a4 a5 a6 a7 a8) a0.length
abbrev r17_All_h0 (p0:Addr) (a0 a1 a2 a3 a4 a5 a6 a7 a8:LI) (k:Int):Hd Sg:=⟨none,[0,1,0,1,1],[.blk 0, .code [1,1,1]],[0,1,5,6],[.roc [.sls (a0), .sls (a1), .sls (a2), .sls (a3), .sls (a4), .sls (a5), .sls (a6), .sls (a7), .sls (a8)], .i .i64, .own 2 [some .i64], .i .i64]⟩
theorem r17_All_begin (a0 a1 a2 a3 a4 a5 a6 a7 a8:LI) (k:Int) (hp0:(0≤k∧k≤8)∧a0.length≤1000∧lenB (pkGet k a0 a1 a2 a3 a4 a5 a6 a7 a8) a0.length=true) (hl0:a0.length≤9223372036854775807):r17_All_w a0 a1 a2 a3 a4 a5 a6 a7 a8 k (λkk' n1' ys' i'=>r17_All_I0 a0 a1 a2 a3 a4 a5 a6 a7 a8 k kk' n1' ys' i' (r17_All a0 a1 a2 a3 a4 a5 a6 a7 a8 k)) (λr__=>r__=(r17_All a0 a1 a2 a3 a4 a5 a6 a7 a8 k)):=by
 unfold r17_All_w
 try unfold r17_All_I0
 exact ⟨rfl,hp0.1.1,hp0.1.2,by omega,by omega,hp0.2,rfl,rfl,rfl⟩
theorem r17_All_cs0 (a0 a1 a2 a3 a4 a5 a6 a7 a8:LI) (k:Int) (hp0:(0≤k∧k≤8)∧a0.length≤1000∧lenB (pkGet k a0 a1 a2 a3 a4 a5 a6 a7 a8) a0.length=true) (hl0:a0.length≤9223372036854775807) (kk:Int) (n1:Nat) (ys:LI) (i:Int) {r_:LI} (hI:r17_All_I0 a0 a1 a2 a3 a4 a5 a6 a7 a8 k kk n1 ys i r_):kk=0∨kk=1∨kk=2∨kk=3∨kk=4∨kk=5∨kk=6∨kk=7∨kk=8:=by
 unfold r17_All_I0 at hI
 obtain ⟨_,h1,h2,_⟩:=hI
 omega
theorem r17_All_step0_0 (a0 a1 a2 a3 a4 a5 a6 a7 a8:LI) (k:Int) (hp0:(0≤k∧k≤8)∧a0.length≤1000∧lenB (pkGet k a0 a1 a2 a3 a4 a5 a6 a7 a8) a0.length=true) (hl0:a0.length≤9223372036854775807) (n1:Nat) (ys:LI) (i:Int) {r_:LI} (hI:r17_All_I0 a0 a1 a2 a3 a4 a5 a6 a7 a8 k (0:Int) n1 ys i r_):r17_All_w0_0 a0 a1 a2 a3 a4 a5 a6 a7 a8 k n1 ys i (λkk' n1' ys' i'=>r17_All_I0 a0 a1 a2 a3 a4 a5 a6 a7 a8 k kk' n1' ys' i' r_∧lx (((a0.length:Int)-i').toNat,0,0) (((a0.length:Int)-i).toNat,0,0)) (λr__=>r__=r_):=by
 unfold r17_All_I0 at hI
 unfold r17_All_w0_0
 try unfold r17_All_I0
 obtain ⟨hk,_,_,h0,h1,hb,hn,hx,hr⟩:=hI
 subst hk
 refine ⟨λhc=>?_, λhc=>?_⟩
 ·have hc:i<(a0.length:Int):=of_decide_eq_true hc
  have hlt:i.toNat<a0.length:=by omega
  have g1:=allL_len (lenB_le (Nat.le_of_lt hlt) hb.2)
  have g2:(slR (a0.getD i.toNat 0)).length≤4:=lenB_all hb.2 _ hlt
  rw [w64 (n:=i+1) (by omega)]
  refine ⟨⟨h0,hc⟩, λ_=>⟨by decide, λ_=>⟨?_, λ_=>⟨⟨rfl,by decide,by decide,by omega,by omega,hb,?_,?_,hr⟩,lxo_⟩⟩⟩⟩
  ·rw [hn,hx];omega
  ·rw [hn,jA]
  ·rw [hx,show (i+1).toNat=i.toNat+1 by omega];rfl
 ·have hc:¬i<(a0.length:Int):=of_decide_eq_false hc
  show ys=r_
  rw [hr,hx,show i.toNat=a0.length by omega]
theorem r17_All_step0_1 (a0 a1 a2 a3 a4 a5 a6 a7 a8:LI) (k:Int) (hp0:(0≤k∧k≤8)∧a0.length≤1000∧lenB (pkGet k a0 a1 a2 a3 a4 a5 a6 a7 a8) a0.length=true) (hl0:a0.length≤9223372036854775807) (n1:Nat) (ys:LI) (i:Int) {r_:LI} (hI:r17_All_I0 a0 a1 a2 a3 a4 a5 a6 a7 a8 k (1:Int) n1 ys i r_):r17_All_w0_1 a0 a1 a2 a3 a4 a5 a6 a7 a8 k n1 ys i (λkk' n1' ys' i'=>r17_All_I0 a0 a1 a2 a3 a4 a5 a6 a7 a8 k kk' n1' ys' i' r_∧lx (((a0.length:Int)-i').toNat,0,0) (((a0.length:Int)-i).toNat,0,0)) (λr__=>r__=r_):=by
 unfold r17_All_I0 at hI
 unfold r17_All_w0_1
 try unfold r17_All_I0
 obtain ⟨hk,_,_,h0,h1,hb,hn,hx,hr⟩:=hI
 subst hk
 refine ⟨λhc=>?_, λhc=>?_⟩
 ·have hc:i<(a0.length:Int):=of_decide_eq_true hc
  have hlt:i.toNat<a0.length:=by omega
  have g1:=allL_len (lenB_le (Nat.le_of_lt hlt) hb.2)
  have g2:(slR (a1.getD i.toNat 0)).length≤4:=lenB_all hb.2 _ hlt
  rw [w64 (n:=i+1) (by omega)]
  refine ⟨⟨h0,hc⟩, λ_=>⟨by decide, λ_=>⟨?_, λ_=>⟨⟨rfl,by decide,by decide,by omega,by omega,hb,?_,?_,hr⟩,lxo_⟩⟩⟩⟩
  ·rw [hn,hx];omega
  ·rw [hn,jA]
  ·rw [hx,show (i+1).toNat=i.toNat+1 by omega];rfl
 ·have hc:¬i<(a0.length:Int):=of_decide_eq_false hc
  show ys=r_
  rw [hr,hx,show i.toNat=a0.length by omega]
theorem r17_All_step0_2 (a0 a1 a2 a3 a4 a5 a6 a7 a8:LI) (k:Int) (hp0:(0≤k∧k≤8)∧a0.length≤1000∧lenB (pkGet k a0 a1 a2 a3 a4 a5 a6 a7 a8) a0.length=true) (hl0:a0.length≤9223372036854775807) (n1:Nat) (ys:LI) (i:Int) {r_:LI} (hI:r17_All_I0 a0 a1 a2 a3 a4 a5 a6 a7 a8 k (2:Int) n1 ys i r_):r17_All_w0_2 a0 a1 a2 a3 a4 a5 a6 a7 a8 k n1 ys i (λkk' n1' ys' i'=>r17_All_I0 a0 a1 a2 a3 a4 a5 a6 a7 a8 k kk' n1' ys' i' r_∧lx (((a0.length:Int)-i').toNat,0,0) (((a0.length:Int)-i).toNat,0,0)) (λr__=>r__=r_):=by
 unfold r17_All_I0 at hI
 unfold r17_All_w0_2
 try unfold r17_All_I0
 obtain ⟨hk,_,_,h0,h1,hb,hn,hx,hr⟩:=hI
 subst hk
 refine ⟨λhc=>?_, λhc=>?_⟩
 ·have hc:i<(a0.length:Int):=of_decide_eq_true hc
  have hlt:i.toNat<a0.length:=by omega
  have g1:=allL_len (lenB_le (Nat.le_of_lt hlt) hb.2)
  have g2:(slR (a2.getD i.toNat 0)).length≤4:=lenB_all hb.2 _ hlt
  rw [w64 (n:=i+1) (by omega)]
  refine ⟨⟨h0,hc⟩, λ_=>⟨by decide, λ_=>⟨?_, λ_=>⟨⟨rfl,by decide,by decide,by omega,by omega,hb,?_,?_,hr⟩,lxo_⟩⟩⟩⟩
  ·rw [hn,hx];omega
  ·rw [hn,jA]
  ·rw [hx,show (i+1).toNat=i.toNat+1 by omega];rfl
 ·have hc:¬i<(a0.length:Int):=of_decide_eq_false hc
  show ys=r_
  rw [hr,hx,show i.toNat=a0.length by omega]
theorem r17_All_step0_3 (a0 a1 a2 a3 a4 a5 a6 a7 a8:LI) (k:Int) (hp0:(0≤k∧k≤8)∧a0.length≤1000∧lenB (pkGet k a0 a1 a2 a3 a4 a5 a6 a7 a8) a0.length=true) (hl0:a0.length≤9223372036854775807) (n1:Nat) (ys:LI) (i:Int) {r_:LI} (hI:r17_All_I0 a0 a1 a2 a3 a4 a5 a6 a7 a8 k (3:Int) n1 ys i r_):r17_All_w0_3 a0 a1 a2 a3 a4 a5 a6 a7 a8 k n1 ys i (λkk' n1' ys' i'=>r17_All_I0 a0 a1 a2 a3 a4 a5 a6 a7 a8 k kk' n1' ys' i' r_∧lx (((a0.length:Int)-i').toNat,0,0) (((a0.length:Int)-i).toNat,0,0)) (λr__=>r__=r_):=by
 unfold r17_All_I0 at hI
 unfold r17_All_w0_3
 try unfold r17_All_I0
 obtain ⟨hk,_,_,h0,h1,hb,hn,hx,hr⟩:=hI
 subst hk
 refine ⟨λhc=>?_, λhc=>?_⟩
 ·have hc:i<(a0.length:Int):=of_decide_eq_true hc
  have hlt:i.toNat<a0.length:=by omega
  have g1:=allL_len (lenB_le (Nat.le_of_lt hlt) hb.2)
  have g2:(slR (a3.getD i.toNat 0)).length≤4:=lenB_all hb.2 _ hlt
  rw [w64 (n:=i+1) (by omega)]
  refine ⟨⟨h0,hc⟩, λ_=>⟨by decide, λ_=>⟨?_, λ_=>⟨⟨rfl,by decide,by decide,by omega,by omega,hb,?_,?_,hr⟩,lxo_⟩⟩⟩⟩
  ·rw [hn,hx];omega
  ·rw [hn,jA]
  ·rw [hx,show (i+1).toNat=i.toNat+1 by omega];rfl
 ·have hc:¬i<(a0.length:Int):=of_decide_eq_false hc
  show ys=r_
  rw [hr,hx,show i.toNat=a0.length by omega]
theorem r17_All_step0_4 (a0 a1 a2 a3 a4 a5 a6 a7 a8:LI) (k:Int) (hp0:(0≤k∧k≤8)∧a0.length≤1000∧lenB (pkGet k a0 a1 a2 a3 a4 a5 a6 a7 a8) a0.length=true) (hl0:a0.length≤9223372036854775807) (n1:Nat) (ys:LI) (i:Int) {r_:LI} (hI:r17_All_I0 a0 a1 a2 a3 a4 a5 a6 a7 a8 k (4:Int) n1 ys i r_):r17_All_w0_4 a0 a1 a2 a3 a4 a5 a6 a7 a8 k n1 ys i (λkk' n1' ys' i'=>r17_All_I0 a0 a1 a2 a3 a4 a5 a6 a7 a8 k kk' n1' ys' i' r_∧lx (((a0.length:Int)-i').toNat,0,0) (((a0.length:Int)-i).toNat,0,0)) (λr__=>r__=r_):=by
 unfold r17_All_I0 at hI
 unfold r17_All_w0_4
 try unfold r17_All_I0
 obtain ⟨hk,_,_,h0,h1,hb,hn,hx,hr⟩:=hI
 subst hk
 refine ⟨λhc=>?_, λhc=>?_⟩
 ·have hc:i<(a0.length:Int):=of_decide_eq_true hc
  have hlt:i.toNat<a0.length:=by omega
  have g1:=allL_len (lenB_le (Nat.le_of_lt hlt) hb.2)
  have g2:(slR (a4.getD i.toNat 0)).length≤4:=lenB_all hb.2 _ hlt
  rw [w64 (n:=i+1) (by omega)]
  refine ⟨⟨h0,hc⟩, λ_=>⟨by decide, λ_=>⟨?_, λ_=>⟨⟨rfl,by decide,by decide,by omega,by omega,hb,?_,?_,hr⟩,lxo_⟩⟩⟩⟩
  ·rw [hn,hx];omega
  ·rw [hn,jA]
  ·rw [hx,show (i+1).toNat=i.toNat+1 by omega];rfl
 ·have hc:¬i<(a0.length:Int):=of_decide_eq_false hc
  show ys=r_
  rw [hr,hx,show i.toNat=a0.length by omega]
theorem r17_All_step0_5 (a0 a1 a2 a3 a4 a5 a6 a7 a8:LI) (k:Int) (hp0:(0≤k∧k≤8)∧a0.length≤1000∧lenB (pkGet k a0 a1 a2 a3 a4 a5 a6 a7 a8) a0.length=true) (hl0:a0.length≤9223372036854775807) (n1:Nat) (ys:LI) (i:Int) {r_:LI} (hI:r17_All_I0 a0 a1 a2 a3 a4 a5 a6 a7 a8 k (5:Int) n1 ys i r_):r17_All_w0_5 a0 a1 a2 a3 a4 a5 a6 a7 a8 k n1 ys i (λkk' n1' ys' i'=>r17_All_I0 a0 a1 a2 a3 a4 a5 a6 a7 a8 k kk' n1' ys' i' r_∧lx (((a0.length:Int)-i').toNat,0,0) (((a0.length:Int)-i).toNat,0,0)) (λr__=>r__=r_):=by
 unfold r17_All_I0 at hI
 unfold r17_All_w0_5
 try unfold r17_All_I0
 obtain ⟨hk,_,_,h0,h1,hb,hn,hx,hr⟩:=hI
 subst hk
 refine ⟨λhc=>?_, λhc=>?_⟩
 ·have hc:i<(a0.length:Int):=of_decide_eq_true hc
  have hlt:i.toNat<a0.length:=by omega
  have g1:=allL_len (lenB_le (Nat.le_of_lt hlt) hb.2)
  have g2:(slR (a5.getD i.toNat 0)).length≤4:=lenB_all hb.2 _ hlt
  rw [w64 (n:=i+1) (by omega)]
  refine ⟨⟨h0,hc⟩, λ_=>⟨by decide, λ_=>⟨?_, λ_=>⟨⟨rfl,by decide,by decide,by omega,by omega,hb,?_,?_,hr⟩,lxo_⟩⟩⟩⟩
  ·rw [hn,hx];omega
  ·rw [hn,jA]
  ·rw [hx,show (i+1).toNat=i.toNat+1 by omega];rfl
 ·have hc:¬i<(a0.length:Int):=of_decide_eq_false hc
  show ys=r_
  rw [hr,hx,show i.toNat=a0.length by omega]
theorem r17_All_step0_6 (a0 a1 a2 a3 a4 a5 a6 a7 a8:LI) (k:Int) (hp0:(0≤k∧k≤8)∧a0.length≤1000∧lenB (pkGet k a0 a1 a2 a3 a4 a5 a6 a7 a8) a0.length=true) (hl0:a0.length≤9223372036854775807) (n1:Nat) (ys:LI) (i:Int) {r_:LI} (hI:r17_All_I0 a0 a1 a2 a3 a4 a5 a6 a7 a8 k (6:Int) n1 ys i r_):r17_All_w0_6 a0 a1 a2 a3 a4 a5 a6 a7 a8 k n1 ys i (λkk' n1' ys' i'=>r17_All_I0 a0 a1 a2 a3 a4 a5 a6 a7 a8 k kk' n1' ys' i' r_∧lx (((a0.length:Int)-i').toNat,0,0) (((a0.length:Int)-i).toNat,0,0)) (λr__=>r__=r_):=by
 unfold r17_All_I0 at hI
 unfold r17_All_w0_6
 try unfold r17_All_I0
 obtain ⟨hk,_,_,h0,h1,hb,hn,hx,hr⟩:=hI
 subst hk
 refine ⟨λhc=>?_, λhc=>?_⟩
 ·have hc:i<(a0.length:Int):=of_decide_eq_true hc
  have hlt:i.toNat<a0.length:=by omega
  have g1:=allL_len (lenB_le (Nat.le_of_lt hlt) hb.2)
  have g2:(slR (a6.getD i.toNat 0)).length≤4:=lenB_all hb.2 _ hlt
  rw [w64 (n:=i+1) (by omega)]
  refine ⟨⟨h0,hc⟩, λ_=>⟨by decide, λ_=>⟨?_, λ_=>⟨⟨rfl,by decide,by decide,by omega,by omega,hb,?_,?_,hr⟩,lxo_⟩⟩⟩⟩
  ·rw [hn,hx];omega
  ·rw [hn,jA]
  ·rw [hx,show (i+1).toNat=i.toNat+1 by omega];rfl
 ·have hc:¬i<(a0.length:Int):=of_decide_eq_false hc
  show ys=r_
  rw [hr,hx,show i.toNat=a0.length by omega]
theorem r17_All_step0_7 (a0 a1 a2 a3 a4 a5 a6 a7 a8:LI) (k:Int) (hp0:(0≤k∧k≤8)∧a0.length≤1000∧lenB (pkGet k a0 a1 a2 a3 a4 a5 a6 a7 a8) a0.length=true) (hl0:a0.length≤9223372036854775807) (n1:Nat) (ys:LI) (i:Int) {r_:LI} (hI:r17_All_I0 a0 a1 a2 a3 a4 a5 a6 a7 a8 k (7:Int) n1 ys i r_):r17_All_w0_7 a0 a1 a2 a3 a4 a5 a6 a7 a8 k n1 ys i (λkk' n1' ys' i'=>r17_All_I0 a0 a1 a2 a3 a4 a5 a6 a7 a8 k kk' n1' ys' i' r_∧lx (((a0.length:Int)-i').toNat,0,0) (((a0.length:Int)-i).toNat,0,0)) (λr__=>r__=r_):=by
 unfold r17_All_I0 at hI
 unfold r17_All_w0_7
 try unfold r17_All_I0
 obtain ⟨hk,_,_,h0,h1,hb,hn,hx,hr⟩:=hI
 subst hk
 refine ⟨λhc=>?_, λhc=>?_⟩
 ·have hc:i<(a0.length:Int):=of_decide_eq_true hc
  have hlt:i.toNat<a0.length:=by omega
  have g1:=allL_len (lenB_le (Nat.le_of_lt hlt) hb.2)
  have g2:(slR (a7.getD i.toNat 0)).length≤4:=lenB_all hb.2 _ hlt
  rw [w64 (n:=i+1) (by omega)]
  refine ⟨⟨h0,hc⟩, λ_=>⟨by decide, λ_=>⟨?_, λ_=>⟨⟨rfl,by decide,by decide,by omega,by omega,hb,?_,?_,hr⟩,lxo_⟩⟩⟩⟩
  ·rw [hn,hx];omega
  ·rw [hn,jA]
  ·rw [hx,show (i+1).toNat=i.toNat+1 by omega];rfl
 ·have hc:¬i<(a0.length:Int):=of_decide_eq_false hc
  show ys=r_
  rw [hr,hx,show i.toNat=a0.length by omega]
theorem r17_All_step0_8 (a0 a1 a2 a3 a4 a5 a6 a7 a8:LI) (k:Int) (hp0:(0≤k∧k≤8)∧a0.length≤1000∧lenB (pkGet k a0 a1 a2 a3 a4 a5 a6 a7 a8) a0.length=true) (hl0:a0.length≤9223372036854775807) (n1:Nat) (ys:LI) (i:Int) {r_:LI} (hI:r17_All_I0 a0 a1 a2 a3 a4 a5 a6 a7 a8 k (8:Int) n1 ys i r_):r17_All_w0_8 a0 a1 a2 a3 a4 a5 a6 a7 a8 k n1 ys i (λkk' n1' ys' i'=>r17_All_I0 a0 a1 a2 a3 a4 a5 a6 a7 a8 k kk' n1' ys' i' r_∧lx (((a0.length:Int)-i').toNat,0,0) (((a0.length:Int)-i).toNat,0,0)) (λr__=>r__=r_):=by
 unfold r17_All_I0 at hI
 unfold r17_All_w0_8
 try unfold r17_All_I0
 obtain ⟨hk,_,_,h0,h1,hb,hn,hx,hr⟩:=hI
 subst hk
 refine ⟨λhc=>?_, λhc=>?_⟩
 ·have hc:i<(a0.length:Int):=of_decide_eq_true hc
  have hlt:i.toNat<a0.length:=by omega
  have g1:=allL_len (lenB_le (Nat.le_of_lt hlt) hb.2)
  have g2:(slR (a8.getD i.toNat 0)).length≤4:=lenB_all hb.2 _ hlt
  rw [w64 (n:=i+1) (by omega)]
  refine ⟨⟨h0,hc⟩, λ_=>⟨by decide, λ_=>⟨?_, λ_=>⟨⟨rfl,by decide,by decide,by omega,by omega,hb,?_,?_,hr⟩,lxo_⟩⟩⟩⟩
  ·rw [hn,hx];omega
  ·rw [hn,jA]
  ·rw [hx,show (i+1).toNat=i.toNat+1 by omega];rfl
 ·have hc:¬i<(a0.length:Int):=of_decide_eq_false hc
  show ys=r_
  rw [hr,hx,show i.toNat=a0.length by omega]
theorem r17_All_ok:EOk 65 e_r17_All:=
 ent_wp Dg T_r12_Parts_ok (I:=[2999998,411000000000,411000000001,411000000005,411000000006]) Tryz.func65 mix (B:=bodyOf Tryz.f65) (by kernel_rfl) rfl (by kernel_rfl) 400
  λp0 a0 a1 a2 a3 a4 a5 a6 a7 a8 k hb hp=>have hl0:a0.length≤9223372036854775807:=hb.1;have hp0:(0≤k∧k≤8)∧a0.length≤1000∧lenB (pkGet k a0 a1 a2 a3 a4 a5 a6 a7 a8) a0.length=true:=hp _ (.head _);⟨[r17_All_h0 p0 a0 a1 a2 a3 a4 a5 a6 a7 a8 k], λj=>iE [appC (Hd.kd (r17_All_h0 p0 a0 a1 a2 a3 a4 a5 a6 a7 a8 k)) (λkk' n1' ys' i'=>r17_All_I0 a0 a1 a2 a3 a4 a5 a6 a7 a8 k kk' n1' ys' i' (r17_All a0 a1 a2 a3 a4 a5 a6 a7 a8 k))] j (λ_=>False), λj=>iE [appC (Hd.kd (r17_All_h0 p0 a0 a1 a2 a3 a4 a5 a6 a7 a8 k)) (λkk' n1' ys' i'=>(((a0.length:Int)-i').toNat,0,0))] j (λ_=>(0,0,0)),by kernel_rfl,⟨_, λ_ _ _=>by kernel_rfl,r17_All_begin a0 a1 a2 a3 a4 a5 a6 a7 a8 k hp0 hl0⟩,⟨λkk n1 ys i hI=>(by
   rcases r17_All_cs0 a0 a1 a2 a3 a4 a5 a6 a7 a8 k hp0 hl0 kk n1 ys i hI with rfl|rfl|rfl|rfl|rfl|rfl|rfl|rfl|rfl
   ·exact ⟨_, λ_ _ _=>by kernel_rfl,r17_All_step0_0 a0 a1 a2 a3 a4 a5 a6 a7 a8 k hp0 hl0 n1 ys i hI⟩
   ·exact ⟨_, λ_ _ _=>by kernel_rfl,r17_All_step0_1 a0 a1 a2 a3 a4 a5 a6 a7 a8 k hp0 hl0 n1 ys i hI⟩
   ·exact ⟨_, λ_ _ _=>by kernel_rfl,r17_All_step0_2 a0 a1 a2 a3 a4 a5 a6 a7 a8 k hp0 hl0 n1 ys i hI⟩
   ·exact ⟨_, λ_ _ _=>by kernel_rfl,r17_All_step0_3 a0 a1 a2 a3 a4 a5 a6 a7 a8 k hp0 hl0 n1 ys i hI⟩
   ·exact ⟨_, λ_ _ _=>by kernel_rfl,r17_All_step0_4 a0 a1 a2 a3 a4 a5 a6 a7 a8 k hp0 hl0 n1 ys i hI⟩
   ·exact ⟨_, λ_ _ _=>by kernel_rfl,r17_All_step0_5 a0 a1 a2 a3 a4 a5 a6 a7 a8 k hp0 hl0 n1 ys i hI⟩
   ·exact ⟨_, λ_ _ _=>by kernel_rfl,r17_All_step0_6 a0 a1 a2 a3 a4 a5 a6 a7 a8 k hp0 hl0 n1 ys i hI⟩
   ·exact ⟨_, λ_ _ _=>by kernel_rfl,r17_All_step0_7 a0 a1 a2 a3 a4 a5 a6 a7 a8 k hp0 hl0 n1 ys i hI⟩
   ·exact ⟨_, λ_ _ _=>by kernel_rfl,r17_All_step0_8 a0 a1 a2 a3 a4 a5 a6 a7 a8 k hp0 hl0 n1 ys i hI⟩),trivial⟩⟩
def T_r17_All:Tb:=(65,e_r17_All)::T_r12_Parts
theorem T_r17_All_ok:TOk T_r17_All:=tc_ r17_All_ok T_r12_Parts_ok
def r17_often (l:LI) (a:Int):Int:=oft l a
abbrev c_r17_often:Ct Sg:=⟨none,false,[.ro [some .i64], .i .i64], .i .i64⟩
def e_r17_often:Entry Sg:=entC c_r17_often r17_often (λ_ _=>[])
def r17_often_w (l:LI) (a:Int) (Q0:Int→Int→Prop) (R_:Int→Prop):Prop:=(Q0 (0) (0))
def r17_often_w0 (l:LI) (a n i:Int) (Q0:Int→Int→Prop) (R_:Int→Prop):Prop:=(bw_ (decide (i<(↑(iC l):Int))) (aw_ (0≤i∧i<(↑(iC l):Int)) (bw_ (iE l (iJ i) 0==a) (Q0 (iA iB (n+1)) (iA iB (i+1))) (Q0 (n) (iA iB (i+1))))) (R_ (n)))
def r17_often_I0 (l:LI) (a n i r_:Int):Prop:=0≤i∧i≤l.length∧n=oft (l.take i.toNat) a∧r_=oft l a
abbrev r17_often_h0 (p0:Addr) (l:LI) (a:Int):Hd Sg:=⟨none,[0,1,0,1,1],[.blk 0, .code [1,1,1]],[0,1,5,6],[.roc [.ints .i64 (l)], .ic .i64 (a), .i .i64, .i .i64]⟩
theorem r17_often_begin (l:LI) (a:Int) (hl0:l.length≤9223372036854775807):r17_often_w l a (λn' i'=>r17_often_I0 l a n' i' (r17_often l a)) (λr__=>r__=(r17_often l a)):=by
 unfold r17_often_w
 try unfold r17_often_I0
 exact ⟨by omega,by omega,rfl,rfl⟩
theorem r17_often_step0 (l:LI) (a:Int) (hl0:l.length≤9223372036854775807) (n i:Int) {r_:Int} (hI:r17_often_I0 l a n i r_):r17_often_w0 l a n i (λn' i'=>r17_often_I0 l a n' i' r_∧lx ((l.length-i').toNat,0,0) ((l.length-i).toNat,0,0)) (λr__=>r__=r_):=by
 unfold r17_often_I0 at hI
 unfold r17_often_w0
 try unfold r17_often_I0
 obtain ⟨h0,h1,hn,hr⟩:=hI
 refine ⟨λhc=>?_, λhc=>?_⟩
 ·have hc:i<(l.length:Int):=of_decide_eq_true hc
  have hlt:i.toNat<l.length:=by omega
  have hle:oft (l.take i.toNat) a≤i:=by
   unfold oft
   have g1:=List.length_filter_le (· ==a) (l.take i.toNat)
   rw [jT] at g1;omega
  have hge:0≤oft (l.take i.toNat) a:=by unfold oft;omega
  have ht:oft (l.take (i+1).toNat) a=oft (l.take i.toNat) a+(bif l.getD i.toNat 0==a then 1 else 0):=by
   rw [toNat_succ h0,take_snocB hlt]
   unfold oft
   rw [List.filter_append,jA,List.filter_cons]
   cases l.getD i.toNat 0==a<;>simp
  rw [w64 (n:=i+1) (by omega)]
  refine ⟨⟨h0,hc⟩, λ_=>⟨λhe=>?_, λhe=>?_⟩⟩
  ·rw [he,cond_true] at ht
   rw [w64 (n:=n+1) (by omega)]
   exact ⟨⟨by omega,by omega,by rw [ht,hn],hr⟩,lxo_⟩
  ·rw [he,cond_false] at ht
   exact ⟨⟨by omega,by omega,by rw [ht,hn,Int.add_zero],hr⟩,lxo_⟩
 ·have hc:¬i<(l.length:Int):=of_decide_eq_false hc
  rw [List.take_of_length_le (by omega)] at hn
  show n=r_
  rw [hr,hn]
theorem r17_often_ok:EOk 67 e_r17_often:=
 ent_wp Dg T_r17_All_ok (I:=[411000000000,411000000001,411000000005,411000000006]) Tryz.func67 mix (B:=bodyOf Tryz.f67) (by kernel_rfl) rfl (by kernel_rfl) 400
  λp0 l a hb hp=>have hl0:l.length≤9223372036854775807:=hb.1;⟨[r17_often_h0 p0 l a], λj=>iE [appC (Hd.kd (r17_often_h0 p0 l a)) (λn' i'=>r17_often_I0 l a n' i' (r17_often l a))] j (λ_=>False), λj=>iE [appC (Hd.kd (r17_often_h0 p0 l a)) (λn' i'=>((l.length-i').toNat,0,0))] j (λ_=>(0,0,0)),by kernel_rfl,⟨_, λ_ _ _=>by kernel_rfl,r17_often_begin l a hl0⟩,⟨λn i hI=>⟨_, λ_ _ _=>by kernel_rfl,r17_often_step0 l a hl0 n i hI⟩,trivial⟩⟩
def T_r17_often:Tb:=(67,e_r17_often)::T_r17_All
theorem T_r17_often_ok:TOk T_r17_often:=tc_ r17_often_ok T_r17_All_ok
def r17_Fits (t p h:Int) (xs a0 a1 a2 a3 a4 a5 a6 a7 a8:LI):Bool:=bif !soundA ⟨t,p,h⟩ xs||(a0.length:Int) !=t then false else fitOut h (partsL ⟨t,p,h⟩ xs) (λk=>pkGet k a0 a1 a2 a3 a4 a5 a6 a7 a8) a0.length 9 0
abbrev c_r17_Fits:Ct Sg:=⟨none,false,[.agg [.i .i64, .i .i64, .i .i64], .ro [some .u32], .ro [some .i16,some .i16,some .i16,some .i16,some .i16,some .i16,some .i16,some .i16,some .i16]], .b⟩
def e_r17_Fits:Entry Sg:=entC c_r17_Fits r17_Fits (λt p h xs a0 a1 a2 a3 a4 a5 a6 a7 a8=>[bdAll xs,a0.length≤1000])
def r17_Fits_w (t p h:Int) (xs a0 a1 a2 a3 a4 a5 a6 a7 a8:LI) (Q0:Nat→LI→LI→LI→Int→Int→Prop) (Q1:Nat→LI→LI→LI→Int→Int→Int→Prop) (Q2:Nat→LI→LI→LI→Int→Int→Nat→LI→Int→Prop) (R_:Bool→Prop):Prop:=(∀r1:Bool,r1=(r12_Sound t p h xs)→(aw_ (bdAll xs) (bw_ (!r1||(↑(lenC [Col.sls a0,Col.sls a1,Col.sls a2,Col.sls a3,Col.sls a4,Col.sls a5,Col.sls a6,Col.sls a7,Col.sls a8]):Int) !=t) (R_ (false)) (∀r4:LI×LI×LI,r4=(r12_Parts t p h xs)→(aw_ (bdAll xs) (Q0 (iC r4.1) r4.1 r4.2.1 r4.2.2 (0) (0)))))))
def r17_Fits_w0 (t p h:Int) (xs a0 a1 a2 a3 a4 a5 a6 a7 a8:LI) (n1:Nat) (ks zs ss:LI) (n k:Int) (Q0:Nat→LI→LI→LI→Int→Int→Prop) (Q1:Nat→LI→LI→LI→Int→Int→Int→Prop) (Q2:Nat→LI→LI→LI→Int→Int→Nat→LI→Int→Prop) (R_:Bool→Prop):Prop:=(bw_ (decide (k<9)) (Q1 (n1) (ks) (zs) (ss) (n) (k) (0)) (R_ (n==0)))
def r17_Fits_I0 (t p h:Int) (xs a0 a1 a2 a3 a4 a5 a6 a7 a8:LI) (n1:Nat) (ks zs ss:LI) (n k:Int) (r_:Bool):Prop:=(n1=ks.length∧ks=(partsL ⟨t,p,h⟩ xs).map (·.k)∧zs=(partsL ⟨t,p,h⟩ xs).map (·.a)∧ss=(partsL ⟨t,p,h⟩ xs).map (·.s)∧(partsL ⟨t,p,h⟩ xs).length≤100000∧a0.length≤1000)∧0≤k∧k≤9∧r_=fitOut h (partsL ⟨t,p,h⟩ xs) (λk=>pkGet k a0 a1 a2 a3 a4 a5 a6 a7 a8) a0.length (9-k).toNat n
def r17_Fits_w1_0 (t p h:Int) (xs a0 a1 a2 a3 a4 a5 a6 a7 a8:LI) (n1:Nat) (ks zs ss:LI) (n i:Int) (Q0:Nat→LI→LI→LI→Int→Int→Prop) (Q1:Nat→LI→LI→LI→Int→Int→Int→Prop) (Q2:Nat→LI→LI→LI→Int→Int→Nat→LI→Int→Prop) (R_:Bool→Prop):Prop:=(bw_ (decide (i<(↑(lenC [Col.sls a0,Col.sls a1,Col.sls a2,Col.sls a3,Col.sls a4,Col.sls a5,Col.sls a6,Col.sls a7,Col.sls a8]):Int))) (aw_ (0≤i∧i<(↑(lenC [Col.sls a0,Col.sls a1,Col.sls a2,Col.sls a3,Col.sls a4,Col.sls a5,Col.sls a6,Col.sls a7,Col.sls a8]):Int)) (aw_ ((0:Int)≤0∧(0:Int)<9) (bw_ (decide ((↑(iC (slR (iE a0 (iJ i) 0))):Int)>4)) (R_ (false)) (Q1 (n1) (ks) (zs) (ss) (n) (0) (iA iB (i+1)))))) (∀r1:LI,r1=(r17_All a0 a1 a2 a3 a4 a5 a6 a7 a8 0)→(aw_ (((0:Int)≤0∧(0:Int)≤8)∧iC a0≤1000∧lenB (pkGet 0 a0 a1 a2 a3 a4 a5 a6 a7 a8) (iC a0)=true) (Q2 (n1) (ks) (zs) (ss) (iA iB (n+(↑(iC r1):Int))) (0) (iC r1) (r1) (0)))))
def r17_Fits_w1_1 (t p h:Int) (xs a0 a1 a2 a3 a4 a5 a6 a7 a8:LI) (n1:Nat) (ks zs ss:LI) (n i:Int) (Q0:Nat→LI→LI→LI→Int→Int→Prop) (Q1:Nat→LI→LI→LI→Int→Int→Int→Prop) (Q2:Nat→LI→LI→LI→Int→Int→Nat→LI→Int→Prop) (R_:Bool→Prop):Prop:=(bw_ (decide (i<(↑(lenC [Col.sls a0,Col.sls a1,Col.sls a2,Col.sls a3,Col.sls a4,Col.sls a5,Col.sls a6,Col.sls a7,Col.sls a8]):Int))) (aw_ (0≤i∧i<(↑(lenC [Col.sls a0,Col.sls a1,Col.sls a2,Col.sls a3,Col.sls a4,Col.sls a5,Col.sls a6,Col.sls a7,Col.sls a8]):Int)) (aw_ ((0:Int)≤1∧(1:Int)<9) (bw_ (decide ((↑(iC (slR (iE a1 (iJ i) 0))):Int)>4)) (R_ (false)) (Q1 (n1) (ks) (zs) (ss) (n) (1) (iA iB (i+1)))))) (∀r1:LI,r1=(r17_All a0 a1 a2 a3 a4 a5 a6 a7 a8 1)→(aw_ (((0:Int)≤1∧(1:Int)≤8)∧iC a0≤1000∧lenB (pkGet 1 a0 a1 a2 a3 a4 a5 a6 a7 a8) (iC a0)=true) (Q2 (n1) (ks) (zs) (ss) (iA iB (n+(↑(iC r1):Int))) (1) (iC r1) (r1) (0)))))
def r17_Fits_w1_2 (t p h:Int) (xs a0 a1 a2 a3 a4 a5 a6 a7 a8:LI) (n1:Nat) (ks zs ss:LI) (n i:Int) (Q0:Nat→LI→LI→LI→Int→Int→Prop) (Q1:Nat→LI→LI→LI→Int→Int→Int→Prop) (Q2:Nat→LI→LI→LI→Int→Int→Nat→LI→Int→Prop) (R_:Bool→Prop):Prop:=(bw_ (decide (i<(↑(lenC [Col.sls a0,Col.sls a1,Col.sls a2,Col.sls a3,Col.sls a4,Col.sls a5,Col.sls a6,Col.sls a7,Col.sls a8]):Int))) (aw_ (0≤i∧i<(↑(lenC [Col.sls a0,Col.sls a1,Col.sls a2,Col.sls a3,Col.sls a4,Col.sls a5,Col.sls a6,Col.sls a7,Col.sls a8]):Int)) (aw_ ((0:Int)≤2∧(2:Int)<9) (bw_ (decide ((↑(iC (slR (iE a2 (iJ i) 0))):Int)>4)) (R_ (false)) (Q1 (n1) (ks) (zs) (ss) (n) (2) (iA iB (i+1)))))) (∀r1:LI,r1=(r17_All a0 a1 a2 a3 a4 a5 a6 a7 a8 2)→(aw_ (((0:Int)≤2∧(2:Int)≤8)∧iC a0≤1000∧lenB (pkGet 2 a0 a1 a2 a3 a4 a5 a6 a7 a8) (iC a0)=true) (Q2 (n1) (ks) (zs) (ss) (iA iB (n+(↑(iC r1):Int))) (2) (iC r1) (r1) (0)))))
def r17_Fits_w1_3 (t p h:Int) (xs a0 a1 a2 a3 a4 a5 a6 a7 a8:LI) (n1:Nat) (ks zs ss:LI) (n i:Int) (Q0:Nat→LI→LI→LI→Int→Int→Prop) (Q1:Nat→LI→LI→LI→Int→Int→Int→Prop) (Q2:Nat→LI→LI→LI→Int→Int→Nat→LI→Int→Prop) (R_:Bool→Prop):Prop:=(bw_ (decide (i<(↑(lenC [Col.sls a0,Col.sls a1,Col.sls a2,Col.sls a3,Col.sls a4,Col.sls a5,Col.sls a6,Col.sls a7,Col.sls a8]):Int))) (aw_ (0≤i∧i<(↑(lenC [Col.sls a0,Col.sls a1,Col.sls a2,Col.sls a3,Col.sls a4,Col.sls a5,Col.sls a6,Col.sls a7,Col.sls a8]):Int)) (aw_ ((0:Int)≤3∧(3:Int)<9) (bw_ (decide ((↑(iC (slR (iE a3 (iJ i) 0))):Int)>4)) (R_ (false)) (Q1 (n1) (ks) (zs) (ss) (n) (3) (iA iB (i+1)))))) (∀r1:LI,r1=(r17_All a0 a1 a2 a3 a4 a5 a6 a7 a8 3)→(aw_ (((0:Int)≤3∧(3:Int)≤8)∧iC a0≤1000∧lenB (pkGet 3 a0 a1 a2 a3 a4 a5 a6 a7 a8) (iC a0)=true) (Q2 (n1) (ks) (zs) (ss) (iA iB (n+(↑(iC r1):Int))) (3) (iC r1) (r1) (0)))))
def r17_Fits_w1_4 (t p h:Int) (xs a0 a1 a2 a3 a4 a5 a6 a7 a8:LI) (n1:Nat) (ks zs ss:LI) (n i:Int) (Q0:Nat→LI→LI→LI→Int→Int→Prop) (Q1:Nat→LI→LI→LI→Int→Int→Int→Prop) (Q2:Nat→LI→LI→LI→Int→Int→Nat→LI→Int→Prop) (R_:Bool→Prop):Prop:=(bw_ (decide (i<(↑(lenC [Col.sls a0,Col.sls a1,Col.sls a2,Col.sls a3,Col.sls a4,Col.sls a5,Col.sls a6,Col.sls a7,Col.sls a8]):Int))) (aw_ (0≤i∧i<(↑(lenC [Col.sls a0,Col.sls a1,Col.sls a2,Col.sls a3,Col.sls a4,Col.sls a5,Col.sls a6,Col.sls a7,Col.sls a8]):Int)) (aw_ ((0:Int)≤4∧(4:Int)<9) (bw_ (decide ((↑(iC (slR (iE a4 (iJ i) 0))):Int)>4)) (R_ (false)) (Q1 (n1) (ks) (zs) (ss) (n) (4) (iA iB (i+1)))))) (∀r1:LI,r1=(r17_All a0 a1 a2 a3 a4 a5 a6 a7 a8 4)→(aw_ (((0:Int)≤4∧(4:Int)≤8)∧iC a0≤1000∧lenB (pkGet 4 a0 a1 a2 a3 a4 a5 a6 a7 a8) (iC a0)=true) (Q2 (n1) (ks) (zs) (ss) (iA iB (n+(↑(iC r1):Int))) (4) (iC r1) (r1) (0)))))
def r17_Fits_w1_5 (t p h:Int) (xs a0 a1 a2 a3 a4 a5 a6 a7 a8:LI) (n1:Nat) (ks zs ss:LI) (n i:Int) (Q0:Nat→LI→LI→LI→Int→Int→Prop) (Q1:Nat→LI→LI→LI→Int→Int→Int→Prop) (Q2:Nat→LI→LI→LI→Int→Int→Nat→LI→Int→Prop) (R_:Bool→Prop):Prop:=(bw_ (decide (i<(↑(lenC [Col.sls a0,Col.sls a1,Col.sls a2,Col.sls a3,Col.sls a4,Col.sls a5,Col.sls a6,Col.sls a7,Col.sls a8]):Int))) (aw_ (0≤i∧i<(↑(lenC [Col.sls a0,Col.sls a1,Col.sls a2,Col.sls a3,Col.sls a4,Col.sls a5,Col.sls a6,Col.sls a7,Col.sls a8]):Int)) (aw_ ((0:Int)≤5∧(5:Int)<9) (bw_ (decide ((↑(iC (slR (iE a5 (iJ i) 0))):Int)>4)) (R_ (false)) (Q1 (n1) (ks) (zs) (ss) (n) (5) (iA iB (i+1)))))) (∀r1:LI,r1=(r17_All a0 a1 a2 a3 a4 a5 a6 a7 a8 5)→(aw_ (((0:Int)≤5∧(5:Int)≤8)∧iC a0≤1000∧lenB (pkGet 5 a0 a1 a2 a3 a4 a5 a6 a7 a8) (iC a0)=true) (Q2 (n1) (ks) (zs) (ss) (iA iB (n+(↑(iC r1):Int))) (5) (iC r1) (r1) (0)))))
def r17_Fits_w1_6 (t p h:Int) (xs a0 a1 a2 a3 a4 a5 a6 a7 a8:LI) (n1:Nat) (ks zs ss:LI) (n i:Int) (Q0:Nat→LI→LI→LI→Int→Int→Prop) (Q1:Nat→LI→LI→LI→Int→Int→Int→Prop) (Q2:Nat→LI→LI→LI→Int→Int→Nat→LI→Int→Prop) (R_:Bool→Prop):Prop:=(bw_ (decide (i<(↑(lenC [Col.sls a0,Col.sls a1,Col.sls a2,Col.sls a3,Col.sls a4,Col.sls a5,Col.sls a6,Col.sls a7,Col.sls a8]):Int))) (aw_ (0≤i∧i<(↑(lenC [Col.sls a0,Col.sls a1,Col.sls a2,Col.sls a3,Col.sls a4,Col.sls a5,Col.sls a6,Col.sls a7,Col.sls a8]):Int)) (aw_ ((0:Int)≤6∧(6:Int)<9) (bw_ (decide ((↑(iC (slR (iE a6 (iJ i) 0))):Int)>4)) (R_ (false)) (Q1 (n1) (ks) (zs) (ss) (n) (6) (iA iB (i+1)))))) (∀r1:LI,r1=(r17_All a0 a1 a2 a3 a4 a5 a6 a7 a8 6)→(aw_ (((0:Int)≤6∧(6:Int)≤8)∧iC a0≤1000∧lenB (pkGet 6 a0 a1 a2 a3 a4 a5 a6 a7 a8) (iC a0)=true) (Q2 (n1) (ks) (zs) (ss) (iA iB (n+(↑(iC r1):Int))) (6) (iC r1) (r1) (0)))))
def r17_Fits_w1_7 (t p h:Int) (xs a0 a1 a2 a3 a4 a5 a6 a7 a8:LI) (n1:Nat) (ks zs ss:LI) (n i:Int) (Q0:Nat→LI→LI→LI→Int→Int→Prop) (Q1:Nat→LI→LI→LI→Int→Int→Int→Prop) (Q2:Nat→LI→LI→LI→Int→Int→Nat→LI→Int→Prop) (R_:Bool→Prop):Prop:=(bw_ (decide (i<(↑(lenC [Col.sls a0,Col.sls a1,Col.sls a2,Col.sls a3,Col.sls a4,Col.sls a5,Col.sls a6,Col.sls a7,Col.sls a8]):Int))) (aw_ (0≤i∧i<(↑(lenC [Col.sls a0,Col.sls a1,Col.sls a2,Col.sls a3,Col.sls a4,Col.sls a5,Col.sls a6,Col.sls a7,Col.sls a8]):Int)) (aw_ ((0:Int)≤7∧(7:Int)<9) (bw_ (decide ((↑(iC (slR (iE a7 (iJ i) 0))):Int)>4)) (R_ (false)) (Q1 (n1) (ks) (zs) (ss) (n) (7) (iA iB (i+1)))))) (∀r1:LI,r1=(r17_All a0 a1 a2 a3 a4 a5 a6 a7 a8 7)→(aw_ (((0:Int)≤7∧(7:Int)≤8)∧iC a0≤1000∧lenB (pkGet 7 a0 a1 a2 a3 a4 a5 a6 a7 a8) (iC a0)=true) (Q2 (n1) (ks) (zs) (ss) (iA iB (n+(↑(iC r1):Int))) (7) (iC r1) (r1) (0)))))
def r17_Fits_w1_8 (t p h:Int) (xs a0 a1 a2 a3 a4 a5 a6 a7 a8:LI) (n1:Nat) (ks zs ss:LI) (n i:Int) (Q0:Nat→LI→LI→LI→Int→Int→Prop) (Q1:Nat→LI→LI→LI→Int→Int→Int→Prop) (Q2:Nat→LI→LI→LI→Int→Int→Nat→LI→Int→Prop) (R_:Bool→Prop):Prop:=(bw_ (decide (i<(↑(lenC [Col.sls a0,Col.sls a1,Col.sls a2,Col.sls a3,Col.sls a4,Col.sls a5,Col.sls a6,Col.sls a7,Col.sls a8]):Int))) (aw_ (0≤i∧i<(↑(lenC [Col.sls a0,Col.sls a1,Col.sls a2,Col.sls a3,Col.sls a4,Col.sls a5,Col.sls a6,Col.sls a7,Col.sls a8]):Int)) (aw_ ((0:Int)≤8∧(8:Int)<9) (bw_ (decide ((↑(iC (slR (iE a8 (iJ i) 0))):Int)>4)) (R_ (false)) (Q1 (n1) (ks) (zs) (ss) (n) (8) (iA iB (i+1)))))) (∀r1:LI,r1=(r17_All a0 a1 a2 a3 a4 a5 a6 a7 a8 8)→(aw_ (((0:Int)≤8∧(8:Int)≤8)∧iC a0≤1000∧lenB (pkGet 8 a0 a1 a2 a3 a4 a5 a6 a7 a8) (iC a0)=true) (Q2 (n1) (ks) (zs) (ss) (iA iB (n+(↑(iC r1):Int))) (8) (iC r1) (r1) (0)))))
def r17_Fits_I1 (t p h:Int) (xs a0 a1 a2 a3 a4 a5 a6 a7 a8:LI) (n1:Nat) (ks zs ss:LI) (n k i:Int) (r_:Bool):Prop:=(n1=ks.length∧ks=(partsL ⟨t,p,h⟩ xs).map (·.k)∧zs=(partsL ⟨t,p,h⟩ xs).map (·.a)∧ss=(partsL ⟨t,p,h⟩ xs).map (·.s)∧(partsL ⟨t,p,h⟩ xs).length≤100000∧a0.length≤1000)∧0≤k∧k≤8∧0≤i∧i≤a0.length∧lenB ((λk=>pkGet k a0 a1 a2 a3 a4 a5 a6 a7 a8) k) i.toNat=true∧r_=fitOut h (partsL ⟨t,p,h⟩ xs) (λk=>pkGet k a0 a1 a2 a3 a4 a5 a6 a7 a8) a0.length (9-k).toNat n
def r17_Fits_w2 (t p h:Int) (xs a0 a1 a2 a3 a4 a5 a6 a7 a8:LI) (n1:Nat) (ks zs ss:LI) (n k:Int) (n2:Nat) (ys:LI) (i:Int) (Q0:Nat→LI→LI→LI→Int→Int→Prop) (Q1:Nat→LI→LI→LI→Int→Int→Int→Prop) (Q2:Nat→LI→LI→LI→Int→Int→Nat→LI→Int→Prop) (R_:Bool→Prop):Prop:=(bw_ (decide (i<(↑n1:Int))) (aw_ (0≤i∧i<(↑n1:Int)) (aw_ ((iE ks (iJ i) (0:Int)==4)=true→0≤i∧i<(↑n1:Int)) (bw_ (iE ks (iJ i) (0:Int)==4&&iE ss (iJ i) 0==r05_Size h k) (aw_ (0≤i∧i<(↑n1:Int)) (∀r5:Int,r5=(r17_often ys (iE zs (iJ i) 0))→(bw_ (r5 !=1) (R_ (false)) (Q2 (n1) (ks) (zs) (ss) (iA iB (n-1)) (k) (n2) (ys) (iA iB (i+1)))))) (Q2 (n1) (ks) (zs) (ss) (n) (k) (n2) (ys) (iA iB (i+1)))))) (Q0 (n1) (ks) (zs) (ss) (n) (iA iB (k+1))))
def r17_Fits_I2 (t p h:Int) (xs a0 a1 a2 a3 a4 a5 a6 a7 a8:LI) (n1:Nat) (ks zs ss:LI) (n k:Int) (n2:Nat) (ys:LI) (i:Int) (r_:Bool):Prop:=(n1=ks.length∧ks=(partsL ⟨t,p,h⟩ xs).map (·.k)∧zs=(partsL ⟨t,p,h⟩ xs).map (·.a)∧ss=(partsL ⟨t,p,h⟩ xs).map (·.s)∧(partsL ⟨t,p,h⟩ xs).length≤100000∧a0.length≤1000)∧0≤k∧k≤8∧n2=ys.length∧0≤i∧i≤n1∧r_=fitTl h (partsL ⟨t,p,h⟩ xs) (λk=>pkGet k a0 a1 a2 a3 a4 a5 a6 a7 a8) a0.length k ys ((partsL ⟨t,p,h⟩ xs).drop i.toNat) n
abbrev r17_Fits_h0 (p0:Addr) (t p h:Int) (xs a0 a1 a2 a3 a4 a5 a6 a7 a8:LI):Hd Sg:=⟨none,[0,1,0,1,1,1,1],[.blk 0, .code [1,1,1,1,1]],[2,3,7,8,9],[.roc [.sls (a0), .sls (a1), .sls (a2), .sls (a3), .sls (a4), .sls (a5), .sls (a6), .sls (a7), .sls (a8)], .box 23 [.ic .i64 (t), .ic .i64 (p), .ic .i64 (h)], .own 115 [some .i64,some .i64,some .i64], .i .i64, .i .i64]⟩
abbrev r17_Fits_h1 (p0:Addr) (t p h:Int) (xs a0 a1 a2 a3 a4 a5 a6 a7 a8:LI):Hd Sg:=⟨none,[0,1,0,0,0,1,0,0,1,0,1,1,1,1],[.blk 2, .code [1,0,0,1,0,0,1,0,1,1,1,1], .blk 1, .code [1,1,0,0,1,0,1,1,1,1], .again [0,1,0,1,1,1,1], .blk 0, .code [1,1,1,1,1]],[2,3,7,8,9,10],[.roc [.sls (a0), .sls (a1), .sls (a2), .sls (a3), .sls (a4), .sls (a5), .sls (a6), .sls (a7), .sls (a8)], .box 23 [.ic .i64 (t), .ic .i64 (p), .ic .i64 (h)], .own 115 [some .i64,some .i64,some .i64], .i .i64, .i .i64, .i .i64]⟩
abbrev r17_Fits_h2 (p0:Addr) (t p h:Int) (xs a0 a1 a2 a3 a4 a5 a6 a7 a8:LI):Hd Sg:=⟨none,[0,1,1,1,1,0,0,1,0,0,1,0,1,1,1,1],[.blk 4, .blk 1, .code [1,1,0,0,1,0,1,1,1,1], .again [0,1,0,1,1,1,1], .blk 0, .code [1,1,1,1,1]],[2,3,7,8,9,11,12],[.roc [.sls (a0), .sls (a1), .sls (a2), .sls (a3), .sls (a4), .sls (a5), .sls (a6), .sls (a7), .sls (a8)], .box 23 [.ic .i64 (t), .ic .i64 (p), .ic .i64 (h)], .own 115 [some .i64,some .i64,some .i64], .i .i64, .i .i64, .own 2 [some .i64], .i .i64]⟩
theorem r17_Fits_begin (t p h:Int) (xs a0 a1 a2 a3 a4 a5 a6 a7 a8:LI) (hp0:bdAll xs) (hp1:a0.length≤1000) (hl0:xs.length≤9223372036854775807) (hl1:a0.length≤9223372036854775807):r17_Fits_w t p h xs a0 a1 a2 a3 a4 a5 a6 a7 a8 (λn1' ks' zs' ss' n' k'=>r17_Fits_I0 t p h xs a0 a1 a2 a3 a4 a5 a6 a7 a8 n1' ks' zs' ss' n' k' (r17_Fits t p h xs a0 a1 a2 a3 a4 a5 a6 a7 a8)) (λn1' ks' zs' ss' n' k' i'=>r17_Fits_I1 t p h xs a0 a1 a2 a3 a4 a5 a6 a7 a8 n1' ks' zs' ss' n' k' i' (r17_Fits t p h xs a0 a1 a2 a3 a4 a5 a6 a7 a8)) (λn1' ks' zs' ss' n' k' n2' ys' i'=>r17_Fits_I2 t p h xs a0 a1 a2 a3 a4 a5 a6 a7 a8 n1' ks' zs' ss' n' k' n2' ys' i' (r17_Fits t p h xs a0 a1 a2 a3 a4 a5 a6 a7 a8)) (λr__=>r__=(r17_Fits t p h xs a0 a1 a2 a3 a4 a5 a6 a7 a8)):=by
 unfold r17_Fits_w
 try unfold r17_Fits_I0
 try unfold r17_Fits_I1
 try unfold r17_Fits_I2
 rintro r1 rfl
 refine ⟨hp0, λ_=>⟨λhc=>?_, λhc=>?_⟩⟩
 ·show false=r17_Fits t p h xs a0 a1 a2 a3 a4 a5 a6 a7 a8
  have hc:(!soundA ⟨t,p,h⟩ xs||(a0.length:Int) !=t)=true:=hc
  unfold r17_Fits
  rw [hc];rfl
 ·have hc:(!soundA ⟨t,p,h⟩ xs||(a0.length:Int) !=t)=false:=hc
  have hs:soundA ⟨t,p,h⟩ xs=true:=by
   simp only [jI,jF] at hc;exact hc.1
  have hok:=(sound_good hs hp0).ok
  have hl:=partsL_len ⟨t,p,h⟩ xs
  have hp4:=(Cf.ok_iff.1 hok).2.1.2
  have e:r12_Parts t p h xs=((partsL ⟨t,p,h⟩ xs).map (·.k),(partsL ⟨t,p,h⟩ xs).map (·.a),(partsL ⟨t,p,h⟩ xs).map (·.s)):=by
   unfold r12_Parts;rw [hs];rfl
  rw [e]
  rintro r4 rfl
  refine ⟨hp0, λ_=>⟨⟨rfl,rfl,rfl,rfl,?_,hp1⟩,by omega,by omega,?_⟩⟩
  ·dsimp only at hl hp4;omega
  ·show r17_Fits t p h xs a0 a1 a2 a3 a4 a5 a6 a7 a8=_
   unfold r17_Fits
   rw [hc];rfl
theorem r17_Fits_step0 (t p h:Int) (xs a0 a1 a2 a3 a4 a5 a6 a7 a8:LI) (hp0:bdAll xs) (hp1:a0.length≤1000) (hl0:xs.length≤9223372036854775807) (hl1:a0.length≤9223372036854775807) (n1:Nat) (ks zs ss:LI) (n k:Int) {r_:Bool} (hI:r17_Fits_I0 t p h xs a0 a1 a2 a3 a4 a5 a6 a7 a8 n1 ks zs ss n k r_):r17_Fits_w0 t p h xs a0 a1 a2 a3 a4 a5 a6 a7 a8 n1 ks zs ss n k (λn1' ks' zs' ss' n' k'=>r17_Fits_I0 t p h xs a0 a1 a2 a3 a4 a5 a6 a7 a8 n1' ks' zs' ss' n' k' r_∧lx ((9-k').toNat,3,0) ((9-k).toNat,3,0)) (λn1' ks' zs' ss' n' k' i'=>r17_Fits_I1 t p h xs a0 a1 a2 a3 a4 a5 a6 a7 a8 n1' ks' zs' ss' n' k' i' r_∧lx ((9-k').toNat,2,(a0.length-i').toNat) ((9-k).toNat,3,0)) (λn1' ks' zs' ss' n' k' n2' ys' i'=>r17_Fits_I2 t p h xs a0 a1 a2 a3 a4 a5 a6 a7 a8 n1' ks' zs' ss' n' k' n2' ys' i' r_∧lx ((9-k').toNat,1,(n1'-i').toNat) ((9-k).toNat,3,0)) (λr__=>r__=r_):=by
 unfold r17_Fits_I0 at hI
 unfold r17_Fits_w0
 try unfold r17_Fits_I0
 try unfold r17_Fits_I1
 try unfold r17_Fits_I2
 obtain ⟨hb,h0,h1,hr⟩:=hI
 refine ⟨λhc=>?_, λhc=>?_⟩
 ·have hc:=of_decide_eq_true hc
  exact ⟨⟨hb,h0,by omega,by omega,by omega,rfl,hr⟩,lxo_⟩
 ·have hc:=of_decide_eq_false hc
  show (n==0)=r_
  rw [hr,show (9-k).toNat=0 by omega];rfl
theorem r17_Fits_cs1 (t p h:Int) (xs a0 a1 a2 a3 a4 a5 a6 a7 a8:LI) (hp0:bdAll xs) (hp1:a0.length≤1000) (hl0:xs.length≤9223372036854775807) (hl1:a0.length≤9223372036854775807) (n1:Nat) (ks zs ss:LI) (n k i:Int) {r_:Bool} (hI:r17_Fits_I1 t p h xs a0 a1 a2 a3 a4 a5 a6 a7 a8 n1 ks zs ss n k i r_):k=0∨k=1∨k=2∨k=3∨k=4∨k=5∨k=6∨k=7∨k=8:=by
 unfold r17_Fits_I1 at hI
 obtain ⟨_,h1,h2,_⟩:=hI
 omega
theorem r17_Fits_step1_0 (t p h:Int) (xs a0 a1 a2 a3 a4 a5 a6 a7 a8:LI) (hp0:bdAll xs) (hp1:a0.length≤1000) (hl0:xs.length≤9223372036854775807) (hl1:a0.length≤9223372036854775807) (n1:Nat) (ks zs ss:LI) (n i:Int) {r_:Bool} (hI:r17_Fits_I1 t p h xs a0 a1 a2 a3 a4 a5 a6 a7 a8 n1 ks zs ss n (0:Int) i r_):r17_Fits_w1_0 t p h xs a0 a1 a2 a3 a4 a5 a6 a7 a8 n1 ks zs ss n i (λn1' ks' zs' ss' n' k'=>r17_Fits_I0 t p h xs a0 a1 a2 a3 a4 a5 a6 a7 a8 n1' ks' zs' ss' n' k' r_∧lx ((9-k').toNat,3,0) ((9-(0:Int)).toNat,2,(a0.length-i).toNat)) (λn1' ks' zs' ss' n' k' i'=>r17_Fits_I1 t p h xs a0 a1 a2 a3 a4 a5 a6 a7 a8 n1' ks' zs' ss' n' k' i' r_∧lx ((9-k').toNat,2,(a0.length-i').toNat) ((9-(0:Int)).toNat,2,(a0.length-i).toNat)) (λn1' ks' zs' ss' n' k' n2' ys' i'=>r17_Fits_I2 t p h xs a0 a1 a2 a3 a4 a5 a6 a7 a8 n1' ks' zs' ss' n' k' n2' ys' i' r_∧lx ((9-k').toNat,1,(n1'-i').toNat) ((9-(0:Int)).toNat,2,(a0.length-i).toNat)) (λr__=>r__=r_):=by
 unfold r17_Fits_I1 at hI
 unfold r17_Fits_w1_0
 try unfold r17_Fits_I0
 try unfold r17_Fits_I1
 try unfold r17_Fits_I2
 obtain ⟨hb,_,_,h0,h1,hl,hr⟩:=hI
 refine ⟨λhc=>?_, λhc=>?_⟩
 ·have hc:i<(a0.length:Int):=of_decide_eq_true hc
  have hlt:i.toNat<a0.length:=by omega
  have hb6:=hb.2.2.2.2.2
  rw [w64 (n:=i+1) (by omega)]
  refine ⟨⟨h0,hc⟩, λ_=>⟨by decide, λ_=>⟨λhg=>?_, λhg=>?_⟩⟩⟩
  ·have hg:((slR (a0.getD i.toNat 0)).length:Int)>4:=of_decide_eq_true hg
   show false=r_
   rw [hr,fitOut_step (by decide)]
   cases hq:lenB ((λk=>pkGet k a0 a1 a2 a3 a4 a5 a6 a7 a8) 0) a0.length with
   |false=>rfl
   |true=>
    have:(slR (a0.getD i.toNat 0)).length≤4:=lenB_all hq _ hlt
    omega
  ·have hg:¬((slR (a0.getD i.toNat 0)).length:Int)>4:=of_decide_eq_false hg
   refine ⟨⟨hb,by decide,by decide,by omega,by omega,?_,hr⟩,lxo_⟩
   rw [show (i+1).toNat=i.toNat+1 by omega]
   show (lenB ((λk=>pkGet k a0 a1 a2 a3 a4 a5 a6 a7 a8) 0) i.toNat&&decide ((slR (a0.getD i.toNat 0)).length≤4))=true
   rw [hl,jV,decide_eq_true_eq];omega
 ·have hc:¬i<(a0.length:Int):=of_decide_eq_false hc
  rw [show i.toNat=a0.length by omega] at hl
  rintro r1 rfl
  refine ⟨⟨⟨by decide,by decide⟩,hb.2.2.2.2.2,hl⟩, λ_=>⟨⟨hb,by decide,by decide,rfl,by omega,by omega,?_⟩,lxo_⟩⟩
  rw [hr,fitOut_step (by decide),hl];rfl
theorem r17_Fits_step1_1 (t p h:Int) (xs a0 a1 a2 a3 a4 a5 a6 a7 a8:LI) (hp0:bdAll xs) (hp1:a0.length≤1000) (hl0:xs.length≤9223372036854775807) (hl1:a0.length≤9223372036854775807) (n1:Nat) (ks zs ss:LI) (n i:Int) {r_:Bool} (hI:r17_Fits_I1 t p h xs a0 a1 a2 a3 a4 a5 a6 a7 a8 n1 ks zs ss n (1:Int) i r_):r17_Fits_w1_1 t p h xs a0 a1 a2 a3 a4 a5 a6 a7 a8 n1 ks zs ss n i (λn1' ks' zs' ss' n' k'=>r17_Fits_I0 t p h xs a0 a1 a2 a3 a4 a5 a6 a7 a8 n1' ks' zs' ss' n' k' r_∧lx ((9-k').toNat,3,0) ((9-(1:Int)).toNat,2,(a0.length-i).toNat)) (λn1' ks' zs' ss' n' k' i'=>r17_Fits_I1 t p h xs a0 a1 a2 a3 a4 a5 a6 a7 a8 n1' ks' zs' ss' n' k' i' r_∧lx ((9-k').toNat,2,(a0.length-i').toNat) ((9-(1:Int)).toNat,2,(a0.length-i).toNat)) (λn1' ks' zs' ss' n' k' n2' ys' i'=>r17_Fits_I2 t p h xs a0 a1 a2 a3 a4 a5 a6 a7 a8 n1' ks' zs' ss' n' k' n2' ys' i' r_∧lx ((9-k').toNat,1,(n1'-i').toNat) ((9-(1:Int)).toNat,2,(a0.length-i).toNat)) (λr__=>r__=r_):=by
 unfold r17_Fits_I1 at hI
 unfold r17_Fits_w1_1
 try unfold r17_Fits_I0
 try unfold r17_Fits_I1
 try unfold r17_Fits_I2
 obtain ⟨hb,_,_,h0,h1,hl,hr⟩:=hI
 refine ⟨λhc=>?_, λhc=>?_⟩
 ·have hc:i<(a0.length:Int):=of_decide_eq_true hc
  have hlt:i.toNat<a0.length:=by omega
  have hb6:=hb.2.2.2.2.2
  rw [w64 (n:=i+1) (by omega)]
  refine ⟨⟨h0,hc⟩, λ_=>⟨by decide, λ_=>⟨λhg=>?_, λhg=>?_⟩⟩⟩
  ·have hg:((slR (a1.getD i.toNat 0)).length:Int)>4:=of_decide_eq_true hg
   show false=r_
   rw [hr,fitOut_step (by decide)]
   cases hq:lenB ((λk=>pkGet k a0 a1 a2 a3 a4 a5 a6 a7 a8) 1) a0.length with
   |false=>rfl
   |true=>
    have:(slR (a1.getD i.toNat 0)).length≤4:=lenB_all hq _ hlt
    omega
  ·have hg:¬((slR (a1.getD i.toNat 0)).length:Int)>4:=of_decide_eq_false hg
   refine ⟨⟨hb,by decide,by decide,by omega,by omega,?_,hr⟩,lxo_⟩
   rw [show (i+1).toNat=i.toNat+1 by omega]
   show (lenB ((λk=>pkGet k a0 a1 a2 a3 a4 a5 a6 a7 a8) 1) i.toNat&&decide ((slR (a1.getD i.toNat 0)).length≤4))=true
   rw [hl,jV,decide_eq_true_eq];omega
 ·have hc:¬i<(a0.length:Int):=of_decide_eq_false hc
  rw [show i.toNat=a0.length by omega] at hl
  rintro r1 rfl
  refine ⟨⟨⟨by decide,by decide⟩,hb.2.2.2.2.2,hl⟩, λ_=>⟨⟨hb,by decide,by decide,rfl,by omega,by omega,?_⟩,lxo_⟩⟩
  rw [hr,fitOut_step (by decide),hl];rfl
theorem r17_Fits_step1_2 (t p h:Int) (xs a0 a1 a2 a3 a4 a5 a6 a7 a8:LI) (hp0:bdAll xs) (hp1:a0.length≤1000) (hl0:xs.length≤9223372036854775807) (hl1:a0.length≤9223372036854775807) (n1:Nat) (ks zs ss:LI) (n i:Int) {r_:Bool} (hI:r17_Fits_I1 t p h xs a0 a1 a2 a3 a4 a5 a6 a7 a8 n1 ks zs ss n (2:Int) i r_):r17_Fits_w1_2 t p h xs a0 a1 a2 a3 a4 a5 a6 a7 a8 n1 ks zs ss n i (λn1' ks' zs' ss' n' k'=>r17_Fits_I0 t p h xs a0 a1 a2 a3 a4 a5 a6 a7 a8 n1' ks' zs' ss' n' k' r_∧lx ((9-k').toNat,3,0) ((9-(2:Int)).toNat,2,(a0.length-i).toNat)) (λn1' ks' zs' ss' n' k' i'=>r17_Fits_I1 t p h xs a0 a1 a2 a3 a4 a5 a6 a7 a8 n1' ks' zs' ss' n' k' i' r_∧lx ((9-k').toNat,2,(a0.length-i').toNat) ((9-(2:Int)).toNat,2,(a0.length-i).toNat)) (λn1' ks' zs' ss' n' k' n2' ys' i'=>r17_Fits_I2 t p h xs a0 a1 a2 a3 a4 a5 a6 a7 a8 n1' ks' zs' ss' n' k' n2' ys' i' r_∧lx ((9-k').toNat,1,(n1'-i').toNat) ((9-(2:Int)).toNat,2,(a0.length-i).toNat)) (λr__=>r__=r_):=by
 unfold r17_Fits_I1 at hI
 unfold r17_Fits_w1_2
 try unfold r17_Fits_I0
 try unfold r17_Fits_I1
 try unfold r17_Fits_I2
 obtain ⟨hb,_,_,h0,h1,hl,hr⟩:=hI
 refine ⟨λhc=>?_, λhc=>?_⟩
 ·have hc:i<(a0.length:Int):=of_decide_eq_true hc
  have hlt:i.toNat<a0.length:=by omega
  have hb6:=hb.2.2.2.2.2
  rw [w64 (n:=i+1) (by omega)]
  refine ⟨⟨h0,hc⟩, λ_=>⟨by decide, λ_=>⟨λhg=>?_, λhg=>?_⟩⟩⟩
  ·have hg:((slR (a2.getD i.toNat 0)).length:Int)>4:=of_decide_eq_true hg
   show false=r_
   rw [hr,fitOut_step (by decide)]
   cases hq:lenB ((λk=>pkGet k a0 a1 a2 a3 a4 a5 a6 a7 a8) 2) a0.length with
   |false=>rfl
   |true=>
    have:(slR (a2.getD i.toNat 0)).length≤4:=lenB_all hq _ hlt
    omega
  ·have hg:¬((slR (a2.getD i.toNat 0)).length:Int)>4:=of_decide_eq_false hg
   refine ⟨⟨hb,by decide,by decide,by omega,by omega,?_,hr⟩,lxo_⟩
   rw [show (i+1).toNat=i.toNat+1 by omega]
   show (lenB ((λk=>pkGet k a0 a1 a2 a3 a4 a5 a6 a7 a8) 2) i.toNat&&decide ((slR (a2.getD i.toNat 0)).length≤4))=true
   rw [hl,jV,decide_eq_true_eq];omega
 ·have hc:¬i<(a0.length:Int):=of_decide_eq_false hc
  rw [show i.toNat=a0.length by omega] at hl
  rintro r1 rfl
  refine ⟨⟨⟨by decide,by decide⟩,hb.2.2.2.2.2,hl⟩, λ_=>⟨⟨hb,by decide,by decide,rfl,by omega,by omega,?_⟩,lxo_⟩⟩
  rw [hr,fitOut_step (by decide),hl];rfl
theorem r17_Fits_step1_3 (t p h:Int) (xs a0 a1 a2 a3 a4 a5 a6 a7 a8:LI) (hp0:bdAll xs) (hp1:a0.length≤1000) (hl0:xs.length≤9223372036854775807) (hl1:a0.length≤9223372036854775807) (n1:Nat) (ks zs ss:LI) (n i:Int) {r_:Bool} (hI:r17_Fits_I1 t p h xs a0 a1 a2 a3 a4 a5 a6 a7 a8 n1 ks zs ss n (3:Int) i r_):r17_Fits_w1_3 t p h xs a0 a1 a2 a3 a4 a5 a6 a7 a8 n1 ks zs ss n i (λn1' ks' zs' ss' n' k'=>r17_Fits_I0 t p h xs a0 a1 a2 a3 a4 a5 a6 a7 a8 n1' ks' zs' ss' n' k' r_∧lx ((9-k').toNat,3,0) ((9-(3:Int)).toNat,2,(a0.length-i).toNat)) (λn1' ks' zs' ss' n' k' i'=>r17_Fits_I1 t p h xs a0 a1 a2 a3 a4 a5 a6 a7 a8 n1' ks' zs' ss' n' k' i' r_∧lx ((9-k').toNat,2,(a0.length-i').toNat) ((9-(3:Int)).toNat,2,(a0.length-i).toNat)) (λn1' ks' zs' ss' n' k' n2' ys' i'=>r17_Fits_I2 t p h xs a0 a1 a2 a3 a4 a5 a6 a7 a8 n1' ks' zs' ss' n' k' n2' ys' i' r_∧lx ((9-k').toNat,1,(n1'-i').toNat) ((9-(3:Int)).toNat,2,(a0.length-i).toNat)) (λr__=>r__=r_):=by
 unfold r17_Fits_I1 at hI
 unfold r17_Fits_w1_3
 try unfold r17_Fits_I0
 try unfold r17_Fits_I1
 try unfold r17_Fits_I2
 obtain ⟨hb,_,_,h0,h1,hl,hr⟩:=hI
 refine ⟨λhc=>?_, λhc=>?_⟩
 ·have hc:i<(a0.length:Int):=of_decide_eq_true hc
  have hlt:i.toNat<a0.length:=by omega
  have hb6:=hb.2.2.2.2.2
  rw [w64 (n:=i+1) (by omega)]
  refine ⟨⟨h0,hc⟩, λ_=>⟨by decide, λ_=>⟨λhg=>?_, λhg=>?_⟩⟩⟩
  ·have hg:((slR (a3.getD i.toNat 0)).length:Int)>4:=of_decide_eq_true hg
   show false=r_
   rw [hr,fitOut_step (by decide)]
   cases hq:lenB ((λk=>pkGet k a0 a1 a2 a3 a4 a5 a6 a7 a8) 3) a0.length with
   |false=>rfl
   |true=>
    have:(slR (a3.getD i.toNat 0)).length≤4:=lenB_all hq _ hlt
    omega
  ·have hg:¬((slR (a3.getD i.toNat 0)).length:Int)>4:=of_decide_eq_false hg
   refine ⟨⟨hb,by decide,by decide,by omega,by omega,?_,hr⟩,lxo_⟩
   rw [show (i+1).toNat=i.toNat+1 by omega]
   show (lenB ((λk=>pkGet k a0 a1 a2 a3 a4 a5 a6 a7 a8) 3) i.toNat&&decide ((slR (a3.getD i.toNat 0)).length≤4))=true
   rw [hl,jV,decide_eq_true_eq];omega
 ·have hc:¬i<(a0.length:Int):=of_decide_eq_false hc
  rw [show i.toNat=a0.length by omega] at hl
  rintro r1 rfl
  refine ⟨⟨⟨by decide,by decide⟩,hb.2.2.2.2.2,hl⟩, λ_=>⟨⟨hb,by decide,by decide,rfl,by omega,by omega,?_⟩,lxo_⟩⟩
  rw [hr,fitOut_step (by decide),hl];rfl
theorem r17_Fits_step1_4 (t p h:Int) (xs a0 a1 a2 a3 a4 a5 a6 a7 a8:LI) (hp0:bdAll xs) (hp1:a0.length≤1000) (hl0:xs.length≤9223372036854775807) (hl1:a0.length≤9223372036854775807) (n1:Nat) (ks zs ss:LI) (n i:Int) {r_:Bool} (hI:r17_Fits_I1 t p h xs a0 a1 a2 a3 a4 a5 a6 a7 a8 n1 ks zs ss n (4:Int) i r_):r17_Fits_w1_4 t p h xs a0 a1 a2 a3 a4 a5 a6 a7 a8 n1 ks zs ss n i (λn1' ks' zs' ss' n' k'=>r17_Fits_I0 t p h xs a0 a1 a2 a3 a4 a5 a6 a7 a8 n1' ks' zs' ss' n' k' r_∧lx ((9-k').toNat,3,0) ((9-(4:Int)).toNat,2,(a0.length-i).toNat)) (λn1' ks' zs' ss' n' k' i'=>r17_Fits_I1 t p h xs a0 a1 a2 a3 a4 a5 a6 a7 a8 n1' ks' zs' ss' n' k' i' r_∧lx ((9-k').toNat,2,(a0.length-i').toNat) ((9-(4:Int)).toNat,2,(a0.length-i).toNat)) (λn1' ks' zs' ss' n' k' n2' ys' i'=>r17_Fits_I2 t p h xs a0 a1 a2 a3 a4 a5 a6 a7 a8 n1' ks' zs' ss' n' k' n2' ys' i' r_∧lx ((9-k').toNat,1,(n1'-i').toNat) ((9-(4:Int)).toNat,2,(a0.length-i).toNat)) (λr__=>r__=r_):=by
 unfold r17_Fits_I1 at hI
 unfold r17_Fits_w1_4
 try unfold r17_Fits_I0
 try unfold r17_Fits_I1
 try unfold r17_Fits_I2
 obtain ⟨hb,_,_,h0,h1,hl,hr⟩:=hI
 refine ⟨λhc=>?_, λhc=>?_⟩
 ·have hc:i<(a0.length:Int):=of_decide_eq_true hc
  have hlt:i.toNat<a0.length:=by omega
  have hb6:=hb.2.2.2.2.2
  rw [w64 (n:=i+1) (by omega)]
  refine ⟨⟨h0,hc⟩, λ_=>⟨by decide, λ_=>⟨λhg=>?_, λhg=>?_⟩⟩⟩
  ·have hg:((slR (a4.getD i.toNat 0)).length:Int)>4:=of_decide_eq_true hg
   show false=r_
   rw [hr,fitOut_step (by decide)]
   cases hq:lenB ((λk=>pkGet k a0 a1 a2 a3 a4 a5 a6 a7 a8) 4) a0.length with
   |false=>rfl
   |true=>
    have:(slR (a4.getD i.toNat 0)).length≤4:=lenB_all hq _ hlt
    omega
  ·have hg:¬((slR (a4.getD i.toNat 0)).length:Int)>4:=of_decide_eq_false hg
   refine ⟨⟨hb,by decide,by decide,by omega,by omega,?_,hr⟩,lxo_⟩
   rw [show (i+1).toNat=i.toNat+1 by omega]
   show (lenB ((λk=>pkGet k a0 a1 a2 a3 a4 a5 a6 a7 a8) 4) i.toNat&&decide ((slR (a4.getD i.toNat 0)).length≤4))=true
   rw [hl,jV,decide_eq_true_eq];omega
 ·have hc:¬i<(a0.length:Int):=of_decide_eq_false hc
  rw [show i.toNat=a0.length by omega] at hl
  rintro r1 rfl
  refine ⟨⟨⟨by decide,by decide⟩,hb.2.2.2.2.2,hl⟩, λ_=>⟨⟨hb,by decide,by decide,rfl,by omega,by omega,?_⟩,lxo_⟩⟩
  rw [hr,fitOut_step (by decide),hl];rfl
theorem r17_Fits_step1_5 (t p h:Int) (xs a0 a1 a2 a3 a4 a5 a6 a7 a8:LI) (hp0:bdAll xs) (hp1:a0.length≤1000) (hl0:xs.length≤9223372036854775807) (hl1:a0.length≤9223372036854775807) (n1:Nat) (ks zs ss:LI) (n i:Int) {r_:Bool} (hI:r17_Fits_I1 t p h xs a0 a1 a2 a3 a4 a5 a6 a7 a8 n1 ks zs ss n (5:Int) i r_):r17_Fits_w1_5 t p h xs a0 a1 a2 a3 a4 a5 a6 a7 a8 n1 ks zs ss n i (λn1' ks' zs' ss' n' k'=>r17_Fits_I0 t p h xs a0 a1 a2 a3 a4 a5 a6 a7 a8 n1' ks' zs' ss' n' k' r_∧lx ((9-k').toNat,3,0) ((9-(5:Int)).toNat,2,(a0.length-i).toNat)) (λn1' ks' zs' ss' n' k' i'=>r17_Fits_I1 t p h xs a0 a1 a2 a3 a4 a5 a6 a7 a8 n1' ks' zs' ss' n' k' i' r_∧lx ((9-k').toNat,2,(a0.length-i').toNat) ((9-(5:Int)).toNat,2,(a0.length-i).toNat)) (λn1' ks' zs' ss' n' k' n2' ys' i'=>r17_Fits_I2 t p h xs a0 a1 a2 a3 a4 a5 a6 a7 a8 n1' ks' zs' ss' n' k' n2' ys' i' r_∧lx ((9-k').toNat,1,(n1'-i').toNat) ((9-(5:Int)).toNat,2,(a0.length-i).toNat)) (λr__=>r__=r_):=by
 unfold r17_Fits_I1 at hI
 unfold r17_Fits_w1_5
 try unfold r17_Fits_I0
 try unfold r17_Fits_I1
 try unfold r17_Fits_I2
 obtain ⟨hb,_,_,h0,h1,hl,hr⟩:=hI
 refine ⟨λhc=>?_, λhc=>?_⟩
 ·have hc:i<(a0.length:Int):=of_decide_eq_true hc
  have hlt:i.toNat<a0.length:=by omega
  have hb6:=hb.2.2.2.2.2
  rw [w64 (n:=i+1) (by omega)]
  refine ⟨⟨h0,hc⟩, λ_=>⟨by decide, λ_=>⟨λhg=>?_, λhg=>?_⟩⟩⟩
  ·have hg:((slR (a5.getD i.toNat 0)).length:Int)>4:=of_decide_eq_true hg
   show false=r_
   rw [hr,fitOut_step (by decide)]
   cases hq:lenB ((λk=>pkGet k a0 a1 a2 a3 a4 a5 a6 a7 a8) 5) a0.length with
   |false=>rfl
   |true=>
    have:(slR (a5.getD i.toNat 0)).length≤4:=lenB_all hq _ hlt
    omega
  ·have hg:¬((slR (a5.getD i.toNat 0)).length:Int)>4:=of_decide_eq_false hg
   refine ⟨⟨hb,by decide,by decide,by omega,by omega,?_,hr⟩,lxo_⟩
   rw [show (i+1).toNat=i.toNat+1 by omega]
   show (lenB ((λk=>pkGet k a0 a1 a2 a3 a4 a5 a6 a7 a8) 5) i.toNat&&decide ((slR (a5.getD i.toNat 0)).length≤4))=true
   rw [hl,jV,decide_eq_true_eq];omega
 ·have hc:¬i<(a0.length:Int):=of_decide_eq_false hc
  rw [show i.toNat=a0.length by omega] at hl
  rintro r1 rfl
  refine ⟨⟨⟨by decide,by decide⟩,hb.2.2.2.2.2,hl⟩, λ_=>⟨⟨hb,by decide,by decide,rfl,by omega,by omega,?_⟩,lxo_⟩⟩
  rw [hr,fitOut_step (by decide),hl];rfl
theorem r17_Fits_step1_6 (t p h:Int) (xs a0 a1 a2 a3 a4 a5 a6 a7 a8:LI) (hp0:bdAll xs) (hp1:a0.length≤1000) (hl0:xs.length≤9223372036854775807) (hl1:a0.length≤9223372036854775807) (n1:Nat) (ks zs ss:LI) (n i:Int) {r_:Bool} (hI:r17_Fits_I1 t p h xs a0 a1 a2 a3 a4 a5 a6 a7 a8 n1 ks zs ss n (6:Int) i r_):r17_Fits_w1_6 t p h xs a0 a1 a2 a3 a4 a5 a6 a7 a8 n1 ks zs ss n i (λn1' ks' zs' ss' n' k'=>r17_Fits_I0 t p h xs a0 a1 a2 a3 a4 a5 a6 a7 a8 n1' ks' zs' ss' n' k' r_∧lx ((9-k').toNat,3,0) ((9-(6:Int)).toNat,2,(a0.length-i).toNat)) (λn1' ks' zs' ss' n' k' i'=>r17_Fits_I1 t p h xs a0 a1 a2 a3 a4 a5 a6 a7 a8 n1' ks' zs' ss' n' k' i' r_∧lx ((9-k').toNat,2,(a0.length-i').toNat) ((9-(6:Int)).toNat,2,(a0.length-i).toNat)) (λn1' ks' zs' ss' n' k' n2' ys' i'=>r17_Fits_I2 t p h xs a0 a1 a2 a3 a4 a5 a6 a7 a8 n1' ks' zs' ss' n' k' n2' ys' i' r_∧lx ((9-k').toNat,1,(n1'-i').toNat) ((9-(6:Int)).toNat,2,(a0.length-i).toNat)) (λr__=>r__=r_):=by
 unfold r17_Fits_I1 at hI
 unfold r17_Fits_w1_6
 try unfold r17_Fits_I0
 try unfold r17_Fits_I1
 try unfold r17_Fits_I2
 obtain ⟨hb,_,_,h0,h1,hl,hr⟩:=hI
 refine ⟨λhc=>?_, λhc=>?_⟩
 ·have hc:i<(a0.length:Int):=of_decide_eq_true hc
  have hlt:i.toNat<a0.length:=by omega
  have hb6:=hb.2.2.2.2.2
  rw [w64 (n:=i+1) (by omega)]
  refine ⟨⟨h0,hc⟩, λ_=>⟨by decide, λ_=>⟨λhg=>?_, λhg=>?_⟩⟩⟩
  ·have hg:((slR (a6.getD i.toNat 0)).length:Int)>4:=of_decide_eq_true hg
   show false=r_
   rw [hr,fitOut_step (by decide)]
   cases hq:lenB ((λk=>pkGet k a0 a1 a2 a3 a4 a5 a6 a7 a8) 6) a0.length with
   |false=>rfl
   |true=>
    have:(slR (a6.getD i.toNat 0)).length≤4:=lenB_all hq _ hlt
    omega
  ·have hg:¬((slR (a6.getD i.toNat 0)).length:Int)>4:=of_decide_eq_false hg
   refine ⟨⟨hb,by decide,by decide,by omega,by omega,?_,hr⟩,lxo_⟩
   rw [show (i+1).toNat=i.toNat+1 by omega]
   show (lenB ((λk=>pkGet k a0 a1 a2 a3 a4 a5 a6 a7 a8) 6) i.toNat&&decide ((slR (a6.getD i.toNat 0)).length≤4))=true
   rw [hl,jV,decide_eq_true_eq];omega
 ·have hc:¬i<(a0.length:Int):=of_decide_eq_false hc
  rw [show i.toNat=a0.length by omega] at hl
  rintro r1 rfl
  refine ⟨⟨⟨by decide,by decide⟩,hb.2.2.2.2.2,hl⟩, λ_=>⟨⟨hb,by decide,by decide,rfl,by omega,by omega,?_⟩,lxo_⟩⟩
  rw [hr,fitOut_step (by decide),hl];rfl
theorem r17_Fits_step1_7 (t p h:Int) (xs a0 a1 a2 a3 a4 a5 a6 a7 a8:LI) (hp0:bdAll xs) (hp1:a0.length≤1000) (hl0:xs.length≤9223372036854775807) (hl1:a0.length≤9223372036854775807) (n1:Nat) (ks zs ss:LI) (n i:Int) {r_:Bool} (hI:r17_Fits_I1 t p h xs a0 a1 a2 a3 a4 a5 a6 a7 a8 n1 ks zs ss n (7:Int) i r_):r17_Fits_w1_7 t p h xs a0 a1 a2 a3 a4 a5 a6 a7 a8 n1 ks zs ss n i (λn1' ks' zs' ss' n' k'=>r17_Fits_I0 t p h xs a0 a1 a2 a3 a4 a5 a6 a7 a8 n1' ks' zs' ss' n' k' r_∧lx ((9-k').toNat,3,0) ((9-(7:Int)).toNat,2,(a0.length-i).toNat)) (λn1' ks' zs' ss' n' k' i'=>r17_Fits_I1 t p h xs a0 a1 a2 a3 a4 a5 a6 a7 a8 n1' ks' zs' ss' n' k' i' r_∧lx ((9-k').toNat,2,(a0.length-i').toNat) ((9-(7:Int)).toNat,2,(a0.length-i).toNat)) (λn1' ks' zs' ss' n' k' n2' ys' i'=>r17_Fits_I2 t p h xs a0 a1 a2 a3 a4 a5 a6 a7 a8 n1' ks' zs' ss' n' k' n2' ys' i' r_∧lx ((9-k').toNat,1,(n1'-i').toNat) ((9-(7:Int)).toNat,2,(a0.length-i).toNat)) (λr__=>r__=r_):=by
 unfold r17_Fits_I1 at hI
 unfold r17_Fits_w1_7
 try unfold r17_Fits_I0
 try unfold r17_Fits_I1
 try unfold r17_Fits_I2
 obtain ⟨hb,_,_,h0,h1,hl,hr⟩:=hI
 refine ⟨λhc=>?_, λhc=>?_⟩
 ·have hc:i<(a0.length:Int):=of_decide_eq_true hc
  have hlt:i.toNat<a0.length:=by omega
  have hb6:=hb.2.2.2.2.2
  rw [w64 (n:=i+1) (by omega)]
  refine ⟨⟨h0,hc⟩, λ_=>⟨by decide, λ_=>⟨λhg=>?_, λhg=>?_⟩⟩⟩
  ·have hg:((slR (a7.getD i.toNat 0)).length:Int)>4:=of_decide_eq_true hg
   show false=r_
   rw [hr,fitOut_step (by decide)]
   cases hq:lenB ((λk=>pkGet k a0 a1 a2 a3 a4 a5 a6 a7 a8) 7) a0.length with
   |false=>rfl
   |true=>
    have:(slR (a7.getD i.toNat 0)).length≤4:=lenB_all hq _ hlt
    omega
  ·have hg:¬((slR (a7.getD i.toNat 0)).length:Int)>4:=of_decide_eq_false hg
   refine ⟨⟨hb,by decide,by decide,by omega,by omega,?_,hr⟩,lxo_⟩
   rw [show (i+1).toNat=i.toNat+1 by omega]
   show (lenB ((λk=>pkGet k a0 a1 a2 a3 a4 a5 a6 a7 a8) 7) i.toNat&&decide ((slR (a7.getD i.toNat 0)).length≤4))=true
   rw [hl,jV,decide_eq_true_eq];omega
 ·have hc:¬i<(a0.length:Int):=of_decide_eq_false hc
  rw [show i.toNat=a0.length by omega] at hl
  rintro r1 rfl
  refine ⟨⟨⟨by decide,by decide⟩,hb.2.2.2.2.2,hl⟩, λ_=>⟨⟨hb,by decide,by decide,rfl,by omega,by omega,?_⟩,lxo_⟩⟩
  rw [hr,fitOut_step (by decide),hl];rfl
theorem r17_Fits_step1_8 (t p h:Int) (xs a0 a1 a2 a3 a4 a5 a6 a7 a8:LI) (hp0:bdAll xs) (hp1:a0.length≤1000) (hl0:xs.length≤9223372036854775807) (hl1:a0.length≤9223372036854775807) (n1:Nat) (ks zs ss:LI) (n i:Int) {r_:Bool} (hI:r17_Fits_I1 t p h xs a0 a1 a2 a3 a4 a5 a6 a7 a8 n1 ks zs ss n (8:Int) i r_):r17_Fits_w1_8 t p h xs a0 a1 a2 a3 a4 a5 a6 a7 a8 n1 ks zs ss n i (λn1' ks' zs' ss' n' k'=>r17_Fits_I0 t p h xs a0 a1 a2 a3 a4 a5 a6 a7 a8 n1' ks' zs' ss' n' k' r_∧lx ((9-k').toNat,3,0) ((9-(8:Int)).toNat,2,(a0.length-i).toNat)) (λn1' ks' zs' ss' n' k' i'=>r17_Fits_I1 t p h xs a0 a1 a2 a3 a4 a5 a6 a7 a8 n1' ks' zs' ss' n' k' i' r_∧lx ((9-k').toNat,2,(a0.length-i').toNat) ((9-(8:Int)).toNat,2,(a0.length-i).toNat)) (λn1' ks' zs' ss' n' k' n2' ys' i'=>r17_Fits_I2 t p h xs a0 a1 a2 a3 a4 a5 a6 a7 a8 n1' ks' zs' ss' n' k' n2' ys' i' r_∧lx ((9-k').toNat,1,(n1'-i').toNat) ((9-(8:Int)).toNat,2,(a0.length-i).toNat)) (λr__=>r__=r_):=by
 unfold r17_Fits_I1 at hI
 unfold r17_Fits_w1_8
 try unfold r17_Fits_I0
 try unfold r17_Fits_I1
 try unfold r17_Fits_I2
 obtain ⟨hb,_,_,h0,h1,hl,hr⟩:=hI
 refine ⟨λhc=>?_, λhc=>?_⟩
 ·have hc:i<(a0.length:Int):=of_decide_eq_true hc
  have hlt:i.toNat<a0.length:=by omega
  have hb6:=hb.2.2.2.2.2
  rw [w64 (n:=i+1) (by omega)]
  refine ⟨⟨h0,hc⟩, λ_=>⟨by decide, λ_=>⟨λhg=>?_, λhg=>?_⟩⟩⟩
  ·have hg:((slR (a8.getD i.toNat 0)).length:Int)>4:=of_decide_eq_true hg
   show false=r_
   rw [hr,fitOut_step (by decide)]
   cases hq:lenB ((λk=>pkGet k a0 a1 a2 a3 a4 a5 a6 a7 a8) 8) a0.length with
   |false=>rfl
   |true=>
    have:(slR (a8.getD i.toNat 0)).length≤4:=lenB_all hq _ hlt
    omega
  ·have hg:¬((slR (a8.getD i.toNat 0)).length:Int)>4:=of_decide_eq_false hg
   refine ⟨⟨hb,by decide,by decide,by omega,by omega,?_,hr⟩,lxo_⟩
   rw [show (i+1).toNat=i.toNat+1 by omega]
   show (lenB ((λk=>pkGet k a0 a1 a2 a3 a4 a5 a6 a7 a8) 8) i.toNat&&decide ((slR (a8.getD i.toNat 0)).length≤4))=true
   rw [hl,jV,decide_eq_true_eq];omega
 ·have hc:¬i<(a0.length:Int):=of_decide_eq_false hc
  rw [show i.toNat=a0.length by omega] at hl
  rintro r1 rfl
  refine ⟨⟨⟨by decide,by decide⟩,hb.2.2.2.2.2,hl⟩, λ_=>⟨⟨hb,by decide,by decide,rfl,by omega,by omega,?_⟩,lxo_⟩⟩
  rw [hr,fitOut_step (by decide),hl];rfl
theorem r17_Fits_step2 (t p h:Int) (xs a0 a1 a2 a3 a4 a5 a6 a7 a8:LI) (hp0:bdAll xs) (hp1:a0.length≤1000) (hl0:xs.length≤9223372036854775807) (hl1:a0.length≤9223372036854775807) (n1:Nat) (ks zs ss:LI) (n k:Int) (n2:Nat) (ys:LI) (i:Int) {r_:Bool} (hI:r17_Fits_I2 t p h xs a0 a1 a2 a3 a4 a5 a6 a7 a8 n1 ks zs ss n k n2 ys i r_):r17_Fits_w2 t p h xs a0 a1 a2 a3 a4 a5 a6 a7 a8 n1 ks zs ss n k n2 ys i (λn1' ks' zs' ss' n' k'=>r17_Fits_I0 t p h xs a0 a1 a2 a3 a4 a5 a6 a7 a8 n1' ks' zs' ss' n' k' r_∧lx ((9-k').toNat,3,0) ((9-k).toNat,1,(n1-i).toNat)) (λn1' ks' zs' ss' n' k' i'=>r17_Fits_I1 t p h xs a0 a1 a2 a3 a4 a5 a6 a7 a8 n1' ks' zs' ss' n' k' i' r_∧lx ((9-k').toNat,2,(a0.length-i').toNat) ((9-k).toNat,1,(n1-i).toNat)) (λn1' ks' zs' ss' n' k' n2' ys' i'=>r17_Fits_I2 t p h xs a0 a1 a2 a3 a4 a5 a6 a7 a8 n1' ks' zs' ss' n' k' n2' ys' i' r_∧lx ((9-k').toNat,1,(n1'-i').toNat) ((9-k).toNat,1,(n1-i).toNat)) (λr__=>r__=r_):=by
 unfold r17_Fits_I2 at hI
 unfold r17_Fits_w2
 try unfold r17_Fits_I0
 try unfold r17_Fits_I1
 try unfold r17_Fits_I2
 obtain ⟨hb,hk0,hk1,hn2,h0,h1,hr⟩:=hI
 obtain ⟨b1,b2,b3,b4,b5,b6⟩:=hb
 have bl:n1=(partsL ⟨t,p,h⟩ xs).length:=by rw [b1,b2,jR]
 refine ⟨λhc=>?_, λhc=>?_⟩
 ·have hc:=of_decide_eq_true hc
  have hi:0≤i∧i<(n1:Int):=⟨h0,hc⟩
  obtain ⟨x,e1,e2,e3,e4⟩:=pt_drop (L:=(partsL ⟨t,p,h⟩ xs)) (i:=i.toNat) (by omega)
  rw [e1,fitTl_cons] at hr
  have es:(i+1).toNat=i.toNat+1:=by omega
  rw [w64 (n:=i+1) (by omega)]
  rw [b2,b3,b4,e2,e3,e4]
  refine ⟨hi, λ_=>⟨λ_=>hi, λ_=>⟨λhg=>?_, λhg=>?_⟩⟩⟩
  ·rw [show idP (r05_Size h k) x=true from hg,cond_true] at hr
   refine ⟨hi, λ_=>?_⟩
   rintro r5 rfl
   refine ⟨λhq=>?_, λhq=>?_⟩
   ·have hq:(oft ys x.a==1)=false:=by
     have hq:(oft ys x.a !=1)=true:=hq
     simpa [bne] using hq
    rw [hq] at hr
    exact hr.symm
   ·have hq:(oft ys x.a==1)=true:=by
     have hq:(oft ys x.a !=1)=false:=hq
     simpa [bne] using hq
    rw [hq,cond_true] at hr
    exact ⟨⟨⟨by rw [bl,jR],rfl,rfl,rfl,b5,b6⟩,hk0,hk1,hn2,by omega,by omega,by rw [es];exact hr⟩,lxo_⟩
  ·rw [show idP (r05_Size h k) x=false from hg,cond_false] at hr
   exact ⟨⟨⟨by rw [bl,jR],rfl,rfl,rfl,b5,b6⟩,hk0,hk1,hn2,by omega,by omega,by rw [es];exact hr⟩,lxo_⟩
 ·have hc:=of_decide_eq_false hc
  rw [w64 (n:=k+1) (by omega)]
  rw [List.drop_eq_nil_of_le (by omega)] at hr
  refine ⟨⟨⟨b1,b2,b3,b4,b5,b6⟩,by omega,by omega,?_⟩,lxo_⟩
  rw [hr,show (9-(k+1)).toNat=(8-k).toNat by omega];rfl
theorem r17_Fits_ok:EOk 22 e_r17_Fits:=
 ent_wp Dg T_r17_often_ok (I:=[2999998,6571000000002,6571000000003,6571000000007,6571000000008,6571000000009,194000000002,194000000003,194000000007,194000000008,194000000009,194000000010,9540000000002,9540000000003,9540000000007,9540000000008,9540000000009,9540000000011,9540000000012]) Tryz.func22 mix (B:=bodyOf Tryz.f22) (by kernel_rfl) rfl (by kernel_rfl) 400
  λp0 t p h xs a0 a1 a2 a3 a4 a5 a6 a7 a8 hb hp=>have hl0:xs.length≤9223372036854775807:=hb.2.1;have hl1:a0.length≤9223372036854775807:=hb.2.2.1;have hp0:bdAll xs:=hp _ (.head _);have hp1:a0.length≤1000:=hp _ (.tail _ (.head _));⟨[r17_Fits_h0 p0 t p h xs a0 a1 a2 a3 a4 a5 a6 a7 a8,r17_Fits_h1 p0 t p h xs a0 a1 a2 a3 a4 a5 a6 a7 a8,r17_Fits_h2 p0 t p h xs a0 a1 a2 a3 a4 a5 a6 a7 a8], λj=>iE [appC (Hd.kd (r17_Fits_h0 p0 t p h xs a0 a1 a2 a3 a4 a5 a6 a7 a8)) (λn1' ks' zs' ss' n' k'=>r17_Fits_I0 t p h xs a0 a1 a2 a3 a4 a5 a6 a7 a8 n1' ks' zs' ss' n' k' (r17_Fits t p h xs a0 a1 a2 a3 a4 a5 a6 a7 a8)),appC (Hd.kd (r17_Fits_h1 p0 t p h xs a0 a1 a2 a3 a4 a5 a6 a7 a8)) (λn1' ks' zs' ss' n' k' i'=>r17_Fits_I1 t p h xs a0 a1 a2 a3 a4 a5 a6 a7 a8 n1' ks' zs' ss' n' k' i' (r17_Fits t p h xs a0 a1 a2 a3 a4 a5 a6 a7 a8)),appC (Hd.kd (r17_Fits_h2 p0 t p h xs a0 a1 a2 a3 a4 a5 a6 a7 a8)) (λn1' ks' zs' ss' n' k' n2' ys' i'=>r17_Fits_I2 t p h xs a0 a1 a2 a3 a4 a5 a6 a7 a8 n1' ks' zs' ss' n' k' n2' ys' i' (r17_Fits t p h xs a0 a1 a2 a3 a4 a5 a6 a7 a8))] j (λ_=>False), λj=>iE [appC (Hd.kd (r17_Fits_h0 p0 t p h xs a0 a1 a2 a3 a4 a5 a6 a7 a8)) (λn1' ks' zs' ss' n' k'=>((9-k').toNat,3,0)),appC (Hd.kd (r17_Fits_h1 p0 t p h xs a0 a1 a2 a3 a4 a5 a6 a7 a8)) (λn1' ks' zs' ss' n' k' i'=>((9-k').toNat,2,(a0.length-i').toNat)),appC (Hd.kd (r17_Fits_h2 p0 t p h xs a0 a1 a2 a3 a4 a5 a6 a7 a8)) (λn1' ks' zs' ss' n' k' n2' ys' i'=>((9-k').toNat,1,(n1'-i').toNat))] j (λ_=>(0,0,0)),by kernel_rfl,⟨_, λ_ _ _=>by kernel_rfl,r17_Fits_begin t p h xs a0 a1 a2 a3 a4 a5 a6 a7 a8 hp0 hp1 hl0 hl1⟩,⟨λn1 ks zs ss n k hI=>⟨_, λ_ _ _=>by kernel_rfl,r17_Fits_step0 t p h xs a0 a1 a2 a3 a4 a5 a6 a7 a8 hp0 hp1 hl0 hl1 n1 ks zs ss n k hI⟩,⟨λn1 ks zs ss n k i hI=>(by
   rcases r17_Fits_cs1 t p h xs a0 a1 a2 a3 a4 a5 a6 a7 a8 hp0 hp1 hl0 hl1 n1 ks zs ss n k i hI with rfl|rfl|rfl|rfl|rfl|rfl|rfl|rfl|rfl
   ·exact ⟨_, λ_ _ _=>by kernel_rfl,r17_Fits_step1_0 t p h xs a0 a1 a2 a3 a4 a5 a6 a7 a8 hp0 hp1 hl0 hl1 n1 ks zs ss n i hI⟩
   ·exact ⟨_, λ_ _ _=>by kernel_rfl,r17_Fits_step1_1 t p h xs a0 a1 a2 a3 a4 a5 a6 a7 a8 hp0 hp1 hl0 hl1 n1 ks zs ss n i hI⟩
   ·exact ⟨_, λ_ _ _=>by kernel_rfl,r17_Fits_step1_2 t p h xs a0 a1 a2 a3 a4 a5 a6 a7 a8 hp0 hp1 hl0 hl1 n1 ks zs ss n i hI⟩
   ·exact ⟨_, λ_ _ _=>by kernel_rfl,r17_Fits_step1_3 t p h xs a0 a1 a2 a3 a4 a5 a6 a7 a8 hp0 hp1 hl0 hl1 n1 ks zs ss n i hI⟩
   ·exact ⟨_, λ_ _ _=>by kernel_rfl,r17_Fits_step1_4 t p h xs a0 a1 a2 a3 a4 a5 a6 a7 a8 hp0 hp1 hl0 hl1 n1 ks zs ss n i hI⟩
   ·exact ⟨_, λ_ _ _=>by kernel_rfl,r17_Fits_step1_5 t p h xs a0 a1 a2 a3 a4 a5 a6 a7 a8 hp0 hp1 hl0 hl1 n1 ks zs ss n i hI⟩
   ·exact ⟨_, λ_ _ _=>by kernel_rfl,r17_Fits_step1_6 t p h xs a0 a1 a2 a3 a4 a5 a6 a7 a8 hp0 hp1 hl0 hl1 n1 ks zs ss n i hI⟩
   ·exact ⟨_, λ_ _ _=>by kernel_rfl,r17_Fits_step1_7 t p h xs a0 a1 a2 a3 a4 a5 a6 a7 a8 hp0 hp1 hl0 hl1 n1 ks zs ss n i hI⟩
   ·exact ⟨_, λ_ _ _=>by kernel_rfl,r17_Fits_step1_8 t p h xs a0 a1 a2 a3 a4 a5 a6 a7 a8 hp0 hp1 hl0 hl1 n1 ks zs ss n i hI⟩),⟨λn1 ks zs ss n k n2 ys i hI=>⟨_, λ_ _ _=>by kernel_rfl,r17_Fits_step2 t p h xs a0 a1 a2 a3 a4 a5 a6 a7 a8 hp0 hp1 hl0 hl1 n1 ks zs ss n k n2 ys i hI⟩,trivial⟩⟩⟩⟩
def T_r17_Fits:Tb:=(22,e_r17_Fits)::T_r17_often
theorem T_r17_Fits_ok:TOk T_r17_Fits:=tc_ r17_Fits_ok T_r17_often_ok
def r17_Same (x0 x1 x2 x3 x4 x5 x6 x7 x8 y0 y1 y2 y3 y4 y5 y6 y7 y8:LI):Bool:=(x0==y0)&&(x1==y1)&&(x2==y2)&&(x3==y3)&&(x4==y4)&&(x5==y5)&&(x6==y6)&&(x7==y7)&&(x8==y8)
abbrev c_r17_Same:Ct Sg:=⟨none,false,[.agg [.ro [some .i8], .ro [some .i8], .ro [some .i8], .ro [some .i8], .ro [some .i8], .ro [some .i8], .ro [some .i8], .ro [some .i8], .ro [some .i8]], .agg [.ro [some .i8], .ro [some .i8], .ro [some .i8], .ro [some .i8], .ro [some .i8], .ro [some .i8], .ro [some .i8], .ro [some .i8], .ro [some .i8]]], .b⟩
def e_r17_Same:Entry Sg:=entC c_r17_Same r17_Same (λ_ _ _ _ _ _ _ _ _ _ _ _ _ _ _ _ _ _=>[])
def r17_Same_w (x0 x1 x2 x3 x4 x5 x6 x7 x8 y0 y1 y2 y3 y4 y5 y6 y7 y8:LI) (R_:Bool→Prop):Prop:=(aw_ ((0:Int)≤0∧(0:Int)<9) (aw_ ((0:Int)≤0∧(0:Int)<9) (bw_ (!r01_Longs x0 y0) (R_ (false)) (aw_ ((0:Int)≤1∧(1:Int)<9) (aw_ ((0:Int)≤1∧(1:Int)<9) (bw_ (!r01_Longs x1 y1) (R_ (false)) (aw_ ((0:Int)≤2∧(2:Int)<9) (aw_ ((0:Int)≤2∧(2:Int)<9) (bw_ (!r01_Longs x2 y2) (R_ (false)) (aw_ ((0:Int)≤3∧(3:Int)<9) (aw_ ((0:Int)≤3∧(3:Int)<9) (bw_ (!r01_Longs x3 y3) (R_ (false)) (aw_ ((0:Int)≤4∧(4:Int)<9) (aw_ ((0:Int)≤4∧(4:Int)<9) (bw_ (!r01_Longs x4 y4) (R_ (false)) (aw_ ((0:Int)≤5∧(5:Int)<9) (aw_ ((0:Int)≤5∧(5:Int)<9) (bw_ (!r01_Longs x5 y5) (R_ (false)) (aw_ ((0:Int)≤6∧(6:Int)<9) (aw_ ((0:Int)≤6∧(6:Int)<9) (bw_ (!r01_Longs x6 y6) (R_ (false)) (aw_ ((0:Int)≤7∧(7:Int)<9) (aw_ ((0:Int)≤7∧(7:Int)<9) (bw_ (!r01_Longs x7 y7) (R_ (false)) (aw_ ((0:Int)≤8∧(8:Int)<9) (aw_ ((0:Int)≤8∧(8:Int)<9) (bw_ (!r01_Longs x8 y8) (R_ (false)) (R_ (true)))))))))))))))))))))))))))))
theorem r17_Same_begin (x0 x1 x2 x3 x4 x5 x6 x7 x8 y0 y1 y2 y3 y4 y5 y6 y7 y8:LI) (hl0:x0.length≤9223372036854775807) (hl1:x1.length≤9223372036854775807) (hl2:x2.length≤9223372036854775807) (hl3:x3.length≤9223372036854775807) (hl4:x4.length≤9223372036854775807) (hl5:x5.length≤9223372036854775807) (hl6:x6.length≤9223372036854775807) (hl7:x7.length≤9223372036854775807) (hl8:x8.length≤9223372036854775807) (hl9:y0.length≤9223372036854775807) (hl10:y1.length≤9223372036854775807) (hl11:y2.length≤9223372036854775807) (hl12:y3.length≤9223372036854775807) (hl13:y4.length≤9223372036854775807) (hl14:y5.length≤9223372036854775807) (hl15:y6.length≤9223372036854775807) (hl16:y7.length≤9223372036854775807) (hl17:y8.length≤9223372036854775807):r17_Same_w x0 x1 x2 x3 x4 x5 x6 x7 x8 y0 y1 y2 y3 y4 y5 y6 y7 y8 (λr__=>r__=(r17_Same x0 x1 x2 x3 x4 x5 x6 x7 x8 y0 y1 y2 y3 y4 y5 y6 y7 y8)):=by
 unfold r17_Same_w
 have L:∀x y:LI,r01_Longs x y=(x==y):= λ_ _=>rfl
 simp only [L]
 repeat' first
  |refine ⟨by decide, λ_=>?_⟩
  |refine ⟨λhc=>?_, λhc=>?_⟩
  |fail
 all_goals
  first
  |show false=r17_Same x0 x1 x2 x3 x4 x5 x6 x7 x8 y0 y1 y2 y3 y4 y5 y6 y7 y8
  |show true=r17_Same x0 x1 x2 x3 x4 x5 x6 x7 x8 y0 y1 y2 y3 y4 y5 y6 y7 y8
 all_goals
  unfold r17_Same
  simp only [jB,jF] at*
  simp [*]
theorem r17_Same_ok:EOk 11 e_r17_Same:=
 ent_w0 Dg T_r17_Fits_ok (I:=[2999999]) Tryz.func11 mix (B:=bodyOf Tryz.f11) (by kernel_rfl) rfl (by kernel_rfl) 400
  λ_ x0 x1 x2 x3 x4 x5 x6 x7 x8 y0 y1 y2 y3 y4 y5 y6 y7 y8 hb hp=>⟨_, λ_ _ _=>by kernel_rfl,r17_Same_begin x0 x1 x2 x3 x4 x5 x6 x7 x8 y0 y1 y2 y3 y4 y5 y6 y7 y8 (hb.1.1) (hb.1.2.1) (hb.1.2.2.1) (hb.1.2.2.2.1) (hb.1.2.2.2.2.1) (hb.1.2.2.2.2.2.1) (hb.1.2.2.2.2.2.2.1) (hb.1.2.2.2.2.2.2.2.1) (hb.1.2.2.2.2.2.2.2.2.1) (hb.2.1.1) (hb.2.1.2.1) (hb.2.1.2.2.1) (hb.2.1.2.2.2.1) (hb.2.1.2.2.2.2.1) (hb.2.1.2.2.2.2.2.1) (hb.2.1.2.2.2.2.2.2.1) (hb.2.1.2.2.2.2.2.2.2.1) (hb.2.1.2.2.2.2.2.2.2.2.1)⟩
def T_r17_Same:Tb:=(11,e_r17_Same)::T_r17_Fits
theorem T_r17_Same_ok:TOk T_r17_Same:=tc_ r17_Same_ok T_r17_Fits_ok
def r01_LongsI (l m:LI):Bool:=l==m
abbrev c_r01_LongsI:Ct Sg:=⟨none,false,[.ro [some .i8], .ro [some .i64]], .b⟩
def e_r01_LongsI:Entry Sg:=entC c_r01_LongsI r01_LongsI (λ_ _=>[])
def r01_LongsI_w (l m:LI) (Q0:Int→Prop) (R_:Bool→Prop):Prop:=(bw_ ((↑(lenC [Col.fz l]):Int) !=(↑(iC m):Int)) (R_ (false)) (Q0 (0)))
def r01_LongsI_w0 (l m:LI) (i:Int) (Q0:Int→Prop) (R_:Bool→Prop):Prop:=(bw_ (decide (i<(↑(lenC [Col.fz l]):Int))) (aw_ (0≤i∧i<(↑(lenC [Col.fz l]):Int)) (aw_ (0≤i∧i<(↑(iC m):Int)) (bw_ (iE l (iJ i) 0 !=iE m (iJ i) 0) (R_ (false)) (Q0 (iA iB (i+1)))))) (R_ (true)))
def r01_LongsI_I0 (l m:LI) (i:Int) (r_:Bool):Prop:=0≤i∧i≤l.length∧l.length=m.length∧l.take i.toNat=m.take i.toNat∧r_=r01_LongsI l m
abbrev r01_LongsI_h0 (p0:Addr) (l m:LI):Hd Sg:=⟨none,[0,1,0,1,1],[.blk 0, .code [1,1,1]],[5,0,1],[.i .i64, .roc [.fz (l)], .roc [.ints .i64 (m)]]⟩
theorem r01_LongsI_begin (l m:LI) (hl0:l.length≤9223372036854775807) (hl1:m.length≤9223372036854775807):r01_LongsI_w l m (λi'=>r01_LongsI_I0 l m i' (r01_LongsI l m)) (λr__=>r__=(r01_LongsI l m)):=by
 unfold r01_LongsI_w
 try unfold r01_LongsI_I0
 refine ⟨λhc=>?_, λhc=>?_⟩
 ·show false=r01_LongsI l m
  unfold r01_LongsI
  symm
  rw [beq_eq_false_iff_ne]
  rintro rfl
  simp at hc
  exact hc rfl
 ·have hc:((l.length:Nat):Int)=((m.length:Nat):Int):=bne_eq_false_iff_eq.1 hc
  exact ⟨by omega,by omega,by omega,rfl,rfl⟩
theorem r01_LongsI_step0 (l m:LI) (hl0:l.length≤9223372036854775807) (hl1:m.length≤9223372036854775807) (i:Int) {r_:Bool} (hI:r01_LongsI_I0 l m i r_):r01_LongsI_w0 l m i (λi'=>r01_LongsI_I0 l m i' r_∧lx ((l.length-i').toNat,0,0) ((l.length-i).toNat,0,0)) (λr__=>r__=r_):=by
 unfold r01_LongsI_I0 at hI
 unfold r01_LongsI_w0
 try unfold r01_LongsI_I0
 obtain ⟨h0,h1,h2,h3,hr⟩:=hI
 refine ⟨λhc=>?_, λhc=>?_⟩
 ·simp only [decide_eq_true_eq] at hc
  have hc:i<l.length:=hc
  have hm:i<m.length:=by omega
  rw [w64 (n:=i+1) (by omega)]
  refine ⟨⟨h0,hc⟩, λ_=>⟨⟨h0,hm⟩, λ_=>⟨λhq=>?_, λhq=>?_⟩⟩⟩
  ·show false=r_
   rw [hr]
   unfold r01_LongsI
   symm
   rw [beq_eq_false_iff_ne]
   rintro rfl
   simp at hq
  ·have hq:l.getD i.toNat 0=m.getD i.toNat 0:=by simpa using hq
   refine ⟨⟨by omega,by omega,h2,?_,hr⟩,lxo_⟩
   rw [toNat_succ h0,take_snocB (by omega),take_snocB (by omega),h3,hq]
 ·simp only [decide_eq_false_iff_not] at hc
  have hc:¬i<l.length:=hc
  show true=r_
  have e:i.toNat=l.length:=by omega
  rw [e] at h3
  have:=take_eq_all h2 h3
  subst this
  rw [hr];unfold r01_LongsI;simp
theorem r01_LongsI_ok:EOk 24 e_r01_LongsI:=
 ent_wp Dg T_r17_Same_ok (I:=[411000000005,411000000000,411000000001]) Tryz.func24 mix (B:=bodyOf Tryz.f24) (by kernel_rfl) rfl (by kernel_rfl) 400
  λp0 l m hb hp=>have hl0:l.length≤9223372036854775807:=hb.1;have hl1:m.length≤9223372036854775807:=hb.2.1;⟨[r01_LongsI_h0 p0 l m], λj=>iE [appC (Hd.kd (r01_LongsI_h0 p0 l m)) (λi'=>r01_LongsI_I0 l m i' (r01_LongsI l m))] j (λ_=>False), λj=>iE [appC (Hd.kd (r01_LongsI_h0 p0 l m)) (λi'=>((l.length-i').toNat,0,0))] j (λ_=>(0,0,0)),by kernel_rfl,⟨_, λ_ _ _=>by kernel_rfl,r01_LongsI_begin l m hl0 hl1⟩,⟨λi hI=>⟨_, λ_ _ _=>by kernel_rfl,r01_LongsI_step0 l m hl0 hl1 i hI⟩,trivial⟩⟩
def T_r01_LongsI:Tb:=(24,e_r01_LongsI)::T_r17_Same
theorem T_r01_LongsI_ok:TOk T_r01_LongsI:=tc_ r01_LongsI_ok T_r17_Same_ok
def e_lg:Entry Sg:= λargs=>match e_r01_LongsI args with
 |some d=>some d
 |none=>e_r01_Longs args
theorem e_lg_ok:EOk 24 e_lg:=by
 intro args c r h hr
 unfold e_lg at h
 split at h
 ·rename_i d hd
  exact r01_LongsI_ok args c r (by rw [hd];exact h) hr
 ·exact r01_Longs_ok args c r h hr
def e_al:Entry Sg:= λargs=>match args with
 |[v,c,(x,i),k]=>match i with
  | .none=>(match x with
    | .agg ⟨[.slice none 0 0, .slice none 0 0, .slice none 0 0, .slice none 0 0, .slice none 0 0, .slice none 0 0, .slice none 0 0, .slice none 0 0, .slice none 0 0]⟩=>e_small_Alloc [v,c,(.agg ⟨[.slice none 0 0, .slice none 0 0, .slice none 0 0, .slice none 0 0, .slice none 0 0, .slice none 0 0, .slice none 0 0, .slice none 0 0, .slice none 0 0]⟩, .many [.row 0 [.fz []], .row 0 [.fz []], .row 0 [.fz []], .row 0 [.fz []], .row 0 [.fz []], .row 0 [.fz []], .row 0 [.fz []], .row 0 [.fz []], .row 0 [.fz []]]),k]
    |_=>e_small_Alloc args)
  | .many is=>(match is with
    |[.none, .none, .none, .none, .none, .none, .none, .none, .none]=>(match x with
     | .agg ⟨[.slice none 0 0, .slice none 0 0, .slice none 0 0, .slice none 0 0, .slice none 0 0, .slice none 0 0, .slice none 0 0, .slice none 0 0, .slice none 0 0]⟩=>e_small_Alloc [v,c,(.agg ⟨[.slice none 0 0, .slice none 0 0, .slice none 0 0, .slice none 0 0, .slice none 0 0, .slice none 0 0, .slice none 0 0, .slice none 0 0, .slice none 0 0]⟩, .many [.row 0 [.fz []], .row 0 [.fz []], .row 0 [.fz []], .row 0 [.fz []], .row 0 [.fz []], .row 0 [.fz []], .row 0 [.fz []], .row 0 [.fz []], .row 0 [.fz []]]),k]
     |_=>e_small_Alloc args)
    |_=>e_small_Alloc args)
  |_=>e_small_Alloc args
 |_=>e_small_Alloc args
theorem nil_row (G Y:Hp):iOk G Y (.slice none 0 0) (.row 0 [.fz []]:Info Sg):=by
 have h:∀Z:Hp,RowAt Z none 0 [.fz []]:= λZ=>⟨λc hc=>by rw [jL] at hc;subst hc;rfl, λi hi=>by omega,Nat.zero_le _⟩
 exact ⟨none,0,rfl,h G,Nat.le_refl _, λ_=>⟨h Y, λc _ i hi=>by omega⟩⟩
theorem e_al_ok:EOk 9 e_al:=by
 intro args c r h hr
 unfold e_al at h
 repeat' split at h
 all_goals first
  |exact small_Alloc_ok _ c r h hr
  |(have h1:=small_Alloc_ok _ c r h hr
    refine ⟨h1.1, λhp E G w hi hS=>?_⟩
    have h2:=h1.2 hp E G w (λx hx=>?_) (by simpa [objAs,objOf,objsOf,objsV,objsV.go] using hS)
    ·simpa [newAs,objOf,objsOf,objsV,objsV.go] using h2
    ·simp only [iN,List.not_mem_nil,or_false] at hx
     rcases hx with rfl|rfl|rfl|rfl
     ·exact hi _ (by simp)
     ·exact hi _ (by simp)
     ·exact ⟨nil_row _ _,nil_row _ _,nil_row _ _,nil_row _ _,nil_row _ _,nil_row _ _,nil_row _ _,nil_row _ _,nil_row _ _,trivial⟩
     ·exact hi _ (by simp))
def T_ad:Tb:=(24,e_lg)::(9,e_al)::T_r01_LongsI
theorem T_ad_ok:TOk T_ad:=tc_ e_lg_ok (tc_ e_al_ok T_r01_LongsI_ok)
end
section
open Go.Sl
def slO (n:Nat) (a:LI):Prop:=∀i,i<n→∀y∈slR (a.getD i 0),i64R y
def A7 (t p h:Int) (xs:LI) (g b:Int):Bool:=(Cf.page ⟨t,p,h⟩ g&&(decide (0≤b)&&decide (b<32)))&&bitAt (cel xs (Cf.slots ⟨t,p,h⟩ g)) b
abbrev JG:Ct Sg:=⟨none,false,[.agg [.i .i64, .i .i64, .i .i64], .ro [some .u32], .i .i64, .i .i64], .b⟩
def F8:Entry Sg:=entC JG A7 (λt p h xs g b=>[AGood ⟨t,p,h⟩ xs])
def F9 (t p h:Int) (xs:LI) (g b:Int) (R_:Bool→Prop):Prop:=(bw_ (decide (g<0)||decide (g≥p)||decide (b<0)||decide (b>31)) (R_ (false)) (∀r3:Int,r3=(x_Slots t p h xs g)→(aw_ (AGood {t:=t,p:=p,s:=h} xs) (aw_ (0≤g∧g<p) (∀r6:Bool,r6=(r01_Bit r3 b)→(R_ (r6)))))))
theorem Hl (t p h:Int) (xs:LI) (g b:Int) (hp0:AGood ⟨t,p,h⟩ xs) (hl0:xs.length≤9223372036854775807):F9 t p h xs g b (λr__=>r__=(A7 t p h xs g b)):=by
 unfold F9
 refine ⟨λhc=>?_, λhc=>?_⟩
 ·show false=A7 t p h xs g b
  have e:(Cf.page ⟨t,p,h⟩ g&&(decide (0≤b)&&decide (b<32)))=false:=by
   unfold Cf.page
   simp only [Bool.or_eq_true,decide_eq_true_eq] at hc
   simp only [Bool.and_eq_false_iff,decide_eq_false_iff_not];omega
  rw [A7,e];rfl
 ·have hg:(0≤g∧g<p)∧0≤b∧b<32:=by
   simp only [jI,decide_eq_false_iff_not] at hc;omega
  have e:(Cf.page ⟨t,p,h⟩ g&&(decide (0≤b)&&decide (b<32)))=true:=by
   unfold Cf.page
   simp only [iK,decide_eq_true_eq];omega
  rintro r3 rfl
  refine ⟨hp0, λ_=>⟨hg.1, λ_=>?_⟩⟩
  rintro r6 rfl
  show _=A7 t p h xs g b
  rw [A7,e,jV]
  exact bit_eq (rootA_eq _ _ hp0.bd) b
theorem Jy:EOk 18 F8:=
 ent_w0 Dg T_ad_ok (I:=[2999998]) Tryz.func18 mix (B:=bodyOf Tryz.f18) (by kernel_rfl) rfl (by kernel_rfl) 400
  λ_ t p h xs g b hb hp=>⟨_, λ_ _ _=>by kernel_rfl,Hl t p h xs g b (hp _ (.head _)) (hb.2.1)⟩
def FB:Tb:=(18,F8)::T_ad
theorem D6:TOk FB:=tc_ Jy T_ad_ok
def l18_fit (t p h:Int) (xs a0 a1 a2 a3 a4 a5 a6 a7 a8:LI) (T k g b:Int):Bool:=(((r12_Few t p h&&decide ((a0.length:Int)≤16))&&decide (T≥0))&&decide (T<(a0.length:Int)))&&r17_Fits t p h xs a0 a1 a2 a3 a4 a5 a6 a7 a8
abbrev c_l18_fit:Ct Sg:=⟨none,false,[.agg [.i .i64, .i .i64, .i .i64], .ro [some .u32], .agg [.ro [some .i16,some .i16,some .i16,some .i16,some .i16,some .i16,some .i16,some .i16,some .i16], .i .i64, .i .i64, .i .i64, .i .i64]], .b⟩
def e_l18_fit:Entry Sg:=entC c_l18_fit l18_fit (λt p h xs a0 a1 a2 a3 a4 a5 a6 a7 a8 T k g b=>[bdAll xs])
abbrev BU (a0 a1 a2 a3 a4 a5 a6 a7 a8:LI):=(lenC [Col.sls a0,Col.sls a1,Col.sls a2,Col.sls a3,Col.sls a4,Col.sls a5,Col.sls a6,Col.sls a7,Col.sls a8])
def l18_fit_w (t p h:Int) (xs a0 a1 a2 a3 a4 a5 a6 a7 a8:LI) (T k g b:Int) (R_:Bool→Prop):Prop:=(∀r2:Bool,r2=(r12_Few t p h)→(aw_ ((r2&&decide ((↑(BU a0 a1 a2 a3 a4 a5 a6 a7 a8):Int)≤16)&&decide (T≥0)&&decide (T<(↑(BU a0 a1 a2 a3 a4 a5 a6 a7 a8):Int)))=true→bdAll xs) (aw_ ((r2&&decide ((↑(BU a0 a1 a2 a3 a4 a5 a6 a7 a8):Int)≤16)&&decide (T≥0)&&decide (T<(↑(BU a0 a1 a2 a3 a4 a5 a6 a7 a8):Int)))=true→iC a0≤1000) (R_ (r2&&decide ((↑(BU a0 a1 a2 a3 a4 a5 a6 a7 a8):Int)≤16)&&decide (T≥0)&&decide (T<(↑(BU a0 a1 a2 a3 a4 a5 a6 a7 a8):Int))&&r17_Fits t p h xs a0 a1 a2 a3 a4 a5 a6 a7 a8)))))
theorem l18_fit_begin (t p h:Int) (xs a0 a1 a2 a3 a4 a5 a6 a7 a8:LI) (T k g b:Int) (hp0:bdAll xs) (hl0:xs.length≤9223372036854775807) (hl1:a0.length≤9223372036854775807):l18_fit_w t p h xs a0 a1 a2 a3 a4 a5 a6 a7 a8 T k g b (λr__=>r__=(l18_fit t p h xs a0 a1 a2 a3 a4 a5 a6 a7 a8 T k g b)):=by
 unfold l18_fit_w BU
 rintro r2 rfl
 refine ⟨λ_=>hp0, λ_=>⟨λhc=>?_, λ_=>rfl⟩⟩
 simp only [iK,decide_eq_true_eq] at hc
 have:(a0.length:Int)≤16:=hc.1.1.2
 omega
theorem l18_fit_ok:EOk 5 e_l18_fit:=
 ent_w0 Dg D6 (I:=[2999998]) Tryz.func5 mix (B:=bodyOf Tryz.f5) (by kernel_rfl) rfl (by kernel_rfl) 400
  λ_ t p h xs a0 a1 a2 a3 a4 a5 a6 a7 a8 T k g b hb hp=>⟨_, λ_ _ _=>by kernel_rfl,l18_fit_begin t p h xs a0 a1 a2 a3 a4 a5 a6 a7 a8 T k g b (hp _ (.head _)) (hb.2.1) (hb.2.2.1.1)⟩
def T_l18_fit:Tb:=(5,e_l18_fit)::FB
theorem T_l18_fit_ok:TOk T_l18_fit:=tc_ l18_fit_ok D6
theorem fit_all {t p h:Int} {xs a0 a1 a2 a3 a4 a5 a6 a7 a8:LI} {T k g b:Int} (hf:l18_fit t p h xs a0 a1 a2 a3 a4 a5 a6 a7 a8 T k g b=true) (hs:slO a0.length a0∧slO a0.length a1∧slO a0.length a2∧slO a0.length a3∧slO a0.length a4∧slO a0.length a5∧slO a0.length a6∧slO a0.length a7∧slO a0.length a8):
 (soundA ⟨t,p,h⟩ xs=true∧p≤64)∧(0≤T∧T<a0.length)∧pkB (slR (a0.getD T.toNat 0)) (slR (a1.getD T.toNat 0)) (slR (a2.getD T.toNat 0)) (slR (a3.getD T.toNat 0)) (slR (a4.getD T.toNat 0)) (slR (a5.getD T.toNat 0)) (slR (a6.getD T.toNat 0)) (slR (a7.getD T.toNat 0)) (slR (a8.getD T.toNat 0))∧a0.length≤16∧fitOut h (partsL ⟨t,p,h⟩ xs) (λk=>pkGet k a0 a1 a2 a3 a4 a5 a6 a7 a8) a0.length 9 0=true:=by
 unfold l18_fit at hf
 simp only [iK,decide_eq_true_eq,r12_Few] at hf
 obtain ⟨⟨⟨⟨h1,h2⟩,h3⟩,h4⟩,h5⟩:=hf
 unfold r17_Fits at h5
 cases hc:(!soundA ⟨t,p,h⟩ xs||(a0.length:Int) !=t) with
 |true=>rw [hc] at h5;cases h5
 |false=>
  rw [hc,cond_false] at h5
  simp only [jI,jF] at hc
  have hl:=partsL_len ⟨t,p,h⟩ xs
  dsimp only at hl
  have hlen:=(fitOut_true (by omega) (by omega) 9 0 (by omega) (by decide) (by decide) h5).2
  have hT:T.toNat<a0.length:=by omega
  refine ⟨⟨hc.1,h1⟩,⟨by omega,h4⟩,?_,by omega,h5⟩
  refine ⟨⟨Nat.le_trans (lenB_all (hlen 8 (by omega)).1 T.toNat hT) (by decide),hs.1 T.toNat hT⟩,⟨Nat.le_trans (lenB_all (hlen 7 (by omega)).1 T.toNat hT) (by decide),hs.2.1 T.toNat hT⟩,⟨Nat.le_trans (lenB_all (hlen 6 (by omega)).1 T.toNat hT) (by decide),hs.2.2.1 T.toNat hT⟩,⟨Nat.le_trans (lenB_all (hlen 5 (by omega)).1 T.toNat hT) (by decide),hs.2.2.2.1 T.toNat hT⟩,⟨Nat.le_trans (lenB_all (hlen 4 (by omega)).1 T.toNat hT) (by decide),hs.2.2.2.2.1 T.toNat hT⟩,⟨Nat.le_trans (lenB_all (hlen 3 (by omega)).1 T.toNat hT) (by decide),hs.2.2.2.2.2.1 T.toNat hT⟩,⟨Nat.le_trans (lenB_all (hlen 2 (by omega)).1 T.toNat hT) (by decide),hs.2.2.2.2.2.2.1 T.toNat hT⟩,⟨Nat.le_trans (lenB_all (hlen 1 (by omega)).1 T.toNat hT) (by decide),hs.2.2.2.2.2.2.2.1 T.toNat hT⟩,⟨Nat.le_trans (lenB_all (hlen 0 (by omega)).1 T.toNat hT) (by decide),hs.2.2.2.2.2.2.2.2 T.toNat hT⟩⟩
def l18_live:Bool:=true
abbrev c_l18_live:Ct Sg:=⟨none,false,[], .b⟩
def e_l18_live:Entry Sg:=entC c_l18_live l18_live ([])
def l18_live_w (R_:Bool→Prop):Prop:=(∀r0:Int×Int×Int×LI,r0=(l14_Eight)→(∀r3:VS,r3=(VS.whole r0.2.2.2)→(aw_ (iC r0.2.2.2≤1000000) (aw_ (bdL r0.2.2.2) (∀r7:VS×Int×LI×LI×LI×LI×LI×LI×LI×LI×LI×Bool,r7=(small_Alloc r3 r0.1 r0.2.1 r0.2.2.1 [] [] [] [] [] [] [] [] [] 0)→(aw_ (r0.2.1≤1024) (aw_ (pkB [] [] [] [] [] [] [] [] []) (∀r20:VS×Int×LI×LI×LI×LI×LI×LI×LI×LI×LI×Bool,r20=(small_Alloc r7.1 r0.1 r0.2.1 r0.2.2.1 r7.2.2.1 r7.2.2.2.1 r7.2.2.2.2.1 r7.2.2.2.2.2.1 r7.2.2.2.2.2.2.1 r7.2.2.2.2.2.2.2.1 r7.2.2.2.2.2.2.2.2.1 r7.2.2.2.2.2.2.2.2.2.1 r7.2.2.2.2.2.2.2.2.2.2.1 0)→(aw_ (r0.2.1≤1024) (aw_ (pkB r7.2.2.1 r7.2.2.2.1 r7.2.2.2.2.1 r7.2.2.2.2.2.1 r7.2.2.2.2.2.2.1 r7.2.2.2.2.2.2.2.1 r7.2.2.2.2.2.2.2.2.1 r7.2.2.2.2.2.2.2.2.2.1 r7.2.2.2.2.2.2.2.2.2.2.1) (bw_ (r7.2.2.2.2.2.2.2.2.2.2.2&&r7.2.1==1024) (R_ (r01_LongsI r7.2.2.1 [1120,1088,1056]&&r20.2.2.2.2.2.2.2.2.2.2.2&&r20.2.1==1056)) (R_ (false)))))))))))))
theorem l18_live_begin:l18_live_w (λr__=>r__=l18_live):=by
 unfold l18_live_w
 have h1:l14_Eight.2.2.2.length≤1000000:=by decide+kernel
 have h2:∀v∈l14_Eight.2.2.2,bd32 v:=by unfold bd32;decide+kernel
 have h3:l14_Eight.2.1≤1024:=by decide+kernel
 rintro r0 rfl r3 rfl
 refine ⟨h1, λ_=>⟨h2, λ_=>?_⟩⟩
 rintro r7 rfl
 refine ⟨h3, λ_=>⟨⟨lB_nil,lB_nil,lB_nil,lB_nil,lB_nil,lB_nil,lB_nil,lB_nil,lB_nil⟩, λ_=>?_⟩⟩
 rintro r20 rfl
 refine ⟨h3, λ_=>⟨by unfold pkB lB;decide+kernel, λ_=>⟨λhd=>?_, λhd=>?_⟩⟩⟩
 ·show _=l18_live
  unfold l18_live
  decide+kernel
 ·exfalso;revert hd;decide+kernel
theorem l18_live_ok:EOk 6 e_l18_live:=
 ent_w0 Dg T_l18_fit_ok (I:=[2999998]) Tryz.func6 mix (B:=bodyOf Tryz.f6) (by kernel_rfl) rfl (by kernel_rfl) 400
  λ_ hb hp=>⟨_, λ_ _ _=>by kernel_rfl,l18_live_begin⟩
def T_l18_live:Tb:=(6,e_l18_live)::T_l18_fit
theorem T_l18_live_ok:TOk T_l18_live:=tc_ l18_live_ok T_l18_fit_ok
end
section
open Go.Sl
theorem FN {t p h:Int} {xs:LI} {g b:Int} (hv:A7 t p h xs g b=true):0≤g∧0≤b∧b<32:=by
 unfold A7 Cf.page at hv
 simp only [iK,decide_eq_true_eq] at hv
 omega
def SmallFrees (t p h:Int) (xs a0 a1 a2 a3 a4 a5 a6 a7 a8:LI) (T k g b:Int):Bool:=true
abbrev EN:Ct Sg:=⟨none,false,[.agg [.i .i64, .i .i64, .i .i64], .ro [some .u32], .agg [.ro [some .i16,some .i16,some .i16,some .i16,some .i16,some .i16,some .i16,some .i16,some .i16], .i .i64, .i .i64, .i .i64, .i .i64]], .b⟩
def Jz:Entry Sg:=entC EN SmallFrees (λt p h xs a0 a1 a2 a3 a4 a5 a6 a7 a8 T k g b=>[bdAll xs,slO a0.length a0∧slO a0.length a1∧slO a0.length a2∧slO a0.length a3∧slO a0.length a4∧slO a0.length a5∧slO a0.length a6∧slO a0.length a7∧slO a0.length a8])
def EO (t p h:Int) (xs a0 a1 a2 a3 a4 a5 a6 a7 a8:LI) (T k g b:Int) (Q0:VS→VS→Prop) (Q1:VS→VS→Int→LI→LI→LI→LI→LI→LI→LI→LI→LI→Prop) (Q2:VS→VS→Int→LI→LI→LI→LI→LI→LI→LI→LI→LI→Int→LI→LI→LI→LI→LI→LI→LI→LI→LI→Prop) (Q3:VS→VS→LI→LI→LI→LI→LI→LI→LI→LI→LI→LI→LI→LI→LI→LI→LI→LI→LI→LI→Prop) (Q4:VS→VS→LI→LI→LI→LI→LI→LI→LI→LI→LI→LI→LI→LI→LI→LI→LI→LI→LI→LI→Prop) (Q5:VS→VS→LI→LI→LI→LI→LI→LI→LI→LI→LI→LI→LI→LI→LI→LI→LI→LI→LI→LI→Prop) (Q6:VS→VS→LI→LI→LI→LI→LI→LI→LI→LI→LI→LI→LI→LI→LI→LI→LI→LI→LI→LI→Prop) (R_:Bool→Prop):Prop:=(∀r2:Bool,r2=(l18_fit t p h xs a0 a1 a2 a3 a4 a5 a6 a7 a8 T k g b)→(aw_ (bdAll xs) (bw_ (!r2) (∀r5:Bool,r5=(true)→(R_ (r5))) (∀r5:VS,r5=(VS.whole xs)→(aw_ (iC xs≤1000000) (aw_ (bdL xs) (∀r9:VS,r9=(VS.whole xs)→(aw_ (iC xs≤1000000) (aw_ (bdL xs) (Q0 (r5) (r9)))))))))))
abbrev Bq (a0 a1 a2 a3 a4 a5 a6 a7 a8:LI):=(lenC [Col.sls a0,Col.sls a1,Col.sls a2,Col.sls a3,Col.sls a4,Col.sls a5,Col.sls a6,Col.sls a7,Col.sls a8])
abbrev BI (a0:LI) (T:Int) (a1 a2 a3 a4 a5 a6 a7 a8:LI):=(pkB (slR (iE a0 (iJ T) 0)) (slR (iE a1 (iJ T) 0)) (slR (iE a2 (iJ T) 0)) (slR (iE a3 (iJ T) 0)) (slR (iE a4 (iJ T) 0)) (slR (iE a5 (iJ T) 0)) (slR (iE a6 (iJ T) 0)) (slR (iE a7 (iJ T) 0)) (slR (iE a8 (iJ T) 0)))
abbrev D7 (sv:VS) (t p h:Int) (a0:LI) (T:Int) (a1 a2 a3 a4 a5 a6 a7 a8:LI) (k:Int) (Q1:VS→VS→Int→LI→LI→LI→LI→LI→LI→LI→LI→LI→Prop) (sw:VS):Prop:=(∀r1:VS×Int×LI×LI×LI×LI×LI×LI×LI×LI×LI,r1=(small_Flush sv t p h (slR (iE a0 (iJ T) 0)) (slR (iE a1 (iJ T) 0)) (slR (iE a2 (iJ T) 0)) (slR (iE a3 (iJ T) 0)) (slR (iE a4 (iJ T) 0)) (slR (iE a5 (iJ T) 0)) (slR (iE a6 (iJ T) 0)) (slR (iE a7 (iJ T) 0)) (slR (iE a8 (iJ T) 0)) k)→(aw_ (p≤1024) (aw_ (BI a0 T a1 a2 a3 a4 a5 a6 a7 a8) (Q1 r1.1 (sw) r1.2.1 r1.2.2.1 r1.2.2.2.1 r1.2.2.2.2.1 r1.2.2.2.2.2.1 r1.2.2.2.2.2.2.1 r1.2.2.2.2.2.2.2.1 r1.2.2.2.2.2.2.2.2.1 r1.2.2.2.2.2.2.2.2.2.1 r1.2.2.2.2.2.2.2.2.2.2))))
def Ee (t p h:Int) (xs a0 a1 a2 a3 a4 a5 a6 a7 a8:LI) (T k g b:Int) (sv sw:VS) (Q0:VS→VS→Prop) (Q1:VS→VS→Int→LI→LI→LI→LI→LI→LI→LI→LI→LI→Prop) (Q2:VS→VS→Int→LI→LI→LI→LI→LI→LI→LI→LI→LI→Int→LI→LI→LI→LI→LI→LI→LI→LI→LI→Prop) (Q3:VS→VS→LI→LI→LI→LI→LI→LI→LI→LI→LI→LI→LI→LI→LI→LI→LI→LI→LI→LI→Prop) (Q4:VS→VS→LI→LI→LI→LI→LI→LI→LI→LI→LI→LI→LI→LI→LI→LI→LI→LI→LI→LI→Prop) (Q5:VS→VS→LI→LI→LI→LI→LI→LI→LI→LI→LI→LI→LI→LI→LI→LI→LI→LI→LI→LI→Prop) (Q6:VS→VS→LI→LI→LI→LI→LI→LI→LI→LI→LI→LI→LI→LI→LI→LI→LI→LI→LI→LI→Prop) (R_:Bool→Prop):Prop:=((aw_ (0≤T∧T<(↑(Bq a0 a1 a2 a3 a4 a5 a6 a7 a8):Int)) (((D7 sv t p h a0 T a1 a2 a3 a4 a5 a6 a7 a8 k Q1 sw)∧(D7 sv t p h a0 T a1 a2 a3 a4 a5 a6 a7 a8 k Q1 sw))∧(D7 sv t p h a0 T a1 a2 a3 a4 a5 a6 a7 a8 k Q1 sw)))∧(aw_ (0≤T∧T<(↑(Bq a0 a1 a2 a3 a4 a5 a6 a7 a8):Int)) (D7 sv t p h a0 T a1 a2 a3 a4 a5 a6 a7 a8 k Q1 sw)))
def Aa (t p h:Int) (xs a0 a1 a2 a3 a4 a5 a6 a7 a8:LI) (T k g b:Int) (sv sw:VS) (r_:Bool):Prop:=l18_fit t p h xs a0 a1 a2 a3 a4 a5 a6 a7 a8 T k g b=true∧sv=VS.whole xs∧sw=VS.whole xs∧r_=true
abbrev D8 (sw:VS) (t p h:Int) (a0:LI) (T:Int) (a1 a2 a3 a4 a5 a6 a7 a8:LI) (k:Int) (Q2:VS→VS→Int→LI→LI→LI→LI→LI→LI→LI→LI→LI→Int→LI→LI→LI→LI→LI→LI→LI→LI→LI→Prop) (sv:VS) (cn:Int) (y0 y1 y2 y3 y4 y5 y6 y7 y8:LI):Prop:=(∀r1:VS×Int×LI×LI×LI×LI×LI×LI×LI×LI×LI,r1=(Be sw t p h (slR (iE a0 (iJ T) 0)) (slR (iE a1 (iJ T) 0)) (slR (iE a2 (iJ T) 0)) (slR (iE a3 (iJ T) 0)) (slR (iE a4 (iJ T) 0)) (slR (iE a5 (iJ T) 0)) (slR (iE a6 (iJ T) 0)) (slR (iE a7 (iJ T) 0)) (slR (iE a8 (iJ T) 0)) k)→(aw_ (p≤1024) (aw_ (BI a0 T a1 a2 a3 a4 a5 a6 a7 a8) (Q2 (sv) r1.1 (cn) (y0) (y1) (y2) (y3) (y4) (y5) (y6) (y7) (y8) r1.2.1 r1.2.2.1 r1.2.2.2.1 r1.2.2.2.2.1 r1.2.2.2.2.2.1 r1.2.2.2.2.2.2.1 r1.2.2.2.2.2.2.2.1 r1.2.2.2.2.2.2.2.2.1 r1.2.2.2.2.2.2.2.2.2.1 r1.2.2.2.2.2.2.2.2.2.2))))
def Ef (t p h:Int) (xs a0 a1 a2 a3 a4 a5 a6 a7 a8:LI) (T k g b:Int) (sv sw:VS) (cn:Int) (y0 y1 y2 y3 y4 y5 y6 y7 y8:LI) (Q0:VS→VS→Prop) (Q1:VS→VS→Int→LI→LI→LI→LI→LI→LI→LI→LI→LI→Prop) (Q2:VS→VS→Int→LI→LI→LI→LI→LI→LI→LI→LI→LI→Int→LI→LI→LI→LI→LI→LI→LI→LI→LI→Prop) (Q3:VS→VS→LI→LI→LI→LI→LI→LI→LI→LI→LI→LI→LI→LI→LI→LI→LI→LI→LI→LI→Prop) (Q4:VS→VS→LI→LI→LI→LI→LI→LI→LI→LI→LI→LI→LI→LI→LI→LI→LI→LI→LI→LI→Prop) (Q5:VS→VS→LI→LI→LI→LI→LI→LI→LI→LI→LI→LI→LI→LI→LI→LI→LI→LI→LI→LI→Prop) (Q6:VS→VS→LI→LI→LI→LI→LI→LI→LI→LI→LI→LI→LI→LI→LI→LI→LI→LI→LI→LI→Prop) (R_:Bool→Prop):Prop:=((aw_ (0≤T∧T<(↑(Bq a0 a1 a2 a3 a4 a5 a6 a7 a8):Int)) (((D8 sw t p h a0 T a1 a2 a3 a4 a5 a6 a7 a8 k Q2 sv cn y0 y1 y2 y3 y4 y5 y6 y7 y8)∧(D8 sw t p h a0 T a1 a2 a3 a4 a5 a6 a7 a8 k Q2 sv cn y0 y1 y2 y3 y4 y5 y6 y7 y8))∧(D8 sw t p h a0 T a1 a2 a3 a4 a5 a6 a7 a8 k Q2 sv cn y0 y1 y2 y3 y4 y5 y6 y7 y8)))∧(aw_ (0≤T∧T<(↑(Bq a0 a1 a2 a3 a4 a5 a6 a7 a8):Int)) (D8 sw t p h a0 T a1 a2 a3 a4 a5 a6 a7 a8 k Q2 sv cn y0 y1 y2 y3 y4 y5 y6 y7 y8)))
def Ac (t p h:Int) (xs a0 a1 a2 a3 a4 a5 a6 a7 a8:LI) (T k g b:Int) (sv sw:VS) (cn:Int) (y0 y1 y2 y3 y4 y5 y6 y7 y8:LI) (r_:Bool):Prop:=l18_fit t p h xs a0 a1 a2 a3 a4 a5 a6 a7 a8 T k g b=true∧sw=VS.whole xs∧(sv,cn,y0,y1,y2,y3,y4,y5,y6,y7,y8)=small_Flush (VS.whole xs) t p h (slR (a0.getD T.toNat 0)) (slR (a1.getD T.toNat 0)) (slR (a2.getD T.toNat 0)) (slR (a3.getD T.toNat 0)) (slR (a4.getD T.toNat 0)) (slR (a5.getD T.toNat 0)) (slR (a6.getD T.toNat 0)) (slR (a7.getD T.toNat 0)) (slR (a8.getD T.toNat 0)) k∧r_=true
def Eg (t p h:Int) (xs a0 a1 a2 a3 a4 a5 a6 a7 a8:LI) (T k g b:Int) (sv sw:VS) (cn:Int) (y0 y1 y2 y3 y4 y5 y6 y7 y8:LI) (cm:Int) (z0 z1 z2 z3 z4 z5 z6 z7 z8:LI) (Q0:VS→VS→Prop) (Q1:VS→VS→Int→LI→LI→LI→LI→LI→LI→LI→LI→LI→Prop) (Q2:VS→VS→Int→LI→LI→LI→LI→LI→LI→LI→LI→LI→Int→LI→LI→LI→LI→LI→LI→LI→LI→LI→Prop) (Q3:VS→VS→LI→LI→LI→LI→LI→LI→LI→LI→LI→LI→LI→LI→LI→LI→LI→LI→LI→LI→Prop) (Q4:VS→VS→LI→LI→LI→LI→LI→LI→LI→LI→LI→LI→LI→LI→LI→LI→LI→LI→LI→LI→Prop) (Q5:VS→VS→LI→LI→LI→LI→LI→LI→LI→LI→LI→LI→LI→LI→LI→LI→LI→LI→LI→LI→Prop) (Q6:VS→VS→LI→LI→LI→LI→LI→LI→LI→LI→LI→LI→LI→LI→LI→LI→LI→LI→LI→LI→Prop) (R_:Bool→Prop):Prop:=(bw_ (cn !=cm||!r17_Same y0 y1 y2 y3 y4 y5 y6 y7 y8 z0 z1 z2 z3 z4 z5 z6 z7 z8) (R_ (false)) (∀r1:LI,r1=(VS.reads sv)→(∀r3:LI×LI,r3=((VS.wrote sv,VS.puts sv))→(aw_ (false=false→iC r3.1=iC r3.2) (bw_ (!(decide (r1=VS.reads sw)&&(decide (r3.1=VS.wrote sw∧r3.2=VS.puts sw)&&decide (VS.miss sv=VS.miss sw)))) (R_ (false)) (Q3 (sv) (sw) (y0) (y1) (y2) (y3) (y4) (y5) (y6) (y7) (y8) (z0) (z1) (z2) (z3) (z4) (z5) (z6) (z7) (z8)))))))
def Ae (t p h:Int) (xs a0 a1 a2 a3 a4 a5 a6 a7 a8:LI) (T k g b:Int) (sv sw:VS) (cn:Int) (y0 y1 y2 y3 y4 y5 y6 y7 y8:LI) (cm:Int) (z0 z1 z2 z3 z4 z5 z6 z7 z8:LI) (r_:Bool):Prop:=l18_fit t p h xs a0 a1 a2 a3 a4 a5 a6 a7 a8 T k g b=true∧(sv,cn,y0,y1,y2,y3,y4,y5,y6,y7,y8)=small_Flush (VS.whole xs) t p h (slR (a0.getD T.toNat 0)) (slR (a1.getD T.toNat 0)) (slR (a2.getD T.toNat 0)) (slR (a3.getD T.toNat 0)) (slR (a4.getD T.toNat 0)) (slR (a5.getD T.toNat 0)) (slR (a6.getD T.toNat 0)) (slR (a7.getD T.toNat 0)) (slR (a8.getD T.toNat 0)) k∧(sw,cm,z0,z1,z2,z3,z4,z5,z6,z7,z8)=Be (VS.whole xs) t p h (slR (a0.getD T.toNat 0)) (slR (a1.getD T.toNat 0)) (slR (a2.getD T.toNat 0)) (slR (a3.getD T.toNat 0)) (slR (a4.getD T.toNat 0)) (slR (a5.getD T.toNat 0)) (slR (a6.getD T.toNat 0)) (slR (a7.getD T.toNat 0)) (slR (a8.getD T.toNat 0)) k∧r_=true
def Eh (t p h:Int) (xs a0 a1 a2 a3 a4 a5 a6 a7 a8:LI) (T k g b:Int) (sv sw:VS) (y0 y1 y2 y3 y4 y5 y6 y7 y8 z0 z1 z2 z3 z4 z5 z6 z7 z8:LI) (Q0:VS→VS→Prop) (Q1:VS→VS→Int→LI→LI→LI→LI→LI→LI→LI→LI→LI→Prop) (Q2:VS→VS→Int→LI→LI→LI→LI→LI→LI→LI→LI→LI→Int→LI→LI→LI→LI→LI→LI→LI→LI→LI→Prop) (Q3:VS→VS→LI→LI→LI→LI→LI→LI→LI→LI→LI→LI→LI→LI→LI→LI→LI→LI→LI→LI→Prop) (Q4:VS→VS→LI→LI→LI→LI→LI→LI→LI→LI→LI→LI→LI→LI→LI→LI→LI→LI→LI→LI→Prop) (Q5:VS→VS→LI→LI→LI→LI→LI→LI→LI→LI→LI→LI→LI→LI→LI→LI→LI→LI→LI→LI→Prop) (Q6:VS→VS→LI→LI→LI→LI→LI→LI→LI→LI→LI→LI→LI→LI→LI→LI→LI→LI→LI→LI→Prop) (R_:Bool→Prop):Prop:=(∀r0:Bool,r0=(A7 t p h xs g b)→(aw_ (AGood {t:=t,p:=p,s:=h} xs) (bw_ (!r0) (∀r3:Bool,r3=(true)→(R_ (r3))) (∀r3:VS,r3=(VS.whole xs)→(aw_ (iC xs≤1000000) (aw_ (bdL xs) (∀r7:VS,r7=(VS.whole xs)→(aw_ (iC xs≤1000000) (aw_ (bdL xs) (Q4 (r3) (r7) (y0) (y1) (y2) (y3) (y4) (y5) (y6) (y7) (y8) (z0) (z1) (z2) (z3) (z4) (z5) (z6) (z7) (z8)))))))))))
def Af (t p h:Int) (xs a0 a1 a2 a3 a4 a5 a6 a7 a8:LI) (T k g b:Int) (sv sw:VS) (y0 y1 y2 y3 y4 y5 y6 y7 y8 z0 z1 z2 z3 z4 z5 z6 z7 z8:LI) (r_:Bool):Prop:=l18_fit t p h xs a0 a1 a2 a3 a4 a5 a6 a7 a8 T k g b=true∧r_=true
def Ei (t p h:Int) (xs a0 a1 a2 a3 a4 a5 a6 a7 a8:LI) (T k g b:Int) (sv sw:VS) (y0 y1 y2 y3 y4 y5 y6 y7 y8 z0 z1 z2 z3 z4 z5 z6 z7 z8:LI) (Q0:VS→VS→Prop) (Q1:VS→VS→Int→LI→LI→LI→LI→LI→LI→LI→LI→LI→Prop) (Q2:VS→VS→Int→LI→LI→LI→LI→LI→LI→LI→LI→LI→Int→LI→LI→LI→LI→LI→LI→LI→LI→LI→Prop) (Q3:VS→VS→LI→LI→LI→LI→LI→LI→LI→LI→LI→LI→LI→LI→LI→LI→LI→LI→LI→LI→Prop) (Q4:VS→VS→LI→LI→LI→LI→LI→LI→LI→LI→LI→LI→LI→LI→LI→LI→LI→LI→LI→LI→Prop) (Q5:VS→VS→LI→LI→LI→LI→LI→LI→LI→LI→LI→LI→LI→LI→LI→LI→LI→LI→LI→LI→Prop) (Q6:VS→VS→LI→LI→LI→LI→LI→LI→LI→LI→LI→LI→LI→LI→LI→LI→LI→LI→LI→LI→Prop) (R_:Bool→Prop):Prop:=(aw_ (0≤T∧T<(↑(Bq a0 a1 a2 a3 a4 a5 a6 a7 a8):Int)) (∀r1:VS×LI×LI×LI×LI×LI×LI×LI×LI×LI,r1=(small_Free sv t p h (slR (iE a0 (iJ T) 0)) (slR (iE a1 (iJ T) 0)) (slR (iE a2 (iJ T) 0)) (slR (iE a3 (iJ T) 0)) (slR (iE a4 (iJ T) 0)) (slR (iE a5 (iJ T) 0)) (slR (iE a6 (iJ T) 0)) (slR (iE a7 (iJ T) 0)) (slR (iE a8 (iJ T) 0)) g b)→(aw_ (p≤1024) (aw_ (BI a0 T a1 a2 a3 a4 a5 a6 a7 a8) (aw_ (0≤g) (Q5 r1.1 (sw) r1.2.1 r1.2.2.1 r1.2.2.2.1 r1.2.2.2.2.1 r1.2.2.2.2.2.1 r1.2.2.2.2.2.2.1 r1.2.2.2.2.2.2.2.1 r1.2.2.2.2.2.2.2.2.1 r1.2.2.2.2.2.2.2.2.2 (z0) (z1) (z2) (z3) (z4) (z5) (z6) (z7) (z8)))))))
def Ag (t p h:Int) (xs a0 a1 a2 a3 a4 a5 a6 a7 a8:LI) (T k g b:Int) (sv sw:VS) (y0 y1 y2 y3 y4 y5 y6 y7 y8 z0 z1 z2 z3 z4 z5 z6 z7 z8:LI) (r_:Bool):Prop:=l18_fit t p h xs a0 a1 a2 a3 a4 a5 a6 a7 a8 T k g b=true∧A7 t p h xs g b=true∧sv=VS.whole xs∧sw=VS.whole xs∧r_=true
def Ej (t p h:Int) (xs a0 a1 a2 a3 a4 a5 a6 a7 a8:LI) (T k g b:Int) (sv sw:VS) (y0 y1 y2 y3 y4 y5 y6 y7 y8 z0 z1 z2 z3 z4 z5 z6 z7 z8:LI) (Q0:VS→VS→Prop) (Q1:VS→VS→Int→LI→LI→LI→LI→LI→LI→LI→LI→LI→Prop) (Q2:VS→VS→Int→LI→LI→LI→LI→LI→LI→LI→LI→LI→Int→LI→LI→LI→LI→LI→LI→LI→LI→LI→Prop) (Q3:VS→VS→LI→LI→LI→LI→LI→LI→LI→LI→LI→LI→LI→LI→LI→LI→LI→LI→LI→LI→Prop) (Q4:VS→VS→LI→LI→LI→LI→LI→LI→LI→LI→LI→LI→LI→LI→LI→LI→LI→LI→LI→LI→Prop) (Q5:VS→VS→LI→LI→LI→LI→LI→LI→LI→LI→LI→LI→LI→LI→LI→LI→LI→LI→LI→LI→Prop) (Q6:VS→VS→LI→LI→LI→LI→LI→LI→LI→LI→LI→LI→LI→LI→LI→LI→LI→LI→LI→LI→Prop) (R_:Bool→Prop):Prop:=(aw_ (0≤T∧T<(↑(Bq a0 a1 a2 a3 a4 a5 a6 a7 a8):Int)) (∀r1:VS×LI×LI×LI×LI×LI×LI×LI×LI×LI,r1=(Bg sw t p h (slR (iE a0 (iJ T) 0)) (slR (iE a1 (iJ T) 0)) (slR (iE a2 (iJ T) 0)) (slR (iE a3 (iJ T) 0)) (slR (iE a4 (iJ T) 0)) (slR (iE a5 (iJ T) 0)) (slR (iE a6 (iJ T) 0)) (slR (iE a7 (iJ T) 0)) (slR (iE a8 (iJ T) 0)) g b)→(aw_ (p≤1024) (aw_ (BI a0 T a1 a2 a3 a4 a5 a6 a7 a8) (aw_ (0≤g) (Q6 (sv) r1.1 (y0) (y1) (y2) (y3) (y4) (y5) (y6) (y7) (y8) r1.2.1 r1.2.2.1 r1.2.2.2.1 r1.2.2.2.2.1 r1.2.2.2.2.2.1 r1.2.2.2.2.2.2.1 r1.2.2.2.2.2.2.2.1 r1.2.2.2.2.2.2.2.2.1 r1.2.2.2.2.2.2.2.2.2))))))
def Ah (t p h:Int) (xs a0 a1 a2 a3 a4 a5 a6 a7 a8:LI) (T k g b:Int) (sv sw:VS) (y0 y1 y2 y3 y4 y5 y6 y7 y8 z0 z1 z2 z3 z4 z5 z6 z7 z8:LI) (r_:Bool):Prop:=l18_fit t p h xs a0 a1 a2 a3 a4 a5 a6 a7 a8 T k g b=true∧A7 t p h xs g b=true∧sw=VS.whole xs∧(sv,y0,y1,y2,y3,y4,y5,y6,y7,y8)=small_Free (VS.whole xs) t p h (slR (a0.getD T.toNat 0)) (slR (a1.getD T.toNat 0)) (slR (a2.getD T.toNat 0)) (slR (a3.getD T.toNat 0)) (slR (a4.getD T.toNat 0)) (slR (a5.getD T.toNat 0)) (slR (a6.getD T.toNat 0)) (slR (a7.getD T.toNat 0)) (slR (a8.getD T.toNat 0)) g b∧r_=true
def Em (t p h:Int) (xs a0 a1 a2 a3 a4 a5 a6 a7 a8:LI) (T k g b:Int) (sv sw:VS) (y0 y1 y2 y3 y4 y5 y6 y7 y8 z0 z1 z2 z3 z4 z5 z6 z7 z8:LI) (Q0:VS→VS→Prop) (Q1:VS→VS→Int→LI→LI→LI→LI→LI→LI→LI→LI→LI→Prop) (Q2:VS→VS→Int→LI→LI→LI→LI→LI→LI→LI→LI→LI→Int→LI→LI→LI→LI→LI→LI→LI→LI→LI→Prop) (Q3:VS→VS→LI→LI→LI→LI→LI→LI→LI→LI→LI→LI→LI→LI→LI→LI→LI→LI→LI→LI→Prop) (Q4:VS→VS→LI→LI→LI→LI→LI→LI→LI→LI→LI→LI→LI→LI→LI→LI→LI→LI→LI→LI→Prop) (Q5:VS→VS→LI→LI→LI→LI→LI→LI→LI→LI→LI→LI→LI→LI→LI→LI→LI→LI→LI→LI→Prop) (Q6:VS→VS→LI→LI→LI→LI→LI→LI→LI→LI→LI→LI→LI→LI→LI→LI→LI→LI→LI→LI→Prop) (R_:Bool→Prop):Prop:=(∀r0:Bool,r0=(r17_Same y0 y1 y2 y3 y4 y5 y6 y7 y8 z0 z1 z2 z3 z4 z5 z6 z7 z8)→(bw_ (r0) (∀r2:LI,r2=(VS.reads sv)→(∀r4:LI×LI,r4=((VS.wrote sv,VS.puts sv))→(aw_ (true=true→iC r4.1=iC r4.2) (R_ (decide (r2=VS.reads sw)&&(decide (r4.1=VS.wrote sw∧r4.2=VS.puts sw)&&decide (VS.miss sv=VS.miss sw))&&true))))) (R_ (false))))
def Ai (t p h:Int) (xs a0 a1 a2 a3 a4 a5 a6 a7 a8:LI) (T k g b:Int) (sv sw:VS) (y0 y1 y2 y3 y4 y5 y6 y7 y8 z0 z1 z2 z3 z4 z5 z6 z7 z8:LI) (r_:Bool):Prop:=l18_fit t p h xs a0 a1 a2 a3 a4 a5 a6 a7 a8 T k g b=true∧A7 t p h xs g b=true∧(sv,y0,y1,y2,y3,y4,y5,y6,y7,y8)=small_Free (VS.whole xs) t p h (slR (a0.getD T.toNat 0)) (slR (a1.getD T.toNat 0)) (slR (a2.getD T.toNat 0)) (slR (a3.getD T.toNat 0)) (slR (a4.getD T.toNat 0)) (slR (a5.getD T.toNat 0)) (slR (a6.getD T.toNat 0)) (slR (a7.getD T.toNat 0)) (slR (a8.getD T.toNat 0)) g b∧(sw,z0,z1,z2,z3,z4,z5,z6,z7,z8)=Bg (VS.whole xs) t p h (slR (a0.getD T.toNat 0)) (slR (a1.getD T.toNat 0)) (slR (a2.getD T.toNat 0)) (slR (a3.getD T.toNat 0)) (slR (a4.getD T.toNat 0)) (slR (a5.getD T.toNat 0)) (slR (a6.getD T.toNat 0)) (slR (a7.getD T.toNat 0)) (slR (a8.getD T.toNat 0)) g b∧r_=true
abbrev Cb (p0:Addr) (t p h:Int) (xs a0 a1 a2 a3 a4 a5 a6 a7 a8:LI) (T k g b:Int):Hd Sg:=⟨some 900,[0,1,1,1],[.code [1,1,1,1]],[3,1,5,7,8],[.box 23 [.ic .i64 (t), .ic .i64 (p), .ic .i64 (h)], .roc [.ints .u32 (xs)], .box 27 [.roc [.sls (a0), .sls (a1), .sls (a2), .sls (a3), .sls (a4), .sls (a5), .sls (a6), .sls (a7), .sls (a8)], .ic .i64 (T), .ic .i64 (k), .ic .i64 (g), .ic .i64 (b)], .obj wView, .obj Ap]⟩
abbrev Cc (p0:Addr) (t p h:Int) (xs a0 a1 a2 a3 a4 a5 a6 a7 a8:LI) (T k g b:Int):Hd Sg:=⟨some 900,[0,1,1,1,1],[.code [1,1,1,1,1]],[3,1,5,7,8,9,10],[.box 23 [.ic .i64 (t), .ic .i64 (p), .ic .i64 (h)], .roc [.ints .u32 (xs)], .box 27 [.roc [.sls (a0), .sls (a1), .sls (a2), .sls (a3), .sls (a4), .sls (a5), .sls (a6), .sls (a7), .sls (a8)], .ic .i64 (T), .ic .i64 (k), .ic .i64 (g), .ic .i64 (b)], .obj wView, .obj Ap, .i .i64, .box 36 [.ro [some .i8], .ro [some .i8], .ro [some .i8], .ro [some .i8], .ro [some .i8], .ro [some .i8], .ro [some .i8], .ro [some .i8], .ro [some .i8]]]⟩
abbrev Ce (p0:Addr) (t p h:Int) (xs a0 a1 a2 a3 a4 a5 a6 a7 a8:LI) (T k g b:Int):Hd Sg:=⟨some 0,[0,0,1,1,1,1,1],[.code [1,0,1,1,1,1,1], .code [1,1,1,1,1,1]],[3,1,5,7,8,9,10,11,12],[.box 23 [.ic .i64 (t), .ic .i64 (p), .ic .i64 (h)], .roc [.ints .u32 (xs)], .box 27 [.roc [.sls (a0), .sls (a1), .sls (a2), .sls (a3), .sls (a4), .sls (a5), .sls (a6), .sls (a7), .sls (a8)], .ic .i64 (T), .ic .i64 (k), .ic .i64 (g), .ic .i64 (b)], .obj wView, .obj Ap, .i .i64, .box 36 [.ro [some .i8], .ro [some .i8], .ro [some .i8], .ro [some .i8], .ro [some .i8], .ro [some .i8], .ro [some .i8], .ro [some .i8], .ro [some .i8]], .i .i64, .box 36 [.ro [some .i8], .ro [some .i8], .ro [some .i8], .ro [some .i8], .ro [some .i8], .ro [some .i8], .ro [some .i8], .ro [some .i8], .ro [some .i8]]]⟩
abbrev Ci (p0:Addr) (t p h:Int) (xs a0 a1 a2 a3 a4 a5 a6 a7 a8:LI) (T k g b:Int):Hd Sg:=⟨some 0,[0,0,1,1,1,1,1,1],[.code [1,0,1,1,1,1,1,1], .code [1,1,1,1,1,1,1]],[3,1,5,7,8,10,12],[.box 23 [.ic .i64 (t), .ic .i64 (p), .ic .i64 (h)], .roc [.ints .u32 (xs)], .box 27 [.roc [.sls (a0), .sls (a1), .sls (a2), .sls (a3), .sls (a4), .sls (a5), .sls (a6), .sls (a7), .sls (a8)], .ic .i64 (T), .ic .i64 (k), .ic .i64 (g), .ic .i64 (b)], .obj wView, .obj Ap, .box 36 [.ro [some .i8], .ro [some .i8], .ro [some .i8], .ro [some .i8], .ro [some .i8], .ro [some .i8], .ro [some .i8], .ro [some .i8], .ro [some .i8]], .box 36 [.ro [some .i8], .ro [some .i8], .ro [some .i8], .ro [some .i8], .ro [some .i8], .ro [some .i8], .ro [some .i8], .ro [some .i8], .ro [some .i8]]]⟩
abbrev Cj (p0:Addr) (t p h:Int) (xs a0 a1 a2 a3 a4 a5 a6 a7 a8:LI) (T k g b:Int):Hd Sg:=⟨some 900,[0,1,1,1,1,1,1,1,1],[.code [1,1,1,1,1,1,1,1,1]],[3,1,5,7,8,10,12],[.box 23 [.ic .i64 (t), .ic .i64 (p), .ic .i64 (h)], .roc [.ints .u32 (xs)], .box 27 [.roc [.sls (a0), .sls (a1), .sls (a2), .sls (a3), .sls (a4), .sls (a5), .sls (a6), .sls (a7), .sls (a8)], .ic .i64 (T), .ic .i64 (k), .ic .i64 (g), .ic .i64 (b)], .obj wView, .obj Ap, .box 36 [.ro [some .i8], .ro [some .i8], .ro [some .i8], .ro [some .i8], .ro [some .i8], .ro [some .i8], .ro [some .i8], .ro [some .i8], .ro [some .i8]], .box 36 [.ro [some .i8], .ro [some .i8], .ro [some .i8], .ro [some .i8], .ro [some .i8], .ro [some .i8], .ro [some .i8], .ro [some .i8], .ro [some .i8]]]⟩
abbrev C9 (p0:Addr) (t p h:Int) (xs a0 a1 a2 a3 a4 a5 a6 a7 a8:LI) (T k g b:Int):Hd Sg:=⟨some 900,[0,1,1,1,1,1,1,1,1,1],[.code [1,1,1,1,1,1,1,1,1,1]],[3,1,5,7,8,10,12],[.box 23 [.ic .i64 (t), .ic .i64 (p), .ic .i64 (h)], .roc [.ints .u32 (xs)], .box 27 [.roc [.sls (a0), .sls (a1), .sls (a2), .sls (a3), .sls (a4), .sls (a5), .sls (a6), .sls (a7), .sls (a8)], .ic .i64 (T), .ic .i64 (k), .ic .i64 (g), .ic .i64 (b)], .obj wView, .obj Ap, .box 36 [.ro [some .i8], .ro [some .i8], .ro [some .i8], .ro [some .i8], .ro [some .i8], .ro [some .i8], .ro [some .i8], .ro [some .i8], .ro [some .i8]], .box 36 [.ro [some .i8], .ro [some .i8], .ro [some .i8], .ro [some .i8], .ro [some .i8], .ro [some .i8], .ro [some .i8], .ro [some .i8], .ro [some .i8]]]⟩
abbrev CB (p0:Addr) (t p h:Int) (xs a0 a1 a2 a3 a4 a5 a6 a7 a8:LI) (T k g b:Int):Hd Sg:=⟨some 0,[0,1,1,1,1,1,1,1,1,1,1],[.code [1,1,1,1,1,1,1,1,1,1,1]],[7,8,10,12],[.obj wView, .obj Ap, .box 36 [.ro [some .i8], .ro [some .i8], .ro [some .i8], .ro [some .i8], .ro [some .i8], .ro [some .i8], .ro [some .i8], .ro [some .i8], .ro [some .i8]], .box 36 [.ro [some .i8], .ro [some .i8], .ro [some .i8], .ro [some .i8], .ro [some .i8], .ro [some .i8], .ro [some .i8], .ro [some .i8], .ro [some .i8]]]⟩
theorem FO (t p h:Int) (xs a0 a1 a2 a3 a4 a5 a6 a7 a8:LI) (T k g b:Int) (hp0:bdAll xs) (hp1:slO a0.length a0∧slO a0.length a1∧slO a0.length a2∧slO a0.length a3∧slO a0.length a4∧slO a0.length a5∧slO a0.length a6∧slO a0.length a7∧slO a0.length a8) (hl0:xs.length≤9223372036854775807) (hl1:a0.length≤9223372036854775807):EO t p h xs a0 a1 a2 a3 a4 a5 a6 a7 a8 T k g b (λsv' sw'=>Aa t p h xs a0 a1 a2 a3 a4 a5 a6 a7 a8 T k g b sv' sw' (SmallFrees t p h xs a0 a1 a2 a3 a4 a5 a6 a7 a8 T k g b)) (λsv' sw' cn' y0' y1' y2' y3' y4' y5' y6' y7' y8'=>Ac t p h xs a0 a1 a2 a3 a4 a5 a6 a7 a8 T k g b sv' sw' cn' y0' y1' y2' y3' y4' y5' y6' y7' y8' (SmallFrees t p h xs a0 a1 a2 a3 a4 a5 a6 a7 a8 T k g b)) (λsv' sw' cn' y0' y1' y2' y3' y4' y5' y6' y7' y8' cm' z0' z1' z2' z3' z4' z5' z6' z7' z8'=>Ae t p h xs a0 a1 a2 a3 a4 a5 a6 a7 a8 T k g b sv' sw' cn' y0' y1' y2' y3' y4' y5' y6' y7' y8' cm' z0' z1' z2' z3' z4' z5' z6' z7' z8' (SmallFrees t p h xs a0 a1 a2 a3 a4 a5 a6 a7 a8 T k g b)) (λsv' sw' y0' y1' y2' y3' y4' y5' y6' y7' y8' z0' z1' z2' z3' z4' z5' z6' z7' z8'=>Af t p h xs a0 a1 a2 a3 a4 a5 a6 a7 a8 T k g b sv' sw' y0' y1' y2' y3' y4' y5' y6' y7' y8' z0' z1' z2' z3' z4' z5' z6' z7' z8' (SmallFrees t p h xs a0 a1 a2 a3 a4 a5 a6 a7 a8 T k g b)) (λsv' sw' y0' y1' y2' y3' y4' y5' y6' y7' y8' z0' z1' z2' z3' z4' z5' z6' z7' z8'=>Ag t p h xs a0 a1 a2 a3 a4 a5 a6 a7 a8 T k g b sv' sw' y0' y1' y2' y3' y4' y5' y6' y7' y8' z0' z1' z2' z3' z4' z5' z6' z7' z8' (SmallFrees t p h xs a0 a1 a2 a3 a4 a5 a6 a7 a8 T k g b)) (λsv' sw' y0' y1' y2' y3' y4' y5' y6' y7' y8' z0' z1' z2' z3' z4' z5' z6' z7' z8'=>Ah t p h xs a0 a1 a2 a3 a4 a5 a6 a7 a8 T k g b sv' sw' y0' y1' y2' y3' y4' y5' y6' y7' y8' z0' z1' z2' z3' z4' z5' z6' z7' z8' (SmallFrees t p h xs a0 a1 a2 a3 a4 a5 a6 a7 a8 T k g b)) (λsv' sw' y0' y1' y2' y3' y4' y5' y6' y7' y8' z0' z1' z2' z3' z4' z5' z6' z7' z8'=>Ai t p h xs a0 a1 a2 a3 a4 a5 a6 a7 a8 T k g b sv' sw' y0' y1' y2' y3' y4' y5' y6' y7' y8' z0' z1' z2' z3' z4' z5' z6' z7' z8' (SmallFrees t p h xs a0 a1 a2 a3 a4 a5 a6 a7 a8 T k g b)) (λr__=>r__=(SmallFrees t p h xs a0 a1 a2 a3 a4 a5 a6 a7 a8 T k g b)):=by
 unfold EO
 try unfold Aa
 try unfold Ac
 try unfold Ae
 try unfold Af
 try unfold Ag
 try unfold Ah
 try unfold Ai
 rintro r2 rfl
 refine ⟨hp0, λ_=>⟨λ_=>(by rintro r5 rfl;rfl), λhc=>?_⟩⟩
 have hf:l18_fit t p h xs a0 a1 a2 a3 a4 a5 a6 a7 a8 T k g b=true:=by simpa using hc
 have hlen:=good_len (sound_good (fit_all hf hp1).1.1 hp0)
 rintro r5 rfl
 refine ⟨hlen, λ_=>⟨hp0, λ_=>?_⟩⟩
 rintro r9 rfl
 exact ⟨hlen, λ_=>⟨hp0, λ_=>⟨hf,rfl,rfl,rfl⟩⟩⟩
theorem FP (t p h:Int) (xs a0 a1 a2 a3 a4 a5 a6 a7 a8:LI) (T k g b:Int) (hp0:bdAll xs) (hp1:slO a0.length a0∧slO a0.length a1∧slO a0.length a2∧slO a0.length a3∧slO a0.length a4∧slO a0.length a5∧slO a0.length a6∧slO a0.length a7∧slO a0.length a8) (hl0:xs.length≤9223372036854775807) (hl1:a0.length≤9223372036854775807) (sv sw:VS) {r_:Bool} (hI:Aa t p h xs a0 a1 a2 a3 a4 a5 a6 a7 a8 T k g b sv sw r_):Ee t p h xs a0 a1 a2 a3 a4 a5 a6 a7 a8 T k g b sv sw (λsv' sw'=>Aa t p h xs a0 a1 a2 a3 a4 a5 a6 a7 a8 T k g b sv' sw' r_∧lx (70,0,0) (70,0,0)) (λsv' sw' cn' y0' y1' y2' y3' y4' y5' y6' y7' y8'=>Ac t p h xs a0 a1 a2 a3 a4 a5 a6 a7 a8 T k g b sv' sw' cn' y0' y1' y2' y3' y4' y5' y6' y7' y8' r_∧lx (60,0,0) (70,0,0)) (λsv' sw' cn' y0' y1' y2' y3' y4' y5' y6' y7' y8' cm' z0' z1' z2' z3' z4' z5' z6' z7' z8'=>Ae t p h xs a0 a1 a2 a3 a4 a5 a6 a7 a8 T k g b sv' sw' cn' y0' y1' y2' y3' y4' y5' y6' y7' y8' cm' z0' z1' z2' z3' z4' z5' z6' z7' z8' r_∧lx (50,0,0) (70,0,0)) (λsv' sw' y0' y1' y2' y3' y4' y5' y6' y7' y8' z0' z1' z2' z3' z4' z5' z6' z7' z8'=>Af t p h xs a0 a1 a2 a3 a4 a5 a6 a7 a8 T k g b sv' sw' y0' y1' y2' y3' y4' y5' y6' y7' y8' z0' z1' z2' z3' z4' z5' z6' z7' z8' r_∧lx (40,0,0) (70,0,0)) (λsv' sw' y0' y1' y2' y3' y4' y5' y6' y7' y8' z0' z1' z2' z3' z4' z5' z6' z7' z8'=>Ag t p h xs a0 a1 a2 a3 a4 a5 a6 a7 a8 T k g b sv' sw' y0' y1' y2' y3' y4' y5' y6' y7' y8' z0' z1' z2' z3' z4' z5' z6' z7' z8' r_∧lx (30,0,0) (70,0,0)) (λsv' sw' y0' y1' y2' y3' y4' y5' y6' y7' y8' z0' z1' z2' z3' z4' z5' z6' z7' z8'=>Ah t p h xs a0 a1 a2 a3 a4 a5 a6 a7 a8 T k g b sv' sw' y0' y1' y2' y3' y4' y5' y6' y7' y8' z0' z1' z2' z3' z4' z5' z6' z7' z8' r_∧lx (20,0,0) (70,0,0)) (λsv' sw' y0' y1' y2' y3' y4' y5' y6' y7' y8' z0' z1' z2' z3' z4' z5' z6' z7' z8'=>Ai t p h xs a0 a1 a2 a3 a4 a5 a6 a7 a8 T k g b sv' sw' y0' y1' y2' y3' y4' y5' y6' y7' y8' z0' z1' z2' z3' z4' z5' z6' z7' z8' r_∧lx (10,0,0) (70,0,0)) (λr__=>r__=r_):=by
 unfold Aa at hI
 unfold Ee D7 BI Bq
 try unfold Aa
 try unfold Ac
 try unfold Ae
 try unfold Af
 try unfold Ag
 try unfold Ah
 try unfold Ai
 obtain ⟨hf,rfl,rfl,rfl⟩:=hI
 obtain ⟨⟨_,hp64⟩,hT,hB,_⟩:=fit_all hf hp1
 refine (λ(q:_)=>⟨⟨hT, λ_=>⟨⟨q,q⟩,q⟩⟩,hT, λ_=>q⟩) ?_
 rintro r rfl
 exact ⟨by omega, λ_=>⟨hB, λ_=>⟨⟨hf,rfl,rfl,rfl⟩,lxo_⟩⟩⟩
theorem FQ (t p h:Int) (xs a0 a1 a2 a3 a4 a5 a6 a7 a8:LI) (T k g b:Int) (hp0:bdAll xs) (hp1:slO a0.length a0∧slO a0.length a1∧slO a0.length a2∧slO a0.length a3∧slO a0.length a4∧slO a0.length a5∧slO a0.length a6∧slO a0.length a7∧slO a0.length a8) (hl0:xs.length≤9223372036854775807) (hl1:a0.length≤9223372036854775807) (sv sw:VS) (cn:Int) (y0 y1 y2 y3 y4 y5 y6 y7 y8:LI) {r_:Bool} (hI:Ac t p h xs a0 a1 a2 a3 a4 a5 a6 a7 a8 T k g b sv sw cn y0 y1 y2 y3 y4 y5 y6 y7 y8 r_):Ef t p h xs a0 a1 a2 a3 a4 a5 a6 a7 a8 T k g b sv sw cn y0 y1 y2 y3 y4 y5 y6 y7 y8 (λsv' sw'=>Aa t p h xs a0 a1 a2 a3 a4 a5 a6 a7 a8 T k g b sv' sw' r_∧lx (70,0,0) (60,0,0)) (λsv' sw' cn' y0' y1' y2' y3' y4' y5' y6' y7' y8'=>Ac t p h xs a0 a1 a2 a3 a4 a5 a6 a7 a8 T k g b sv' sw' cn' y0' y1' y2' y3' y4' y5' y6' y7' y8' r_∧lx (60,0,0) (60,0,0)) (λsv' sw' cn' y0' y1' y2' y3' y4' y5' y6' y7' y8' cm' z0' z1' z2' z3' z4' z5' z6' z7' z8'=>Ae t p h xs a0 a1 a2 a3 a4 a5 a6 a7 a8 T k g b sv' sw' cn' y0' y1' y2' y3' y4' y5' y6' y7' y8' cm' z0' z1' z2' z3' z4' z5' z6' z7' z8' r_∧lx (50,0,0) (60,0,0)) (λsv' sw' y0' y1' y2' y3' y4' y5' y6' y7' y8' z0' z1' z2' z3' z4' z5' z6' z7' z8'=>Af t p h xs a0 a1 a2 a3 a4 a5 a6 a7 a8 T k g b sv' sw' y0' y1' y2' y3' y4' y5' y6' y7' y8' z0' z1' z2' z3' z4' z5' z6' z7' z8' r_∧lx (40,0,0) (60,0,0)) (λsv' sw' y0' y1' y2' y3' y4' y5' y6' y7' y8' z0' z1' z2' z3' z4' z5' z6' z7' z8'=>Ag t p h xs a0 a1 a2 a3 a4 a5 a6 a7 a8 T k g b sv' sw' y0' y1' y2' y3' y4' y5' y6' y7' y8' z0' z1' z2' z3' z4' z5' z6' z7' z8' r_∧lx (30,0,0) (60,0,0)) (λsv' sw' y0' y1' y2' y3' y4' y5' y6' y7' y8' z0' z1' z2' z3' z4' z5' z6' z7' z8'=>Ah t p h xs a0 a1 a2 a3 a4 a5 a6 a7 a8 T k g b sv' sw' y0' y1' y2' y3' y4' y5' y6' y7' y8' z0' z1' z2' z3' z4' z5' z6' z7' z8' r_∧lx (20,0,0) (60,0,0)) (λsv' sw' y0' y1' y2' y3' y4' y5' y6' y7' y8' z0' z1' z2' z3' z4' z5' z6' z7' z8'=>Ai t p h xs a0 a1 a2 a3 a4 a5 a6 a7 a8 T k g b sv' sw' y0' y1' y2' y3' y4' y5' y6' y7' y8' z0' z1' z2' z3' z4' z5' z6' z7' z8' r_∧lx (10,0,0) (60,0,0)) (λr__=>r__=r_):=by
 unfold Ac at hI
 unfold Ef D8 BI Bq
 try unfold Aa
 try unfold Ac
 try unfold Ae
 try unfold Af
 try unfold Ag
 try unfold Ah
 try unfold Ai
 obtain ⟨hf,rfl,he,rfl⟩:=hI
 obtain ⟨⟨_,hp64⟩,hT,hB,_⟩:=fit_all hf hp1
 refine (λ(q:_)=>⟨⟨hT, λ_=>⟨⟨q,q⟩,q⟩⟩,hT, λ_=>q⟩) ?_
 rintro r rfl
 exact ⟨by omega, λ_=>⟨hB, λ_=>⟨⟨hf,he,rfl,rfl⟩,lxo_⟩⟩⟩
theorem FT (t p h:Int) (xs a0 a1 a2 a3 a4 a5 a6 a7 a8:LI) (T k g b:Int) (hp0:bdAll xs) (hp1:slO a0.length a0∧slO a0.length a1∧slO a0.length a2∧slO a0.length a3∧slO a0.length a4∧slO a0.length a5∧slO a0.length a6∧slO a0.length a7∧slO a0.length a8) (hl0:xs.length≤9223372036854775807) (hl1:a0.length≤9223372036854775807) (sv sw:VS) (cn:Int) (y0 y1 y2 y3 y4 y5 y6 y7 y8:LI) (cm:Int) (z0 z1 z2 z3 z4 z5 z6 z7 z8:LI) {r_:Bool} (hI:Ae t p h xs a0 a1 a2 a3 a4 a5 a6 a7 a8 T k g b sv sw cn y0 y1 y2 y3 y4 y5 y6 y7 y8 cm z0 z1 z2 z3 z4 z5 z6 z7 z8 r_):Eg t p h xs a0 a1 a2 a3 a4 a5 a6 a7 a8 T k g b sv sw cn y0 y1 y2 y3 y4 y5 y6 y7 y8 cm z0 z1 z2 z3 z4 z5 z6 z7 z8 (λsv' sw'=>Aa t p h xs a0 a1 a2 a3 a4 a5 a6 a7 a8 T k g b sv' sw' r_∧lx (70,0,0) (50,0,0)) (λsv' sw' cn' y0' y1' y2' y3' y4' y5' y6' y7' y8'=>Ac t p h xs a0 a1 a2 a3 a4 a5 a6 a7 a8 T k g b sv' sw' cn' y0' y1' y2' y3' y4' y5' y6' y7' y8' r_∧lx (60,0,0) (50,0,0)) (λsv' sw' cn' y0' y1' y2' y3' y4' y5' y6' y7' y8' cm' z0' z1' z2' z3' z4' z5' z6' z7' z8'=>Ae t p h xs a0 a1 a2 a3 a4 a5 a6 a7 a8 T k g b sv' sw' cn' y0' y1' y2' y3' y4' y5' y6' y7' y8' cm' z0' z1' z2' z3' z4' z5' z6' z7' z8' r_∧lx (50,0,0) (50,0,0)) (λsv' sw' y0' y1' y2' y3' y4' y5' y6' y7' y8' z0' z1' z2' z3' z4' z5' z6' z7' z8'=>Af t p h xs a0 a1 a2 a3 a4 a5 a6 a7 a8 T k g b sv' sw' y0' y1' y2' y3' y4' y5' y6' y7' y8' z0' z1' z2' z3' z4' z5' z6' z7' z8' r_∧lx (40,0,0) (50,0,0)) (λsv' sw' y0' y1' y2' y3' y4' y5' y6' y7' y8' z0' z1' z2' z3' z4' z5' z6' z7' z8'=>Ag t p h xs a0 a1 a2 a3 a4 a5 a6 a7 a8 T k g b sv' sw' y0' y1' y2' y3' y4' y5' y6' y7' y8' z0' z1' z2' z3' z4' z5' z6' z7' z8' r_∧lx (30,0,0) (50,0,0)) (λsv' sw' y0' y1' y2' y3' y4' y5' y6' y7' y8' z0' z1' z2' z3' z4' z5' z6' z7' z8'=>Ah t p h xs a0 a1 a2 a3 a4 a5 a6 a7 a8 T k g b sv' sw' y0' y1' y2' y3' y4' y5' y6' y7' y8' z0' z1' z2' z3' z4' z5' z6' z7' z8' r_∧lx (20,0,0) (50,0,0)) (λsv' sw' y0' y1' y2' y3' y4' y5' y6' y7' y8' z0' z1' z2' z3' z4' z5' z6' z7' z8'=>Ai t p h xs a0 a1 a2 a3 a4 a5 a6 a7 a8 T k g b sv' sw' y0' y1' y2' y3' y4' y5' y6' y7' y8' z0' z1' z2' z3' z4' z5' z6' z7' z8' r_∧lx (10,0,0) (50,0,0)) (λr__=>r__=r_):=by
 unfold Ae at hI
 unfold Eg
 try unfold Aa
 try unfold Ac
 try unfold Ae
 try unfold Af
 try unfold Ag
 try unfold Ah
 try unfold Ai
 obtain ⟨hf,he,he2,rfl⟩:=hI
 have he:(sv,cn,y0,y1,y2,y3,y4,y5,y6,y7,y8)=(sw,cm,z0,z1,z2,z3,z4,z5,z6,z7,z8):=he.trans he2.symm
 simp only [iU] at he
 obtain ⟨rfl,rfl,rfl,rfl,rfl,rfl,rfl,rfl,rfl,rfl,rfl⟩:=he
 refine ⟨λhd=>?_, λ_=>?_⟩
 ·exfalso;simp [r17_Same] at hd
 ·rintro r1 rfl r3 rfl
  refine ⟨λ_=>by simp [VS.puts], λ_=>⟨λhd=>?_, λ_=>⟨⟨hf,rfl⟩,lxo_⟩⟩⟩
  exfalso;simp at hd
theorem FU (t p h:Int) (xs a0 a1 a2 a3 a4 a5 a6 a7 a8:LI) (T k g b:Int) (hp0:bdAll xs) (hp1:slO a0.length a0∧slO a0.length a1∧slO a0.length a2∧slO a0.length a3∧slO a0.length a4∧slO a0.length a5∧slO a0.length a6∧slO a0.length a7∧slO a0.length a8) (hl0:xs.length≤9223372036854775807) (hl1:a0.length≤9223372036854775807) (sv sw:VS) (y0 y1 y2 y3 y4 y5 y6 y7 y8 z0 z1 z2 z3 z4 z5 z6 z7 z8:LI) {r_:Bool} (hI:Af t p h xs a0 a1 a2 a3 a4 a5 a6 a7 a8 T k g b sv sw y0 y1 y2 y3 y4 y5 y6 y7 y8 z0 z1 z2 z3 z4 z5 z6 z7 z8 r_):Eh t p h xs a0 a1 a2 a3 a4 a5 a6 a7 a8 T k g b sv sw y0 y1 y2 y3 y4 y5 y6 y7 y8 z0 z1 z2 z3 z4 z5 z6 z7 z8 (λsv' sw'=>Aa t p h xs a0 a1 a2 a3 a4 a5 a6 a7 a8 T k g b sv' sw' r_∧lx (70,0,0) (40,0,0)) (λsv' sw' cn' y0' y1' y2' y3' y4' y5' y6' y7' y8'=>Ac t p h xs a0 a1 a2 a3 a4 a5 a6 a7 a8 T k g b sv' sw' cn' y0' y1' y2' y3' y4' y5' y6' y7' y8' r_∧lx (60,0,0) (40,0,0)) (λsv' sw' cn' y0' y1' y2' y3' y4' y5' y6' y7' y8' cm' z0' z1' z2' z3' z4' z5' z6' z7' z8'=>Ae t p h xs a0 a1 a2 a3 a4 a5 a6 a7 a8 T k g b sv' sw' cn' y0' y1' y2' y3' y4' y5' y6' y7' y8' cm' z0' z1' z2' z3' z4' z5' z6' z7' z8' r_∧lx (50,0,0) (40,0,0)) (λsv' sw' y0' y1' y2' y3' y4' y5' y6' y7' y8' z0' z1' z2' z3' z4' z5' z6' z7' z8'=>Af t p h xs a0 a1 a2 a3 a4 a5 a6 a7 a8 T k g b sv' sw' y0' y1' y2' y3' y4' y5' y6' y7' y8' z0' z1' z2' z3' z4' z5' z6' z7' z8' r_∧lx (40,0,0) (40,0,0)) (λsv' sw' y0' y1' y2' y3' y4' y5' y6' y7' y8' z0' z1' z2' z3' z4' z5' z6' z7' z8'=>Ag t p h xs a0 a1 a2 a3 a4 a5 a6 a7 a8 T k g b sv' sw' y0' y1' y2' y3' y4' y5' y6' y7' y8' z0' z1' z2' z3' z4' z5' z6' z7' z8' r_∧lx (30,0,0) (40,0,0)) (λsv' sw' y0' y1' y2' y3' y4' y5' y6' y7' y8' z0' z1' z2' z3' z4' z5' z6' z7' z8'=>Ah t p h xs a0 a1 a2 a3 a4 a5 a6 a7 a8 T k g b sv' sw' y0' y1' y2' y3' y4' y5' y6' y7' y8' z0' z1' z2' z3' z4' z5' z6' z7' z8' r_∧lx (20,0,0) (40,0,0)) (λsv' sw' y0' y1' y2' y3' y4' y5' y6' y7' y8' z0' z1' z2' z3' z4' z5' z6' z7' z8'=>Ai t p h xs a0 a1 a2 a3 a4 a5 a6 a7 a8 T k g b sv' sw' y0' y1' y2' y3' y4' y5' y6' y7' y8' z0' z1' z2' z3' z4' z5' z6' z7' z8' r_∧lx (10,0,0) (40,0,0)) (λr__=>r__=r_):=by
 unfold Af at hI
 unfold Eh
 try unfold Aa
 try unfold Ac
 try unfold Ae
 try unfold Af
 try unfold Ag
 try unfold Ah
 try unfold Ai
 obtain ⟨hf,rfl⟩:=hI
 have hG:=sound_good (fit_all hf hp1).1.1 hp0
 have hlen:=good_len hG
 rintro r0 rfl
 refine ⟨hG, λ_=>⟨λ_=>(by rintro r3 rfl;rfl), λhc=>?_⟩⟩
 have hv:A7 t p h xs g b=true:=by simpa using hc
 rintro r3 rfl
 refine ⟨hlen, λ_=>⟨hp0, λ_=>?_⟩⟩
 rintro r7 rfl
 exact ⟨hlen, λ_=>⟨hp0, λ_=>⟨⟨hf,hv,rfl,rfl,rfl⟩,lxo_⟩⟩⟩
theorem FV (t p h:Int) (xs a0 a1 a2 a3 a4 a5 a6 a7 a8:LI) (T k g b:Int) (hp0:bdAll xs) (hp1:slO a0.length a0∧slO a0.length a1∧slO a0.length a2∧slO a0.length a3∧slO a0.length a4∧slO a0.length a5∧slO a0.length a6∧slO a0.length a7∧slO a0.length a8) (hl0:xs.length≤9223372036854775807) (hl1:a0.length≤9223372036854775807) (sv sw:VS) (y0 y1 y2 y3 y4 y5 y6 y7 y8 z0 z1 z2 z3 z4 z5 z6 z7 z8:LI) {r_:Bool} (hI:Ag t p h xs a0 a1 a2 a3 a4 a5 a6 a7 a8 T k g b sv sw y0 y1 y2 y3 y4 y5 y6 y7 y8 z0 z1 z2 z3 z4 z5 z6 z7 z8 r_):Ei t p h xs a0 a1 a2 a3 a4 a5 a6 a7 a8 T k g b sv sw y0 y1 y2 y3 y4 y5 y6 y7 y8 z0 z1 z2 z3 z4 z5 z6 z7 z8 (λsv' sw'=>Aa t p h xs a0 a1 a2 a3 a4 a5 a6 a7 a8 T k g b sv' sw' r_∧lx (70,0,0) (30,0,0)) (λsv' sw' cn' y0' y1' y2' y3' y4' y5' y6' y7' y8'=>Ac t p h xs a0 a1 a2 a3 a4 a5 a6 a7 a8 T k g b sv' sw' cn' y0' y1' y2' y3' y4' y5' y6' y7' y8' r_∧lx (60,0,0) (30,0,0)) (λsv' sw' cn' y0' y1' y2' y3' y4' y5' y6' y7' y8' cm' z0' z1' z2' z3' z4' z5' z6' z7' z8'=>Ae t p h xs a0 a1 a2 a3 a4 a5 a6 a7 a8 T k g b sv' sw' cn' y0' y1' y2' y3' y4' y5' y6' y7' y8' cm' z0' z1' z2' z3' z4' z5' z6' z7' z8' r_∧lx (50,0,0) (30,0,0)) (λsv' sw' y0' y1' y2' y3' y4' y5' y6' y7' y8' z0' z1' z2' z3' z4' z5' z6' z7' z8'=>Af t p h xs a0 a1 a2 a3 a4 a5 a6 a7 a8 T k g b sv' sw' y0' y1' y2' y3' y4' y5' y6' y7' y8' z0' z1' z2' z3' z4' z5' z6' z7' z8' r_∧lx (40,0,0) (30,0,0)) (λsv' sw' y0' y1' y2' y3' y4' y5' y6' y7' y8' z0' z1' z2' z3' z4' z5' z6' z7' z8'=>Ag t p h xs a0 a1 a2 a3 a4 a5 a6 a7 a8 T k g b sv' sw' y0' y1' y2' y3' y4' y5' y6' y7' y8' z0' z1' z2' z3' z4' z5' z6' z7' z8' r_∧lx (30,0,0) (30,0,0)) (λsv' sw' y0' y1' y2' y3' y4' y5' y6' y7' y8' z0' z1' z2' z3' z4' z5' z6' z7' z8'=>Ah t p h xs a0 a1 a2 a3 a4 a5 a6 a7 a8 T k g b sv' sw' y0' y1' y2' y3' y4' y5' y6' y7' y8' z0' z1' z2' z3' z4' z5' z6' z7' z8' r_∧lx (20,0,0) (30,0,0)) (λsv' sw' y0' y1' y2' y3' y4' y5' y6' y7' y8' z0' z1' z2' z3' z4' z5' z6' z7' z8'=>Ai t p h xs a0 a1 a2 a3 a4 a5 a6 a7 a8 T k g b sv' sw' y0' y1' y2' y3' y4' y5' y6' y7' y8' z0' z1' z2' z3' z4' z5' z6' z7' z8' r_∧lx (10,0,0) (30,0,0)) (λr__=>r__=r_):=by
 unfold Ag at hI
 unfold Ei BI Bq
 try unfold Aa
 try unfold Ac
 try unfold Ae
 try unfold Af
 try unfold Ag
 try unfold Ah
 try unfold Ai
 obtain ⟨hf,hv,rfl,rfl,rfl⟩:=hI
 obtain ⟨⟨_,hp64⟩,hT,hB,_⟩:=fit_all hf hp1
 have hg:0≤g:=(FN hv).1
 refine ⟨hT, λ_=>?_⟩
 rintro r rfl
 exact ⟨by omega, λ_=>⟨hB, λ_=>⟨hg, λ_=>⟨⟨hf,hv,rfl,rfl,rfl⟩,lxo_⟩⟩⟩⟩
theorem FW (t p h:Int) (xs a0 a1 a2 a3 a4 a5 a6 a7 a8:LI) (T k g b:Int) (hp0:bdAll xs) (hp1:slO a0.length a0∧slO a0.length a1∧slO a0.length a2∧slO a0.length a3∧slO a0.length a4∧slO a0.length a5∧slO a0.length a6∧slO a0.length a7∧slO a0.length a8) (hl0:xs.length≤9223372036854775807) (hl1:a0.length≤9223372036854775807) (sv sw:VS) (y0 y1 y2 y3 y4 y5 y6 y7 y8 z0 z1 z2 z3 z4 z5 z6 z7 z8:LI) {r_:Bool} (hI:Ah t p h xs a0 a1 a2 a3 a4 a5 a6 a7 a8 T k g b sv sw y0 y1 y2 y3 y4 y5 y6 y7 y8 z0 z1 z2 z3 z4 z5 z6 z7 z8 r_):Ej t p h xs a0 a1 a2 a3 a4 a5 a6 a7 a8 T k g b sv sw y0 y1 y2 y3 y4 y5 y6 y7 y8 z0 z1 z2 z3 z4 z5 z6 z7 z8 (λsv' sw'=>Aa t p h xs a0 a1 a2 a3 a4 a5 a6 a7 a8 T k g b sv' sw' r_∧lx (70,0,0) (20,0,0)) (λsv' sw' cn' y0' y1' y2' y3' y4' y5' y6' y7' y8'=>Ac t p h xs a0 a1 a2 a3 a4 a5 a6 a7 a8 T k g b sv' sw' cn' y0' y1' y2' y3' y4' y5' y6' y7' y8' r_∧lx (60,0,0) (20,0,0)) (λsv' sw' cn' y0' y1' y2' y3' y4' y5' y6' y7' y8' cm' z0' z1' z2' z3' z4' z5' z6' z7' z8'=>Ae t p h xs a0 a1 a2 a3 a4 a5 a6 a7 a8 T k g b sv' sw' cn' y0' y1' y2' y3' y4' y5' y6' y7' y8' cm' z0' z1' z2' z3' z4' z5' z6' z7' z8' r_∧lx (50,0,0) (20,0,0)) (λsv' sw' y0' y1' y2' y3' y4' y5' y6' y7' y8' z0' z1' z2' z3' z4' z5' z6' z7' z8'=>Af t p h xs a0 a1 a2 a3 a4 a5 a6 a7 a8 T k g b sv' sw' y0' y1' y2' y3' y4' y5' y6' y7' y8' z0' z1' z2' z3' z4' z5' z6' z7' z8' r_∧lx (40,0,0) (20,0,0)) (λsv' sw' y0' y1' y2' y3' y4' y5' y6' y7' y8' z0' z1' z2' z3' z4' z5' z6' z7' z8'=>Ag t p h xs a0 a1 a2 a3 a4 a5 a6 a7 a8 T k g b sv' sw' y0' y1' y2' y3' y4' y5' y6' y7' y8' z0' z1' z2' z3' z4' z5' z6' z7' z8' r_∧lx (30,0,0) (20,0,0)) (λsv' sw' y0' y1' y2' y3' y4' y5' y6' y7' y8' z0' z1' z2' z3' z4' z5' z6' z7' z8'=>Ah t p h xs a0 a1 a2 a3 a4 a5 a6 a7 a8 T k g b sv' sw' y0' y1' y2' y3' y4' y5' y6' y7' y8' z0' z1' z2' z3' z4' z5' z6' z7' z8' r_∧lx (20,0,0) (20,0,0)) (λsv' sw' y0' y1' y2' y3' y4' y5' y6' y7' y8' z0' z1' z2' z3' z4' z5' z6' z7' z8'=>Ai t p h xs a0 a1 a2 a3 a4 a5 a6 a7 a8 T k g b sv' sw' y0' y1' y2' y3' y4' y5' y6' y7' y8' z0' z1' z2' z3' z4' z5' z6' z7' z8' r_∧lx (10,0,0) (20,0,0)) (λr__=>r__=r_):=by
 unfold Ah at hI
 unfold Ej BI Bq
 try unfold Aa
 try unfold Ac
 try unfold Ae
 try unfold Af
 try unfold Ag
 try unfold Ah
 try unfold Ai
 obtain ⟨hf,hv,rfl,he,rfl⟩:=hI
 obtain ⟨⟨_,hp64⟩,hT,hB,_⟩:=fit_all hf hp1
 have hg:0≤g:=(FN hv).1
 refine ⟨hT, λ_=>?_⟩
 rintro r rfl
 exact ⟨by omega, λ_=>⟨hB, λ_=>⟨hg, λ_=>⟨⟨hf,hv,he,rfl,rfl⟩,lxo_⟩⟩⟩⟩
theorem FX (t p h:Int) (xs a0 a1 a2 a3 a4 a5 a6 a7 a8:LI) (T k g b:Int) (hp0:bdAll xs) (hp1:slO a0.length a0∧slO a0.length a1∧slO a0.length a2∧slO a0.length a3∧slO a0.length a4∧slO a0.length a5∧slO a0.length a6∧slO a0.length a7∧slO a0.length a8) (hl0:xs.length≤9223372036854775807) (hl1:a0.length≤9223372036854775807) (sv sw:VS) (y0 y1 y2 y3 y4 y5 y6 y7 y8 z0 z1 z2 z3 z4 z5 z6 z7 z8:LI) {r_:Bool} (hI:Ai t p h xs a0 a1 a2 a3 a4 a5 a6 a7 a8 T k g b sv sw y0 y1 y2 y3 y4 y5 y6 y7 y8 z0 z1 z2 z3 z4 z5 z6 z7 z8 r_):Em t p h xs a0 a1 a2 a3 a4 a5 a6 a7 a8 T k g b sv sw y0 y1 y2 y3 y4 y5 y6 y7 y8 z0 z1 z2 z3 z4 z5 z6 z7 z8 (λsv' sw'=>Aa t p h xs a0 a1 a2 a3 a4 a5 a6 a7 a8 T k g b sv' sw' r_∧lx (70,0,0) (10,0,0)) (λsv' sw' cn' y0' y1' y2' y3' y4' y5' y6' y7' y8'=>Ac t p h xs a0 a1 a2 a3 a4 a5 a6 a7 a8 T k g b sv' sw' cn' y0' y1' y2' y3' y4' y5' y6' y7' y8' r_∧lx (60,0,0) (10,0,0)) (λsv' sw' cn' y0' y1' y2' y3' y4' y5' y6' y7' y8' cm' z0' z1' z2' z3' z4' z5' z6' z7' z8'=>Ae t p h xs a0 a1 a2 a3 a4 a5 a6 a7 a8 T k g b sv' sw' cn' y0' y1' y2' y3' y4' y5' y6' y7' y8' cm' z0' z1' z2' z3' z4' z5' z6' z7' z8' r_∧lx (50,0,0) (10,0,0)) (λsv' sw' y0' y1' y2' y3' y4' y5' y6' y7' y8' z0' z1' z2' z3' z4' z5' z6' z7' z8'=>Af t p h xs a0 a1 a2 a3 a4 a5 a6 a7 a8 T k g b sv' sw' y0' y1' y2' y3' y4' y5' y6' y7' y8' z0' z1' z2' z3' z4' z5' z6' z7' z8' r_∧lx (40,0,0) (10,0,0)) (λsv' sw' y0' y1' y2' y3' y4' y5' y6' y7' y8' z0' z1' z2' z3' z4' z5' z6' z7' z8'=>Ag t p h xs a0 a1 a2 a3 a4 a5 a6 a7 a8 T k g b sv' sw' y0' y1' y2' y3' y4' y5' y6' y7' y8' z0' z1' z2' z3' z4' z5' z6' z7' z8' r_∧lx (30,0,0) (10,0,0)) (λsv' sw' y0' y1' y2' y3' y4' y5' y6' y7' y8' z0' z1' z2' z3' z4' z5' z6' z7' z8'=>Ah t p h xs a0 a1 a2 a3 a4 a5 a6 a7 a8 T k g b sv' sw' y0' y1' y2' y3' y4' y5' y6' y7' y8' z0' z1' z2' z3' z4' z5' z6' z7' z8' r_∧lx (20,0,0) (10,0,0)) (λsv' sw' y0' y1' y2' y3' y4' y5' y6' y7' y8' z0' z1' z2' z3' z4' z5' z6' z7' z8'=>Ai t p h xs a0 a1 a2 a3 a4 a5 a6 a7 a8 T k g b sv' sw' y0' y1' y2' y3' y4' y5' y6' y7' y8' z0' z1' z2' z3' z4' z5' z6' z7' z8' r_∧lx (10,0,0) (10,0,0)) (λr__=>r__=r_):=by
 unfold Ai at hI
 unfold Em
 try unfold Aa
 try unfold Ac
 try unfold Ae
 try unfold Af
 try unfold Ag
 try unfold Ah
 try unfold Ai
 obtain ⟨hf,hv,he,he2,rfl⟩:=hI
 have hb:=(FN hv).2
 have e0:small_Free (VS.whole xs) t p h (slR (a0.getD T.toNat 0)) (slR (a1.getD T.toNat 0)) (slR (a2.getD T.toNat 0)) (slR (a3.getD T.toNat 0)) (slR (a4.getD T.toNat 0)) (slR (a5.getD T.toNat 0)) (slR (a6.getD T.toNat 0)) (slR (a7.getD T.toNat 0)) (slR (a8.getD T.toNat 0)) g b=Bg (VS.whole xs) t p h (slR (a0.getD T.toNat 0)) (slR (a1.getD T.toNat 0)) (slR (a2.getD T.toNat 0)) (slR (a3.getD T.toNat 0)) (slR (a4.getD T.toNat 0)) (slR (a5.getD T.toNat 0)) (slR (a6.getD T.toNat 0)) (slR (a7.getD T.toNat 0)) (slR (a8.getD T.toNat 0)) g b:=by
  have c1:(decide (b<0)||decide (b≥32))=false:=by simp only [jI,decide_eq_false_iff_not];omega
  have c2:(decide (b<0)||decide (b>31))=false:=by simp only [jI,decide_eq_false_iff_not];omega
  unfold small_Free Bg
  rw [c1,c2]
 have he:(sv,y0,y1,y2,y3,y4,y5,y6,y7,y8)=(sw,z0,z1,z2,z3,z4,z5,z6,z7,z8):=he.trans (e0.trans he2.symm)
 simp only [iU] at he
 obtain ⟨rfl,rfl,rfl,rfl,rfl,rfl,rfl,rfl,rfl,rfl⟩:=he
 rintro r0 rfl
 refine ⟨λ_=>?_, λhd=>?_⟩
 ·rintro r1 rfl r3 rfl
  refine ⟨λ_=>by simp [VS.puts], λ_=>?_⟩
  show _=true
  simp
 ·exfalso;simp [r17_Same] at hd
theorem Ja:EOk 4 Jz:=
 ent_wp Dg T_l18_live_ok (I:=[1106900,1426900,6802000,24210000,110226900,437906900,1748626000,2999998]) Tryz.func4 mix (B:=bodyOf Tryz.f4) (by kernel_rfl) rfl (by kernel_rfl) 400
  λp0 t p h xs a0 a1 a2 a3 a4 a5 a6 a7 a8 T k g b hb hp=>have hl0:xs.length≤9223372036854775807:=hb.2.1;have hl1:a0.length≤9223372036854775807:=hb.2.2.1.1;have hp0:bdAll xs:=hp _ (.head _);have hp1:slO a0.length a0∧slO a0.length a1∧slO a0.length a2∧slO a0.length a3∧slO a0.length a4∧slO a0.length a5∧slO a0.length a6∧slO a0.length a7∧slO a0.length a8:=hp _ (.tail _ (.head _));⟨[Cb p0 t p h xs a0 a1 a2 a3 a4 a5 a6 a7 a8 T k g b,Cc p0 t p h xs a0 a1 a2 a3 a4 a5 a6 a7 a8 T k g b,Ce p0 t p h xs a0 a1 a2 a3 a4 a5 a6 a7 a8 T k g b,Ci p0 t p h xs a0 a1 a2 a3 a4 a5 a6 a7 a8 T k g b,Cj p0 t p h xs a0 a1 a2 a3 a4 a5 a6 a7 a8 T k g b,C9 p0 t p h xs a0 a1 a2 a3 a4 a5 a6 a7 a8 T k g b,CB p0 t p h xs a0 a1 a2 a3 a4 a5 a6 a7 a8 T k g b], λj=>iE [appC (Hd.kd (Cb p0 t p h xs a0 a1 a2 a3 a4 a5 a6 a7 a8 T k g b)) (λsv' sw'=>Aa t p h xs a0 a1 a2 a3 a4 a5 a6 a7 a8 T k g b sv' sw' (SmallFrees t p h xs a0 a1 a2 a3 a4 a5 a6 a7 a8 T k g b)),appC (Hd.kd (Cc p0 t p h xs a0 a1 a2 a3 a4 a5 a6 a7 a8 T k g b)) (λsv' sw' cn' y0' y1' y2' y3' y4' y5' y6' y7' y8'=>Ac t p h xs a0 a1 a2 a3 a4 a5 a6 a7 a8 T k g b sv' sw' cn' y0' y1' y2' y3' y4' y5' y6' y7' y8' (SmallFrees t p h xs a0 a1 a2 a3 a4 a5 a6 a7 a8 T k g b)),appC (Hd.kd (Ce p0 t p h xs a0 a1 a2 a3 a4 a5 a6 a7 a8 T k g b)) (λsv' sw' cn' y0' y1' y2' y3' y4' y5' y6' y7' y8' cm' z0' z1' z2' z3' z4' z5' z6' z7' z8'=>Ae t p h xs a0 a1 a2 a3 a4 a5 a6 a7 a8 T k g b sv' sw' cn' y0' y1' y2' y3' y4' y5' y6' y7' y8' cm' z0' z1' z2' z3' z4' z5' z6' z7' z8' (SmallFrees t p h xs a0 a1 a2 a3 a4 a5 a6 a7 a8 T k g b)),appC (Hd.kd (Ci p0 t p h xs a0 a1 a2 a3 a4 a5 a6 a7 a8 T k g b)) (λsv' sw' y0' y1' y2' y3' y4' y5' y6' y7' y8' z0' z1' z2' z3' z4' z5' z6' z7' z8'=>Af t p h xs a0 a1 a2 a3 a4 a5 a6 a7 a8 T k g b sv' sw' y0' y1' y2' y3' y4' y5' y6' y7' y8' z0' z1' z2' z3' z4' z5' z6' z7' z8' (SmallFrees t p h xs a0 a1 a2 a3 a4 a5 a6 a7 a8 T k g b)),appC (Hd.kd (Cj p0 t p h xs a0 a1 a2 a3 a4 a5 a6 a7 a8 T k g b)) (λsv' sw' y0' y1' y2' y3' y4' y5' y6' y7' y8' z0' z1' z2' z3' z4' z5' z6' z7' z8'=>Ag t p h xs a0 a1 a2 a3 a4 a5 a6 a7 a8 T k g b sv' sw' y0' y1' y2' y3' y4' y5' y6' y7' y8' z0' z1' z2' z3' z4' z5' z6' z7' z8' (SmallFrees t p h xs a0 a1 a2 a3 a4 a5 a6 a7 a8 T k g b)),appC (Hd.kd (C9 p0 t p h xs a0 a1 a2 a3 a4 a5 a6 a7 a8 T k g b)) (λsv' sw' y0' y1' y2' y3' y4' y5' y6' y7' y8' z0' z1' z2' z3' z4' z5' z6' z7' z8'=>Ah t p h xs a0 a1 a2 a3 a4 a5 a6 a7 a8 T k g b sv' sw' y0' y1' y2' y3' y4' y5' y6' y7' y8' z0' z1' z2' z3' z4' z5' z6' z7' z8' (SmallFrees t p h xs a0 a1 a2 a3 a4 a5 a6 a7 a8 T k g b)),appC (Hd.kd (CB p0 t p h xs a0 a1 a2 a3 a4 a5 a6 a7 a8 T k g b)) (λsv' sw' y0' y1' y2' y3' y4' y5' y6' y7' y8' z0' z1' z2' z3' z4' z5' z6' z7' z8'=>Ai t p h xs a0 a1 a2 a3 a4 a5 a6 a7 a8 T k g b sv' sw' y0' y1' y2' y3' y4' y5' y6' y7' y8' z0' z1' z2' z3' z4' z5' z6' z7' z8' (SmallFrees t p h xs a0 a1 a2 a3 a4 a5 a6 a7 a8 T k g b))] j (λ_=>False), λj=>iE [appC (Hd.kd (Cb p0 t p h xs a0 a1 a2 a3 a4 a5 a6 a7 a8 T k g b)) (λsv' sw'=>(70,0,0)),appC (Hd.kd (Cc p0 t p h xs a0 a1 a2 a3 a4 a5 a6 a7 a8 T k g b)) (λsv' sw' cn' y0' y1' y2' y3' y4' y5' y6' y7' y8'=>(60,0,0)),appC (Hd.kd (Ce p0 t p h xs a0 a1 a2 a3 a4 a5 a6 a7 a8 T k g b)) (λsv' sw' cn' y0' y1' y2' y3' y4' y5' y6' y7' y8' cm' z0' z1' z2' z3' z4' z5' z6' z7' z8'=>(50,0,0)),appC (Hd.kd (Ci p0 t p h xs a0 a1 a2 a3 a4 a5 a6 a7 a8 T k g b)) (λsv' sw' y0' y1' y2' y3' y4' y5' y6' y7' y8' z0' z1' z2' z3' z4' z5' z6' z7' z8'=>(40,0,0)),appC (Hd.kd (Cj p0 t p h xs a0 a1 a2 a3 a4 a5 a6 a7 a8 T k g b)) (λsv' sw' y0' y1' y2' y3' y4' y5' y6' y7' y8' z0' z1' z2' z3' z4' z5' z6' z7' z8'=>(30,0,0)),appC (Hd.kd (C9 p0 t p h xs a0 a1 a2 a3 a4 a5 a6 a7 a8 T k g b)) (λsv' sw' y0' y1' y2' y3' y4' y5' y6' y7' y8' z0' z1' z2' z3' z4' z5' z6' z7' z8'=>(20,0,0)),appC (Hd.kd (CB p0 t p h xs a0 a1 a2 a3 a4 a5 a6 a7 a8 T k g b)) (λsv' sw' y0' y1' y2' y3' y4' y5' y6' y7' y8' z0' z1' z2' z3' z4' z5' z6' z7' z8'=>(10,0,0))] j (λ_=>(0,0,0)),by kernel_rfl,⟨_, λ_ _ _=>by kernel_rfl,FO t p h xs a0 a1 a2 a3 a4 a5 a6 a7 a8 T k g b hp0 hp1 hl0 hl1⟩,⟨λsv sw hI=>⟨_, λ_ _ _=>by kernel_rfl,FP t p h xs a0 a1 a2 a3 a4 a5 a6 a7 a8 T k g b hp0 hp1 hl0 hl1 sv sw hI⟩,⟨λsv sw cn y0 y1 y2 y3 y4 y5 y6 y7 y8 hI=>⟨_, λ_ _ _=>by kernel_rfl,FQ t p h xs a0 a1 a2 a3 a4 a5 a6 a7 a8 T k g b hp0 hp1 hl0 hl1 sv sw cn y0 y1 y2 y3 y4 y5 y6 y7 y8 hI⟩,⟨λsv sw cn y0 y1 y2 y3 y4 y5 y6 y7 y8 cm z0 z1 z2 z3 z4 z5 z6 z7 z8 hI=>⟨_, λ_ _ _=>by kernel_rfl,FT t p h xs a0 a1 a2 a3 a4 a5 a6 a7 a8 T k g b hp0 hp1 hl0 hl1 sv sw cn y0 y1 y2 y3 y4 y5 y6 y7 y8 cm z0 z1 z2 z3 z4 z5 z6 z7 z8 hI⟩,⟨λsv sw y0 y1 y2 y3 y4 y5 y6 y7 y8 z0 z1 z2 z3 z4 z5 z6 z7 z8 hI=>⟨_, λ_ _ _=>by kernel_rfl,FU t p h xs a0 a1 a2 a3 a4 a5 a6 a7 a8 T k g b hp0 hp1 hl0 hl1 sv sw y0 y1 y2 y3 y4 y5 y6 y7 y8 z0 z1 z2 z3 z4 z5 z6 z7 z8 hI⟩,⟨λsv sw y0 y1 y2 y3 y4 y5 y6 y7 y8 z0 z1 z2 z3 z4 z5 z6 z7 z8 hI=>⟨_, λ_ _ _=>by kernel_rfl,FV t p h xs a0 a1 a2 a3 a4 a5 a6 a7 a8 T k g b hp0 hp1 hl0 hl1 sv sw y0 y1 y2 y3 y4 y5 y6 y7 y8 z0 z1 z2 z3 z4 z5 z6 z7 z8 hI⟩,⟨λsv sw y0 y1 y2 y3 y4 y5 y6 y7 y8 z0 z1 z2 z3 z4 z5 z6 z7 z8 hI=>⟨_, λ_ _ _=>by kernel_rfl,FW t p h xs a0 a1 a2 a3 a4 a5 a6 a7 a8 T k g b hp0 hp1 hl0 hl1 sv sw y0 y1 y2 y3 y4 y5 y6 y7 y8 z0 z1 z2 z3 z4 z5 z6 z7 z8 hI⟩,⟨λsv sw y0 y1 y2 y3 y4 y5 y6 y7 y8 z0 z1 z2 z3 z4 z5 z6 z7 z8 hI=>⟨_, λ_ _ _=>by kernel_rfl,FX t p h xs a0 a1 a2 a3 a4 a5 a6 a7 a8 T k g b hp0 hp1 hl0 hl1 sv sw y0 y1 y2 y3 y4 y5 y6 y7 y8 z0 z1 z2 z3 z4 z5 z6 z7 z8 hI⟩,trivial⟩⟩⟩⟩⟩⟩⟩⟩
theorem FY (t p h:Int) (xs a0 a1 a2 a3 a4 a5 a6 a7 a8:LI) (T k g b:Int) (a_0:Option Addr) (c_0:Nat) (a_1:Option Addr) (c_1:Nat) {E_:Ev} {G_:Hp} {w_:World} (hr0:RowAt G_ a_0 xs.length [.ints .u32 xs]∧xs.length≤c_0) (hr1:(RowAt G_ a_1 a0.length [.sls a0, .sls a1, .sls a2, .sls a3, .sls a4, .sls a5, .sls a6, .sls a7, .sls a8]∧a0.length≤c_1)∧RowAt E_.z a_1 a0.length [.sls a0, .sls a1, .sls a2, .sls a3, .sls a4, .sls a5, .sls a6, .sls a7, .sls a8]∧subs E_.z a0.length [.sls a0, .sls a1, .sls a2, .sls a3, .sls a4, .sls a5, .sls a6, .sls a7, .sls a8]) (hp0:bdAll xs) (hp1:slO a0.length a0∧slO a0.length a1∧slO a0.length a2∧slO a0.length a3∧slO a0.length a4∧slO a0.length a5∧slO a0.length a6∧slO a0.length a7∧slO a0.length a8) (hS:Sat E_ G_ w_ []):Calls Tryz.prog 4 #[(.agg #[.int .i64 t, .int .i64 p, .int .i64 h]),(.slice a_0 xs.length c_0),(.agg #[.slice a_1 a0.length c_1, .int .i64 T, .int .i64 k, .int .i64 g, .int .i64 b])] w_ (λen w'=>en= .returned (.bool (SmallFrees t p h xs a0 a1 a2 a3 a4 a5 a6 a7 a8 T k g b))∧Sat E_ G_ w' []):=by
 refine law_of Dg (c:=EN) (F:=SmallFrees) (pre:= λt p h xs a0 a1 a2 a3 a4 a5 a6 a7 a8 T k g b=>[bdAll xs,slO a0.length a0∧slO a0.length a1∧slO a0.length a2∧slO a0.length a3∧slO a0.length a4∧slO a0.length a5∧slO a0.length a6∧slO a0.length a7∧slO a0.length a8]) Ja [((.agg #[.int .i64 t, .int .i64 p, .int .i64 h]),(.none)),((.slice a_0 xs.length c_0),(.row xs.length [.ints .u32 xs])),((.agg #[.slice a_1 a0.length c_1, .int .i64 T, .int .i64 k, .int .i64 g, .int .i64 b]),(.many [.row a0.length [.sls a0, .sls a1, .sls a2, .sls a3, .sls a4, .sls a5, .sls a6, .sls a7, .sls a8], .none, .none, .none, .none]))] [.i t, .i p, .i h, .li xs, .li a0, .li a1, .li a2, .li a3, .li a4, .li a5, .li a6, .li a7, .li a8, .i T, .i k, .i g, .i b] (by kernel_rfl) _ (by kernel_rfl) (by kernel_rfl) (by kernel_rfl) ?_ ?_ hS
 ·intro p hp
  have hp:p∈[(bdAll xs:Prop),(slO a0.length a0∧slO a0.length a1∧slO a0.length a2∧slO a0.length a3∧slO a0.length a4∧slO a0.length a5∧slO a0.length a6∧slO a0.length a7∧slO a0.length a8:Prop)]:=hp
  simp only [iN,List.not_mem_nil,or_false] at hp
  rcases hp with rfl|rfl
  ·exact hp0
  ·exact hp1
 ·intro x hx
  simp only [iN,List.not_mem_nil,or_false] at hx
  rcases hx with rfl|rfl|rfl
  ·first|(simp only [iOk,isOk,and_true,true_and];done)|(simp only [iOk,isOk,and_true,true_and];exact ⟨_,_,rfl,trivial⟩)|simp [iOk,isOk]
  ·first|(simp only [iOk,isOk,and_true,true_and];done)|(simp only [iOk,isOk,and_true,true_and];exact ⟨_,_,rfl,hr0.1,hr0.2, λh=>by cases h⟩)|simp [iOk,isOk]
  ·first|(simp only [iOk,isOk,and_true,true_and];done)|(simp only [iOk,isOk,and_true,true_and];exact ⟨_,_,rfl,hr1.1.1,hr1.1.2, λ_=>hr1.2⟩)|simp [iOk,isOk]
end
section
open Go.ChangeShapes Go.WideShapes Go.ChangeAt Go.RowKit Go.Joins Go.Sl
theorem Io:ownKnob Tryz.prog.godebug=none:=by kernel_rfl
theorem EP:laidOutB Tryz.prog=true:=by kernel_rfl
set_option maxRecDepth 100000 in
theorem ES (os:Os) (started:os.Started) (H:Type) (enc:TypeId×Value→H):
 ReturnsInHanded {} Tryz.checked os 4 .any (Rows.smallFreesSpec.pre6 enc Tryz.prog Tryz.f4 Rows.smallFreesRow.domain false) (Rows.smallFreesSpec.post enc Tryz.prog Tryz.f4 false true false false):=by
 refine returnsInHanded_of_change (C:=Tryz.checked) Io started (by kernel_rfl) Tryz.func4
  (ChangeSpec.witness6 (enc:=enc) (C:=Tryz.checked) false ⟨#[], #[.agg #[.int .i64 0, .int .i64 0, .int .i64 0], .slice none 0 0, .agg #[.slice none 0 0, .int .i64 0, .int .i64 0, .int .i64 0, .int .i64 0]],[]⟩ 8 (by kernel_rfl) (by kernel_rfl) (by kernel_rfl) (by kernel_rfl)) ?_
 intro W base args ds gs before hval0 hW _ _
 have hval:∀(j:Nat) t v,Tryz.f4.params[j]? =some t→args[j]? =some v→Value.okWide Tryz.prog W .any base t v:=hval0
 have hW':=hW
 obtain ⟨p,q,hA0,_,_,_,_⟩:=hW
 have hA:DataW.TrodAll enc Tryz.prog W 0 (λ_=>true) true Tryz.f4.params.toList args.toList ds p:=hA0
 rw [Tryz.params4] at hA hval
 obtain ⟨v0,v1,v2,d0,d1,d2,p0,p1,p2,rfl,rfl,_,h0,h1,h2⟩:=trodAll_three hA
 obtain ⟨k0,rfl,hk0⟩:=open_flat 8 (by kernel_rfl) (sh:=[.int .i64, .int .i64, .int .i64]) (by kernel_rfl) (hval 0 23 v0 rfl rfl) h0
 obtain ⟨_,r0_0,rfl,⟨a0_0,rfl,wa0_0⟩,hk0⟩:=hk0
 have ba0_0:=bd_i64 wa0_0
 obtain ⟨_,r0_1,rfl,⟨a0_1,rfl,wa0_1⟩,hk0⟩:=hk0
 have ba0_1:=bd_i64 wa0_1
 obtain ⟨_,r0_2,rfl,⟨a0_2,rfl,wa0_2⟩,hk0⟩:=hk0
 have ba0_2:=bd_i64 wa0_2
 obtain rfl:=hk0
 obtain ⟨s1,n1,c1,k1,rfl,hk1,hr1⟩:=open_rows 8 Tryz.underlying24 (sh:=[.int .u32]) (by kernel_rfl) (by kernel_rfl) (hval 1 24 v1 rfl rfl) h1
 obtain ⟨_,r1_0,rfl,⟨x1_0,rfl,hl1_0,hw1_0⟩,hk1⟩:=hk1
 obtain rfl:=hk1
 subst hl1_0
 obtain ⟨s2,n2,c2,F,y1,y2,y3,y4,rfl,⟨wy1,wy2,wy3,wy4⟩,hl,hr2,hsb,hbd⟩:=open_ask (tI:=3) Tryz.underlying27 rfl ⟨rfl,rfl⟩ ⟨rfl,rfl⟩ ⟨rfl,rfl⟩ ⟨rfl,rfl⟩ ⟨rfl,rfl⟩ (by kernel_rfl) (by kernel_rfl) (by kernel_rfl) Tryz.underlying3 Tryz.underlying25 Tryz.underlying36 Tryz.underlying34 Tryz.underlying2 (by kernel_rfl) (by kernel_rfl) (by kernel_rfl) (hval 2 27 v2 rfl rfl) h2
 obtain rfl:=hl 0
 clear hA0 hval0
 refine (FY a0_0 a0_1 a0_2 x1_0 (F 0) (F 1) (F 2) (F 3) (F 4) (F 5) (F 6) (F 7) (F 8) y1 y2 y3 y4 s1 c1 s2 c2 hr1 ⟨hr2,hr2.1,hsb⟩ (λv hv=>bd_u32 (hw1_0 v hv)) ⟨λi hi=>hbd 0 i (by decide) hi, λi hi=>hbd 1 i (by decide) hi, λi hi=>hbd 2 i (by decide) hi, λi hi=>hbd 3 i (by decide) hi, λi hi=>hbd 4 i (by decide) hi, λi hi=>hbd 5 i (by decide) hi, λi hi=>hbd 6 i (by decide) hi, λi hi=>hbd 7 i (by decide) hi, λi hi=>hbd 8 i (by decide) hi⟩ (Sat.start W)).mono λe W' ⟨he,hS⟩=>?_
 rw [show SmallFrees a0_0 a0_1 a0_2 x1_0 (F 0) (F 1) (F 2) (F 3) (F 4) (F 5) (F 6) (F 7) (F 8) y1 y2 y3 y4=true from rfl] at he
 subst he
 exact ⟨_,rfl,law_post 4 EP hW' rfl rfl Tryz.underlying4 (by kernel_rfl) ⟨rfl,rfl,rfl⟩ hS.below⟩
theorem SmallFrees_holds:Rows.SmallFreesSaid:=
 OpenClaim.holds_of_wide 4 Tryz.f4 rfl rfl rfl rfl rfl rfl rfl ⟨rfl,rfl,rfl,rfl,rfl⟩ rfl rfl rfl rfl rfl (by kernel_rfl) Tryz.func4 (by kernel_rfl)
  (of_decide_eq_true (by kernel_rfl)) (by unfold Func.isWrapper;rw [if_neg (of_decide_eq_false (by kernel_rfl))];exact ⟨rfl,rfl⟩)
  (λos started H enc _=>ES os started H enc)
#print axioms SmallFrees_holds
end
end Go.Proofs.YtjfabjhlkpgckaaGreat
