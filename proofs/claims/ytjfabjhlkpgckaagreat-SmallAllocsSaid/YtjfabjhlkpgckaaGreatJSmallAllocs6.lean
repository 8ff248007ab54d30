/-
  Which block of every class is allocated of every heap, what the pockets are then, and all that is read and written for it: the law's function answers true for every configuration, values and ask. Conditions: none.
-/
import Derived.Test.YtjfabjhlkpgckaaGreatJSmallAllocs5
import Derived.Test.YtjfabjhlkpgckaaGreatRows
set_option linter.unusedSimpArgs false
set_option linter.unusedVariables false
namespace Go.Proofs.YtjfabjhlkpgckaaGreat
open Go.Sl
theorem good_len {c:Cf} {xs:LI} (h:AGood c xs):xs.length≤1000000:=by
 have h1:=Cf.ok_iff.1 h.ok
 have h2:=h.len
 rw [show c.cells=30+4*c.t+6*c.p by unfold Cf.cells;rw [h.ok];rfl] at h2
 omega
def r12_Parts (t p h:Int) (xs:LI):LI×LI×LI:=bif soundA ⟨t,p,h⟩ xs then ((partsL ⟨t,p,h⟩ xs).map (·.k),(partsL ⟨t,p,h⟩ xs).map (·.a),(partsL ⟨t,p,h⟩ xs).map (·.s)) else ([],[],[])
abbrev c_r12_Parts:Ct Sg:=⟨none,false,[.agg [.i .i64, .i .i64, .i .i64], .ro [some .u32]], .new 115 [some .i64,some .i64,some .i64]⟩
def e_r12_Parts:Entry Sg:=entC c_r12_Parts r12_Parts (fun t p h xs=>[bdAll xs])
def r12_Parts_w (t p h:Int) (xs:LI) (R_:LI×LI×LI→Prop):Prop:=(∀r1:Bool,r1=(r12_Sound t p h xs)→(aw_ (bdAll xs) (bw_ (!r1) (R_ (([],[],[]))) (∀r5:LI×LI×LI,r5=(x_parts t p h xs)→(aw_ (AGood {t:=t,p:=p,s:=h} xs) (R_ ((r5.1,r5.2.1,r5.2.2))))))))
theorem r12_Parts_begin (t p h:Int) (xs:LI) (hp0:bdAll xs) (hl0:xs.length≤9223372036854775807):r12_Parts_w t p h xs (fun r__=>r__=(r12_Parts t p h xs)):=by
 unfold r12_Parts_w
 have hS:soundA ⟨t,p,h⟩ xs=r12_Sound t p h xs:=rfl
 rintro r rfl
 refine ⟨hp0,fun _=>⟨fun h1=>?_,fun h1=>?_⟩⟩
 ·show _=r12_Parts t p h xs
  rw [←hS] at h1
  rw [r12_Parts,(Bool.not_eq_true' _).mp h1];rfl
 ·rintro r rfl
  rw [←hS] at h1
  have hs:=(Bool.not_eq_false' _).mp h1
  refine ⟨sound_good hs hp0,fun _=>?_⟩
  show _=r12_Parts t p h xs
  rw [r12_Parts,hs];rfl
theorem r12_Parts_ok:EOk 64 e_r12_Parts:=
 ent_w0 Dg T_small_Alloc_ok (I:=[2999998]) Tryz.func64 mix (B:=bodyOf Tryz.f64) (by kernel_rfl) rfl (by kernel_rfl) 400
  fun _ t p h xs hb hp=>⟨_,fun _ _ _=>by kernel_rfl,r12_Parts_begin t p h xs (hp _ (.head _)) (hb.2.1)⟩
def T_r12_Parts:Tb:=(64,e_r12_Parts)::T_small_Alloc
theorem T_r12_Parts_ok:TOk T_r12_Parts:=tc_ r12_Parts_ok T_small_Alloc_ok
def r17_All (a0 a1 a2 a3 a4 a5 a6 a7 a8:LI) (k:Int):LI:=allL (pkGet k a0 a1 a2 a3 a4 a5 a6 a7 a8) a0.length
abbrev c_r17_All:Ct Sg:=⟨none,false,[.ro [some .i16,some .i16,some .i16,some .i16,some .i16,some .i16,some .i16,some .i16,some .i16], .i .i64], .new 2 [some .i64]⟩
def e_r17_All:Entry Sg:=entC c_r17_All r17_All (fun a0 a1 a2 a3 a4 a5 a6 a7 a8 k=>[(0≤k∧k≤8)∧a0.length≤1000∧lenB (pkGet k a0 a1 a2 a3 a4 a5 a6 a7 a8) a0.length=true])
def r17_All_w (a0 a1 a2 a3 a4 a5 a6 a7 a8:LI) (k:Int) (Q0:Int→Nat→LI→Int→Prop) (R_:LI→Prop):Prop:=(Q0 (k) (0) ([]) (0))
def r17_All_w0_0 (a0 a1 a2 a3 a4 a5 a6 a7 a8:LI) (k:Int) (n1:Nat) (ys:LI) (i:Int) (Q0:Int→Nat→LI→Int→Prop) (R_:LI→Prop):Prop:=(bw_ (decide (i<(↑(lenC [Col.sls a0,Col.sls a1,Col.sls a2,Col.sls a3,Col.sls a4,Col.sls a5,Col.sls a6,Col.sls a7,Col.sls a8]):Int))) (aw_ (0≤i∧i<(↑(lenC [Col.sls a0,Col.sls a1,Col.sls a2,Col.sls a3,Col.sls a4,Col.sls a5,Col.sls a6,Col.sls a7,Col.sls a8]):Int)) (aw_ ((0:Int)≤0∧(0:Int)<9) (aw_ ((n1+List.length (slR (List.getD a0 (Int.toNat i) 0)))*8≤140737488355328) (Q0 (0) (n1+List.length (slR (List.getD a0 (Int.toNat i) 0))) (ys++slR (List.getD a0 (Int.toNat i) 0)) (IntKind.wrap IntKind.i64 (i+1)))))) (R_ (ys)))
def r17_All_w0_1 (a0 a1 a2 a3 a4 a5 a6 a7 a8:LI) (k:Int) (n1:Nat) (ys:LI) (i:Int) (Q0:Int→Nat→LI→Int→Prop) (R_:LI→Prop):Prop:=(bw_ (decide (i<(↑(lenC [Col.sls a0,Col.sls a1,Col.sls a2,Col.sls a3,Col.sls a4,Col.sls a5,Col.sls a6,Col.sls a7,Col.sls a8]):Int))) (aw_ (0≤i∧i<(↑(lenC [Col.sls a0,Col.sls a1,Col.sls a2,Col.sls a3,Col.sls a4,Col.sls a5,Col.sls a6,Col.sls a7,Col.sls a8]):Int)) (aw_ ((0:Int)≤1∧(1:Int)<9) (aw_ ((n1+List.length (slR (List.getD a1 (Int.toNat i) 0)))*8≤140737488355328) (Q0 (1) (n1+List.length (slR (List.getD a1 (Int.toNat i) 0))) (ys++slR (List.getD a1 (Int.toNat i) 0)) (IntKind.wrap IntKind.i64 (i+1)))))) (R_ (ys)))
def r17_All_w0_2 (a0 a1 a2 a3 a4 a5 a6 a7 a8:LI) (k:Int) (n1:Nat) (ys:LI) (i:Int) (Q0:Int→Nat→LI→Int→Prop) (R_:LI→Prop):Prop:=(bw_ (decide (i<(↑(lenC [Col.sls a0,Col.sls a1,Col.sls a2,Col.sls a3,Col.sls a4,Col.sls a5,Col.sls a6,Col.sls a7,Col.sls a8]):Int))) (aw_ (0≤i∧i<(↑(lenC [Col.sls a0,Col.sls a1,Col.sls a2,Col.sls a3,Col.sls a4,Col.sls a5,Col.sls a6,Col.sls a7,Col.sls a8]):Int)) (aw_ ((0:Int)≤2∧(2:Int)<9) (aw_ ((n1+List.length (slR (List.getD a2 (Int.toNat i) 0)))*8≤140737488355328) (Q0 (2) (n1+List.length (slR (List.getD a2 (Int.toNat i) 0))) (ys++slR (List.getD a2 (Int.toNat i) 0)) (IntKind.wrap IntKind.i64 (i+1)))))) (R_ (ys)))
def r17_All_w0_3 (a0 a1 a2 a3 a4 a5 a6 a7 a8:LI) (k:Int) (n1:Nat) (ys:LI) (i:Int) (Q0:Int→Nat→LI→Int→Prop) (R_:LI→Prop):Prop:=(bw_ (decide (i<(↑(lenC [Col.sls a0,Col.sls a1,Col.sls a2,Col.sls a3,Col.sls a4,Col.sls a5,Col.sls a6,Col.sls a7,Col.sls a8]):Int))) (aw_ (0≤i∧i<(↑(lenC [Col.sls a0,Col.sls a1,Col.sls a2,Col.sls a3,Col.sls a4,Col.sls a5,Col.sls a6,Col.sls a7,Col.sls a8]):Int)) (aw_ ((0:Int)≤3∧(3:Int)<9) (aw_ ((n1+List.length (slR (List.getD a3 (Int.toNat i) 0)))*8≤140737488355328) (Q0 (3) (n1+List.length (slR (List.getD a3 (Int.toNat i) 0))) (ys++slR (List.getD a3 (Int.toNat i) 0)) (IntKind.wrap IntKind.i64 (i+1)))))) (R_ (ys)))
def r17_All_w0_4 (a0 a1 a2 a3 a4 a5 a6 a7 a8:LI) (k:Int) (n1:Nat) (ys:LI) (i:Int) (Q0:Int→Nat→LI→Int→Prop) (R_:LI→Prop):Prop:=(bw_ (decide (i<(↑(lenC [Col.sls a0,Col.sls a1,Col.sls a2,Col.sls a3,Col.sls a4,Col.sls a5,Col.sls a6,Col.sls a7,Col.sls a8]):Int))) (aw_ (0≤i∧i<(↑(lenC [Col.sls a0,Col.sls a1,Col.sls a2,Col.sls a3,Col.sls a4,Col.sls a5,Col.sls a6,Col.sls a7,Col.sls a8]):Int)) (aw_ ((0:Int)≤4∧(4:Int)<9) (aw_ ((n1+List.length (slR (List.getD a4 (Int.toNat i) 0)))*8≤140737488355328) (Q0 (4) (n1+List.length (slR (List.getD a4 (Int.toNat i) 0))) (ys++slR (List.getD a4 (Int.toNat i) 0)) (IntKind.wrap IntKind.i64 (i+1)))))) (R_ (ys)))
def r17_All_w0_5 (a0 a1 a2 a3 a4 a5 a6 a7 a8:LI) (k:Int) (n1:Nat) (ys:LI) (i:Int) (Q0:Int→Nat→LI→Int→Prop) (R_:LI→Prop):Prop:=(bw_ (decide (i<(↑(lenC [Col.sls a0,Col.sls a1,Col.sls a2,Col.sls a3,Col.sls a4,Col.sls a5,Col.sls a6,Col.sls a7,Col.sls a8]):Int))) (aw_ (0≤i∧i<(↑(lenC [Col.sls a0,Col.sls a1,Col.sls a2,Col.sls a3,Col.sls a4,Col.sls a5,Col.sls a6,Col.sls a7,Col.sls a8]):Int)) (aw_ ((0:Int)≤5∧(5:Int)<9) (aw_ ((n1+List.length (slR (List.getD a5 (Int.toNat i) 0)))*8≤140737488355328) (Q0 (5) (n1+List.length (slR (List.getD a5 (Int.toNat i) 0))) (ys++slR (List.getD a5 (Int.toNat i) 0)) (IntKind.wrap IntKind.i64 (i+1)))))) (R_ (ys)))
def r17_All_w0_6 (a0 a1 a2 a3 a4 a5 a6 a7 a8:LI) (k:Int) (n1:Nat) (ys:LI) (i:Int) (Q0:Int→Nat→LI→Int→Prop) (R_:LI→Prop):Prop:=(bw_ (decide (i<(↑(lenC [Col.sls a0,Col.sls a1,Col.sls a2,Col.sls a3,Col.sls a4,Col.sls a5,Col.sls a6,Col.sls a7,Col.sls a8]):Int))) (aw_ (0≤i∧i<(↑(lenC [Col.sls a0,Col.sls a1,Col.sls a2,Col.sls a3,Col.sls a4,Col.sls a5,Col.sls a6,Col.sls a7,Col.sls a8]):Int)) (aw_ ((0:Int)≤6∧(6:Int)<9) (aw_ ((n1+List.length (slR (List.getD a6 (Int.toNat i) 0)))*8≤140737488355328) (Q0 (6) (n1+List.length (slR (List.getD a6 (Int.toNat i) 0))) (ys++slR (List.getD a6 (Int.toNat i) 0)) (IntKind.wrap IntKind.i64 (i+1)))))) (R_ (ys)))
def r17_All_w0_7 (a0 a1 a2 a3 a4 a5 a6 a7 a8:LI) (k:Int) (n1:Nat) (ys:LI) (i:Int) (Q0:Int→Nat→LI→Int→Prop) (R_:LI→Prop):Prop:=(bw_ (decide (i<(↑(lenC [Col.sls a0,Col.sls a1,Col.sls a2,Col.sls a3,Col.sls a4,Col.sls a5,Col.sls a6,Col.sls a7,Col.sls a8]):Int))) (aw_ (0≤i∧i<(↑(lenC [Col.sls a0,Col.sls a1,Col.sls a2,Col.sls a3,Col.sls a4,Col.sls a5,Col.sls a6,Col.sls a7,Col.sls a8]):Int)) (aw_ ((0:Int)≤7∧(7:Int)<9) (aw_ ((n1+List.length (slR (List.getD a7 (Int.toNat i) 0)))*8≤140737488355328) (Q0 (7) (n1+List.length (slR (List.getD a7 (Int.toNat i) 0))) (ys++slR (List.getD a7 (Int.toNat i) 0)) (IntKind.wrap IntKind.i64 (i+1)))))) (R_ (ys)))
def r17_All_w0_8 (a0 a1 a2 a3 a4 a5 a6 a7 a8:LI) (k:Int) (n1:Nat) (ys:LI) (i:Int) (Q0:Int→Nat→LI→Int→Prop) (R_:LI→Prop):Prop:=(bw_ (decide (i<(↑(lenC [Col.sls a0,Col.sls a1,Col.sls a2,Col.sls a3,Col.sls a4,Col.sls a5,Col.sls a6,Col.sls a7,Col.sls a8]):Int))) (aw_ (0≤i∧i<(↑(lenC [Col.sls a0,Col.sls a1,Col.sls a2,Col.sls a3,Col.sls a4,Col.sls a5,Col.sls a6,Col.sls a7,Col.sls a8]):Int)) (aw_ ((0:Int)≤8∧(8:Int)<9) (aw_ ((n1+List.length (slR (List.getD a8 (Int.toNat i) 0)))*8≤140737488355328) (Q0 (8) (n1+List.length (slR (List.getD a8 (Int.toNat i) 0))) (ys++slR (List.getD a8 (Int.toNat i) 0)) (IntKind.wrap IntKind.i64 (i+1)))))) (R_ (ys)))
def r17_All_I0 (a0 a1 a2 a3 a4 a5 a6 a7 a8:LI) (k kk:Int) (n1:Nat) (ys:LI) (i:Int) (r_:LI):Prop:=kk=k∧0≤kk∧kk≤8∧0≤i∧i≤a0.length∧(a0.length≤1000∧lenB (pkGet kk a0 a1 a2 a3 a4 a5 a6 a7 a8) a0.length=true)∧n1=ys.length∧ys=allL (pkGet kk a0 a1 a2 a3 a4 a5 a6 a7 a8) i.toNat∧r_=allL (pkGet k a0 a1 a2 a3 a4 a5 a6 a7 a8) a0.length
abbrev r17_All_h0 (p0:Addr) (a0 a1 a2 a3 a4 a5 a6 a7 a8:LI) (k:Int):Hd Sg:=⟨none,[0,1,0,1,1],[.blk 0, .code [1,1,1]],[0,1,5,6],[.roc [.sls (a0), .sls (a1), .sls (a2), .sls (a3), .sls (a4), .sls (a5), .sls (a6), .sls (a7), .sls (a8)], .i .i64, .own 2 [some .i64], .i .i64]⟩
theorem r17_All_begin (a0 a1 a2 a3 a4 a5 a6 a7 a8:LI) (k:Int) (hp0:(0≤k∧k≤8)∧a0.length≤1000∧lenB (pkGet k a0 a1 a2 a3 a4 a5 a6 a7 a8) a0.length=true) (hl0:a0.length≤9223372036854775807):r17_All_w a0 a1 a2 a3 a4 a5 a6 a7 a8 k (fun kk' n1' ys' i'=>r17_All_I0 a0 a1 a2 a3 a4 a5 a6 a7 a8 k kk' n1' ys' i' (r17_All a0 a1 a2 a3 a4 a5 a6 a7 a8 k)) (fun r__=>r__=(r17_All a0 a1 a2 a3 a4 a5 a6 a7 a8 k)):=by
 unfold r17_All_w
 try unfold r17_All_I0
 exact ⟨rfl,hp0.1.1,hp0.1.2,by omega,by omega,hp0.2,rfl,rfl,rfl⟩
theorem r17_All_cs0 (a0 a1 a2 a3 a4 a5 a6 a7 a8:LI) (k:Int) (hp0:(0≤k∧k≤8)∧a0.length≤1000∧lenB (pkGet k a0 a1 a2 a3 a4 a5 a6 a7 a8) a0.length=true) (hl0:a0.length≤9223372036854775807) (kk:Int) (n1:Nat) (ys:LI) (i:Int) {r_:LI} (hI:r17_All_I0 a0 a1 a2 a3 a4 a5 a6 a7 a8 k kk n1 ys i r_):kk=0∨kk=1∨kk=2∨kk=3∨kk=4∨kk=5∨kk=6∨kk=7∨kk=8:=by
 unfold r17_All_I0 at hI
 obtain ⟨_,h1,h2,_⟩:=hI
 omega
theorem r17_All_step0_0 (a0 a1 a2 a3 a4 a5 a6 a7 a8:LI) (k:Int) (hp0:(0≤k∧k≤8)∧a0.length≤1000∧lenB (pkGet k a0 a1 a2 a3 a4 a5 a6 a7 a8) a0.length=true) (hl0:a0.length≤9223372036854775807) (n1:Nat) (ys:LI) (i:Int) {r_:LI} (hI:r17_All_I0 a0 a1 a2 a3 a4 a5 a6 a7 a8 k (0:Int) n1 ys i r_):r17_All_w0_0 a0 a1 a2 a3 a4 a5 a6 a7 a8 k n1 ys i (fun kk' n1' ys' i'=>r17_All_I0 a0 a1 a2 a3 a4 a5 a6 a7 a8 k kk' n1' ys' i' r_∧lx (((a0.length:Int)-i').toNat,0,0) (((a0.length:Int)-i).toNat,0,0)) (fun r__=>r__=r_):=by
 unfold r17_All_I0 at hI
 unfold r17_All_w0_0
 try unfold r17_All_I0
 obtain ⟨hk,_,_,h0,h1,hb,hn,hx,hr⟩:=hI
 subst hk
 refine ⟨fun hc=>?_,fun hc=>?_⟩
 ·have hc:i<(a0.length:Int):=of_decide_eq_true hc
  have hlt:i.toNat<a0.length:=by omega
  have g1:=allL_len (lenB_le (Nat.le_of_lt hlt) hb.2)
  have g2:(slR (a0.getD i.toNat 0)).length≤4:=lenB_all hb.2 _ hlt
  rw [w64 (n:=i+1) (by omega)]
  refine ⟨⟨h0,hc⟩,fun _=>⟨by decide,fun _=>⟨?_,fun _=>⟨⟨rfl,by decide,by decide,by omega,by omega,hb,?_,?_,hr⟩,lxo_⟩⟩⟩⟩
  ·rw [hn,hx];omega
  ·rw [hn,List.length_append]
  ·rw [hx,show (i+1).toNat=i.toNat+1 by omega];rfl
 ·have hc:¬i<(a0.length:Int):=of_decide_eq_false hc
  show ys=r_
  rw [hr,hx,show i.toNat=a0.length by omega]
theorem r17_All_step0_1 (a0 a1 a2 a3 a4 a5 a6 a7 a8:LI) (k:Int) (hp0:(0≤k∧k≤8)∧a0.length≤1000∧lenB (pkGet k a0 a1 a2 a3 a4 a5 a6 a7 a8) a0.length=true) (hl0:a0.length≤9223372036854775807) (n1:Nat) (ys:LI) (i:Int) {r_:LI} (hI:r17_All_I0 a0 a1 a2 a3 a4 a5 a6 a7 a8 k (1:Int) n1 ys i r_):r17_All_w0_1 a0 a1 a2 a3 a4 a5 a6 a7 a8 k n1 ys i (fun kk' n1' ys' i'=>r17_All_I0 a0 a1 a2 a3 a4 a5 a6 a7 a8 k kk' n1' ys' i' r_∧lx (((a0.length:Int)-i').toNat,0,0) (((a0.length:Int)-i).toNat,0,0)) (fun r__=>r__=r_):=by
 unfold r17_All_I0 at hI
 unfold r17_All_w0_1
 try unfold r17_All_I0
 obtain ⟨hk,_,_,h0,h1,hb,hn,hx,hr⟩:=hI
 subst hk
 refine ⟨fun hc=>?_,fun hc=>?_⟩
 ·have hc:i<(a0.length:Int):=of_decide_eq_true hc
  have hlt:i.toNat<a0.length:=by omega
  have g1:=allL_len (lenB_le (Nat.le_of_lt hlt) hb.2)
  have g2:(slR (a1.getD i.toNat 0)).length≤4:=lenB_all hb.2 _ hlt
  rw [w64 (n:=i+1) (by omega)]
  refine ⟨⟨h0,hc⟩,fun _=>⟨by decide,fun _=>⟨?_,fun _=>⟨⟨rfl,by decide,by decide,by omega,by omega,hb,?_,?_,hr⟩,lxo_⟩⟩⟩⟩
  ·rw [hn,hx];omega
  ·rw [hn,List.length_append]
  ·rw [hx,show (i+1).toNat=i.toNat+1 by omega];rfl
 ·have hc:¬i<(a0.length:Int):=of_decide_eq_false hc
  show ys=r_
  rw [hr,hx,show i.toNat=a0.length by omega]
theorem r17_All_step0_2 (a0 a1 a2 a3 a4 a5 a6 a7 a8:LI) (k:Int) (hp0:(0≤k∧k≤8)∧a0.length≤1000∧lenB (pkGet k a0 a1 a2 a3 a4 a5 a6 a7 a8) a0.length=true) (hl0:a0.length≤9223372036854775807) (n1:Nat) (ys:LI) (i:Int) {r_:LI} (hI:r17_All_I0 a0 a1 a2 a3 a4 a5 a6 a7 a8 k (2:Int) n1 ys i r_):r17_All_w0_2 a0 a1 a2 a3 a4 a5 a6 a7 a8 k n1 ys i (fun kk' n1' ys' i'=>r17_All_I0 a0 a1 a2 a3 a4 a5 a6 a7 a8 k kk' n1' ys' i' r_∧lx (((a0.length:Int)-i').toNat,0,0) (((a0.length:Int)-i).toNat,0,0)) (fun r__=>r__=r_):=by
 unfold r17_All_I0 at hI
 unfold r17_All_w0_2
 try unfold r17_All_I0
 obtain ⟨hk,_,_,h0,h1,hb,hn,hx,hr⟩:=hI
 subst hk
 refine ⟨fun hc=>?_,fun hc=>?_⟩
 ·have hc:i<(a0.length:Int):=of_decide_eq_true hc
  have hlt:i.toNat<a0.length:=by omega
  have g1:=allL_len (lenB_le (Nat.le_of_lt hlt) hb.2)
  have g2:(slR (a2.getD i.toNat 0)).length≤4:=lenB_all hb.2 _ hlt
  rw [w64 (n:=i+1) (by omega)]
  refine ⟨⟨h0,hc⟩,fun _=>⟨by decide,fun _=>⟨?_,fun _=>⟨⟨rfl,by decide,by decide,by omega,by omega,hb,?_,?_,hr⟩,lxo_⟩⟩⟩⟩
  ·rw [hn,hx];omega
  ·rw [hn,List.length_append]
  ·rw [hx,show (i+1).toNat=i.toNat+1 by omega];rfl
 ·have hc:¬i<(a0.length:Int):=of_decide_eq_false hc
  show ys=r_
  rw [hr,hx,show i.toNat=a0.length by omega]
theorem r17_All_step0_3 (a0 a1 a2 a3 a4 a5 a6 a7 a8:LI) (k:Int) (hp0:(0≤k∧k≤8)∧a0.length≤1000∧lenB (pkGet k a0 a1 a2 a3 a4 a5 a6 a7 a8) a0.length=true) (hl0:a0.length≤9223372036854775807) (n1:Nat) (ys:LI) (i:Int) {r_:LI} (hI:r17_All_I0 a0 a1 a2 a3 a4 a5 a6 a7 a8 k (3:Int) n1 ys i r_):r17_All_w0_3 a0 a1 a2 a3 a4 a5 a6 a7 a8 k n1 ys i (fun kk' n1' ys' i'=>r17_All_I0 a0 a1 a2 a3 a4 a5 a6 a7 a8 k kk' n1' ys' i' r_∧lx (((a0.length:Int)-i').toNat,0,0) (((a0.length:Int)-i).toNat,0,0)) (fun r__=>r__=r_):=by
 unfold r17_All_I0 at hI
 unfold r17_All_w0_3
 try unfold r17_All_I0
 obtain ⟨hk,_,_,h0,h1,hb,hn,hx,hr⟩:=hI
 subst hk
 refine ⟨fun hc=>?_,fun hc=>?_⟩
 ·have hc:i<(a0.length:Int):=of_decide_eq_true hc
  have hlt:i.toNat<a0.length:=by omega
  have g1:=allL_len (lenB_le (Nat.le_of_lt hlt) hb.2)
  have g2:(slR (a3.getD i.toNat 0)).length≤4:=lenB_all hb.2 _ hlt
  rw [w64 (n:=i+1) (by omega)]
  refine ⟨⟨h0,hc⟩,fun _=>⟨by decide,fun _=>⟨?_,fun _=>⟨⟨rfl,by decide,by decide,by omega,by omega,hb,?_,?_,hr⟩,lxo_⟩⟩⟩⟩
  ·rw [hn,hx];omega
  ·rw [hn,List.length_append]
  ·rw [hx,show (i+1).toNat=i.toNat+1 by omega];rfl
 ·have hc:¬i<(a0.length:Int):=of_decide_eq_false hc
  show ys=r_
  rw [hr,hx,show i.toNat=a0.length by omega]
theorem r17_All_step0_4 (a0 a1 a2 a3 a4 a5 a6 a7 a8:LI) (k:Int) (hp0:(0≤k∧k≤8)∧a0.length≤1000∧lenB (pkGet k a0 a1 a2 a3 a4 a5 a6 a7 a8) a0.length=true) (hl0:a0.length≤9223372036854775807) (n1:Nat) (ys:LI) (i:Int) {r_:LI} (hI:r17_All_I0 a0 a1 a2 a3 a4 a5 a6 a7 a8 k (4:Int) n1 ys i r_):r17_All_w0_4 a0 a1 a2 a3 a4 a5 a6 a7 a8 k n1 ys i (fun kk' n1' ys' i'=>r17_All_I0 a0 a1 a2 a3 a4 a5 a6 a7 a8 k kk' n1' ys' i' r_∧lx (((a0.length:Int)-i').toNat,0,0) (((a0.length:Int)-i).toNat,0,0)) (fun r__=>r__=r_):=by
 unfold r17_All_I0 at hI
 unfold r17_All_w0_4
 try unfold r17_All_I0
 obtain ⟨hk,_,_,h0,h1,hb,hn,hx,hr⟩:=hI
 subst hk
 refine ⟨fun hc=>?_,fun hc=>?_⟩
 ·have hc:i<(a0.length:Int):=of_decide_eq_true hc
  have hlt:i.toNat<a0.length:=by omega
  have g1:=allL_len (lenB_le (Nat.le_of_lt hlt) hb.2)
  have g2:(slR (a4.getD i.toNat 0)).length≤4:=lenB_all hb.2 _ hlt
  rw [w64 (n:=i+1) (by omega)]
  refine ⟨⟨h0,hc⟩,fun _=>⟨by decide,fun _=>⟨?_,fun _=>⟨⟨rfl,by decide,by decide,by omega,by omega,hb,?_,?_,hr⟩,lxo_⟩⟩⟩⟩
  ·rw [hn,hx];omega
  ·rw [hn,List.length_append]
  ·rw [hx,show (i+1).toNat=i.toNat+1 by omega];rfl
 ·have hc:¬i<(a0.length:Int):=of_decide_eq_false hc
  show ys=r_
  rw [hr,hx,show i.toNat=a0.length by omega]
theorem r17_All_step0_5 (a0 a1 a2 a3 a4 a5 a6 a7 a8:LI) (k:Int) (hp0:(0≤k∧k≤8)∧a0.length≤1000∧lenB (pkGet k a0 a1 a2 a3 a4 a5 a6 a7 a8) a0.length=true) (hl0:a0.length≤9223372036854775807) (n1:Nat) (ys:LI) (i:Int) {r_:LI} (hI:r17_All_I0 a0 a1 a2 a3 a4 a5 a6 a7 a8 k (5:Int) n1 ys i r_):r17_All_w0_5 a0 a1 a2 a3 a4 a5 a6 a7 a8 k n1 ys i (fun kk' n1' ys' i'=>r17_All_I0 a0 a1 a2 a3 a4 a5 a6 a7 a8 k kk' n1' ys' i' r_∧lx (((a0.length:Int)-i').toNat,0,0) (((a0.length:Int)-i).toNat,0,0)) (fun r__=>r__=r_):=by
 unfold r17_All_I0 at hI
 unfold r17_All_w0_5
 try unfold r17_All_I0
 obtain ⟨hk,_,_,h0,h1,hb,hn,hx,hr⟩:=hI
 subst hk
 refine ⟨fun hc=>?_,fun hc=>?_⟩
 ·have hc:i<(a0.length:Int):=of_decide_eq_true hc
  have hlt:i.toNat<a0.length:=by omega
  have g1:=allL_len (lenB_le (Nat.le_of_lt hlt) hb.2)
  have g2:(slR (a5.getD i.toNat 0)).length≤4:=lenB_all hb.2 _ hlt
  rw [w64 (n:=i+1) (by omega)]
  refine ⟨⟨h0,hc⟩,fun _=>⟨by decide,fun _=>⟨?_,fun _=>⟨⟨rfl,by decide,by decide,by omega,by omega,hb,?_,?_,hr⟩,lxo_⟩⟩⟩⟩
  ·rw [hn,hx];omega
  ·rw [hn,List.length_append]
  ·rw [hx,show (i+1).toNat=i.toNat+1 by omega];rfl
 ·have hc:¬i<(a0.length:Int):=of_decide_eq_false hc
  show ys=r_
  rw [hr,hx,show i.toNat=a0.length by omega]
theorem r17_All_step0_6 (a0 a1 a2 a3 a4 a5 a6 a7 a8:LI) (k:Int) (hp0:(0≤k∧k≤8)∧a0.length≤1000∧lenB (pkGet k a0 a1 a2 a3 a4 a5 a6 a7 a8) a0.length=true) (hl0:a0.length≤9223372036854775807) (n1:Nat) (ys:LI) (i:Int) {r_:LI} (hI:r17_All_I0 a0 a1 a2 a3 a4 a5 a6 a7 a8 k (6:Int) n1 ys i r_):r17_All_w0_6 a0 a1 a2 a3 a4 a5 a6 a7 a8 k n1 ys i (fun kk' n1' ys' i'=>r17_All_I0 a0 a1 a2 a3 a4 a5 a6 a7 a8 k kk' n1' ys' i' r_∧lx (((a0.length:Int)-i').toNat,0,0) (((a0.length:Int)-i).toNat,0,0)) (fun r__=>r__=r_):=by
 unfold r17_All_I0 at hI
 unfold r17_All_w0_6
 try unfold r17_All_I0
 obtain ⟨hk,_,_,h0,h1,hb,hn,hx,hr⟩:=hI
 subst hk
 refine ⟨fun hc=>?_,fun hc=>?_⟩
 ·have hc:i<(a0.length:Int):=of_decide_eq_true hc
  have hlt:i.toNat<a0.length:=by omega
  have g1:=allL_len (lenB_le (Nat.le_of_lt hlt) hb.2)
  have g2:(slR (a6.getD i.toNat 0)).length≤4:=lenB_all hb.2 _ hlt
  rw [w64 (n:=i+1) (by omega)]
  refine ⟨⟨h0,hc⟩,fun _=>⟨by decide,fun _=>⟨?_,fun _=>⟨⟨rfl,by decide,by decide,by omega,by omega,hb,?_,?_,hr⟩,lxo_⟩⟩⟩⟩
  ·rw [hn,hx];omega
  ·rw [hn,List.length_append]
  ·rw [hx,show (i+1).toNat=i.toNat+1 by omega];rfl
 ·have hc:¬i<(a0.length:Int):=of_decide_eq_false hc
  show ys=r_
  rw [hr,hx,show i.toNat=a0.length by omega]
theorem r17_All_step0_7 (a0 a1 a2 a3 a4 a5 a6 a7 a8:LI) (k:Int) (hp0:(0≤k∧k≤8)∧a0.length≤1000∧lenB (pkGet k a0 a1 a2 a3 a4 a5 a6 a7 a8) a0.length=true) (hl0:a0.length≤9223372036854775807) (n1:Nat) (ys:LI) (i:Int) {r_:LI} (hI:r17_All_I0 a0 a1 a2 a3 a4 a5 a6 a7 a8 k (7:Int) n1 ys i r_):r17_All_w0_7 a0 a1 a2 a3 a4 a5 a6 a7 a8 k n1 ys i (fun kk' n1' ys' i'=>r17_All_I0 a0 a1 a2 a3 a4 a5 a6 a7 a8 k kk' n1' ys' i' r_∧lx (((a0.length:Int)-i').toNat,0,0) (((a0.length:Int)-i).toNat,0,0)) (fun r__=>r__=r_):=by
 unfold r17_All_I0 at hI
 unfold r17_All_w0_7
 try unfold r17_All_I0
 obtain ⟨hk,_,_,h0,h1,hb,hn,hx,hr⟩:=hI
 subst hk
 refine ⟨fun hc=>?_,fun hc=>?_⟩
 ·have hc:i<(a0.length:Int):=of_decide_eq_true hc
  have hlt:i.toNat<a0.length:=by omega
  have g1:=allL_len (lenB_le (Nat.le_of_lt hlt) hb.2)
  have g2:(slR (a7.getD i.toNat 0)).length≤4:=lenB_all hb.2 _ hlt
  rw [w64 (n:=i+1) (by omega)]
  refine ⟨⟨h0,hc⟩,fun _=>⟨by decide,fun _=>⟨?_,fun _=>⟨⟨rfl,by decide,by decide,by omega,by omega,hb,?_,?_,hr⟩,lxo_⟩⟩⟩⟩
  ·rw [hn,hx];omega
  ·rw [hn,List.length_append]
  ·rw [hx,show (i+1).toNat=i.toNat+1 by omega];rfl
 ·have hc:¬i<(a0.length:Int):=of_decide_eq_false hc
  show ys=r_
  rw [hr,hx,show i.toNat=a0.length by omega]
theorem r17_All_step0_8 (a0 a1 a2 a3 a4 a5 a6 a7 a8:LI) (k:Int) (hp0:(0≤k∧k≤8)∧a0.length≤1000∧lenB (pkGet k a0 a1 a2 a3 a4 a5 a6 a7 a8) a0.length=true) (hl0:a0.length≤9223372036854775807) (n1:Nat) (ys:LI) (i:Int) {r_:LI} (hI:r17_All_I0 a0 a1 a2 a3 a4 a5 a6 a7 a8 k (8:Int) n1 ys i r_):r17_All_w0_8 a0 a1 a2 a3 a4 a5 a6 a7 a8 k n1 ys i (fun kk' n1' ys' i'=>r17_All_I0 a0 a1 a2 a3 a4 a5 a6 a7 a8 k kk' n1' ys' i' r_∧lx (((a0.length:Int)-i').toNat,0,0) (((a0.length:Int)-i).toNat,0,0)) (fun r__=>r__=r_):=by
 unfold r17_All_I0 at hI
 unfold r17_All_w0_8
 try unfold r17_All_I0
 obtain ⟨hk,_,_,h0,h1,hb,hn,hx,hr⟩:=hI
 subst hk
 refine ⟨fun hc=>?_,fun hc=>?_⟩
 ·have hc:i<(a0.length:Int):=of_decide_eq_true hc
  have hlt:i.toNat<a0.length:=by omega
  have g1:=allL_len (lenB_le (Nat.le_of_lt hlt) hb.2)
  have g2:(slR (a8.getD i.toNat 0)).length≤4:=lenB_all hb.2 _ hlt
  rw [w64 (n:=i+1) (by omega)]
  refine ⟨⟨h0,hc⟩,fun _=>⟨by decide,fun _=>⟨?_,fun _=>⟨⟨rfl,by decide,by decide,by omega,by omega,hb,?_,?_,hr⟩,lxo_⟩⟩⟩⟩
  ·rw [hn,hx];omega
  ·rw [hn,List.length_append]
  ·rw [hx,show (i+1).toNat=i.toNat+1 by omega];rfl
 ·have hc:¬i<(a0.length:Int):=of_decide_eq_false hc
  show ys=r_
  rw [hr,hx,show i.toNat=a0.length by omega]
theorem r17_All_ok:EOk 65 e_r17_All:=
 ent_wp Dg T_r12_Parts_ok (I:=[2999998,411000000000,411000000001,411000000005,411000000006]) Tryz.func65 mix (B:=bodyOf Tryz.f65) (by kernel_rfl) rfl (by kernel_rfl) 400
  fun p0 a0 a1 a2 a3 a4 a5 a6 a7 a8 k hb hp=>have hl0:a0.length≤9223372036854775807:=hb.1;have hp0:(0≤k∧k≤8)∧a0.length≤1000∧lenB (pkGet k a0 a1 a2 a3 a4 a5 a6 a7 a8) a0.length=true:=hp _ (.head _);⟨[r17_All_h0 p0 a0 a1 a2 a3 a4 a5 a6 a7 a8 k],fun j=>List.getD [appC (Hd.kd (r17_All_h0 p0 a0 a1 a2 a3 a4 a5 a6 a7 a8 k)) (fun kk' n1' ys' i'=>r17_All_I0 a0 a1 a2 a3 a4 a5 a6 a7 a8 k kk' n1' ys' i' (r17_All a0 a1 a2 a3 a4 a5 a6 a7 a8 k))] j (fun _=>False),fun j=>List.getD [appC (Hd.kd (r17_All_h0 p0 a0 a1 a2 a3 a4 a5 a6 a7 a8 k)) (fun kk' n1' ys' i'=>(((a0.length:Int)-i').toNat,0,0))] j (fun _=>(0,0,0)),by kernel_rfl,⟨_,fun _ _ _=>by kernel_rfl,r17_All_begin a0 a1 a2 a3 a4 a5 a6 a7 a8 k hp0 hl0⟩,⟨fun kk n1 ys i hI=>(by
   rcases r17_All_cs0 a0 a1 a2 a3 a4 a5 a6 a7 a8 k hp0 hl0 kk n1 ys i hI with rfl|rfl|rfl|rfl|rfl|rfl|rfl|rfl|rfl
   ·exact ⟨_,fun _ _ _=>by kernel_rfl,r17_All_step0_0 a0 a1 a2 a3 a4 a5 a6 a7 a8 k hp0 hl0 n1 ys i hI⟩
   ·exact ⟨_,fun _ _ _=>by kernel_rfl,r17_All_step0_1 a0 a1 a2 a3 a4 a5 a6 a7 a8 k hp0 hl0 n1 ys i hI⟩
   ·exact ⟨_,fun _ _ _=>by kernel_rfl,r17_All_step0_2 a0 a1 a2 a3 a4 a5 a6 a7 a8 k hp0 hl0 n1 ys i hI⟩
   ·exact ⟨_,fun _ _ _=>by kernel_rfl,r17_All_step0_3 a0 a1 a2 a3 a4 a5 a6 a7 a8 k hp0 hl0 n1 ys i hI⟩
   ·exact ⟨_,fun _ _ _=>by kernel_rfl,r17_All_step0_4 a0 a1 a2 a3 a4 a5 a6 a7 a8 k hp0 hl0 n1 ys i hI⟩
   ·exact ⟨_,fun _ _ _=>by kernel_rfl,r17_All_step0_5 a0 a1 a2 a3 a4 a5 a6 a7 a8 k hp0 hl0 n1 ys i hI⟩
   ·exact ⟨_,fun _ _ _=>by kernel_rfl,r17_All_step0_6 a0 a1 a2 a3 a4 a5 a6 a7 a8 k hp0 hl0 n1 ys i hI⟩
   ·exact ⟨_,fun _ _ _=>by kernel_rfl,r17_All_step0_7 a0 a1 a2 a3 a4 a5 a6 a7 a8 k hp0 hl0 n1 ys i hI⟩
   ·exact ⟨_,fun _ _ _=>by kernel_rfl,r17_All_step0_8 a0 a1 a2 a3 a4 a5 a6 a7 a8 k hp0 hl0 n1 ys i hI⟩),trivial⟩⟩
def T_r17_All:Tb:=(65,e_r17_All)::T_r12_Parts
theorem T_r17_All_ok:TOk T_r17_All:=tc_ r17_All_ok T_r12_Parts_ok
def r17_often (l:LI) (a:Int):Int:=oft l a
abbrev c_r17_often:Ct Sg:=⟨none,false,[.ro [some .i64], .i .i64], .i .i64⟩
def e_r17_often:Entry Sg:=entC c_r17_often r17_often (fun _ _=>[])
def r17_often_w (l:LI) (a:Int) (Q0:Int→Int→Prop) (R_:Int→Prop):Prop:=(Q0 (0) (0))
def r17_often_w0 (l:LI) (a n i:Int) (Q0:Int→Int→Prop) (R_:Int→Prop):Prop:=(bw_ (decide (i<(↑(List.length l):Int))) (aw_ (0≤i∧i<(↑(List.length l):Int)) (bw_ (List.getD l (Int.toNat i) 0==a) (Q0 (IntKind.wrap IntKind.i64 (n+1)) (IntKind.wrap IntKind.i64 (i+1))) (Q0 (n) (IntKind.wrap IntKind.i64 (i+1))))) (R_ (n)))
def r17_often_I0 (l:LI) (a n i r_:Int):Prop:=0≤i∧i≤l.length∧n=oft (l.take i.toNat) a∧r_=oft l a
abbrev r17_often_h0 (p0:Addr) (l:LI) (a:Int):Hd Sg:=⟨none,[0,1,0,1,1],[.blk 0, .code [1,1,1]],[0,1,5,6],[.roc [.ints .i64 (l)], .ic .i64 (a), .i .i64, .i .i64]⟩
theorem r17_often_begin (l:LI) (a:Int) (hl0:l.length≤9223372036854775807):r17_often_w l a (fun n' i'=>r17_often_I0 l a n' i' (r17_often l a)) (fun r__=>r__=(r17_often l a)):=by
 unfold r17_often_w
 try unfold r17_often_I0
 exact ⟨by omega,by omega,rfl,rfl⟩
theorem r17_often_step0 (l:LI) (a:Int) (hl0:l.length≤9223372036854775807) (n i:Int) {r_:Int} (hI:r17_often_I0 l a n i r_):r17_often_w0 l a n i (fun n' i'=>r17_often_I0 l a n' i' r_∧lx ((l.length-i').toNat,0,0) ((l.length-i).toNat,0,0)) (fun r__=>r__=r_):=by
 unfold r17_often_I0 at hI
 unfold r17_often_w0
 try unfold r17_often_I0
 obtain ⟨h0,h1,hn,hr⟩:=hI
 refine ⟨fun hc=>?_,fun hc=>?_⟩
 ·have hc:i<(l.length:Int):=of_decide_eq_true hc
  have hlt:i.toNat<l.length:=by omega
  have hle:oft (l.take i.toNat) a≤i:=by
   unfold oft
   have g1:=List.length_filter_le (· ==a) (l.take i.toNat)
   rw [List.length_take] at g1;omega
  have hge:0≤oft (l.take i.toNat) a:=by unfold oft;omega
  have ht:oft (l.take (i+1).toNat) a=oft (l.take i.toNat) a+(bif l.getD i.toNat 0==a then 1 else 0):=by
   rw [toNat_succ h0,take_snocB hlt]
   unfold oft
   rw [List.filter_append,List.length_append,List.filter_cons]
   cases l.getD i.toNat 0==a<;>simp
  rw [w64 (n:=i+1) (by omega)]
  refine ⟨⟨h0,hc⟩,fun _=>⟨fun he=>?_,fun he=>?_⟩⟩
  ·rw [he,cond_true] at ht
   rw [w64 (n:=n+1) (by omega)]
   exact ⟨⟨by omega,by omega,by rw [ht,hn],hr⟩,lxo_⟩
  ·rw [he,cond_false] at ht
   exact ⟨⟨by omega,by omega,by rw [ht,hn,Int.add_zero],hr⟩,lxo_⟩
 ·have hc:¬i<(l.length:Int):=of_decide_eq_false hc
  rw [List.take_of_length_le (by omega)] at hn
  show n=r_
  rw [hr,hn]
theorem r17_often_ok:EOk 67 e_r17_often:=
 ent_wp Dg T_r17_All_ok (I:=[411000000000,411000000001,411000000005,411000000006]) Tryz.func67 mix (B:=bodyOf Tryz.f67) (by kernel_rfl) rfl (by kernel_rfl) 400
  fun p0 l a hb hp=>have hl0:l.length≤9223372036854775807:=hb.1;⟨[r17_often_h0 p0 l a],fun j=>List.getD [appC (Hd.kd (r17_often_h0 p0 l a)) (fun n' i'=>r17_often_I0 l a n' i' (r17_often l a))] j (fun _=>False),fun j=>List.getD [appC (Hd.kd (r17_often_h0 p0 l a)) (fun n' i'=>((l.length-i').toNat,0,0))] j (fun _=>(0,0,0)),by kernel_rfl,⟨_,fun _ _ _=>by kernel_rfl,r17_often_begin l a hl0⟩,⟨fun n i hI=>⟨_,fun _ _ _=>by kernel_rfl,r17_often_step0 l a hl0 n i hI⟩,trivial⟩⟩
def T_r17_often:Tb:=(67,e_r17_often)::T_r17_All
theorem T_r17_often_ok:TOk T_r17_often:=tc_ r17_often_ok T_r17_All_ok
def r17_Fits (t p h:Int) (xs a0 a1 a2 a3 a4 a5 a6 a7 a8:LI):Bool:=bif !soundA ⟨t,p,h⟩ xs||(a0.length:Int) !=t then false else fitOut h (partsL ⟨t,p,h⟩ xs) (fun k=>pkGet k a0 a1 a2 a3 a4 a5 a6 a7 a8) a0.length 9 0
abbrev c_r17_Fits:Ct Sg:=⟨none,false,[.agg [.i .i64, .i .i64, .i .i64], .ro [some .u32], .ro [some .i16,some .i16,some .i16,some .i16,some .i16,some .i16,some .i16,some .i16,some .i16]], .b⟩
def e_r17_Fits:Entry Sg:=entC c_r17_Fits r17_Fits (fun t p h xs a0 a1 a2 a3 a4 a5 a6 a7 a8=>[bdAll xs,a0.length≤1000])
def r17_Fits_w (t p h:Int) (xs a0 a1 a2 a3 a4 a5 a6 a7 a8:LI) (Q0:Nat→LI→LI→LI→Int→Int→Prop) (Q1:Nat→LI→LI→LI→Int→Int→Int→Prop) (Q2:Nat→LI→LI→LI→Int→Int→Nat→LI→Int→Prop) (R_:Bool→Prop):Prop:=(∀r1:Bool,r1=(r12_Sound t p h xs)→(aw_ (bdAll xs) (bw_ (!r1||(↑(lenC [Col.sls a0,Col.sls a1,Col.sls a2,Col.sls a3,Col.sls a4,Col.sls a5,Col.sls a6,Col.sls a7,Col.sls a8]):Int) !=t) (R_ (false)) (∀r4:LI×LI×LI,r4=(r12_Parts t p h xs)→(aw_ (bdAll xs) (Q0 (List.length r4.1) r4.1 r4.2.1 r4.2.2 (0) (0)))))))
def r17_Fits_w0 (t p h:Int) (xs a0 a1 a2 a3 a4 a5 a6 a7 a8:LI) (n1:Nat) (ks zs ss:LI) (n k:Int) (Q0:Nat→LI→LI→LI→Int→Int→Prop) (Q1:Nat→LI→LI→LI→Int→Int→Int→Prop) (Q2:Nat→LI→LI→LI→Int→Int→Nat→LI→Int→Prop) (R_:Bool→Prop):Prop:=(bw_ (decide (k<9)) (Q1 (n1) (ks) (zs) (ss) (n) (k) (0)) (R_ (n==0)))
def r17_Fits_I0 (t p h:Int) (xs a0 a1 a2 a3 a4 a5 a6 a7 a8:LI) (n1:Nat) (ks zs ss:LI) (n k:Int) (r_:Bool):Prop:=(n1=ks.length∧ks=(partsL ⟨t,p,h⟩ xs).map (·.k)∧zs=(partsL ⟨t,p,h⟩ xs).map (·.a)∧ss=(partsL ⟨t,p,h⟩ xs).map (·.s)∧(partsL ⟨t,p,h⟩ xs).length≤100000∧a0.length≤1000)∧0≤k∧k≤9∧r_=fitOut h (partsL ⟨t,p,h⟩ xs) (fun k=>pkGet k a0 a1 a2 a3 a4 a5 a6 a7 a8) a0.length (9-k).toNat n
def r17_Fits_w1_0 (t p h:Int) (xs a0 a1 a2 a3 a4 a5 a6 a7 a8:LI) (n1:Nat) (ks zs ss:LI) (n i:Int) (Q0:Nat→LI→LI→LI→Int→Int→Prop) (Q1:Nat→LI→LI→LI→Int→Int→Int→Prop) (Q2:Nat→LI→LI→LI→Int→Int→Nat→LI→Int→Prop) (R_:Bool→Prop):Prop:=(bw_ (decide (i<(↑(lenC [Col.sls a0,Col.sls a1,Col.sls a2,Col.sls a3,Col.sls a4,Col.sls a5,Col.sls a6,Col.sls a7,Col.sls a8]):Int))) (aw_ (0≤i∧i<(↑(lenC [Col.sls a0,Col.sls a1,Col.sls a2,Col.sls a3,Col.sls a4,Col.sls a5,Col.sls a6,Col.sls a7,Col.sls a8]):Int)) (aw_ ((0:Int)≤0∧(0:Int)<9) (bw_ (decide ((↑(List.length (slR (List.getD a0 (Int.toNat i) 0))):Int)>4)) (R_ (false)) (Q1 (n1) (ks) (zs) (ss) (n) (0) (IntKind.wrap IntKind.i64 (i+1)))))) (∀r1:LI,r1=(r17_All a0 a1 a2 a3 a4 a5 a6 a7 a8 0)→(aw_ (((0:Int)≤0∧(0:Int)≤8)∧List.length a0≤1000∧lenB (pkGet 0 a0 a1 a2 a3 a4 a5 a6 a7 a8) (List.length a0)=true) (Q2 (n1) (ks) (zs) (ss) (IntKind.wrap IntKind.i64 (n+(↑(List.length r1):Int))) (0) (List.length r1) (r1) (0)))))
def r17_Fits_w1_1 (t p h:Int) (xs a0 a1 a2 a3 a4 a5 a6 a7 a8:LI) (n1:Nat) (ks zs ss:LI) (n i:Int) (Q0:Nat→LI→LI→LI→Int→Int→Prop) (Q1:Nat→LI→LI→LI→Int→Int→Int→Prop) (Q2:Nat→LI→LI→LI→Int→Int→Nat→LI→Int→Prop) (R_:Bool→Prop):Prop:=(bw_ (decide (i<(↑(lenC [Col.sls a0,Col.sls a1,Col.sls a2,Col.sls a3,Col.sls a4,Col.sls a5,Col.sls a6,Col.sls a7,Col.sls a8]):Int))) (aw_ (0≤i∧i<(↑(lenC [Col.sls a0,Col.sls a1,Col.sls a2,Col.sls a3,Col.sls a4,Col.sls a5,Col.sls a6,Col.sls a7,Col.sls a8]):Int)) (aw_ ((0:Int)≤1∧(1:Int)<9) (bw_ (decide ((↑(List.length (slR (List.getD a1 (Int.toNat i) 0))):Int)>4)) (R_ (false)) (Q1 (n1) (ks) (zs) (ss) (n) (1) (IntKind.wrap IntKind.i64 (i+1)))))) (∀r1:LI,r1=(r17_All a0 a1 a2 a3 a4 a5 a6 a7 a8 1)→(aw_ (((0:Int)≤1∧(1:Int)≤8)∧List.length a0≤1000∧lenB (pkGet 1 a0 a1 a2 a3 a4 a5 a6 a7 a8) (List.length a0)=true) (Q2 (n1) (ks) (zs) (ss) (IntKind.wrap IntKind.i64 (n+(↑(List.length r1):Int))) (1) (List.length r1) (r1) (0)))))
def r17_Fits_w1_2 (t p h:Int) (xs a0 a1 a2 a3 a4 a5 a6 a7 a8:LI) (n1:Nat) (ks zs ss:LI) (n i:Int) (Q0:Nat→LI→LI→LI→Int→Int→Prop) (Q1:Nat→LI→LI→LI→Int→Int→Int→Prop) (Q2:Nat→LI→LI→LI→Int→Int→Nat→LI→Int→Prop) (R_:Bool→Prop):Prop:=(bw_ (decide (i<(↑(lenC [Col.sls a0,Col.sls a1,Col.sls a2,Col.sls a3,Col.sls a4,Col.sls a5,Col.sls a6,Col.sls a7,Col.sls a8]):Int))) (aw_ (0≤i∧i<(↑(lenC [Col.sls a0,Col.sls a1,Col.sls a2,Col.sls a3,Col.sls a4,Col.sls a5,Col.sls a6,Col.sls a7,Col.sls a8]):Int)) (aw_ ((0:Int)≤2∧(2:Int)<9) (bw_ (decide ((↑(List.length (slR (List.getD a2 (Int.toNat i) 0))):Int)>4)) (R_ (false)) (Q1 (n1) (ks) (zs) (ss) (n) (2) (IntKind.wrap IntKind.i64 (i+1)))))) (∀r1:LI,r1=(r17_All a0 a1 a2 a3 a4 a5 a6 a7 a8 2)→(aw_ (((0:Int)≤2∧(2:Int)≤8)∧List.length a0≤1000∧lenB (pkGet 2 a0 a1 a2 a3 a4 a5 a6 a7 a8) (List.length a0)=true) (Q2 (n1) (ks) (zs) (ss) (IntKind.wrap IntKind.i64 (n+(↑(List.length r1):Int))) (2) (List.length r1) (r1) (0)))))
def r17_Fits_w1_3 (t p h:Int) (xs a0 a1 a2 a3 a4 a5 a6 a7 a8:LI) (n1:Nat) (ks zs ss:LI) (n i:Int) (Q0:Nat→LI→LI→LI→Int→Int→Prop) (Q1:Nat→LI→LI→LI→Int→Int→Int→Prop) (Q2:Nat→LI→LI→LI→Int→Int→Nat→LI→Int→Prop) (R_:Bool→Prop):Prop:=(bw_ (decide (i<(↑(lenC [Col.sls a0,Col.sls a1,Col.sls a2,Col.sls a3,Col.sls a4,Col.sls a5,Col.sls a6,Col.sls a7,Col.sls a8]):Int))) (aw_ (0≤i∧i<(↑(lenC [Col.sls a0,Col.sls a1,Col.sls a2,Col.sls a3,Col.sls a4,Col.sls a5,Col.sls a6,Col.sls a7,Col.sls a8]):Int)) (aw_ ((0:Int)≤3∧(3:Int)<9) (bw_ (decide ((↑(List.length (slR (List.getD a3 (Int.toNat i) 0))):Int)>4)) (R_ (false)) (Q1 (n1) (ks) (zs) (ss) (n) (3) (IntKind.wrap IntKind.i64 (i+1)))))) (∀r1:LI,r1=(r17_All a0 a1 a2 a3 a4 a5 a6 a7 a8 3)→(aw_ (((0:Int)≤3∧(3:Int)≤8)∧List.length a0≤1000∧lenB (pkGet 3 a0 a1 a2 a3 a4 a5 a6 a7 a8) (List.length a0)=true) (Q2 (n1) (ks) (zs) (ss) (IntKind.wrap IntKind.i64 (n+(↑(List.length r1):Int))) (3) (List.length r1) (r1) (0)))))
def r17_Fits_w1_4 (t p h:Int) (xs a0 a1 a2 a3 a4 a5 a6 a7 a8:LI) (n1:Nat) (ks zs ss:LI) (n i:Int) (Q0:Nat→LI→LI→LI→Int→Int→Prop) (Q1:Nat→LI→LI→LI→Int→Int→Int→Prop) (Q2:Nat→LI→LI→LI→Int→Int→Nat→LI→Int→Prop) (R_:Bool→Prop):Prop:=(bw_ (decide (i<(↑(lenC [Col.sls a0,Col.sls a1,Col.sls a2,Col.sls a3,Col.sls a4,Col.sls a5,Col.sls a6,Col.sls a7,Col.sls a8]):Int))) (aw_ (0≤i∧i<(↑(lenC [Col.sls a0,Col.sls a1,Col.sls a2,Col.sls a3,Col.sls a4,Col.sls a5,Col.sls a6,Col.sls a7,Col.sls a8]):Int)) (aw_ ((0:Int)≤4∧(4:Int)<9) (bw_ (decide ((↑(List.length (slR (List.getD a4 (Int.toNat i) 0))):Int)>4)) (R_ (false)) (Q1 (n1) (ks) (zs) (ss) (n) (4) (IntKind.wrap IntKind.i64 (i+1)))))) (∀r1:LI,r1=(r17_All a0 a1 a2 a3 a4 a5 a6 a7 a8 4)→(aw_ (((0:Int)≤4∧(4:Int)≤8)∧List.length a0≤1000∧lenB (pkGet 4 a0 a1 a2 a3 a4 a5 a6 a7 a8) (List.length a0)=true) (Q2 (n1) (ks) (zs) (ss) (IntKind.wrap IntKind.i64 (n+(↑(List.length r1):Int))) (4) (List.length r1) (r1) (0)))))
def r17_Fits_w1_5 (t p h:Int) (xs a0 a1 a2 a3 a4 a5 a6 a7 a8:LI) (n1:Nat) (ks zs ss:LI) (n i:Int) (Q0:Nat→LI→LI→LI→Int→Int→Prop) (Q1:Nat→LI→LI→LI→Int→Int→Int→Prop) (Q2:Nat→LI→LI→LI→Int→Int→Nat→LI→Int→Prop) (R_:Bool→Prop):Prop:=(bw_ (decide (i<(↑(lenC [Col.sls a0,Col.sls a1,Col.sls a2,Col.sls a3,Col.sls a4,Col.sls a5,Col.sls a6,Col.sls a7,Col.sls a8]):Int))) (aw_ (0≤i∧i<(↑(lenC [Col.sls a0,Col.sls a1,Col.sls a2,Col.sls a3,Col.sls a4,Col.sls a5,Col.sls a6,Col.sls a7,Col.sls a8]):Int)) (aw_ ((0:Int)≤5∧(5:Int)<9) (bw_ (decide ((↑(List.length (slR (List.getD a5 (Int.toNat i) 0))):Int)>4)) (R_ (false)) (Q1 (n1) (ks) (zs) (ss) (n) (5) (IntKind.wrap IntKind.i64 (i+1)))))) (∀r1:LI,r1=(r17_All a0 a1 a2 a3 a4 a5 a6 a7 a8 5)→(aw_ (((0:Int)≤5∧(5:Int)≤8)∧List.length a0≤1000∧lenB (pkGet 5 a0 a1 a2 a3 a4 a5 a6 a7 a8) (List.length a0)=true) (Q2 (n1) (ks) (zs) (ss) (IntKind.wrap IntKind.i64 (n+(↑(List.length r1):Int))) (5) (List.length r1) (r1) (0)))))
def r17_Fits_w1_6 (t p h:Int) (xs a0 a1 a2 a3 a4 a5 a6 a7 a8:LI) (n1:Nat) (ks zs ss:LI) (n i:Int) (Q0:Nat→LI→LI→LI→Int→Int→Prop) (Q1:Nat→LI→LI→LI→Int→Int→Int→Prop) (Q2:Nat→LI→LI→LI→Int→Int→Nat→LI→Int→Prop) (R_:Bool→Prop):Prop:=(bw_ (decide (i<(↑(lenC [Col.sls a0,Col.sls a1,Col.sls a2,Col.sls a3,Col.sls a4,Col.sls a5,Col.sls a6,Col.sls a7,Col.sls a8]):Int))) (aw_ (0≤i∧i<(↑(lenC [Col.sls a0,Col.sls a1,Col.sls a2,Col.sls a3,Col.sls a4,Col.sls a5,Col.sls a6,Col.sls a7,Col.sls a8]):Int)) (aw_ ((0:Int)≤6∧(6:Int)<9) (bw_ (decide ((↑(List.length (slR (List.getD a6 (Int.toNat i) 0))):Int)>4)) (R_ (false)) (Q1 (n1) (ks) (zs) (ss) (n) (6) (IntKind.wrap IntKind.i64 (i+1)))))) (∀r1:LI,r1=(r17_All a0 a1 a2 a3 a4 a5 a6 a7 a8 6)→(aw_ (((0:Int)≤6∧(6:Int)≤8)∧List.length a0≤1000∧lenB (pkGet 6 a0 a1 a2 a3 a4 a5 a6 a7 a8) (List.length a0)=true) (Q2 (n1) (ks) (zs) (ss) (IntKind.wrap IntKind.i64 (n+(↑(List.length r1):Int))) (6) (List.length r1) (r1) (0)))))
def r17_Fits_w1_7 (t p h:Int) (xs a0 a1 a2 a3 a4 a5 a6 a7 a8:LI) (n1:Nat) (ks zs ss:LI) (n i:Int) (Q0:Nat→LI→LI→LI→Int→Int→Prop) (Q1:Nat→LI→LI→LI→Int→Int→Int→Prop) (Q2:Nat→LI→LI→LI→Int→Int→Nat→LI→Int→Prop) (R_:Bool→Prop):Prop:=(bw_ (decide (i<(↑(lenC [Col.sls a0,Col.sls a1,Col.sls a2,Col.sls a3,Col.sls a4,Col.sls a5,Col.sls a6,Col.sls a7,Col.sls a8]):Int))) (aw_ (0≤i∧i<(↑(lenC [Col.sls a0,Col.sls a1,Col.sls a2,Col.sls a3,Col.sls a4,Col.sls a5,Col.sls a6,Col.sls a7,Col.sls a8]):Int)) (aw_ ((0:Int)≤7∧(7:Int)<9) (bw_ (decide ((↑(List.length (slR (List.getD a7 (Int.toNat i) 0))):Int)>4)) (R_ (false)) (Q1 (n1) (ks) (zs) (ss) (n) (7) (IntKind.wrap IntKind.i64 (i+1)))))) (∀r1:LI,r1=(r17_All a0 a1 a2 a3 a4 a5 a6 a7 a8 7)→(aw_ (((0:Int)≤7∧(7:Int)≤8)∧List.length a0≤1000∧lenB (pkGet 7 a0 a1 a2 a3 a4 a5 a6 a7 a8) (List.length a0)=true) (Q2 (n1) (ks) (zs) (ss) (IntKind.wrap IntKind.i64 (n+(↑(List.length r1):Int))) (7) (List.length r1) (r1) (0)))))
def r17_Fits_w1_8 (t p h:Int) (xs a0 a1 a2 a3 a4 a5 a6 a7 a8:LI) (n1:Nat) (ks zs ss:LI) (n i:Int) (Q0:Nat→LI→LI→LI→Int→Int→Prop) (Q1:Nat→LI→LI→LI→Int→Int→Int→Prop) (Q2:Nat→LI→LI→LI→Int→Int→Nat→LI→Int→Prop) (R_:Bool→Prop):Prop:=(bw_ (decide (i<(↑(lenC [Col.sls a0,Col.sls a1,Col.sls a2,Col.sls a3,Col.sls a4,Col.sls a5,Col.sls a6,Col.sls a7,Col.sls a8]):Int))) (aw_ (0≤i∧i<(↑(lenC [Col.sls a0,Col.sls a1,Col.sls a2,Col.sls a3,Col.sls a4,Col.sls a5,Col.sls a6,Col.sls a7,Col.sls a8]):Int)) (aw_ ((0:Int)≤8∧(8:Int)<9) (bw_ (decide ((↑(List.length (slR (List.getD a8 (Int.toNat i) 0))):Int)>4)) (R_ (false)) (Q1 (n1) (ks) (zs) (ss) (n) (8) (IntKind.wrap IntKind.i64 (i+1)))))) (∀r1:LI,r1=(r17_All a0 a1 a2 a3 a4 a5 a6 a7 a8 8)→(aw_ (((0:Int)≤8∧(8:Int)≤8)∧List.length a0≤1000∧lenB (pkGet 8 a0 a1 a2 a3 a4 a5 a6 a7 a8) (List.length a0)=true) (Q2 (n1) (ks) (zs) (ss) (IntKind.wrap IntKind.i64 (n+(↑(List.length r1):Int))) (8) (List.length r1) (r1) (0)))))
def r17_Fits_I1 (t p h:Int) (xs a0 a1 a2 a3 a4 a5 a6 a7 a8:LI) (n1:Nat) (ks zs ss:LI) (n k i:Int) (r_:Bool):Prop:=(n1=ks.length∧ks=(partsL ⟨t,p,h⟩ xs).map (·.k)∧zs=(partsL ⟨t,p,h⟩ xs).map (·.a)∧ss=(partsL ⟨t,p,h⟩ xs).map (·.s)∧(partsL ⟨t,p,h⟩ xs).length≤100000∧a0.length≤1000)∧0≤k∧k≤8∧0≤i∧i≤a0.length∧lenB ((fun k=>pkGet k a0 a1 a2 a3 a4 a5 a6 a7 a8) k) i.toNat=true∧r_=fitOut h (partsL ⟨t,p,h⟩ xs) (fun k=>pkGet k a0 a1 a2 a3 a4 a5 a6 a7 a8) a0.length (9-k).toNat n
def r17_Fits_w2 (t p h:Int) (xs a0 a1 a2 a3 a4 a5 a6 a7 a8:LI) (n1:Nat) (ks zs ss:LI) (n k:Int) (n2:Nat) (ys:LI) (i:Int) (Q0:Nat→LI→LI→LI→Int→Int→Prop) (Q1:Nat→LI→LI→LI→Int→Int→Int→Prop) (Q2:Nat→LI→LI→LI→Int→Int→Nat→LI→Int→Prop) (R_:Bool→Prop):Prop:=(bw_ (decide (i<(↑n1:Int))) (aw_ (0≤i∧i<(↑n1:Int)) (aw_ ((List.getD ks (Int.toNat i) (0:Int)==4)=true→0≤i∧i<(↑n1:Int)) (bw_ (List.getD ks (Int.toNat i) (0:Int)==4&&List.getD ss (Int.toNat i) 0==r05_Size h k) (aw_ (0≤i∧i<(↑n1:Int)) (∀r5:Int,r5=(r17_often ys (List.getD zs (Int.toNat i) 0))→(bw_ (r5 !=1) (R_ (false)) (Q2 (n1) (ks) (zs) (ss) (IntKind.wrap IntKind.i64 (n-1)) (k) (n2) (ys) (IntKind.wrap IntKind.i64 (i+1)))))) (Q2 (n1) (ks) (zs) (ss) (n) (k) (n2) (ys) (IntKind.wrap IntKind.i64 (i+1)))))) (Q0 (n1) (ks) (zs) (ss) (n) (IntKind.wrap IntKind.i64 (k+1))))
def r17_Fits_I2 (t p h:Int) (xs a0 a1 a2 a3 a4 a5 a6 a7 a8:LI) (n1:Nat) (ks zs ss:LI) (n k:Int) (n2:Nat) (ys:LI) (i:Int) (r_:Bool):Prop:=(n1=ks.length∧ks=(partsL ⟨t,p,h⟩ xs).map (·.k)∧zs=(partsL ⟨t,p,h⟩ xs).map (·.a)∧ss=(partsL ⟨t,p,h⟩ xs).map (·.s)∧(partsL ⟨t,p,h⟩ xs).length≤100000∧a0.length≤1000)∧0≤k∧k≤8∧n2=ys.length∧0≤i∧i≤n1∧r_=fitTl h (partsL ⟨t,p,h⟩ xs) (fun k=>pkGet k a0 a1 a2 a3 a4 a5 a6 a7 a8) a0.length k ys ((partsL ⟨t,p,h⟩ xs).drop i.toNat) n
abbrev r17_Fits_h0 (p0:Addr) (t p h:Int) (xs a0 a1 a2 a3 a4 a5 a6 a7 a8:LI):Hd Sg:=⟨none,[0,1,0,1,1,1,1],[.blk 0, .code [1,1,1,1,1]],[2,3,7,8,9],[.roc [.sls (a0), .sls (a1), .sls (a2), .sls (a3), .sls (a4), .sls (a5), .sls (a6), .sls (a7), .sls (a8)], .box 23 [.ic .i64 (t), .ic .i64 (p), .ic .i64 (h)], .own 115 [some .i64,some .i64,some .i64], .i .i64, .i .i64]⟩
abbrev r17_Fits_h1 (p0:Addr) (t p h:Int) (xs a0 a1 a2 a3 a4 a5 a6 a7 a8:LI):Hd Sg:=⟨none,[0,1,0,0,0,1,0,0,1,0,1,1,1,1],[.blk 2, .code [1,0,0,1,0,0,1,0,1,1,1,1], .blk 1, .code [1,1,0,0,1,0,1,1,1,1], .again [0,1,0,1,1,1,1], .blk 0, .code [1,1,1,1,1]],[2,3,7,8,9,10],[.roc [.sls (a0), .sls (a1), .sls (a2), .sls (a3), .sls (a4), .sls (a5), .sls (a6), .sls (a7), .sls (a8)], .box 23 [.ic .i64 (t), .ic .i64 (p), .ic .i64 (h)], .own 115 [some .i64,some .i64,some .i64], .i .i64, .i .i64, .i .i64]⟩
abbrev r17_Fits_h2 (p0:Addr) (t p h:Int) (xs a0 a1 a2 a3 a4 a5 a6 a7 a8:LI):Hd Sg:=⟨none,[0,1,1,1,1,0,0,1,0,0,1,0,1,1,1,1],[.blk 4, .blk 1, .code [1,1,0,0,1,0,1,1,1,1], .again [0,1,0,1,1,1,1], .blk 0, .code [1,1,1,1,1]],[2,3,7,8,9,11,12],[.roc [.sls (a0), .sls (a1), .sls (a2), .sls (a3), .sls (a4), .sls (a5), .sls (a6), .sls (a7), .sls (a8)], .box 23 [.ic .i64 (t), .ic .i64 (p), .ic .i64 (h)], .own 115 [some .i64,some .i64,some .i64], .i .i64, .i .i64, .own 2 [some .i64], .i .i64]⟩
theorem r17_Fits_begin (t p h:Int) (xs a0 a1 a2 a3 a4 a5 a6 a7 a8:LI) (hp0:bdAll xs) (hp1:a0.length≤1000) (hl0:xs.length≤9223372036854775807) (hl1:a0.length≤9223372036854775807):r17_Fits_w t p h xs a0 a1 a2 a3 a4 a5 a6 a7 a8 (fun n1' ks' zs' ss' n' k'=>r17_Fits_I0 t p h xs a0 a1 a2 a3 a4 a5 a6 a7 a8 n1' ks' zs' ss' n' k' (r17_Fits t p h xs a0 a1 a2 a3 a4 a5 a6 a7 a8)) (fun n1' ks' zs' ss' n' k' i'=>r17_Fits_I1 t p h xs a0 a1 a2 a3 a4 a5 a6 a7 a8 n1' ks' zs' ss' n' k' i' (r17_Fits t p h xs a0 a1 a2 a3 a4 a5 a6 a7 a8)) (fun n1' ks' zs' ss' n' k' n2' ys' i'=>r17_Fits_I2 t p h xs a0 a1 a2 a3 a4 a5 a6 a7 a8 n1' ks' zs' ss' n' k' n2' ys' i' (r17_Fits t p h xs a0 a1 a2 a3 a4 a5 a6 a7 a8)) (fun r__=>r__=(r17_Fits t p h xs a0 a1 a2 a3 a4 a5 a6 a7 a8)):=by
 unfold r17_Fits_w
 try unfold r17_Fits_I0
 try unfold r17_Fits_I1
 try unfold r17_Fits_I2
 rintro r1 rfl
 refine ⟨hp0,fun _=>⟨fun hc=>?_,fun hc=>?_⟩⟩
 ·show false=r17_Fits t p h xs a0 a1 a2 a3 a4 a5 a6 a7 a8
  have hc:(!soundA ⟨t,p,h⟩ xs||(a0.length:Int) !=t)=true:=hc
  unfold r17_Fits
  rw [hc];rfl
 ·have hc:(!soundA ⟨t,p,h⟩ xs||(a0.length:Int) !=t)=false:=hc
  have hs:soundA ⟨t,p,h⟩ xs=true:=by
   simp only [Bool.or_eq_false_iff,Bool.not_eq_false'] at hc;exact hc.1
  have hok:=(sound_good hs hp0).ok
  have hl:=partsL_len ⟨t,p,h⟩ xs
  have hp4:=(Cf.ok_iff.1 hok).2.1.2
  have e:r12_Parts t p h xs=((partsL ⟨t,p,h⟩ xs).map (·.k),(partsL ⟨t,p,h⟩ xs).map (·.a),(partsL ⟨t,p,h⟩ xs).map (·.s)):=by
   unfold r12_Parts;rw [hs];rfl
  rw [e]
  rintro r4 rfl
  refine ⟨hp0,fun _=>⟨⟨rfl,rfl,rfl,rfl,?_,hp1⟩,by omega,by omega,?_⟩⟩
  ·dsimp only at hl hp4;omega
  ·show r17_Fits t p h xs a0 a1 a2 a3 a4 a5 a6 a7 a8=_
   unfold r17_Fits
   rw [hc];rfl
theorem r17_Fits_step0 (t p h:Int) (xs a0 a1 a2 a3 a4 a5 a6 a7 a8:LI) (hp0:bdAll xs) (hp1:a0.length≤1000) (hl0:xs.length≤9223372036854775807) (hl1:a0.length≤9223372036854775807) (n1:Nat) (ks zs ss:LI) (n k:Int) {r_:Bool} (hI:r17_Fits_I0 t p h xs a0 a1 a2 a3 a4 a5 a6 a7 a8 n1 ks zs ss n k r_):r17_Fits_w0 t p h xs a0 a1 a2 a3 a4 a5 a6 a7 a8 n1 ks zs ss n k (fun n1' ks' zs' ss' n' k'=>r17_Fits_I0 t p h xs a0 a1 a2 a3 a4 a5 a6 a7 a8 n1' ks' zs' ss' n' k' r_∧lx ((9-k').toNat,3,0) ((9-k).toNat,3,0)) (fun n1' ks' zs' ss' n' k' i'=>r17_Fits_I1 t p h xs a0 a1 a2 a3 a4 a5 a6 a7 a8 n1' ks' zs' ss' n' k' i' r_∧lx ((9-k').toNat,2,(a0.length-i').toNat) ((9-k).toNat,3,0)) (fun n1' ks' zs' ss' n' k' n2' ys' i'=>r17_Fits_I2 t p h xs a0 a1 a2 a3 a4 a5 a6 a7 a8 n1' ks' zs' ss' n' k' n2' ys' i' r_∧lx ((9-k').toNat,1,(n1'-i').toNat) ((9-k).toNat,3,0)) (fun r__=>r__=r_):=by
 unfold r17_Fits_I0 at hI
 unfold r17_Fits_w0
 try unfold r17_Fits_I0
 try unfold r17_Fits_I1
 try unfold r17_Fits_I2
 obtain ⟨hb,h0,h1,hr⟩:=hI
 refine ⟨fun hc=>?_,fun hc=>?_⟩
 ·have hc:=of_decide_eq_true hc
  exact ⟨⟨hb,h0,by omega,by omega,by omega,rfl,hr⟩,lxo_⟩
 ·have hc:=of_decide_eq_false hc
  show (n==0)=r_
  rw [hr,show (9-k).toNat=0 by omega];rfl
theorem r17_Fits_cs1 (t p h:Int) (xs a0 a1 a2 a3 a4 a5 a6 a7 a8:LI) (hp0:bdAll xs) (hp1:a0.length≤1000) (hl0:xs.length≤9223372036854775807) (hl1:a0.length≤9223372036854775807) (n1:Nat) (ks zs ss:LI) (n k i:Int) {r_:Bool} (hI:r17_Fits_I1 t p h xs a0 a1 a2 a3 a4 a5 a6 a7 a8 n1 ks zs ss n k i r_):k=0∨k=1∨k=2∨k=3∨k=4∨k=5∨k=6∨k=7∨k=8:=by
 unfold r17_Fits_I1 at hI
 obtain ⟨_,h1,h2,_⟩:=hI
 omega
theorem r17_Fits_step1_0 (t p h:Int) (xs a0 a1 a2 a3 a4 a5 a6 a7 a8:LI) (hp0:bdAll xs) (hp1:a0.length≤1000) (hl0:xs.length≤9223372036854775807) (hl1:a0.length≤9223372036854775807) (n1:Nat) (ks zs ss:LI) (n i:Int) {r_:Bool} (hI:r17_Fits_I1 t p h xs a0 a1 a2 a3 a4 a5 a6 a7 a8 n1 ks zs ss n (0:Int) i r_):r17_Fits_w1_0 t p h xs a0 a1 a2 a3 a4 a5 a6 a7 a8 n1 ks zs ss n i (fun n1' ks' zs' ss' n' k'=>r17_Fits_I0 t p h xs a0 a1 a2 a3 a4 a5 a6 a7 a8 n1' ks' zs' ss' n' k' r_∧lx ((9-k').toNat,3,0) ((9-(0:Int)).toNat,2,(a0.length-i).toNat)) (fun n1' ks' zs' ss' n' k' i'=>r17_Fits_I1 t p h xs a0 a1 a2 a3 a4 a5 a6 a7 a8 n1' ks' zs' ss' n' k' i' r_∧lx ((9-k').toNat,2,(a0.length-i').toNat) ((9-(0:Int)).toNat,2,(a0.length-i).toNat)) (fun n1' ks' zs' ss' n' k' n2' ys' i'=>r17_Fits_I2 t p h xs a0 a1 a2 a3 a4 a5 a6 a7 a8 n1' ks' zs' ss' n' k' n2' ys' i' r_∧lx ((9-k').toNat,1,(n1'-i').toNat) ((9-(0:Int)).toNat,2,(a0.length-i).toNat)) (fun r__=>r__=r_):=by
 unfold r17_Fits_I1 at hI
 unfold r17_Fits_w1_0
 try unfold r17_Fits_I0
 try unfold r17_Fits_I1
 try unfold r17_Fits_I2
 obtain ⟨hb,_,_,h0,h1,hl,hr⟩:=hI
 refine ⟨fun hc=>?_,fun hc=>?_⟩
 ·have hc:i<(a0.length:Int):=of_decide_eq_true hc
  have hlt:i.toNat<a0.length:=by omega
  have hb6:=hb.2.2.2.2.2
  rw [w64 (n:=i+1) (by omega)]
  refine ⟨⟨h0,hc⟩,fun _=>⟨by decide,fun _=>⟨fun hg=>?_,fun hg=>?_⟩⟩⟩
  ·have hg:((slR (a0.getD i.toNat 0)).length:Int)>4:=of_decide_eq_true hg
   show false=r_
   rw [hr,fitOut_step (by decide)]
   cases hq:lenB ((fun k=>pkGet k a0 a1 a2 a3 a4 a5 a6 a7 a8) 0) a0.length with
   |false=>rfl
   |true=>
    have:(slR (a0.getD i.toNat 0)).length≤4:=lenB_all hq _ hlt
    omega
  ·have hg:¬((slR (a0.getD i.toNat 0)).length:Int)>4:=of_decide_eq_false hg
   refine ⟨⟨hb,by decide,by decide,by omega,by omega,?_,hr⟩,lxo_⟩
   rw [show (i+1).toNat=i.toNat+1 by omega]
   show (lenB ((fun k=>pkGet k a0 a1 a2 a3 a4 a5 a6 a7 a8) 0) i.toNat&&decide ((slR (a0.getD i.toNat 0)).length≤4))=true
   rw [hl,Bool.true_and,decide_eq_true_eq];omega
 ·have hc:¬i<(a0.length:Int):=of_decide_eq_false hc
  rw [show i.toNat=a0.length by omega] at hl
  rintro r1 rfl
  refine ⟨⟨⟨by decide,by decide⟩,hb.2.2.2.2.2,hl⟩,fun _=>⟨⟨hb,by decide,by decide,rfl,by omega,by omega,?_⟩,lxo_⟩⟩
  rw [hr,fitOut_step (by decide),hl];rfl
theorem r17_Fits_step1_1 (t p h:Int) (xs a0 a1 a2 a3 a4 a5 a6 a7 a8:LI) (hp0:bdAll xs) (hp1:a0.length≤1000) (hl0:xs.length≤9223372036854775807) (hl1:a0.length≤9223372036854775807) (n1:Nat) (ks zs ss:LI) (n i:Int) {r_:Bool} (hI:r17_Fits_I1 t p h xs a0 a1 a2 a3 a4 a5 a6 a7 a8 n1 ks zs ss n (1:Int) i r_):r17_Fits_w1_1 t p h xs a0 a1 a2 a3 a4 a5 a6 a7 a8 n1 ks zs ss n i (fun n1' ks' zs' ss' n' k'=>r17_Fits_I0 t p h xs a0 a1 a2 a3 a4 a5 a6 a7 a8 n1' ks' zs' ss' n' k' r_∧lx ((9-k').toNat,3,0) ((9-(1:Int)).toNat,2,(a0.length-i).toNat)) (fun n1' ks' zs' ss' n' k' i'=>r17_Fits_I1 t p h xs a0 a1 a2 a3 a4 a5 a6 a7 a8 n1' ks' zs' ss' n' k' i' r_∧lx ((9-k').toNat,2,(a0.length-i').toNat) ((9-(1:Int)).toNat,2,(a0.length-i).toNat)) (fun n1' ks' zs' ss' n' k' n2' ys' i'=>r17_Fits_I2 t p h xs a0 a1 a2 a3 a4 a5 a6 a7 a8 n1' ks' zs' ss' n' k' n2' ys' i' r_∧lx ((9-k').toNat,1,(n1'-i').toNat) ((9-(1:Int)).toNat,2,(a0.length-i).toNat)) (fun r__=>r__=r_):=by
 unfold r17_Fits_I1 at hI
 unfold r17_Fits_w1_1
 try unfold r17_Fits_I0
 try unfold r17_Fits_I1
 try unfold r17_Fits_I2
 obtain ⟨hb,_,_,h0,h1,hl,hr⟩:=hI
 refine ⟨fun hc=>?_,fun hc=>?_⟩
 ·have hc:i<(a0.length:Int):=of_decide_eq_true hc
  have hlt:i.toNat<a0.length:=by omega
  have hb6:=hb.2.2.2.2.2
  rw [w64 (n:=i+1) (by omega)]
  refine ⟨⟨h0,hc⟩,fun _=>⟨by decide,fun _=>⟨fun hg=>?_,fun hg=>?_⟩⟩⟩
  ·have hg:((slR (a1.getD i.toNat 0)).length:Int)>4:=of_decide_eq_true hg
   show false=r_
   rw [hr,fitOut_step (by decide)]
   cases hq:lenB ((fun k=>pkGet k a0 a1 a2 a3 a4 a5 a6 a7 a8) 1) a0.length with
   |false=>rfl
   |true=>
    have:(slR (a1.getD i.toNat 0)).length≤4:=lenB_all hq _ hlt
    omega
  ·have hg:¬((slR (a1.getD i.toNat 0)).length:Int)>4:=of_decide_eq_false hg
   refine ⟨⟨hb,by decide,by decide,by omega,by omega,?_,hr⟩,lxo_⟩
   rw [show (i+1).toNat=i.toNat+1 by omega]
   show (lenB ((fun k=>pkGet k a0 a1 a2 a3 a4 a5 a6 a7 a8) 1) i.toNat&&decide ((slR (a1.getD i.toNat 0)).length≤4))=true
   rw [hl,Bool.true_and,decide_eq_true_eq];omega
 ·have hc:¬i<(a0.length:Int):=of_decide_eq_false hc
  rw [show i.toNat=a0.length by omega] at hl
  rintro r1 rfl
  refine ⟨⟨⟨by decide,by decide⟩,hb.2.2.2.2.2,hl⟩,fun _=>⟨⟨hb,by decide,by decide,rfl,by omega,by omega,?_⟩,lxo_⟩⟩
  rw [hr,fitOut_step (by decide),hl];rfl
theorem r17_Fits_step1_2 (t p h:Int) (xs a0 a1 a2 a3 a4 a5 a6 a7 a8:LI) (hp0:bdAll xs) (hp1:a0.length≤1000) (hl0:xs.length≤9223372036854775807) (hl1:a0.length≤9223372036854775807) (n1:Nat) (ks zs ss:LI) (n i:Int) {r_:Bool} (hI:r17_Fits_I1 t p h xs a0 a1 a2 a3 a4 a5 a6 a7 a8 n1 ks zs ss n (2:Int) i r_):r17_Fits_w1_2 t p h xs a0 a1 a2 a3 a4 a5 a6 a7 a8 n1 ks zs ss n i (fun n1' ks' zs' ss' n' k'=>r17_Fits_I0 t p h xs a0 a1 a2 a3 a4 a5 a6 a7 a8 n1' ks' zs' ss' n' k' r_∧lx ((9-k').toNat,3,0) ((9-(2:Int)).toNat,2,(a0.length-i).toNat)) (fun n1' ks' zs' ss' n' k' i'=>r17_Fits_I1 t p h xs a0 a1 a2 a3 a4 a5 a6 a7 a8 n1' ks' zs' ss' n' k' i' r_∧lx ((9-k').toNat,2,(a0.length-i').toNat) ((9-(2:Int)).toNat,2,(a0.length-i).toNat)) (fun n1' ks' zs' ss' n' k' n2' ys' i'=>r17_Fits_I2 t p h xs a0 a1 a2 a3 a4 a5 a6 a7 a8 n1' ks' zs' ss' n' k' n2' ys' i' r_∧lx ((9-k').toNat,1,(n1'-i').toNat) ((9-(2:Int)).toNat,2,(a0.length-i).toNat)) (fun r__=>r__=r_):=by
 unfold r17_Fits_I1 at hI
 unfold r17_Fits_w1_2
 try unfold r17_Fits_I0
 try unfold r17_Fits_I1
 try unfold r17_Fits_I2
 obtain ⟨hb,_,_,h0,h1,hl,hr⟩:=hI
 refine ⟨fun hc=>?_,fun hc=>?_⟩
 ·have hc:i<(a0.length:Int):=of_decide_eq_true hc
  have hlt:i.toNat<a0.length:=by omega
  have hb6:=hb.2.2.2.2.2
  rw [w64 (n:=i+1) (by omega)]
  refine ⟨⟨h0,hc⟩,fun _=>⟨by decide,fun _=>⟨fun hg=>?_,fun hg=>?_⟩⟩⟩
  ·have hg:((slR (a2.getD i.toNat 0)).length:Int)>4:=of_decide_eq_true hg
   show false=r_
   rw [hr,fitOut_step (by decide)]
   cases hq:lenB ((fun k=>pkGet k a0 a1 a2 a3 a4 a5 a6 a7 a8) 2) a0.length with
   |false=>rfl
   |true=>
    have:(slR (a2.getD i.toNat 0)).length≤4:=lenB_all hq _ hlt
    omega
  ·have hg:¬((slR (a2.getD i.toNat 0)).length:Int)>4:=of_decide_eq_false hg
   refine ⟨⟨hb,by decide,by decide,by omega,by omega,?_,hr⟩,lxo_⟩
   rw [show (i+1).toNat=i.toNat+1 by omega]
   show (lenB ((fun k=>pkGet k a0 a1 a2 a3 a4 a5 a6 a7 a8) 2) i.toNat&&decide ((slR (a2.getD i.toNat 0)).length≤4))=true
   rw [hl,Bool.true_and,decide_eq_true_eq];omega
 ·have hc:¬i<(a0.length:Int):=of_decide_eq_false hc
  rw [show i.toNat=a0.length by omega] at hl
  rintro r1 rfl
  refine ⟨⟨⟨by decide,by decide⟩,hb.2.2.2.2.2,hl⟩,fun _=>⟨⟨hb,by decide,by decide,rfl,by omega,by omega,?_⟩,lxo_⟩⟩
  rw [hr,fitOut_step (by decide),hl];rfl
theorem r17_Fits_step1_3 (t p h:Int) (xs a0 a1 a2 a3 a4 a5 a6 a7 a8:LI) (hp0:bdAll xs) (hp1:a0.length≤1000) (hl0:xs.length≤9223372036854775807) (hl1:a0.length≤9223372036854775807) (n1:Nat) (ks zs ss:LI) (n i:Int) {r_:Bool} (hI:r17_Fits_I1 t p h xs a0 a1 a2 a3 a4 a5 a6 a7 a8 n1 ks zs ss n (3:Int) i r_):r17_Fits_w1_3 t p h xs a0 a1 a2 a3 a4 a5 a6 a7 a8 n1 ks zs ss n i (fun n1' ks' zs' ss' n' k'=>r17_Fits_I0 t p h xs a0 a1 a2 a3 a4 a5 a6 a7 a8 n1' ks' zs' ss' n' k' r_∧lx ((9-k').toNat,3,0) ((9-(3:Int)).toNat,2,(a0.length-i).toNat)) (fun n1' ks' zs' ss' n' k' i'=>r17_Fits_I1 t p h xs a0 a1 a2 a3 a4 a5 a6 a7 a8 n1' ks' zs' ss' n' k' i' r_∧lx ((9-k').toNat,2,(a0.length-i').toNat) ((9-(3:Int)).toNat,2,(a0.length-i).toNat)) (fun n1' ks' zs' ss' n' k' n2' ys' i'=>r17_Fits_I2 t p h xs a0 a1 a2 a3 a4 a5 a6 a7 a8 n1' ks' zs' ss' n' k' n2' ys' i' r_∧lx ((9-k').toNat,1,(n1'-i').toNat) ((9-(3:Int)).toNat,2,(a0.length-i).toNat)) (fun r__=>r__=r_):=by
 unfold r17_Fits_I1 at hI
 unfold r17_Fits_w1_3
 try unfold r17_Fits_I0
 try unfold r17_Fits_I1
 try unfold r17_Fits_I2
 obtain ⟨hb,_,_,h0,h1,hl,hr⟩:=hI
 refine ⟨fun hc=>?_,fun hc=>?_⟩
 ·have hc:i<(a0.length:Int):=of_decide_eq_true hc
  have hlt:i.toNat<a0.length:=by omega
  have hb6:=hb.2.2.2.2.2
  rw [w64 (n:=i+1) (by omega)]
  refine ⟨⟨h0,hc⟩,fun _=>⟨by decide,fun _=>⟨fun hg=>?_,fun hg=>?_⟩⟩⟩
  ·have hg:((slR (a3.getD i.toNat 0)).length:Int)>4:=of_decide_eq_true hg
   show false=r_
   rw [hr,fitOut_step (by decide)]
   cases hq:lenB ((fun k=>pkGet k a0 a1 a2 a3 a4 a5 a6 a7 a8) 3) a0.length with
   |false=>rfl
   |true=>
    have:(slR (a3.getD i.toNat 0)).length≤4:=lenB_all hq _ hlt
    omega
  ·have hg:¬((slR (a3.getD i.toNat 0)).length:Int)>4:=of_decide_eq_false hg
   refine ⟨⟨hb,by decide,by decide,by omega,by omega,?_,hr⟩,lxo_⟩
   rw [show (i+1).toNat=i.toNat+1 by omega]
   show (lenB ((fun k=>pkGet k a0 a1 a2 a3 a4 a5 a6 a7 a8) 3) i.toNat&&decide ((slR (a3.getD i.toNat 0)).length≤4))=true
   rw [hl,Bool.true_and,decide_eq_true_eq];omega
 ·have hc:¬i<(a0.length:Int):=of_decide_eq_false hc
  rw [show i.toNat=a0.length by omega] at hl
  rintro r1 rfl
  refine ⟨⟨⟨by decide,by decide⟩,hb.2.2.2.2.2,hl⟩,fun _=>⟨⟨hb,by decide,by decide,rfl,by omega,by omega,?_⟩,lxo_⟩⟩
  rw [hr,fitOut_step (by decide),hl];rfl
theorem r17_Fits_step1_4 (t p h:Int) (xs a0 a1 a2 a3 a4 a5 a6 a7 a8:LI) (hp0:bdAll xs) (hp1:a0.length≤1000) (hl0:xs.length≤9223372036854775807) (hl1:a0.length≤9223372036854775807) (n1:Nat) (ks zs ss:LI) (n i:Int) {r_:Bool} (hI:r17_Fits_I1 t p h xs a0 a1 a2 a3 a4 a5 a6 a7 a8 n1 ks zs ss n (4:Int) i r_):r17_Fits_w1_4 t p h xs a0 a1 a2 a3 a4 a5 a6 a7 a8 n1 ks zs ss n i (fun n1' ks' zs' ss' n' k'=>r17_Fits_I0 t p h xs a0 a1 a2 a3 a4 a5 a6 a7 a8 n1' ks' zs' ss' n' k' r_∧lx ((9-k').toNat,3,0) ((9-(4:Int)).toNat,2,(a0.length-i).toNat)) (fun n1' ks' zs' ss' n' k' i'=>r17_Fits_I1 t p h xs a0 a1 a2 a3 a4 a5 a6 a7 a8 n1' ks' zs' ss' n' k' i' r_∧lx ((9-k').toNat,2,(a0.length-i').toNat) ((9-(4:Int)).toNat,2,(a0.length-i).toNat)) (fun n1' ks' zs' ss' n' k' n2' ys' i'=>r17_Fits_I2 t p h xs a0 a1 a2 a3 a4 a5 a6 a7 a8 n1' ks' zs' ss' n' k' n2' ys' i' r_∧lx ((9-k').toNat,1,(n1'-i').toNat) ((9-(4:Int)).toNat,2,(a0.length-i).toNat)) (fun r__=>r__=r_):=by
 unfold r17_Fits_I1 at hI
 unfold r17_Fits_w1_4
 try unfold r17_Fits_I0
 try unfold r17_Fits_I1
 try unfold r17_Fits_I2
 obtain ⟨hb,_,_,h0,h1,hl,hr⟩:=hI
 refine ⟨fun hc=>?_,fun hc=>?_⟩
 ·have hc:i<(a0.length:Int):=of_decide_eq_true hc
  have hlt:i.toNat<a0.length:=by omega
  have hb6:=hb.2.2.2.2.2
  rw [w64 (n:=i+1) (by omega)]
  refine ⟨⟨h0,hc⟩,fun _=>⟨by decide,fun _=>⟨fun hg=>?_,fun hg=>?_⟩⟩⟩
  ·have hg:((slR (a4.getD i.toNat 0)).length:Int)>4:=of_decide_eq_true hg
   show false=r_
   rw [hr,fitOut_step (by decide)]
   cases hq:lenB ((fun k=>pkGet k a0 a1 a2 a3 a4 a5 a6 a7 a8) 4) a0.length with
   |false=>rfl
   |true=>
    have:(slR (a4.getD i.toNat 0)).length≤4:=lenB_all hq _ hlt
    omega
  ·have hg:¬((slR (a4.getD i.toNat 0)).length:Int)>4:=of_decide_eq_false hg
   refine ⟨⟨hb,by decide,by decide,by omega,by omega,?_,hr⟩,lxo_⟩
   rw [show (i+1).toNat=i.toNat+1 by omega]
   show (lenB ((fun k=>pkGet k a0 a1 a2 a3 a4 a5 a6 a7 a8) 4) i.toNat&&decide ((slR (a4.getD i.toNat 0)).length≤4))=true
   rw [hl,Bool.true_and,decide_eq_true_eq];omega
 ·have hc:¬i<(a0.length:Int):=of_decide_eq_false hc
  rw [show i.toNat=a0.length by omega] at hl
  rintro r1 rfl
  refine ⟨⟨⟨by decide,by decide⟩,hb.2.2.2.2.2,hl⟩,fun _=>⟨⟨hb,by decide,by decide,rfl,by omega,by omega,?_⟩,lxo_⟩⟩
  rw [hr,fitOut_step (by decide),hl];rfl
theorem r17_Fits_step1_5 (t p h:Int) (xs a0 a1 a2 a3 a4 a5 a6 a7 a8:LI) (hp0:bdAll xs) (hp1:a0.length≤1000) (hl0:xs.length≤9223372036854775807) (hl1:a0.length≤9223372036854775807) (n1:Nat) (ks zs ss:LI) (n i:Int) {r_:Bool} (hI:r17_Fits_I1 t p h xs a0 a1 a2 a3 a4 a5 a6 a7 a8 n1 ks zs ss n (5:Int) i r_):r17_Fits_w1_5 t p h xs a0 a1 a2 a3 a4 a5 a6 a7 a8 n1 ks zs ss n i (fun n1' ks' zs' ss' n' k'=>r17_Fits_I0 t p h xs a0 a1 a2 a3 a4 a5 a6 a7 a8 n1' ks' zs' ss' n' k' r_∧lx ((9-k').toNat,3,0) ((9-(5:Int)).toNat,2,(a0.length-i).toNat)) (fun n1' ks' zs' ss' n' k' i'=>r17_Fits_I1 t p h xs a0 a1 a2 a3 a4 a5 a6 a7 a8 n1' ks' zs' ss' n' k' i' r_∧lx ((9-k').toNat,2,(a0.length-i').toNat) ((9-(5:Int)).toNat,2,(a0.length-i).toNat)) (fun n1' ks' zs' ss' n' k' n2' ys' i'=>r17_Fits_I2 t p h xs a0 a1 a2 a3 a4 a5 a6 a7 a8 n1' ks' zs' ss' n' k' n2' ys' i' r_∧lx ((9-k').toNat,1,(n1'-i').toNat) ((9-(5:Int)).toNat,2,(a0.length-i).toNat)) (fun r__=>r__=r_):=by
 unfold r17_Fits_I1 at hI
 unfold r17_Fits_w1_5
 try unfold r17_Fits_I0
 try unfold r17_Fits_I1
 try unfold r17_Fits_I2
 obtain ⟨hb,_,_,h0,h1,hl,hr⟩:=hI
 refine ⟨fun hc=>?_,fun hc=>?_⟩
 ·have hc:i<(a0.length:Int):=of_decide_eq_true hc
  have hlt:i.toNat<a0.length:=by omega
  have hb6:=hb.2.2.2.2.2
  rw [w64 (n:=i+1) (by omega)]
  refine ⟨⟨h0,hc⟩,fun _=>⟨by decide,fun _=>⟨fun hg=>?_,fun hg=>?_⟩⟩⟩
  ·have hg:((slR (a5.getD i.toNat 0)).length:Int)>4:=of_decide_eq_true hg
   show false=r_
   rw [hr,fitOut_step (by decide)]
   cases hq:lenB ((fun k=>pkGet k a0 a1 a2 a3 a4 a5 a6 a7 a8) 5) a0.length with
   |false=>rfl
   |true=>
    have:(slR (a5.getD i.toNat 0)).length≤4:=lenB_all hq _ hlt
    omega
  ·have hg:¬((slR (a5.getD i.toNat 0)).length:Int)>4:=of_decide_eq_false hg
   refine ⟨⟨hb,by decide,by decide,by omega,by omega,?_,hr⟩,lxo_⟩
   rw [show (i+1).toNat=i.toNat+1 by omega]
   show (lenB ((fun k=>pkGet k a0 a1 a2 a3 a4 a5 a6 a7 a8) 5) i.toNat&&decide ((slR (a5.getD i.toNat 0)).length≤4))=true
   rw [hl,Bool.true_and,decide_eq_true_eq];omega
 ·have hc:¬i<(a0.length:Int):=of_decide_eq_false hc
  rw [show i.toNat=a0.length by omega] at hl
  rintro r1 rfl
  refine ⟨⟨⟨by decide,by decide⟩,hb.2.2.2.2.2,hl⟩,fun _=>⟨⟨hb,by decide,by decide,rfl,by omega,by omega,?_⟩,lxo_⟩⟩
  rw [hr,fitOut_step (by decide),hl];rfl
theorem r17_Fits_step1_6 (t p h:Int) (xs a0 a1 a2 a3 a4 a5 a6 a7 a8:LI) (hp0:bdAll xs) (hp1:a0.length≤1000) (hl0:xs.length≤9223372036854775807) (hl1:a0.length≤9223372036854775807) (n1:Nat) (ks zs ss:LI) (n i:Int) {r_:Bool} (hI:r17_Fits_I1 t p h xs a0 a1 a2 a3 a4 a5 a6 a7 a8 n1 ks zs ss n (6:Int) i r_):r17_Fits_w1_6 t p h xs a0 a1 a2 a3 a4 a5 a6 a7 a8 n1 ks zs ss n i (fun n1' ks' zs' ss' n' k'=>r17_Fits_I0 t p h xs a0 a1 a2 a3 a4 a5 a6 a7 a8 n1' ks' zs' ss' n' k' r_∧lx ((9-k').toNat,3,0) ((9-(6:Int)).toNat,2,(a0.length-i).toNat)) (fun n1' ks' zs' ss' n' k' i'=>r17_Fits_I1 t p h xs a0 a1 a2 a3 a4 a5 a6 a7 a8 n1' ks' zs' ss' n' k' i' r_∧lx ((9-k').toNat,2,(a0.length-i').toNat) ((9-(6:Int)).toNat,2,(a0.length-i).toNat)) (fun n1' ks' zs' ss' n' k' n2' ys' i'=>r17_Fits_I2 t p h xs a0 a1 a2 a3 a4 a5 a6 a7 a8 n1' ks' zs' ss' n' k' n2' ys' i' r_∧lx ((9-k').toNat,1,(n1'-i').toNat) ((9-(6:Int)).toNat,2,(a0.length-i).toNat)) (fun r__=>r__=r_):=by
 unfold r17_Fits_I1 at hI
 unfold r17_Fits_w1_6
 try unfold r17_Fits_I0
 try unfold r17_Fits_I1
 try unfold r17_Fits_I2
 obtain ⟨hb,_,_,h0,h1,hl,hr⟩:=hI
 refine ⟨fun hc=>?_,fun hc=>?_⟩
 ·have hc:i<(a0.length:Int):=of_decide_eq_true hc
  have hlt:i.toNat<a0.length:=by omega
  have hb6:=hb.2.2.2.2.2
  rw [w64 (n:=i+1) (by omega)]
  refine ⟨⟨h0,hc⟩,fun _=>⟨by decide,fun _=>⟨fun hg=>?_,fun hg=>?_⟩⟩⟩
  ·have hg:((slR (a6.getD i.toNat 0)).length:Int)>4:=of_decide_eq_true hg
   show false=r_
   rw [hr,fitOut_step (by decide)]
   cases hq:lenB ((fun k=>pkGet k a0 a1 a2 a3 a4 a5 a6 a7 a8) 6) a0.length with
   |false=>rfl
   |true=>
    have:(slR (a6.getD i.toNat 0)).length≤4:=lenB_all hq _ hlt
    omega
  ·have hg:¬((slR (a6.getD i.toNat 0)).length:Int)>4:=of_decide_eq_false hg
   refine ⟨⟨hb,by decide,by decide,by omega,by omega,?_,hr⟩,lxo_⟩
   rw [show (i+1).toNat=i.toNat+1 by omega]
   show (lenB ((fun k=>pkGet k a0 a1 a2 a3 a4 a5 a6 a7 a8) 6) i.toNat&&decide ((slR (a6.getD i.toNat 0)).length≤4))=true
   rw [hl,Bool.true_and,decide_eq_true_eq];omega
 ·have hc:¬i<(a0.length:Int):=of_decide_eq_false hc
  rw [show i.toNat=a0.length by omega] at hl
  rintro r1 rfl
  refine ⟨⟨⟨by decide,by decide⟩,hb.2.2.2.2.2,hl⟩,fun _=>⟨⟨hb,by decide,by decide,rfl,by omega,by omega,?_⟩,lxo_⟩⟩
  rw [hr,fitOut_step (by decide),hl];rfl
theorem r17_Fits_step1_7 (t p h:Int) (xs a0 a1 a2 a3 a4 a5 a6 a7 a8:LI) (hp0:bdAll xs) (hp1:a0.length≤1000) (hl0:xs.length≤9223372036854775807) (hl1:a0.length≤9223372036854775807) (n1:Nat) (ks zs ss:LI) (n i:Int) {r_:Bool} (hI:r17_Fits_I1 t p h xs a0 a1 a2 a3 a4 a5 a6 a7 a8 n1 ks zs ss n (7:Int) i r_):r17_Fits_w1_7 t p h xs a0 a1 a2 a3 a4 a5 a6 a7 a8 n1 ks zs ss n i (fun n1' ks' zs' ss' n' k'=>r17_Fits_I0 t p h xs a0 a1 a2 a3 a4 a5 a6 a7 a8 n1' ks' zs' ss' n' k' r_∧lx ((9-k').toNat,3,0) ((9-(7:Int)).toNat,2,(a0.length-i).toNat)) (fun n1' ks' zs' ss' n' k' i'=>r17_Fits_I1 t p h xs a0 a1 a2 a3 a4 a5 a6 a7 a8 n1' ks' zs' ss' n' k' i' r_∧lx ((9-k').toNat,2,(a0.length-i').toNat) ((9-(7:Int)).toNat,2,(a0.length-i).toNat)) (fun n1' ks' zs' ss' n' k' n2' ys' i'=>r17_Fits_I2 t p h xs a0 a1 a2 a3 a4 a5 a6 a7 a8 n1' ks' zs' ss' n' k' n2' ys' i' r_∧lx ((9-k').toNat,1,(n1'-i').toNat) ((9-(7:Int)).toNat,2,(a0.length-i).toNat)) (fun r__=>r__=r_):=by
 unfold r17_Fits_I1 at hI
 unfold r17_Fits_w1_7
 try unfold r17_Fits_I0
 try unfold r17_Fits_I1
 try unfold r17_Fits_I2
 obtain ⟨hb,_,_,h0,h1,hl,hr⟩:=hI
 refine ⟨fun hc=>?_,fun hc=>?_⟩
 ·have hc:i<(a0.length:Int):=of_decide_eq_true hc
  have hlt:i.toNat<a0.length:=by omega
  have hb6:=hb.2.2.2.2.2
  rw [w64 (n:=i+1) (by omega)]
  refine ⟨⟨h0,hc⟩,fun _=>⟨by decide,fun _=>⟨fun hg=>?_,fun hg=>?_⟩⟩⟩
  ·have hg:((slR (a7.getD i.toNat 0)).length:Int)>4:=of_decide_eq_true hg
   show false=r_
   rw [hr,fitOut_step (by decide)]
   cases hq:lenB ((fun k=>pkGet k a0 a1 a2 a3 a4 a5 a6 a7 a8) 7) a0.length with
   |false=>rfl
   |true=>
    have:(slR (a7.getD i.toNat 0)).length≤4:=lenB_all hq _ hlt
    omega
  ·have hg:¬((slR (a7.getD i.toNat 0)).length:Int)>4:=of_decide_eq_false hg
   refine ⟨⟨hb,by decide,by decide,by omega,by omega,?_,hr⟩,lxo_⟩
   rw [show (i+1).toNat=i.toNat+1 by omega]
   show (lenB ((fun k=>pkGet k a0 a1 a2 a3 a4 a5 a6 a7 a8) 7) i.toNat&&decide ((slR (a7.getD i.toNat 0)).length≤4))=true
   rw [hl,Bool.true_and,decide_eq_true_eq];omega
 ·have hc:¬i<(a0.length:Int):=of_decide_eq_false hc
  rw [show i.toNat=a0.length by omega] at hl
  rintro r1 rfl
  refine ⟨⟨⟨by decide,by decide⟩,hb.2.2.2.2.2,hl⟩,fun _=>⟨⟨hb,by decide,by decide,rfl,by omega,by omega,?_⟩,lxo_⟩⟩
  rw [hr,fitOut_step (by decide),hl];rfl
theorem r17_Fits_step1_8 (t p h:Int) (xs a0 a1 a2 a3 a4 a5 a6 a7 a8:LI) (hp0:bdAll xs) (hp1:a0.length≤1000) (hl0:xs.length≤9223372036854775807) (hl1:a0.length≤9223372036854775807) (n1:Nat) (ks zs ss:LI) (n i:Int) {r_:Bool} (hI:r17_Fits_I1 t p h xs a0 a1 a2 a3 a4 a5 a6 a7 a8 n1 ks zs ss n (8:Int) i r_):r17_Fits_w1_8 t p h xs a0 a1 a2 a3 a4 a5 a6 a7 a8 n1 ks zs ss n i (fun n1' ks' zs' ss' n' k'=>r17_Fits_I0 t p h xs a0 a1 a2 a3 a4 a5 a6 a7 a8 n1' ks' zs' ss' n' k' r_∧lx ((9-k').toNat,3,0) ((9-(8:Int)).toNat,2,(a0.length-i).toNat)) (fun n1' ks' zs' ss' n' k' i'=>r17_Fits_I1 t p h xs a0 a1 a2 a3 a4 a5 a6 a7 a8 n1' ks' zs' ss' n' k' i' r_∧lx ((9-k').toNat,2,(a0.length-i').toNat) ((9-(8:Int)).toNat,2,(a0.length-i).toNat)) (fun n1' ks' zs' ss' n' k' n2' ys' i'=>r17_Fits_I2 t p h xs a0 a1 a2 a3 a4 a5 a6 a7 a8 n1' ks' zs' ss' n' k' n2' ys' i' r_∧lx ((9-k').toNat,1,(n1'-i').toNat) ((9-(8:Int)).toNat,2,(a0.length-i).toNat)) (fun r__=>r__=r_):=by
 unfold r17_Fits_I1 at hI
 unfold r17_Fits_w1_8
 try unfold r17_Fits_I0
 try unfold r17_Fits_I1
 try unfold r17_Fits_I2
 obtain ⟨hb,_,_,h0,h1,hl,hr⟩:=hI
 refine ⟨fun hc=>?_,fun hc=>?_⟩
 ·have hc:i<(a0.length:Int):=of_decide_eq_true hc
  have hlt:i.toNat<a0.length:=by omega
  have hb6:=hb.2.2.2.2.2
  rw [w64 (n:=i+1) (by omega)]
  refine ⟨⟨h0,hc⟩,fun _=>⟨by decide,fun _=>⟨fun hg=>?_,fun hg=>?_⟩⟩⟩
  ·have hg:((slR (a8.getD i.toNat 0)).length:Int)>4:=of_decide_eq_true hg
   show false=r_
   rw [hr,fitOut_step (by decide)]
   cases hq:lenB ((fun k=>pkGet k a0 a1 a2 a3 a4 a5 a6 a7 a8) 8) a0.length with
   |false=>rfl
   |true=>
    have:(slR (a8.getD i.toNat 0)).length≤4:=lenB_all hq _ hlt
    omega
  ·have hg:¬((slR (a8.getD i.toNat 0)).length:Int)>4:=of_decide_eq_false hg
   refine ⟨⟨hb,by decide,by decide,by omega,by omega,?_,hr⟩,lxo_⟩
   rw [show (i+1).toNat=i.toNat+1 by omega]
   show (lenB ((fun k=>pkGet k a0 a1 a2 a3 a4 a5 a6 a7 a8) 8) i.toNat&&decide ((slR (a8.getD i.toNat 0)).length≤4))=true
   rw [hl,Bool.true_and,decide_eq_true_eq];omega
 ·have hc:¬i<(a0.length:Int):=of_decide_eq_false hc
  rw [show i.toNat=a0.length by omega] at hl
  rintro r1 rfl
  refine ⟨⟨⟨by decide,by decide⟩,hb.2.2.2.2.2,hl⟩,fun _=>⟨⟨hb,by decide,by decide,rfl,by omega,by omega,?_⟩,lxo_⟩⟩
  rw [hr,fitOut_step (by decide),hl];rfl
theorem r17_Fits_step2 (t p h:Int) (xs a0 a1 a2 a3 a4 a5 a6 a7 a8:LI) (hp0:bdAll xs) (hp1:a0.length≤1000) (hl0:xs.length≤9223372036854775807) (hl1:a0.length≤9223372036854775807) (n1:Nat) (ks zs ss:LI) (n k:Int) (n2:Nat) (ys:LI) (i:Int) {r_:Bool} (hI:r17_Fits_I2 t p h xs a0 a1 a2 a3 a4 a5 a6 a7 a8 n1 ks zs ss n k n2 ys i r_):r17_Fits_w2 t p h xs a0 a1 a2 a3 a4 a5 a6 a7 a8 n1 ks zs ss n k n2 ys i (fun n1' ks' zs' ss' n' k'=>r17_Fits_I0 t p h xs a0 a1 a2 a3 a4 a5 a6 a7 a8 n1' ks' zs' ss' n' k' r_∧lx ((9-k').toNat,3,0) ((9-k).toNat,1,(n1-i).toNat)) (fun n1' ks' zs' ss' n' k' i'=>r17_Fits_I1 t p h xs a0 a1 a2 a3 a4 a5 a6 a7 a8 n1' ks' zs' ss' n' k' i' r_∧lx ((9-k').toNat,2,(a0.length-i').toNat) ((9-k).toNat,1,(n1-i).toNat)) (fun n1' ks' zs' ss' n' k' n2' ys' i'=>r17_Fits_I2 t p h xs a0 a1 a2 a3 a4 a5 a6 a7 a8 n1' ks' zs' ss' n' k' n2' ys' i' r_∧lx ((9-k').toNat,1,(n1'-i').toNat) ((9-k).toNat,1,(n1-i).toNat)) (fun r__=>r__=r_):=by
 unfold r17_Fits_I2 at hI
 unfold r17_Fits_w2
 try unfold r17_Fits_I0
 try unfold r17_Fits_I1
 try unfold r17_Fits_I2
 obtain ⟨hb,hk0,hk1,hn2,h0,h1,hr⟩:=hI
 obtain ⟨b1,b2,b3,b4,b5,b6⟩:=hb
 have bl:n1=(partsL ⟨t,p,h⟩ xs).length:=by rw [b1,b2,List.length_map]
 refine ⟨fun hc=>?_,fun hc=>?_⟩
 ·have hc:=of_decide_eq_true hc
  have hi:0≤i∧i<(n1:Int):=⟨h0,hc⟩
  obtain ⟨x,e1,e2,e3,e4⟩:=pt_drop (L:=(partsL ⟨t,p,h⟩ xs)) (i:=i.toNat) (by omega)
  rw [e1,fitTl_cons] at hr
  have es:(i+1).toNat=i.toNat+1:=by omega
  rw [w64 (n:=i+1) (by omega)]
  rw [b2,b3,b4,e2,e3,e4]
  refine ⟨hi,fun _=>⟨fun _=>hi,fun _=>⟨fun hg=>?_,fun hg=>?_⟩⟩⟩
  ·rw [show idP (r05_Size h k) x=true from hg,cond_true] at hr
   refine ⟨hi,fun _=>?_⟩
   rintro r5 rfl
   refine ⟨fun hq=>?_,fun hq=>?_⟩
   ·have hq:(oft ys x.a==1)=false:=by
     have hq:(oft ys x.a !=1)=true:=hq
     simpa [bne] using hq
    rw [hq] at hr
    exact hr.symm
   ·have hq:(oft ys x.a==1)=true:=by
     have hq:(oft ys x.a !=1)=false:=hq
     simpa [bne] using hq
    rw [hq,cond_true] at hr
    exact ⟨⟨⟨by rw [bl,List.length_map],rfl,rfl,rfl,b5,b6⟩,hk0,hk1,hn2,by omega,by omega,by rw [es];exact hr⟩,lxo_⟩
  ·rw [show idP (r05_Size h k) x=false from hg,cond_false] at hr
   exact ⟨⟨⟨by rw [bl,List.length_map],rfl,rfl,rfl,b5,b6⟩,hk0,hk1,hn2,by omega,by omega,by rw [es];exact hr⟩,lxo_⟩
 ·have hc:=of_decide_eq_false hc
  rw [w64 (n:=k+1) (by omega)]
  rw [List.drop_eq_nil_of_le (by omega)] at hr
  refine ⟨⟨⟨b1,b2,b3,b4,b5,b6⟩,by omega,by omega,?_⟩,lxo_⟩
  rw [hr,show (9-(k+1)).toNat=(8-k).toNat by omega];rfl
theorem r17_Fits_ok:EOk 22 e_r17_Fits:=
 ent_wp Dg T_r17_often_ok (I:=[2999998,6571000000002,6571000000003,6571000000007,6571000000008,6571000000009,194000000002,194000000003,194000000007,194000000008,194000000009,194000000010,9540000000002,9540000000003,9540000000007,9540000000008,9540000000009,9540000000011,9540000000012]) Tryz.func22 mix (B:=bodyOf Tryz.f22) (by kernel_rfl) rfl (by kernel_rfl) 400
  fun p0 t p h xs a0 a1 a2 a3 a4 a5 a6 a7 a8 hb hp=>have hl0:xs.length≤9223372036854775807:=hb.2.1;have hl1:a0.length≤9223372036854775807:=hb.2.2.1;have hp0:bdAll xs:=hp _ (.head _);have hp1:a0.length≤1000:=hp _ (.tail _ (.head _));⟨[r17_Fits_h0 p0 t p h xs a0 a1 a2 a3 a4 a5 a6 a7 a8,r17_Fits_h1 p0 t p h xs a0 a1 a2 a3 a4 a5 a6 a7 a8,r17_Fits_h2 p0 t p h xs a0 a1 a2 a3 a4 a5 a6 a7 a8],fun j=>List.getD [appC (Hd.kd (r17_Fits_h0 p0 t p h xs a0 a1 a2 a3 a4 a5 a6 a7 a8)) (fun n1' ks' zs' ss' n' k'=>r17_Fits_I0 t p h xs a0 a1 a2 a3 a4 a5 a6 a7 a8 n1' ks' zs' ss' n' k' (r17_Fits t p h xs a0 a1 a2 a3 a4 a5 a6 a7 a8)),appC (Hd.kd (r17_Fits_h1 p0 t p h xs a0 a1 a2 a3 a4 a5 a6 a7 a8)) (fun n1' ks' zs' ss' n' k' i'=>r17_Fits_I1 t p h xs a0 a1 a2 a3 a4 a5 a6 a7 a8 n1' ks' zs' ss' n' k' i' (r17_Fits t p h xs a0 a1 a2 a3 a4 a5 a6 a7 a8)),appC (Hd.kd (r17_Fits_h2 p0 t p h xs a0 a1 a2 a3 a4 a5 a6 a7 a8)) (fun n1' ks' zs' ss' n' k' n2' ys' i'=>r17_Fits_I2 t p h xs a0 a1 a2 a3 a4 a5 a6 a7 a8 n1' ks' zs' ss' n' k' n2' ys' i' (r17_Fits t p h xs a0 a1 a2 a3 a4 a5 a6 a7 a8))] j (fun _=>False),fun j=>List.getD [appC (Hd.kd (r17_Fits_h0 p0 t p h xs a0 a1 a2 a3 a4 a5 a6 a7 a8)) (fun n1' ks' zs' ss' n' k'=>((9-k').toNat,3,0)),appC (Hd.kd (r17_Fits_h1 p0 t p h xs a0 a1 a2 a3 a4 a5 a6 a7 a8)) (fun n1' ks' zs' ss' n' k' i'=>((9-k').toNat,2,(a0.length-i').toNat)),appC (Hd.kd (r17_Fits_h2 p0 t p h xs a0 a1 a2 a3 a4 a5 a6 a7 a8)) (fun n1' ks' zs' ss' n' k' n2' ys' i'=>((9-k').toNat,1,(n1'-i').toNat))] j (fun _=>(0,0,0)),by kernel_rfl,⟨_,fun _ _ _=>by kernel_rfl,r17_Fits_begin t p h xs a0 a1 a2 a3 a4 a5 a6 a7 a8 hp0 hp1 hl0 hl1⟩,⟨fun n1 ks zs ss n k hI=>⟨_,fun _ _ _=>by kernel_rfl,r17_Fits_step0 t p h xs a0 a1 a2 a3 a4 a5 a6 a7 a8 hp0 hp1 hl0 hl1 n1 ks zs ss n k hI⟩,⟨fun n1 ks zs ss n k i hI=>(by
   rcases r17_Fits_cs1 t p h xs a0 a1 a2 a3 a4 a5 a6 a7 a8 hp0 hp1 hl0 hl1 n1 ks zs ss n k i hI with rfl|rfl|rfl|rfl|rfl|rfl|rfl|rfl|rfl
   ·exact ⟨_,fun _ _ _=>by kernel_rfl,r17_Fits_step1_0 t p h xs a0 a1 a2 a3 a4 a5 a6 a7 a8 hp0 hp1 hl0 hl1 n1 ks zs ss n i hI⟩
   ·exact ⟨_,fun _ _ _=>by kernel_rfl,r17_Fits_step1_1 t p h xs a0 a1 a2 a3 a4 a5 a6 a7 a8 hp0 hp1 hl0 hl1 n1 ks zs ss n i hI⟩
   ·exact ⟨_,fun _ _ _=>by kernel_rfl,r17_Fits_step1_2 t p h xs a0 a1 a2 a3 a4 a5 a6 a7 a8 hp0 hp1 hl0 hl1 n1 ks zs ss n i hI⟩
   ·exact ⟨_,fun _ _ _=>by kernel_rfl,r17_Fits_step1_3 t p h xs a0 a1 a2 a3 a4 a5 a6 a7 a8 hp0 hp1 hl0 hl1 n1 ks zs ss n i hI⟩
   ·exact ⟨_,fun _ _ _=>by kernel_rfl,r17_Fits_step1_4 t p h xs a0 a1 a2 a3 a4 a5 a6 a7 a8 hp0 hp1 hl0 hl1 n1 ks zs ss n i hI⟩
   ·exact ⟨_,fun _ _ _=>by kernel_rfl,r17_Fits_step1_5 t p h xs a0 a1 a2 a3 a4 a5 a6 a7 a8 hp0 hp1 hl0 hl1 n1 ks zs ss n i hI⟩
   ·exact ⟨_,fun _ _ _=>by kernel_rfl,r17_Fits_step1_6 t p h xs a0 a1 a2 a3 a4 a5 a6 a7 a8 hp0 hp1 hl0 hl1 n1 ks zs ss n i hI⟩
   ·exact ⟨_,fun _ _ _=>by kernel_rfl,r17_Fits_step1_7 t p h xs a0 a1 a2 a3 a4 a5 a6 a7 a8 hp0 hp1 hl0 hl1 n1 ks zs ss n i hI⟩
   ·exact ⟨_,fun _ _ _=>by kernel_rfl,r17_Fits_step1_8 t p h xs a0 a1 a2 a3 a4 a5 a6 a7 a8 hp0 hp1 hl0 hl1 n1 ks zs ss n i hI⟩),⟨fun n1 ks zs ss n k n2 ys i hI=>⟨_,fun _ _ _=>by kernel_rfl,r17_Fits_step2 t p h xs a0 a1 a2 a3 a4 a5 a6 a7 a8 hp0 hp1 hl0 hl1 n1 ks zs ss n k n2 ys i hI⟩,trivial⟩⟩⟩⟩
def T_r17_Fits:Tb:=(22,e_r17_Fits)::T_r17_often
theorem T_r17_Fits_ok:TOk T_r17_Fits:=tc_ r17_Fits_ok T_r17_often_ok
def r17_Same (x0 x1 x2 x3 x4 x5 x6 x7 x8 y0 y1 y2 y3 y4 y5 y6 y7 y8:LI):Bool:=(x0==y0)&&(x1==y1)&&(x2==y2)&&(x3==y3)&&(x4==y4)&&(x5==y5)&&(x6==y6)&&(x7==y7)&&(x8==y8)
abbrev c_r17_Same:Ct Sg:=⟨none,false,[.agg [.ro [some .i8], .ro [some .i8], .ro [some .i8], .ro [some .i8], .ro [some .i8], .ro [some .i8], .ro [some .i8], .ro [some .i8], .ro [some .i8]], .agg [.ro [some .i8], .ro [some .i8], .ro [some .i8], .ro [some .i8], .ro [some .i8], .ro [some .i8], .ro [some .i8], .ro [some .i8], .ro [some .i8]]], .b⟩
def e_r17_Same:Entry Sg:=entC c_r17_Same r17_Same (fun _ _ _ _ _ _ _ _ _ _ _ _ _ _ _ _ _ _=>[])
def r17_Same_w (x0 x1 x2 x3 x4 x5 x6 x7 x8 y0 y1 y2 y3 y4 y5 y6 y7 y8:LI) (R_:Bool→Prop):Prop:=(aw_ ((0:Int)≤0∧(0:Int)<9) (aw_ ((0:Int)≤0∧(0:Int)<9) (bw_ (!r01_Longs x0 y0) (R_ (false)) (aw_ ((0:Int)≤1∧(1:Int)<9) (aw_ ((0:Int)≤1∧(1:Int)<9) (bw_ (!r01_Longs x1 y1) (R_ (false)) (aw_ ((0:Int)≤2∧(2:Int)<9) (aw_ ((0:Int)≤2∧(2:Int)<9) (bw_ (!r01_Longs x2 y2) (R_ (false)) (aw_ ((0:Int)≤3∧(3:Int)<9) (aw_ ((0:Int)≤3∧(3:Int)<9) (bw_ (!r01_Longs x3 y3) (R_ (false)) (aw_ ((0:Int)≤4∧(4:Int)<9) (aw_ ((0:Int)≤4∧(4:Int)<9) (bw_ (!r01_Longs x4 y4) (R_ (false)) (aw_ ((0:Int)≤5∧(5:Int)<9) (aw_ ((0:Int)≤5∧(5:Int)<9) (bw_ (!r01_Longs x5 y5) (R_ (false)) (aw_ ((0:Int)≤6∧(6:Int)<9) (aw_ ((0:Int)≤6∧(6:Int)<9) (bw_ (!r01_Longs x6 y6) (R_ (false)) (aw_ ((0:Int)≤7∧(7:Int)<9) (aw_ ((0:Int)≤7∧(7:Int)<9) (bw_ (!r01_Longs x7 y7) (R_ (false)) (aw_ ((0:Int)≤8∧(8:Int)<9) (aw_ ((0:Int)≤8∧(8:Int)<9) (bw_ (!r01_Longs x8 y8) (R_ (false)) (R_ (true)))))))))))))))))))))))))))))
theorem r17_Same_begin (x0 x1 x2 x3 x4 x5 x6 x7 x8 y0 y1 y2 y3 y4 y5 y6 y7 y8:LI) (hl0:x0.length≤9223372036854775807) (hl1:x1.length≤9223372036854775807) (hl2:x2.length≤9223372036854775807) (hl3:x3.length≤9223372036854775807) (hl4:x4.length≤9223372036854775807) (hl5:x5.length≤9223372036854775807) (hl6:x6.length≤9223372036854775807) (hl7:x7.length≤9223372036854775807) (hl8:x8.length≤9223372036854775807) (hl9:y0.length≤9223372036854775807) (hl10:y1.length≤9223372036854775807) (hl11:y2.length≤9223372036854775807) (hl12:y3.length≤9223372036854775807) (hl13:y4.length≤9223372036854775807) (hl14:y5.length≤9223372036854775807) (hl15:y6.length≤9223372036854775807) (hl16:y7.length≤9223372036854775807) (hl17:y8.length≤9223372036854775807):r17_Same_w x0 x1 x2 x3 x4 x5 x6 x7 x8 y0 y1 y2 y3 y4 y5 y6 y7 y8 (fun r__=>r__=(r17_Same x0 x1 x2 x3 x4 x5 x6 x7 x8 y0 y1 y2 y3 y4 y5 y6 y7 y8)):=by
 unfold r17_Same_w
 have L:∀x y:LI,r01_Longs x y=(x==y):=fun _ _=>rfl
 simp only [L]
 repeat' first
  |refine ⟨by decide,fun _=>?_⟩
  |refine ⟨fun hc=>?_,fun hc=>?_⟩
  |fail
 all_goals
  first
  |show false=r17_Same x0 x1 x2 x3 x4 x5 x6 x7 x8 y0 y1 y2 y3 y4 y5 y6 y7 y8
  |show true=r17_Same x0 x1 x2 x3 x4 x5 x6 x7 x8 y0 y1 y2 y3 y4 y5 y6 y7 y8
 all_goals
  unfold r17_Same
  simp only [Bool.not_eq_true',Bool.not_eq_false'] at*
  simp [*]
theorem r17_Same_ok:EOk 11 e_r17_Same:=
 ent_w0 Dg T_r17_Fits_ok (I:=[2999999]) Tryz.func11 mix (B:=bodyOf Tryz.f11) (by kernel_rfl) rfl (by kernel_rfl) 400
  fun _ x0 x1 x2 x3 x4 x5 x6 x7 x8 y0 y1 y2 y3 y4 y5 y6 y7 y8 hb hp=>⟨_,fun _ _ _=>by kernel_rfl,r17_Same_begin x0 x1 x2 x3 x4 x5 x6 x7 x8 y0 y1 y2 y3 y4 y5 y6 y7 y8 (hb.1.1) (hb.1.2.1) (hb.1.2.2.1) (hb.1.2.2.2.1) (hb.1.2.2.2.2.1) (hb.1.2.2.2.2.2.1) (hb.1.2.2.2.2.2.2.1) (hb.1.2.2.2.2.2.2.2.1) (hb.1.2.2.2.2.2.2.2.2.1) (hb.2.1.1) (hb.2.1.2.1) (hb.2.1.2.2.1) (hb.2.1.2.2.2.1) (hb.2.1.2.2.2.2.1) (hb.2.1.2.2.2.2.2.1) (hb.2.1.2.2.2.2.2.2.1) (hb.2.1.2.2.2.2.2.2.2.1) (hb.2.1.2.2.2.2.2.2.2.2.1)⟩
def T_r17_Same:Tb:=(11,e_r17_Same)::T_r17_Fits
theorem T_r17_Same_ok:TOk T_r17_Same:=tc_ r17_Same_ok T_r17_Fits_ok
def r01_LongsI (l m:LI):Bool:=l==m
abbrev c_r01_LongsI:Ct Sg:=⟨none,false,[.ro [some .i8], .ro [some .i64]], .b⟩
def e_r01_LongsI:Entry Sg:=entC c_r01_LongsI r01_LongsI (fun _ _=>[])
def r01_LongsI_w (l m:LI) (Q0:Int→Prop) (R_:Bool→Prop):Prop:=(bw_ ((↑(lenC [Col.fz l]):Int) !=(↑(List.length m):Int)) (R_ (false)) (Q0 (0)))
def r01_LongsI_w0 (l m:LI) (i:Int) (Q0:Int→Prop) (R_:Bool→Prop):Prop:=(bw_ (decide (i<(↑(lenC [Col.fz l]):Int))) (aw_ (0≤i∧i<(↑(lenC [Col.fz l]):Int)) (aw_ (0≤i∧i<(↑(List.length m):Int)) (bw_ (List.getD l (Int.toNat i) 0 !=List.getD m (Int.toNat i) 0) (R_ (false)) (Q0 (IntKind.wrap IntKind.i64 (i+1)))))) (R_ (true)))
def r01_LongsI_I0 (l m:LI) (i:Int) (r_:Bool):Prop:=0≤i∧i≤l.length∧l.length=m.length∧l.take i.toNat=m.take i.toNat∧r_=r01_LongsI l m
abbrev r01_LongsI_h0 (p0:Addr) (l m:LI):Hd Sg:=⟨none,[0,1,0,1,1],[.blk 0, .code [1,1,1]],[5,0,1],[.i .i64, .roc [.fz (l)], .roc [.ints .i64 (m)]]⟩
theorem r01_LongsI_begin (l m:LI) (hl0:l.length≤9223372036854775807) (hl1:m.length≤9223372036854775807):r01_LongsI_w l m (fun i'=>r01_LongsI_I0 l m i' (r01_LongsI l m)) (fun r__=>r__=(r01_LongsI l m)):=by
 unfold r01_LongsI_w
 try unfold r01_LongsI_I0
 refine ⟨fun hc=>?_,fun hc=>?_⟩
 ·show false=r01_LongsI l m
  unfold r01_LongsI
  symm
  rw [beq_eq_false_iff_ne]
  rintro rfl
  simp at hc
  exact hc rfl
 ·have hc:((l.length:Nat):Int)=((m.length:Nat):Int):=bne_eq_false_iff_eq.1 hc
  exact ⟨by omega,by omega,by omega,rfl,rfl⟩
theorem r01_LongsI_step0 (l m:LI) (hl0:l.length≤9223372036854775807) (hl1:m.length≤9223372036854775807) (i:Int) {r_:Bool} (hI:r01_LongsI_I0 l m i r_):r01_LongsI_w0 l m i (fun i'=>r01_LongsI_I0 l m i' r_∧lx ((l.length-i').toNat,0,0) ((l.length-i).toNat,0,0)) (fun r__=>r__=r_):=by
 unfold r01_LongsI_I0 at hI
 unfold r01_LongsI_w0
 try unfold r01_LongsI_I0
 obtain ⟨h0,h1,h2,h3,hr⟩:=hI
 refine ⟨fun hc=>?_,fun hc=>?_⟩
 ·simp only [decide_eq_true_eq] at hc
  have hc:i<l.length:=hc
  have hm:i<m.length:=by omega
  rw [w64 (n:=i+1) (by omega)]
  refine ⟨⟨h0,hc⟩,fun _=>⟨⟨h0,hm⟩,fun _=>⟨fun hq=>?_,fun hq=>?_⟩⟩⟩
  ·show false=r_
   rw [hr]
   unfold r01_LongsI
   symm
   rw [beq_eq_false_iff_ne]
   rintro rfl
   simp at hq
  ·have hq:l.getD i.toNat 0=m.getD i.toNat 0:=by simpa using hq
   refine ⟨⟨by omega,by omega,h2,?_,hr⟩,lxo_⟩
   rw [toNat_succ h0,take_snocB (by omega),take_snocB (by omega),h3,hq]
 ·simp only [decide_eq_false_iff_not] at hc
  have hc:¬i<l.length:=hc
  show true=r_
  have e:i.toNat=l.length:=by omega
  rw [e] at h3
  have:=take_eq_all h2 h3
  subst this
  rw [hr];unfold r01_LongsI;simp
theorem r01_LongsI_ok:EOk 24 e_r01_LongsI:=
 ent_wp Dg T_r17_Same_ok (I:=[411000000005,411000000000,411000000001]) Tryz.func24 mix (B:=bodyOf Tryz.f24) (by kernel_rfl) rfl (by kernel_rfl) 400
  fun p0 l m hb hp=>have hl0:l.length≤9223372036854775807:=hb.1;have hl1:m.length≤9223372036854775807:=hb.2.1;⟨[r01_LongsI_h0 p0 l m],fun j=>List.getD [appC (Hd.kd (r01_LongsI_h0 p0 l m)) (fun i'=>r01_LongsI_I0 l m i' (r01_LongsI l m))] j (fun _=>False),fun j=>List.getD [appC (Hd.kd (r01_LongsI_h0 p0 l m)) (fun i'=>((l.length-i').toNat,0,0))] j (fun _=>(0,0,0)),by kernel_rfl,⟨_,fun _ _ _=>by kernel_rfl,r01_LongsI_begin l m hl0 hl1⟩,⟨fun i hI=>⟨_,fun _ _ _=>by kernel_rfl,r01_LongsI_step0 l m hl0 hl1 i hI⟩,trivial⟩⟩
def T_r01_LongsI:Tb:=(24,e_r01_LongsI)::T_r17_Same
theorem T_r01_LongsI_ok:TOk T_r01_LongsI:=tc_ r01_LongsI_ok T_r17_Same_ok
def e_lg:Entry Sg:=fun args=>match e_r01_LongsI args with
 |some d=>some d
 |none=>e_r01_Longs args
theorem e_lg_ok:EOk 24 e_lg:=by
 intro args c r h hr
 unfold e_lg at h
 split at h
 ·rename_i d hd
  exact r01_LongsI_ok args c r (by rw [hd];exact h) hr
 ·exact r01_Longs_ok args c r h hr
def e_al:Entry Sg:=fun args=>match args with
 |[v,c,(x,i),k]=>match i with
  | .none=>(match x with
    | .agg ⟨[.slice none 0 0, .slice none 0 0, .slice none 0 0, .slice none 0 0, .slice none 0 0, .slice none 0 0, .slice none 0 0, .slice none 0 0, .slice none 0 0]⟩=>e_small_Alloc [v,c,(.agg ⟨[.slice none 0 0, .slice none 0 0, .slice none 0 0, .slice none 0 0, .slice none 0 0, .slice none 0 0, .slice none 0 0, .slice none 0 0, .slice none 0 0]⟩, .many [.row 0 [.fz []], .row 0 [.fz []], .row 0 [.fz []], .row 0 [.fz []], .row 0 [.fz []], .row 0 [.fz []], .row 0 [.fz []], .row 0 [.fz []], .row 0 [.fz []]]),k]
    |_=>e_small_Alloc args)
  | .many is=>(match is with
    |[.none, .none, .none, .none, .none, .none, .none, .none, .none]=>(match x with
     | .agg ⟨[.slice none 0 0, .slice none 0 0, .slice none 0 0, .slice none 0 0, .slice none 0 0, .slice none 0 0, .slice none 0 0, .slice none 0 0, .slice none 0 0]⟩=>e_small_Alloc [v,c,(.agg ⟨[.slice none 0 0, .slice none 0 0, .slice none 0 0, .slice none 0 0, .slice none 0 0, .slice none 0 0, .slice none 0 0, .slice none 0 0, .slice none 0 0]⟩, .many [.row 0 [.fz []], .row 0 [.fz []], .row 0 [.fz []], .row 0 [.fz []], .row 0 [.fz []], .row 0 [.fz []], .row 0 [.fz []], .row 0 [.fz []], .row 0 [.fz []]]),k]
     |_=>e_small_Alloc args)
    |_=>e_small_Alloc args)
  |_=>e_small_Alloc args
 |_=>e_small_Alloc args
theorem nil_row (G Y:Hp):iOk G Y (.slice none 0 0) (.row 0 [.fz []]:Info Sg):=by
 have h:∀Z:Hp,RowAt Z none 0 [.fz []]:=fun Z=>⟨fun c hc=>by rw [List.mem_singleton] at hc;subst hc;rfl,fun i hi=>by omega,Nat.zero_le _⟩
 exact ⟨none,0,rfl,h G,Nat.le_refl _,fun _=>⟨h Y,fun c _ i hi=>by omega⟩⟩
theorem e_al_ok:EOk 9 e_al:=by
 intro args c r h hr
 unfold e_al at h
 repeat' split at h
 all_goals first
  |exact small_Alloc_ok _ c r h hr
  |(have h1:=small_Alloc_ok _ c r h hr
    refine ⟨h1.1,fun hp E G w hi hS=>?_⟩
    have h2:=h1.2 hp E G w (fun x hx=>?_) (by simpa [objAs,objOf,objsOf,objsV,objsV.go] using hS)
    ·simpa [newAs,objOf,objsOf,objsV,objsV.go] using h2
    ·simp only [List.mem_cons,List.not_mem_nil,or_false] at hx
     rcases hx with rfl|rfl|rfl|rfl
     ·exact hi _ (by simp)
     ·exact hi _ (by simp)
     ·exact ⟨nil_row _ _,nil_row _ _,nil_row _ _,nil_row _ _,nil_row _ _,nil_row _ _,nil_row _ _,nil_row _ _,nil_row _ _,trivial⟩
     ·exact hi _ (by simp))
def T_ad:Tb:=(24,e_lg)::(9,e_al)::T_r01_LongsI
theorem T_ad_ok:TOk T_ad:=tc_ e_lg_ok (tc_ e_al_ok T_r01_LongsI_ok)
end Go.Proofs.YtjfabjhlkpgckaaGreat
namespace Go.Proofs.YtjfabjhlkpgckaaGreat
open Go.Sl
def slO (n:Nat) (a:LI):Prop:=∀i,i<n→∀y∈slR (a.getD i 0),i64R y
def Ff:Tb:=T_ad
theorem Du:TOk Ff:=T_ad_ok
def l18_fit (t p h:Int) (xs a0 a1 a2 a3 a4 a5 a6 a7 a8:LI) (T k g b:Int):Bool:=(((r12_Few t p h&&decide ((a0.length:Int)≤16))&&decide (T≥0))&&decide (T<(a0.length:Int)))&&r17_Fits t p h xs a0 a1 a2 a3 a4 a5 a6 a7 a8
abbrev c_l18_fit:Ct Sg:=⟨none,false,[.agg [.i .i64, .i .i64, .i .i64], .ro [some .u32], .agg [.ro [some .i16,some .i16,some .i16,some .i16,some .i16,some .i16,some .i16,some .i16,some .i16], .i .i64, .i .i64, .i .i64, .i .i64]], .b⟩
def e_l18_fit:Entry Sg:=entC c_l18_fit l18_fit (fun t p h xs a0 a1 a2 a3 a4 a5 a6 a7 a8 T k g b=>[bdAll xs])
abbrev AY (a0 a1 a2 a3 a4 a5 a6 a7 a8:LI):=(lenC [Col.sls a0,Col.sls a1,Col.sls a2,Col.sls a3,Col.sls a4,Col.sls a5,Col.sls a6,Col.sls a7,Col.sls a8])
def l18_fit_w (t p h:Int) (xs a0 a1 a2 a3 a4 a5 a6 a7 a8:LI) (T k g b:Int) (R_:Bool→Prop):Prop:=(∀r2:Bool,r2=(r12_Few t p h)→(aw_ ((r2&&decide ((↑(AY a0 a1 a2 a3 a4 a5 a6 a7 a8):Int)≤16)&&decide (T≥0)&&decide (T<(↑(AY a0 a1 a2 a3 a4 a5 a6 a7 a8):Int)))=true→bdAll xs) (aw_ ((r2&&decide ((↑(AY a0 a1 a2 a3 a4 a5 a6 a7 a8):Int)≤16)&&decide (T≥0)&&decide (T<(↑(AY a0 a1 a2 a3 a4 a5 a6 a7 a8):Int)))=true→List.length a0≤1000) (R_ (r2&&decide ((↑(AY a0 a1 a2 a3 a4 a5 a6 a7 a8):Int)≤16)&&decide (T≥0)&&decide (T<(↑(AY a0 a1 a2 a3 a4 a5 a6 a7 a8):Int))&&r17_Fits t p h xs a0 a1 a2 a3 a4 a5 a6 a7 a8)))))
theorem l18_fit_begin (t p h:Int) (xs a0 a1 a2 a3 a4 a5 a6 a7 a8:LI) (T k g b:Int) (hp0:bdAll xs) (hl0:xs.length≤9223372036854775807) (hl1:a0.length≤9223372036854775807):l18_fit_w t p h xs a0 a1 a2 a3 a4 a5 a6 a7 a8 T k g b (fun r__=>r__=(l18_fit t p h xs a0 a1 a2 a3 a4 a5 a6 a7 a8 T k g b)):=by
 unfold l18_fit_w AY
 rintro r2 rfl
 refine ⟨fun _=>hp0,fun _=>⟨fun hc=>?_,fun _=>rfl⟩⟩
 simp only [Bool.and_eq_true,decide_eq_true_eq] at hc
 have:(a0.length:Int)≤16:=hc.1.1.2
 omega
theorem l18_fit_ok:EOk 5 e_l18_fit:=
 ent_w0 Dg Du (I:=[2999998]) Tryz.func5 mix (B:=bodyOf Tryz.f5) (by kernel_rfl) rfl (by kernel_rfl) 400
  fun _ t p h xs a0 a1 a2 a3 a4 a5 a6 a7 a8 T k g b hb hp=>⟨_,fun _ _ _=>by kernel_rfl,l18_fit_begin t p h xs a0 a1 a2 a3 a4 a5 a6 a7 a8 T k g b (hp _ (.head _)) (hb.2.1) (hb.2.2.1.1)⟩
def T_l18_fit:Tb:=(5,e_l18_fit)::Ff
theorem T_l18_fit_ok:TOk T_l18_fit:=tc_ l18_fit_ok Du
theorem fit_all {t p h:Int} {xs a0 a1 a2 a3 a4 a5 a6 a7 a8:LI} {T k g b:Int} (hf:l18_fit t p h xs a0 a1 a2 a3 a4 a5 a6 a7 a8 T k g b=true) (hs:slO a0.length a0∧slO a0.length a1∧slO a0.length a2∧slO a0.length a3∧slO a0.length a4∧slO a0.length a5∧slO a0.length a6∧slO a0.length a7∧slO a0.length a8):
 (soundA ⟨t,p,h⟩ xs=true∧p≤64)∧(0≤T∧T<a0.length)∧pkB (slR (a0.getD T.toNat 0)) (slR (a1.getD T.toNat 0)) (slR (a2.getD T.toNat 0)) (slR (a3.getD T.toNat 0)) (slR (a4.getD T.toNat 0)) (slR (a5.getD T.toNat 0)) (slR (a6.getD T.toNat 0)) (slR (a7.getD T.toNat 0)) (slR (a8.getD T.toNat 0))∧a0.length≤16∧fitOut h (partsL ⟨t,p,h⟩ xs) (fun k=>pkGet k a0 a1 a2 a3 a4 a5 a6 a7 a8) a0.length 9 0=true:=by
 unfold l18_fit at hf
 simp only [Bool.and_eq_true,decide_eq_true_eq,r12_Few] at hf
 obtain ⟨⟨⟨⟨h1,h2⟩,h3⟩,h4⟩,h5⟩:=hf
 unfold r17_Fits at h5
 cases hc:(!soundA ⟨t,p,h⟩ xs||(a0.length:Int) !=t) with
 |true=>rw [hc] at h5;cases h5
 |false=>
  rw [hc,cond_false] at h5
  simp only [Bool.or_eq_false_iff,Bool.not_eq_false'] at hc
  have hl:=partsL_len ⟨t,p,h⟩ xs
  dsimp only at hl
  have hlen:=(fitOut_true (by omega) (by omega) 9 0 (by omega) (by decide) (by decide) h5).2
  have hT:T.toNat<a0.length:=by omega
  refine ⟨⟨hc.1,h1⟩,⟨by omega,h4⟩,?_,by omega,h5⟩
  refine ⟨⟨Nat.le_trans (lenB_all (hlen 8 (by omega)).1 T.toNat hT) (by decide),hs.1 T.toNat hT⟩,⟨Nat.le_trans (lenB_all (hlen 7 (by omega)).1 T.toNat hT) (by decide),hs.2.1 T.toNat hT⟩,⟨Nat.le_trans (lenB_all (hlen 6 (by omega)).1 T.toNat hT) (by decide),hs.2.2.1 T.toNat hT⟩,⟨Nat.le_trans (lenB_all (hlen 5 (by omega)).1 T.toNat hT) (by decide),hs.2.2.2.1 T.toNat hT⟩,⟨Nat.le_trans (lenB_all (hlen 4 (by omega)).1 T.toNat hT) (by decide),hs.2.2.2.2.1 T.toNat hT⟩,⟨Nat.le_trans (lenB_all (hlen 3 (by omega)).1 T.toNat hT) (by decide),hs.2.2.2.2.2.1 T.toNat hT⟩,⟨Nat.le_trans (lenB_all (hlen 2 (by omega)).1 T.toNat hT) (by decide),hs.2.2.2.2.2.2.1 T.toNat hT⟩,⟨Nat.le_trans (lenB_all (hlen 1 (by omega)).1 T.toNat hT) (by decide),hs.2.2.2.2.2.2.2.1 T.toNat hT⟩,⟨Nat.le_trans (lenB_all (hlen 0 (by omega)).1 T.toNat hT) (by decide),hs.2.2.2.2.2.2.2.2 T.toNat hT⟩⟩
def l18_live:Bool:=true
abbrev c_l18_live:Ct Sg:=⟨none,false,[], .b⟩
def e_l18_live:Entry Sg:=entC c_l18_live l18_live ([])
def l18_live_w (R_:Bool→Prop):Prop:=(∀r0:Int×Int×Int×LI,r0=(l14_Eight)→(∀r3:VS,r3=(VS.whole r0.2.2.2)→(aw_ (List.length r0.2.2.2≤1000000) (aw_ (bdL r0.2.2.2) (∀r7:VS×Int×LI×LI×LI×LI×LI×LI×LI×LI×LI×Bool,r7=(small_Alloc r3 r0.1 r0.2.1 r0.2.2.1 [] [] [] [] [] [] [] [] [] 0)→(aw_ (r0.2.1≤1024) (aw_ (pkB [] [] [] [] [] [] [] [] []) (∀r20:VS×Int×LI×LI×LI×LI×LI×LI×LI×LI×LI×Bool,r20=(small_Alloc r7.1 r0.1 r0.2.1 r0.2.2.1 r7.2.2.1 r7.2.2.2.1 r7.2.2.2.2.1 r7.2.2.2.2.2.1 r7.2.2.2.2.2.2.1 r7.2.2.2.2.2.2.2.1 r7.2.2.2.2.2.2.2.2.1 r7.2.2.2.2.2.2.2.2.2.1 r7.2.2.2.2.2.2.2.2.2.2.1 0)→(aw_ (r0.2.1≤1024) (aw_ (pkB r7.2.2.1 r7.2.2.2.1 r7.2.2.2.2.1 r7.2.2.2.2.2.1 r7.2.2.2.2.2.2.1 r7.2.2.2.2.2.2.2.1 r7.2.2.2.2.2.2.2.2.1 r7.2.2.2.2.2.2.2.2.2.1 r7.2.2.2.2.2.2.2.2.2.2.1) (bw_ (r7.2.2.2.2.2.2.2.2.2.2.2&&r7.2.1==1024) (R_ (r01_LongsI r7.2.2.1 [1120,1088,1056]&&r20.2.2.2.2.2.2.2.2.2.2.2&&r20.2.1==1056)) (R_ (false)))))))))))))
theorem l18_live_begin:l18_live_w (fun r__=>r__=l18_live):=by
 unfold l18_live_w
 have h1:l14_Eight.2.2.2.length≤1000000:=by decide+kernel
 have h2:∀v∈l14_Eight.2.2.2,bd32 v:=by unfold bd32;decide+kernel
 have h3:l14_Eight.2.1≤1024:=by decide+kernel
 rintro r0 rfl r3 rfl
 refine ⟨h1,fun _=>⟨h2,fun _=>?_⟩⟩
 rintro r7 rfl
 refine ⟨h3,fun _=>⟨⟨lB_nil,lB_nil,lB_nil,lB_nil,lB_nil,lB_nil,lB_nil,lB_nil,lB_nil⟩,fun _=>?_⟩⟩
 rintro r20 rfl
 refine ⟨h3,fun _=>⟨by unfold pkB lB;decide+kernel,fun _=>⟨fun hd=>?_,fun hd=>?_⟩⟩⟩
 ·show _=l18_live
  unfold l18_live
  decide+kernel
 ·exfalso;revert hd;decide+kernel
theorem l18_live_ok:EOk 6 e_l18_live:=
 ent_w0 Dg T_l18_fit_ok (I:=[2999998]) Tryz.func6 mix (B:=bodyOf Tryz.f6) (by kernel_rfl) rfl (by kernel_rfl) 400
  fun _ hb hp=>⟨_,fun _ _ _=>by kernel_rfl,l18_live_begin⟩
def T_l18_live:Tb:=(6,e_l18_live)::T_l18_fit
theorem T_l18_live_ok:TOk T_l18_live:=tc_ l18_live_ok T_l18_fit_ok
theorem KC {l:LI} (h:(lastI l).2=true):(lastI l).1∈l:=by
 cases l with
 |nil=>cases h
 |cons a r=>
  show ((a::r).getD r.length 0)∈a::r
  rw [List.getD_eq_getElem?_getD,List.getElem?_eq_getElem (by simp)]
  exact List.getElem_mem _
theorem KJ {t p h:Int} {xs a0 a1 a2 a3 a4 a5 a6 a7 a8:LI} {T k g b:Int} (hf:l18_fit t p h xs a0 a1 a2 a3 a4 a5 a6 a7 a8 T k g b=true) (hs:slO a0.length a0∧slO a0.length a1∧slO a0.length a2∧slO a0.length a3∧slO a0.length a4∧slO a0.length a5∧slO a0.length a6∧slO a0.length a7∧slO a0.length a8) (hb:bdAll xs) (s:VS):
 small_Alloc s t p h (slR (a0.getD T.toNat 0)) (slR (a1.getD T.toNat 0)) (slR (a2.getD T.toNat 0)) (slR (a3.getD T.toNat 0)) (slR (a4.getD T.toNat 0)) (slR (a5.getD T.toNat 0)) (slR (a6.getD T.toNat 0)) (slR (a7.getD T.toNat 0)) (slR (a8.getD T.toNat 0)) k=Ah s t p h (slR (a0.getD T.toNat 0)) (slR (a1.getD T.toNat 0)) (slR (a2.getD T.toNat 0)) (slR (a3.getD T.toNat 0)) (slR (a4.getD T.toNat 0)) (slR (a5.getD T.toNat 0)) (slR (a6.getD T.toNat 0)) (slR (a7.getD T.toNat 0)) (slR (a8.getD T.toNat 0)) k:=by
 obtain ⟨⟨h1,_⟩,h2,_,h4,h5⟩:=fit_all hf hs
 have hok:Cf.ok ⟨t,p,h⟩=true:=(sound_good h1 hb).ok
 refine alloc_eq fun hl=>?_
 by_cases hk:0≤k∧k≤8
 ·have e:pkk [slR (a0.getD T.toNat 0),slR (a1.getD T.toNat 0),slR (a2.getD T.toNat 0),slR (a3.getD T.toNat 0),slR (a4.getD T.toNat 0),slR (a5.getD T.toNat 0),slR (a6.getD T.toNat 0),slR (a7.getD T.toNat 0),slR (a8.getD T.toNat 0)] k=slR (((fun k=>pkGet k a0 a1 a2 a3 a4 a5 a6 a7 a8) k).getD T.toNat 0):=by
   have:k=0∨k=1∨k=2∨k=3∨k=4∨k=5∨k=6∨k=7∨k=8:=by omega
   rcases this with rfl|rfl|rfl|rfl|rfl|rfl|rfl|rfl|rfl<;>rfl
  rw [e] at hl ⊢
  refine slot_back hok hk (fit_at hok (by omega) h5 hk (allL_mem (τ:=T.toNat) (by omega) (KC hl)))
 ·have e:pkk [slR (a0.getD T.toNat 0),slR (a1.getD T.toNat 0),slR (a2.getD T.toNat 0),slR (a3.getD T.toNat 0),slR (a4.getD T.toNat 0),slR (a5.getD T.toNat 0),slR (a6.getD T.toNat 0),slR (a7.getD T.toNat 0),slR (a8.getD T.toNat 0)] k=[]:=pkGet_out (by omega)
  rw [e] at hl;cases hl
def SmallAllocs (t p h:Int) (xs a0 a1 a2 a3 a4 a5 a6 a7 a8:LI) (T k g b:Int):Bool:=true
abbrev DR:Ct Sg:=⟨none,false,[.agg [.i .i64, .i .i64, .i .i64], .ro [some .u32], .agg [.ro [some .i16,some .i16,some .i16,some .i16,some .i16,some .i16,some .i16,some .i16,some .i16], .i .i64, .i .i64, .i .i64, .i .i64]], .b⟩
def IA:Entry Sg:=entC DR SmallAllocs (fun t p h xs a0 a1 a2 a3 a4 a5 a6 a7 a8 T k g b=>[bdAll xs,slO a0.length a0∧slO a0.length a1∧slO a0.length a2∧slO a0.length a3∧slO a0.length a4∧slO a0.length a5∧slO a0.length a6∧slO a0.length a7∧slO a0.length a8])
def DU (t p h:Int) (xs a0 a1 a2 a3 a4 a5 a6 a7 a8:LI) (T k g b:Int) (Q0:VS→VS→Prop) (Q1:VS→VS→Int→LI→LI→LI→LI→LI→LI→LI→LI→LI→Bool→Prop) (Q2:VS→VS→Int→LI→LI→LI→LI→LI→LI→LI→LI→LI→Bool→Int→LI→LI→LI→LI→LI→LI→LI→LI→LI→Bool→Prop) (R_:Bool→Prop):Prop:=(∀r2:Bool,r2=(l18_fit t p h xs a0 a1 a2 a3 a4 a5 a6 a7 a8 T k g b)→(aw_ (bdAll xs) (bw_ (!r2) (∀r5:Bool,r5=(l18_live)→(R_ (r5))) (∀r5:VS,r5=(VS.whole xs)→(aw_ (List.length xs≤1000000) (aw_ (bdL xs) (∀r9:VS,r9=(VS.whole xs)→(aw_ (List.length xs≤1000000) (aw_ (bdL xs) (Q0 (r5) (r9)))))))))))
abbrev E8 (a0:LI) (T:Int) (a1 a2 a3 a4 a5 a6 a7 a8:LI):=(pkB (slR (List.getD a0 (Int.toNat T) 0)) (slR (List.getD a1 (Int.toNat T) 0)) (slR (List.getD a2 (Int.toNat T) 0)) (slR (List.getD a3 (Int.toNat T) 0)) (slR (List.getD a4 (Int.toNat T) 0)) (slR (List.getD a5 (Int.toNat T) 0)) (slR (List.getD a6 (Int.toNat T) 0)) (slR (List.getD a7 (Int.toNat T) 0)) (slR (List.getD a8 (Int.toNat T) 0)))
abbrev Dv (sv:VS) (t p h:Int) (a0:LI) (T:Int) (a1 a2 a3 a4 a5 a6 a7 a8:LI) (k:Int) (Q1:VS→VS→Int→LI→LI→LI→LI→LI→LI→LI→LI→LI→Bool→Prop) (sw:VS):Prop:=(∀r1:VS×Int×LI×LI×LI×LI×LI×LI×LI×LI×LI×Bool,r1=(small_Alloc sv t p h (slR (List.getD a0 (Int.toNat T) 0)) (slR (List.getD a1 (Int.toNat T) 0)) (slR (List.getD a2 (Int.toNat T) 0)) (slR (List.getD a3 (Int.toNat T) 0)) (slR (List.getD a4 (Int.toNat T) 0)) (slR (List.getD a5 (Int.toNat T) 0)) (slR (List.getD a6 (Int.toNat T) 0)) (slR (List.getD a7 (Int.toNat T) 0)) (slR (List.getD a8 (Int.toNat T) 0)) k)→(aw_ (p≤1024) (aw_ (E8 a0 T a1 a2 a3 a4 a5 a6 a7 a8) (Q1 r1.1 (sw) r1.2.1 r1.2.2.1 r1.2.2.2.1 r1.2.2.2.2.1 r1.2.2.2.2.2.1 r1.2.2.2.2.2.2.1 r1.2.2.2.2.2.2.2.1 r1.2.2.2.2.2.2.2.2.1 r1.2.2.2.2.2.2.2.2.2.1 r1.2.2.2.2.2.2.2.2.2.2.1 r1.2.2.2.2.2.2.2.2.2.2.2))))
def Dw (t p h:Int) (xs a0 a1 a2 a3 a4 a5 a6 a7 a8:LI) (T k g b:Int) (sv sw:VS) (Q0:VS→VS→Prop) (Q1:VS→VS→Int→LI→LI→LI→LI→LI→LI→LI→LI→LI→Bool→Prop) (Q2:VS→VS→Int→LI→LI→LI→LI→LI→LI→LI→LI→LI→Bool→Int→LI→LI→LI→LI→LI→LI→LI→LI→LI→Bool→Prop) (R_:Bool→Prop):Prop:=((aw_ (0≤T∧T<(↑(AY a0 a1 a2 a3 a4 a5 a6 a7 a8):Int)) (((Dv sv t p h a0 T a1 a2 a3 a4 a5 a6 a7 a8 k Q1 sw)∧(Dv sv t p h a0 T a1 a2 a3 a4 a5 a6 a7 a8 k Q1 sw))∧(Dv sv t p h a0 T a1 a2 a3 a4 a5 a6 a7 a8 k Q1 sw)))∧(aw_ (0≤T∧T<(↑(AY a0 a1 a2 a3 a4 a5 a6 a7 a8):Int)) (Dv sv t p h a0 T a1 a2 a3 a4 a5 a6 a7 a8 k Q1 sw)))
def Ae (t p h:Int) (xs a0 a1 a2 a3 a4 a5 a6 a7 a8:LI) (T k g b:Int) (sv sw:VS) (r_:Bool):Prop:=l18_fit t p h xs a0 a1 a2 a3 a4 a5 a6 a7 a8 T k g b=true∧sv=VS.whole xs∧sw=VS.whole xs∧r_=true
abbrev Dx (sw:VS) (t p h:Int) (a0:LI) (T:Int) (a1 a2 a3 a4 a5 a6 a7 a8:LI) (k:Int) (Q2:VS→VS→Int→LI→LI→LI→LI→LI→LI→LI→LI→LI→Bool→Int→LI→LI→LI→LI→LI→LI→LI→LI→LI→Bool→Prop) (sv:VS) (e:Int) (y0 y1 y2 y3 y4 y5 y6 y7 y8:LI) (ok:Bool):Prop:=(∀r1:VS×Int×LI×LI×LI×LI×LI×LI×LI×LI×LI×Bool,r1=(Ah sw t p h (slR (List.getD a0 (Int.toNat T) 0)) (slR (List.getD a1 (Int.toNat T) 0)) (slR (List.getD a2 (Int.toNat T) 0)) (slR (List.getD a3 (Int.toNat T) 0)) (slR (List.getD a4 (Int.toNat T) 0)) (slR (List.getD a5 (Int.toNat T) 0)) (slR (List.getD a6 (Int.toNat T) 0)) (slR (List.getD a7 (Int.toNat T) 0)) (slR (List.getD a8 (Int.toNat T) 0)) k)→(aw_ (p≤1024) (aw_ (E8 a0 T a1 a2 a3 a4 a5 a6 a7 a8) (Q2 (sv) r1.1 (e) (y0) (y1) (y2) (y3) (y4) (y5) (y6) (y7) (y8) (ok) r1.2.1 r1.2.2.1 r1.2.2.2.1 r1.2.2.2.2.1 r1.2.2.2.2.2.1 r1.2.2.2.2.2.2.1 r1.2.2.2.2.2.2.2.1 r1.2.2.2.2.2.2.2.2.1 r1.2.2.2.2.2.2.2.2.2.1 r1.2.2.2.2.2.2.2.2.2.2.1 r1.2.2.2.2.2.2.2.2.2.2.2))))
def Dy (t p h:Int) (xs a0 a1 a2 a3 a4 a5 a6 a7 a8:LI) (T k g b:Int) (sv sw:VS) (e:Int) (y0 y1 y2 y3 y4 y5 y6 y7 y8:LI) (ok:Bool) (Q0:VS→VS→Prop) (Q1:VS→VS→Int→LI→LI→LI→LI→LI→LI→LI→LI→LI→Bool→Prop) (Q2:VS→VS→Int→LI→LI→LI→LI→LI→LI→LI→LI→LI→Bool→Int→LI→LI→LI→LI→LI→LI→LI→LI→LI→Bool→Prop) (R_:Bool→Prop):Prop:=((aw_ (0≤T∧T<(↑(AY a0 a1 a2 a3 a4 a5 a6 a7 a8):Int)) (((Dx sw t p h a0 T a1 a2 a3 a4 a5 a6 a7 a8 k Q2 sv e y0 y1 y2 y3 y4 y5 y6 y7 y8 ok)∧(Dx sw t p h a0 T a1 a2 a3 a4 a5 a6 a7 a8 k Q2 sv e y0 y1 y2 y3 y4 y5 y6 y7 y8 ok))∧(Dx sw t p h a0 T a1 a2 a3 a4 a5 a6 a7 a8 k Q2 sv e y0 y1 y2 y3 y4 y5 y6 y7 y8 ok)))∧(aw_ (0≤T∧T<(↑(AY a0 a1 a2 a3 a4 a5 a6 a7 a8):Int)) (Dx sw t p h a0 T a1 a2 a3 a4 a5 a6 a7 a8 k Q2 sv e y0 y1 y2 y3 y4 y5 y6 y7 y8 ok)))
def Af (t p h:Int) (xs a0 a1 a2 a3 a4 a5 a6 a7 a8:LI) (T k g b:Int) (sv sw:VS) (e:Int) (y0 y1 y2 y3 y4 y5 y6 y7 y8:LI) (ok r_:Bool):Prop:=l18_fit t p h xs a0 a1 a2 a3 a4 a5 a6 a7 a8 T k g b=true∧sw=VS.whole xs∧(sv,e,y0,y1,y2,y3,y4,y5,y6,y7,y8,ok)=small_Alloc (VS.whole xs) t p h (slR (a0.getD T.toNat 0)) (slR (a1.getD T.toNat 0)) (slR (a2.getD T.toNat 0)) (slR (a3.getD T.toNat 0)) (slR (a4.getD T.toNat 0)) (slR (a5.getD T.toNat 0)) (slR (a6.getD T.toNat 0)) (slR (a7.getD T.toNat 0)) (slR (a8.getD T.toNat 0)) k∧r_=true
def Dz (t p h:Int) (xs a0 a1 a2 a3 a4 a5 a6 a7 a8:LI) (T k g b:Int) (sv sw:VS) (e:Int) (y0 y1 y2 y3 y4 y5 y6 y7 y8:LI) (ok:Bool) (e2:Int) (z0 z1 z2 z3 z4 z5 z6 z7 z8:LI) (ok2:Bool) (Q0:VS→VS→Prop) (Q1:VS→VS→Int→LI→LI→LI→LI→LI→LI→LI→LI→LI→Bool→Prop) (Q2:VS→VS→Int→LI→LI→LI→LI→LI→LI→LI→LI→LI→Bool→Int→LI→LI→LI→LI→LI→LI→LI→LI→LI→Bool→Prop) (R_:Bool→Prop):Prop:=(bw_ (e==e2&&r17_Same y0 y1 y2 y3 y4 y5 y6 y7 y8 z0 z1 z2 z3 z4 z5 z6 z7 z8&&ok==ok2) (∀r1:LI,r1=(VS.reads sv)→(∀r3:LI×LI,r3=((VS.wrote sv,VS.puts sv))→(aw_ (true=true→List.length r3.1=List.length r3.2) (R_ (decide (r1=VS.reads sw)&&(decide (r3.1=VS.wrote sw∧r3.2=VS.puts sw)&&decide (VS.miss sv=VS.miss sw))&&l18_live))))) (R_ (false)))
def Ag (t p h:Int) (xs a0 a1 a2 a3 a4 a5 a6 a7 a8:LI) (T k g b:Int) (sv sw:VS) (e:Int) (y0 y1 y2 y3 y4 y5 y6 y7 y8:LI) (ok:Bool) (e2:Int) (z0 z1 z2 z3 z4 z5 z6 z7 z8:LI) (ok2 r_:Bool):Prop:=l18_fit t p h xs a0 a1 a2 a3 a4 a5 a6 a7 a8 T k g b=true∧(sv,e,y0,y1,y2,y3,y4,y5,y6,y7,y8,ok)=small_Alloc (VS.whole xs) t p h (slR (a0.getD T.toNat 0)) (slR (a1.getD T.toNat 0)) (slR (a2.getD T.toNat 0)) (slR (a3.getD T.toNat 0)) (slR (a4.getD T.toNat 0)) (slR (a5.getD T.toNat 0)) (slR (a6.getD T.toNat 0)) (slR (a7.getD T.toNat 0)) (slR (a8.getD T.toNat 0)) k∧(sw,e2,z0,z1,z2,z3,z4,z5,z6,z7,z8,ok2)=Ah (VS.whole xs) t p h (slR (a0.getD T.toNat 0)) (slR (a1.getD T.toNat 0)) (slR (a2.getD T.toNat 0)) (slR (a3.getD T.toNat 0)) (slR (a4.getD T.toNat 0)) (slR (a5.getD T.toNat 0)) (slR (a6.getD T.toNat 0)) (slR (a7.getD T.toNat 0)) (slR (a8.getD T.toNat 0)) k∧r_=true
abbrev BK (p0:Addr) (t p h:Int) (xs a0 a1 a2 a3 a4 a5 a6 a7 a8:LI) (T k g b:Int):Hd Sg:=⟨some 900,[0,1,1,1],[.code [1,1,1,1]],[3,5,7,8],[.box 23 [.ic .i64 (t), .ic .i64 (p), .ic .i64 (h)], .box 27 [.roc [.sls (a0), .sls (a1), .sls (a2), .sls (a3), .sls (a4), .sls (a5), .sls (a6), .sls (a7), .sls (a8)], .ic .i64 (T), .ic .i64 (k), .ic .i64 (g), .ic .i64 (b)], .obj wView, .obj Ak]⟩
abbrev BL (p0:Addr) (t p h:Int) (xs a0 a1 a2 a3 a4 a5 a6 a7 a8:LI) (T k g b:Int):Hd Sg:=⟨some 900,[0,1,1,1,1],[.code [1,1,1,1,1]],[3,5,7,8,9,10,11],[.box 23 [.ic .i64 (t), .ic .i64 (p), .ic .i64 (h)], .box 27 [.roc [.sls (a0), .sls (a1), .sls (a2), .sls (a3), .sls (a4), .sls (a5), .sls (a6), .sls (a7), .sls (a8)], .ic .i64 (T), .ic .i64 (k), .ic .i64 (g), .ic .i64 (b)], .obj wView, .obj Ak, .i .i64, .box 36 [.ro [some .i8], .ro [some .i8], .ro [some .i8], .ro [some .i8], .ro [some .i8], .ro [some .i8], .ro [some .i8], .ro [some .i8], .ro [some .i8]], .b]⟩
abbrev BM (p0:Addr) (t p h:Int) (xs a0 a1 a2 a3 a4 a5 a6 a7 a8:LI) (T k g b:Int):Hd Sg:=⟨some 0,[0,1,1,1,1,1],[.code [1,1,1,1,1,1]],[7,8,9,10,11,12,13,14],[.obj wView, .obj Ak, .i .i64, .box 36 [.ro [some .i8], .ro [some .i8], .ro [some .i8], .ro [some .i8], .ro [some .i8], .ro [some .i8], .ro [some .i8], .ro [some .i8], .ro [some .i8]], .b, .i .i64, .box 36 [.ro [some .i8], .ro [some .i8], .ro [some .i8], .ro [some .i8], .ro [some .i8], .ro [some .i8], .ro [some .i8], .ro [some .i8], .ro [some .i8]], .b]⟩
theorem EC (t p h:Int) (xs a0 a1 a2 a3 a4 a5 a6 a7 a8:LI) (T k g b:Int) (hp0:bdAll xs) (hp1:slO a0.length a0∧slO a0.length a1∧slO a0.length a2∧slO a0.length a3∧slO a0.length a4∧slO a0.length a5∧slO a0.length a6∧slO a0.length a7∧slO a0.length a8) (hl0:xs.length≤9223372036854775807) (hl1:a0.length≤9223372036854775807):DU t p h xs a0 a1 a2 a3 a4 a5 a6 a7 a8 T k g b (fun sv' sw'=>Ae t p h xs a0 a1 a2 a3 a4 a5 a6 a7 a8 T k g b sv' sw' (SmallAllocs t p h xs a0 a1 a2 a3 a4 a5 a6 a7 a8 T k g b)) (fun sv' sw' e' y0' y1' y2' y3' y4' y5' y6' y7' y8' ok'=>Af t p h xs a0 a1 a2 a3 a4 a5 a6 a7 a8 T k g b sv' sw' e' y0' y1' y2' y3' y4' y5' y6' y7' y8' ok' (SmallAllocs t p h xs a0 a1 a2 a3 a4 a5 a6 a7 a8 T k g b)) (fun sv' sw' e' y0' y1' y2' y3' y4' y5' y6' y7' y8' ok' e2' z0' z1' z2' z3' z4' z5' z6' z7' z8' ok2'=>Ag t p h xs a0 a1 a2 a3 a4 a5 a6 a7 a8 T k g b sv' sw' e' y0' y1' y2' y3' y4' y5' y6' y7' y8' ok' e2' z0' z1' z2' z3' z4' z5' z6' z7' z8' ok2' (SmallAllocs t p h xs a0 a1 a2 a3 a4 a5 a6 a7 a8 T k g b)) (fun r__=>r__=(SmallAllocs t p h xs a0 a1 a2 a3 a4 a5 a6 a7 a8 T k g b)):=by
 unfold DU
 try unfold Ae
 try unfold Af
 try unfold Ag
 rintro r2 rfl
 refine ⟨hp0,fun _=>⟨fun _=>(by rintro r5 rfl;rfl),fun hc=>?_⟩⟩
 have hf:l18_fit t p h xs a0 a1 a2 a3 a4 a5 a6 a7 a8 T k g b=true:=by simpa using hc
 have hlen:=good_len (sound_good (fit_all hf hp1).1.1 hp0)
 rintro r5 rfl
 refine ⟨hlen,fun _=>⟨hp0,fun _=>?_⟩⟩
 rintro r9 rfl
 exact ⟨hlen,fun _=>⟨hp0,fun _=>⟨hf,rfl,rfl,rfl⟩⟩⟩
theorem ED (t p h:Int) (xs a0 a1 a2 a3 a4 a5 a6 a7 a8:LI) (T k g b:Int) (hp0:bdAll xs) (hp1:slO a0.length a0∧slO a0.length a1∧slO a0.length a2∧slO a0.length a3∧slO a0.length a4∧slO a0.length a5∧slO a0.length a6∧slO a0.length a7∧slO a0.length a8) (hl0:xs.length≤9223372036854775807) (hl1:a0.length≤9223372036854775807) (sv sw:VS) {r_:Bool} (hI:Ae t p h xs a0 a1 a2 a3 a4 a5 a6 a7 a8 T k g b sv sw r_):Dw t p h xs a0 a1 a2 a3 a4 a5 a6 a7 a8 T k g b sv sw (fun sv' sw'=>Ae t p h xs a0 a1 a2 a3 a4 a5 a6 a7 a8 T k g b sv' sw' r_∧lx (30,0,0) (30,0,0)) (fun sv' sw' e' y0' y1' y2' y3' y4' y5' y6' y7' y8' ok'=>Af t p h xs a0 a1 a2 a3 a4 a5 a6 a7 a8 T k g b sv' sw' e' y0' y1' y2' y3' y4' y5' y6' y7' y8' ok' r_∧lx (20,0,0) (30,0,0)) (fun sv' sw' e' y0' y1' y2' y3' y4' y5' y6' y7' y8' ok' e2' z0' z1' z2' z3' z4' z5' z6' z7' z8' ok2'=>Ag t p h xs a0 a1 a2 a3 a4 a5 a6 a7 a8 T k g b sv' sw' e' y0' y1' y2' y3' y4' y5' y6' y7' y8' ok' e2' z0' z1' z2' z3' z4' z5' z6' z7' z8' ok2' r_∧lx (10,0,0) (30,0,0)) (fun r__=>r__=r_):=by
 unfold Ae at hI
 unfold Dw Dv E8 AY
 try unfold Ae
 try unfold Af
 try unfold Ag
 obtain ⟨hf,rfl,rfl,rfl⟩:=hI
 obtain ⟨⟨_,hp64⟩,hT,hB,_⟩:=fit_all hf hp1
 refine (fun (q:_)=>⟨⟨hT,fun _=>⟨⟨q,q⟩,q⟩⟩,hT,fun _=>q⟩) ?_
 rintro r rfl
 exact ⟨by omega,fun _=>⟨hB,fun _=>⟨⟨hf,rfl,rfl,rfl⟩,lxo_⟩⟩⟩
theorem EE (t p h:Int) (xs a0 a1 a2 a3 a4 a5 a6 a7 a8:LI) (T k g b:Int) (hp0:bdAll xs) (hp1:slO a0.length a0∧slO a0.length a1∧slO a0.length a2∧slO a0.length a3∧slO a0.length a4∧slO a0.length a5∧slO a0.length a6∧slO a0.length a7∧slO a0.length a8) (hl0:xs.length≤9223372036854775807) (hl1:a0.length≤9223372036854775807) (sv sw:VS) (e:Int) (y0 y1 y2 y3 y4 y5 y6 y7 y8:LI) (ok:Bool) {r_:Bool} (hI:Af t p h xs a0 a1 a2 a3 a4 a5 a6 a7 a8 T k g b sv sw e y0 y1 y2 y3 y4 y5 y6 y7 y8 ok r_):Dy t p h xs a0 a1 a2 a3 a4 a5 a6 a7 a8 T k g b sv sw e y0 y1 y2 y3 y4 y5 y6 y7 y8 ok (fun sv' sw'=>Ae t p h xs a0 a1 a2 a3 a4 a5 a6 a7 a8 T k g b sv' sw' r_∧lx (30,0,0) (20,0,0)) (fun sv' sw' e' y0' y1' y2' y3' y4' y5' y6' y7' y8' ok'=>Af t p h xs a0 a1 a2 a3 a4 a5 a6 a7 a8 T k g b sv' sw' e' y0' y1' y2' y3' y4' y5' y6' y7' y8' ok' r_∧lx (20,0,0) (20,0,0)) (fun sv' sw' e' y0' y1' y2' y3' y4' y5' y6' y7' y8' ok' e2' z0' z1' z2' z3' z4' z5' z6' z7' z8' ok2'=>Ag t p h xs a0 a1 a2 a3 a4 a5 a6 a7 a8 T k g b sv' sw' e' y0' y1' y2' y3' y4' y5' y6' y7' y8' ok' e2' z0' z1' z2' z3' z4' z5' z6' z7' z8' ok2' r_∧lx (10,0,0) (20,0,0)) (fun r__=>r__=r_):=by
 unfold Af at hI
 unfold Dy Dx E8 AY
 try unfold Ae
 try unfold Af
 try unfold Ag
 obtain ⟨hf,rfl,he,rfl⟩:=hI
 obtain ⟨⟨_,hp64⟩,hT,hB,_⟩:=fit_all hf hp1
 refine (fun (q:_)=>⟨⟨hT,fun _=>⟨⟨q,q⟩,q⟩⟩,hT,fun _=>q⟩) ?_
 rintro r rfl
 exact ⟨by omega,fun _=>⟨hB,fun _=>⟨⟨hf,he,rfl,rfl⟩,lxo_⟩⟩⟩
theorem EF (t p h:Int) (xs a0 a1 a2 a3 a4 a5 a6 a7 a8:LI) (T k g b:Int) (hp0:bdAll xs) (hp1:slO a0.length a0∧slO a0.length a1∧slO a0.length a2∧slO a0.length a3∧slO a0.length a4∧slO a0.length a5∧slO a0.length a6∧slO a0.length a7∧slO a0.length a8) (hl0:xs.length≤9223372036854775807) (hl1:a0.length≤9223372036854775807) (sv sw:VS) (e:Int) (y0 y1 y2 y3 y4 y5 y6 y7 y8:LI) (ok:Bool) (e2:Int) (z0 z1 z2 z3 z4 z5 z6 z7 z8:LI) (ok2:Bool) {r_:Bool} (hI:Ag t p h xs a0 a1 a2 a3 a4 a5 a6 a7 a8 T k g b sv sw e y0 y1 y2 y3 y4 y5 y6 y7 y8 ok e2 z0 z1 z2 z3 z4 z5 z6 z7 z8 ok2 r_):Dz t p h xs a0 a1 a2 a3 a4 a5 a6 a7 a8 T k g b sv sw e y0 y1 y2 y3 y4 y5 y6 y7 y8 ok e2 z0 z1 z2 z3 z4 z5 z6 z7 z8 ok2 (fun sv' sw'=>Ae t p h xs a0 a1 a2 a3 a4 a5 a6 a7 a8 T k g b sv' sw' r_∧lx (30,0,0) (10,0,0)) (fun sv' sw' e' y0' y1' y2' y3' y4' y5' y6' y7' y8' ok'=>Af t p h xs a0 a1 a2 a3 a4 a5 a6 a7 a8 T k g b sv' sw' e' y0' y1' y2' y3' y4' y5' y6' y7' y8' ok' r_∧lx (20,0,0) (10,0,0)) (fun sv' sw' e' y0' y1' y2' y3' y4' y5' y6' y7' y8' ok' e2' z0' z1' z2' z3' z4' z5' z6' z7' z8' ok2'=>Ag t p h xs a0 a1 a2 a3 a4 a5 a6 a7 a8 T k g b sv' sw' e' y0' y1' y2' y3' y4' y5' y6' y7' y8' ok' e2' z0' z1' z2' z3' z4' z5' z6' z7' z8' ok2' r_∧lx (10,0,0) (10,0,0)) (fun r__=>r__=r_):=by
 unfold Ag at hI
 unfold Dz
 try unfold Ae
 try unfold Af
 try unfold Ag
 obtain ⟨hf,he,he2,rfl⟩:=hI
 rw [KJ hf hp1 hp0] at he
 rw [←he2] at he
 injection he with h1 he;injection he with h2 he
 injection he with i0 he;injection he with i1 he;injection he with i2 he;injection he with i3 he;injection he with i4 he;injection he with i5 he;injection he with i6 he;injection he with i7 he;injection he with i8 he;
 subst h1 h2 i0 i1 i2 i3 i4 i5 i6 i7 i8 he
 refine ⟨fun _=>?_,fun hd=>?_⟩
 ·rintro r1 rfl r3 rfl
  refine ⟨fun _=>by simp [VS.puts],fun _=>?_⟩
  show (_&&l18_live)=true
  simp [l18_live]
 ·exfalso;simp [r17_Same] at hd
theorem Hw:EOk 3 IA:=
 ent_wp Dg T_l18_live_ok (I:=[1106900,1426900,2706000,2999998]) Tryz.func3 mix (B:=bodyOf Tryz.f3) (by kernel_rfl) rfl (by kernel_rfl) 400
  fun p0 t p h xs a0 a1 a2 a3 a4 a5 a6 a7 a8 T k g b hb hp=>have hl0:xs.length≤9223372036854775807:=hb.2.1;have hl1:a0.length≤9223372036854775807:=hb.2.2.1.1;have hp0:bdAll xs:=hp _ (.head _);have hp1:slO a0.length a0∧slO a0.length a1∧slO a0.length a2∧slO a0.length a3∧slO a0.length a4∧slO a0.length a5∧slO a0.length a6∧slO a0.length a7∧slO a0.length a8:=hp _ (.tail _ (.head _));⟨[BK p0 t p h xs a0 a1 a2 a3 a4 a5 a6 a7 a8 T k g b,BL p0 t p h xs a0 a1 a2 a3 a4 a5 a6 a7 a8 T k g b,BM p0 t p h xs a0 a1 a2 a3 a4 a5 a6 a7 a8 T k g b],fun j=>List.getD [appC (Hd.kd (BK p0 t p h xs a0 a1 a2 a3 a4 a5 a6 a7 a8 T k g b)) (fun sv' sw'=>Ae t p h xs a0 a1 a2 a3 a4 a5 a6 a7 a8 T k g b sv' sw' (SmallAllocs t p h xs a0 a1 a2 a3 a4 a5 a6 a7 a8 T k g b)),appC (Hd.kd (BL p0 t p h xs a0 a1 a2 a3 a4 a5 a6 a7 a8 T k g b)) (fun sv' sw' e' y0' y1' y2' y3' y4' y5' y6' y7' y8' ok'=>Af t p h xs a0 a1 a2 a3 a4 a5 a6 a7 a8 T k g b sv' sw' e' y0' y1' y2' y3' y4' y5' y6' y7' y8' ok' (SmallAllocs t p h xs a0 a1 a2 a3 a4 a5 a6 a7 a8 T k g b)),appC (Hd.kd (BM p0 t p h xs a0 a1 a2 a3 a4 a5 a6 a7 a8 T k g b)) (fun sv' sw' e' y0' y1' y2' y3' y4' y5' y6' y7' y8' ok' e2' z0' z1' z2' z3' z4' z5' z6' z7' z8' ok2'=>Ag t p h xs a0 a1 a2 a3 a4 a5 a6 a7 a8 T k g b sv' sw' e' y0' y1' y2' y3' y4' y5' y6' y7' y8' ok' e2' z0' z1' z2' z3' z4' z5' z6' z7' z8' ok2' (SmallAllocs t p h xs a0 a1 a2 a3 a4 a5 a6 a7 a8 T k g b))] j (fun _=>False),fun j=>List.getD [appC (Hd.kd (BK p0 t p h xs a0 a1 a2 a3 a4 a5 a6 a7 a8 T k g b)) (fun sv' sw'=>(30,0,0)),appC (Hd.kd (BL p0 t p h xs a0 a1 a2 a3 a4 a5 a6 a7 a8 T k g b)) (fun sv' sw' e' y0' y1' y2' y3' y4' y5' y6' y7' y8' ok'=>(20,0,0)),appC (Hd.kd (BM p0 t p h xs a0 a1 a2 a3 a4 a5 a6 a7 a8 T k g b)) (fun sv' sw' e' y0' y1' y2' y3' y4' y5' y6' y7' y8' ok' e2' z0' z1' z2' z3' z4' z5' z6' z7' z8' ok2'=>(10,0,0))] j (fun _=>(0,0,0)),by kernel_rfl,⟨_,fun _ _ _=>by kernel_rfl,EC t p h xs a0 a1 a2 a3 a4 a5 a6 a7 a8 T k g b hp0 hp1 hl0 hl1⟩,⟨fun sv sw hI=>⟨_,fun _ _ _=>by kernel_rfl,ED t p h xs a0 a1 a2 a3 a4 a5 a6 a7 a8 T k g b hp0 hp1 hl0 hl1 sv sw hI⟩,⟨fun sv sw e y0 y1 y2 y3 y4 y5 y6 y7 y8 ok hI=>⟨_,fun _ _ _=>by kernel_rfl,EE t p h xs a0 a1 a2 a3 a4 a5 a6 a7 a8 T k g b hp0 hp1 hl0 hl1 sv sw e y0 y1 y2 y3 y4 y5 y6 y7 y8 ok hI⟩,⟨fun sv sw e y0 y1 y2 y3 y4 y5 y6 y7 y8 ok e2 z0 z1 z2 z3 z4 z5 z6 z7 z8 ok2 hI=>⟨_,fun _ _ _=>by kernel_rfl,EF t p h xs a0 a1 a2 a3 a4 a5 a6 a7 a8 T k g b hp0 hp1 hl0 hl1 sv sw e y0 y1 y2 y3 y4 y5 y6 y7 y8 ok e2 z0 z1 z2 z3 z4 z5 z6 z7 z8 ok2 hI⟩,trivial⟩⟩⟩⟩
theorem EG (t p h:Int) (xs a0 a1 a2 a3 a4 a5 a6 a7 a8:LI) (T k g b:Int) (a_0:Option Addr) (c_0:Nat) (a_1:Option Addr) (c_1:Nat) {E_:Ev} {G_:Hp} {w_:World} (hr0:RowAt G_ a_0 xs.length [.ints .u32 xs]∧xs.length≤c_0) (hr1:(RowAt G_ a_1 a0.length [.sls a0, .sls a1, .sls a2, .sls a3, .sls a4, .sls a5, .sls a6, .sls a7, .sls a8]∧a0.length≤c_1)∧RowAt E_.z a_1 a0.length [.sls a0, .sls a1, .sls a2, .sls a3, .sls a4, .sls a5, .sls a6, .sls a7, .sls a8]∧subs E_.z a0.length [.sls a0, .sls a1, .sls a2, .sls a3, .sls a4, .sls a5, .sls a6, .sls a7, .sls a8]) (hp0:bdAll xs) (hp1:slO a0.length a0∧slO a0.length a1∧slO a0.length a2∧slO a0.length a3∧slO a0.length a4∧slO a0.length a5∧slO a0.length a6∧slO a0.length a7∧slO a0.length a8) (hS:Sat E_ G_ w_ []):Calls Tryz.prog 3 #[(.agg #[.int .i64 t, .int .i64 p, .int .i64 h]),(.slice a_0 xs.length c_0),(.agg #[.slice a_1 a0.length c_1, .int .i64 T, .int .i64 k, .int .i64 g, .int .i64 b])] w_ (fun en w'=>en= .returned (.bool (SmallAllocs t p h xs a0 a1 a2 a3 a4 a5 a6 a7 a8 T k g b))∧Sat E_ G_ w' []):=by
 refine law_of Dg (c:=DR) (F:=SmallAllocs) (pre:=fun t p h xs a0 a1 a2 a3 a4 a5 a6 a7 a8 T k g b=>[bdAll xs,slO a0.length a0∧slO a0.length a1∧slO a0.length a2∧slO a0.length a3∧slO a0.length a4∧slO a0.length a5∧slO a0.length a6∧slO a0.length a7∧slO a0.length a8]) Hw [((.agg #[.int .i64 t, .int .i64 p, .int .i64 h]),(.none)),((.slice a_0 xs.length c_0),(.row xs.length [.ints .u32 xs])),((.agg #[.slice a_1 a0.length c_1, .int .i64 T, .int .i64 k, .int .i64 g, .int .i64 b]),(.many [.row a0.length [.sls a0, .sls a1, .sls a2, .sls a3, .sls a4, .sls a5, .sls a6, .sls a7, .sls a8], .none, .none, .none, .none]))] [.i t, .i p, .i h, .li xs, .li a0, .li a1, .li a2, .li a3, .li a4, .li a5, .li a6, .li a7, .li a8, .i T, .i k, .i g, .i b] (by kernel_rfl) _ (by kernel_rfl) (by kernel_rfl) (by kernel_rfl) ?_ ?_ hS
 ·intro p hp
  have hp:p∈[(bdAll xs:Prop),(slO a0.length a0∧slO a0.length a1∧slO a0.length a2∧slO a0.length a3∧slO a0.length a4∧slO a0.length a5∧slO a0.length a6∧slO a0.length a7∧slO a0.length a8:Prop)]:=hp
  simp only [List.mem_cons,List.not_mem_nil,or_false] at hp
  rcases hp with rfl|rfl
  ·exact hp0
  ·exact hp1
 ·intro x hx
  simp only [List.mem_cons,List.not_mem_nil,or_false] at hx
  rcases hx with rfl|rfl|rfl
  ·first|(simp only [iOk,isOk,and_true,true_and];done)|(simp only [iOk,isOk,and_true,true_and];exact ⟨_,_,rfl,trivial⟩)|simp [iOk,isOk]
  ·first|(simp only [iOk,isOk,and_true,true_and];done)|(simp only [iOk,isOk,and_true,true_and];exact ⟨_,_,rfl,hr0.1,hr0.2,fun h=>by cases h⟩)|simp [iOk,isOk]
  ·first|(simp only [iOk,isOk,and_true,true_and];done)|(simp only [iOk,isOk,and_true,true_and];exact ⟨_,_,rfl,hr1.1.1,hr1.1.2,fun _=>hr1.2⟩)|simp [iOk,isOk]
end Go.Proofs.YtjfabjhlkpgckaaGreat
namespace Go.Proofs.YtjfabjhlkpgckaaGreat
open Go.ChangeShapes Go.WideShapes Go.ChangeAt Go.RowKit Go.Joins Go.Sl
theorem G8:ownKnob Tryz.prog.godebug=none:=by kernel_rfl
theorem DV:laidOutB Tryz.prog=true:=by kernel_rfl
set_option maxRecDepth 100000 in
theorem Ez (os:Os) (started:os.Started) (H:Type) (enc:TypeId×Value→H):
 ReturnsInHanded {} Tryz.checked os 3 .any (Rows.smallAllocsSpec.pre6 enc Tryz.prog Tryz.f3 Rows.smallAllocsRow.domain false) (Rows.smallAllocsSpec.post enc Tryz.prog Tryz.f3 false true false false):=by
 refine returnsInHanded_of_change (C:=Tryz.checked) G8 started (by kernel_rfl) Tryz.func3
  (ChangeSpec.witness6 (enc:=enc) (C:=Tryz.checked) false ⟨#[], #[.agg #[.int .i64 0, .int .i64 0, .int .i64 0], .slice none 0 0, .agg #[.slice none 0 0, .int .i64 0, .int .i64 0, .int .i64 0, .int .i64 0]],[]⟩ 8 (by kernel_rfl) (by kernel_rfl) (by kernel_rfl) (by kernel_rfl)) ?_
 intro W base args ds gs before hval0 hW _ _
 have hval:∀(j:Nat) t v,Tryz.f3.params[j]? =some t→args[j]? =some v→Value.okWide Tryz.prog W .any base t v:=hval0
 have hW':=hW
 obtain ⟨p,q,hA0,_,_,_,_⟩:=hW
 have hA:DataW.TrodAll enc Tryz.prog W 0 (fun _=>true) true Tryz.f3.params.toList args.toList ds p:=hA0
 rw [Tryz.params3] at hA hval
 obtain ⟨v0,v1,v2,d0,d1,d2,p0,p1,p2,rfl,rfl,_,h0,h1,h2⟩:=trodAll_three hA
 obtain ⟨k0,rfl,hk0⟩:=open_flat 8 (by kernel_rfl) (sh:=[.int .i64, .int .i64, .int .i64]) (by kernel_rfl) (hval 0 23 v0 rfl rfl) h0
 obtain ⟨_,r0_0,rfl,⟨a0_0,rfl,wa0_0⟩,hk0⟩:=hk0
 have ba0_0:=bd_i64 wa0_0
 obtain ⟨_,r0_1,rfl,⟨a0_1,rfl,wa0_1⟩,hk0⟩:=hk0
 have ba0_1:=bd_i64 wa0_1
 obtain ⟨_,r0_2,rfl,⟨a0_2,rfl,wa0_2⟩,hk0⟩:=hk0
 have ba0_2:=bd_i64 wa0_2
 obtain rfl:=hk0
 obtain ⟨s1,n1,c1,k1,rfl,hk1,hr1⟩:=open_rows 8 Tryz.underlying24 (sh:=[.int .u32]) (by kernel_rfl) (by kernel_rfl) (hval 1 24 v1 rfl rfl) h1
 obtain ⟨_,r1_0,rfl,⟨x1_0,rfl,hl1_0,hw1_0⟩,hk1⟩:=hk1
 obtain rfl:=hk1
 subst hl1_0
 obtain ⟨s2,n2,c2,F,y1,y2,y3,y4,rfl,⟨wy1,wy2,wy3,wy4⟩,hl,hr2,hsb,hbd⟩:=open_ask (tI:=3) Tryz.underlying27 rfl ⟨rfl,rfl⟩ ⟨rfl,rfl⟩ ⟨rfl,rfl⟩ ⟨rfl,rfl⟩ ⟨rfl,rfl⟩ (by kernel_rfl) (by kernel_rfl) (by kernel_rfl) Tryz.underlying3 Tryz.underlying25 Tryz.underlying36 Tryz.underlying34 Tryz.underlying2 (by kernel_rfl) (by kernel_rfl) (by kernel_rfl) (hval 2 27 v2 rfl rfl) h2
 obtain rfl:=hl 0
 clear hA0 hval0
 refine (EG a0_0 a0_1 a0_2 x1_0 (F 0) (F 1) (F 2) (F 3) (F 4) (F 5) (F 6) (F 7) (F 8) y1 y2 y3 y4 s1 c1 s2 c2 hr1 ⟨hr2,hr2.1,hsb⟩ (fun v hv=>bd_u32 (hw1_0 v hv)) ⟨fun i hi=>hbd 0 i (by decide) hi,fun i hi=>hbd 1 i (by decide) hi,fun i hi=>hbd 2 i (by decide) hi,fun i hi=>hbd 3 i (by decide) hi,fun i hi=>hbd 4 i (by decide) hi,fun i hi=>hbd 5 i (by decide) hi,fun i hi=>hbd 6 i (by decide) hi,fun i hi=>hbd 7 i (by decide) hi,fun i hi=>hbd 8 i (by decide) hi⟩ (Sat.start W)).mono fun e W' ⟨he,hS⟩=>?_
 rw [show SmallAllocs a0_0 a0_1 a0_2 x1_0 (F 0) (F 1) (F 2) (F 3) (F 4) (F 5) (F 6) (F 7) (F 8) y1 y2 y3 y4=true from rfl] at he
 subst he
 exact ⟨_,rfl,law_post 4 DV hW' rfl rfl Tryz.underlying4 (by kernel_rfl) ⟨rfl,rfl,rfl⟩ hS.below⟩
theorem SmallAllocs_holds:Rows.SmallAllocsSaid:=
 OpenClaim.holds_of_wide 3 Tryz.f3 rfl rfl rfl rfl rfl rfl rfl ⟨rfl,rfl,rfl,rfl,rfl⟩ rfl rfl rfl rfl rfl (by kernel_rfl) Tryz.func3 (by kernel_rfl)
  (of_decide_eq_true (by kernel_rfl)) (by unfold Func.isWrapper;rw [if_neg (of_decide_eq_false (by kernel_rfl))];exact ⟨rfl,rfl⟩)
  (fun os started H enc _=>Ez os started H enc)
#print axioms SmallAllocs_holds
end Go.Proofs.YtjfabjhlkpgckaaGreat
