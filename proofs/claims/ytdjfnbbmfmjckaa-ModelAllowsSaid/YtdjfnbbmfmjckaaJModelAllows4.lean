/-
  DERIVED. Part 4 of the texts of this claim.
-/
import Derived.Test.YtdjfnbbmfmjckaaJModelAllows3
set_option linter.unusedSimpArgs false
set_option linter.unusedVariables false
open Go.IntKind renaming i64 → iB, wrap → iO
open List renaming getD_eq_getElem?_getD → iC, length → iH, getElem?_eq_getElem → iK, getD → iN, length_append → jL, all_eq_true → jN, range → jQ, mem_range → kV, take → lP, findIdx?_eq_some_iff_getElem → lQ, length_take → lW, any_cons → mG, take_length → mH, eraseIdx_of_length_le → mM, findIdx?_eq_none_iff → mQ, take_add_one → nN, getElem_of_mem → nY
open Bool renaming and_eq_true → iE, false_or → jW, or_eq_false_iff → kH, true_or → kS, not_eq_true' → kU, not_eq_false' → lO, and_false → oJ, true_and → oO
open Nat renaming not_lt_zero → kB, mul_le_mul_right → kF, le_trans → lZ, sub_self → nF, add_le_add_right → nO
open Int renaming toNat → jI
open Prod renaming fst → kM
namespace Go.Proofs.Ytdjfnbbmfmjckaa
section
open Go.Sl
def BK (l:LI) (g:Int):Int:=match l.findIdx? (· ==g) with
 |some i=>(i:Int)
 |none=> -1
def AoP (t p h:Int):Int:=iO .i64 (BM t p h*iO .i64 (p+1))
def Ui (t p h a z:Int):Bool:=decide (z≥1)&&decide (a≥BM t p h)&&decide (a≤AoP t p h)&&decide (z≤iO .i64 (AoP t p h-a))
def fcR (s:RS) (a z w:Int) (j:Nat):Bool:=((j:Int) !=w&&decide (s.a.getD j 0<iO .i64 (a+z)))&&decide (a<iO .i64 (s.a.getD j 0+s.z.getD j 0))
def OV (s:RS) (a z w:Int):Bool:=Ui s.t s.p s.h a z&&(jQ s.a.length).all λj=>!fcR s a z w j
def insL:List (Int×Int)→Int×Int→List (Int×Int)
 |[],b=>[b]
 |x::r,b=>bif decide (x.1>b.1) then b::x::r else x::insL r b
def DL (s:RS) (a z:Int):RS:=⟨s.t,s.p,s.h,(insL (Ba s.a s.z) (a,z)).map (·.1),(insL (Ba s.a s.z) (a,z)).map (·.2),s.r0,s.r1,s.r2,s.r3,s.r4,s.r5,s.r6,s.r7⟩
def D8 (s:RS) (k:Int):RS:=⟨s.t,s.p,s.h,s.a.eraseIdx k.toNat,s.z.eraseIdx k.toNat,s.r0,s.r1,s.r2,s.r3,s.r4,s.r5,s.r6,s.r7⟩
theorem Ar7 {l:LI} {g:Int} {i:Nat} (h:i<l.length) (he:l.getD i 0=g) (hb:∀j,j<i→l.getD j 0≠g):BK l g=(i:Int):=by
 have:l.findIdx? (· ==g)=some i:=by
  rw [lQ]
  refine ⟨h,?_, λj hj=>?_⟩
  ·rw [iC,iK h] at he
   simpa using he
  ·have:=hb j hj
   rw [iC,iK (by omega)] at this
   simpa using this
 unfold BK;rw [this]
theorem Ar8 {l:LI} {g:Int} (hb:∀j,j<l.length→l.getD j 0≠g):BK l g= -1:=by
 have:l.findIdx? (· ==g)=none:=by
  rw [mQ]
  intro x hx
  obtain ⟨j,hj,rfl⟩:=nY hx
  have:=hb j hj
  rw [iC,iK hj] at this
  simpa using this
 unfold BK;rw [this]
theorem Zh (b:Int×Int):∀l:List (Int×Int),(insL l b).length=l.length+1
 |[]=>rfl
 |x::r=>by
  unfold insL
  cases decide (x.1>b.1) with
  |true=>rfl
  |false=>simp [Zh b r]
theorem OW {xs ys:LI} {x y:Int} (h:ys.length=xs.length):Ba (xs++[x]) (ys++[y])=Ba xs ys++[(x,y)]:=by
 unfold Ba;rw [List.zip_append h.symm];rfl
theorem Ak8 {xs ys:LI} (h:ys.length=xs.length):(Ba xs ys).map (·.1)=xs:=by
 unfold Ba;exact List.map_fst_zip (by omega)
theorem Ak9 {xs ys:LI} (h:ys.length=xs.length):(Ba xs ys).map (·.2)=ys:=by
 unfold Ba;exact List.map_snd_zip (by omega)
theorem AoQ {xs ys:LI} (h:ys.length=xs.length) {i:Nat} (hi:i<xs.length):(Ba xs ys).drop i=(xs.getD i 0,ys.getD i 0)::(Ba xs ys).drop (i+1):=by
 have hl:i<(Ba xs ys).length:=by rw [Jb h.symm];exact hi
 rw [List.drop_eq_getElem_cons hl]
 have:=WI h.symm hi
 rw [iK hl] at this
 injection this with this
 rw [this]
theorem An5 {l:LI} {i k:Nat} (hi:i<l.length) (h:i≠k):(l.take (i+1)).eraseIdx k=(l.take i).eraseIdx k++[l.getD i 0]:=by
 have e:l.take (i+1)=l.take i++[l.getD i 0]:=by
  rw [nN,iK hi,iC,iK hi];rfl
 rw [e]
 have hl:(l.take i).length=i:=by rw [lW];omega
 by_cases hk:k<i
 ·rw [List.eraseIdx_append_of_lt_length (by omega)]
 ·rw [mM (by rw [jL,hl];simp;omega),mM (by omega)]
theorem An6 {l:LI} {i:Nat} (hi:i<l.length):(l.take (i+1)).eraseIdx i=(l.take i).eraseIdx i:=by
 have e:l.take (i+1)=l.take i++[l.getD i 0]:=by
  rw [nN,iK hi,iC,iK hi];rfl
 have hl:(l.take i).length=i:=by rw [lW];omega
 rw [e,List.eraseIdx_append_of_length_le (by omega),hl,nF,mM (l:=l.take i) (by omega)]
 simp
theorem Aq0 (l:LI) (i k:Nat):((l.take i).eraseIdx k).length≤l.length:=lZ (List.length_eraseIdx_le _ _) (by rw [lW];omega)
def ApK (t p h:Int):RS:=⟨t,p,h,[],[],0,0,0,0,0,0,0,0⟩
abbrev Aq1:Ct Sg:=⟨none,false,[.agg [.i .i64, .i .i64, .i .i64]], .nobj CW⟩
def AkA:Entry Sg:=BU Aq1 (λ(t:Int) (p:Int) (h:Int)=>⟨t,p,h,[],[],0,0,0,0,0,0,0,0⟩) (λt p h=>[Ac t p h=true])
def AkB (t p h:Int) (Q0:Bool→Prop) (O_:Int→Int→Int→Nat→LI→LI→Int→Int→Int→Int→Int→Int→Int→Int→Prop):Prop:=(AV (!Ac t p h) (Q0 (Ac t p h)) (O_ (t) (p) (h) (0) ([]) ([]) (0) (0) (0) (0) (0) (0) (0) (0)))
def Zi (t p h:Int) (q_:Bool):Prop:=False
theorem AjD (t p h:Int) (hp0:Ac t p h=true):AkB t p h (λq_'=>Zi t p h q_') (λt_ p_ h_ n_ al_ zl_ x0_ x1_ x2_ x3_ x4_ x5_ x6_ x7_=>Bj ⟨t_,p_,h_,n_,al_,zl_,x0_,x1_,x2_,x3_,x4_,x5_,x6_,x7_⟩ ((ApK t p h))):=by
 unfold AkB
 try unfold Zi
 refine ⟨λh=>?_, λ_=>⟨rfl,rfl,rfl⟩⟩
 rw [hp0] at h;cases h
theorem AoR:DV 17 AkA:=
 Ane Dg Ik AeJ (I:=[1358000]) Try.func17 mix (B:=AP Try.f17) (by kernel_rfl) rfl (by kernel_rfl) 400
  λp0 t p h hb hp=>have hp0:Ac t p h=true:=hp _ (.head _);⟨(ApK t p h),[⟨some 0,[0,0,1,0,1],[.code [1,0,1,0,1], .code [1,1]],[4],[.b]⟩],[.run], λj=>iN [Ag (Hd.kd (⟨some 0,[0,0,1,0,1],[.code [1,0,1,0,1], .code [1,1]],[4],[.b]⟩:Hd Sg)) (λq_'=>Zi t p h q_')] j (λ_=>False), λj=>iN [Ag (Hd.kd (⟨some 0,[0,0,1,0,1],[.code [1,0,1,0,1], .code [1,1]],[4],[.b]⟩:Hd Sg)) (λq_'=>(0,0,0))] j (λ_=>(0,0,0)),by kernel_rfl, λ_=>rfl,by kernel_rfl,by kernel_rfl,⟨_, λ_ _ _=>by kernel_rfl,AjD t p h hp0⟩,⟨λq_ hI=>False.elim hI,trivial⟩⟩
def AkC:Tb:=(17,AkA)::An4
theorem Abu:D7 AkC:=Ea AoR AeJ
def SI (s:RS) (g:Int):Int:=BK s.a g
abbrev Ar9:Ct Sg:=⟨some CW,true,[.i .i64], .i .i64⟩
def An7:Entry Sg:=BU Ar9 (λ(s:RS) (g:Int)=>BK s.a g) (λs g=>[s.a.length≤1000])
def Abv (s:RS) (g t p h:Int) (n:Nat) (al zl:LI) (x0 x1 x2 x3 x4 x5 x6 x7:Int) (Q0:Int→Int→Int→Nat→LI→LI→Int→Int→Int→Int→Int→Int→Int→Int→Int→Prop) (R_:Int→Prop) (O_:Int→Int→Int→Nat→LI→LI→Int→Int→Int→Int→Int→Int→Int→Int→Int→Prop):Prop:=(Q0 (t) (p) (h) (n) (al) (zl) (x0) (x1) (x2) (x3) (x4) (x5) (x6) (x7) (0))
def AkD (s:RS) (g t_ p_ h_:Int) (n_:Nat) (a_ z_:LI) (r0_ r1_ r2_ r3_ r4_ r5_ r6_ r7_ i_:Int) (Q0:Int→Int→Int→Nat→LI→LI→Int→Int→Int→Int→Int→Int→Int→Int→Int→Prop) (R_:Int→Prop) (O_:Int→Int→Int→Nat→LI→LI→Int→Int→Int→Int→Int→Int→Int→Int→Int→Prop):Prop:=(AV (decide (i_<(↑n_:Int))) (Ap (0≤i_∧i_<(↑n_:Int)) (AV (iN a_ (jI i_) 0==g) (O_ (t_) (p_) (h_) (n_) (a_) (z_) (r0_) (r1_) (r2_) (r3_) (r4_) (r5_) (r6_) (r7_) (i_)) (Q0 (t_) (p_) (h_) (n_) (a_) (z_) (r0_) (r1_) (r2_) (r3_) (r4_) (r5_) (r6_) (r7_) (iO iB (i_+1))))) (O_ (t_) (p_) (h_) (n_) (a_) (z_) (r0_) (r1_) (r2_) (r3_) (r4_) (r5_) (r6_) (r7_) ((-1))))
def JX (s:RS) (g t_ p_ h_:Int) (n_:Nat) (a_ z_:LI) (r0_ r1_ r2_ r3_ r4_ r5_ r6_ r7_ i_:Int):Prop:=Bj ⟨t_,p_,h_,n_,a_,z_,r0_,r1_,r2_,r3_,r4_,r5_,r6_,r7_⟩ s∧0≤i_∧i_≤(a_.length:Int)∧∀j:Nat,j<i_.toNat→a_.getD j 0≠g
theorem Amh (s:RS) (g t p h:Int) (n:Nat) (al zl:LI) (x0 x1 x2 x3 x4 x5 x6 x7:Int) (hp0:s.a.length≤1000) (hx:Bj ⟨t,p,h,n,al,zl,x0,x1,x2,x3,x4,x5,x6,x7⟩ (s)):Abv s g t p h n al zl x0 x1 x2 x3 x4 x5 x6 x7 (λt_' p_' h_' n_' a_' z_' r0_' r1_' r2_' r3_' r4_' r5_' r6_' r7_' i_'=>JX s g t_' p_' h_' n_' a_' z_' r0_' r1_' r2_' r3_' r4_' r5_' r6_' r7_' i_') (λr__=>r__=(SI s g)) (λt_ p_ h_ n_ al_ zl_ x0_ x1_ x2_ x3_ x4_ x5_ x6_ x7_ r_=>Bj ⟨t_,p_,h_,n_,al_,zl_,x0_,x1_,x2_,x3_,x4_,x5_,x6_,x7_⟩ (s)∧r_=(SI s g)):=by
 have key:∀x:RX,Bj x s→Abv s g x.t x.p x.h x.n x.a x.z x.r0 x.r1 x.r2 x.r3 x.r4 x.r5 x.r6 x.r7 (λt_' p_' h_' n_' a_' z_' r0_' r1_' r2_' r3_' r4_' r5_' r6_' r7_' i_'=>JX s g t_' p_' h_' n_' a_' z_' r0_' r1_' r2_' r3_' r4_' r5_' r6_' r7_' i_') (λr__=>r__=(SI s g)) (λt_ p_ h_ n_ al_ zl_ x0_ x1_ x2_ x3_ x4_ x5_ x6_ x7_ r_=>Bj ⟨t_,p_,h_,n_,al_,zl_,x0_,x1_,x2_,x3_,x4_,x5_,x6_,x7_⟩ (s)∧r_=(SI s g)):=by
  intro x ho
  unfold Abv
  try unfold JX
  exact ⟨ho,by decide,by omega, λj hj=>absurd hj (kB j)⟩
 exact key ⟨t,p,h,n,al,zl,x0,x1,x2,x3,x4,x5,x6,x7⟩ hx
theorem Ami (s:RS) (g:Int) (hp0:s.a.length≤1000) (t_ p_ h_:Int) (n_:Nat) (a_ z_:LI) (r0_ r1_ r2_ r3_ r4_ r5_ r6_ r7_ i_:Int) (hI:JX s g t_ p_ h_ n_ a_ z_ r0_ r1_ r2_ r3_ r4_ r5_ r6_ r7_ i_):AkD s g t_ p_ h_ n_ a_ z_ r0_ r1_ r2_ r3_ r4_ r5_ r6_ r7_ i_ (λt_' p_' h_' n_' a_' z_' r0_' r1_' r2_' r3_' r4_' r5_' r6_' r7_' i_'=>JX s g t_' p_' h_' n_' a_' z_' r0_' r1_' r2_' r3_' r4_' r5_' r6_' r7_' i_'∧lx (((a_'.length:Int)-i_').toNat,0,0) (((a_.length:Int)-i_).toNat,0,0)) (λr__=>r__=(SI s g)) (λt_ p_ h_ n_ al_ zl_ x0_ x1_ x2_ x3_ x4_ x5_ x6_ x7_ r_=>Bj ⟨t_,p_,h_,n_,al_,zl_,x0_,x1_,x2_,x3_,x4_,x5_,x6_,x7_⟩ (s)∧r_=(SI s g)):=by
 unfold JX at hI
 unfold AkD
 try unfold JX
 obtain ⟨hR,h1,h2,h3⟩:=hI
 have e:=hR.eq
 subst e
 have hn:n_=a_.length:=hR.n
 have hz:z_.length=a_.length:=hR.z
 subst hn
 have hp:a_.length≤1000:=hp0
 refine ⟨λhlt=>?_, λhlt=>?_⟩
 ·have hlt:i_<(a_.length:Int):=by simpa using hlt
  refine ⟨⟨h1,hlt⟩, λ_=>⟨λhg=>?_, λhg=>?_⟩⟩
  ·refine ⟨hR,?_⟩
   show i_=BK a_ g
   rw [Ar7 (i:=i_.toNat) (by omega) (by simpa using hg) h3];omega
  ·rw [Hm (n:=i_+1) (by omega)]
   refine ⟨⟨hR,by omega,by omega, λj hj=>?_⟩,Bo⟩
   by_cases hji:j=i_.toNat
   ·subst hji;simpa using hg
   ·exact h3 j (by omega)
 ·have hlt:¬i_<(a_.length:Int):=by simpa using hlt
  refine ⟨hR,?_⟩
  show-1=BK a_ g
  rw [Ar8 λj hj=>h3 j (by omega)]
theorem Aq2:DV 25 An7:=
 Gg Dg Ik true Abu (I:=[103000000000,103000000001,103000000005]) Try.func25 mix (B:=AP Try.f25) (by kernel_rfl) rfl (by kernel_rfl) 400
  λo s g hb hp=>have hp0:s.a.length≤1000:=hp _ (.head _);⟨s,s,(SI s g),[⟨none,[0,1,0,1],[.blk 0, .code [1,1]],[0,1,5],[.boxc o Bq.t Bq.l, .ic .i64 (g), .i .i64]⟩],[.run], λj=>iN [Ag (Hd.kd (⟨none,[0,1,0,1],[.blk 0, .code [1,1]],[0,1,5],[.boxc o Bq.t Bq.l, .ic .i64 (g), .i .i64]⟩:Hd Sg)) (λt_' p_' h_' n_' a_' z_' r0_' r1_' r2_' r3_' r4_' r5_' r6_' r7_' i_'=>JX s g t_' p_' h_' n_' a_' z_' r0_' r1_' r2_' r3_' r4_' r5_' r6_' r7_' i_')] j (λ_=>False), λj=>iN [Ag (Hd.kd (⟨none,[0,1,0,1],[.blk 0, .code [1,1]],[0,1,5],[.boxc o Bq.t Bq.l, .ic .i64 (g), .i .i64]⟩:Hd Sg)) (λt_' p_' h_' n_' a_' z_' r0_' r1_' r2_' r3_' r4_' r5_' r6_' r7_' i_'=>(((a_'.length:Int)-i_').toNat,0,0))] j (λ_=>(0,0,0)),by kernel_rfl, λ_ _=>by kernel_rfl,by kernel_rfl, λt p h n al zl x0 x1 x2 x3 x4 x5 x6 x7 hx=>⟨Abv s g t p h n al zl x0 x1 x2 x3 x4 x5 x6 x7 (λt_' p_' h_' n_' a_' z_' r0_' r1_' r2_' r3_' r4_' r5_' r6_' r7_' i_'=>JX s g t_' p_' h_' n_' a_' z_' r0_' r1_' r2_' r3_' r4_' r5_' r6_' r7_' i_') (λr__=>r__=(SI s g)) (λt_ p_ h_ n_ al_ zl_ x0_ x1_ x2_ x3_ x4_ x5_ x6_ x7_ r_=>Bj ⟨t_,p_,h_,n_,al_,zl_,x0_,x1_,x2_,x3_,x4_,x5_,x6_,x7_⟩ (s)∧r_=(SI s g)), λ_ _ _ _=>by kernel_rfl,Amh s g t p h n al zl x0 x1 x2 x3 x4 x5 x6 x7 hp0 hx⟩,⟨λt_ p_ h_ n_ a_ z_ r0_ r1_ r2_ r3_ r4_ r5_ r6_ r7_ i_ hI=>⟨_, λ_ _ _=>by kernel_rfl,Ami s g hp0 t_ p_ h_ n_ a_ z_ r0_ r1_ r2_ r3_ r4_ r5_ r6_ r7_ i_ hI⟩,trivial⟩⟩
def An8:Tb:=(25,An7)::AkC
theorem AeK:D7 An8:=Ea Aq2 Abu
def KQ (s:RS) (ba bz:Int):Bool:=Ui s.t s.p s.h ba bz
abbrev Amj:Ct Sg:=⟨some CW,true,[.agg [.i .i64, .i .i64]], .b⟩
def Abw:Entry Sg:=BU Amj (λ(s:RS) (ba:Int) (bz:Int)=>Ui s.t s.p s.h ba bz) (λ_ _ _=>[])
def Oi (s:RS) (ba bz t p h:Int) (n:Nat) (al zl:LI) (x0 x1 x2 x3 x4 x5 x6 x7:Int) (R_:Bool→Prop) (O_:Int→Int→Int→Nat→LI→LI→Int→Int→Int→Int→Int→Int→Int→Int→Bool→Prop):Prop:=(O_ (t) (p) (h) (n) (al) (zl) (x0) (x1) (x2) (x3) (x4) (x5) (x6) (x7) (decide (bz≥1)&&decide (ba≥BM t p h)&&decide (ba≤iO iB (BM t p h*iO iB (p+1)))&&decide (bz≤iO iB (iO iB (BM t p h*iO iB (p+1))-ba))))
theorem Ad1 (s:RS) (ba bz t p h:Int) (n:Nat) (al zl:LI) (x0 x1 x2 x3 x4 x5 x6 x7:Int) (hx:Bj ⟨t,p,h,n,al,zl,x0,x1,x2,x3,x4,x5,x6,x7⟩ (s)):Oi s ba bz t p h n al zl x0 x1 x2 x3 x4 x5 x6 x7 (λr__=>r__=(KQ s ba bz)) (λt_ p_ h_ n_ al_ zl_ x0_ x1_ x2_ x3_ x4_ x5_ x6_ x7_ r_=>Bj ⟨t_,p_,h_,n_,al_,zl_,x0_,x1_,x2_,x3_,x4_,x5_,x6_,x7_⟩ (s)∧r_=(KQ s ba bz)):=by
 have key:∀x:RX,Bj x s→Oi s ba bz x.t x.p x.h x.n x.a x.z x.r0 x.r1 x.r2 x.r3 x.r4 x.r5 x.r6 x.r7 (λr__=>r__=(KQ s ba bz)) (λt_ p_ h_ n_ al_ zl_ x0_ x1_ x2_ x3_ x4_ x5_ x6_ x7_ r_=>Bj ⟨t_,p_,h_,n_,al_,zl_,x0_,x1_,x2_,x3_,x4_,x5_,x6_,x7_⟩ (s)∧r_=(KQ s ba bz)):=by
  intro x ho
  unfold Oi
  refine ⟨ho,?_⟩
  have e:=ho.eq
  subst e
  rfl
 exact key ⟨t,p,h,n,al,zl,x0,x1,x2,x3,x4,x5,x6,x7⟩ hx
theorem AjE:DV 63 Abw:=
 Gg Dg Ik true AeK (I:=[]) Try.func63 mix (B:=AP Try.f63) (by kernel_rfl) rfl (by kernel_rfl) 400
  λo s ba bz hb hp=>⟨s,s,(KQ s ba bz),[],[], λj=>iN [] j (λ_=>False), λj=>iN [] j (λ_=>(0,0,0)),by kernel_rfl, λ_ _=>by kernel_rfl,by kernel_rfl, λt p h n al zl x0 x1 x2 x3 x4 x5 x6 x7 hx=>⟨Oi s ba bz t p h n al zl x0 x1 x2 x3 x4 x5 x6 x7 (λr__=>r__=(KQ s ba bz)) (λt_ p_ h_ n_ al_ zl_ x0_ x1_ x2_ x3_ x4_ x5_ x6_ x7_ r_=>Bj ⟨t_,p_,h_,n_,al_,zl_,x0_,x1_,x2_,x3_,x4_,x5_,x6_,x7_⟩ (s)∧r_=(KQ s ba bz)), λ_ _ _ _=>by kernel_rfl,Ad1 s ba bz t p h n al zl x0 x1 x2 x3 x4 x5 x6 x7 hx⟩,trivial⟩
def Abx:Tb:=(63,Abw)::An8
theorem Uj:D7 Abx:=Ea AjE AeK
def LP (s:RS) (ba bz w:Int):Bool:=OV s ba bz w
abbrev AoS:Ct Sg:=⟨some CW,true,[.agg [.i .i64, .i .i64], .i .i64], .b⟩
def AhT:Entry Sg:=BU AoS (λ(s:RS) (ba:Int) (bz:Int) (w:Int)=>OV s ba bz w) (λs ba bz w=>[s.a.length≤1000])
def SK (s:RS) (ba bz w t p h:Int) (n:Nat) (al zl:LI) (x0 x1 x2 x3 x4 x5 x6 x7:Int) (Q0:Int→Int→Int→Nat→LI→LI→Int→Int→Int→Int→Int→Int→Int→Int→Int→Prop) (R_:Bool→Prop) (O_:Int→Int→Int→Nat→LI→LI→Int→Int→Int→Int→Int→Int→Int→Int→Bool→Prop):Prop:=(AV (!(decide (bz≥1)&&decide (ba≥BM t p h)&&decide (ba≤iO iB (BM t p h*iO iB (p+1)))&&decide (bz≤iO iB (iO iB (BM t p h*iO iB (p+1))-ba)))) (O_ (t) (p) (h) (n) (al) (zl) (x0) (x1) (x2) (x3) (x4) (x5) (x6) (x7) (false)) (Q0 (t) (p) (h) (n) (al) (zl) (x0) (x1) (x2) (x3) (x4) (x5) (x6) (x7) (0)))
def AeL (s:RS) (ba bz w t_ p_ h_:Int) (n_:Nat) (a_ z_:LI) (r0_ r1_ r2_ r3_ r4_ r5_ r6_ r7_ i_:Int) (Q0:Int→Int→Int→Nat→LI→LI→Int→Int→Int→Int→Int→Int→Int→Int→Int→Prop) (R_:Bool→Prop) (O_:Int→Int→Int→Nat→LI→LI→Int→Int→Int→Int→Int→Int→Int→Int→Bool→Prop):Prop:=(AV (decide (i_<(↑n_:Int))) (Ap (0≤i_∧i_<(↑n_:Int)) (AV (i_ !=w&&decide (iN a_ (jI i_) 0<iO iB (ba+bz))&&decide (ba<iO iB (iN a_ (jI i_) 0+iN z_ (jI i_) 0))) (O_ (t_) (p_) (h_) (n_) (a_) (z_) (r0_) (r1_) (r2_) (r3_) (r4_) (r5_) (r6_) (r7_) (false)) (Q0 (t_) (p_) (h_) (n_) (a_) (z_) (r0_) (r1_) (r2_) (r3_) (r4_) (r5_) (r6_) (r7_) (iO iB (i_+1))))) (O_ (t_) (p_) (h_) (n_) (a_) (z_) (r0_) (r1_) (r2_) (r3_) (r4_) (r5_) (r6_) (r7_) (true)))
def IG (s:RS) (ba bz w t_ p_ h_:Int) (n_:Nat) (a_ z_:LI) (r0_ r1_ r2_ r3_ r4_ r5_ r6_ r7_ i_:Int):Prop:=Bj ⟨t_,p_,h_,n_,a_,z_,r0_,r1_,r2_,r3_,r4_,r5_,r6_,r7_⟩ s∧Ui s.t s.p s.h ba bz=true∧0≤i_∧i_≤(a_.length:Int)∧∀j:Nat,j<i_.toNat→fcR s ba bz w j=false
theorem AhU (s:RS) (ba bz w t p h:Int) (n:Nat) (al zl:LI) (x0 x1 x2 x3 x4 x5 x6 x7:Int) (hp0:s.a.length≤1000) (hx:Bj ⟨t,p,h,n,al,zl,x0,x1,x2,x3,x4,x5,x6,x7⟩ (s)):SK s ba bz w t p h n al zl x0 x1 x2 x3 x4 x5 x6 x7 (λt_' p_' h_' n_' a_' z_' r0_' r1_' r2_' r3_' r4_' r5_' r6_' r7_' i_'=>IG s ba bz w t_' p_' h_' n_' a_' z_' r0_' r1_' r2_' r3_' r4_' r5_' r6_' r7_' i_') (λr__=>r__=(LP s ba bz w)) (λt_ p_ h_ n_ al_ zl_ x0_ x1_ x2_ x3_ x4_ x5_ x6_ x7_ r_=>Bj ⟨t_,p_,h_,n_,al_,zl_,x0_,x1_,x2_,x3_,x4_,x5_,x6_,x7_⟩ (s)∧r_=(LP s ba bz w)):=by
 have key:∀x:RX,Bj x s→SK s ba bz w x.t x.p x.h x.n x.a x.z x.r0 x.r1 x.r2 x.r3 x.r4 x.r5 x.r6 x.r7 (λt_' p_' h_' n_' a_' z_' r0_' r1_' r2_' r3_' r4_' r5_' r6_' r7_' i_'=>IG s ba bz w t_' p_' h_' n_' a_' z_' r0_' r1_' r2_' r3_' r4_' r5_' r6_' r7_' i_') (λr__=>r__=(LP s ba bz w)) (λt_ p_ h_ n_ al_ zl_ x0_ x1_ x2_ x3_ x4_ x5_ x6_ x7_ r_=>Bj ⟨t_,p_,h_,n_,al_,zl_,x0_,x1_,x2_,x3_,x4_,x5_,x6_,x7_⟩ (s)∧r_=(LP s ba bz w)):=by
  intro x ho
  unfold SK
  try unfold IG
  have e:=ho.eq
  subst e
  refine ⟨λh=>⟨ho,?_⟩, λh=>⟨ho,?_,by decide,by omega, λj hj=>absurd hj (kB j)⟩⟩
  ·have hi:Ui x.t x.p x.h ba bz=false:=(kU _).mp h
   show false=(Ui x.t x.p x.h ba bz&&_)
   rw [hi];rfl
  ·exact (lO _).mp h
 exact key ⟨t,p,h,n,al,zl,x0,x1,x2,x3,x4,x5,x6,x7⟩ hx
theorem AhV (s:RS) (ba bz w:Int) (hp0:s.a.length≤1000) (t_ p_ h_:Int) (n_:Nat) (a_ z_:LI) (r0_ r1_ r2_ r3_ r4_ r5_ r6_ r7_ i_:Int) (hI:IG s ba bz w t_ p_ h_ n_ a_ z_ r0_ r1_ r2_ r3_ r4_ r5_ r6_ r7_ i_):AeL s ba bz w t_ p_ h_ n_ a_ z_ r0_ r1_ r2_ r3_ r4_ r5_ r6_ r7_ i_ (λt_' p_' h_' n_' a_' z_' r0_' r1_' r2_' r3_' r4_' r5_' r6_' r7_' i_'=>IG s ba bz w t_' p_' h_' n_' a_' z_' r0_' r1_' r2_' r3_' r4_' r5_' r6_' r7_' i_'∧lx (((a_'.length:Int)-i_').toNat,0,0) (((a_.length:Int)-i_).toNat,0,0)) (λr__=>r__=(LP s ba bz w)) (λt_ p_ h_ n_ al_ zl_ x0_ x1_ x2_ x3_ x4_ x5_ x6_ x7_ r_=>Bj ⟨t_,p_,h_,n_,al_,zl_,x0_,x1_,x2_,x3_,x4_,x5_,x6_,x7_⟩ (s)∧r_=(LP s ba bz w)):=by
 unfold IG at hI
 unfold AeL
 try unfold IG
 obtain ⟨hR,h0,h1,h2,h3⟩:=hI
 have e:=hR.eq
 subst e
 have hn:n_=a_.length:=hR.n
 have hz:z_.length=a_.length:=hR.z
 subst hn
 have hp:a_.length≤1000:=hp0
 refine ⟨λhlt=>?_, λhlt=>?_⟩
 ·have hlt:i_<(a_.length:Int):=by simpa using hlt
  refine ⟨⟨h1,hlt⟩, λ_=>⟨λhg=>?_, λhg=>?_⟩⟩
  ·refine ⟨hR,?_⟩
   have hf:fcR ⟨t_,p_,h_,a_,z_,r0_,r1_,r2_,r3_,r4_,r5_,r6_,r7_⟩ ba bz w i_.toNat=true:=by unfold fcR;rw [Int.toNat_of_nonneg h1];exact hg
   have ha:((jQ a_.length).all λj=>!fcR ⟨t_,p_,h_,a_,z_,r0_,r1_,r2_,r3_,r4_,r5_,r6_,r7_⟩ ba bz w j)=false:=by
    rw [List.all_eq_false];exact ⟨i_.toNat,kV.2 (by omega),by rw [hf];simp⟩
   show false=(_&&(jQ a_.length).all _)
   rw [ha,oJ]
  ·rw [Hm (n:=i_+1) (by omega)]
   refine ⟨⟨hR,h0,by omega,by omega, λj hj=>?_⟩,Bo⟩
   by_cases hji:j=i_.toNat
   ·subst hji;unfold fcR;rw [Int.toNat_of_nonneg h1];exact hg
   ·exact h3 j (by omega)
 ·have hlt:¬i_<(a_.length:Int):=by simpa using hlt
  refine ⟨hR,?_⟩
  have ha:((jQ a_.length).all λj=>!fcR ⟨t_,p_,h_,a_,z_,r0_,r1_,r2_,r3_,r4_,r5_,r6_,r7_⟩ ba bz w j)=true:=by
   rw [jN];intro j hj;rw [h3 j (by have:=kV.1 hj;omega)];rfl
  show true=(Ui t_ p_ h_ ba bz&&(jQ a_.length).all _)
  have h0:Ui t_ p_ h_ ba bz=true:=h0
  rw [ha,h0];rfl
theorem An9:DV 23 AhT:=
 Gg Dg Ik true Uj (I:=[63,411000000000,411000000004,411000000002,411000000007]) Try.func23 mix (B:=AP Try.f23) (by kernel_rfl) rfl (by kernel_rfl) 400
  λo s ba bz w hb hp=>have hp0:s.a.length≤1000:=hp _ (.head _);⟨s,s,(LP s ba bz w),[⟨none,[0,1,0,1,1],[.blk 0, .code [1,1,1]],[0,4,2,7],[.boxc o Bq.t Bq.l, .box 55 [.ic .i64 (ba), .ic .i64 (bz)], .ic .i64 (w), .i .i64]⟩],[.run], λj=>iN [Ag (Hd.kd (⟨none,[0,1,0,1,1],[.blk 0, .code [1,1,1]],[0,4,2,7],[.boxc o Bq.t Bq.l, .box 55 [.ic .i64 (ba), .ic .i64 (bz)], .ic .i64 (w), .i .i64]⟩:Hd Sg)) (λt_' p_' h_' n_' a_' z_' r0_' r1_' r2_' r3_' r4_' r5_' r6_' r7_' i_'=>IG s ba bz w t_' p_' h_' n_' a_' z_' r0_' r1_' r2_' r3_' r4_' r5_' r6_' r7_' i_')] j (λ_=>False), λj=>iN [Ag (Hd.kd (⟨none,[0,1,0,1,1],[.blk 0, .code [1,1,1]],[0,4,2,7],[.boxc o Bq.t Bq.l, .box 55 [.ic .i64 (ba), .ic .i64 (bz)], .ic .i64 (w), .i .i64]⟩:Hd Sg)) (λt_' p_' h_' n_' a_' z_' r0_' r1_' r2_' r3_' r4_' r5_' r6_' r7_' i_'=>(((a_'.length:Int)-i_').toNat,0,0))] j (λ_=>(0,0,0)),by kernel_rfl, λ_ _=>by kernel_rfl,by kernel_rfl, λt p h n al zl x0 x1 x2 x3 x4 x5 x6 x7 hx=>⟨SK s ba bz w t p h n al zl x0 x1 x2 x3 x4 x5 x6 x7 (λt_' p_' h_' n_' a_' z_' r0_' r1_' r2_' r3_' r4_' r5_' r6_' r7_' i_'=>IG s ba bz w t_' p_' h_' n_' a_' z_' r0_' r1_' r2_' r3_' r4_' r5_' r6_' r7_' i_') (λr__=>r__=(LP s ba bz w)) (λt_ p_ h_ n_ al_ zl_ x0_ x1_ x2_ x3_ x4_ x5_ x6_ x7_ r_=>Bj ⟨t_,p_,h_,n_,al_,zl_,x0_,x1_,x2_,x3_,x4_,x5_,x6_,x7_⟩ (s)∧r_=(LP s ba bz w)), λ_ _ _ _=>by kernel_rfl,AhU s ba bz w t p h n al zl x0 x1 x2 x3 x4 x5 x6 x7 hp0 hx⟩,⟨λt_ p_ h_ n_ a_ z_ r0_ r1_ r2_ r3_ r4_ r5_ r6_ r7_ i_ hI=>⟨_, λ_ _ _=>by kernel_rfl,AhV s ba bz w hp0 t_ p_ h_ n_ a_ z_ r0_ r1_ r2_ r3_ r4_ r5_ r6_ r7_ i_ hI⟩,trivial⟩⟩
def AhW:Tb:=(23,AhT)::Abx
theorem Yd:D7 AhW:=Ea An9 Uj
def F7 (s:RS) (g:Int):Bool:=[s.r0,s.r1,s.r2,s.r3,s.r4,s.r5,s.r6,s.r7].any (· ==g)
abbrev AoT:Ct Sg:=⟨some CW,true,[.i .i64], .b⟩
def AhX:Entry Sg:=BU AoT (λ(s:RS) (g:Int)=>[s.r0,s.r1,s.r2,s.r3,s.r4,s.r5,s.r6,s.r7].any (· ==g)) (λ_ _=>[])
def SL (s:RS) (g t p h:Int) (n:Nat) (al zl:LI) (x0 x1 x2 x3 x4 x5 x6 x7:Int) (R_:Bool→Prop) (O_:Int→Int→Int→Nat→LI→LI→Int→Int→Int→Int→Int→Int→Int→Int→Bool→Prop):Prop:=(Ap ((0:Int)≤0∧(0:Int)<8) (AV (x0==g) (O_ (t) (p) (h) (n) (al) (zl) (x0) (x1) (x2) (x3) (x4) (x5) (x6) (x7) (true)) (Ap ((0:Int)≤1∧(1:Int)<8) (AV (x1==g) (O_ (t) (p) (h) (n) (al) (zl) (x0) (x1) (x2) (x3) (x4) (x5) (x6) (x7) (true)) (Ap ((0:Int)≤2∧(2:Int)<8) (AV (x2==g) (O_ (t) (p) (h) (n) (al) (zl) (x0) (x1) (x2) (x3) (x4) (x5) (x6) (x7) (true)) (Ap ((0:Int)≤3∧(3:Int)<8) (AV (x3==g) (O_ (t) (p) (h) (n) (al) (zl) (x0) (x1) (x2) (x3) (x4) (x5) (x6) (x7) (true)) (Ap ((0:Int)≤4∧(4:Int)<8) (AV (x4==g) (O_ (t) (p) (h) (n) (al) (zl) (x0) (x1) (x2) (x3) (x4) (x5) (x6) (x7) (true)) (Ap ((0:Int)≤5∧(5:Int)<8) (AV (x5==g) (O_ (t) (p) (h) (n) (al) (zl) (x0) (x1) (x2) (x3) (x4) (x5) (x6) (x7) (true)) (Ap ((0:Int)≤6∧(6:Int)<8) (AV (x6==g) (O_ (t) (p) (h) (n) (al) (zl) (x0) (x1) (x2) (x3) (x4) (x5) (x6) (x7) (true)) (Ap ((0:Int)≤7∧(7:Int)<8) (AV (x7==g) (O_ (t) (p) (h) (n) (al) (zl) (x0) (x1) (x2) (x3) (x4) (x5) (x6) (x7) (true)) (O_ (t) (p) (h) (n) (al) (zl) (x0) (x1) (x2) (x3) (x4) (x5) (x6) (x7) (false))))))))))))))))))
theorem AhY (s:RS) (g t p h:Int) (n:Nat) (al zl:LI) (x0 x1 x2 x3 x4 x5 x6 x7:Int) (hx:Bj ⟨t,p,h,n,al,zl,x0,x1,x2,x3,x4,x5,x6,x7⟩ (s)):SL s g t p h n al zl x0 x1 x2 x3 x4 x5 x6 x7 (λr__=>r__=(F7 s g)) (λt_ p_ h_ n_ al_ zl_ x0_ x1_ x2_ x3_ x4_ x5_ x6_ x7_ r_=>Bj ⟨t_,p_,h_,n_,al_,zl_,x0_,x1_,x2_,x3_,x4_,x5_,x6_,x7_⟩ (s)∧r_=(F7 s g)):=by
 have key:∀x:RX,Bj x s→SL s g x.t x.p x.h x.n x.a x.z x.r0 x.r1 x.r2 x.r3 x.r4 x.r5 x.r6 x.r7 (λr__=>r__=(F7 s g)) (λt_ p_ h_ n_ al_ zl_ x0_ x1_ x2_ x3_ x4_ x5_ x6_ x7_ r_=>Bj ⟨t_,p_,h_,n_,al_,zl_,x0_,x1_,x2_,x3_,x4_,x5_,x6_,x7_⟩ (s)∧r_=(F7 s g)):=by
  intro x ho
  unfold SL
  have e:=ho.eq
  subst e
  refine ⟨by decide, λ_=>⟨λe0=>⟨ho,?_⟩, λe0=>?_⟩⟩
  ·show true=_
   unfold F7;simp only [mG,e0,jW,kS]
  refine ⟨by decide, λ_=>⟨λe1=>⟨ho,?_⟩, λe1=>?_⟩⟩
  ·show true=_
   unfold F7;simp only [mG,e0,e1,jW,kS]
  refine ⟨by decide, λ_=>⟨λe2=>⟨ho,?_⟩, λe2=>?_⟩⟩
  ·show true=_
   unfold F7;simp only [mG,e0,e1,e2,jW,kS]
  refine ⟨by decide, λ_=>⟨λe3=>⟨ho,?_⟩, λe3=>?_⟩⟩
  ·show true=_
   unfold F7;simp only [mG,e0,e1,e2,e3,jW,kS]
  refine ⟨by decide, λ_=>⟨λe4=>⟨ho,?_⟩, λe4=>?_⟩⟩
  ·show true=_
   unfold F7;simp only [mG,e0,e1,e2,e3,e4,jW,kS]
  refine ⟨by decide, λ_=>⟨λe5=>⟨ho,?_⟩, λe5=>?_⟩⟩
  ·show true=_
   unfold F7;simp only [mG,e0,e1,e2,e3,e4,e5,jW,kS]
  refine ⟨by decide, λ_=>⟨λe6=>⟨ho,?_⟩, λe6=>?_⟩⟩
  ·show true=_
   unfold F7;simp only [mG,e0,e1,e2,e3,e4,e5,e6,jW,kS]
  refine ⟨by decide, λ_=>⟨λe7=>⟨ho,?_⟩, λe7=>?_⟩⟩
  ·show true=_
   unfold F7;simp only [mG,e0,e1,e2,e3,e4,e5,e6,e7,jW,kS]
  refine ⟨ho,?_⟩
  show false=_
  unfold F7;simp only [mG,List.any_nil,e0,e1,e2,e3,e4,e5,e6,e7,jW]
 exact key ⟨t,p,h,n,al,zl,x0,x1,x2,x3,x4,x5,x6,x7⟩ hx
theorem AnA:DV 55 AhX:=
 Gg Dg Ik true Yd (I:=[2999999]) Try.func55 mix (B:=AP Try.f55) (by kernel_rfl) rfl (by kernel_rfl) 400
  λo s g hb hp=>⟨s,s,(F7 s g),[],[], λj=>iN [] j (λ_=>False), λj=>iN [] j (λ_=>(0,0,0)),by kernel_rfl, λ_ _=>by kernel_rfl,by kernel_rfl, λt p h n al zl x0 x1 x2 x3 x4 x5 x6 x7 hx=>⟨SL s g t p h n al zl x0 x1 x2 x3 x4 x5 x6 x7 (λr__=>r__=(F7 s g)) (λt_ p_ h_ n_ al_ zl_ x0_ x1_ x2_ x3_ x4_ x5_ x6_ x7_ r_=>Bj ⟨t_,p_,h_,n_,al_,zl_,x0_,x1_,x2_,x3_,x4_,x5_,x6_,x7_⟩ (s)∧r_=(F7 s g)), λ_ _ _ _=>by kernel_rfl,AhY s g t p h n al zl x0 x1 x2 x3 x4 x5 x6 x7 hx⟩,trivial⟩
def AhZ:Tb:=(55,AhX)::AhW
theorem Ye:D7 AhZ:=Ea AnA Yd
def LQ (s:RS) (k:Int):RS:=D8 s k
abbrev AoU:Ct Sg:=⟨some CW,false,[.i .i64], .skip⟩
def Aia:Entry Sg:=BU AoU (λ(s:RS) (k:Int)=>D8 s k) (λs k=>[s.a.length≤1000,0≤k])
def SN (s:RS) (k t p h:Int) (n:Nat) (al zl:LI) (x0 x1 x2 x3 x4 x5 x6 x7:Int) (Q0:Int→Int→Int→Nat→LI→LI→Int→Int→Int→Int→Int→Int→Int→Int→Nat→LI→LI→Int→Prop) (R_:RS→Prop) (O_:Int→Int→Int→Nat→LI→LI→Int→Int→Int→Int→Int→Int→Int→Int→Unit→Prop):Prop:=(Q0 (t) (p) (h) (n) (al) (zl) (x0) (x1) (x2) (x3) (x4) (x5) (x6) (x7) (0) ([]) ([]) (0))
def AeM (s:RS) (k t_ p_ h_:Int) (n_:Nat) (a_ z_:LI) (r0_ r1_ r2_ r3_ r4_ r5_ r6_ r7_:Int) (m_:Nat) (oa oz:LI) (i_:Int) (Q0:Int→Int→Int→Nat→LI→LI→Int→Int→Int→Int→Int→Int→Int→Int→Nat→LI→LI→Int→Prop) (R_:RS→Prop) (O_:Int→Int→Int→Nat→LI→LI→Int→Int→Int→Int→Int→Int→Int→Int→Unit→Prop):Prop:=(AV (decide (i_<(↑n_:Int))) (AV (i_ !=k) (Ap (0≤i_∧i_<(↑n_:Int)) (Ap ((m_+1)*16≤140737488355328) (Q0 (t_) (p_) (h_) (n_) (a_) (z_) (r0_) (r1_) (r2_) (r3_) (r4_) (r5_) (r6_) (r7_) (m_+1) (oa++[iN a_ (jI i_) 0]) (oz++[iN z_ (jI i_) 0]) (iO iB (i_+1))))) (Q0 (t_) (p_) (h_) (n_) (a_) (z_) (r0_) (r1_) (r2_) (r3_) (r4_) (r5_) (r6_) (r7_) (m_) (oa) (oz) (iO iB (i_+1)))) (O_ (t_) (p_) (h_) (m_) (oa) (oz) (r0_) (r1_) (r2_) (r3_) (r4_) (r5_) (r6_) (r7_) (())))
def II (s:RS) (k t_ p_ h_:Int) (n_:Nat) (a_ z_:LI) (r0_ r1_ r2_ r3_ r4_ r5_ r6_ r7_:Int) (m_:Nat) (oa oz:LI) (i_:Int):Prop:=Bj ⟨t_,p_,h_,n_,a_,z_,r0_,r1_,r2_,r3_,r4_,r5_,r6_,r7_⟩ s∧0≤i_∧i_≤(a_.length:Int)∧m_=oa.length∧oa=(s.a.take i_.toNat).eraseIdx k.toNat∧oz=(s.z.take i_.toNat).eraseIdx k.toNat
theorem Aib (s:RS) (k t p h:Int) (n:Nat) (al zl:LI) (x0 x1 x2 x3 x4 x5 x6 x7:Int) (hp0:s.a.length≤1000) (hp1:0≤k) (hx:Bj ⟨t,p,h,n,al,zl,x0,x1,x2,x3,x4,x5,x6,x7⟩ (s)):SN s k t p h n al zl x0 x1 x2 x3 x4 x5 x6 x7 (λt_' p_' h_' n_' a_' z_' r0_' r1_' r2_' r3_' r4_' r5_' r6_' r7_' m_' oa' oz' i_'=>II s k t_' p_' h_' n_' a_' z_' r0_' r1_' r2_' r3_' r4_' r5_' r6_' r7_' m_' oa' oz' i_') (λr__=>r__=(LQ s k)) (λt_ p_ h_ n_ al_ zl_ x0_ x1_ x2_ x3_ x4_ x5_ x6_ x7_ r_=>Bj ⟨t_,p_,h_,n_,al_,zl_,x0_,x1_,x2_,x3_,x4_,x5_,x6_,x7_⟩ ((LQ s k))∧r_=()):=by
 have key:∀x:RX,Bj x s→SN s k x.t x.p x.h x.n x.a x.z x.r0 x.r1 x.r2 x.r3 x.r4 x.r5 x.r6 x.r7 (λt_' p_' h_' n_' a_' z_' r0_' r1_' r2_' r3_' r4_' r5_' r6_' r7_' m_' oa' oz' i_'=>II s k t_' p_' h_' n_' a_' z_' r0_' r1_' r2_' r3_' r4_' r5_' r6_' r7_' m_' oa' oz' i_') (λr__=>r__=(LQ s k)) (λt_ p_ h_ n_ al_ zl_ x0_ x1_ x2_ x3_ x4_ x5_ x6_ x7_ r_=>Bj ⟨t_,p_,h_,n_,al_,zl_,x0_,x1_,x2_,x3_,x4_,x5_,x6_,x7_⟩ ((LQ s k))∧r_=()):=by
  intro x ho
  unfold SN
  try unfold II
  exact ⟨ho,by decide,by omega,rfl,by simp,by simp⟩
 exact key ⟨t,p,h,n,al,zl,x0,x1,x2,x3,x4,x5,x6,x7⟩ hx
theorem Aic (s:RS) (k:Int) (hp0:s.a.length≤1000) (hp1:0≤k) (t_ p_ h_:Int) (n_:Nat) (a_ z_:LI) (r0_ r1_ r2_ r3_ r4_ r5_ r6_ r7_:Int) (m_:Nat) (oa oz:LI) (i_:Int) (hI:II s k t_ p_ h_ n_ a_ z_ r0_ r1_ r2_ r3_ r4_ r5_ r6_ r7_ m_ oa oz i_):AeM s k t_ p_ h_ n_ a_ z_ r0_ r1_ r2_ r3_ r4_ r5_ r6_ r7_ m_ oa oz i_ (λt_' p_' h_' n_' a_' z_' r0_' r1_' r2_' r3_' r4_' r5_' r6_' r7_' m_' oa' oz' i_'=>II s k t_' p_' h_' n_' a_' z_' r0_' r1_' r2_' r3_' r4_' r5_' r6_' r7_' m_' oa' oz' i_'∧lx (((a_'.length:Int)-i_').toNat,0,0) (((a_.length:Int)-i_).toNat,0,0)) (λr__=>r__=(LQ s k)) (λt_ p_ h_ n_ al_ zl_ x0_ x1_ x2_ x3_ x4_ x5_ x6_ x7_ r_=>Bj ⟨t_,p_,h_,n_,al_,zl_,x0_,x1_,x2_,x3_,x4_,x5_,x6_,x7_⟩ ((LQ s k))∧r_=()):=by
 unfold II at hI
 unfold AeM
 try unfold II
 obtain ⟨hR,h1,h2,hm,hoa,hoz⟩:=hI
 have e:=hR.eq
 subst e
 have hn:n_=a_.length:=hR.n
 have hz:z_.length=a_.length:=hR.z
 subst hn
 have hp:a_.length≤1000:=hp0
 refine ⟨λhlt=>?_, λhlt=>?_⟩
 ·have hlt:i_<(a_.length:Int):=by simpa using hlt
  have hml:m_≤1000:=by rw [hm,hoa];exact lZ (Aq0 _ _ _) hp
  have ew:iO iB (i_+1)=i_+1:=Hm (by omega)
  have et:(i_+1).toNat=i_.toNat+1:=by omega
  refine ⟨λhne=>⟨⟨h1,hlt⟩, λ_=>⟨lZ (kF 16 (nO hml 1)) (by decide), λ_=>?_⟩⟩, λheq=>?_⟩
  ·have hne:i_.toNat≠k.toNat:=by have:i_≠k:=by simpa using hne
                                 omega
   rw [ew]
   refine ⟨⟨hR,by omega,by omega,by rw [hm];simp,?_,?_⟩,Bo⟩
   ·rw [et,An5 (by show _<a_.length;omega) hne,hoa]
   ·rw [et,An5 (by show _<z_.length;omega) hne,hoz]
  ·have heq:i_=k:=by simpa using heq
   subst heq
   rw [ew]
   refine ⟨⟨hR,by omega,by omega,hm,?_,?_⟩,Bo⟩
   ·rw [et,An6 (by show _<a_.length;omega),hoa]
   ·rw [et,An6 (by show _<z_.length;omega),hoz]
 ·have hlt:¬i_<(a_.length:Int):=by simpa using hlt
  have hi:i_.toNat=a_.length:=by omega
  have ea:oa=a_.eraseIdx k.toNat:=by rw [hoa,hi];show (lP a_.length a_).eraseIdx _=_;rw [mH]
  have ez:oz=z_.eraseIdx k.toNat:=by rw [hoz,hi];show (lP a_.length z_).eraseIdx _=_;rw [←hz,mH]
  refine ⟨⟨hm,?_,?_⟩,rfl⟩
  ·show oz.length=oa.length
   rw [ea,ez,List.length_eraseIdx,List.length_eraseIdx,hz]
  ·show D8 _ k=_
   unfold D8
   rw [ea,ez]
theorem AnB:DV 60 Aia:=
 Gg Dg Ik true Ye (I:=[103000000000,103000000001,103000000004,103000000005]) Try.func60 mix (B:=AP Try.f60) (by kernel_rfl) rfl (by kernel_rfl) 400
  λo s k hb hp=>have hp0:s.a.length≤1000:=hp _ (.head _);have hp1:0≤k:=hp _ (.tail _ (.head _));⟨s,(LQ s k),(),[⟨none,[0,1,0,1],[.blk 0, .code [1,1]],[0,1,4,5],[.boxc o Bq.t Bq.l, .ic .i64 (k), .own 55 [some .i64,some .i64], .i .i64]⟩],[.run], λj=>iN [Ag (Hd.kd (⟨none,[0,1,0,1],[.blk 0, .code [1,1]],[0,1,4,5],[.boxc o Bq.t Bq.l, .ic .i64 (k), .own 55 [some .i64,some .i64], .i .i64]⟩:Hd Sg)) (λt_' p_' h_' n_' a_' z_' r0_' r1_' r2_' r3_' r4_' r5_' r6_' r7_' m_' oa' oz' i_'=>II s k t_' p_' h_' n_' a_' z_' r0_' r1_' r2_' r3_' r4_' r5_' r6_' r7_' m_' oa' oz' i_')] j (λ_=>False), λj=>iN [Ag (Hd.kd (⟨none,[0,1,0,1],[.blk 0, .code [1,1]],[0,1,4,5],[.boxc o Bq.t Bq.l, .ic .i64 (k), .own 55 [some .i64,some .i64], .i .i64]⟩:Hd Sg)) (λt_' p_' h_' n_' a_' z_' r0_' r1_' r2_' r3_' r4_' r5_' r6_' r7_' m_' oa' oz' i_'=>(((a_'.length:Int)-i_').toNat,0,0))] j (λ_=>(0,0,0)),by kernel_rfl, λ_ _=>by kernel_rfl,by kernel_rfl, λt p h n al zl x0 x1 x2 x3 x4 x5 x6 x7 hx=>⟨SN s k t p h n al zl x0 x1 x2 x3 x4 x5 x6 x7 (λt_' p_' h_' n_' a_' z_' r0_' r1_' r2_' r3_' r4_' r5_' r6_' r7_' m_' oa' oz' i_'=>II s k t_' p_' h_' n_' a_' z_' r0_' r1_' r2_' r3_' r4_' r5_' r6_' r7_' m_' oa' oz' i_') (λr__=>r__=(LQ s k)) (λt_ p_ h_ n_ al_ zl_ x0_ x1_ x2_ x3_ x4_ x5_ x6_ x7_ r_=>Bj ⟨t_,p_,h_,n_,al_,zl_,x0_,x1_,x2_,x3_,x4_,x5_,x6_,x7_⟩ ((LQ s k))∧r_=()), λ_ _ _ _=>by kernel_rfl,Aib s k t p h n al zl x0 x1 x2 x3 x4 x5 x6 x7 hp0 hp1 hx⟩,⟨λt_ p_ h_ n_ a_ z_ r0_ r1_ r2_ r3_ r4_ r5_ r6_ r7_ m_ oa oz i_ hI=>⟨_, λ_ _ _=>by kernel_rfl,Aic s k hp0 hp1 t_ p_ h_ n_ a_ z_ r0_ r1_ r2_ r3_ r4_ r5_ r6_ r7_ m_ oa oz i_ hI⟩,trivial⟩⟩
def Aid:Tb:=(60,Aia)::AhZ
theorem Yg:D7 Aid:=Ea AnB Ye
def f_add (s:RS) (ba bz:Int):RS:=DL s ba bz
abbrev Aq3:Ct Sg:=⟨some CW,false,[.agg [.i .i64, .i .i64]], .skip⟩
def AkE:Entry Sg:=BU Aq3 (λ(s:RS) (ba:Int) (bz:Int)=>DL s ba bz) (λs ba bz=>[s.a.length≤1000])
def WJ (s:RS) (ba bz t p h:Int) (n:Nat) (al zl:LI) (x0 x1 x2 x3 x4 x5 x6 x7:Int) (Q0:Int→Int→Int→Nat→LI→LI→Int→Int→Int→Int→Int→Int→Int→Int→Nat→LI→LI→Bool→Int→Prop) (R_:RS→Prop) (O_:Int→Int→Int→Nat→LI→LI→Int→Int→Int→Int→Int→Int→Int→Int→Unit→Prop):Prop:=(Q0 (t) (p) (h) (n) (al) (zl) (x0) (x1) (x2) (x3) (x4) (x5) (x6) (x7) (0) ([]) ([]) (false) (0))
def Aie (s:RS) (ba bz t_ p_ h_:Int) (n_:Nat) (a_ z_:LI) (r0_ r1_ r2_ r3_ r4_ r5_ r6_ r7_:Int) (m_:Nat) (oa oz:LI) (d_:Bool) (i_:Int) (Q0:Int→Int→Int→Nat→LI→LI→Int→Int→Int→Int→Int→Int→Int→Int→Nat→LI→LI→Bool→Int→Prop) (R_:RS→Prop) (O_:Int→Int→Int→Nat→LI→LI→Int→Int→Int→Int→Int→Int→Int→Int→Unit→Prop):Prop:=(AV (decide (i_<(↑n_:Int))) (Ap ((!d_)=true→0≤i_∧i_<(↑n_:Int)) (AV (!d_&&decide (iN a_ (jI i_) 0>ba)) (Ap ((m_+1)*16≤140737488355328) (Ap (0≤i_∧i_<(↑n_:Int)) (Ap ((m_+1+1)*16≤140737488355328) (Q0 (t_) (p_) (h_) (n_) (a_) (z_) (r0_) (r1_) (r2_) (r3_) (r4_) (r5_) (r6_) (r7_) (m_+1+1) (oa++[ba]++[iN a_ (jI i_) 0]) (oz++[bz]++[iN z_ (jI i_) 0]) (true) (iO iB (i_+1)))))) (Ap (0≤i_∧i_<(↑n_:Int)) (Ap ((m_+1)*16≤140737488355328) (Q0 (t_) (p_) (h_) (n_) (a_) (z_) (r0_) (r1_) (r2_) (r3_) (r4_) (r5_) (r6_) (r7_) (m_+1) (oa++[iN a_ (jI i_) 0]) (oz++[iN z_ (jI i_) 0]) (d_) (iO iB (i_+1))))))) (AV (!d_) (Ap ((m_+1)*16≤140737488355328) (O_ (t_) (p_) (h_) (m_+1) (oa++[ba]) (oz++[bz]) (r0_) (r1_) (r2_) (r3_) (r4_) (r5_) (r6_) (r7_) (()))) (O_ (t_) (p_) (h_) (m_) (oa) (oz) (r0_) (r1_) (r2_) (r3_) (r4_) (r5_) (r6_) (r7_) (()))))
def Jn (s:RS) (ba bz t_ p_ h_:Int) (n_:Nat) (a_ z_:LI) (r0_ r1_ r2_ r3_ r4_ r5_ r6_ r7_:Int) (m_:Nat) (oa oz:LI) (d_:Bool) (i_:Int):Prop:=Bj ⟨t_,p_,h_,n_,a_,z_,r0_,r1_,r2_,r3_,r4_,r5_,r6_,r7_⟩ s∧0≤i_∧i_≤(a_.length:Int)∧m_=oa.length∧oz.length=oa.length∧(bif d_ then Ba oa oz++(Ba s.a s.z).drop i_.toNat else Ba oa oz++insL ((Ba s.a s.z).drop i_.toNat) (ba,bz))=insL (Ba s.a s.z) (ba,bz)
theorem AjF (s:RS) (ba bz t p h:Int) (n:Nat) (al zl:LI) (x0 x1 x2 x3 x4 x5 x6 x7:Int) (hp0:s.a.length≤1000) (hx:Bj ⟨t,p,h,n,al,zl,x0,x1,x2,x3,x4,x5,x6,x7⟩ (s)):WJ s ba bz t p h n al zl x0 x1 x2 x3 x4 x5 x6 x7 (λt_' p_' h_' n_' a_' z_' r0_' r1_' r2_' r3_' r4_' r5_' r6_' r7_' m_' oa' oz' d_' i_'=>Jn s ba bz t_' p_' h_' n_' a_' z_' r0_' r1_' r2_' r3_' r4_' r5_' r6_' r7_' m_' oa' oz' d_' i_') (λr__=>r__=(f_add s ba bz)) (λt_ p_ h_ n_ al_ zl_ x0_ x1_ x2_ x3_ x4_ x5_ x6_ x7_ r_=>Bj ⟨t_,p_,h_,n_,al_,zl_,x0_,x1_,x2_,x3_,x4_,x5_,x6_,x7_⟩ ((f_add s ba bz))∧r_=()):=by
 have key:∀x:RX,Bj x s→WJ s ba bz x.t x.p x.h x.n x.a x.z x.r0 x.r1 x.r2 x.r3 x.r4 x.r5 x.r6 x.r7 (λt_' p_' h_' n_' a_' z_' r0_' r1_' r2_' r3_' r4_' r5_' r6_' r7_' m_' oa' oz' d_' i_'=>Jn s ba bz t_' p_' h_' n_' a_' z_' r0_' r1_' r2_' r3_' r4_' r5_' r6_' r7_' m_' oa' oz' d_' i_') (λr__=>r__=(f_add s ba bz)) (λt_ p_ h_ n_ al_ zl_ x0_ x1_ x2_ x3_ x4_ x5_ x6_ x7_ r_=>Bj ⟨t_,p_,h_,n_,al_,zl_,x0_,x1_,x2_,x3_,x4_,x5_,x6_,x7_⟩ ((f_add s ba bz))∧r_=()):=by
  intro x ho
  unfold WJ
  try unfold Jn
  have e:=ho.eq
  subst e
  exact ⟨ho,by decide,by omega,rfl,rfl,rfl⟩
 exact key ⟨t,p,h,n,al,zl,x0,x1,x2,x3,x4,x5,x6,x7⟩ hx
theorem AjG (s:RS) (ba bz:Int) (hp0:s.a.length≤1000) (t_ p_ h_:Int) (n_:Nat) (a_ z_:LI) (r0_ r1_ r2_ r3_ r4_ r5_ r6_ r7_:Int) (m_:Nat) (oa oz:LI) (d_:Bool) (i_:Int) (hI:Jn s ba bz t_ p_ h_ n_ a_ z_ r0_ r1_ r2_ r3_ r4_ r5_ r6_ r7_ m_ oa oz d_ i_):Aie s ba bz t_ p_ h_ n_ a_ z_ r0_ r1_ r2_ r3_ r4_ r5_ r6_ r7_ m_ oa oz d_ i_ (λt_' p_' h_' n_' a_' z_' r0_' r1_' r2_' r3_' r4_' r5_' r6_' r7_' m_' oa' oz' d_' i_'=>Jn s ba bz t_' p_' h_' n_' a_' z_' r0_' r1_' r2_' r3_' r4_' r5_' r6_' r7_' m_' oa' oz' d_' i_'∧lx (((a_'.length:Int)-i_').toNat,0,0) (((a_.length:Int)-i_).toNat,0,0)) (λr__=>r__=(f_add s ba bz)) (λt_ p_ h_ n_ al_ zl_ x0_ x1_ x2_ x3_ x4_ x5_ x6_ x7_ r_=>Bj ⟨t_,p_,h_,n_,al_,zl_,x0_,x1_,x2_,x3_,x4_,x5_,x6_,x7_⟩ ((f_add s ba bz))∧r_=()):=by
 unfold Jn at hI
 unfold Aie
 try unfold Jn
 obtain ⟨hR,h1,h2,hm,hl,hE⟩:=hI
 have hml:m_≤1001:=by
  have e:=hR.eq
  subst e
  have hz:z_.length=a_.length:=hR.z
  have hp:a_.length≤1000:=hp0
  have:=congrArg iH hE
  rw [Zh,Jb (by show a_.length=z_.length;omega)] at this
  change _=a_.length+1 at this
  cases d_ with
  |true=>simp only [cond_true,jL,Jb hl.symm] at this;omega
  |false=>simp only [cond_false,jL,Jb hl.symm] at this;omega
 have hb1:(m_+1)*16≤140737488355328:=lZ (kF 16 (nO hml 1)) (by decide)
 have hb2:(m_+1+1)*16≤140737488355328:=lZ (kF 16 (nO (nO hml 1) 1)) (by decide)
 have e:=hR.eq
 subst e
 have hn:n_=a_.length:=hR.n
 have hz:z_.length=a_.length:=hR.z
 subst hn
 have hp:a_.length≤1000:=hp0
 refine ⟨λhlt=>?_, λhlt=>?_⟩
 ·have hlt:i_<(a_.length:Int):=by simpa using hlt
  have ew:iO iB (i_+1)=i_+1:=Hm (by omega)
  have et:(i_+1).toNat=i_.toNat+1:=by omega
  have hd:=AoQ hz (i:=i_.toNat) (by omega)
  change (bif d_ then Ba oa oz++(Ba a_ z_).drop i_.toNat else Ba oa oz++insL ((Ba a_ z_).drop i_.toNat) (ba,bz))=insL (Ba a_ z_) (ba,bz) at hE
  refine ⟨λ_=>⟨h1,hlt⟩, λ_=>⟨λhc=>⟨hb1, λ_=>⟨⟨h1,hlt⟩, λ_=>⟨hb2, λ_=>?_⟩⟩⟩, λhc=>⟨⟨h1,hlt⟩, λ_=>⟨hb1, λ_=>?_⟩⟩⟩⟩
  ·rw [ew]
   simp only [iE,kU] at hc
   rw [hc.1,cond_false,hd] at hE
   refine ⟨⟨hR,by omega,by omega,by rw [hm];simp,by simp [hl],?_⟩,Bo⟩
   show (bif true then _++(Ba a_ z_).drop (i_+1).toNat else _)=insL (Ba a_ z_) (ba,bz)
   rw [cond_true,OW (by simp [hl]),OW hl,et,←hE]
   unfold insL
   rw [hc.2]
   simp
  ·rw [ew]
   refine ⟨⟨hR,by omega,by omega,by rw [hm];simp,by simp [hl],?_⟩,Bo⟩
   show (bif d_ then _++(Ba a_ z_).drop (i_+1).toNat else _++insL ((Ba a_ z_).drop (i_+1).toNat) (ba,bz))=insL (Ba a_ z_) (ba,bz)
   rw [OW hl,et,←hE,hd]
   cases d_ with
   |true=>simp
   |false=>
    have hc:decide (a_.getD i_.toNat 0>ba)=false:=by simpa using hc
    simp only [cond_false]
    conv=>rhs;unfold insL
    rw [hc]
    simp
 ·have hlt:¬i_<(a_.length:Int):=by simpa using hlt
  have hi:(Ba a_ z_).drop i_.toNat=[]:=List.drop_eq_nil_of_le (by rw [Jb hz.symm];omega)
  change (bif d_ then Ba oa oz++(Ba a_ z_).drop i_.toNat else Ba oa oz++insL ((Ba a_ z_).drop i_.toNat) (ba,bz))=insL (Ba a_ z_) (ba,bz) at hE
  rw [hi] at hE
  refine ⟨λhd=>⟨hb1, λ_=>⟨⟨?_,?_,?_⟩,rfl⟩⟩, λhd=>⟨⟨hm,hl,?_⟩,rfl⟩⟩
  ·show m_+1=(oa++[ba]).length
   rw [hm];simp
  ·show (oz++[bz]).length=(oa++[ba]).length
   simp [hl]
  ·have hd:d_=false:=by simpa using hd
   subst hd
   have hE:Ba (oa++[ba]) (oz++[bz])=insL (Ba a_ z_) (ba,bz):=by rw [OW hl];exact hE
   have hl2:(oz++[bz]).length=(oa++[ba]).length:=by simp [hl]
   show DL _ ba bz=_
   unfold DL
   simp only [←hE,Ak8 hl2,Ak9 hl2]
  ·have hd:d_=true:=by simpa using hd
   subst hd
   have hE:Ba oa oz=insL (Ba a_ z_) (ba,bz):=by simpa using hE
   show DL _ ba bz=_
   unfold DL
   simp only [←hE,Ak8 hl,Ak9 hl]
theorem AoV:DV 24 AkE:=
 Gg Dg Ik true Yg (I:=[1643000000000,1643000000003,1643000000004,1643000000005,1643000000006]) Try.func24 mix (B:=AP Try.f24) (by kernel_rfl) rfl (by kernel_rfl) 400
  λo s ba bz hb hp=>have hp0:s.a.length≤1000:=hp _ (.head _);⟨s,(f_add s ba bz),(),[⟨none,[0,1,0,1,1,1],[.blk 0, .code [1,1,1,1]],[0,3,4,5,6],[.boxc o Bq.t Bq.l, .box 55 [.ic .i64 (ba), .ic .i64 (bz)], .own 55 [some .i64,some .i64], .b, .i .i64]⟩],[.run], λj=>iN [Ag (Hd.kd (⟨none,[0,1,0,1,1,1],[.blk 0, .code [1,1,1,1]],[0,3,4,5,6],[.boxc o Bq.t Bq.l, .box 55 [.ic .i64 (ba), .ic .i64 (bz)], .own 55 [some .i64,some .i64], .b, .i .i64]⟩:Hd Sg)) (λt_' p_' h_' n_' a_' z_' r0_' r1_' r2_' r3_' r4_' r5_' r6_' r7_' m_' oa' oz' d_' i_'=>Jn s ba bz t_' p_' h_' n_' a_' z_' r0_' r1_' r2_' r3_' r4_' r5_' r6_' r7_' m_' oa' oz' d_' i_')] j (λ_=>False), λj=>iN [Ag (Hd.kd (⟨none,[0,1,0,1,1,1],[.blk 0, .code [1,1,1,1]],[0,3,4,5,6],[.boxc o Bq.t Bq.l, .box 55 [.ic .i64 (ba), .ic .i64 (bz)], .own 55 [some .i64,some .i64], .b, .i .i64]⟩:Hd Sg)) (λt_' p_' h_' n_' a_' z_' r0_' r1_' r2_' r3_' r4_' r5_' r6_' r7_' m_' oa' oz' d_' i_'=>(((a_'.length:Int)-i_').toNat,0,0))] j (λ_=>(0,0,0)),by kernel_rfl, λ_ _=>by kernel_rfl,by kernel_rfl, λt p h n al zl x0 x1 x2 x3 x4 x5 x6 x7 hx=>⟨WJ s ba bz t p h n al zl x0 x1 x2 x3 x4 x5 x6 x7 (λt_' p_' h_' n_' a_' z_' r0_' r1_' r2_' r3_' r4_' r5_' r6_' r7_' m_' oa' oz' d_' i_'=>Jn s ba bz t_' p_' h_' n_' a_' z_' r0_' r1_' r2_' r3_' r4_' r5_' r6_' r7_' m_' oa' oz' d_' i_') (λr__=>r__=(f_add s ba bz)) (λt_ p_ h_ n_ al_ zl_ x0_ x1_ x2_ x3_ x4_ x5_ x6_ x7_ r_=>Bj ⟨t_,p_,h_,n_,al_,zl_,x0_,x1_,x2_,x3_,x4_,x5_,x6_,x7_⟩ ((f_add s ba bz))∧r_=()), λ_ _ _ _=>by kernel_rfl,AjF s ba bz t p h n al zl x0 x1 x2 x3 x4 x5 x6 x7 hp0 hx⟩,⟨λt_ p_ h_ n_ a_ z_ r0_ r1_ r2_ r3_ r4_ r5_ r6_ r7_ m_ oa oz d_ i_ hI=>⟨_, λ_ _ _=>by kernel_rfl,AjG s ba bz hp0 t_ p_ h_ n_ a_ z_ r0_ r1_ r2_ r3_ r4_ r5_ r6_ r7_ m_ oa oz d_ i_ hI⟩,trivial⟩⟩
def AkF:Tb:=(24,AkE)::Aid
theorem Aby:D7 AkF:=Ea AoV Yg
end
section
open Go.Sl
def OX (s:RS) (i:Int):Int:=[s.r0,s.r1,s.r2,s.r3,s.r4,s.r5,s.r6,s.r7].getD i.toNat 0
def F8 (s:RS) (g e u v w:Int):Bool:=bif !(BJ s.t s.p s.h g).2 then BC 2 e u v else BC 3 e u v||(e==0&&OV s u (BJ s.t s.p s.h g).1 w)
abbrev AoW:Ct Sg:=⟨some CW,true,[.i .i64, .agg [.i .i64, .i .i64, .i .i64], .i .i64], .b⟩
def Aif:Entry Sg:=BU AoW (λ(s:RS) (g:Int) (e:Int) (u:Int) (v:Int) (w:Int)=>bif !(BJ s.t s.p s.h g).2 then BC 2 e u v else BC 3 e u v||(e==0&&OV s u (BJ s.t s.p s.h g).1 w)) (λs g e u v w=>[s.a.length≤1000])
def SS (s:RS) (g e u v w t p h:Int) (n:Nat) (al zl:LI) (x0 x1 x2 x3 x4 x5 x6 x7:Int) (Q0:Int→Int→Int→Nat→LI→LI→Int→Int→Int→Int→Int→Int→Int→Int→Int→Prop) (Q1:Int→Prop) (R_:Bool→Prop) (O_:Int→Int→Int→Nat→LI→LI→Int→Int→Int→Int→Int→Int→Int→Int→Bool→Prop):Prop:=(AV (!Prod.snd (BJ t p h g)) (O_ (t) (p) (h) (n) (al) (zl) (x0) (x1) (x2) (x3) (x4) (x5) (x6) (x7) (BC 2 e u v)) (Q0 (t) (p) (h) (n) (al) (zl) (x0) (x1) (x2) (x3) (x4) (x5) (x6) (x7) (kM (BJ t p h g))))
def VD (s:RS) (g e u v w t_ p_ h_:Int) (n_:Nat) (a_ z_:LI) (r0_ r1_ r2_ r3_ r4_ r5_ r6_ r7_ w_:Int) (Q1:Int→Prop):Prop:=(Q1 (w_))
def Ie (s:RS) (g e u v w t_ p_ h_:Int) (n_:Nat) (a_ z_:LI) (r0_ r1_ r2_ r3_ r4_ r5_ r6_ r7_ w_:Int):Prop:=Bj ⟨t_,p_,h_,n_,a_,z_,r0_,r1_,r2_,r3_,r4_,r5_,r6_,r7_⟩ s∧(BJ s.t s.p s.h g).2=true∧w_=(BJ s.t s.p s.h g).1
def AeN (s:RS) (g e u v w w_:Int) (Q0:Int→Int→Int→Nat→LI→LI→Int→Int→Int→Int→Int→Int→Int→Int→Int→Prop) (Q1:Int→Prop) (R_:Bool→Prop) (O_:Int→Int→Int→Nat→LI→LI→Int→Int→Int→Int→Int→Int→Int→Int→Bool→Prop):Prop:=(Ap ((e==0)=true→iH (RS.a s)≤1000) (R_ (BC 3 e u v||e==0&&OV s u w_ w)))
def GI (s:RS) (g e u v w w_:Int):Prop:=(BJ s.t s.p s.h g).2=true∧w_=(BJ s.t s.p s.h g).1
theorem Aig (s:RS) (g e u v w t p h:Int) (n:Nat) (al zl:LI) (x0 x1 x2 x3 x4 x5 x6 x7:Int) (hp0:s.a.length≤1000) (hx:Bj ⟨t,p,h,n,al,zl,x0,x1,x2,x3,x4,x5,x6,x7⟩ (s)):SS s g e u v w t p h n al zl x0 x1 x2 x3 x4 x5 x6 x7 (λt_' p_' h_' n_' a_' z_' r0_' r1_' r2_' r3_' r4_' r5_' r6_' r7_' w_'=>Ie s g e u v w t_' p_' h_' n_' a_' z_' r0_' r1_' r2_' r3_' r4_' r5_' r6_' r7_' w_') (λw_'=>GI s g e u v w w_') (λr__=>r__=(F8 s g e u v w)) (λt_ p_ h_ n_ al_ zl_ x0_ x1_ x2_ x3_ x4_ x5_ x6_ x7_ r_=>Bj ⟨t_,p_,h_,n_,al_,zl_,x0_,x1_,x2_,x3_,x4_,x5_,x6_,x7_⟩ (s)∧r_=(F8 s g e u v w)):=by
 have key:∀x:RX,Bj x s→SS s g e u v w x.t x.p x.h x.n x.a x.z x.r0 x.r1 x.r2 x.r3 x.r4 x.r5 x.r6 x.r7 (λt_' p_' h_' n_' a_' z_' r0_' r1_' r2_' r3_' r4_' r5_' r6_' r7_' w_'=>Ie s g e u v w t_' p_' h_' n_' a_' z_' r0_' r1_' r2_' r3_' r4_' r5_' r6_' r7_' w_') (λw_'=>GI s g e u v w w_') (λr__=>r__=(F8 s g e u v w)) (λt_ p_ h_ n_ al_ zl_ x0_ x1_ x2_ x3_ x4_ x5_ x6_ x7_ r_=>Bj ⟨t_,p_,h_,n_,al_,zl_,x0_,x1_,x2_,x3_,x4_,x5_,x6_,x7_⟩ (s)∧r_=(F8 s g e u v w)):=by
  intro x ho
  unfold SS
  try unfold Ie
  try unfold GI
  have e:=ho.eq
  subst e
  refine ⟨λh1=>⟨ho,?_⟩, λh1=>⟨ho,by simpa using h1,rfl⟩⟩
  show _=F8 _ _ _ _ _ _
  unfold F8;rw [h1];rfl
 exact key ⟨t,p,h,n,al,zl,x0,x1,x2,x3,x4,x5,x6,x7⟩ hx
theorem VE (s:RS) (g e u v w:Int) (hp0:s.a.length≤1000) (t_ p_ h_:Int) (n_:Nat) (a_ z_:LI) (r0_ r1_ r2_ r3_ r4_ r5_ r6_ r7_ w_:Int) (hI:Ie s g e u v w t_ p_ h_ n_ a_ z_ r0_ r1_ r2_ r3_ r4_ r5_ r6_ r7_ w_):(Bj ⟨t_,p_,h_,n_,a_,z_,r0_,r1_,r2_,r3_,r4_,r5_,r6_,r7_⟩ s)∧VD s g e u v w t_ p_ h_ n_ a_ z_ r0_ r1_ r2_ r3_ r4_ r5_ r6_ r7_ w_ (λw_'=>GI s g e u v w w_'∧lx (1,0,0) (2,0,0)):=by
 unfold Ie at hI
 unfold VD
 try unfold Ie
 try unfold GI
 obtain ⟨hR,hI⟩:=hI
 exact ⟨hR,hI,Bo⟩
theorem Aih (s:RS) (g e u v w:Int) (hp0:s.a.length≤1000) (w_:Int) (hI:GI s g e u v w w_):AeN s g e u v w w_ (λt_' p_' h_' n_' a_' z_' r0_' r1_' r2_' r3_' r4_' r5_' r6_' r7_' w_'=>Ie s g e u v w t_' p_' h_' n_' a_' z_' r0_' r1_' r2_' r3_' r4_' r5_' r6_' r7_' w_'∧lx (2,0,0) (1,0,0)) (λw_'=>GI s g e u v w w_'∧lx (1,0,0) (1,0,0)) (λr__=>r__=(F8 s g e u v w)) (λt_ p_ h_ n_ al_ zl_ x0_ x1_ x2_ x3_ x4_ x5_ x6_ x7_ r_=>Bj ⟨t_,p_,h_,n_,al_,zl_,x0_,x1_,x2_,x3_,x4_,x5_,x6_,x7_⟩ (s)∧r_=(F8 s g e u v w)):=by
 unfold GI at hI
 unfold AeN
 try unfold Ie
 try unfold GI
 obtain ⟨h1,rfl⟩:=hI
 refine ⟨λ_=>hp0, λ_=>?_⟩
 unfold F8;rw [h1];rfl
theorem AnC:DV 53 Aif:=
 Gg Dg Ik true Aby (I:=[1106000]) Try.func53 mix (B:=AP Try.f53) (by kernel_rfl) rfl (by kernel_rfl) 400
  λo s g e u v w hb hp=>have hp0:s.a.length≤1000:=hp _ (.head _);⟨s,s,(F8 s g e u v w),[⟨some 0,[0,1,1,1],[.code [1,1,1,1]],[0,6,3,9],[.boxc o Bq.t Bq.l, .box 32 [.ic .i64 (e), .ic .i64 (u), .ic .i64 (v)], .ic .i64 (w), .i .i64]⟩,⟨some 0,[0,1,1,1],[.code [1,1,1,1]],[0,6,3,9],[.objk CW ⟨o,0,none⟩ (s), .box 32 [.ic .i64 (e), .ic .i64 (u), .ic .i64 (v)], .ic .i64 (w), .i .i64]⟩],[.cls 1, .run], λj=>iN [Ag (Hd.kd (⟨some 0,[0,1,1,1],[.code [1,1,1,1]],[0,6,3,9],[.boxc o Bq.t Bq.l, .box 32 [.ic .i64 (e), .ic .i64 (u), .ic .i64 (v)], .ic .i64 (w), .i .i64]⟩:Hd Sg)) (λt_' p_' h_' n_' a_' z_' r0_' r1_' r2_' r3_' r4_' r5_' r6_' r7_' w_'=>Ie s g e u v w t_' p_' h_' n_' a_' z_' r0_' r1_' r2_' r3_' r4_' r5_' r6_' r7_' w_'),Ag (Hd.kd (⟨some 0,[0,1,1,1],[.code [1,1,1,1]],[0,6,3,9],[.objk CW ⟨o,0,none⟩ (s), .box 32 [.ic .i64 (e), .ic .i64 (u), .ic .i64 (v)], .ic .i64 (w), .i .i64]⟩:Hd Sg)) (λw_'=>GI s g e u v w w_')] j (λ_=>False), λj=>iN [Ag (Hd.kd (⟨some 0,[0,1,1,1],[.code [1,1,1,1]],[0,6,3,9],[.boxc o Bq.t Bq.l, .box 32 [.ic .i64 (e), .ic .i64 (u), .ic .i64 (v)], .ic .i64 (w), .i .i64]⟩:Hd Sg)) (λt_' p_' h_' n_' a_' z_' r0_' r1_' r2_' r3_' r4_' r5_' r6_' r7_' w_'=>(2,0,0)),Ag (Hd.kd (⟨some 0,[0,1,1,1],[.code [1,1,1,1]],[0,6,3,9],[.objk CW ⟨o,0,none⟩ (s), .box 32 [.ic .i64 (e), .ic .i64 (u), .ic .i64 (v)], .ic .i64 (w), .i .i64]⟩:Hd Sg)) (λw_'=>(1,0,0))] j (λ_=>(0,0,0)),by kernel_rfl, λ_ _=>by kernel_rfl,by kernel_rfl, λt p h n al zl x0 x1 x2 x3 x4 x5 x6 x7 hx=>⟨SS s g e u v w t p h n al zl x0 x1 x2 x3 x4 x5 x6 x7 (λt_' p_' h_' n_' a_' z_' r0_' r1_' r2_' r3_' r4_' r5_' r6_' r7_' w_'=>Ie s g e u v w t_' p_' h_' n_' a_' z_' r0_' r1_' r2_' r3_' r4_' r5_' r6_' r7_' w_') (λw_'=>GI s g e u v w w_') (λr__=>r__=(F8 s g e u v w)) (λt_ p_ h_ n_ al_ zl_ x0_ x1_ x2_ x3_ x4_ x5_ x6_ x7_ r_=>Bj ⟨t_,p_,h_,n_,al_,zl_,x0_,x1_,x2_,x3_,x4_,x5_,x6_,x7_⟩ (s)∧r_=(F8 s g e u v w)), λ_ _ _ _=>by kernel_rfl,Aig s g e u v w t p h n al zl x0 x1 x2 x3 x4 x5 x6 x7 hp0 hx⟩,⟨λt_ p_ h_ n_ a_ z_ r0_ r1_ r2_ r3_ r4_ r5_ r6_ r7_ w_ hI=>⟨s,VD s g e u v w t_ p_ h_ n_ a_ z_ r0_ r1_ r2_ r3_ r4_ r5_ r6_ r7_ w_ (λw_'=>GI s g e u v w w_'∧lx (1,0,0) (2,0,0)),(VE s g e u v w hp0 t_ p_ h_ n_ a_ z_ r0_ r1_ r2_ r3_ r4_ r5_ r6_ r7_ w_ hI).1, λ_=>by kernel_rfl,(VE s g e u v w hp0 t_ p_ h_ n_ a_ z_ r0_ r1_ r2_ r3_ r4_ r5_ r6_ r7_ w_ hI).2⟩,⟨λw_ hI=>⟨_, λ_ _ _=>by kernel_rfl,Aih s g e u v w hp0 w_ hI⟩,trivial⟩⟩⟩
def Aii:Tb:=(53,Aif)::AkF
theorem Yh:D7 Aii:=Ea AnC Aby
def CX (s:RS) (k a c e u v:Int):Bool:=bif decide (a<0)||decide (a>7) then BC 5 e u v else bif k==4 then F8 s c e u v (-1)&&FQ e u v (OX s a) else bif k==5 then (bif c !=0&&decide (BK s.a c<0) then BC 4 e u v else Et e u v c (OX s a)) else Et e u v (OX s a) 0
abbrev Amk:Ct Sg:=⟨some CW,true,[.agg [.i .i64, .i .i64, .i .i64], .agg [.i .i64, .i .i64, .i .i64]], .b⟩
def Abz:Entry Sg:=BU Amk (λ(s:RS) (k:Int) (a:Int) (c:Int) (e:Int) (u:Int) (v:Int)=>bif decide (a<0)||decide (a>7) then BC 5 e u v else bif k==4 then F8 s c e u v (-1)&&FQ e u v (OX s a) else bif k==5 then (bif c !=0&&decide (BK s.a c<0) then BC 4 e u v else Et e u v c (OX s a)) else Et e u v (OX s a) 0) (λs k a c e u v=>[s.a.length≤1000])
def Ab0 (s:RS) (k a c e u v:Int) (Q0:Int→Prop) (Q1:Int→Int→Int→Nat→LI→LI→Int→Int→Int→Int→Int→Int→Int→Int→Int→Prop) (Q2:Int→Int→Int→Nat→LI→LI→Int→Int→Int→Int→Int→Int→Int→Int→Int→Int→Prop) (Q3:Int→Int→Prop) (R_:Bool→Prop) (O_:Int→Int→Int→Nat→LI→LI→Int→Int→Int→Int→Int→Int→Int→Int→Bool→Prop):Prop:=(AV (decide (a<0)||decide (a>7)) (∀r3:Bool,r3=(BC 5 e u v)→(R_ (r3))) (Q0 (a)))
def Yi (s:RS) (k a c e u v i_ t_ p_ h_:Int) (n_:Nat) (al_ zl_:LI) (x0_ x1_ x2_ x3_ x4_ x5_ x6_ x7_:Int) (Q1:Int→Int→Int→Nat→LI→LI→Int→Int→Int→Int→Int→Int→Int→Int→Int→Prop):Prop:=(Q1 (t_) (p_) (h_) (n_) (al_) (zl_) (x0_) (x1_) (x2_) (x3_) (x4_) (x5_) (x6_) (x7_) (i_))
def CS (s:RS) (k a c e u v i_:Int):Prop:=i_=a∧0≤a∧a<8
def Uk (s:RS) (k a c e u v t_ p_ h_:Int) (n_:Nat) (a_ z_:LI) (r0_ r1_ r2_ r3_ r4_ r5_ r6_ r7_:Int) (Q0:Int→Prop) (Q1:Int→Int→Int→Nat→LI→LI→Int→Int→Int→Int→Int→Int→Int→Int→Int→Prop) (Q2:Int→Int→Int→Nat→LI→LI→Int→Int→Int→Int→Int→Int→Int→Int→Int→Int→Prop) (Q3:Int→Int→Prop) (R_:Bool→Prop) (O_:Int→Int→Int→Nat→LI→LI→Int→Int→Int→Int→Int→Int→Int→Int→Bool→Prop):Prop:=(Ap ((0:Int)≤0∧(0:Int)<8) (Q2 (t_) (p_) (h_) (n_) (a_) (z_) (r0_) (r1_) (r2_) (r3_) (r4_) (r5_) (r6_) (r7_) (0) (r0_)))
def Ul (s:RS) (k a c e u v t_ p_ h_:Int) (n_:Nat) (a_ z_:LI) (r0_ r1_ r2_ r3_ r4_ r5_ r6_ r7_:Int) (Q0:Int→Prop) (Q1:Int→Int→Int→Nat→LI→LI→Int→Int→Int→Int→Int→Int→Int→Int→Int→Prop) (Q2:Int→Int→Int→Nat→LI→LI→Int→Int→Int→Int→Int→Int→Int→Int→Int→Int→Prop) (Q3:Int→Int→Prop) (R_:Bool→Prop) (O_:Int→Int→Int→Nat→LI→LI→Int→Int→Int→Int→Int→Int→Int→Int→Bool→Prop):Prop:=(Ap ((0:Int)≤1∧(1:Int)<8) (Q2 (t_) (p_) (h_) (n_) (a_) (z_) (r0_) (r1_) (r2_) (r3_) (r4_) (r5_) (r6_) (r7_) (1) (r1_)))
def Um (s:RS) (k a c e u v t_ p_ h_:Int) (n_:Nat) (a_ z_:LI) (r0_ r1_ r2_ r3_ r4_ r5_ r6_ r7_:Int) (Q0:Int→Prop) (Q1:Int→Int→Int→Nat→LI→LI→Int→Int→Int→Int→Int→Int→Int→Int→Int→Prop) (Q2:Int→Int→Int→Nat→LI→LI→Int→Int→Int→Int→Int→Int→Int→Int→Int→Int→Prop) (Q3:Int→Int→Prop) (R_:Bool→Prop) (O_:Int→Int→Int→Nat→LI→LI→Int→Int→Int→Int→Int→Int→Int→Int→Bool→Prop):Prop:=(Ap ((0:Int)≤2∧(2:Int)<8) (Q2 (t_) (p_) (h_) (n_) (a_) (z_) (r0_) (r1_) (r2_) (r3_) (r4_) (r5_) (r6_) (r7_) (2) (r2_)))
def Un (s:RS) (k a c e u v t_ p_ h_:Int) (n_:Nat) (a_ z_:LI) (r0_ r1_ r2_ r3_ r4_ r5_ r6_ r7_:Int) (Q0:Int→Prop) (Q1:Int→Int→Int→Nat→LI→LI→Int→Int→Int→Int→Int→Int→Int→Int→Int→Prop) (Q2:Int→Int→Int→Nat→LI→LI→Int→Int→Int→Int→Int→Int→Int→Int→Int→Int→Prop) (Q3:Int→Int→Prop) (R_:Bool→Prop) (O_:Int→Int→Int→Nat→LI→LI→Int→Int→Int→Int→Int→Int→Int→Int→Bool→Prop):Prop:=(Ap ((0:Int)≤3∧(3:Int)<8) (Q2 (t_) (p_) (h_) (n_) (a_) (z_) (r0_) (r1_) (r2_) (r3_) (r4_) (r5_) (r6_) (r7_) (3) (r3_)))
def Uo (s:RS) (k a c e u v t_ p_ h_:Int) (n_:Nat) (a_ z_:LI) (r0_ r1_ r2_ r3_ r4_ r5_ r6_ r7_:Int) (Q0:Int→Prop) (Q1:Int→Int→Int→Nat→LI→LI→Int→Int→Int→Int→Int→Int→Int→Int→Int→Prop) (Q2:Int→Int→Int→Nat→LI→LI→Int→Int→Int→Int→Int→Int→Int→Int→Int→Int→Prop) (Q3:Int→Int→Prop) (R_:Bool→Prop) (O_:Int→Int→Int→Nat→LI→LI→Int→Int→Int→Int→Int→Int→Int→Int→Bool→Prop):Prop:=(Ap ((0:Int)≤4∧(4:Int)<8) (Q2 (t_) (p_) (h_) (n_) (a_) (z_) (r0_) (r1_) (r2_) (r3_) (r4_) (r5_) (r6_) (r7_) (4) (r4_)))
def Ur (s:RS) (k a c e u v t_ p_ h_:Int) (n_:Nat) (a_ z_:LI) (r0_ r1_ r2_ r3_ r4_ r5_ r6_ r7_:Int) (Q0:Int→Prop) (Q1:Int→Int→Int→Nat→LI→LI→Int→Int→Int→Int→Int→Int→Int→Int→Int→Prop) (Q2:Int→Int→Int→Nat→LI→LI→Int→Int→Int→Int→Int→Int→Int→Int→Int→Int→Prop) (Q3:Int→Int→Prop) (R_:Bool→Prop) (O_:Int→Int→Int→Nat→LI→LI→Int→Int→Int→Int→Int→Int→Int→Int→Bool→Prop):Prop:=(Ap ((0:Int)≤5∧(5:Int)<8) (Q2 (t_) (p_) (h_) (n_) (a_) (z_) (r0_) (r1_) (r2_) (r3_) (r4_) (r5_) (r6_) (r7_) (5) (r5_)))
def Us (s:RS) (k a c e u v t_ p_ h_:Int) (n_:Nat) (a_ z_:LI) (r0_ r1_ r2_ r3_ r4_ r5_ r6_ r7_:Int) (Q0:Int→Prop) (Q1:Int→Int→Int→Nat→LI→LI→Int→Int→Int→Int→Int→Int→Int→Int→Int→Prop) (Q2:Int→Int→Int→Nat→LI→LI→Int→Int→Int→Int→Int→Int→Int→Int→Int→Int→Prop) (Q3:Int→Int→Prop) (R_:Bool→Prop) (O_:Int→Int→Int→Nat→LI→LI→Int→Int→Int→Int→Int→Int→Int→Int→Bool→Prop):Prop:=(Ap ((0:Int)≤6∧(6:Int)<8) (Q2 (t_) (p_) (h_) (n_) (a_) (z_) (r0_) (r1_) (r2_) (r3_) (r4_) (r5_) (r6_) (r7_) (6) (r6_)))
def Ut (s:RS) (k a c e u v t_ p_ h_:Int) (n_:Nat) (a_ z_:LI) (r0_ r1_ r2_ r3_ r4_ r5_ r6_ r7_:Int) (Q0:Int→Prop) (Q1:Int→Int→Int→Nat→LI→LI→Int→Int→Int→Int→Int→Int→Int→Int→Int→Prop) (Q2:Int→Int→Int→Nat→LI→LI→Int→Int→Int→Int→Int→Int→Int→Int→Int→Int→Prop) (Q3:Int→Int→Prop) (R_:Bool→Prop) (O_:Int→Int→Int→Nat→LI→LI→Int→Int→Int→Int→Int→Int→Int→Int→Bool→Prop):Prop:=(Ap ((0:Int)≤7∧(7:Int)<8) (Q2 (t_) (p_) (h_) (n_) (a_) (z_) (r0_) (r1_) (r2_) (r3_) (r4_) (r5_) (r6_) (r7_) (7) (r7_)))
def Bh (s:RS) (k a c e u v t_ p_ h_:Int) (n_:Nat) (a_ z_:LI) (r0_ r1_ r2_ r3_ r4_ r5_ r6_ r7_ i_:Int):Prop:=Bj ⟨t_,p_,h_,n_,a_,z_,r0_,r1_,r2_,r3_,r4_,r5_,r6_,r7_⟩ s∧i_=a∧0≤a∧a<8
def Qk (s:RS) (k a c e u v t_ p_ h_:Int) (n_:Nat) (a_ z_:LI) (r0_ r1_ r2_ r3_ r4_ r5_ r6_ r7_ i_ w_:Int) (Q3:Int→Int→Prop):Prop:=(Q3 (i_) (w_))
def CU (s:RS) (k a c e u v t_ p_ h_:Int) (n_:Nat) (a_ z_:LI) (r0_ r1_ r2_ r3_ r4_ r5_ r6_ r7_ i_ w_:Int):Prop:=Bj ⟨t_,p_,h_,n_,a_,z_,r0_,r1_,r2_,r3_,r4_,r5_,r6_,r7_⟩ s∧i_=a∧0≤a∧a<8∧w_=OX s a
def Yj (s:RS) (k a c e u v i_ w_:Int) (Q0:Int→Prop) (Q1:Int→Int→Int→Nat→LI→LI→Int→Int→Int→Int→Int→Int→Int→Int→Int→Prop) (Q2:Int→Int→Int→Nat→LI→LI→Int→Int→Int→Int→Int→Int→Int→Int→Int→Int→Prop) (Q3:Int→Int→Prop) (R_:Bool→Prop) (O_:Int→Int→Int→Nat→LI→LI→Int→Int→Int→Int→Int→Int→Int→Int→Bool→Prop):Prop:=(AV (k==4) (∀r1:Bool,r1=(bif !Prod.snd (BJ (RS.t s) (RS.p s) (RS.h s) c) then BC 2 e u v else BC 3 e u v||e==0&&OV s u (kM (BJ (RS.t s) (RS.p s) (RS.h s) c)) (-1))→(Ap (iH (RS.a s)≤1000) (R_ (r1&&FQ e u v w_)))) (AV (k==5) (Ap ((c !=0)=true→iH (RS.a s)≤1000) (AV (c !=0&&decide (BK (RS.a s) c<0)) (∀r4:Bool,r4=(BC 4 e u v)→(R_ (r4))) (∀r4:Bool,r4=(Et e u v c w_)→(R_ (r4))))) (∀r2:Bool,r2=(Et e u v w_ 0)→(R_ (r2)))))
def Ce (s:RS) (k a c e u v i_ w_:Int):Prop:=i_=a∧0≤a∧a<8∧w_=OX s a
theorem Ad2 (s:RS) (k a c e u v:Int) (hp0:s.a.length≤1000):Ab0 s k a c e u v (λi_'=>CS s k a c e u v i_') (λt_' p_' h_' n_' a_' z_' r0_' r1_' r2_' r3_' r4_' r5_' r6_' r7_' i_'=>Bh s k a c e u v t_' p_' h_' n_' a_' z_' r0_' r1_' r2_' r3_' r4_' r5_' r6_' r7_' i_') (λt_' p_' h_' n_' a_' z_' r0_' r1_' r2_' r3_' r4_' r5_' r6_' r7_' i_' w_'=>CU s k a c e u v t_' p_' h_' n_' a_' z_' r0_' r1_' r2_' r3_' r4_' r5_' r6_' r7_' i_' w_') (λi_' w_'=>Ce s k a c e u v i_' w_') (λr__=>r__=(CX s k a c e u v)) (λt_ p_ h_ n_ al_ zl_ x0_ x1_ x2_ x3_ x4_ x5_ x6_ x7_ r_=>Bj ⟨t_,p_,h_,n_,al_,zl_,x0_,x1_,x2_,x3_,x4_,x5_,x6_,x7_⟩ (s)∧r_=(CX s k a c e u v)):=by
 unfold Ab0
 try unfold CS
 try unfold Bh
 try unfold CU
 try unfold Ce
 refine ⟨λh=>?_, λh=>?_⟩
 ·rintro r rfl
  show _=CX s k a c e u v
  unfold CX;rw [h];rfl
 ·simp only [kH,decide_eq_false_iff_not] at h
  exact ⟨rfl,by omega,by omega⟩
theorem Ad3 (s:RS) (k a c e u v:Int) (hp0:s.a.length≤1000) (i_ t_ p_ h_:Int) (n_:Nat) (al_ zl_:LI) (x0_ x1_ x2_ x3_ x4_ x5_ x6_ x7_:Int) (hI:CS s k a c e u v i_) (hx:Bj ⟨t_,p_,h_,n_,al_,zl_,x0_,x1_,x2_,x3_,x4_,x5_,x6_,x7_⟩ (s)):Yi s k a c e u v i_ t_ p_ h_ n_ al_ zl_ x0_ x1_ x2_ x3_ x4_ x5_ x6_ x7_ (λt_' p_' h_' n_' a_' z_' r0_' r1_' r2_' r3_' r4_' r5_' r6_' r7_' i_'=>Bh s k a c e u v t_' p_' h_' n_' a_' z_' r0_' r1_' r2_' r3_' r4_' r5_' r6_' r7_' i_'∧lx (4,0,0) (5,0,0)):=by
 unfold CS at hI
 unfold Yi
 try unfold CS
 try unfold Bh
 try unfold CU
 try unfold Ce
 exact ⟨⟨hx,hI⟩,Bo⟩
theorem Aij (s:RS) (k a c e u v:Int) (hp0:s.a.length≤1000) (t_ p_ h_:Int) (n_:Nat) (a_ z_:LI) (r0_ r1_ r2_ r3_ r4_ r5_ r6_ r7_ i_:Int) (hI:Bh s k a c e u v t_ p_ h_ n_ a_ z_ r0_ r1_ r2_ r3_ r4_ r5_ r6_ r7_ i_):i_=0∨i_=1∨i_=2∨i_=3∨i_=4∨i_=5∨i_=6∨i_=7:=by
 unfold Bh at hI
 omega
theorem Zj (s:RS) (k a c e u v:Int) (hp0:s.a.length≤1000) (t_ p_ h_:Int) (n_:Nat) (a_ z_:LI) (r0_ r1_ r2_ r3_ r4_ r5_ r6_ r7_:Int) (hI:Bh s k a c e u v t_ p_ h_ n_ a_ z_ r0_ r1_ r2_ r3_ r4_ r5_ r6_ r7_ (0:Int)):Uk s k a c e u v t_ p_ h_ n_ a_ z_ r0_ r1_ r2_ r3_ r4_ r5_ r6_ r7_ (λi_'=>CS s k a c e u v i_'∧lx (5,0,0) (4,0,0)) (λt_' p_' h_' n_' a_' z_' r0_' r1_' r2_' r3_' r4_' r5_' r6_' r7_' i_'=>Bh s k a c e u v t_' p_' h_' n_' a_' z_' r0_' r1_' r2_' r3_' r4_' r5_' r6_' r7_' i_'∧lx (4,0,0) (4,0,0)) (λt_' p_' h_' n_' a_' z_' r0_' r1_' r2_' r3_' r4_' r5_' r6_' r7_' i_' w_'=>CU s k a c e u v t_' p_' h_' n_' a_' z_' r0_' r1_' r2_' r3_' r4_' r5_' r6_' r7_' i_' w_'∧lx (3,0,0) (4,0,0)) (λi_' w_'=>Ce s k a c e u v i_' w_'∧lx (2,0,0) (4,0,0)) (λr__=>r__=(CX s k a c e u v)) (λt_ p_ h_ n_ al_ zl_ x0_ x1_ x2_ x3_ x4_ x5_ x6_ x7_ r_=>Bj ⟨t_,p_,h_,n_,al_,zl_,x0_,x1_,x2_,x3_,x4_,x5_,x6_,x7_⟩ (s)∧r_=(CX s k a c e u v)):=by
 unfold Bh at hI
 unfold Uk
 try unfold CS
 try unfold Bh
 try unfold CU
 try unfold Ce
 obtain ⟨hR,rfl,h1,h2⟩:=hI
 refine ⟨by decide, λ_=>⟨⟨hR,rfl,h1,h2,?_⟩,Bo⟩⟩
 rw [hR.eq];rfl
theorem Zk (s:RS) (k a c e u v:Int) (hp0:s.a.length≤1000) (t_ p_ h_:Int) (n_:Nat) (a_ z_:LI) (r0_ r1_ r2_ r3_ r4_ r5_ r6_ r7_:Int) (hI:Bh s k a c e u v t_ p_ h_ n_ a_ z_ r0_ r1_ r2_ r3_ r4_ r5_ r6_ r7_ (1:Int)):Ul s k a c e u v t_ p_ h_ n_ a_ z_ r0_ r1_ r2_ r3_ r4_ r5_ r6_ r7_ (λi_'=>CS s k a c e u v i_'∧lx (5,0,0) (4,0,0)) (λt_' p_' h_' n_' a_' z_' r0_' r1_' r2_' r3_' r4_' r5_' r6_' r7_' i_'=>Bh s k a c e u v t_' p_' h_' n_' a_' z_' r0_' r1_' r2_' r3_' r4_' r5_' r6_' r7_' i_'∧lx (4,0,0) (4,0,0)) (λt_' p_' h_' n_' a_' z_' r0_' r1_' r2_' r3_' r4_' r5_' r6_' r7_' i_' w_'=>CU s k a c e u v t_' p_' h_' n_' a_' z_' r0_' r1_' r2_' r3_' r4_' r5_' r6_' r7_' i_' w_'∧lx (3,0,0) (4,0,0)) (λi_' w_'=>Ce s k a c e u v i_' w_'∧lx (2,0,0) (4,0,0)) (λr__=>r__=(CX s k a c e u v)) (λt_ p_ h_ n_ al_ zl_ x0_ x1_ x2_ x3_ x4_ x5_ x6_ x7_ r_=>Bj ⟨t_,p_,h_,n_,al_,zl_,x0_,x1_,x2_,x3_,x4_,x5_,x6_,x7_⟩ (s)∧r_=(CX s k a c e u v)):=by
 unfold Bh at hI
 unfold Ul
 try unfold CS
 try unfold Bh
 try unfold CU
 try unfold Ce
 obtain ⟨hR,rfl,h1,h2⟩:=hI
 refine ⟨by decide, λ_=>⟨⟨hR,rfl,h1,h2,?_⟩,Bo⟩⟩
 rw [hR.eq];rfl
theorem Zl (s:RS) (k a c e u v:Int) (hp0:s.a.length≤1000) (t_ p_ h_:Int) (n_:Nat) (a_ z_:LI) (r0_ r1_ r2_ r3_ r4_ r5_ r6_ r7_:Int) (hI:Bh s k a c e u v t_ p_ h_ n_ a_ z_ r0_ r1_ r2_ r3_ r4_ r5_ r6_ r7_ (2:Int)):Um s k a c e u v t_ p_ h_ n_ a_ z_ r0_ r1_ r2_ r3_ r4_ r5_ r6_ r7_ (λi_'=>CS s k a c e u v i_'∧lx (5,0,0) (4,0,0)) (λt_' p_' h_' n_' a_' z_' r0_' r1_' r2_' r3_' r4_' r5_' r6_' r7_' i_'=>Bh s k a c e u v t_' p_' h_' n_' a_' z_' r0_' r1_' r2_' r3_' r4_' r5_' r6_' r7_' i_'∧lx (4,0,0) (4,0,0)) (λt_' p_' h_' n_' a_' z_' r0_' r1_' r2_' r3_' r4_' r5_' r6_' r7_' i_' w_'=>CU s k a c e u v t_' p_' h_' n_' a_' z_' r0_' r1_' r2_' r3_' r4_' r5_' r6_' r7_' i_' w_'∧lx (3,0,0) (4,0,0)) (λi_' w_'=>Ce s k a c e u v i_' w_'∧lx (2,0,0) (4,0,0)) (λr__=>r__=(CX s k a c e u v)) (λt_ p_ h_ n_ al_ zl_ x0_ x1_ x2_ x3_ x4_ x5_ x6_ x7_ r_=>Bj ⟨t_,p_,h_,n_,al_,zl_,x0_,x1_,x2_,x3_,x4_,x5_,x6_,x7_⟩ (s)∧r_=(CX s k a c e u v)):=by
 unfold Bh at hI
 unfold Um
 try unfold CS
 try unfold Bh
 try unfold CU
 try unfold Ce
 obtain ⟨hR,rfl,h1,h2⟩:=hI
 refine ⟨by decide, λ_=>⟨⟨hR,rfl,h1,h2,?_⟩,Bo⟩⟩
 rw [hR.eq];rfl
theorem Zm (s:RS) (k a c e u v:Int) (hp0:s.a.length≤1000) (t_ p_ h_:Int) (n_:Nat) (a_ z_:LI) (r0_ r1_ r2_ r3_ r4_ r5_ r6_ r7_:Int) (hI:Bh s k a c e u v t_ p_ h_ n_ a_ z_ r0_ r1_ r2_ r3_ r4_ r5_ r6_ r7_ (3:Int)):Un s k a c e u v t_ p_ h_ n_ a_ z_ r0_ r1_ r2_ r3_ r4_ r5_ r6_ r7_ (λi_'=>CS s k a c e u v i_'∧lx (5,0,0) (4,0,0)) (λt_' p_' h_' n_' a_' z_' r0_' r1_' r2_' r3_' r4_' r5_' r6_' r7_' i_'=>Bh s k a c e u v t_' p_' h_' n_' a_' z_' r0_' r1_' r2_' r3_' r4_' r5_' r6_' r7_' i_'∧lx (4,0,0) (4,0,0)) (λt_' p_' h_' n_' a_' z_' r0_' r1_' r2_' r3_' r4_' r5_' r6_' r7_' i_' w_'=>CU s k a c e u v t_' p_' h_' n_' a_' z_' r0_' r1_' r2_' r3_' r4_' r5_' r6_' r7_' i_' w_'∧lx (3,0,0) (4,0,0)) (λi_' w_'=>Ce s k a c e u v i_' w_'∧lx (2,0,0) (4,0,0)) (λr__=>r__=(CX s k a c e u v)) (λt_ p_ h_ n_ al_ zl_ x0_ x1_ x2_ x3_ x4_ x5_ x6_ x7_ r_=>Bj ⟨t_,p_,h_,n_,al_,zl_,x0_,x1_,x2_,x3_,x4_,x5_,x6_,x7_⟩ (s)∧r_=(CX s k a c e u v)):=by
 unfold Bh at hI
 unfold Un
 try unfold CS
 try unfold Bh
 try unfold CU
 try unfold Ce
 obtain ⟨hR,rfl,h1,h2⟩:=hI
 refine ⟨by decide, λ_=>⟨⟨hR,rfl,h1,h2,?_⟩,Bo⟩⟩
 rw [hR.eq];rfl
theorem Zn (s:RS) (k a c e u v:Int) (hp0:s.a.length≤1000) (t_ p_ h_:Int) (n_:Nat) (a_ z_:LI) (r0_ r1_ r2_ r3_ r4_ r5_ r6_ r7_:Int) (hI:Bh s k a c e u v t_ p_ h_ n_ a_ z_ r0_ r1_ r2_ r3_ r4_ r5_ r6_ r7_ (4:Int)):Uo s k a c e u v t_ p_ h_ n_ a_ z_ r0_ r1_ r2_ r3_ r4_ r5_ r6_ r7_ (λi_'=>CS s k a c e u v i_'∧lx (5,0,0) (4,0,0)) (λt_' p_' h_' n_' a_' z_' r0_' r1_' r2_' r3_' r4_' r5_' r6_' r7_' i_'=>Bh s k a c e u v t_' p_' h_' n_' a_' z_' r0_' r1_' r2_' r3_' r4_' r5_' r6_' r7_' i_'∧lx (4,0,0) (4,0,0)) (λt_' p_' h_' n_' a_' z_' r0_' r1_' r2_' r3_' r4_' r5_' r6_' r7_' i_' w_'=>CU s k a c e u v t_' p_' h_' n_' a_' z_' r0_' r1_' r2_' r3_' r4_' r5_' r6_' r7_' i_' w_'∧lx (3,0,0) (4,0,0)) (λi_' w_'=>Ce s k a c e u v i_' w_'∧lx (2,0,0) (4,0,0)) (λr__=>r__=(CX s k a c e u v)) (λt_ p_ h_ n_ al_ zl_ x0_ x1_ x2_ x3_ x4_ x5_ x6_ x7_ r_=>Bj ⟨t_,p_,h_,n_,al_,zl_,x0_,x1_,x2_,x3_,x4_,x5_,x6_,x7_⟩ (s)∧r_=(CX s k a c e u v)):=by
 unfold Bh at hI
 unfold Uo
 try unfold CS
 try unfold Bh
 try unfold CU
 try unfold Ce
 obtain ⟨hR,rfl,h1,h2⟩:=hI
 refine ⟨by decide, λ_=>⟨⟨hR,rfl,h1,h2,?_⟩,Bo⟩⟩
 rw [hR.eq];rfl
theorem Zo (s:RS) (k a c e u v:Int) (hp0:s.a.length≤1000) (t_ p_ h_:Int) (n_:Nat) (a_ z_:LI) (r0_ r1_ r2_ r3_ r4_ r5_ r6_ r7_:Int) (hI:Bh s k a c e u v t_ p_ h_ n_ a_ z_ r0_ r1_ r2_ r3_ r4_ r5_ r6_ r7_ (5:Int)):Ur s k a c e u v t_ p_ h_ n_ a_ z_ r0_ r1_ r2_ r3_ r4_ r5_ r6_ r7_ (λi_'=>CS s k a c e u v i_'∧lx (5,0,0) (4,0,0)) (λt_' p_' h_' n_' a_' z_' r0_' r1_' r2_' r3_' r4_' r5_' r6_' r7_' i_'=>Bh s k a c e u v t_' p_' h_' n_' a_' z_' r0_' r1_' r2_' r3_' r4_' r5_' r6_' r7_' i_'∧lx (4,0,0) (4,0,0)) (λt_' p_' h_' n_' a_' z_' r0_' r1_' r2_' r3_' r4_' r5_' r6_' r7_' i_' w_'=>CU s k a c e u v t_' p_' h_' n_' a_' z_' r0_' r1_' r2_' r3_' r4_' r5_' r6_' r7_' i_' w_'∧lx (3,0,0) (4,0,0)) (λi_' w_'=>Ce s k a c e u v i_' w_'∧lx (2,0,0) (4,0,0)) (λr__=>r__=(CX s k a c e u v)) (λt_ p_ h_ n_ al_ zl_ x0_ x1_ x2_ x3_ x4_ x5_ x6_ x7_ r_=>Bj ⟨t_,p_,h_,n_,al_,zl_,x0_,x1_,x2_,x3_,x4_,x5_,x6_,x7_⟩ (s)∧r_=(CX s k a c e u v)):=by
 unfold Bh at hI
 unfold Ur
 try unfold CS
 try unfold Bh
 try unfold CU
 try unfold Ce
 obtain ⟨hR,rfl,h1,h2⟩:=hI
 refine ⟨by decide, λ_=>⟨⟨hR,rfl,h1,h2,?_⟩,Bo⟩⟩
 rw [hR.eq];rfl
theorem Zp (s:RS) (k a c e u v:Int) (hp0:s.a.length≤1000) (t_ p_ h_:Int) (n_:Nat) (a_ z_:LI) (r0_ r1_ r2_ r3_ r4_ r5_ r6_ r7_:Int) (hI:Bh s k a c e u v t_ p_ h_ n_ a_ z_ r0_ r1_ r2_ r3_ r4_ r5_ r6_ r7_ (6:Int)):Us s k a c e u v t_ p_ h_ n_ a_ z_ r0_ r1_ r2_ r3_ r4_ r5_ r6_ r7_ (λi_'=>CS s k a c e u v i_'∧lx (5,0,0) (4,0,0)) (λt_' p_' h_' n_' a_' z_' r0_' r1_' r2_' r3_' r4_' r5_' r6_' r7_' i_'=>Bh s k a c e u v t_' p_' h_' n_' a_' z_' r0_' r1_' r2_' r3_' r4_' r5_' r6_' r7_' i_'∧lx (4,0,0) (4,0,0)) (λt_' p_' h_' n_' a_' z_' r0_' r1_' r2_' r3_' r4_' r5_' r6_' r7_' i_' w_'=>CU s k a c e u v t_' p_' h_' n_' a_' z_' r0_' r1_' r2_' r3_' r4_' r5_' r6_' r7_' i_' w_'∧lx (3,0,0) (4,0,0)) (λi_' w_'=>Ce s k a c e u v i_' w_'∧lx (2,0,0) (4,0,0)) (λr__=>r__=(CX s k a c e u v)) (λt_ p_ h_ n_ al_ zl_ x0_ x1_ x2_ x3_ x4_ x5_ x6_ x7_ r_=>Bj ⟨t_,p_,h_,n_,al_,zl_,x0_,x1_,x2_,x3_,x4_,x5_,x6_,x7_⟩ (s)∧r_=(CX s k a c e u v)):=by
 unfold Bh at hI
 unfold Us
 try unfold CS
 try unfold Bh
 try unfold CU
 try unfold Ce
 obtain ⟨hR,rfl,h1,h2⟩:=hI
 refine ⟨by decide, λ_=>⟨⟨hR,rfl,h1,h2,?_⟩,Bo⟩⟩
 rw [hR.eq];rfl
theorem Zq (s:RS) (k a c e u v:Int) (hp0:s.a.length≤1000) (t_ p_ h_:Int) (n_:Nat) (a_ z_:LI) (r0_ r1_ r2_ r3_ r4_ r5_ r6_ r7_:Int) (hI:Bh s k a c e u v t_ p_ h_ n_ a_ z_ r0_ r1_ r2_ r3_ r4_ r5_ r6_ r7_ (7:Int)):Ut s k a c e u v t_ p_ h_ n_ a_ z_ r0_ r1_ r2_ r3_ r4_ r5_ r6_ r7_ (λi_'=>CS s k a c e u v i_'∧lx (5,0,0) (4,0,0)) (λt_' p_' h_' n_' a_' z_' r0_' r1_' r2_' r3_' r4_' r5_' r6_' r7_' i_'=>Bh s k a c e u v t_' p_' h_' n_' a_' z_' r0_' r1_' r2_' r3_' r4_' r5_' r6_' r7_' i_'∧lx (4,0,0) (4,0,0)) (λt_' p_' h_' n_' a_' z_' r0_' r1_' r2_' r3_' r4_' r5_' r6_' r7_' i_' w_'=>CU s k a c e u v t_' p_' h_' n_' a_' z_' r0_' r1_' r2_' r3_' r4_' r5_' r6_' r7_' i_' w_'∧lx (3,0,0) (4,0,0)) (λi_' w_'=>Ce s k a c e u v i_' w_'∧lx (2,0,0) (4,0,0)) (λr__=>r__=(CX s k a c e u v)) (λt_ p_ h_ n_ al_ zl_ x0_ x1_ x2_ x3_ x4_ x5_ x6_ x7_ r_=>Bj ⟨t_,p_,h_,n_,al_,zl_,x0_,x1_,x2_,x3_,x4_,x5_,x6_,x7_⟩ (s)∧r_=(CX s k a c e u v)):=by
 unfold Bh at hI
 unfold Ut
 try unfold CS
 try unfold Bh
 try unfold CU
 try unfold Ce
 obtain ⟨hR,rfl,h1,h2⟩:=hI
 refine ⟨by decide, λ_=>⟨⟨hR,rfl,h1,h2,?_⟩,Bo⟩⟩
 rw [hR.eq];rfl
theorem Rk (s:RS) (k a c e u v:Int) (hp0:s.a.length≤1000) (t_ p_ h_:Int) (n_:Nat) (a_ z_:LI) (r0_ r1_ r2_ r3_ r4_ r5_ r6_ r7_ i_ w_:Int) (hI:CU s k a c e u v t_ p_ h_ n_ a_ z_ r0_ r1_ r2_ r3_ r4_ r5_ r6_ r7_ i_ w_):(Bj ⟨t_,p_,h_,n_,a_,z_,r0_,r1_,r2_,r3_,r4_,r5_,r6_,r7_⟩ s)∧Qk s k a c e u v t_ p_ h_ n_ a_ z_ r0_ r1_ r2_ r3_ r4_ r5_ r6_ r7_ i_ w_ (λi_' w_'=>Ce s k a c e u v i_' w_'∧lx (2,0,0) (3,0,0)):=by
 unfold CU at hI
 unfold Qk
 try unfold CS
 try unfold Bh
 try unfold CU
 try unfold Ce
 obtain ⟨hR,hI⟩:=hI
 exact ⟨hR,hI,Bo⟩
theorem Ad4 (s:RS) (k a c e u v:Int) (hp0:s.a.length≤1000) (i_ w_:Int) (hI:Ce s k a c e u v i_ w_):Yj s k a c e u v i_ w_ (λi_'=>CS s k a c e u v i_'∧lx (5,0,0) (2,0,0)) (λt_' p_' h_' n_' a_' z_' r0_' r1_' r2_' r3_' r4_' r5_' r6_' r7_' i_'=>Bh s k a c e u v t_' p_' h_' n_' a_' z_' r0_' r1_' r2_' r3_' r4_' r5_' r6_' r7_' i_'∧lx (4,0,0) (2,0,0)) (λt_' p_' h_' n_' a_' z_' r0_' r1_' r2_' r3_' r4_' r5_' r6_' r7_' i_' w_'=>CU s k a c e u v t_' p_' h_' n_' a_' z_' r0_' r1_' r2_' r3_' r4_' r5_' r6_' r7_' i_' w_'∧lx (3,0,0) (2,0,0)) (λi_' w_'=>Ce s k a c e u v i_' w_'∧lx (2,0,0) (2,0,0)) (λr__=>r__=(CX s k a c e u v)) (λt_ p_ h_ n_ al_ zl_ x0_ x1_ x2_ x3_ x4_ x5_ x6_ x7_ r_=>Bj ⟨t_,p_,h_,n_,al_,zl_,x0_,x1_,x2_,x3_,x4_,x5_,x6_,x7_⟩ (s)∧r_=(CX s k a c e u v)):=by
 unfold Ce at hI
 unfold Yj
 try unfold CS
 try unfold Bh
 try unfold CU
 try unfold Ce
 obtain ⟨rfl,h1,h2,rfl⟩:=hI
 have hb:(decide (i_<0)||decide (i_>7))=false:=kH.2 ⟨decide_eq_false (by omega),decide_eq_false (by omega)⟩
 refine ⟨λh4=>?_, λh4=>⟨λh5=>⟨λ_=>hp0, λ_=>⟨λhb2=>?_, λhb2=>?_⟩⟩, λh5=>?_⟩⟩
 ·rintro r rfl
  refine ⟨hp0, λ_=>?_⟩
  show _=CX s k i_ c e u v
  unfold CX;rw [hb,h4];rfl
 ·rintro r rfl
  show _=CX s k i_ c e u v
  unfold CX;rw [hb,h4,h5,hb2];rfl
 ·rintro r rfl
  show _=CX s k i_ c e u v
  unfold CX;rw [hb,h4,h5,hb2];rfl
 ·rintro r rfl
  show _=CX s k i_ c e u v
  unfold CX;rw [hb,h4,h5];rfl
theorem AjH:DV 57 Abz:=
 Gg Dg Ik false Yh (I:=[1026900,1362000,2999998]) Try.func57 mix (B:=AP Try.f57) (by kernel_rfl) rfl (by kernel_rfl) 400
  λo s k a c e u v hb hp=>have hp0:s.a.length≤1000:=hp _ (.head _);⟨s,s,(CX s k a c e u v),[⟨some 900,[0,1,1],[.code [1,1,1]],[0,4,5],[.objk CW ⟨o,0,none⟩ (s), .box 29 [.ic .i64 (k), .i .i64, .ic .i64 (c)], .box 32 [.ic .i64 (e), .ic .i64 (u), .ic .i64 (v)]]⟩,⟨some 900,[0,1,1],[.code [1,1,1]],[0,4,5],[.boxc o Bq.t Bq.l, .box 29 [.ic .i64 (k), .i .i64, .ic .i64 (c)], .box 32 [.ic .i64 (e), .ic .i64 (u), .ic .i64 (v)]]⟩,⟨some 0,[0,0,1,1,1],[.code [1,0,1,1,1], .code [1,1,1,1]],[0,4,5,7],[.boxc o Bq.t Bq.l, .box 29 [.ic .i64 (k), .i .i64, .ic .i64 (c)], .box 32 [.ic .i64 (e), .ic .i64 (u), .ic .i64 (v)], .i .i64]⟩,⟨some 0,[0,0,1,1,1],[.code [1,0,1,1,1], .code [1,1,1,1]],[0,4,5,7],[.objk CW ⟨o,0,none⟩ (s), .box 29 [.ic .i64 (k), .i .i64, .ic .i64 (c)], .box 32 [.ic .i64 (e), .ic .i64 (u), .ic .i64 (v)], .i .i64]⟩],[.opn 0 (λ_=>o) 1, .run, .cls 3, .run], λj=>iN [Ag (Hd.kd (⟨some 900,[0,1,1],[.code [1,1,1]],[0,4,5],[.objk CW ⟨o,0,none⟩ (s), .box 29 [.ic .i64 (k), .i .i64, .ic .i64 (c)], .box 32 [.ic .i64 (e), .ic .i64 (u), .ic .i64 (v)]]⟩:Hd Sg)) (λi_'=>CS s k a c e u v i_'),Ag (Hd.kd (⟨some 900,[0,1,1],[.code [1,1,1]],[0,4,5],[.boxc o Bq.t Bq.l, .box 29 [.ic .i64 (k), .i .i64, .ic .i64 (c)], .box 32 [.ic .i64 (e), .ic .i64 (u), .ic .i64 (v)]]⟩:Hd Sg)) (λt_' p_' h_' n_' a_' z_' r0_' r1_' r2_' r3_' r4_' r5_' r6_' r7_' i_'=>Bh s k a c e u v t_' p_' h_' n_' a_' z_' r0_' r1_' r2_' r3_' r4_' r5_' r6_' r7_' i_'),Ag (Hd.kd (⟨some 0,[0,0,1,1,1],[.code [1,0,1,1,1], .code [1,1,1,1]],[0,4,5,7],[.boxc o Bq.t Bq.l, .box 29 [.ic .i64 (k), .i .i64, .ic .i64 (c)], .box 32 [.ic .i64 (e), .ic .i64 (u), .ic .i64 (v)], .i .i64]⟩:Hd Sg)) (λt_' p_' h_' n_' a_' z_' r0_' r1_' r2_' r3_' r4_' r5_' r6_' r7_' i_' w_'=>CU s k a c e u v t_' p_' h_' n_' a_' z_' r0_' r1_' r2_' r3_' r4_' r5_' r6_' r7_' i_' w_'),Ag (Hd.kd (⟨some 0,[0,0,1,1,1],[.code [1,0,1,1,1], .code [1,1,1,1]],[0,4,5,7],[.objk CW ⟨o,0,none⟩ (s), .box 29 [.ic .i64 (k), .i .i64, .ic .i64 (c)], .box 32 [.ic .i64 (e), .ic .i64 (u), .ic .i64 (v)], .i .i64]⟩:Hd Sg)) (λi_' w_'=>Ce s k a c e u v i_' w_')] j (λ_=>False), λj=>iN [Ag (Hd.kd (⟨some 900,[0,1,1],[.code [1,1,1]],[0,4,5],[.objk CW ⟨o,0,none⟩ (s), .box 29 [.ic .i64 (k), .i .i64, .ic .i64 (c)], .box 32 [.ic .i64 (e), .ic .i64 (u), .ic .i64 (v)]]⟩:Hd Sg)) (λi_'=>(5,0,0)),Ag (Hd.kd (⟨some 900,[0,1,1],[.code [1,1,1]],[0,4,5],[.boxc o Bq.t Bq.l, .box 29 [.ic .i64 (k), .i .i64, .ic .i64 (c)], .box 32 [.ic .i64 (e), .ic .i64 (u), .ic .i64 (v)]]⟩:Hd Sg)) (λt_' p_' h_' n_' a_' z_' r0_' r1_' r2_' r3_' r4_' r5_' r6_' r7_' i_'=>(4,0,0)),Ag (Hd.kd (⟨some 0,[0,0,1,1,1],[.code [1,0,1,1,1], .code [1,1,1,1]],[0,4,5,7],[.boxc o Bq.t Bq.l, .box 29 [.ic .i64 (k), .i .i64, .ic .i64 (c)], .box 32 [.ic .i64 (e), .ic .i64 (u), .ic .i64 (v)], .i .i64]⟩:Hd Sg)) (λt_' p_' h_' n_' a_' z_' r0_' r1_' r2_' r3_' r4_' r5_' r6_' r7_' i_' w_'=>(3,0,0)),Ag (Hd.kd (⟨some 0,[0,0,1,1,1],[.code [1,0,1,1,1], .code [1,1,1,1]],[0,4,5,7],[.objk CW ⟨o,0,none⟩ (s), .box 29 [.ic .i64 (k), .i .i64, .ic .i64 (c)], .box 32 [.ic .i64 (e), .ic .i64 (u), .ic .i64 (v)], .i .i64]⟩:Hd Sg)) (λi_' w_'=>(2,0,0))] j (λ_=>(0,0,0)),by kernel_rfl, λ_ _=>by kernel_rfl,by kernel_rfl,⟨_, λ_ _ _=>by kernel_rfl,Ad2 s k a c e u v hp0⟩,⟨λi_ hI=>⟨s, λ_=>by kernel_rfl, λt_ p_ h_ n_ al_ zl_ x0_ x1_ x2_ x3_ x4_ x5_ x6_ x7_ hx=>⟨_, λ_ _=>by kernel_rfl,Ad3 s k a c e u v hp0 i_ t_ p_ h_ n_ al_ zl_ x0_ x1_ x2_ x3_ x4_ x5_ x6_ x7_ hI hx⟩⟩,⟨λt_ p_ h_ n_ a_ z_ r0_ r1_ r2_ r3_ r4_ r5_ r6_ r7_ i_ hI=>(by
   rcases Aij s k a c e u v hp0 t_ p_ h_ n_ a_ z_ r0_ r1_ r2_ r3_ r4_ r5_ r6_ r7_ i_ hI with rfl|rfl|rfl|rfl|rfl|rfl|rfl|rfl
   ·exact ⟨_, λ_ _ _=>by kernel_rfl,Zj s k a c e u v hp0 t_ p_ h_ n_ a_ z_ r0_ r1_ r2_ r3_ r4_ r5_ r6_ r7_ hI⟩
   ·exact ⟨_, λ_ _ _=>by kernel_rfl,Zk s k a c e u v hp0 t_ p_ h_ n_ a_ z_ r0_ r1_ r2_ r3_ r4_ r5_ r6_ r7_ hI⟩
   ·exact ⟨_, λ_ _ _=>by kernel_rfl,Zl s k a c e u v hp0 t_ p_ h_ n_ a_ z_ r0_ r1_ r2_ r3_ r4_ r5_ r6_ r7_ hI⟩
   ·exact ⟨_, λ_ _ _=>by kernel_rfl,Zm s k a c e u v hp0 t_ p_ h_ n_ a_ z_ r0_ r1_ r2_ r3_ r4_ r5_ r6_ r7_ hI⟩
   ·exact ⟨_, λ_ _ _=>by kernel_rfl,Zn s k a c e u v hp0 t_ p_ h_ n_ a_ z_ r0_ r1_ r2_ r3_ r4_ r5_ r6_ r7_ hI⟩
   ·exact ⟨_, λ_ _ _=>by kernel_rfl,Zo s k a c e u v hp0 t_ p_ h_ n_ a_ z_ r0_ r1_ r2_ r3_ r4_ r5_ r6_ r7_ hI⟩
   ·exact ⟨_, λ_ _ _=>by kernel_rfl,Zp s k a c e u v hp0 t_ p_ h_ n_ a_ z_ r0_ r1_ r2_ r3_ r4_ r5_ r6_ r7_ hI⟩
   ·exact ⟨_, λ_ _ _=>by kernel_rfl,Zq s k a c e u v hp0 t_ p_ h_ n_ a_ z_ r0_ r1_ r2_ r3_ r4_ r5_ r6_ r7_ hI⟩),⟨λt_ p_ h_ n_ a_ z_ r0_ r1_ r2_ r3_ r4_ r5_ r6_ r7_ i_ w_ hI=>⟨s,Qk s k a c e u v t_ p_ h_ n_ a_ z_ r0_ r1_ r2_ r3_ r4_ r5_ r6_ r7_ i_ w_ (λi_' w_'=>Ce s k a c e u v i_' w_'∧lx (2,0,0) (3,0,0)),(Rk s k a c e u v hp0 t_ p_ h_ n_ a_ z_ r0_ r1_ r2_ r3_ r4_ r5_ r6_ r7_ i_ w_ hI).1, λ_=>by kernel_rfl,(Rk s k a c e u v hp0 t_ p_ h_ n_ a_ z_ r0_ r1_ r2_ r3_ r4_ r5_ r6_ r7_ i_ w_ hI).2⟩,⟨λi_ w_ hI=>⟨_, λ_ _ _=>by kernel_rfl,Ad4 s k a c e u v hp0 i_ w_ hI⟩,trivial⟩⟩⟩⟩⟩
def Ab1:Tb:=(57,Abz)::Aii
theorem Uu:D7 Ab1:=Ea AjH Yh
end
section
open Go.Sl
def gR (s:RS) (k a:Int):Bool:=(k==2||k==3||k==7)&&decide (BK s.a a<0)
def Oj (s:RS) (k a c e u v:Int):Bool:=
 bif k==1 then F8 s a e u v (-1)&&FQ e u v (BJ s.t s.p s.h a).1
 else bif k==2 then (bif F7 s a then BC 6 e u v else Et e u v (s.z.getD (BK s.a a).toNat 0) 0)
 else bif k==3 then (bif u==a then F8 s c e u v (BK s.a a)&&FQ e u v (BJ s.t s.p s.h c).1 else F8 s c e u v (-1)&&FQ e u v (BJ s.t s.p s.h c).1)
 else bif k==7 then Et e u v (s.z.getD (BK s.a a).toNat 0) 0
 else bif k==8 then e==0&&decide (u≥0)&&decide (u≤s.p)&&v==(s.a.length:Int)
 else bif k==9 then (bif decide (a<0)||decide (a>8) then BC 7 e u v else e==0&&decide (u≥0)&&decide (u≤4)&&v==0)
 else CX s k a c e u v
theorem AnD {l:LI} {g:Int} (h:0≤BK l g):(BK l g).toNat<l.length:=by
 unfold BK at h ⊢
 cases hf:l.findIdx? (· ==g) with
 |none=>rw [hf] at h;exact absurd h (by decide)
 |some i=>
  rw [lQ] at hf
  obtain ⟨hi,_⟩:=hf
  exact hi
theorem Ad5 {k:Int} {s:RS} {a:Int} (h:gR s k a=false) (hk:(k==2||k==3||k==7)=true):0≤BK s.a a:=by
 unfold gR at h
 rw [hk,oO] at h
 simpa using h
def AZ (s:RS) (k a c e u v:Int):Bool:=bif !Dh k a c then BC 1 e u v else bif gR s k a then BC 4 e u v else Oj s k a c e u v
abbrev JY:Ct Sg:=⟨some CW,true,[.agg [.i .i64, .i .i64, .i .i64], .agg [.i .i64, .i .i64, .i .i64]], .b⟩
def Ab2:Entry Sg:=BU JY (λ(s:RS) (k:Int) (a:Int) (c:Int) (e:Int) (u:Int) (v:Int)=>bif !Dh k a c then BC 1 e u v else bif gR s k a then BC 4 e u v else Oj s k a c e u v) (λs k a c e u v=>[s.a.length≤1000])
def Ab3 (s:RS) (k a c e u v:Int) (Q0:Int→Prop) (Q1:Int→Int→Int→Nat→LI→LI→Int→Int→Int→Int→Int→Int→Int→Int→Int→Prop) (Q2:Int→Int→Int→Nat→LI→LI→Int→Int→Int→Int→Int→Int→Int→Int→Int→Prop) (Q3:Int→Prop) (Q4:Int→Prop) (Q5:Int→Int→Int→Nat→LI→LI→Int→Int→Int→Int→Int→Int→Int→Int→Int→Prop) (Q6:Int→Prop) (Q7:Int→Int→Int→Nat→LI→LI→Int→Int→Int→Int→Int→Int→Int→Int→Int→Prop) (Q8:Int→Int→Int→Nat→LI→LI→Int→Int→Int→Int→Int→Int→Int→Int→Int→Int→Prop) (Q9:Int→Int→Prop) (Q10:Int→Prop) (Q11:Int→Int→Int→Nat→LI→LI→Int→Int→Int→Int→Int→Int→Int→Int→Int→Prop) (Q12:Int→Prop) (Q13:Int→Int→Int→Nat→LI→LI→Int→Int→Int→Int→Int→Int→Int→Int→Int→Prop) (R_:Bool→Prop) (O_:Int→Int→Int→Nat→LI→LI→Int→Int→Int→Int→Int→Int→Int→Int→Bool→Prop):Prop:=(∀r2:Bool,r2=(Dh k a c)→(AV (!r2) (∀r4:Bool,r4=(BC 1 e u v)→(R_ (r4))) (∀r4:Int,r4=(BK (RS.a s) a)→(Ap (iH (RS.a s)≤1000) (AV ((k==2||k==3||k==7)&&decide (r4<0)) (∀r7:Bool,r7=(BC 4 e u v)→(R_ (r7))) (AV (k==1) (Q0 (r4)) (AV (k==2) (∀r9:Bool,r9=(List.any [RS.r0 s,RS.r1 s,RS.r2 s,RS.r3 s,RS.r4 s,RS.r5 s,RS.r6 s,RS.r7 s] λx=>x==a)→(AV (r9) (∀r11:Bool,r11=(BC 6 e u v)→(R_ (r11))) (Q4 (r4)))) (AV (k==3) (Q6 (r4)) (AV (k==7) (Q10 (r4)) (AV (k==8) (Q12 (r4)) (AV (k==9) (AV (decide (a<0)||decide (a>8)) (∀r14:Bool,r14=(BC 7 e u v)→(R_ (r14))) (R_ (e==0&&decide (u≥0)&&decide (u≤4)&&v==0))) (∀r13:Bool,r13=(bif decide (a<0)||decide (a>7) then BC 5 e u v else bif k==4 then F8 s c e u v (-1)&&FQ e u v (OX s a) else bif k==5 then bif c !=0&&decide (BK (RS.a s) c<0) then BC 4 e u v else Et e u v c (OX s a) else Et e u v (OX s a) 0)→(Ap (iH (RS.a s)≤1000) (R_ (r13)))))))))))))))
def Yk (s:RS) (k a c e u v i_ t_ p_ h_:Int) (n_:Nat) (al_ zl_:LI) (x0_ x1_ x2_ x3_ x4_ x5_ x6_ x7_:Int) (Q1:Int→Int→Int→Nat→LI→LI→Int→Int→Int→Int→Int→Int→Int→Int→Int→Prop):Prop:=(Q1 (t_) (p_) (h_) (n_) (al_) (zl_) (x0_) (x1_) (x2_) (x3_) (x4_) (x5_) (x6_) (x7_) (i_))
def CB (s:RS) (k a c e u v i_:Int):Prop:=k=1∧Dh k a c=true∧gR s k a=false
def Yl (s:RS) (k a c e u v t_ p_ h_:Int) (n_:Nat) (a_ z_:LI) (r0_ r1_ r2_ r3_ r4_ r5_ r6_ r7_ i_:Int) (Q0:Int→Prop) (Q1:Int→Int→Int→Nat→LI→LI→Int→Int→Int→Int→Int→Int→Int→Int→Int→Prop) (Q2:Int→Int→Int→Nat→LI→LI→Int→Int→Int→Int→Int→Int→Int→Int→Int→Prop) (Q3:Int→Prop) (Q4:Int→Prop) (Q5:Int→Int→Int→Nat→LI→LI→Int→Int→Int→Int→Int→Int→Int→Int→Int→Prop) (Q6:Int→Prop) (Q7:Int→Int→Int→Nat→LI→LI→Int→Int→Int→Int→Int→Int→Int→Int→Int→Prop) (Q8:Int→Int→Int→Nat→LI→LI→Int→Int→Int→Int→Int→Int→Int→Int→Int→Int→Prop) (Q9:Int→Int→Prop) (Q10:Int→Prop) (Q11:Int→Int→Int→Nat→LI→LI→Int→Int→Int→Int→Int→Int→Int→Int→Int→Prop) (Q12:Int→Prop) (Q13:Int→Int→Int→Nat→LI→LI→Int→Int→Int→Int→Int→Int→Int→Int→Int→Prop) (R_:Bool→Prop) (O_:Int→Int→Int→Nat→LI→LI→Int→Int→Int→Int→Int→Int→Int→Int→Bool→Prop):Prop:=(Q2 (t_) (p_) (h_) (n_) (a_) (z_) (r0_) (r1_) (r2_) (r3_) (r4_) (r5_) (r6_) (r7_) (kM (BJ t_ p_ h_ a)))
def Cf (s:RS) (k a c e u v t_ p_ h_:Int) (n_:Nat) (a_ z_:LI) (r0_ r1_ r2_ r3_ r4_ r5_ r6_ r7_ i_:Int):Prop:=Bj ⟨t_,p_,h_,n_,a_,z_,r0_,r1_,r2_,r3_,r4_,r5_,r6_,r7_⟩ s∧k=1∧Dh k a c=true∧gR s k a=false
def Ql (s:RS) (k a c e u v t_ p_ h_:Int) (n_:Nat) (a_ z_:LI) (r0_ r1_ r2_ r3_ r4_ r5_ r6_ r7_ w_:Int) (Q3:Int→Prop):Prop:=(Q3 (w_))
def CE (s:RS) (k a c e u v t_ p_ h_:Int) (n_:Nat) (a_ z_:LI) (r0_ r1_ r2_ r3_ r4_ r5_ r6_ r7_ w_:Int):Prop:=Bj ⟨t_,p_,h_,n_,a_,z_,r0_,r1_,r2_,r3_,r4_,r5_,r6_,r7_⟩ s∧k=1∧Dh k a c=true∧gR s k a=false∧w_=(BJ s.t s.p s.h a).1
abbrev WL (s:RS) (a e u v:Int) (R_:Bool→Prop) (w_:Int):Prop:=(∀r0:Bool,r0=(bif !Prod.snd (BJ (RS.t s) (RS.p s) (RS.h s) a) then BC 2 e u v else BC 3 e u v||e==0&&OV s u (kM (BJ (RS.t s) (RS.p s) (RS.h s) a)) (-1))→(Ap (iH (RS.a s)≤1000) (R_ (r0&&FQ e u v w_))))
def Ym (s:RS) (k a c e u v w_:Int) (Q0:Int→Prop) (Q1:Int→Int→Int→Nat→LI→LI→Int→Int→Int→Int→Int→Int→Int→Int→Int→Prop) (Q2:Int→Int→Int→Nat→LI→LI→Int→Int→Int→Int→Int→Int→Int→Int→Int→Prop) (Q3:Int→Prop) (Q4:Int→Prop) (Q5:Int→Int→Int→Nat→LI→LI→Int→Int→Int→Int→Int→Int→Int→Int→Int→Prop) (Q6:Int→Prop) (Q7:Int→Int→Int→Nat→LI→LI→Int→Int→Int→Int→Int→Int→Int→Int→Int→Prop) (Q8:Int→Int→Int→Nat→LI→LI→Int→Int→Int→Int→Int→Int→Int→Int→Int→Int→Prop) (Q9:Int→Int→Prop) (Q10:Int→Prop) (Q11:Int→Int→Int→Nat→LI→LI→Int→Int→Int→Int→Int→Int→Int→Int→Int→Prop) (Q12:Int→Prop) (Q13:Int→Int→Int→Nat→LI→LI→Int→Int→Int→Int→Int→Int→Int→Int→Int→Prop) (R_:Bool→Prop) (O_:Int→Int→Int→Nat→LI→LI→Int→Int→Int→Int→Int→Int→Int→Int→Bool→Prop):Prop:=(WL s a e u v R_ w_)
def Cb (s:RS) (k a c e u v w_:Int):Prop:=k=1∧Dh k a c=true∧gR s k a=false∧w_=(BJ s.t s.p s.h a).1
def Yn (s:RS) (k a c e u v i_ t_ p_ h_:Int) (n_:Nat) (al_ zl_:LI) (x0_ x1_ x2_ x3_ x4_ x5_ x6_ x7_:Int) (Q5:Int→Int→Int→Nat→LI→LI→Int→Int→Int→Int→Int→Int→Int→Int→Int→Prop):Prop:=(Q5 (t_) (p_) (h_) (n_) (al_) (zl_) (x0_) (x1_) (x2_) (x3_) (x4_) (x5_) (x6_) (x7_) (i_))
def CG (s:RS) (k a c e u v i_:Int):Prop:=k=2∧i_=BK s.a a∧0≤i_∧F7 s a=false∧Dh k a c=true∧gR s k a=false
def Yo (s:RS) (k a c e u v t_ p_ h_:Int) (n_:Nat) (a_ z_:LI) (r0_ r1_ r2_ r3_ r4_ r5_ r6_ r7_ i_:Int) (Q0:Int→Prop) (Q1:Int→Int→Int→Nat→LI→LI→Int→Int→Int→Int→Int→Int→Int→Int→Int→Prop) (Q2:Int→Int→Int→Nat→LI→LI→Int→Int→Int→Int→Int→Int→Int→Int→Int→Prop) (Q3:Int→Prop) (Q4:Int→Prop) (Q5:Int→Int→Int→Nat→LI→LI→Int→Int→Int→Int→Int→Int→Int→Int→Int→Prop) (Q6:Int→Prop) (Q7:Int→Int→Int→Nat→LI→LI→Int→Int→Int→Int→Int→Int→Int→Int→Int→Prop) (Q8:Int→Int→Int→Nat→LI→LI→Int→Int→Int→Int→Int→Int→Int→Int→Int→Int→Prop) (Q9:Int→Int→Prop) (Q10:Int→Prop) (Q11:Int→Int→Int→Nat→LI→LI→Int→Int→Int→Int→Int→Int→Int→Int→Int→Prop) (Q12:Int→Prop) (Q13:Int→Int→Int→Nat→LI→LI→Int→Int→Int→Int→Int→Int→Int→Int→Int→Prop) (R_:Bool→Prop) (O_:Int→Int→Int→Nat→LI→LI→Int→Int→Int→Int→Int→Int→Int→Int→Bool→Prop):Prop:=(Ap (0≤i_∧i_<(↑n_:Int)) (O_ (t_) (p_) (h_) (n_) (a_) (z_) (r0_) (r1_) (r2_) (r3_) (r4_) (r5_) (r6_) (r7_) (Et e u v (iN z_ (jI i_) 0) 0)))
def Ci (s:RS) (k a c e u v t_ p_ h_:Int) (n_:Nat) (a_ z_:LI) (r0_ r1_ r2_ r3_ r4_ r5_ r6_ r7_ i_:Int):Prop:=Bj ⟨t_,p_,h_,n_,a_,z_,r0_,r1_,r2_,r3_,r4_,r5_,r6_,r7_⟩ s∧k=2∧i_=BK s.a a∧0≤i_∧F7 s a=false∧Dh k a c=true∧gR s k a=false
def Yp (s:RS) (k a c e u v i_ t_ p_ h_:Int) (n_:Nat) (al_ zl_:LI) (x0_ x1_ x2_ x3_ x4_ x5_ x6_ x7_:Int) (Q7:Int→Int→Int→Nat→LI→LI→Int→Int→Int→Int→Int→Int→Int→Int→Int→Prop):Prop:=(Q7 (t_) (p_) (h_) (n_) (al_) (zl_) (x0_) (x1_) (x2_) (x3_) (x4_) (x5_) (x6_) (x7_) (i_))
def CJ (s:RS) (k a c e u v i_:Int):Prop:=k=3∧i_=BK s.a a∧Dh k a c=true∧gR s k a=false
def Yq (s:RS) (k a c e u v t_ p_ h_:Int) (n_:Nat) (a_ z_:LI) (r0_ r1_ r2_ r3_ r4_ r5_ r6_ r7_ i_:Int) (Q0:Int→Prop) (Q1:Int→Int→Int→Nat→LI→LI→Int→Int→Int→Int→Int→Int→Int→Int→Int→Prop) (Q2:Int→Int→Int→Nat→LI→LI→Int→Int→Int→Int→Int→Int→Int→Int→Int→Prop) (Q3:Int→Prop) (Q4:Int→Prop) (Q5:Int→Int→Int→Nat→LI→LI→Int→Int→Int→Int→Int→Int→Int→Int→Int→Prop) (Q6:Int→Prop) (Q7:Int→Int→Int→Nat→LI→LI→Int→Int→Int→Int→Int→Int→Int→Int→Int→Prop) (Q8:Int→Int→Int→Nat→LI→LI→Int→Int→Int→Int→Int→Int→Int→Int→Int→Int→Prop) (Q9:Int→Int→Prop) (Q10:Int→Prop) (Q11:Int→Int→Int→Nat→LI→LI→Int→Int→Int→Int→Int→Int→Int→Int→Int→Prop) (Q12:Int→Prop) (Q13:Int→Int→Int→Nat→LI→LI→Int→Int→Int→Int→Int→Int→Int→Int→Int→Prop) (R_:Bool→Prop) (O_:Int→Int→Int→Nat→LI→LI→Int→Int→Int→Int→Int→Int→Int→Int→Bool→Prop):Prop:=(Q8 (t_) (p_) (h_) (n_) (a_) (z_) (r0_) (r1_) (r2_) (r3_) (r4_) (r5_) (r6_) (r7_) (i_) (kM (BJ t_ p_ h_ c)))
def Cj (s:RS) (k a c e u v t_ p_ h_:Int) (n_:Nat) (a_ z_:LI) (r0_ r1_ r2_ r3_ r4_ r5_ r6_ r7_ i_:Int):Prop:=Bj ⟨t_,p_,h_,n_,a_,z_,r0_,r1_,r2_,r3_,r4_,r5_,r6_,r7_⟩ s∧k=3∧i_=BK s.a a∧Dh k a c=true∧gR s k a=false
def Qm (s:RS) (k a c e u v t_ p_ h_:Int) (n_:Nat) (a_ z_:LI) (r0_ r1_ r2_ r3_ r4_ r5_ r6_ r7_ i_ w_:Int) (Q9:Int→Int→Prop):Prop:=(Q9 (i_) (w_))
def CO (s:RS) (k a c e u v t_ p_ h_:Int) (n_:Nat) (a_ z_:LI) (r0_ r1_ r2_ r3_ r4_ r5_ r6_ r7_ i_ w_:Int):Prop:=Bj ⟨t_,p_,h_,n_,a_,z_,r0_,r1_,r2_,r3_,r4_,r5_,r6_,r7_⟩ s∧k=3∧i_=BK s.a a∧Dh k a c=true∧gR s k a=false∧w_=(BJ s.t s.p s.h c).1
def Yr (s:RS) (k a c e u v i_ w_:Int) (Q0:Int→Prop) (Q1:Int→Int→Int→Nat→LI→LI→Int→Int→Int→Int→Int→Int→Int→Int→Int→Prop) (Q2:Int→Int→Int→Nat→LI→LI→Int→Int→Int→Int→Int→Int→Int→Int→Int→Prop) (Q3:Int→Prop) (Q4:Int→Prop) (Q5:Int→Int→Int→Nat→LI→LI→Int→Int→Int→Int→Int→Int→Int→Int→Int→Prop) (Q6:Int→Prop) (Q7:Int→Int→Int→Nat→LI→LI→Int→Int→Int→Int→Int→Int→Int→Int→Int→Prop) (Q8:Int→Int→Int→Nat→LI→LI→Int→Int→Int→Int→Int→Int→Int→Int→Int→Int→Prop) (Q9:Int→Int→Prop) (Q10:Int→Prop) (Q11:Int→Int→Int→Nat→LI→LI→Int→Int→Int→Int→Int→Int→Int→Int→Int→Prop) (Q12:Int→Prop) (Q13:Int→Int→Int→Nat→LI→LI→Int→Int→Int→Int→Int→Int→Int→Int→Int→Prop) (R_:Bool→Prop) (O_:Int→Int→Int→Nat→LI→LI→Int→Int→Int→Int→Int→Int→Int→Int→Bool→Prop):Prop:=(AV (u==a) (∀r1:Bool,r1=(bif !Prod.snd (BJ (RS.t s) (RS.p s) (RS.h s) c) then BC 2 e u v else BC 3 e u v||e==0&&OV s u (kM (BJ (RS.t s) (RS.p s) (RS.h s) c)) i_)→(Ap (iH (RS.a s)≤1000) (R_ (r1&&FQ e u v w_)))) (WL s c e u v R_ w_))
def Cc (s:RS) (k a c e u v i_ w_:Int):Prop:=k=3∧i_=BK s.a a∧Dh k a c=true∧gR s k a=false∧w_=(BJ s.t s.p s.h c).1
def VF (s:RS) (k a c e u v i_ t_ p_ h_:Int) (n_:Nat) (al_ zl_:LI) (x0_ x1_ x2_ x3_ x4_ x5_ x6_ x7_:Int) (Q11:Int→Int→Int→Nat→LI→LI→Int→Int→Int→Int→Int→Int→Int→Int→Int→Prop):Prop:=(Q11 (t_) (p_) (h_) (n_) (al_) (zl_) (x0_) (x1_) (x2_) (x3_) (x4_) (x5_) (x6_) (x7_) (i_))
def BV (s:RS) (k a c e u v i_:Int):Prop:=k=7∧i_=BK s.a a∧0≤i_∧Dh k a c=true∧gR s k a=false
def VG (s:RS) (k a c e u v t_ p_ h_:Int) (n_:Nat) (a_ z_:LI) (r0_ r1_ r2_ r3_ r4_ r5_ r6_ r7_ i_:Int) (Q0:Int→Prop) (Q1:Int→Int→Int→Nat→LI→LI→Int→Int→Int→Int→Int→Int→Int→Int→Int→Prop) (Q2:Int→Int→Int→Nat→LI→LI→Int→Int→Int→Int→Int→Int→Int→Int→Int→Prop) (Q3:Int→Prop) (Q4:Int→Prop) (Q5:Int→Int→Int→Nat→LI→LI→Int→Int→Int→Int→Int→Int→Int→Int→Int→Prop) (Q6:Int→Prop) (Q7:Int→Int→Int→Nat→LI→LI→Int→Int→Int→Int→Int→Int→Int→Int→Int→Prop) (Q8:Int→Int→Int→Nat→LI→LI→Int→Int→Int→Int→Int→Int→Int→Int→Int→Int→Prop) (Q9:Int→Int→Prop) (Q10:Int→Prop) (Q11:Int→Int→Int→Nat→LI→LI→Int→Int→Int→Int→Int→Int→Int→Int→Int→Prop) (Q12:Int→Prop) (Q13:Int→Int→Int→Nat→LI→LI→Int→Int→Int→Int→Int→Int→Int→Int→Int→Prop) (R_:Bool→Prop) (O_:Int→Int→Int→Nat→LI→LI→Int→Int→Int→Int→Int→Int→Int→Int→Bool→Prop):Prop:=(Ap (0≤i_∧i_<(↑n_:Int)) (O_ (t_) (p_) (h_) (n_) (a_) (z_) (r0_) (r1_) (r2_) (r3_) (r4_) (r5_) (r6_) (r7_) (Et e u v (iN z_ (jI i_) 0) 0)))
def BQ (s:RS) (k a c e u v t_ p_ h_:Int) (n_:Nat) (a_ z_:LI) (r0_ r1_ r2_ r3_ r4_ r5_ r6_ r7_ i_:Int):Prop:=Bj ⟨t_,p_,h_,n_,a_,z_,r0_,r1_,r2_,r3_,r4_,r5_,r6_,r7_⟩ s∧k=7∧i_=BK s.a a∧0≤i_∧Dh k a c=true∧gR s k a=false
def VH (s:RS) (k a c e u v i_ t_ p_ h_:Int) (n_:Nat) (al_ zl_:LI) (x0_ x1_ x2_ x3_ x4_ x5_ x6_ x7_:Int) (Q13:Int→Int→Int→Nat→LI→LI→Int→Int→Int→Int→Int→Int→Int→Int→Int→Prop):Prop:=(Q13 (t_) (p_) (h_) (n_) (al_) (zl_) (x0_) (x1_) (x2_) (x3_) (x4_) (x5_) (x6_) (x7_) (i_))
def BX (s:RS) (k a c e u v i_:Int):Prop:=k=8∧Dh k a c=true∧gR s k a=false
def VI (s:RS) (k a c e u v t_ p_ h_:Int) (n_:Nat) (a_ z_:LI) (r0_ r1_ r2_ r3_ r4_ r5_ r6_ r7_ i_:Int) (Q0:Int→Prop) (Q1:Int→Int→Int→Nat→LI→LI→Int→Int→Int→Int→Int→Int→Int→Int→Int→Prop) (Q2:Int→Int→Int→Nat→LI→LI→Int→Int→Int→Int→Int→Int→Int→Int→Int→Prop) (Q3:Int→Prop) (Q4:Int→Prop) (Q5:Int→Int→Int→Nat→LI→LI→Int→Int→Int→Int→Int→Int→Int→Int→Int→Prop) (Q6:Int→Prop) (Q7:Int→Int→Int→Nat→LI→LI→Int→Int→Int→Int→Int→Int→Int→Int→Int→Prop) (Q8:Int→Int→Int→Nat→LI→LI→Int→Int→Int→Int→Int→Int→Int→Int→Int→Int→Prop) (Q9:Int→Int→Prop) (Q10:Int→Prop) (Q11:Int→Int→Int→Nat→LI→LI→Int→Int→Int→Int→Int→Int→Int→Int→Int→Prop) (Q12:Int→Prop) (Q13:Int→Int→Int→Nat→LI→LI→Int→Int→Int→Int→Int→Int→Int→Int→Int→Prop) (R_:Bool→Prop) (O_:Int→Int→Int→Nat→LI→LI→Int→Int→Int→Int→Int→Int→Int→Int→Bool→Prop):Prop:=(O_ (t_) (p_) (h_) (n_) (a_) (z_) (r0_) (r1_) (r2_) (r3_) (r4_) (r5_) (r6_) (r7_) (e==0&&decide (u≥0)&&decide (u≤p_)&&v==(↑n_:Int)))
def BR (s:RS) (k a c e u v t_ p_ h_:Int) (n_:Nat) (a_ z_:LI) (r0_ r1_ r2_ r3_ r4_ r5_ r6_ r7_ i_:Int):Prop:=Bj ⟨t_,p_,h_,n_,a_,z_,r0_,r1_,r2_,r3_,r4_,r5_,r6_,r7_⟩ s∧k=8∧Dh k a c=true∧gR s k a=false
theorem Ad6 (s:RS) (k a c e u v:Int) (hp0:s.a.length≤1000):Ab3 s k a c e u v (λi_'=>CB s k a c e u v i_') (λt_' p_' h_' n_' a_' z_' r0_' r1_' r2_' r3_' r4_' r5_' r6_' r7_' i_'=>Cf s k a c e u v t_' p_' h_' n_' a_' z_' r0_' r1_' r2_' r3_' r4_' r5_' r6_' r7_' i_') (λt_' p_' h_' n_' a_' z_' r0_' r1_' r2_' r3_' r4_' r5_' r6_' r7_' w_'=>CE s k a c e u v t_' p_' h_' n_' a_' z_' r0_' r1_' r2_' r3_' r4_' r5_' r6_' r7_' w_') (λw_'=>Cb s k a c e u v w_') (λi_'=>CG s k a c e u v i_') (λt_' p_' h_' n_' a_' z_' r0_' r1_' r2_' r3_' r4_' r5_' r6_' r7_' i_'=>Ci s k a c e u v t_' p_' h_' n_' a_' z_' r0_' r1_' r2_' r3_' r4_' r5_' r6_' r7_' i_') (λi_'=>CJ s k a c e u v i_') (λt_' p_' h_' n_' a_' z_' r0_' r1_' r2_' r3_' r4_' r5_' r6_' r7_' i_'=>Cj s k a c e u v t_' p_' h_' n_' a_' z_' r0_' r1_' r2_' r3_' r4_' r5_' r6_' r7_' i_') (λt_' p_' h_' n_' a_' z_' r0_' r1_' r2_' r3_' r4_' r5_' r6_' r7_' i_' w_'=>CO s k a c e u v t_' p_' h_' n_' a_' z_' r0_' r1_' r2_' r3_' r4_' r5_' r6_' r7_' i_' w_') (λi_' w_'=>Cc s k a c e u v i_' w_') (λi_'=>BV s k a c e u v i_') (λt_' p_' h_' n_' a_' z_' r0_' r1_' r2_' r3_' r4_' r5_' r6_' r7_' i_'=>BQ s k a c e u v t_' p_' h_' n_' a_' z_' r0_' r1_' r2_' r3_' r4_' r5_' r6_' r7_' i_') (λi_'=>BX s k a c e u v i_') (λt_' p_' h_' n_' a_' z_' r0_' r1_' r2_' r3_' r4_' r5_' r6_' r7_' i_'=>BR s k a c e u v t_' p_' h_' n_' a_' z_' r0_' r1_' r2_' r3_' r4_' r5_' r6_' r7_' i_') (λr__=>r__=(AZ s k a c e u v)) (λt_ p_ h_ n_ al_ zl_ x0_ x1_ x2_ x3_ x4_ x5_ x6_ x7_ r_=>Bj ⟨t_,p_,h_,n_,al_,zl_,x0_,x1_,x2_,x3_,x4_,x5_,x6_,x7_⟩ (s)∧r_=(AZ s k a c e u v)):=by
 unfold Ab3
 try unfold CB
 try unfold Cf
 try unfold CE
 try unfold Cb
 try unfold CG
 try unfold Ci
 try unfold CJ
 try unfold Cj
 try unfold CO
 try unfold Cc
 try unfold BV
 try unfold BQ
 try unfold BX
 try unfold BR
 rintro r2 rfl
 refine ⟨λh=>?_, λh=>?_⟩
 ·rintro r rfl
  show _=AZ s k a c e u v
  unfold AZ;rw [h];rfl
 rintro r4 rfl
 refine ⟨hp0, λ_=>⟨λhg=>?_, λhg=>?_⟩⟩
 ·rintro r rfl
  show _=AZ s k a c e u v
  have hg:gR s k a=true:=hg
  unfold AZ;rw [h,hg];rfl
 have hr:Dh k a c=true:=by simpa using h
 have hg:gR s k a=false:=hg
 have key:AZ s k a c e u v=Oj s k a c e u v:=by unfold AZ;rw [hr,hg];rfl
 refine ⟨λh1=>⟨by simpa using h1,hr,hg⟩, λh1=>⟨λh2=>?_, λh2=>⟨λh3=>⟨by simpa using h3,rfl,hr,hg⟩, λh3=>⟨λh7=>⟨by simpa using h7,rfl,Ad5 hg (by rw [h7];simp),hr,hg⟩, λh7=>⟨λh8=>⟨by simpa using h8,hr,hg⟩, λh8=>⟨λh9=>⟨λhb=>?_, λhb=>?_⟩, λh9=>?_⟩⟩⟩⟩⟩⟩
 ·rintro r9 rfl
  refine ⟨λhh=>?_, λhh=>⟨by simpa using h2,rfl,Ad5 hg (by rw [h2];rfl),hh,hr,hg⟩⟩
  rintro r rfl
  show _=AZ s k a c e u v
  have hh:F7 s a=true:=hh
  rw [key];unfold Oj;rw [h1,h2,hh];rfl
 ·rintro r rfl
  show _=AZ s k a c e u v
  rw [key];unfold Oj;rw [h1,h2,h3,h7,h8,h9,hb];rfl
 ·show _=AZ s k a c e u v
  rw [key];unfold Oj;rw [h1,h2,h3,h7,h8,h9,hb];rfl
 ·rintro r rfl
  refine ⟨hp0, λ_=>?_⟩
  show _=AZ s k a c e u v
  rw [key];unfold Oj;rw [h1,h2,h3,h7,h8,h9];rfl
theorem Ad7 (s:RS) (k a c e u v:Int) (hp0:s.a.length≤1000) (i_ t_ p_ h_:Int) (n_:Nat) (al_ zl_:LI) (x0_ x1_ x2_ x3_ x4_ x5_ x6_ x7_:Int) (hI:CB s k a c e u v i_) (hx:Bj ⟨t_,p_,h_,n_,al_,zl_,x0_,x1_,x2_,x3_,x4_,x5_,x6_,x7_⟩ (s)):Yk s k a c e u v i_ t_ p_ h_ n_ al_ zl_ x0_ x1_ x2_ x3_ x4_ x5_ x6_ x7_ (λt_' p_' h_' n_' a_' z_' r0_' r1_' r2_' r3_' r4_' r5_' r6_' r7_' i_'=>Cf s k a c e u v t_' p_' h_' n_' a_' z_' r0_' r1_' r2_' r3_' r4_' r5_' r6_' r7_' i_'∧lx (19,0,0) (20,0,0)):=by
 unfold CB at hI
 unfold Yk
 try unfold CB
 try unfold Cf
 try unfold CE
 try unfold Cb
 try unfold CG
 try unfold Ci
 try unfold CJ
 try unfold Cj
 try unfold CO
 try unfold Cc
 try unfold BV
 try unfold BQ
 try unfold BX
 try unfold BR
 exact ⟨⟨hx,hI⟩,Bo⟩
theorem Ad8 (s:RS) (k a c e u v:Int) (hp0:s.a.length≤1000) (t_ p_ h_:Int) (n_:Nat) (a_ z_:LI) (r0_ r1_ r2_ r3_ r4_ r5_ r6_ r7_ i_:Int) (hI:Cf s k a c e u v t_ p_ h_ n_ a_ z_ r0_ r1_ r2_ r3_ r4_ r5_ r6_ r7_ i_):Yl s k a c e u v t_ p_ h_ n_ a_ z_ r0_ r1_ r2_ r3_ r4_ r5_ r6_ r7_ i_ (λi_'=>CB s k a c e u v i_'∧lx (20,0,0) (19,0,0)) (λt_' p_' h_' n_' a_' z_' r0_' r1_' r2_' r3_' r4_' r5_' r6_' r7_' i_'=>Cf s k a c e u v t_' p_' h_' n_' a_' z_' r0_' r1_' r2_' r3_' r4_' r5_' r6_' r7_' i_'∧lx (19,0,0) (19,0,0)) (λt_' p_' h_' n_' a_' z_' r0_' r1_' r2_' r3_' r4_' r5_' r6_' r7_' w_'=>CE s k a c e u v t_' p_' h_' n_' a_' z_' r0_' r1_' r2_' r3_' r4_' r5_' r6_' r7_' w_'∧lx (18,0,0) (19,0,0)) (λw_'=>Cb s k a c e u v w_'∧lx (17,0,0) (19,0,0)) (λi_'=>CG s k a c e u v i_'∧lx (16,0,0) (19,0,0)) (λt_' p_' h_' n_' a_' z_' r0_' r1_' r2_' r3_' r4_' r5_' r6_' r7_' i_'=>Ci s k a c e u v t_' p_' h_' n_' a_' z_' r0_' r1_' r2_' r3_' r4_' r5_' r6_' r7_' i_'∧lx (15,0,0) (19,0,0)) (λi_'=>CJ s k a c e u v i_'∧lx (14,0,0) (19,0,0)) (λt_' p_' h_' n_' a_' z_' r0_' r1_' r2_' r3_' r4_' r5_' r6_' r7_' i_'=>Cj s k a c e u v t_' p_' h_' n_' a_' z_' r0_' r1_' r2_' r3_' r4_' r5_' r6_' r7_' i_'∧lx (13,0,0) (19,0,0)) (λt_' p_' h_' n_' a_' z_' r0_' r1_' r2_' r3_' r4_' r5_' r6_' r7_' i_' w_'=>CO s k a c e u v t_' p_' h_' n_' a_' z_' r0_' r1_' r2_' r3_' r4_' r5_' r6_' r7_' i_' w_'∧lx (12,0,0) (19,0,0)) (λi_' w_'=>Cc s k a c e u v i_' w_'∧lx (11,0,0) (19,0,0)) (λi_'=>BV s k a c e u v i_'∧lx (10,0,0) (19,0,0)) (λt_' p_' h_' n_' a_' z_' r0_' r1_' r2_' r3_' r4_' r5_' r6_' r7_' i_'=>BQ s k a c e u v t_' p_' h_' n_' a_' z_' r0_' r1_' r2_' r3_' r4_' r5_' r6_' r7_' i_'∧lx (9,0,0) (19,0,0)) (λi_'=>BX s k a c e u v i_'∧lx (8,0,0) (19,0,0)) (λt_' p_' h_' n_' a_' z_' r0_' r1_' r2_' r3_' r4_' r5_' r6_' r7_' i_'=>BR s k a c e u v t_' p_' h_' n_' a_' z_' r0_' r1_' r2_' r3_' r4_' r5_' r6_' r7_' i_'∧lx (7,0,0) (19,0,0)) (λr__=>r__=(AZ s k a c e u v)) (λt_ p_ h_ n_ al_ zl_ x0_ x1_ x2_ x3_ x4_ x5_ x6_ x7_ r_=>Bj ⟨t_,p_,h_,n_,al_,zl_,x0_,x1_,x2_,x3_,x4_,x5_,x6_,x7_⟩ (s)∧r_=(AZ s k a c e u v)):=by
 unfold Cf at hI
 unfold Yl
 try unfold CB
 try unfold Cf
 try unfold CE
 try unfold Cb
 try unfold CG
 try unfold Ci
 try unfold CJ
 try unfold Cj
 try unfold CO
 try unfold Cc
 try unfold BV
 try unfold BQ
 try unfold BX
 try unfold BR
 obtain ⟨hR,rfl,hr,hg⟩:=hI
 exact ⟨⟨hR,rfl,hr,hg,by rw [hR.eq]⟩,Bo⟩
theorem Rl (s:RS) (k a c e u v:Int) (hp0:s.a.length≤1000) (t_ p_ h_:Int) (n_:Nat) (a_ z_:LI) (r0_ r1_ r2_ r3_ r4_ r5_ r6_ r7_ w_:Int) (hI:CE s k a c e u v t_ p_ h_ n_ a_ z_ r0_ r1_ r2_ r3_ r4_ r5_ r6_ r7_ w_):(Bj ⟨t_,p_,h_,n_,a_,z_,r0_,r1_,r2_,r3_,r4_,r5_,r6_,r7_⟩ s)∧Ql s k a c e u v t_ p_ h_ n_ a_ z_ r0_ r1_ r2_ r3_ r4_ r5_ r6_ r7_ w_ (λw_'=>Cb s k a c e u v w_'∧lx (17,0,0) (18,0,0)):=by
 unfold CE at hI
 unfold Ql
 try unfold CB
 try unfold Cf
 try unfold CE
 try unfold Cb
 try unfold CG
 try unfold Ci
 try unfold CJ
 try unfold Cj
 try unfold CO
 try unfold Cc
 try unfold BV
 try unfold BQ
 try unfold BX
 try unfold BR
 obtain ⟨hR,hI⟩:=hI
 exact ⟨hR,hI,Bo⟩
theorem Ad9 (s:RS) (k a c e u v:Int) (hp0:s.a.length≤1000) (w_:Int) (hI:Cb s k a c e u v w_):Ym s k a c e u v w_ (λi_'=>CB s k a c e u v i_'∧lx (20,0,0) (17,0,0)) (λt_' p_' h_' n_' a_' z_' r0_' r1_' r2_' r3_' r4_' r5_' r6_' r7_' i_'=>Cf s k a c e u v t_' p_' h_' n_' a_' z_' r0_' r1_' r2_' r3_' r4_' r5_' r6_' r7_' i_'∧lx (19,0,0) (17,0,0)) (λt_' p_' h_' n_' a_' z_' r0_' r1_' r2_' r3_' r4_' r5_' r6_' r7_' w_'=>CE s k a c e u v t_' p_' h_' n_' a_' z_' r0_' r1_' r2_' r3_' r4_' r5_' r6_' r7_' w_'∧lx (18,0,0) (17,0,0)) (λw_'=>Cb s k a c e u v w_'∧lx (17,0,0) (17,0,0)) (λi_'=>CG s k a c e u v i_'∧lx (16,0,0) (17,0,0)) (λt_' p_' h_' n_' a_' z_' r0_' r1_' r2_' r3_' r4_' r5_' r6_' r7_' i_'=>Ci s k a c e u v t_' p_' h_' n_' a_' z_' r0_' r1_' r2_' r3_' r4_' r5_' r6_' r7_' i_'∧lx (15,0,0) (17,0,0)) (λi_'=>CJ s k a c e u v i_'∧lx (14,0,0) (17,0,0)) (λt_' p_' h_' n_' a_' z_' r0_' r1_' r2_' r3_' r4_' r5_' r6_' r7_' i_'=>Cj s k a c e u v t_' p_' h_' n_' a_' z_' r0_' r1_' r2_' r3_' r4_' r5_' r6_' r7_' i_'∧lx (13,0,0) (17,0,0)) (λt_' p_' h_' n_' a_' z_' r0_' r1_' r2_' r3_' r4_' r5_' r6_' r7_' i_' w_'=>CO s k a c e u v t_' p_' h_' n_' a_' z_' r0_' r1_' r2_' r3_' r4_' r5_' r6_' r7_' i_' w_'∧lx (12,0,0) (17,0,0)) (λi_' w_'=>Cc s k a c e u v i_' w_'∧lx (11,0,0) (17,0,0)) (λi_'=>BV s k a c e u v i_'∧lx (10,0,0) (17,0,0)) (λt_' p_' h_' n_' a_' z_' r0_' r1_' r2_' r3_' r4_' r5_' r6_' r7_' i_'=>BQ s k a c e u v t_' p_' h_' n_' a_' z_' r0_' r1_' r2_' r3_' r4_' r5_' r6_' r7_' i_'∧lx (9,0,0) (17,0,0)) (λi_'=>BX s k a c e u v i_'∧lx (8,0,0) (17,0,0)) (λt_' p_' h_' n_' a_' z_' r0_' r1_' r2_' r3_' r4_' r5_' r6_' r7_' i_'=>BR s k a c e u v t_' p_' h_' n_' a_' z_' r0_' r1_' r2_' r3_' r4_' r5_' r6_' r7_' i_'∧lx (7,0,0) (17,0,0)) (λr__=>r__=(AZ s k a c e u v)) (λt_ p_ h_ n_ al_ zl_ x0_ x1_ x2_ x3_ x4_ x5_ x6_ x7_ r_=>Bj ⟨t_,p_,h_,n_,al_,zl_,x0_,x1_,x2_,x3_,x4_,x5_,x6_,x7_⟩ (s)∧r_=(AZ s k a c e u v)):=by
 unfold Cb at hI
 unfold Ym WL
 try unfold CB
 try unfold Cf
 try unfold CE
 try unfold Cb
 try unfold CG
 try unfold Ci
 try unfold CJ
 try unfold Cj
 try unfold CO
 try unfold Cc
 try unfold BV
 try unfold BQ
 try unfold BX
 try unfold BR
 obtain ⟨rfl,hr,hg,rfl⟩:=hI
 rintro r rfl
 refine ⟨hp0, λ_=>?_⟩
 show _=AZ s 1 a c e u v
 unfold AZ;rw [hr,hg];rfl
theorem AdA (s:RS) (k a c e u v:Int) (hp0:s.a.length≤1000) (i_ t_ p_ h_:Int) (n_:Nat) (al_ zl_:LI) (x0_ x1_ x2_ x3_ x4_ x5_ x6_ x7_:Int) (hI:CG s k a c e u v i_) (hx:Bj ⟨t_,p_,h_,n_,al_,zl_,x0_,x1_,x2_,x3_,x4_,x5_,x6_,x7_⟩ (s)):Yn s k a c e u v i_ t_ p_ h_ n_ al_ zl_ x0_ x1_ x2_ x3_ x4_ x5_ x6_ x7_ (λt_' p_' h_' n_' a_' z_' r0_' r1_' r2_' r3_' r4_' r5_' r6_' r7_' i_'=>Ci s k a c e u v t_' p_' h_' n_' a_' z_' r0_' r1_' r2_' r3_' r4_' r5_' r6_' r7_' i_'∧lx (15,0,0) (16,0,0)):=by
 unfold CG at hI
 unfold Yn
 try unfold CB
 try unfold Cf
 try unfold CE
 try unfold Cb
 try unfold CG
 try unfold Ci
 try unfold CJ
 try unfold Cj
 try unfold CO
 try unfold Cc
 try unfold BV
 try unfold BQ
 try unfold BX
 try unfold BR
 exact ⟨⟨hx,hI⟩,Bo⟩
theorem AdB (s:RS) (k a c e u v:Int) (hp0:s.a.length≤1000) (t_ p_ h_:Int) (n_:Nat) (a_ z_:LI) (r0_ r1_ r2_ r3_ r4_ r5_ r6_ r7_ i_:Int) (hI:Ci s k a c e u v t_ p_ h_ n_ a_ z_ r0_ r1_ r2_ r3_ r4_ r5_ r6_ r7_ i_):Yo s k a c e u v t_ p_ h_ n_ a_ z_ r0_ r1_ r2_ r3_ r4_ r5_ r6_ r7_ i_ (λi_'=>CB s k a c e u v i_'∧lx (20,0,0) (15,0,0)) (λt_' p_' h_' n_' a_' z_' r0_' r1_' r2_' r3_' r4_' r5_' r6_' r7_' i_'=>Cf s k a c e u v t_' p_' h_' n_' a_' z_' r0_' r1_' r2_' r3_' r4_' r5_' r6_' r7_' i_'∧lx (19,0,0) (15,0,0)) (λt_' p_' h_' n_' a_' z_' r0_' r1_' r2_' r3_' r4_' r5_' r6_' r7_' w_'=>CE s k a c e u v t_' p_' h_' n_' a_' z_' r0_' r1_' r2_' r3_' r4_' r5_' r6_' r7_' w_'∧lx (18,0,0) (15,0,0)) (λw_'=>Cb s k a c e u v w_'∧lx (17,0,0) (15,0,0)) (λi_'=>CG s k a c e u v i_'∧lx (16,0,0) (15,0,0)) (λt_' p_' h_' n_' a_' z_' r0_' r1_' r2_' r3_' r4_' r5_' r6_' r7_' i_'=>Ci s k a c e u v t_' p_' h_' n_' a_' z_' r0_' r1_' r2_' r3_' r4_' r5_' r6_' r7_' i_'∧lx (15,0,0) (15,0,0)) (λi_'=>CJ s k a c e u v i_'∧lx (14,0,0) (15,0,0)) (λt_' p_' h_' n_' a_' z_' r0_' r1_' r2_' r3_' r4_' r5_' r6_' r7_' i_'=>Cj s k a c e u v t_' p_' h_' n_' a_' z_' r0_' r1_' r2_' r3_' r4_' r5_' r6_' r7_' i_'∧lx (13,0,0) (15,0,0)) (λt_' p_' h_' n_' a_' z_' r0_' r1_' r2_' r3_' r4_' r5_' r6_' r7_' i_' w_'=>CO s k a c e u v t_' p_' h_' n_' a_' z_' r0_' r1_' r2_' r3_' r4_' r5_' r6_' r7_' i_' w_'∧lx (12,0,0) (15,0,0)) (λi_' w_'=>Cc s k a c e u v i_' w_'∧lx (11,0,0) (15,0,0)) (λi_'=>BV s k a c e u v i_'∧lx (10,0,0) (15,0,0)) (λt_' p_' h_' n_' a_' z_' r0_' r1_' r2_' r3_' r4_' r5_' r6_' r7_' i_'=>BQ s k a c e u v t_' p_' h_' n_' a_' z_' r0_' r1_' r2_' r3_' r4_' r5_' r6_' r7_' i_'∧lx (9,0,0) (15,0,0)) (λi_'=>BX s k a c e u v i_'∧lx (8,0,0) (15,0,0)) (λt_' p_' h_' n_' a_' z_' r0_' r1_' r2_' r3_' r4_' r5_' r6_' r7_' i_'=>BR s k a c e u v t_' p_' h_' n_' a_' z_' r0_' r1_' r2_' r3_' r4_' r5_' r6_' r7_' i_'∧lx (7,0,0) (15,0,0)) (λr__=>r__=(AZ s k a c e u v)) (λt_ p_ h_ n_ al_ zl_ x0_ x1_ x2_ x3_ x4_ x5_ x6_ x7_ r_=>Bj ⟨t_,p_,h_,n_,al_,zl_,x0_,x1_,x2_,x3_,x4_,x5_,x6_,x7_⟩ (s)∧r_=(AZ s k a c e u v)):=by
 unfold Ci at hI
 unfold Yo
 try unfold CB
 try unfold Cf
 try unfold CE
 try unfold Cb
 try unfold CG
 try unfold Ci
 try unfold CJ
 try unfold Cj
 try unfold CO
 try unfold Cc
 try unfold BV
 try unfold BQ
 try unfold BX
 try unfold BR
 obtain ⟨hR,rfl,hi,h0,hh,hr,hg⟩:=hI
 have e:=hR.eq
 subst e
 have hn:n_=a_.length:=hR.n
 subst hn
 subst hi
 have hlt:(BK a_ a).toNat<a_.length:=AnD h0
 refine ⟨⟨h0,by show BK a_ a<_;omega⟩, λ_=>⟨hR,?_⟩⟩
 show _=AZ _ 2 a c _ u v
 unfold AZ;rw [hr,hg]
 show _=(bif F7 _ a then _ else _)
 rw [hh];rfl
theorem AdC (s:RS) (k a c e u v:Int) (hp0:s.a.length≤1000) (i_ t_ p_ h_:Int) (n_:Nat) (al_ zl_:LI) (x0_ x1_ x2_ x3_ x4_ x5_ x6_ x7_:Int) (hI:CJ s k a c e u v i_) (hx:Bj ⟨t_,p_,h_,n_,al_,zl_,x0_,x1_,x2_,x3_,x4_,x5_,x6_,x7_⟩ (s)):Yp s k a c e u v i_ t_ p_ h_ n_ al_ zl_ x0_ x1_ x2_ x3_ x4_ x5_ x6_ x7_ (λt_' p_' h_' n_' a_' z_' r0_' r1_' r2_' r3_' r4_' r5_' r6_' r7_' i_'=>Cj s k a c e u v t_' p_' h_' n_' a_' z_' r0_' r1_' r2_' r3_' r4_' r5_' r6_' r7_' i_'∧lx (13,0,0) (14,0,0)):=by
 unfold CJ at hI
 unfold Yp
 try unfold CB
 try unfold Cf
 try unfold CE
 try unfold Cb
 try unfold CG
 try unfold Ci
 try unfold CJ
 try unfold Cj
 try unfold CO
 try unfold Cc
 try unfold BV
 try unfold BQ
 try unfold BX
 try unfold BR
 exact ⟨⟨hx,hI⟩,Bo⟩
theorem AdD (s:RS) (k a c e u v:Int) (hp0:s.a.length≤1000) (t_ p_ h_:Int) (n_:Nat) (a_ z_:LI) (r0_ r1_ r2_ r3_ r4_ r5_ r6_ r7_ i_:Int) (hI:Cj s k a c e u v t_ p_ h_ n_ a_ z_ r0_ r1_ r2_ r3_ r4_ r5_ r6_ r7_ i_):Yq s k a c e u v t_ p_ h_ n_ a_ z_ r0_ r1_ r2_ r3_ r4_ r5_ r6_ r7_ i_ (λi_'=>CB s k a c e u v i_'∧lx (20,0,0) (13,0,0)) (λt_' p_' h_' n_' a_' z_' r0_' r1_' r2_' r3_' r4_' r5_' r6_' r7_' i_'=>Cf s k a c e u v t_' p_' h_' n_' a_' z_' r0_' r1_' r2_' r3_' r4_' r5_' r6_' r7_' i_'∧lx (19,0,0) (13,0,0)) (λt_' p_' h_' n_' a_' z_' r0_' r1_' r2_' r3_' r4_' r5_' r6_' r7_' w_'=>CE s k a c e u v t_' p_' h_' n_' a_' z_' r0_' r1_' r2_' r3_' r4_' r5_' r6_' r7_' w_'∧lx (18,0,0) (13,0,0)) (λw_'=>Cb s k a c e u v w_'∧lx (17,0,0) (13,0,0)) (λi_'=>CG s k a c e u v i_'∧lx (16,0,0) (13,0,0)) (λt_' p_' h_' n_' a_' z_' r0_' r1_' r2_' r3_' r4_' r5_' r6_' r7_' i_'=>Ci s k a c e u v t_' p_' h_' n_' a_' z_' r0_' r1_' r2_' r3_' r4_' r5_' r6_' r7_' i_'∧lx (15,0,0) (13,0,0)) (λi_'=>CJ s k a c e u v i_'∧lx (14,0,0) (13,0,0)) (λt_' p_' h_' n_' a_' z_' r0_' r1_' r2_' r3_' r4_' r5_' r6_' r7_' i_'=>Cj s k a c e u v t_' p_' h_' n_' a_' z_' r0_' r1_' r2_' r3_' r4_' r5_' r6_' r7_' i_'∧lx (13,0,0) (13,0,0)) (λt_' p_' h_' n_' a_' z_' r0_' r1_' r2_' r3_' r4_' r5_' r6_' r7_' i_' w_'=>CO s k a c e u v t_' p_' h_' n_' a_' z_' r0_' r1_' r2_' r3_' r4_' r5_' r6_' r7_' i_' w_'∧lx (12,0,0) (13,0,0)) (λi_' w_'=>Cc s k a c e u v i_' w_'∧lx (11,0,0) (13,0,0)) (λi_'=>BV s k a c e u v i_'∧lx (10,0,0) (13,0,0)) (λt_' p_' h_' n_' a_' z_' r0_' r1_' r2_' r3_' r4_' r5_' r6_' r7_' i_'=>BQ s k a c e u v t_' p_' h_' n_' a_' z_' r0_' r1_' r2_' r3_' r4_' r5_' r6_' r7_' i_'∧lx (9,0,0) (13,0,0)) (λi_'=>BX s k a c e u v i_'∧lx (8,0,0) (13,0,0)) (λt_' p_' h_' n_' a_' z_' r0_' r1_' r2_' r3_' r4_' r5_' r6_' r7_' i_'=>BR s k a c e u v t_' p_' h_' n_' a_' z_' r0_' r1_' r2_' r3_' r4_' r5_' r6_' r7_' i_'∧lx (7,0,0) (13,0,0)) (λr__=>r__=(AZ s k a c e u v)) (λt_ p_ h_ n_ al_ zl_ x0_ x1_ x2_ x3_ x4_ x5_ x6_ x7_ r_=>Bj ⟨t_,p_,h_,n_,al_,zl_,x0_,x1_,x2_,x3_,x4_,x5_,x6_,x7_⟩ (s)∧r_=(AZ s k a c e u v)):=by
 unfold Cj at hI
 unfold Yq
 try unfold CB
 try unfold Cf
 try unfold CE
 try unfold Cb
 try unfold CG
 try unfold Ci
 try unfold CJ
 try unfold Cj
 try unfold CO
 try unfold Cc
 try unfold BV
 try unfold BQ
 try unfold BX
 try unfold BR
 obtain ⟨hR,rfl,hi,hr,hg⟩:=hI
 exact ⟨⟨hR,rfl,hi,hr,hg,by rw [hR.eq]⟩,Bo⟩
theorem Rn (s:RS) (k a c e u v:Int) (hp0:s.a.length≤1000) (t_ p_ h_:Int) (n_:Nat) (a_ z_:LI) (r0_ r1_ r2_ r3_ r4_ r5_ r6_ r7_ i_ w_:Int) (hI:CO s k a c e u v t_ p_ h_ n_ a_ z_ r0_ r1_ r2_ r3_ r4_ r5_ r6_ r7_ i_ w_):(Bj ⟨t_,p_,h_,n_,a_,z_,r0_,r1_,r2_,r3_,r4_,r5_,r6_,r7_⟩ s)∧Qm s k a c e u v t_ p_ h_ n_ a_ z_ r0_ r1_ r2_ r3_ r4_ r5_ r6_ r7_ i_ w_ (λi_' w_'=>Cc s k a c e u v i_' w_'∧lx (11,0,0) (12,0,0)):=by
 unfold CO at hI
 unfold Qm
 try unfold CB
 try unfold Cf
 try unfold CE
 try unfold Cb
 try unfold CG
 try unfold Ci
 try unfold CJ
 try unfold Cj
 try unfold CO
 try unfold Cc
 try unfold BV
 try unfold BQ
 try unfold BX
 try unfold BR
 obtain ⟨hR,hI⟩:=hI
 exact ⟨hR,hI,Bo⟩
theorem AdE (s:RS) (k a c e u v:Int) (hp0:s.a.length≤1000) (i_ w_:Int) (hI:Cc s k a c e u v i_ w_):Yr s k a c e u v i_ w_ (λi_'=>CB s k a c e u v i_'∧lx (20,0,0) (11,0,0)) (λt_' p_' h_' n_' a_' z_' r0_' r1_' r2_' r3_' r4_' r5_' r6_' r7_' i_'=>Cf s k a c e u v t_' p_' h_' n_' a_' z_' r0_' r1_' r2_' r3_' r4_' r5_' r6_' r7_' i_'∧lx (19,0,0) (11,0,0)) (λt_' p_' h_' n_' a_' z_' r0_' r1_' r2_' r3_' r4_' r5_' r6_' r7_' w_'=>CE s k a c e u v t_' p_' h_' n_' a_' z_' r0_' r1_' r2_' r3_' r4_' r5_' r6_' r7_' w_'∧lx (18,0,0) (11,0,0)) (λw_'=>Cb s k a c e u v w_'∧lx (17,0,0) (11,0,0)) (λi_'=>CG s k a c e u v i_'∧lx (16,0,0) (11,0,0)) (λt_' p_' h_' n_' a_' z_' r0_' r1_' r2_' r3_' r4_' r5_' r6_' r7_' i_'=>Ci s k a c e u v t_' p_' h_' n_' a_' z_' r0_' r1_' r2_' r3_' r4_' r5_' r6_' r7_' i_'∧lx (15,0,0) (11,0,0)) (λi_'=>CJ s k a c e u v i_'∧lx (14,0,0) (11,0,0)) (λt_' p_' h_' n_' a_' z_' r0_' r1_' r2_' r3_' r4_' r5_' r6_' r7_' i_'=>Cj s k a c e u v t_' p_' h_' n_' a_' z_' r0_' r1_' r2_' r3_' r4_' r5_' r6_' r7_' i_'∧lx (13,0,0) (11,0,0)) (λt_' p_' h_' n_' a_' z_' r0_' r1_' r2_' r3_' r4_' r5_' r6_' r7_' i_' w_'=>CO s k a c e u v t_' p_' h_' n_' a_' z_' r0_' r1_' r2_' r3_' r4_' r5_' r6_' r7_' i_' w_'∧lx (12,0,0) (11,0,0)) (λi_' w_'=>Cc s k a c e u v i_' w_'∧lx (11,0,0) (11,0,0)) (λi_'=>BV s k a c e u v i_'∧lx (10,0,0) (11,0,0)) (λt_' p_' h_' n_' a_' z_' r0_' r1_' r2_' r3_' r4_' r5_' r6_' r7_' i_'=>BQ s k a c e u v t_' p_' h_' n_' a_' z_' r0_' r1_' r2_' r3_' r4_' r5_' r6_' r7_' i_'∧lx (9,0,0) (11,0,0)) (λi_'=>BX s k a c e u v i_'∧lx (8,0,0) (11,0,0)) (λt_' p_' h_' n_' a_' z_' r0_' r1_' r2_' r3_' r4_' r5_' r6_' r7_' i_'=>BR s k a c e u v t_' p_' h_' n_' a_' z_' r0_' r1_' r2_' r3_' r4_' r5_' r6_' r7_' i_'∧lx (7,0,0) (11,0,0)) (λr__=>r__=(AZ s k a c e u v)) (λt_ p_ h_ n_ al_ zl_ x0_ x1_ x2_ x3_ x4_ x5_ x6_ x7_ r_=>Bj ⟨t_,p_,h_,n_,al_,zl_,x0_,x1_,x2_,x3_,x4_,x5_,x6_,x7_⟩ (s)∧r_=(AZ s k a c e u v)):=by
 unfold Cc at hI
 unfold Yr WL
 try unfold CB
 try unfold Cf
 try unfold CE
 try unfold Cb
 try unfold CG
 try unfold Ci
 try unfold CJ
 try unfold Cj
 try unfold CO
 try unfold Cc
 try unfold BV
 try unfold BQ
 try unfold BX
 try unfold BR
 obtain ⟨rfl,rfl,hr,hg,rfl⟩:=hI
 refine ⟨λh=>?_, λh=>?_⟩
 ·rintro r rfl
  refine ⟨hp0, λ_=>?_⟩
  show _=AZ s 3 a c e u v
  unfold AZ;rw [hr,hg]
  show _=(bif u==a then _ else _)
  rw [h];rfl
 ·rintro r rfl
  refine ⟨hp0, λ_=>?_⟩
  show _=AZ s 3 a c e u v
  unfold AZ;rw [hr,hg]
  show _=(bif u==a then _ else _)
  rw [h];rfl
theorem Ab4 (s:RS) (k a c e u v:Int) (hp0:s.a.length≤1000) (i_ t_ p_ h_:Int) (n_:Nat) (al_ zl_:LI) (x0_ x1_ x2_ x3_ x4_ x5_ x6_ x7_:Int) (hI:BV s k a c e u v i_) (hx:Bj ⟨t_,p_,h_,n_,al_,zl_,x0_,x1_,x2_,x3_,x4_,x5_,x6_,x7_⟩ (s)):VF s k a c e u v i_ t_ p_ h_ n_ al_ zl_ x0_ x1_ x2_ x3_ x4_ x5_ x6_ x7_ (λt_' p_' h_' n_' a_' z_' r0_' r1_' r2_' r3_' r4_' r5_' r6_' r7_' i_'=>BQ s k a c e u v t_' p_' h_' n_' a_' z_' r0_' r1_' r2_' r3_' r4_' r5_' r6_' r7_' i_'∧lx (9,0,0) (10,0,0)):=by
 unfold BV at hI
 unfold VF
 try unfold CB
 try unfold Cf
 try unfold CE
 try unfold Cb
 try unfold CG
 try unfold Ci
 try unfold CJ
 try unfold Cj
 try unfold CO
 try unfold Cc
 try unfold BV
 try unfold BQ
 try unfold BX
 try unfold BR
 exact ⟨⟨hx,hI⟩,Bo⟩
theorem Ab5 (s:RS) (k a c e u v:Int) (hp0:s.a.length≤1000) (t_ p_ h_:Int) (n_:Nat) (a_ z_:LI) (r0_ r1_ r2_ r3_ r4_ r5_ r6_ r7_ i_:Int) (hI:BQ s k a c e u v t_ p_ h_ n_ a_ z_ r0_ r1_ r2_ r3_ r4_ r5_ r6_ r7_ i_):VG s k a c e u v t_ p_ h_ n_ a_ z_ r0_ r1_ r2_ r3_ r4_ r5_ r6_ r7_ i_ (λi_'=>CB s k a c e u v i_'∧lx (20,0,0) (9,0,0)) (λt_' p_' h_' n_' a_' z_' r0_' r1_' r2_' r3_' r4_' r5_' r6_' r7_' i_'=>Cf s k a c e u v t_' p_' h_' n_' a_' z_' r0_' r1_' r2_' r3_' r4_' r5_' r6_' r7_' i_'∧lx (19,0,0) (9,0,0)) (λt_' p_' h_' n_' a_' z_' r0_' r1_' r2_' r3_' r4_' r5_' r6_' r7_' w_'=>CE s k a c e u v t_' p_' h_' n_' a_' z_' r0_' r1_' r2_' r3_' r4_' r5_' r6_' r7_' w_'∧lx (18,0,0) (9,0,0)) (λw_'=>Cb s k a c e u v w_'∧lx (17,0,0) (9,0,0)) (λi_'=>CG s k a c e u v i_'∧lx (16,0,0) (9,0,0)) (λt_' p_' h_' n_' a_' z_' r0_' r1_' r2_' r3_' r4_' r5_' r6_' r7_' i_'=>Ci s k a c e u v t_' p_' h_' n_' a_' z_' r0_' r1_' r2_' r3_' r4_' r5_' r6_' r7_' i_'∧lx (15,0,0) (9,0,0)) (λi_'=>CJ s k a c e u v i_'∧lx (14,0,0) (9,0,0)) (λt_' p_' h_' n_' a_' z_' r0_' r1_' r2_' r3_' r4_' r5_' r6_' r7_' i_'=>Cj s k a c e u v t_' p_' h_' n_' a_' z_' r0_' r1_' r2_' r3_' r4_' r5_' r6_' r7_' i_'∧lx (13,0,0) (9,0,0)) (λt_' p_' h_' n_' a_' z_' r0_' r1_' r2_' r3_' r4_' r5_' r6_' r7_' i_' w_'=>CO s k a c e u v t_' p_' h_' n_' a_' z_' r0_' r1_' r2_' r3_' r4_' r5_' r6_' r7_' i_' w_'∧lx (12,0,0) (9,0,0)) (λi_' w_'=>Cc s k a c e u v i_' w_'∧lx (11,0,0) (9,0,0)) (λi_'=>BV s k a c e u v i_'∧lx (10,0,0) (9,0,0)) (λt_' p_' h_' n_' a_' z_' r0_' r1_' r2_' r3_' r4_' r5_' r6_' r7_' i_'=>BQ s k a c e u v t_' p_' h_' n_' a_' z_' r0_' r1_' r2_' r3_' r4_' r5_' r6_' r7_' i_'∧lx (9,0,0) (9,0,0)) (λi_'=>BX s k a c e u v i_'∧lx (8,0,0) (9,0,0)) (λt_' p_' h_' n_' a_' z_' r0_' r1_' r2_' r3_' r4_' r5_' r6_' r7_' i_'=>BR s k a c e u v t_' p_' h_' n_' a_' z_' r0_' r1_' r2_' r3_' r4_' r5_' r6_' r7_' i_'∧lx (7,0,0) (9,0,0)) (λr__=>r__=(AZ s k a c e u v)) (λt_ p_ h_ n_ al_ zl_ x0_ x1_ x2_ x3_ x4_ x5_ x6_ x7_ r_=>Bj ⟨t_,p_,h_,n_,al_,zl_,x0_,x1_,x2_,x3_,x4_,x5_,x6_,x7_⟩ (s)∧r_=(AZ s k a c e u v)):=by
 unfold BQ at hI
 unfold VG
 try unfold CB
 try unfold Cf
 try unfold CE
 try unfold Cb
 try unfold CG
 try unfold Ci
 try unfold CJ
 try unfold Cj
 try unfold CO
 try unfold Cc
 try unfold BV
 try unfold BQ
 try unfold BX
 try unfold BR
 obtain ⟨hR,rfl,hi,h0,hr,hg⟩:=hI
 have e:=hR.eq
 subst e
 have hn:n_=a_.length:=hR.n
 subst hn
 subst hi
 have hlt:(BK a_ a).toNat<a_.length:=AnD h0
 refine ⟨⟨h0,by show BK a_ a<_;omega⟩, λ_=>⟨hR,?_⟩⟩
 show _=AZ _ 7 a c _ u v
 unfold AZ;rw [hr,hg];rfl
theorem Ab6 (s:RS) (k a c e u v:Int) (hp0:s.a.length≤1000) (i_ t_ p_ h_:Int) (n_:Nat) (al_ zl_:LI) (x0_ x1_ x2_ x3_ x4_ x5_ x6_ x7_:Int) (hI:BX s k a c e u v i_) (hx:Bj ⟨t_,p_,h_,n_,al_,zl_,x0_,x1_,x2_,x3_,x4_,x5_,x6_,x7_⟩ (s)):VH s k a c e u v i_ t_ p_ h_ n_ al_ zl_ x0_ x1_ x2_ x3_ x4_ x5_ x6_ x7_ (λt_' p_' h_' n_' a_' z_' r0_' r1_' r2_' r3_' r4_' r5_' r6_' r7_' i_'=>BR s k a c e u v t_' p_' h_' n_' a_' z_' r0_' r1_' r2_' r3_' r4_' r5_' r6_' r7_' i_'∧lx (7,0,0) (8,0,0)):=by
 unfold BX at hI
 unfold VH
 try unfold CB
 try unfold Cf
 try unfold CE
 try unfold Cb
 try unfold CG
 try unfold Ci
 try unfold CJ
 try unfold Cj
 try unfold CO
 try unfold Cc
 try unfold BV
 try unfold BQ
 try unfold BX
 try unfold BR
 exact ⟨⟨hx,hI⟩,Bo⟩
theorem Ab7 (s:RS) (k a c e u v:Int) (hp0:s.a.length≤1000) (t_ p_ h_:Int) (n_:Nat) (a_ z_:LI) (r0_ r1_ r2_ r3_ r4_ r5_ r6_ r7_ i_:Int) (hI:BR s k a c e u v t_ p_ h_ n_ a_ z_ r0_ r1_ r2_ r3_ r4_ r5_ r6_ r7_ i_):VI s k a c e u v t_ p_ h_ n_ a_ z_ r0_ r1_ r2_ r3_ r4_ r5_ r6_ r7_ i_ (λi_'=>CB s k a c e u v i_'∧lx (20,0,0) (7,0,0)) (λt_' p_' h_' n_' a_' z_' r0_' r1_' r2_' r3_' r4_' r5_' r6_' r7_' i_'=>Cf s k a c e u v t_' p_' h_' n_' a_' z_' r0_' r1_' r2_' r3_' r4_' r5_' r6_' r7_' i_'∧lx (19,0,0) (7,0,0)) (λt_' p_' h_' n_' a_' z_' r0_' r1_' r2_' r3_' r4_' r5_' r6_' r7_' w_'=>CE s k a c e u v t_' p_' h_' n_' a_' z_' r0_' r1_' r2_' r3_' r4_' r5_' r6_' r7_' w_'∧lx (18,0,0) (7,0,0)) (λw_'=>Cb s k a c e u v w_'∧lx (17,0,0) (7,0,0)) (λi_'=>CG s k a c e u v i_'∧lx (16,0,0) (7,0,0)) (λt_' p_' h_' n_' a_' z_' r0_' r1_' r2_' r3_' r4_' r5_' r6_' r7_' i_'=>Ci s k a c e u v t_' p_' h_' n_' a_' z_' r0_' r1_' r2_' r3_' r4_' r5_' r6_' r7_' i_'∧lx (15,0,0) (7,0,0)) (λi_'=>CJ s k a c e u v i_'∧lx (14,0,0) (7,0,0)) (λt_' p_' h_' n_' a_' z_' r0_' r1_' r2_' r3_' r4_' r5_' r6_' r7_' i_'=>Cj s k a c e u v t_' p_' h_' n_' a_' z_' r0_' r1_' r2_' r3_' r4_' r5_' r6_' r7_' i_'∧lx (13,0,0) (7,0,0)) (λt_' p_' h_' n_' a_' z_' r0_' r1_' r2_' r3_' r4_' r5_' r6_' r7_' i_' w_'=>CO s k a c e u v t_' p_' h_' n_' a_' z_' r0_' r1_' r2_' r3_' r4_' r5_' r6_' r7_' i_' w_'∧lx (12,0,0) (7,0,0)) (λi_' w_'=>Cc s k a c e u v i_' w_'∧lx (11,0,0) (7,0,0)) (λi_'=>BV s k a c e u v i_'∧lx (10,0,0) (7,0,0)) (λt_' p_' h_' n_' a_' z_' r0_' r1_' r2_' r3_' r4_' r5_' r6_' r7_' i_'=>BQ s k a c e u v t_' p_' h_' n_' a_' z_' r0_' r1_' r2_' r3_' r4_' r5_' r6_' r7_' i_'∧lx (9,0,0) (7,0,0)) (λi_'=>BX s k a c e u v i_'∧lx (8,0,0) (7,0,0)) (λt_' p_' h_' n_' a_' z_' r0_' r1_' r2_' r3_' r4_' r5_' r6_' r7_' i_'=>BR s k a c e u v t_' p_' h_' n_' a_' z_' r0_' r1_' r2_' r3_' r4_' r5_' r6_' r7_' i_'∧lx (7,0,0) (7,0,0)) (λr__=>r__=(AZ s k a c e u v)) (λt_ p_ h_ n_ al_ zl_ x0_ x1_ x2_ x3_ x4_ x5_ x6_ x7_ r_=>Bj ⟨t_,p_,h_,n_,al_,zl_,x0_,x1_,x2_,x3_,x4_,x5_,x6_,x7_⟩ (s)∧r_=(AZ s k a c e u v)):=by
 unfold BR at hI
 unfold VI
 try unfold CB
 try unfold Cf
 try unfold CE
 try unfold Cb
 try unfold CG
 try unfold Ci
 try unfold CJ
 try unfold Cj
 try unfold CO
 try unfold Cc
 try unfold BV
 try unfold BQ
 try unfold BX
 try unfold BR
 obtain ⟨hR,rfl,hr,hg⟩:=hI
 have e:=hR.eq
 subst e
 have hn:n_=a_.length:=hR.n
 subst hn
 refine ⟨hR,?_⟩
 show _=AZ _ 8 a c _ u v
 unfold AZ;rw [hr,hg];rfl
theorem Yt:DV 15 Ab2:=
 Gg Dg Ik false Uu (I:=[368018900,1678738000,26910098900,95067538900,1504353682000,1521130898900,24338144658900,2999998]) Try.func15 mix (B:=AP Try.f15) (by kernel_rfl) rfl (by kernel_rfl) 400
  λo s k a c e u v hb hp=>have hp0:s.a.length≤1000:=hp _ (.head _);⟨s,s,(AZ s k a c e u v),[⟨some 900,[0,0,1,0,1,0,1,1,1,1],[.code [1,0,1,0,1,0,1,1,1,1], .blk 0, .code [1,1,1,1,1]],[0,4,5,7],[.objk CW ⟨o,0,none⟩ (s), .box 29 [.ic .i64 (k), .ic .i64 (a), .ic .i64 (c)], .box 32 [.ic .i64 (e), .ic .i64 (u), .ic .i64 (v)], .i .i64]⟩,⟨some 900,[0,0,1,0,1,0,1,1,1,1],[.code [1,0,1,0,1,0,1,1,1,1], .blk 0, .code [1,1,1,1,1]],[0,4,5,7],[.boxc o Bq.t Bq.l, .box 29 [.ic .i64 (k), .ic .i64 (a), .ic .i64 (c)], .box 32 [.ic .i64 (e), .ic .i64 (u), .ic .i64 (v)], .i .i64]⟩,⟨some 0,[0,1,0,1,0,1,0,1,1,1,1],[.code [1,1,0,1,0,1,0,1,1,1,1], .blk 0, .code [1,1,1,1,1]],[0,4,5,8],[.boxc o Bq.t Bq.l, .box 29 [.ic .i64 (k), .ic .i64 (a), .ic .i64 (c)], .box 32 [.ic .i64 (e), .ic .i64 (u), .ic .i64 (v)], .i .i64]⟩,⟨some 0,[0,1,0,1,0,1,0,1,1,1,1],[.code [1,1,0,1,0,1,0,1,1,1,1], .blk 0, .code [1,1,1,1,1]],[0,4,5,8],[.objk CW ⟨o,0,none⟩ (s), .box 29 [.ic .i64 (k), .ic .i64 (a), .ic .i64 (c)], .box 32 [.ic .i64 (e), .ic .i64 (u), .ic .i64 (v)], .i .i64]⟩,⟨some 900,[0,1,0,1,1,1,0,1,0,1,1,1,1],[.code [1,1,0,1,1,1,0,1,0,1,1,1,1], .blk 0, .code [1,1,1,1,1]],[0,4,5,7],[.objk CW ⟨o,0,none⟩ (s), .box 29 [.ic .i64 (k), .ic .i64 (a), .ic .i64 (c)], .box 32 [.ic .i64 (e), .ic .i64 (u), .ic .i64 (v)], .i .i64]⟩,⟨some 900,[0,1,0,1,1,1,0,1,0,1,1,1,1],[.code [1,1,0,1,1,1,0,1,0,1,1,1,1], .blk 0, .code [1,1,1,1,1]],[0,4,5,7],[.boxc o Bq.t Bq.l, .box 29 [.ic .i64 (k), .ic .i64 (a), .ic .i64 (c)], .box 32 [.ic .i64 (e), .ic .i64 (u), .ic .i64 (v)], .i .i64]⟩,⟨some 900,[0,0,1,1,1,1,1,0,1,0,1,1,1,1],[.code [1,0,1,1,1,1,1,0,1,0,1,1,1,1], .blk 0, .code [1,1,1,1,1]],[0,4,5,7],[.objk CW ⟨o,0,none⟩ (s), .box 29 [.ic .i64 (k), .ic .i64 (a), .ic .i64 (c)], .box 32 [.ic .i64 (e), .ic .i64 (u), .ic .i64 (v)], .i .i64]⟩,⟨some 900,[0,0,1,1,1,1,1,0,1,0,1,1,1,1],[.code [1,0,1,1,1,1,1,0,1,0,1,1,1,1], .blk 0, .code [1,1,1,1,1]],[0,4,5,7],[.boxc o Bq.t Bq.l, .box 29 [.ic .i64 (k), .ic .i64 (a), .ic .i64 (c)], .box 32 [.ic .i64 (e), .ic .i64 (u), .ic .i64 (v)], .i .i64]⟩,⟨some 0,[0,0,1,0,1,1,1,1,1,0,1,0,1,1,1,1],[.code [1,0,1,0,1,1,1,1,1,0,1,0,1,1,1,1], .code [1,1,0,1,1,1,1,1,0,1,0,1,1,1,1], .blk 0, .code [1,1,1,1,1]],[0,4,5,7,10],[.boxc o Bq.t Bq.l, .box 29 [.ic .i64 (k), .ic .i64 (a), .ic .i64 (c)], .box 32 [.ic .i64 (e), .ic .i64 (u), .ic .i64 (v)], .i .i64, .i .i64]⟩,⟨some 0,[0,0,1,0,1,1,1,1,1,0,1,0,1,1,1,1],[.code [1,0,1,0,1,1,1,1,1,0,1,0,1,1,1,1], .code [1,1,0,1,1,1,1,1,0,1,0,1,1,1,1], .blk 0, .code [1,1,1,1,1]],[0,4,5,7,10],[.objk CW ⟨o,0,none⟩ (s), .box 29 [.ic .i64 (k), .ic .i64 (a), .ic .i64 (c)], .box 32 [.ic .i64 (e), .ic .i64 (u), .ic .i64 (v)], .i .i64, .i .i64]⟩,⟨some 900,[0,0,1,1,1,1,1,1,1,0,1,0,1,1,1,1],[.code [1,0,1,1,1,1,1,1,1,0,1,0,1,1,1,1], .blk 0, .code [1,1,1,1,1]],[0,4,5,7],[.objk CW ⟨o,0,none⟩ (s), .box 29 [.ic .i64 (k), .ic .i64 (a), .ic .i64 (c)], .box 32 [.ic .i64 (e), .ic .i64 (u), .ic .i64 (v)], .i .i64]⟩,⟨some 900,[0,0,1,1,1,1,1,1,1,0,1,0,1,1,1,1],[.code [1,0,1,1,1,1,1,1,1,0,1,0,1,1,1,1], .blk 0, .code [1,1,1,1,1]],[0,4,5,7],[.boxc o Bq.t Bq.l, .box 29 [.ic .i64 (k), .ic .i64 (a), .ic .i64 (c)], .box 32 [.ic .i64 (e), .ic .i64 (u), .ic .i64 (v)], .i .i64]⟩,⟨some 900,[0,0,1,1,1,1,1,1,1,1,1,0,1,0,1,1,1,1],[.code [1,0,1,1,1,1,1,1,1,1,1,0,1,0,1,1,1,1], .blk 0, .code [1,1,1,1,1]],[0,4,5,7],[.objk CW ⟨o,0,none⟩ (s), .box 29 [.ic .i64 (k), .ic .i64 (a), .ic .i64 (c)], .box 32 [.ic .i64 (e), .ic .i64 (u), .ic .i64 (v)], .i .i64]⟩,⟨some 900,[0,0,1,1,1,1,1,1,1,1,1,0,1,0,1,1,1,1],[.code [1,0,1,1,1,1,1,1,1,1,1,0,1,0,1,1,1,1], .blk 0, .code [1,1,1,1,1]],[0,4,5,7],[.boxc o Bq.t Bq.l, .box 29 [.ic .i64 (k), .ic .i64 (a), .ic .i64 (c)], .box 32 [.ic .i64 (e), .ic .i64 (u), .ic .i64 (v)], .i .i64]⟩],[.opn 0 (λ_=>o) 1, .run, .cls 3, .run, .opn 0 (λ_=>o) 5, .run, .opn 0 (λ_=>o) 7, .run, .cls 9, .run, .opn 0 (λ_=>o) 11, .run, .opn 0 (λ_=>o) 13, .run], λj=>iN [Ag (Hd.kd (⟨some 900,[0,0,1,0,1,0,1,1,1,1],[.code [1,0,1,0,1,0,1,1,1,1], .blk 0, .code [1,1,1,1,1]],[0,4,5,7],[.objk CW ⟨o,0,none⟩ (s), .box 29 [.ic .i64 (k), .ic .i64 (a), .ic .i64 (c)], .box 32 [.ic .i64 (e), .ic .i64 (u), .ic .i64 (v)], .i .i64]⟩:Hd Sg)) (λi_'=>CB s k a c e u v i_'),Ag (Hd.kd (⟨some 900,[0,0,1,0,1,0,1,1,1,1],[.code [1,0,1,0,1,0,1,1,1,1], .blk 0, .code [1,1,1,1,1]],[0,4,5,7],[.boxc o Bq.t Bq.l, .box 29 [.ic .i64 (k), .ic .i64 (a), .ic .i64 (c)], .box 32 [.ic .i64 (e), .ic .i64 (u), .ic .i64 (v)], .i .i64]⟩:Hd Sg)) (λt_' p_' h_' n_' a_' z_' r0_' r1_' r2_' r3_' r4_' r5_' r6_' r7_' i_'=>Cf s k a c e u v t_' p_' h_' n_' a_' z_' r0_' r1_' r2_' r3_' r4_' r5_' r6_' r7_' i_'),Ag (Hd.kd (⟨some 0,[0,1,0,1,0,1,0,1,1,1,1],[.code [1,1,0,1,0,1,0,1,1,1,1], .blk 0, .code [1,1,1,1,1]],[0,4,5,8],[.boxc o Bq.t Bq.l, .box 29 [.ic .i64 (k), .ic .i64 (a), .ic .i64 (c)], .box 32 [.ic .i64 (e), .ic .i64 (u), .ic .i64 (v)], .i .i64]⟩:Hd Sg)) (λt_' p_' h_' n_' a_' z_' r0_' r1_' r2_' r3_' r4_' r5_' r6_' r7_' w_'=>CE s k a c e u v t_' p_' h_' n_' a_' z_' r0_' r1_' r2_' r3_' r4_' r5_' r6_' r7_' w_'),Ag (Hd.kd (⟨some 0,[0,1,0,1,0,1,0,1,1,1,1],[.code [1,1,0,1,0,1,0,1,1,1,1], .blk 0, .code [1,1,1,1,1]],[0,4,5,8],[.objk CW ⟨o,0,none⟩ (s), .box 29 [.ic .i64 (k), .ic .i64 (a), .ic .i64 (c)], .box 32 [.ic .i64 (e), .ic .i64 (u), .ic .i64 (v)], .i .i64]⟩:Hd Sg)) (λw_'=>Cb s k a c e u v w_'),Ag (Hd.kd (⟨some 900,[0,1,0,1,1,1,0,1,0,1,1,1,1],[.code [1,1,0,1,1,1,0,1,0,1,1,1,1], .blk 0, .code [1,1,1,1,1]],[0,4,5,7],[.objk CW ⟨o,0,none⟩ (s), .box 29 [.ic .i64 (k), .ic .i64 (a), .ic .i64 (c)], .box 32 [.ic .i64 (e), .ic .i64 (u), .ic .i64 (v)], .i .i64]⟩:Hd Sg)) (λi_'=>CG s k a c e u v i_'),Ag (Hd.kd (⟨some 900,[0,1,0,1,1,1,0,1,0,1,1,1,1],[.code [1,1,0,1,1,1,0,1,0,1,1,1,1], .blk 0, .code [1,1,1,1,1]],[0,4,5,7],[.boxc o Bq.t Bq.l, .box 29 [.ic .i64 (k), .ic .i64 (a), .ic .i64 (c)], .box 32 [.ic .i64 (e), .ic .i64 (u), .ic .i64 (v)], .i .i64]⟩:Hd Sg)) (λt_' p_' h_' n_' a_' z_' r0_' r1_' r2_' r3_' r4_' r5_' r6_' r7_' i_'=>Ci s k a c e u v t_' p_' h_' n_' a_' z_' r0_' r1_' r2_' r3_' r4_' r5_' r6_' r7_' i_'),Ag (Hd.kd (⟨some 900,[0,0,1,1,1,1,1,0,1,0,1,1,1,1],[.code [1,0,1,1,1,1,1,0,1,0,1,1,1,1], .blk 0, .code [1,1,1,1,1]],[0,4,5,7],[.objk CW ⟨o,0,none⟩ (s), .box 29 [.ic .i64 (k), .ic .i64 (a), .ic .i64 (c)], .box 32 [.ic .i64 (e), .ic .i64 (u), .ic .i64 (v)], .i .i64]⟩:Hd Sg)) (λi_'=>CJ s k a c e u v i_'),Ag (Hd.kd (⟨some 900,[0,0,1,1,1,1,1,0,1,0,1,1,1,1],[.code [1,0,1,1,1,1,1,0,1,0,1,1,1,1], .blk 0, .code [1,1,1,1,1]],[0,4,5,7],[.boxc o Bq.t Bq.l, .box 29 [.ic .i64 (k), .ic .i64 (a), .ic .i64 (c)], .box 32 [.ic .i64 (e), .ic .i64 (u), .ic .i64 (v)], .i .i64]⟩:Hd Sg)) (λt_' p_' h_' n_' a_' z_' r0_' r1_' r2_' r3_' r4_' r5_' r6_' r7_' i_'=>Cj s k a c e u v t_' p_' h_' n_' a_' z_' r0_' r1_' r2_' r3_' r4_' r5_' r6_' r7_' i_'),Ag (Hd.kd (⟨some 0,[0,0,1,0,1,1,1,1,1,0,1,0,1,1,1,1],[.code [1,0,1,0,1,1,1,1,1,0,1,0,1,1,1,1], .code [1,1,0,1,1,1,1,1,0,1,0,1,1,1,1], .blk 0, .code [1,1,1,1,1]],[0,4,5,7,10],[.boxc o Bq.t Bq.l, .box 29 [.ic .i64 (k), .ic .i64 (a), .ic .i64 (c)], .box 32 [.ic .i64 (e), .ic .i64 (u), .ic .i64 (v)], .i .i64, .i .i64]⟩:Hd Sg)) (λt_' p_' h_' n_' a_' z_' r0_' r1_' r2_' r3_' r4_' r5_' r6_' r7_' i_' w_'=>CO s k a c e u v t_' p_' h_' n_' a_' z_' r0_' r1_' r2_' r3_' r4_' r5_' r6_' r7_' i_' w_'),Ag (Hd.kd (⟨some 0,[0,0,1,0,1,1,1,1,1,0,1,0,1,1,1,1],[.code [1,0,1,0,1,1,1,1,1,0,1,0,1,1,1,1], .code [1,1,0,1,1,1,1,1,0,1,0,1,1,1,1], .blk 0, .code [1,1,1,1,1]],[0,4,5,7,10],[.objk CW ⟨o,0,none⟩ (s), .box 29 [.ic .i64 (k), .ic .i64 (a), .ic .i64 (c)], .box 32 [.ic .i64 (e), .ic .i64 (u), .ic .i64 (v)], .i .i64, .i .i64]⟩:Hd Sg)) (λi_' w_'=>Cc s k a c e u v i_' w_'),Ag (Hd.kd (⟨some 900,[0,0,1,1,1,1,1,1,1,0,1,0,1,1,1,1],[.code [1,0,1,1,1,1,1,1,1,0,1,0,1,1,1,1], .blk 0, .code [1,1,1,1,1]],[0,4,5,7],[.objk CW ⟨o,0,none⟩ (s), .box 29 [.ic .i64 (k), .ic .i64 (a), .ic .i64 (c)], .box 32 [.ic .i64 (e), .ic .i64 (u), .ic .i64 (v)], .i .i64]⟩:Hd Sg)) (λi_'=>BV s k a c e u v i_'),Ag (Hd.kd (⟨some 900,[0,0,1,1,1,1,1,1,1,0,1,0,1,1,1,1],[.code [1,0,1,1,1,1,1,1,1,0,1,0,1,1,1,1], .blk 0, .code [1,1,1,1,1]],[0,4,5,7],[.boxc o Bq.t Bq.l, .box 29 [.ic .i64 (k), .ic .i64 (a), .ic .i64 (c)], .box 32 [.ic .i64 (e), .ic .i64 (u), .ic .i64 (v)], .i .i64]⟩:Hd Sg)) (λt_' p_' h_' n_' a_' z_' r0_' r1_' r2_' r3_' r4_' r5_' r6_' r7_' i_'=>BQ s k a c e u v t_' p_' h_' n_' a_' z_' r0_' r1_' r2_' r3_' r4_' r5_' r6_' r7_' i_'),Ag (Hd.kd (⟨some 900,[0,0,1,1,1,1,1,1,1,1,1,0,1,0,1,1,1,1],[.code [1,0,1,1,1,1,1,1,1,1,1,0,1,0,1,1,1,1], .blk 0, .code [1,1,1,1,1]],[0,4,5,7],[.objk CW ⟨o,0,none⟩ (s), .box 29 [.ic .i64 (k), .ic .i64 (a), .ic .i64 (c)], .box 32 [.ic .i64 (e), .ic .i64 (u), .ic .i64 (v)], .i .i64]⟩:Hd Sg)) (λi_'=>BX s k a c e u v i_'),Ag (Hd.kd (⟨some 900,[0,0,1,1,1,1,1,1,1,1,1,0,1,0,1,1,1,1],[.code [1,0,1,1,1,1,1,1,1,1,1,0,1,0,1,1,1,1], .blk 0, .code [1,1,1,1,1]],[0,4,5,7],[.boxc o Bq.t Bq.l, .box 29 [.ic .i64 (k), .ic .i64 (a), .ic .i64 (c)], .box 32 [.ic .i64 (e), .ic .i64 (u), .ic .i64 (v)], .i .i64]⟩:Hd Sg)) (λt_' p_' h_' n_' a_' z_' r0_' r1_' r2_' r3_' r4_' r5_' r6_' r7_' i_'=>BR s k a c e u v t_' p_' h_' n_' a_' z_' r0_' r1_' r2_' r3_' r4_' r5_' r6_' r7_' i_')] j (λ_=>False), λj=>iN [Ag (Hd.kd (⟨some 900,[0,0,1,0,1,0,1,1,1,1],[.code [1,0,1,0,1,0,1,1,1,1], .blk 0, .code [1,1,1,1,1]],[0,4,5,7],[.objk CW ⟨o,0,none⟩ (s), .box 29 [.ic .i64 (k), .ic .i64 (a), .ic .i64 (c)], .box 32 [.ic .i64 (e), .ic .i64 (u), .ic .i64 (v)], .i .i64]⟩:Hd Sg)) (λi_'=>(20,0,0)),Ag (Hd.kd (⟨some 900,[0,0,1,0,1,0,1,1,1,1],[.code [1,0,1,0,1,0,1,1,1,1], .blk 0, .code [1,1,1,1,1]],[0,4,5,7],[.boxc o Bq.t Bq.l, .box 29 [.ic .i64 (k), .ic .i64 (a), .ic .i64 (c)], .box 32 [.ic .i64 (e), .ic .i64 (u), .ic .i64 (v)], .i .i64]⟩:Hd Sg)) (λt_' p_' h_' n_' a_' z_' r0_' r1_' r2_' r3_' r4_' r5_' r6_' r7_' i_'=>(19,0,0)),Ag (Hd.kd (⟨some 0,[0,1,0,1,0,1,0,1,1,1,1],[.code [1,1,0,1,0,1,0,1,1,1,1], .blk 0, .code [1,1,1,1,1]],[0,4,5,8],[.boxc o Bq.t Bq.l, .box 29 [.ic .i64 (k), .ic .i64 (a), .ic .i64 (c)], .box 32 [.ic .i64 (e), .ic .i64 (u), .ic .i64 (v)], .i .i64]⟩:Hd Sg)) (λt_' p_' h_' n_' a_' z_' r0_' r1_' r2_' r3_' r4_' r5_' r6_' r7_' w_'=>(18,0,0)),Ag (Hd.kd (⟨some 0,[0,1,0,1,0,1,0,1,1,1,1],[.code [1,1,0,1,0,1,0,1,1,1,1], .blk 0, .code [1,1,1,1,1]],[0,4,5,8],[.objk CW ⟨o,0,none⟩ (s), .box 29 [.ic .i64 (k), .ic .i64 (a), .ic .i64 (c)], .box 32 [.ic .i64 (e), .ic .i64 (u), .ic .i64 (v)], .i .i64]⟩:Hd Sg)) (λw_'=>(17,0,0)),Ag (Hd.kd (⟨some 900,[0,1,0,1,1,1,0,1,0,1,1,1,1],[.code [1,1,0,1,1,1,0,1,0,1,1,1,1], .blk 0, .code [1,1,1,1,1]],[0,4,5,7],[.objk CW ⟨o,0,none⟩ (s), .box 29 [.ic .i64 (k), .ic .i64 (a), .ic .i64 (c)], .box 32 [.ic .i64 (e), .ic .i64 (u), .ic .i64 (v)], .i .i64]⟩:Hd Sg)) (λi_'=>(16,0,0)),Ag (Hd.kd (⟨some 900,[0,1,0,1,1,1,0,1,0,1,1,1,1],[.code [1,1,0,1,1,1,0,1,0,1,1,1,1], .blk 0, .code [1,1,1,1,1]],[0,4,5,7],[.boxc o Bq.t Bq.l, .box 29 [.ic .i64 (k), .ic .i64 (a), .ic .i64 (c)], .box 32 [.ic .i64 (e), .ic .i64 (u), .ic .i64 (v)], .i .i64]⟩:Hd Sg)) (λt_' p_' h_' n_' a_' z_' r0_' r1_' r2_' r3_' r4_' r5_' r6_' r7_' i_'=>(15,0,0)),Ag (Hd.kd (⟨some 900,[0,0,1,1,1,1,1,0,1,0,1,1,1,1],[.code [1,0,1,1,1,1,1,0,1,0,1,1,1,1], .blk 0, .code [1,1,1,1,1]],[0,4,5,7],[.objk CW ⟨o,0,none⟩ (s), .box 29 [.ic .i64 (k), .ic .i64 (a), .ic .i64 (c)], .box 32 [.ic .i64 (e), .ic .i64 (u), .ic .i64 (v)], .i .i64]⟩:Hd Sg)) (λi_'=>(14,0,0)),Ag (Hd.kd (⟨some 900,[0,0,1,1,1,1,1,0,1,0,1,1,1,1],[.code [1,0,1,1,1,1,1,0,1,0,1,1,1,1], .blk 0, .code [1,1,1,1,1]],[0,4,5,7],[.boxc o Bq.t Bq.l, .box 29 [.ic .i64 (k), .ic .i64 (a), .ic .i64 (c)], .box 32 [.ic .i64 (e), .ic .i64 (u), .ic .i64 (v)], .i .i64]⟩:Hd Sg)) (λt_' p_' h_' n_' a_' z_' r0_' r1_' r2_' r3_' r4_' r5_' r6_' r7_' i_'=>(13,0,0)),Ag (Hd.kd (⟨some 0,[0,0,1,0,1,1,1,1,1,0,1,0,1,1,1,1],[.code [1,0,1,0,1,1,1,1,1,0,1,0,1,1,1,1], .code [1,1,0,1,1,1,1,1,0,1,0,1,1,1,1], .blk 0, .code [1,1,1,1,1]],[0,4,5,7,10],[.boxc o Bq.t Bq.l, .box 29 [.ic .i64 (k), .ic .i64 (a), .ic .i64 (c)], .box 32 [.ic .i64 (e), .ic .i64 (u), .ic .i64 (v)], .i .i64, .i .i64]⟩:Hd Sg)) (λt_' p_' h_' n_' a_' z_' r0_' r1_' r2_' r3_' r4_' r5_' r6_' r7_' i_' w_'=>(12,0,0)),Ag (Hd.kd (⟨some 0,[0,0,1,0,1,1,1,1,1,0,1,0,1,1,1,1],[.code [1,0,1,0,1,1,1,1,1,0,1,0,1,1,1,1], .code [1,1,0,1,1,1,1,1,0,1,0,1,1,1,1], .blk 0, .code [1,1,1,1,1]],[0,4,5,7,10],[.objk CW ⟨o,0,none⟩ (s), .box 29 [.ic .i64 (k), .ic .i64 (a), .ic .i64 (c)], .box 32 [.ic .i64 (e), .ic .i64 (u), .ic .i64 (v)], .i .i64, .i .i64]⟩:Hd Sg)) (λi_' w_'=>(11,0,0)),Ag (Hd.kd (⟨some 900,[0,0,1,1,1,1,1,1,1,0,1,0,1,1,1,1],[.code [1,0,1,1,1,1,1,1,1,0,1,0,1,1,1,1], .blk 0, .code [1,1,1,1,1]],[0,4,5,7],[.objk CW ⟨o,0,none⟩ (s), .box 29 [.ic .i64 (k), .ic .i64 (a), .ic .i64 (c)], .box 32 [.ic .i64 (e), .ic .i64 (u), .ic .i64 (v)], .i .i64]⟩:Hd Sg)) (λi_'=>(10,0,0)),Ag (Hd.kd (⟨some 900,[0,0,1,1,1,1,1,1,1,0,1,0,1,1,1,1],[.code [1,0,1,1,1,1,1,1,1,0,1,0,1,1,1,1], .blk 0, .code [1,1,1,1,1]],[0,4,5,7],[.boxc o Bq.t Bq.l, .box 29 [.ic .i64 (k), .ic .i64 (a), .ic .i64 (c)], .box 32 [.ic .i64 (e), .ic .i64 (u), .ic .i64 (v)], .i .i64]⟩:Hd Sg)) (λt_' p_' h_' n_' a_' z_' r0_' r1_' r2_' r3_' r4_' r5_' r6_' r7_' i_'=>(9,0,0)),Ag (Hd.kd (⟨some 900,[0,0,1,1,1,1,1,1,1,1,1,0,1,0,1,1,1,1],[.code [1,0,1,1,1,1,1,1,1,1,1,0,1,0,1,1,1,1], .blk 0, .code [1,1,1,1,1]],[0,4,5,7],[.objk CW ⟨o,0,none⟩ (s), .box 29 [.ic .i64 (k), .ic .i64 (a), .ic .i64 (c)], .box 32 [.ic .i64 (e), .ic .i64 (u), .ic .i64 (v)], .i .i64]⟩:Hd Sg)) (λi_'=>(8,0,0)),Ag (Hd.kd (⟨some 900,[0,0,1,1,1,1,1,1,1,1,1,0,1,0,1,1,1,1],[.code [1,0,1,1,1,1,1,1,1,1,1,0,1,0,1,1,1,1], .blk 0, .code [1,1,1,1,1]],[0,4,5,7],[.boxc o Bq.t Bq.l, .box 29 [.ic .i64 (k), .ic .i64 (a), .ic .i64 (c)], .box 32 [.ic .i64 (e), .ic .i64 (u), .ic .i64 (v)], .i .i64]⟩:Hd Sg)) (λt_' p_' h_' n_' a_' z_' r0_' r1_' r2_' r3_' r4_' r5_' r6_' r7_' i_'=>(7,0,0))] j (λ_=>(0,0,0)),by kernel_rfl, λ_ _=>by kernel_rfl,by kernel_rfl,⟨_, λ_ _ _=>by kernel_rfl,Ad6 s k a c e u v hp0⟩,⟨λi_ hI=>⟨s, λ_=>by kernel_rfl, λt_ p_ h_ n_ al_ zl_ x0_ x1_ x2_ x3_ x4_ x5_ x6_ x7_ hx=>⟨_, λ_ _=>by kernel_rfl,Ad7 s k a c e u v hp0 i_ t_ p_ h_ n_ al_ zl_ x0_ x1_ x2_ x3_ x4_ x5_ x6_ x7_ hI hx⟩⟩,⟨λt_ p_ h_ n_ a_ z_ r0_ r1_ r2_ r3_ r4_ r5_ r6_ r7_ i_ hI=>⟨_, λ_ _ _=>by kernel_rfl,Ad8 s k a c e u v hp0 t_ p_ h_ n_ a_ z_ r0_ r1_ r2_ r3_ r4_ r5_ r6_ r7_ i_ hI⟩,⟨λt_ p_ h_ n_ a_ z_ r0_ r1_ r2_ r3_ r4_ r5_ r6_ r7_ w_ hI=>⟨s,Ql s k a c e u v t_ p_ h_ n_ a_ z_ r0_ r1_ r2_ r3_ r4_ r5_ r6_ r7_ w_ (λw_'=>Cb s k a c e u v w_'∧lx (17,0,0) (18,0,0)),(Rl s k a c e u v hp0 t_ p_ h_ n_ a_ z_ r0_ r1_ r2_ r3_ r4_ r5_ r6_ r7_ w_ hI).1, λ_=>by kernel_rfl,(Rl s k a c e u v hp0 t_ p_ h_ n_ a_ z_ r0_ r1_ r2_ r3_ r4_ r5_ r6_ r7_ w_ hI).2⟩,⟨λw_ hI=>⟨_, λ_ _ _=>by kernel_rfl,Ad9 s k a c e u v hp0 w_ hI⟩,⟨λi_ hI=>⟨s, λ_=>by kernel_rfl, λt_ p_ h_ n_ al_ zl_ x0_ x1_ x2_ x3_ x4_ x5_ x6_ x7_ hx=>⟨_, λ_ _=>by kernel_rfl,AdA s k a c e u v hp0 i_ t_ p_ h_ n_ al_ zl_ x0_ x1_ x2_ x3_ x4_ x5_ x6_ x7_ hI hx⟩⟩,⟨λt_ p_ h_ n_ a_ z_ r0_ r1_ r2_ r3_ r4_ r5_ r6_ r7_ i_ hI=>⟨_, λ_ _ _=>by kernel_rfl,AdB s k a c e u v hp0 t_ p_ h_ n_ a_ z_ r0_ r1_ r2_ r3_ r4_ r5_ r6_ r7_ i_ hI⟩,⟨λi_ hI=>⟨s, λ_=>by kernel_rfl, λt_ p_ h_ n_ al_ zl_ x0_ x1_ x2_ x3_ x4_ x5_ x6_ x7_ hx=>⟨_, λ_ _=>by kernel_rfl,AdC s k a c e u v hp0 i_ t_ p_ h_ n_ al_ zl_ x0_ x1_ x2_ x3_ x4_ x5_ x6_ x7_ hI hx⟩⟩,⟨λt_ p_ h_ n_ a_ z_ r0_ r1_ r2_ r3_ r4_ r5_ r6_ r7_ i_ hI=>⟨_, λ_ _ _=>by kernel_rfl,AdD s k a c e u v hp0 t_ p_ h_ n_ a_ z_ r0_ r1_ r2_ r3_ r4_ r5_ r6_ r7_ i_ hI⟩,⟨λt_ p_ h_ n_ a_ z_ r0_ r1_ r2_ r3_ r4_ r5_ r6_ r7_ i_ w_ hI=>⟨s,Qm s k a c e u v t_ p_ h_ n_ a_ z_ r0_ r1_ r2_ r3_ r4_ r5_ r6_ r7_ i_ w_ (λi_' w_'=>Cc s k a c e u v i_' w_'∧lx (11,0,0) (12,0,0)),(Rn s k a c e u v hp0 t_ p_ h_ n_ a_ z_ r0_ r1_ r2_ r3_ r4_ r5_ r6_ r7_ i_ w_ hI).1, λ_=>by kernel_rfl,(Rn s k a c e u v hp0 t_ p_ h_ n_ a_ z_ r0_ r1_ r2_ r3_ r4_ r5_ r6_ r7_ i_ w_ hI).2⟩,⟨λi_ w_ hI=>⟨_, λ_ _ _=>by kernel_rfl,AdE s k a c e u v hp0 i_ w_ hI⟩,⟨λi_ hI=>⟨s, λ_=>by kernel_rfl, λt_ p_ h_ n_ al_ zl_ x0_ x1_ x2_ x3_ x4_ x5_ x6_ x7_ hx=>⟨_, λ_ _=>by kernel_rfl,Ab4 s k a c e u v hp0 i_ t_ p_ h_ n_ al_ zl_ x0_ x1_ x2_ x3_ x4_ x5_ x6_ x7_ hI hx⟩⟩,⟨λt_ p_ h_ n_ a_ z_ r0_ r1_ r2_ r3_ r4_ r5_ r6_ r7_ i_ hI=>⟨_, λ_ _ _=>by kernel_rfl,Ab5 s k a c e u v hp0 t_ p_ h_ n_ a_ z_ r0_ r1_ r2_ r3_ r4_ r5_ r6_ r7_ i_ hI⟩,⟨λi_ hI=>⟨s, λ_=>by kernel_rfl, λt_ p_ h_ n_ al_ zl_ x0_ x1_ x2_ x3_ x4_ x5_ x6_ x7_ hx=>⟨_, λ_ _=>by kernel_rfl,Ab6 s k a c e u v hp0 i_ t_ p_ h_ n_ al_ zl_ x0_ x1_ x2_ x3_ x4_ x5_ x6_ x7_ hI hx⟩⟩,⟨λt_ p_ h_ n_ a_ z_ r0_ r1_ r2_ r3_ r4_ r5_ r6_ r7_ i_ hI=>⟨_, λ_ _ _=>by kernel_rfl,Ab7 s k a c e u v hp0 t_ p_ h_ n_ a_ z_ r0_ r1_ r2_ r3_ r4_ r5_ r6_ r7_ i_ hI⟩,trivial⟩⟩⟩⟩⟩⟩⟩⟩⟩⟩⟩⟩⟩⟩⟩
def Ab8:Tb:=(15,Ab2)::Ab1
theorem Uw:D7 Ab8:=Ea Yt Uu
end
section
open Go.Sl
def LU (s:RS) (f g i:Int):RS:=⟨s.t,s.p,s.h,s.a,s.z,Gw s.r0 f g i 0,Gw s.r1 f g i 1,Gw s.r2 f g i 2,Gw s.r3 f g i 3,Gw s.r4 f g i 4,Gw s.r5 f g i 5,Gw s.r6 f g i 6,Gw s.r7 f g i 7⟩
def EK (s:RS) (i x:Int):RS:=⟨s.t,s.p,s.h,s.a,s.z,(bif i==0 then x else s.r0),(bif i==1 then x else s.r1),(bif i==2 then x else s.r2),(bif i==3 then x else s.r3),(bif i==4 then x else s.r4),(bif i==5 then x else s.r5),(bif i==6 then x else s.r6),(bif i==7 then x else s.r7)⟩
def Io (s:RS) (k a c u v:Int):RS:=bif k==1 then DL s u v else bif k==2 then D8 s (BK s.a a) else bif k==3 then LU (DL (D8 s (BK s.a a)) u v) a u 8 else bif k==4 then EK (DL s u (BJ s.t s.p s.h c).1) a u else bif k==5 then EK s a c else s
theorem AnE {s:RS} {k:Int} (h:s.a.length≤1000):(D8 s k).a.length≤1000:=lZ (List.length_eraseIdx_le _ _) h
theorem alR {s:RS} {k a c u v:Int} (h:AZ s k a c 0 u v=true):Dh k a c=true∧gR s k a=false∧Oj s k a c 0 u v=true:=by
 unfold AZ at h
 cases hr:Dh k a c with
 |false=>rw [hr] at h;cases h
 |true=>
  cases hg:gR s k a with
  |true=>rw [hr,hg] at h;cases h
  |false=>rw [hr,hg] at h;exact ⟨rfl,rfl,h⟩
theorem alN {s:RS} {k a c u v:Int} (h:AZ s k a c 0 u v=true) (hk:(k==2||k==3||k==7)=true):0≤BK s.a a:=Ad5 (alR h).2.1 hk
theorem AeO {s:RS} {k a c u v:Int} (h:CX s k a c 0 u v=true):0≤a∧a<8:=by
 unfold CX at h
 cases hb:decide (a<0)||decide (a>7) with
 |true=>rw [hb] at h;cases h
 |false=>simp only [kH,decide_eq_false_iff_not] at hb;omega
theorem AsI {s:RS} {a c u v:Int} (h:AZ s 4 a c 0 u v=true):0≤a∧a<8:=AeO (alR h).2.2
theorem AsJ {s:RS} {a c u v:Int} (h:AZ s 5 a c 0 u v=true):0≤a∧a<8:=AeO (alR h).2.2
def Ae (s:RS) (k a c e u v:Int):RS×Bool:=bif !AZ s k a c e u v then (s,false) else bif e !=0 then (s,true) else (Io s k a c u v,true)
abbrev KY:Ct Sg:=⟨some CW,false,[.agg [.i .i64, .i .i64, .i .i64], .agg [.i .i64, .i .i64, .i .i64]], .b⟩
def AeP:Entry Sg:=BU KY (λ(s:RS) (k:Int) (a:Int) (c:Int) (e:Int) (u:Int) (v:Int)=>bif !AZ s k a c e u v then (s,false) else bif e !=0 then (s,true) else (Io s k a c u v,true)) (λs k a c e u v=>[s.a.length≤1000])
def AeQ (s:RS) (k a c e u v:Int) (Q0:RS→Prop) (Q1:Int→Int→Int→Nat→LI→LI→Int→Int→Int→Int→Int→Int→Int→Int→Prop) (Q2:Int→Int→Int→Nat→LI→LI→Int→Int→Int→Int→Int→Int→Int→Int→Int→Prop) (Q3:Int→Prop) (Q4:Int→Int→Int→Nat→LI→LI→Int→Int→Int→Int→Int→Int→Int→Int→Int→Prop) (Q5:Int→Int→Int→Nat→LI→LI→Int→Int→Int→Int→Int→Int→Int→Int→Int→Prop) (Q6:Int→Prop) (Q7:RS→Int→Prop) (Q8:Int→Int→Int→Nat→LI→LI→Int→Int→Int→Int→Int→Int→Int→Int→Int→Prop) (Q9:Int→Prop) (Q10:Int→Int→Int→Nat→LI→LI→Int→Int→Int→Int→Int→Int→Int→Int→Int→Prop) (R_:RS×Bool→Prop) (O_:Int→Int→Int→Nat→LI→LI→Int→Int→Int→Int→Int→Int→Int→Int→Bool→Prop):Prop:=(∀r2:Bool,r2=(bif !Dh k a c then BC 1 e u v else bif gR s k a then BC 4 e u v else Oj s k a c e u v)→(Ap (iH (RS.a s)≤1000) (AV (!r2) (R_ ((s,false))) (AV (e !=0) (R_ ((s,true))) (∀r6:Int,r6=(BK (RS.a s) a)→(Ap (iH (RS.a s)≤1000) (AV (k==1) (∀r9:RS,r9=(DL s u v)→(Ap (iH (RS.a s)≤1000) (R_ ((r9,true))))) (AV (k==2) (∀r10:RS,r10=(D8 s r6)→(Ap (iH (RS.a s)≤1000) (Ap (0≤r6) (R_ ((r10,true)))))) (AV (k==3) (∀r11:RS,r11=(D8 s r6)→(Ap (iH (RS.a s)≤1000) (Ap (0≤r6) (∀r14:RS,r14=(DL r11 u v)→(Ap (iH (RS.a r11)≤1000) (Q0 (r14))))))) (AV (k==4) (Q3 (k)) (AV (k==5) (Q9 (a)) (R_ ((s,true))))))))))))))
def Ab9 (s:RS) (k a c e u v:Int) (q_:RS) (t_ p_ h_:Int) (n_:Nat) (al_ zl_:LI) (x0_ x1_ x2_ x3_ x4_ x5_ x6_ x7_:Int) (Q1:Int→Int→Int→Nat→LI→LI→Int→Int→Int→Int→Int→Int→Int→Int→Prop):Prop:=(Q1 (t_) (p_) (h_) (n_) (al_) (zl_) (x0_) (x1_) (x2_) (x3_) (x4_) (x5_) (x6_) (x7_))
def AA (s:RS) (k a c e u v:Int) (q_:RS):Prop:=q_=(DL (D8 s (BK s.a a)) u v)∧k=3∧AZ s k a c e u v=true∧e=0
def AbA (s:RS) (k a c e u v t_ p_ h_:Int) (n_:Nat) (a_ z_:LI) (r0_ r1_ r2_ r3_ r4_ r5_ r6_ r7_:Int) (Q0:RS→Prop) (Q1:Int→Int→Int→Nat→LI→LI→Int→Int→Int→Int→Int→Int→Int→Int→Prop) (Q2:Int→Int→Int→Nat→LI→LI→Int→Int→Int→Int→Int→Int→Int→Int→Int→Prop) (Q3:Int→Prop) (Q4:Int→Int→Int→Nat→LI→LI→Int→Int→Int→Int→Int→Int→Int→Int→Int→Prop) (Q5:Int→Int→Int→Nat→LI→LI→Int→Int→Int→Int→Int→Int→Int→Int→Int→Prop) (Q6:Int→Prop) (Q7:RS→Int→Prop) (Q8:Int→Int→Int→Nat→LI→LI→Int→Int→Int→Int→Int→Int→Int→Int→Int→Prop) (Q9:Int→Prop) (Q10:Int→Int→Int→Nat→LI→LI→Int→Int→Int→Int→Int→Int→Int→Int→Int→Prop) (R_:RS×Bool→Prop) (O_:Int→Int→Int→Nat→LI→LI→Int→Int→Int→Int→Int→Int→Int→Int→Bool→Prop):Prop:=(Q2 (t_) (p_) (h_) (n_) (a_) (z_) (r0_) (r1_) (r2_) (r3_) (r4_) (r5_) (r6_) (r7_) (0))
def Az (s:RS) (k a c e u v t_ p_ h_:Int) (n_:Nat) (a_ z_:LI) (r0_ r1_ r2_ r3_ r4_ r5_ r6_ r7_:Int):Prop:=Bj ⟨t_,p_,h_,n_,a_,z_,r0_,r1_,r2_,r3_,r4_,r5_,r6_,r7_⟩ (DL (D8 s (BK s.a a)) u v)∧k=3∧AZ s k a c e u v=true∧e=0
def VJ (s:RS) (k a c e u v t_ p_ h_:Int) (n_:Nat) (a_ z_:LI) (r0_ r1_ r2_ r3_ r4_ r5_ r6_ r7_:Int) (Q0:RS→Prop) (Q1:Int→Int→Int→Nat→LI→LI→Int→Int→Int→Int→Int→Int→Int→Int→Prop) (Q2:Int→Int→Int→Nat→LI→LI→Int→Int→Int→Int→Int→Int→Int→Int→Int→Prop) (Q3:Int→Prop) (Q4:Int→Int→Int→Nat→LI→LI→Int→Int→Int→Int→Int→Int→Int→Int→Int→Prop) (Q5:Int→Int→Int→Nat→LI→LI→Int→Int→Int→Int→Int→Int→Int→Int→Int→Prop) (Q6:Int→Prop) (Q7:RS→Int→Prop) (Q8:Int→Int→Int→Nat→LI→LI→Int→Int→Int→Int→Int→Int→Int→Int→Int→Prop) (Q9:Int→Prop) (Q10:Int→Int→Int→Nat→LI→LI→Int→Int→Int→Int→Int→Int→Int→Int→Int→Prop) (R_:RS×Bool→Prop) (O_:Int→Int→Int→Nat→LI→LI→Int→Int→Int→Int→Int→Int→Int→Int→Bool→Prop):Prop:=(AV (true) (Ap ((0:Int)≤0∧(0:Int)<8) (AV (r0_==a) (Ap ((0:Int)≤0∧(0:Int)<8) (Q2 (t_) (p_) (h_) (n_) (a_) (z_) (u) (r1_) (r2_) (r3_) (r4_) (r5_) (r6_) (r7_) (1))) (Q2 (t_) (p_) (h_) (n_) (a_) (z_) (r0_) (r1_) (r2_) (r3_) (r4_) (r5_) (r6_) (r7_) (1)))) (O_ (t_) (p_) (h_) (n_) (a_) (z_) (r0_) (r1_) (r2_) (r3_) (r4_) (r5_) (r6_) (r7_) (true)))
def VK (s:RS) (k a c e u v t_ p_ h_:Int) (n_:Nat) (a_ z_:LI) (r0_ r1_ r2_ r3_ r4_ r5_ r6_ r7_:Int) (Q0:RS→Prop) (Q1:Int→Int→Int→Nat→LI→LI→Int→Int→Int→Int→Int→Int→Int→Int→Prop) (Q2:Int→Int→Int→Nat→LI→LI→Int→Int→Int→Int→Int→Int→Int→Int→Int→Prop) (Q3:Int→Prop) (Q4:Int→Int→Int→Nat→LI→LI→Int→Int→Int→Int→Int→Int→Int→Int→Int→Prop) (Q5:Int→Int→Int→Nat→LI→LI→Int→Int→Int→Int→Int→Int→Int→Int→Int→Prop) (Q6:Int→Prop) (Q7:RS→Int→Prop) (Q8:Int→Int→Int→Nat→LI→LI→Int→Int→Int→Int→Int→Int→Int→Int→Int→Prop) (Q9:Int→Prop) (Q10:Int→Int→Int→Nat→LI→LI→Int→Int→Int→Int→Int→Int→Int→Int→Int→Prop) (R_:RS×Bool→Prop) (O_:Int→Int→Int→Nat→LI→LI→Int→Int→Int→Int→Int→Int→Int→Int→Bool→Prop):Prop:=(AV (true) (Ap ((0:Int)≤1∧(1:Int)<8) (AV (r1_==a) (Ap ((0:Int)≤1∧(1:Int)<8) (Q2 (t_) (p_) (h_) (n_) (a_) (z_) (r0_) (u) (r2_) (r3_) (r4_) (r5_) (r6_) (r7_) (2))) (Q2 (t_) (p_) (h_) (n_) (a_) (z_) (r0_) (r1_) (r2_) (r3_) (r4_) (r5_) (r6_) (r7_) (2)))) (O_ (t_) (p_) (h_) (n_) (a_) (z_) (r0_) (r1_) (r2_) (r3_) (r4_) (r5_) (r6_) (r7_) (true)))
def VL (s:RS) (k a c e u v t_ p_ h_:Int) (n_:Nat) (a_ z_:LI) (r0_ r1_ r2_ r3_ r4_ r5_ r6_ r7_:Int) (Q0:RS→Prop) (Q1:Int→Int→Int→Nat→LI→LI→Int→Int→Int→Int→Int→Int→Int→Int→Prop) (Q2:Int→Int→Int→Nat→LI→LI→Int→Int→Int→Int→Int→Int→Int→Int→Int→Prop) (Q3:Int→Prop) (Q4:Int→Int→Int→Nat→LI→LI→Int→Int→Int→Int→Int→Int→Int→Int→Int→Prop) (Q5:Int→Int→Int→Nat→LI→LI→Int→Int→Int→Int→Int→Int→Int→Int→Int→Prop) (Q6:Int→Prop) (Q7:RS→Int→Prop) (Q8:Int→Int→Int→Nat→LI→LI→Int→Int→Int→Int→Int→Int→Int→Int→Int→Prop) (Q9:Int→Prop) (Q10:Int→Int→Int→Nat→LI→LI→Int→Int→Int→Int→Int→Int→Int→Int→Int→Prop) (R_:RS×Bool→Prop) (O_:Int→Int→Int→Nat→LI→LI→Int→Int→Int→Int→Int→Int→Int→Int→Bool→Prop):Prop:=(AV (true) (Ap ((0:Int)≤2∧(2:Int)<8) (AV (r2_==a) (Ap ((0:Int)≤2∧(2:Int)<8) (Q2 (t_) (p_) (h_) (n_) (a_) (z_) (r0_) (r1_) (u) (r3_) (r4_) (r5_) (r6_) (r7_) (3))) (Q2 (t_) (p_) (h_) (n_) (a_) (z_) (r0_) (r1_) (r2_) (r3_) (r4_) (r5_) (r6_) (r7_) (3)))) (O_ (t_) (p_) (h_) (n_) (a_) (z_) (r0_) (r1_) (r2_) (r3_) (r4_) (r5_) (r6_) (r7_) (true)))
def VM (s:RS) (k a c e u v t_ p_ h_:Int) (n_:Nat) (a_ z_:LI) (r0_ r1_ r2_ r3_ r4_ r5_ r6_ r7_:Int) (Q0:RS→Prop) (Q1:Int→Int→Int→Nat→LI→LI→Int→Int→Int→Int→Int→Int→Int→Int→Prop) (Q2:Int→Int→Int→Nat→LI→LI→Int→Int→Int→Int→Int→Int→Int→Int→Int→Prop) (Q3:Int→Prop) (Q4:Int→Int→Int→Nat→LI→LI→Int→Int→Int→Int→Int→Int→Int→Int→Int→Prop) (Q5:Int→Int→Int→Nat→LI→LI→Int→Int→Int→Int→Int→Int→Int→Int→Int→Prop) (Q6:Int→Prop) (Q7:RS→Int→Prop) (Q8:Int→Int→Int→Nat→LI→LI→Int→Int→Int→Int→Int→Int→Int→Int→Int→Prop) (Q9:Int→Prop) (Q10:Int→Int→Int→Nat→LI→LI→Int→Int→Int→Int→Int→Int→Int→Int→Int→Prop) (R_:RS×Bool→Prop) (O_:Int→Int→Int→Nat→LI→LI→Int→Int→Int→Int→Int→Int→Int→Int→Bool→Prop):Prop:=(AV (true) (Ap ((0:Int)≤3∧(3:Int)<8) (AV (r3_==a) (Ap ((0:Int)≤3∧(3:Int)<8) (Q2 (t_) (p_) (h_) (n_) (a_) (z_) (r0_) (r1_) (r2_) (u) (r4_) (r5_) (r6_) (r7_) (4))) (Q2 (t_) (p_) (h_) (n_) (a_) (z_) (r0_) (r1_) (r2_) (r3_) (r4_) (r5_) (r6_) (r7_) (4)))) (O_ (t_) (p_) (h_) (n_) (a_) (z_) (r0_) (r1_) (r2_) (r3_) (r4_) (r5_) (r6_) (r7_) (true)))
def VN (s:RS) (k a c e u v t_ p_ h_:Int) (n_:Nat) (a_ z_:LI) (r0_ r1_ r2_ r3_ r4_ r5_ r6_ r7_:Int) (Q0:RS→Prop) (Q1:Int→Int→Int→Nat→LI→LI→Int→Int→Int→Int→Int→Int→Int→Int→Prop) (Q2:Int→Int→Int→Nat→LI→LI→Int→Int→Int→Int→Int→Int→Int→Int→Int→Prop) (Q3:Int→Prop) (Q4:Int→Int→Int→Nat→LI→LI→Int→Int→Int→Int→Int→Int→Int→Int→Int→Prop) (Q5:Int→Int→Int→Nat→LI→LI→Int→Int→Int→Int→Int→Int→Int→Int→Int→Prop) (Q6:Int→Prop) (Q7:RS→Int→Prop) (Q8:Int→Int→Int→Nat→LI→LI→Int→Int→Int→Int→Int→Int→Int→Int→Int→Prop) (Q9:Int→Prop) (Q10:Int→Int→Int→Nat→LI→LI→Int→Int→Int→Int→Int→Int→Int→Int→Int→Prop) (R_:RS×Bool→Prop) (O_:Int→Int→Int→Nat→LI→LI→Int→Int→Int→Int→Int→Int→Int→Int→Bool→Prop):Prop:=(AV (true) (Ap ((0:Int)≤4∧(4:Int)<8) (AV (r4_==a) (Ap ((0:Int)≤4∧(4:Int)<8) (Q2 (t_) (p_) (h_) (n_) (a_) (z_) (r0_) (r1_) (r2_) (r3_) (u) (r5_) (r6_) (r7_) (5))) (Q2 (t_) (p_) (h_) (n_) (a_) (z_) (r0_) (r1_) (r2_) (r3_) (r4_) (r5_) (r6_) (r7_) (5)))) (O_ (t_) (p_) (h_) (n_) (a_) (z_) (r0_) (r1_) (r2_) (r3_) (r4_) (r5_) (r6_) (r7_) (true)))
def VO (s:RS) (k a c e u v t_ p_ h_:Int) (n_:Nat) (a_ z_:LI) (r0_ r1_ r2_ r3_ r4_ r5_ r6_ r7_:Int) (Q0:RS→Prop) (Q1:Int→Int→Int→Nat→LI→LI→Int→Int→Int→Int→Int→Int→Int→Int→Prop) (Q2:Int→Int→Int→Nat→LI→LI→Int→Int→Int→Int→Int→Int→Int→Int→Int→Prop) (Q3:Int→Prop) (Q4:Int→Int→Int→Nat→LI→LI→Int→Int→Int→Int→Int→Int→Int→Int→Int→Prop) (Q5:Int→Int→Int→Nat→LI→LI→Int→Int→Int→Int→Int→Int→Int→Int→Int→Prop) (Q6:Int→Prop) (Q7:RS→Int→Prop) (Q8:Int→Int→Int→Nat→LI→LI→Int→Int→Int→Int→Int→Int→Int→Int→Int→Prop) (Q9:Int→Prop) (Q10:Int→Int→Int→Nat→LI→LI→Int→Int→Int→Int→Int→Int→Int→Int→Int→Prop) (R_:RS×Bool→Prop) (O_:Int→Int→Int→Nat→LI→LI→Int→Int→Int→Int→Int→Int→Int→Int→Bool→Prop):Prop:=(AV (true) (Ap ((0:Int)≤5∧(5:Int)<8) (AV (r5_==a) (Ap ((0:Int)≤5∧(5:Int)<8) (Q2 (t_) (p_) (h_) (n_) (a_) (z_) (r0_) (r1_) (r2_) (r3_) (r4_) (u) (r6_) (r7_) (6))) (Q2 (t_) (p_) (h_) (n_) (a_) (z_) (r0_) (r1_) (r2_) (r3_) (r4_) (r5_) (r6_) (r7_) (6)))) (O_ (t_) (p_) (h_) (n_) (a_) (z_) (r0_) (r1_) (r2_) (r3_) (r4_) (r5_) (r6_) (r7_) (true)))
def VP (s:RS) (k a c e u v t_ p_ h_:Int) (n_:Nat) (a_ z_:LI) (r0_ r1_ r2_ r3_ r4_ r5_ r6_ r7_:Int) (Q0:RS→Prop) (Q1:Int→Int→Int→Nat→LI→LI→Int→Int→Int→Int→Int→Int→Int→Int→Prop) (Q2:Int→Int→Int→Nat→LI→LI→Int→Int→Int→Int→Int→Int→Int→Int→Int→Prop) (Q3:Int→Prop) (Q4:Int→Int→Int→Nat→LI→LI→Int→Int→Int→Int→Int→Int→Int→Int→Int→Prop) (Q5:Int→Int→Int→Nat→LI→LI→Int→Int→Int→Int→Int→Int→Int→Int→Int→Prop) (Q6:Int→Prop) (Q7:RS→Int→Prop) (Q8:Int→Int→Int→Nat→LI→LI→Int→Int→Int→Int→Int→Int→Int→Int→Int→Prop) (Q9:Int→Prop) (Q10:Int→Int→Int→Nat→LI→LI→Int→Int→Int→Int→Int→Int→Int→Int→Int→Prop) (R_:RS×Bool→Prop) (O_:Int→Int→Int→Nat→LI→LI→Int→Int→Int→Int→Int→Int→Int→Int→Bool→Prop):Prop:=(AV (true) (Ap ((0:Int)≤6∧(6:Int)<8) (AV (r6_==a) (Ap ((0:Int)≤6∧(6:Int)<8) (Q2 (t_) (p_) (h_) (n_) (a_) (z_) (r0_) (r1_) (r2_) (r3_) (r4_) (r5_) (u) (r7_) (7))) (Q2 (t_) (p_) (h_) (n_) (a_) (z_) (r0_) (r1_) (r2_) (r3_) (r4_) (r5_) (r6_) (r7_) (7)))) (O_ (t_) (p_) (h_) (n_) (a_) (z_) (r0_) (r1_) (r2_) (r3_) (r4_) (r5_) (r6_) (r7_) (true)))
def VQ (s:RS) (k a c e u v t_ p_ h_:Int) (n_:Nat) (a_ z_:LI) (r0_ r1_ r2_ r3_ r4_ r5_ r6_ r7_:Int) (Q0:RS→Prop) (Q1:Int→Int→Int→Nat→LI→LI→Int→Int→Int→Int→Int→Int→Int→Int→Prop) (Q2:Int→Int→Int→Nat→LI→LI→Int→Int→Int→Int→Int→Int→Int→Int→Int→Prop) (Q3:Int→Prop) (Q4:Int→Int→Int→Nat→LI→LI→Int→Int→Int→Int→Int→Int→Int→Int→Int→Prop) (Q5:Int→Int→Int→Nat→LI→LI→Int→Int→Int→Int→Int→Int→Int→Int→Int→Prop) (Q6:Int→Prop) (Q7:RS→Int→Prop) (Q8:Int→Int→Int→Nat→LI→LI→Int→Int→Int→Int→Int→Int→Int→Int→Int→Prop) (Q9:Int→Prop) (Q10:Int→Int→Int→Nat→LI→LI→Int→Int→Int→Int→Int→Int→Int→Int→Int→Prop) (R_:RS×Bool→Prop) (O_:Int→Int→Int→Nat→LI→LI→Int→Int→Int→Int→Int→Int→Int→Int→Bool→Prop):Prop:=(AV (true) (Ap ((0:Int)≤7∧(7:Int)<8) (AV (r7_==a) (Ap ((0:Int)≤7∧(7:Int)<8) (Q2 (t_) (p_) (h_) (n_) (a_) (z_) (r0_) (r1_) (r2_) (r3_) (r4_) (r5_) (r6_) (u) (8))) (Q2 (t_) (p_) (h_) (n_) (a_) (z_) (r0_) (r1_) (r2_) (r3_) (r4_) (r5_) (r6_) (r7_) (8)))) (O_ (t_) (p_) (h_) (n_) (a_) (z_) (r0_) (r1_) (r2_) (r3_) (r4_) (r5_) (r6_) (r7_) (true)))
def VR (s:RS) (k a c e u v t_ p_ h_:Int) (n_:Nat) (a_ z_:LI) (r0_ r1_ r2_ r3_ r4_ r5_ r6_ r7_:Int) (Q0:RS→Prop) (Q1:Int→Int→Int→Nat→LI→LI→Int→Int→Int→Int→Int→Int→Int→Int→Prop) (Q2:Int→Int→Int→Nat→LI→LI→Int→Int→Int→Int→Int→Int→Int→Int→Int→Prop) (Q3:Int→Prop) (Q4:Int→Int→Int→Nat→LI→LI→Int→Int→Int→Int→Int→Int→Int→Int→Int→Prop) (Q5:Int→Int→Int→Nat→LI→LI→Int→Int→Int→Int→Int→Int→Int→Int→Int→Prop) (Q6:Int→Prop) (Q7:RS→Int→Prop) (Q8:Int→Int→Int→Nat→LI→LI→Int→Int→Int→Int→Int→Int→Int→Int→Int→Prop) (Q9:Int→Prop) (Q10:Int→Int→Int→Nat→LI→LI→Int→Int→Int→Int→Int→Int→Int→Int→Int→Prop) (R_:RS×Bool→Prop) (O_:Int→Int→Int→Nat→LI→LI→Int→Int→Int→Int→Int→Int→Int→Int→Bool→Prop):Prop:=(AV (false) (Ap ((0:Int)≤8∧(8:Int)<8) (Ap (False) False)) (O_ (t_) (p_) (h_) (n_) (a_) (z_) (r0_) (r1_) (r2_) (r3_) (r4_) (r5_) (r6_) (r7_) (true)))
def Ai (s:RS) (k a c e u v t_ p_ h_:Int) (n_:Nat) (a_ z_:LI) (r0_ r1_ r2_ r3_ r4_ r5_ r6_ r7_ i_:Int):Prop:=Bj ⟨t_,p_,h_,n_,a_,z_,r0_,r1_,r2_,r3_,r4_,r5_,r6_,r7_⟩ (LU (DL (D8 s (BK s.a a)) u v) a u i_)∧0≤i_∧i_≤8∧k=3∧AZ s k a c e u v=true∧e=0
def AbB (s:RS) (k a c e u v k_ t_ p_ h_:Int) (n_:Nat) (al_ zl_:LI) (x0_ x1_ x2_ x3_ x4_ x5_ x6_ x7_:Int) (Q4:Int→Int→Int→Nat→LI→LI→Int→Int→Int→Int→Int→Int→Int→Int→Int→Prop):Prop:=(Q4 (t_) (p_) (h_) (n_) (al_) (zl_) (x0_) (x1_) (x2_) (x3_) (x4_) (x5_) (x6_) (x7_) (k_))
def AB (s:RS) (k a c e u v k_:Int):Prop:=k_=k∧k=4∧AZ s k a c e u v=true∧e=0
def AbC (s:RS) (k a c e u v t_ p_ h_:Int) (n_:Nat) (a_ z_:LI) (r0_ r1_ r2_ r3_ r4_ r5_ r6_ r7_ k_:Int) (Q0:RS→Prop) (Q1:Int→Int→Int→Nat→LI→LI→Int→Int→Int→Int→Int→Int→Int→Int→Prop) (Q2:Int→Int→Int→Nat→LI→LI→Int→Int→Int→Int→Int→Int→Int→Int→Int→Prop) (Q3:Int→Prop) (Q4:Int→Int→Int→Nat→LI→LI→Int→Int→Int→Int→Int→Int→Int→Int→Int→Prop) (Q5:Int→Int→Int→Nat→LI→LI→Int→Int→Int→Int→Int→Int→Int→Int→Int→Prop) (Q6:Int→Prop) (Q7:RS→Int→Prop) (Q8:Int→Int→Int→Nat→LI→LI→Int→Int→Int→Int→Int→Int→Int→Int→Int→Prop) (Q9:Int→Prop) (Q10:Int→Int→Int→Nat→LI→LI→Int→Int→Int→Int→Int→Int→Int→Int→Int→Prop) (R_:RS×Bool→Prop) (O_:Int→Int→Int→Nat→LI→LI→Int→Int→Int→Int→Int→Int→Int→Int→Bool→Prop):Prop:=(Q5 (t_) (p_) (h_) (n_) (a_) (z_) (r0_) (r1_) (r2_) (r3_) (r4_) (r5_) (r6_) (r7_) (kM (BJ t_ p_ h_ c)))
def A7 (s:RS) (k a c e u v t_ p_ h_:Int) (n_:Nat) (a_ z_:LI) (r0_ r1_ r2_ r3_ r4_ r5_ r6_ r7_ k_:Int):Prop:=Bj ⟨t_,p_,h_,n_,a_,z_,r0_,r1_,r2_,r3_,r4_,r5_,r6_,r7_⟩ s∧k_=k∧k=4∧AZ s k a c e u v=true∧e=0
def SV (s:RS) (k a c e u v t_ p_ h_:Int) (n_:Nat) (a_ z_:LI) (r0_ r1_ r2_ r3_ r4_ r5_ r6_ r7_ w_:Int) (Q6:Int→Prop):Prop:=(Q6 (w_))
def AC (s:RS) (k a c e u v t_ p_ h_:Int) (n_:Nat) (a_ z_:LI) (r0_ r1_ r2_ r3_ r4_ r5_ r6_ r7_ w_:Int):Prop:=Bj ⟨t_,p_,h_,n_,a_,z_,r0_,r1_,r2_,r3_,r4_,r5_,r6_,r7_⟩ s∧w_=(BJ s.t s.p s.h c).1∧k=4∧AZ s k a c e u v=true∧e=0
def AbD (s:RS) (k a c e u v w_:Int) (Q0:RS→Prop) (Q1:Int→Int→Int→Nat→LI→LI→Int→Int→Int→Int→Int→Int→Int→Int→Prop) (Q2:Int→Int→Int→Nat→LI→LI→Int→Int→Int→Int→Int→Int→Int→Int→Int→Prop) (Q3:Int→Prop) (Q4:Int→Int→Int→Nat→LI→LI→Int→Int→Int→Int→Int→Int→Int→Int→Int→Prop) (Q5:Int→Int→Int→Nat→LI→LI→Int→Int→Int→Int→Int→Int→Int→Int→Int→Prop) (Q6:Int→Prop) (Q7:RS→Int→Prop) (Q8:Int→Int→Int→Nat→LI→LI→Int→Int→Int→Int→Int→Int→Int→Int→Int→Prop) (Q9:Int→Prop) (Q10:Int→Int→Int→Nat→LI→LI→Int→Int→Int→Int→Int→Int→Int→Int→Int→Prop) (R_:RS×Bool→Prop) (O_:Int→Int→Int→Nat→LI→LI→Int→Int→Int→Int→Int→Int→Int→Int→Bool→Prop):Prop:=(∀r0:RS,r0=(DL s u w_)→(Ap (iH (RS.a s)≤1000) (Q7 (r0) (a))))
def Aw (s:RS) (k a c e u v w_:Int):Prop:=w_=(BJ s.t s.p s.h c).1∧k=4∧AZ s k a c e u v=true∧e=0
def AbE (s:RS) (k a c e u v:Int) (q_:RS) (i_ t_ p_ h_:Int) (n_:Nat) (al_ zl_:LI) (x0_ x1_ x2_ x3_ x4_ x5_ x6_ x7_:Int) (Q8:Int→Int→Int→Nat→LI→LI→Int→Int→Int→Int→Int→Int→Int→Int→Int→Prop):Prop:=(Q8 (t_) (p_) (h_) (n_) (al_) (zl_) (x0_) (x1_) (x2_) (x3_) (x4_) (x5_) (x6_) (x7_) (i_))
def AL (s:RS) (k a c e u v:Int) (q_:RS) (i_:Int):Prop:=q_=(DL s u (BJ s.t s.p s.h c).1)∧i_=a∧0≤a∧a<8∧k=4∧AZ s k a c e u v=true∧e=0
def VS (s:RS) (k a c e u v t_ p_ h_:Int) (n_:Nat) (a_ z_:LI) (r0_ r1_ r2_ r3_ r4_ r5_ r6_ r7_:Int) (Q0:RS→Prop) (Q1:Int→Int→Int→Nat→LI→LI→Int→Int→Int→Int→Int→Int→Int→Int→Prop) (Q2:Int→Int→Int→Nat→LI→LI→Int→Int→Int→Int→Int→Int→Int→Int→Int→Prop) (Q3:Int→Prop) (Q4:Int→Int→Int→Nat→LI→LI→Int→Int→Int→Int→Int→Int→Int→Int→Int→Prop) (Q5:Int→Int→Int→Nat→LI→LI→Int→Int→Int→Int→Int→Int→Int→Int→Int→Prop) (Q6:Int→Prop) (Q7:RS→Int→Prop) (Q8:Int→Int→Int→Nat→LI→LI→Int→Int→Int→Int→Int→Int→Int→Int→Int→Prop) (Q9:Int→Prop) (Q10:Int→Int→Int→Nat→LI→LI→Int→Int→Int→Int→Int→Int→Int→Int→Int→Prop) (R_:RS×Bool→Prop) (O_:Int→Int→Int→Nat→LI→LI→Int→Int→Int→Int→Int→Int→Int→Int→Bool→Prop):Prop:=(Ap ((0:Int)≤0∧(0:Int)<8) (O_ (t_) (p_) (h_) (n_) (a_) (z_) (u) (r1_) (r2_) (r3_) (r4_) (r5_) (r6_) (r7_) (true)))
def VT (s:RS) (k a c e u v t_ p_ h_:Int) (n_:Nat) (a_ z_:LI) (r0_ r1_ r2_ r3_ r4_ r5_ r6_ r7_:Int) (Q0:RS→Prop) (Q1:Int→Int→Int→Nat→LI→LI→Int→Int→Int→Int→Int→Int→Int→Int→Prop) (Q2:Int→Int→Int→Nat→LI→LI→Int→Int→Int→Int→Int→Int→Int→Int→Int→Prop) (Q3:Int→Prop) (Q4:Int→Int→Int→Nat→LI→LI→Int→Int→Int→Int→Int→Int→Int→Int→Int→Prop) (Q5:Int→Int→Int→Nat→LI→LI→Int→Int→Int→Int→Int→Int→Int→Int→Int→Prop) (Q6:Int→Prop) (Q7:RS→Int→Prop) (Q8:Int→Int→Int→Nat→LI→LI→Int→Int→Int→Int→Int→Int→Int→Int→Int→Prop) (Q9:Int→Prop) (Q10:Int→Int→Int→Nat→LI→LI→Int→Int→Int→Int→Int→Int→Int→Int→Int→Prop) (R_:RS×Bool→Prop) (O_:Int→Int→Int→Nat→LI→LI→Int→Int→Int→Int→Int→Int→Int→Int→Bool→Prop):Prop:=(Ap ((0:Int)≤1∧(1:Int)<8) (O_ (t_) (p_) (h_) (n_) (a_) (z_) (r0_) (u) (r2_) (r3_) (r4_) (r5_) (r6_) (r7_) (true)))
def VU (s:RS) (k a c e u v t_ p_ h_:Int) (n_:Nat) (a_ z_:LI) (r0_ r1_ r2_ r3_ r4_ r5_ r6_ r7_:Int) (Q0:RS→Prop) (Q1:Int→Int→Int→Nat→LI→LI→Int→Int→Int→Int→Int→Int→Int→Int→Prop) (Q2:Int→Int→Int→Nat→LI→LI→Int→Int→Int→Int→Int→Int→Int→Int→Int→Prop) (Q3:Int→Prop) (Q4:Int→Int→Int→Nat→LI→LI→Int→Int→Int→Int→Int→Int→Int→Int→Int→Prop) (Q5:Int→Int→Int→Nat→LI→LI→Int→Int→Int→Int→Int→Int→Int→Int→Int→Prop) (Q6:Int→Prop) (Q7:RS→Int→Prop) (Q8:Int→Int→Int→Nat→LI→LI→Int→Int→Int→Int→Int→Int→Int→Int→Int→Prop) (Q9:Int→Prop) (Q10:Int→Int→Int→Nat→LI→LI→Int→Int→Int→Int→Int→Int→Int→Int→Int→Prop) (R_:RS×Bool→Prop) (O_:Int→Int→Int→Nat→LI→LI→Int→Int→Int→Int→Int→Int→Int→Int→Bool→Prop):Prop:=(Ap ((0:Int)≤2∧(2:Int)<8) (O_ (t_) (p_) (h_) (n_) (a_) (z_) (r0_) (r1_) (u) (r3_) (r4_) (r5_) (r6_) (r7_) (true)))
def VV (s:RS) (k a c e u v t_ p_ h_:Int) (n_:Nat) (a_ z_:LI) (r0_ r1_ r2_ r3_ r4_ r5_ r6_ r7_:Int) (Q0:RS→Prop) (Q1:Int→Int→Int→Nat→LI→LI→Int→Int→Int→Int→Int→Int→Int→Int→Prop) (Q2:Int→Int→Int→Nat→LI→LI→Int→Int→Int→Int→Int→Int→Int→Int→Int→Prop) (Q3:Int→Prop) (Q4:Int→Int→Int→Nat→LI→LI→Int→Int→Int→Int→Int→Int→Int→Int→Int→Prop) (Q5:Int→Int→Int→Nat→LI→LI→Int→Int→Int→Int→Int→Int→Int→Int→Int→Prop) (Q6:Int→Prop) (Q7:RS→Int→Prop) (Q8:Int→Int→Int→Nat→LI→LI→Int→Int→Int→Int→Int→Int→Int→Int→Int→Prop) (Q9:Int→Prop) (Q10:Int→Int→Int→Nat→LI→LI→Int→Int→Int→Int→Int→Int→Int→Int→Int→Prop) (R_:RS×Bool→Prop) (O_:Int→Int→Int→Nat→LI→LI→Int→Int→Int→Int→Int→Int→Int→Int→Bool→Prop):Prop:=(Ap ((0:Int)≤3∧(3:Int)<8) (O_ (t_) (p_) (h_) (n_) (a_) (z_) (r0_) (r1_) (r2_) (u) (r4_) (r5_) (r6_) (r7_) (true)))
def VW (s:RS) (k a c e u v t_ p_ h_:Int) (n_:Nat) (a_ z_:LI) (r0_ r1_ r2_ r3_ r4_ r5_ r6_ r7_:Int) (Q0:RS→Prop) (Q1:Int→Int→Int→Nat→LI→LI→Int→Int→Int→Int→Int→Int→Int→Int→Prop) (Q2:Int→Int→Int→Nat→LI→LI→Int→Int→Int→Int→Int→Int→Int→Int→Int→Prop) (Q3:Int→Prop) (Q4:Int→Int→Int→Nat→LI→LI→Int→Int→Int→Int→Int→Int→Int→Int→Int→Prop) (Q5:Int→Int→Int→Nat→LI→LI→Int→Int→Int→Int→Int→Int→Int→Int→Int→Prop) (Q6:Int→Prop) (Q7:RS→Int→Prop) (Q8:Int→Int→Int→Nat→LI→LI→Int→Int→Int→Int→Int→Int→Int→Int→Int→Prop) (Q9:Int→Prop) (Q10:Int→Int→Int→Nat→LI→LI→Int→Int→Int→Int→Int→Int→Int→Int→Int→Prop) (R_:RS×Bool→Prop) (O_:Int→Int→Int→Nat→LI→LI→Int→Int→Int→Int→Int→Int→Int→Int→Bool→Prop):Prop:=(Ap ((0:Int)≤4∧(4:Int)<8) (O_ (t_) (p_) (h_) (n_) (a_) (z_) (r0_) (r1_) (r2_) (r3_) (u) (r5_) (r6_) (r7_) (true)))
def VX (s:RS) (k a c e u v t_ p_ h_:Int) (n_:Nat) (a_ z_:LI) (r0_ r1_ r2_ r3_ r4_ r5_ r6_ r7_:Int) (Q0:RS→Prop) (Q1:Int→Int→Int→Nat→LI→LI→Int→Int→Int→Int→Int→Int→Int→Int→Prop) (Q2:Int→Int→Int→Nat→LI→LI→Int→Int→Int→Int→Int→Int→Int→Int→Int→Prop) (Q3:Int→Prop) (Q4:Int→Int→Int→Nat→LI→LI→Int→Int→Int→Int→Int→Int→Int→Int→Int→Prop) (Q5:Int→Int→Int→Nat→LI→LI→Int→Int→Int→Int→Int→Int→Int→Int→Int→Prop) (Q6:Int→Prop) (Q7:RS→Int→Prop) (Q8:Int→Int→Int→Nat→LI→LI→Int→Int→Int→Int→Int→Int→Int→Int→Int→Prop) (Q9:Int→Prop) (Q10:Int→Int→Int→Nat→LI→LI→Int→Int→Int→Int→Int→Int→Int→Int→Int→Prop) (R_:RS×Bool→Prop) (O_:Int→Int→Int→Nat→LI→LI→Int→Int→Int→Int→Int→Int→Int→Int→Bool→Prop):Prop:=(Ap ((0:Int)≤5∧(5:Int)<8) (O_ (t_) (p_) (h_) (n_) (a_) (z_) (r0_) (r1_) (r2_) (r3_) (r4_) (u) (r6_) (r7_) (true)))
def VY (s:RS) (k a c e u v t_ p_ h_:Int) (n_:Nat) (a_ z_:LI) (r0_ r1_ r2_ r3_ r4_ r5_ r6_ r7_:Int) (Q0:RS→Prop) (Q1:Int→Int→Int→Nat→LI→LI→Int→Int→Int→Int→Int→Int→Int→Int→Prop) (Q2:Int→Int→Int→Nat→LI→LI→Int→Int→Int→Int→Int→Int→Int→Int→Int→Prop) (Q3:Int→Prop) (Q4:Int→Int→Int→Nat→LI→LI→Int→Int→Int→Int→Int→Int→Int→Int→Int→Prop) (Q5:Int→Int→Int→Nat→LI→LI→Int→Int→Int→Int→Int→Int→Int→Int→Int→Prop) (Q6:Int→Prop) (Q7:RS→Int→Prop) (Q8:Int→Int→Int→Nat→LI→LI→Int→Int→Int→Int→Int→Int→Int→Int→Int→Prop) (Q9:Int→Prop) (Q10:Int→Int→Int→Nat→LI→LI→Int→Int→Int→Int→Int→Int→Int→Int→Int→Prop) (R_:RS×Bool→Prop) (O_:Int→Int→Int→Nat→LI→LI→Int→Int→Int→Int→Int→Int→Int→Int→Bool→Prop):Prop:=(Ap ((0:Int)≤6∧(6:Int)<8) (O_ (t_) (p_) (h_) (n_) (a_) (z_) (r0_) (r1_) (r2_) (r3_) (r4_) (r5_) (u) (r7_) (true)))
def VZ (s:RS) (k a c e u v t_ p_ h_:Int) (n_:Nat) (a_ z_:LI) (r0_ r1_ r2_ r3_ r4_ r5_ r6_ r7_:Int) (Q0:RS→Prop) (Q1:Int→Int→Int→Nat→LI→LI→Int→Int→Int→Int→Int→Int→Int→Int→Prop) (Q2:Int→Int→Int→Nat→LI→LI→Int→Int→Int→Int→Int→Int→Int→Int→Int→Prop) (Q3:Int→Prop) (Q4:Int→Int→Int→Nat→LI→LI→Int→Int→Int→Int→Int→Int→Int→Int→Int→Prop) (Q5:Int→Int→Int→Nat→LI→LI→Int→Int→Int→Int→Int→Int→Int→Int→Int→Prop) (Q6:Int→Prop) (Q7:RS→Int→Prop) (Q8:Int→Int→Int→Nat→LI→LI→Int→Int→Int→Int→Int→Int→Int→Int→Int→Prop) (Q9:Int→Prop) (Q10:Int→Int→Int→Nat→LI→LI→Int→Int→Int→Int→Int→Int→Int→Int→Int→Prop) (R_:RS×Bool→Prop) (O_:Int→Int→Int→Nat→LI→LI→Int→Int→Int→Int→Int→Int→Int→Int→Bool→Prop):Prop:=(Ap ((0:Int)≤7∧(7:Int)<8) (O_ (t_) (p_) (h_) (n_) (a_) (z_) (r0_) (r1_) (r2_) (r3_) (r4_) (r5_) (r6_) (u) (true)))
def Aj (s:RS) (k a c e u v t_ p_ h_:Int) (n_:Nat) (a_ z_:LI) (r0_ r1_ r2_ r3_ r4_ r5_ r6_ r7_ i_:Int):Prop:=Bj ⟨t_,p_,h_,n_,a_,z_,r0_,r1_,r2_,r3_,r4_,r5_,r6_,r7_⟩ (DL s u (BJ s.t s.p s.h c).1)∧i_=a∧0≤a∧a<8∧k=4∧AZ s k a c e u v=true∧e=0
def AbF (s:RS) (k a c e u v i_ t_ p_ h_:Int) (n_:Nat) (al_ zl_:LI) (x0_ x1_ x2_ x3_ x4_ x5_ x6_ x7_:Int) (Q10:Int→Int→Int→Nat→LI→LI→Int→Int→Int→Int→Int→Int→Int→Int→Int→Prop):Prop:=(Q10 (t_) (p_) (h_) (n_) (al_) (zl_) (x0_) (x1_) (x2_) (x3_) (x4_) (x5_) (x6_) (x7_) (i_))
def AO (s:RS) (k a c e u v i_:Int):Prop:=i_=a∧0≤a∧a<8∧k=5∧AZ s k a c e u v=true∧e=0
def Ux (s:RS) (k a c e u v t_ p_ h_:Int) (n_:Nat) (a_ z_:LI) (r0_ r1_ r2_ r3_ r4_ r5_ r6_ r7_:Int) (Q0:RS→Prop) (Q1:Int→Int→Int→Nat→LI→LI→Int→Int→Int→Int→Int→Int→Int→Int→Prop) (Q2:Int→Int→Int→Nat→LI→LI→Int→Int→Int→Int→Int→Int→Int→Int→Int→Prop) (Q3:Int→Prop) (Q4:Int→Int→Int→Nat→LI→LI→Int→Int→Int→Int→Int→Int→Int→Int→Int→Prop) (Q5:Int→Int→Int→Nat→LI→LI→Int→Int→Int→Int→Int→Int→Int→Int→Int→Prop) (Q6:Int→Prop) (Q7:RS→Int→Prop) (Q8:Int→Int→Int→Nat→LI→LI→Int→Int→Int→Int→Int→Int→Int→Int→Int→Prop) (Q9:Int→Prop) (Q10:Int→Int→Int→Nat→LI→LI→Int→Int→Int→Int→Int→Int→Int→Int→Int→Prop) (R_:RS×Bool→Prop) (O_:Int→Int→Int→Nat→LI→LI→Int→Int→Int→Int→Int→Int→Int→Int→Bool→Prop):Prop:=(Ap ((0:Int)≤0∧(0:Int)<8) (O_ (t_) (p_) (h_) (n_) (a_) (z_) (c) (r1_) (r2_) (r3_) (r4_) (r5_) (r6_) (r7_) (true)))
def Uy (s:RS) (k a c e u v t_ p_ h_:Int) (n_:Nat) (a_ z_:LI) (r0_ r1_ r2_ r3_ r4_ r5_ r6_ r7_:Int) (Q0:RS→Prop) (Q1:Int→Int→Int→Nat→LI→LI→Int→Int→Int→Int→Int→Int→Int→Int→Prop) (Q2:Int→Int→Int→Nat→LI→LI→Int→Int→Int→Int→Int→Int→Int→Int→Int→Prop) (Q3:Int→Prop) (Q4:Int→Int→Int→Nat→LI→LI→Int→Int→Int→Int→Int→Int→Int→Int→Int→Prop) (Q5:Int→Int→Int→Nat→LI→LI→Int→Int→Int→Int→Int→Int→Int→Int→Int→Prop) (Q6:Int→Prop) (Q7:RS→Int→Prop) (Q8:Int→Int→Int→Nat→LI→LI→Int→Int→Int→Int→Int→Int→Int→Int→Int→Prop) (Q9:Int→Prop) (Q10:Int→Int→Int→Nat→LI→LI→Int→Int→Int→Int→Int→Int→Int→Int→Int→Prop) (R_:RS×Bool→Prop) (O_:Int→Int→Int→Nat→LI→LI→Int→Int→Int→Int→Int→Int→Int→Int→Bool→Prop):Prop:=(Ap ((0:Int)≤1∧(1:Int)<8) (O_ (t_) (p_) (h_) (n_) (a_) (z_) (r0_) (c) (r2_) (r3_) (r4_) (r5_) (r6_) (r7_) (true)))
def Uz (s:RS) (k a c e u v t_ p_ h_:Int) (n_:Nat) (a_ z_:LI) (r0_ r1_ r2_ r3_ r4_ r5_ r6_ r7_:Int) (Q0:RS→Prop) (Q1:Int→Int→Int→Nat→LI→LI→Int→Int→Int→Int→Int→Int→Int→Int→Prop) (Q2:Int→Int→Int→Nat→LI→LI→Int→Int→Int→Int→Int→Int→Int→Int→Int→Prop) (Q3:Int→Prop) (Q4:Int→Int→Int→Nat→LI→LI→Int→Int→Int→Int→Int→Int→Int→Int→Int→Prop) (Q5:Int→Int→Int→Nat→LI→LI→Int→Int→Int→Int→Int→Int→Int→Int→Int→Prop) (Q6:Int→Prop) (Q7:RS→Int→Prop) (Q8:Int→Int→Int→Nat→LI→LI→Int→Int→Int→Int→Int→Int→Int→Int→Int→Prop) (Q9:Int→Prop) (Q10:Int→Int→Int→Nat→LI→LI→Int→Int→Int→Int→Int→Int→Int→Int→Int→Prop) (R_:RS×Bool→Prop) (O_:Int→Int→Int→Nat→LI→LI→Int→Int→Int→Int→Int→Int→Int→Int→Bool→Prop):Prop:=(Ap ((0:Int)≤2∧(2:Int)<8) (O_ (t_) (p_) (h_) (n_) (a_) (z_) (r0_) (r1_) (c) (r3_) (r4_) (r5_) (r6_) (r7_) (true)))
def U0 (s:RS) (k a c e u v t_ p_ h_:Int) (n_:Nat) (a_ z_:LI) (r0_ r1_ r2_ r3_ r4_ r5_ r6_ r7_:Int) (Q0:RS→Prop) (Q1:Int→Int→Int→Nat→LI→LI→Int→Int→Int→Int→Int→Int→Int→Int→Prop) (Q2:Int→Int→Int→Nat→LI→LI→Int→Int→Int→Int→Int→Int→Int→Int→Int→Prop) (Q3:Int→Prop) (Q4:Int→Int→Int→Nat→LI→LI→Int→Int→Int→Int→Int→Int→Int→Int→Int→Prop) (Q5:Int→Int→Int→Nat→LI→LI→Int→Int→Int→Int→Int→Int→Int→Int→Int→Prop) (Q6:Int→Prop) (Q7:RS→Int→Prop) (Q8:Int→Int→Int→Nat→LI→LI→Int→Int→Int→Int→Int→Int→Int→Int→Int→Prop) (Q9:Int→Prop) (Q10:Int→Int→Int→Nat→LI→LI→Int→Int→Int→Int→Int→Int→Int→Int→Int→Prop) (R_:RS×Bool→Prop) (O_:Int→Int→Int→Nat→LI→LI→Int→Int→Int→Int→Int→Int→Int→Int→Bool→Prop):Prop:=(Ap ((0:Int)≤3∧(3:Int)<8) (O_ (t_) (p_) (h_) (n_) (a_) (z_) (r0_) (r1_) (r2_) (c) (r4_) (r5_) (r6_) (r7_) (true)))
def U1 (s:RS) (k a c e u v t_ p_ h_:Int) (n_:Nat) (a_ z_:LI) (r0_ r1_ r2_ r3_ r4_ r5_ r6_ r7_:Int) (Q0:RS→Prop) (Q1:Int→Int→Int→Nat→LI→LI→Int→Int→Int→Int→Int→Int→Int→Int→Prop) (Q2:Int→Int→Int→Nat→LI→LI→Int→Int→Int→Int→Int→Int→Int→Int→Int→Prop) (Q3:Int→Prop) (Q4:Int→Int→Int→Nat→LI→LI→Int→Int→Int→Int→Int→Int→Int→Int→Int→Prop) (Q5:Int→Int→Int→Nat→LI→LI→Int→Int→Int→Int→Int→Int→Int→Int→Int→Prop) (Q6:Int→Prop) (Q7:RS→Int→Prop) (Q8:Int→Int→Int→Nat→LI→LI→Int→Int→Int→Int→Int→Int→Int→Int→Int→Prop) (Q9:Int→Prop) (Q10:Int→Int→Int→Nat→LI→LI→Int→Int→Int→Int→Int→Int→Int→Int→Int→Prop) (R_:RS×Bool→Prop) (O_:Int→Int→Int→Nat→LI→LI→Int→Int→Int→Int→Int→Int→Int→Int→Bool→Prop):Prop:=(Ap ((0:Int)≤4∧(4:Int)<8) (O_ (t_) (p_) (h_) (n_) (a_) (z_) (r0_) (r1_) (r2_) (r3_) (c) (r5_) (r6_) (r7_) (true)))
def U2 (s:RS) (k a c e u v t_ p_ h_:Int) (n_:Nat) (a_ z_:LI) (r0_ r1_ r2_ r3_ r4_ r5_ r6_ r7_:Int) (Q0:RS→Prop) (Q1:Int→Int→Int→Nat→LI→LI→Int→Int→Int→Int→Int→Int→Int→Int→Prop) (Q2:Int→Int→Int→Nat→LI→LI→Int→Int→Int→Int→Int→Int→Int→Int→Int→Prop) (Q3:Int→Prop) (Q4:Int→Int→Int→Nat→LI→LI→Int→Int→Int→Int→Int→Int→Int→Int→Int→Prop) (Q5:Int→Int→Int→Nat→LI→LI→Int→Int→Int→Int→Int→Int→Int→Int→Int→Prop) (Q6:Int→Prop) (Q7:RS→Int→Prop) (Q8:Int→Int→Int→Nat→LI→LI→Int→Int→Int→Int→Int→Int→Int→Int→Int→Prop) (Q9:Int→Prop) (Q10:Int→Int→Int→Nat→LI→LI→Int→Int→Int→Int→Int→Int→Int→Int→Int→Prop) (R_:RS×Bool→Prop) (O_:Int→Int→Int→Nat→LI→LI→Int→Int→Int→Int→Int→Int→Int→Int→Bool→Prop):Prop:=(Ap ((0:Int)≤5∧(5:Int)<8) (O_ (t_) (p_) (h_) (n_) (a_) (z_) (r0_) (r1_) (r2_) (r3_) (r4_) (c) (r6_) (r7_) (true)))
def U3 (s:RS) (k a c e u v t_ p_ h_:Int) (n_:Nat) (a_ z_:LI) (r0_ r1_ r2_ r3_ r4_ r5_ r6_ r7_:Int) (Q0:RS→Prop) (Q1:Int→Int→Int→Nat→LI→LI→Int→Int→Int→Int→Int→Int→Int→Int→Prop) (Q2:Int→Int→Int→Nat→LI→LI→Int→Int→Int→Int→Int→Int→Int→Int→Int→Prop) (Q3:Int→Prop) (Q4:Int→Int→Int→Nat→LI→LI→Int→Int→Int→Int→Int→Int→Int→Int→Int→Prop) (Q5:Int→Int→Int→Nat→LI→LI→Int→Int→Int→Int→Int→Int→Int→Int→Int→Prop) (Q6:Int→Prop) (Q7:RS→Int→Prop) (Q8:Int→Int→Int→Nat→LI→LI→Int→Int→Int→Int→Int→Int→Int→Int→Int→Prop) (Q9:Int→Prop) (Q10:Int→Int→Int→Nat→LI→LI→Int→Int→Int→Int→Int→Int→Int→Int→Int→Prop) (R_:RS×Bool→Prop) (O_:Int→Int→Int→Nat→LI→LI→Int→Int→Int→Int→Int→Int→Int→Int→Bool→Prop):Prop:=(Ap ((0:Int)≤6∧(6:Int)<8) (O_ (t_) (p_) (h_) (n_) (a_) (z_) (r0_) (r1_) (r2_) (r3_) (r4_) (r5_) (c) (r7_) (true)))
def U4 (s:RS) (k a c e u v t_ p_ h_:Int) (n_:Nat) (a_ z_:LI) (r0_ r1_ r2_ r3_ r4_ r5_ r6_ r7_:Int) (Q0:RS→Prop) (Q1:Int→Int→Int→Nat→LI→LI→Int→Int→Int→Int→Int→Int→Int→Int→Prop) (Q2:Int→Int→Int→Nat→LI→LI→Int→Int→Int→Int→Int→Int→Int→Int→Int→Prop) (Q3:Int→Prop) (Q4:Int→Int→Int→Nat→LI→LI→Int→Int→Int→Int→Int→Int→Int→Int→Int→Prop) (Q5:Int→Int→Int→Nat→LI→LI→Int→Int→Int→Int→Int→Int→Int→Int→Int→Prop) (Q6:Int→Prop) (Q7:RS→Int→Prop) (Q8:Int→Int→Int→Nat→LI→LI→Int→Int→Int→Int→Int→Int→Int→Int→Int→Prop) (Q9:Int→Prop) (Q10:Int→Int→Int→Nat→LI→LI→Int→Int→Int→Int→Int→Int→Int→Int→Int→Prop) (R_:RS×Bool→Prop) (O_:Int→Int→Int→Nat→LI→LI→Int→Int→Int→Int→Int→Int→Int→Int→Bool→Prop):Prop:=(Ap ((0:Int)≤7∧(7:Int)<8) (O_ (t_) (p_) (h_) (n_) (a_) (z_) (r0_) (r1_) (r2_) (r3_) (r4_) (r5_) (r6_) (c) (true)))
def Ah (s:RS) (k a c e u v t_ p_ h_:Int) (n_:Nat) (a_ z_:LI) (r0_ r1_ r2_ r3_ r4_ r5_ r6_ r7_ i_:Int):Prop:=Bj ⟨t_,p_,h_,n_,a_,z_,r0_,r1_,r2_,r3_,r4_,r5_,r6_,r7_⟩ s∧i_=a∧0≤a∧a<8∧k=5∧AZ s k a c e u v=true∧e=0
theorem Af9 (s:RS) (k a c e u v:Int) (hp0:s.a.length≤1000):AeQ s k a c e u v (λq_'=>AA s k a c e u v q_') (λt_' p_' h_' n_' a_' z_' r0_' r1_' r2_' r3_' r4_' r5_' r6_' r7_'=>Az s k a c e u v t_' p_' h_' n_' a_' z_' r0_' r1_' r2_' r3_' r4_' r5_' r6_' r7_') (λt_' p_' h_' n_' a_' z_' r0_' r1_' r2_' r3_' r4_' r5_' r6_' r7_' i_'=>Ai s k a c e u v t_' p_' h_' n_' a_' z_' r0_' r1_' r2_' r3_' r4_' r5_' r6_' r7_' i_') (λk_'=>AB s k a c e u v k_') (λt_' p_' h_' n_' a_' z_' r0_' r1_' r2_' r3_' r4_' r5_' r6_' r7_' k_'=>A7 s k a c e u v t_' p_' h_' n_' a_' z_' r0_' r1_' r2_' r3_' r4_' r5_' r6_' r7_' k_') (λt_' p_' h_' n_' a_' z_' r0_' r1_' r2_' r3_' r4_' r5_' r6_' r7_' w_'=>AC s k a c e u v t_' p_' h_' n_' a_' z_' r0_' r1_' r2_' r3_' r4_' r5_' r6_' r7_' w_') (λw_'=>Aw s k a c e u v w_') (λq_' i_'=>AL s k a c e u v q_' i_') (λt_' p_' h_' n_' a_' z_' r0_' r1_' r2_' r3_' r4_' r5_' r6_' r7_' i_'=>Aj s k a c e u v t_' p_' h_' n_' a_' z_' r0_' r1_' r2_' r3_' r4_' r5_' r6_' r7_' i_') (λi_'=>AO s k a c e u v i_') (λt_' p_' h_' n_' a_' z_' r0_' r1_' r2_' r3_' r4_' r5_' r6_' r7_' i_'=>Ah s k a c e u v t_' p_' h_' n_' a_' z_' r0_' r1_' r2_' r3_' r4_' r5_' r6_' r7_' i_') (λr__=>r__=(Ae s k a c e u v)) (λt_ p_ h_ n_ al_ zl_ x0_ x1_ x2_ x3_ x4_ x5_ x6_ x7_ r_=>Bj ⟨t_,p_,h_,n_,al_,zl_,x0_,x1_,x2_,x3_,x4_,x5_,x6_,x7_⟩ ((Ae s k a c e u v).1)∧r_=(Ae s k a c e u v).2):=by
 unfold AeQ
 try unfold AA
 try unfold Az
 try unfold Ai
 try unfold AB
 try unfold A7
 try unfold AC
 try unfold Aw
 try unfold AL
 try unfold Aj
 try unfold AO
 try unfold Ah
 rintro r2 hr2
 have hr2:r2=AZ s k a c e u v:=hr2
 subst hr2
 refine ⟨hp0, λ_=>⟨λh=>?_, λh=>⟨λhe=>?_, λhe=>?_⟩⟩⟩
 ·show _=Ae s k a c e u v
  unfold Ae;rw [h];rfl
 ·show _=Ae s k a c e u v
  unfold Ae;rw [h,he];rfl
 rintro r6 rfl
 refine ⟨hp0, λ_=>?_⟩
 have hA:AZ s k a c e u v=true:=by simpa using h
 have h0:e=0:=by simpa using he
 subst h0
 have key:Ae s k a c 0 u v=(Io s k a c u v,true):=by unfold Ae;rw [hA];rfl
 refine ⟨λh1=>?_, λh1=>⟨λh2=>?_, λh2=>⟨λh3=>?_, λh3=>⟨λh4=>⟨rfl,by simpa using h4,hA,rfl⟩, λh4=>⟨λh5=>?_, λh5=>?_⟩⟩⟩⟩⟩
 ·rintro r9 rfl
  refine ⟨hp0, λ_=>?_⟩
  show _=Ae s k a c 0 u v
  rw [key];unfold Io;rw [h1];rfl
 ·rintro r10 rfl
  refine ⟨hp0, λ_=>⟨alN hA (by rw [h2];rfl), λ_=>?_⟩⟩
  show _=Ae s k a c 0 u v
  rw [key];unfold Io;rw [h1,h2];rfl
 ·rintro r11 rfl
  refine ⟨hp0, λ_=>⟨alN hA (by rw [h3];simp), λ_=>?_⟩⟩
  rintro r14 rfl
  exact ⟨AnE hp0, λ_=>⟨rfl,by simpa using h3,hA,rfl⟩⟩
 ·have hk:k=5:=by simpa using h5
  subst hk
  have h8:=AsJ hA
  exact ⟨rfl,h8.1,h8.2,rfl,hA,rfl⟩
 ·show _=Ae s k a c 0 u v
  rw [key];unfold Io;rw [h1,h2,h3,h4,h5];rfl
theorem AfA (s:RS) (k a c e u v:Int) (hp0:s.a.length≤1000) (q_:RS) (t_ p_ h_:Int) (n_:Nat) (al_ zl_:LI) (x0_ x1_ x2_ x3_ x4_ x5_ x6_ x7_:Int) (hI:AA s k a c e u v q_) (hx:Bj ⟨t_,p_,h_,n_,al_,zl_,x0_,x1_,x2_,x3_,x4_,x5_,x6_,x7_⟩ (q_)):Ab9 s k a c e u v q_ t_ p_ h_ n_ al_ zl_ x0_ x1_ x2_ x3_ x4_ x5_ x6_ x7_ (λt_' p_' h_' n_' a_' z_' r0_' r1_' r2_' r3_' r4_' r5_' r6_' r7_'=>Az s k a c e u v t_' p_' h_' n_' a_' z_' r0_' r1_' r2_' r3_' r4_' r5_' r6_' r7_'∧lx (19,0,0) (20,0,0)):=by
 unfold AA at hI
 unfold Ab9
 try unfold AA
 try unfold Az
 try unfold Ai
 try unfold AB
 try unfold A7
 try unfold AC
 try unfold Aw
 try unfold AL
 try unfold Aj
 try unfold AO
 try unfold Ah
 obtain ⟨rfl,h⟩:=hI
 exact ⟨⟨hx,h⟩,Bo⟩
theorem AfB (s:RS) (k a c e u v:Int) (hp0:s.a.length≤1000) (t_ p_ h_:Int) (n_:Nat) (a_ z_:LI) (r0_ r1_ r2_ r3_ r4_ r5_ r6_ r7_:Int) (hI:Az s k a c e u v t_ p_ h_ n_ a_ z_ r0_ r1_ r2_ r3_ r4_ r5_ r6_ r7_):AbA s k a c e u v t_ p_ h_ n_ a_ z_ r0_ r1_ r2_ r3_ r4_ r5_ r6_ r7_ (λq_'=>AA s k a c e u v q_'∧lx (20,0,0) (19,0,0)) (λt_' p_' h_' n_' a_' z_' r0_' r1_' r2_' r3_' r4_' r5_' r6_' r7_'=>Az s k a c e u v t_' p_' h_' n_' a_' z_' r0_' r1_' r2_' r3_' r4_' r5_' r6_' r7_'∧lx (19,0,0) (19,0,0)) (λt_' p_' h_' n_' a_' z_' r0_' r1_' r2_' r3_' r4_' r5_' r6_' r7_' i_'=>Ai s k a c e u v t_' p_' h_' n_' a_' z_' r0_' r1_' r2_' r3_' r4_' r5_' r6_' r7_' i_'∧lx (18,(8-i_').toNat,0) (19,0,0)) (λk_'=>AB s k a c e u v k_'∧lx (17,0,0) (19,0,0)) (λt_' p_' h_' n_' a_' z_' r0_' r1_' r2_' r3_' r4_' r5_' r6_' r7_' k_'=>A7 s k a c e u v t_' p_' h_' n_' a_' z_' r0_' r1_' r2_' r3_' r4_' r5_' r6_' r7_' k_'∧lx (16,0,0) (19,0,0)) (λt_' p_' h_' n_' a_' z_' r0_' r1_' r2_' r3_' r4_' r5_' r6_' r7_' w_'=>AC s k a c e u v t_' p_' h_' n_' a_' z_' r0_' r1_' r2_' r3_' r4_' r5_' r6_' r7_' w_'∧lx (15,0,0) (19,0,0)) (λw_'=>Aw s k a c e u v w_'∧lx (14,0,0) (19,0,0)) (λq_' i_'=>AL s k a c e u v q_' i_'∧lx (13,0,0) (19,0,0)) (λt_' p_' h_' n_' a_' z_' r0_' r1_' r2_' r3_' r4_' r5_' r6_' r7_' i_'=>Aj s k a c e u v t_' p_' h_' n_' a_' z_' r0_' r1_' r2_' r3_' r4_' r5_' r6_' r7_' i_'∧lx (12,0,0) (19,0,0)) (λi_'=>AO s k a c e u v i_'∧lx (11,0,0) (19,0,0)) (λt_' p_' h_' n_' a_' z_' r0_' r1_' r2_' r3_' r4_' r5_' r6_' r7_' i_'=>Ah s k a c e u v t_' p_' h_' n_' a_' z_' r0_' r1_' r2_' r3_' r4_' r5_' r6_' r7_' i_'∧lx (10,0,0) (19,0,0)) (λr__=>r__=(Ae s k a c e u v)) (λt_ p_ h_ n_ al_ zl_ x0_ x1_ x2_ x3_ x4_ x5_ x6_ x7_ r_=>Bj ⟨t_,p_,h_,n_,al_,zl_,x0_,x1_,x2_,x3_,x4_,x5_,x6_,x7_⟩ ((Ae s k a c e u v).1)∧r_=(Ae s k a c e u v).2):=by
 unfold Az at hI
 unfold AbA
 try unfold AA
 try unfold Az
 try unfold Ai
 try unfold AB
 try unfold A7
 try unfold AC
 try unfold Aw
 try unfold AL
 try unfold Aj
 try unfold AO
 try unfold Ah
 obtain ⟨hR,rfl,hA,rfl⟩:=hI
 exact ⟨⟨⟨hR.n,hR.z,by show LU _ _ _ 0=_;rw [←hR.eq];rfl⟩,by decide,by decide,rfl,hA,rfl⟩,Bo⟩
theorem AjI (s:RS) (k a c e u v:Int) (hp0:s.a.length≤1000) (t_ p_ h_:Int) (n_:Nat) (a_ z_:LI) (r0_ r1_ r2_ r3_ r4_ r5_ r6_ r7_ i_:Int) (hI:Ai s k a c e u v t_ p_ h_ n_ a_ z_ r0_ r1_ r2_ r3_ r4_ r5_ r6_ r7_ i_):i_=0∨i_=1∨i_=2∨i_=3∨i_=4∨i_=5∨i_=6∨i_=7∨i_=8:=by
 unfold Ai at hI
 omega
theorem AbG (s:RS) (k a c e u v:Int) (hp0:s.a.length≤1000) (t_ p_ h_:Int) (n_:Nat) (a_ z_:LI) (r0_ r1_ r2_ r3_ r4_ r5_ r6_ r7_:Int) (hI:Ai s k a c e u v t_ p_ h_ n_ a_ z_ r0_ r1_ r2_ r3_ r4_ r5_ r6_ r7_ (0:Int)):VJ s k a c e u v t_ p_ h_ n_ a_ z_ r0_ r1_ r2_ r3_ r4_ r5_ r6_ r7_ (λq_'=>AA s k a c e u v q_'∧lx (20,0,0) (18,(8-(0:Int)).toNat,0)) (λt_' p_' h_' n_' a_' z_' r0_' r1_' r2_' r3_' r4_' r5_' r6_' r7_'=>Az s k a c e u v t_' p_' h_' n_' a_' z_' r0_' r1_' r2_' r3_' r4_' r5_' r6_' r7_'∧lx (19,0,0) (18,(8-(0:Int)).toNat,0)) (λt_' p_' h_' n_' a_' z_' r0_' r1_' r2_' r3_' r4_' r5_' r6_' r7_' i_'=>Ai s k a c e u v t_' p_' h_' n_' a_' z_' r0_' r1_' r2_' r3_' r4_' r5_' r6_' r7_' i_'∧lx (18,(8-i_').toNat,0) (18,(8-(0:Int)).toNat,0)) (λk_'=>AB s k a c e u v k_'∧lx (17,0,0) (18,(8-(0:Int)).toNat,0)) (λt_' p_' h_' n_' a_' z_' r0_' r1_' r2_' r3_' r4_' r5_' r6_' r7_' k_'=>A7 s k a c e u v t_' p_' h_' n_' a_' z_' r0_' r1_' r2_' r3_' r4_' r5_' r6_' r7_' k_'∧lx (16,0,0) (18,(8-(0:Int)).toNat,0)) (λt_' p_' h_' n_' a_' z_' r0_' r1_' r2_' r3_' r4_' r5_' r6_' r7_' w_'=>AC s k a c e u v t_' p_' h_' n_' a_' z_' r0_' r1_' r2_' r3_' r4_' r5_' r6_' r7_' w_'∧lx (15,0,0) (18,(8-(0:Int)).toNat,0)) (λw_'=>Aw s k a c e u v w_'∧lx (14,0,0) (18,(8-(0:Int)).toNat,0)) (λq_' i_'=>AL s k a c e u v q_' i_'∧lx (13,0,0) (18,(8-(0:Int)).toNat,0)) (λt_' p_' h_' n_' a_' z_' r0_' r1_' r2_' r3_' r4_' r5_' r6_' r7_' i_'=>Aj s k a c e u v t_' p_' h_' n_' a_' z_' r0_' r1_' r2_' r3_' r4_' r5_' r6_' r7_' i_'∧lx (12,0,0) (18,(8-(0:Int)).toNat,0)) (λi_'=>AO s k a c e u v i_'∧lx (11,0,0) (18,(8-(0:Int)).toNat,0)) (λt_' p_' h_' n_' a_' z_' r0_' r1_' r2_' r3_' r4_' r5_' r6_' r7_' i_'=>Ah s k a c e u v t_' p_' h_' n_' a_' z_' r0_' r1_' r2_' r3_' r4_' r5_' r6_' r7_' i_'∧lx (10,0,0) (18,(8-(0:Int)).toNat,0)) (λr__=>r__=(Ae s k a c e u v)) (λt_ p_ h_ n_ al_ zl_ x0_ x1_ x2_ x3_ x4_ x5_ x6_ x7_ r_=>Bj ⟨t_,p_,h_,n_,al_,zl_,x0_,x1_,x2_,x3_,x4_,x5_,x6_,x7_⟩ ((Ae s k a c e u v).1)∧r_=(Ae s k a c e u v).2):=by
 unfold Ai at hI
 unfold VJ
 try unfold AA
 try unfold Az
 try unfold Ai
 try unfold AB
 try unfold A7
 try unfold AC
 try unfold Aw
 try unfold AL
 try unfold Aj
 try unfold AO
 try unfold Ah
 obtain ⟨hR,_,_,rfl,hA,rfl⟩:=hI
 have hE:=hR.eq
 injection hE with e1 e2 e3 e4 e5 f0 f1 f2 f3 f4 f5 f6 f7
 refine ⟨λ_=>⟨by decide, λ_=>⟨λe=>⟨by decide, λ_=>⟨⟨⟨hR.n,hR.z,?_⟩,by decide,by decide,rfl,hA,rfl⟩,Bo⟩⟩, λe=>⟨⟨⟨hR.n,hR.z,?_⟩,by decide,by decide,rfl,hA,rfl⟩,Bo⟩⟩⟩, λh=>(by cases h)⟩
 ·have g:Gw (DL (D8 s (BK s.a a)) u v).r0 a u 1 0=u:=by
   have f:(DL (D8 s (BK s.a a)) u v).r0=r0_:=f0
   unfold Gw;rw [f,e];rfl
  simp only [LU,RS.mk.injEq]
  exact ⟨e1,e2,e3,e4,e5,g,f1,f2,f3,f4,f5,f6,f7⟩
 ·have g:Gw (DL (D8 s (BK s.a a)) u v).r0 a u 1 0=r0_:=by
   have f:(DL (D8 s (BK s.a a)) u v).r0=r0_:=f0
   unfold Gw;rw [f,e];rfl
  simp only [LU,RS.mk.injEq]
  exact ⟨e1,e2,e3,e4,e5,g,f1,f2,f3,f4,f5,f6,f7⟩
theorem AbH (s:RS) (k a c e u v:Int) (hp0:s.a.length≤1000) (t_ p_ h_:Int) (n_:Nat) (a_ z_:LI) (r0_ r1_ r2_ r3_ r4_ r5_ r6_ r7_:Int) (hI:Ai s k a c e u v t_ p_ h_ n_ a_ z_ r0_ r1_ r2_ r3_ r4_ r5_ r6_ r7_ (1:Int)):VK s k a c e u v t_ p_ h_ n_ a_ z_ r0_ r1_ r2_ r3_ r4_ r5_ r6_ r7_ (λq_'=>AA s k a c e u v q_'∧lx (20,0,0) (18,(8-(1:Int)).toNat,0)) (λt_' p_' h_' n_' a_' z_' r0_' r1_' r2_' r3_' r4_' r5_' r6_' r7_'=>Az s k a c e u v t_' p_' h_' n_' a_' z_' r0_' r1_' r2_' r3_' r4_' r5_' r6_' r7_'∧lx (19,0,0) (18,(8-(1:Int)).toNat,0)) (λt_' p_' h_' n_' a_' z_' r0_' r1_' r2_' r3_' r4_' r5_' r6_' r7_' i_'=>Ai s k a c e u v t_' p_' h_' n_' a_' z_' r0_' r1_' r2_' r3_' r4_' r5_' r6_' r7_' i_'∧lx (18,(8-i_').toNat,0) (18,(8-(1:Int)).toNat,0)) (λk_'=>AB s k a c e u v k_'∧lx (17,0,0) (18,(8-(1:Int)).toNat,0)) (λt_' p_' h_' n_' a_' z_' r0_' r1_' r2_' r3_' r4_' r5_' r6_' r7_' k_'=>A7 s k a c e u v t_' p_' h_' n_' a_' z_' r0_' r1_' r2_' r3_' r4_' r5_' r6_' r7_' k_'∧lx (16,0,0) (18,(8-(1:Int)).toNat,0)) (λt_' p_' h_' n_' a_' z_' r0_' r1_' r2_' r3_' r4_' r5_' r6_' r7_' w_'=>AC s k a c e u v t_' p_' h_' n_' a_' z_' r0_' r1_' r2_' r3_' r4_' r5_' r6_' r7_' w_'∧lx (15,0,0) (18,(8-(1:Int)).toNat,0)) (λw_'=>Aw s k a c e u v w_'∧lx (14,0,0) (18,(8-(1:Int)).toNat,0)) (λq_' i_'=>AL s k a c e u v q_' i_'∧lx (13,0,0) (18,(8-(1:Int)).toNat,0)) (λt_' p_' h_' n_' a_' z_' r0_' r1_' r2_' r3_' r4_' r5_' r6_' r7_' i_'=>Aj s k a c e u v t_' p_' h_' n_' a_' z_' r0_' r1_' r2_' r3_' r4_' r5_' r6_' r7_' i_'∧lx (12,0,0) (18,(8-(1:Int)).toNat,0)) (λi_'=>AO s k a c e u v i_'∧lx (11,0,0) (18,(8-(1:Int)).toNat,0)) (λt_' p_' h_' n_' a_' z_' r0_' r1_' r2_' r3_' r4_' r5_' r6_' r7_' i_'=>Ah s k a c e u v t_' p_' h_' n_' a_' z_' r0_' r1_' r2_' r3_' r4_' r5_' r6_' r7_' i_'∧lx (10,0,0) (18,(8-(1:Int)).toNat,0)) (λr__=>r__=(Ae s k a c e u v)) (λt_ p_ h_ n_ al_ zl_ x0_ x1_ x2_ x3_ x4_ x5_ x6_ x7_ r_=>Bj ⟨t_,p_,h_,n_,al_,zl_,x0_,x1_,x2_,x3_,x4_,x5_,x6_,x7_⟩ ((Ae s k a c e u v).1)∧r_=(Ae s k a c e u v).2):=by
 unfold Ai at hI
 unfold VK
 try unfold AA
 try unfold Az
 try unfold Ai
 try unfold AB
 try unfold A7
 try unfold AC
 try unfold Aw
 try unfold AL
 try unfold Aj
 try unfold AO
 try unfold Ah
 obtain ⟨hR,_,_,rfl,hA,rfl⟩:=hI
 have hE:=hR.eq
 injection hE with e1 e2 e3 e4 e5 f0 f1 f2 f3 f4 f5 f6 f7
 refine ⟨λ_=>⟨by decide, λ_=>⟨λe=>⟨by decide, λ_=>⟨⟨⟨hR.n,hR.z,?_⟩,by decide,by decide,rfl,hA,rfl⟩,Bo⟩⟩, λe=>⟨⟨⟨hR.n,hR.z,?_⟩,by decide,by decide,rfl,hA,rfl⟩,Bo⟩⟩⟩, λh=>(by cases h)⟩
 ·have g:Gw (DL (D8 s (BK s.a a)) u v).r1 a u 2 1=u:=by
   have f:(DL (D8 s (BK s.a a)) u v).r1=r1_:=f1
   unfold Gw;rw [f,e];rfl
  simp only [LU,RS.mk.injEq]
  exact ⟨e1,e2,e3,e4,e5,f0,g,f2,f3,f4,f5,f6,f7⟩
 ·have g:Gw (DL (D8 s (BK s.a a)) u v).r1 a u 2 1=r1_:=by
   have f:(DL (D8 s (BK s.a a)) u v).r1=r1_:=f1
   unfold Gw;rw [f,e];rfl
  simp only [LU,RS.mk.injEq]
  exact ⟨e1,e2,e3,e4,e5,f0,g,f2,f3,f4,f5,f6,f7⟩
theorem AbI (s:RS) (k a c e u v:Int) (hp0:s.a.length≤1000) (t_ p_ h_:Int) (n_:Nat) (a_ z_:LI) (r0_ r1_ r2_ r3_ r4_ r5_ r6_ r7_:Int) (hI:Ai s k a c e u v t_ p_ h_ n_ a_ z_ r0_ r1_ r2_ r3_ r4_ r5_ r6_ r7_ (2:Int)):VL s k a c e u v t_ p_ h_ n_ a_ z_ r0_ r1_ r2_ r3_ r4_ r5_ r6_ r7_ (λq_'=>AA s k a c e u v q_'∧lx (20,0,0) (18,(8-(2:Int)).toNat,0)) (λt_' p_' h_' n_' a_' z_' r0_' r1_' r2_' r3_' r4_' r5_' r6_' r7_'=>Az s k a c e u v t_' p_' h_' n_' a_' z_' r0_' r1_' r2_' r3_' r4_' r5_' r6_' r7_'∧lx (19,0,0) (18,(8-(2:Int)).toNat,0)) (λt_' p_' h_' n_' a_' z_' r0_' r1_' r2_' r3_' r4_' r5_' r6_' r7_' i_'=>Ai s k a c e u v t_' p_' h_' n_' a_' z_' r0_' r1_' r2_' r3_' r4_' r5_' r6_' r7_' i_'∧lx (18,(8-i_').toNat,0) (18,(8-(2:Int)).toNat,0)) (λk_'=>AB s k a c e u v k_'∧lx (17,0,0) (18,(8-(2:Int)).toNat,0)) (λt_' p_' h_' n_' a_' z_' r0_' r1_' r2_' r3_' r4_' r5_' r6_' r7_' k_'=>A7 s k a c e u v t_' p_' h_' n_' a_' z_' r0_' r1_' r2_' r3_' r4_' r5_' r6_' r7_' k_'∧lx (16,0,0) (18,(8-(2:Int)).toNat,0)) (λt_' p_' h_' n_' a_' z_' r0_' r1_' r2_' r3_' r4_' r5_' r6_' r7_' w_'=>AC s k a c e u v t_' p_' h_' n_' a_' z_' r0_' r1_' r2_' r3_' r4_' r5_' r6_' r7_' w_'∧lx (15,0,0) (18,(8-(2:Int)).toNat,0)) (λw_'=>Aw s k a c e u v w_'∧lx (14,0,0) (18,(8-(2:Int)).toNat,0)) (λq_' i_'=>AL s k a c e u v q_' i_'∧lx (13,0,0) (18,(8-(2:Int)).toNat,0)) (λt_' p_' h_' n_' a_' z_' r0_' r1_' r2_' r3_' r4_' r5_' r6_' r7_' i_'=>Aj s k a c e u v t_' p_' h_' n_' a_' z_' r0_' r1_' r2_' r3_' r4_' r5_' r6_' r7_' i_'∧lx (12,0,0) (18,(8-(2:Int)).toNat,0)) (λi_'=>AO s k a c e u v i_'∧lx (11,0,0) (18,(8-(2:Int)).toNat,0)) (λt_' p_' h_' n_' a_' z_' r0_' r1_' r2_' r3_' r4_' r5_' r6_' r7_' i_'=>Ah s k a c e u v t_' p_' h_' n_' a_' z_' r0_' r1_' r2_' r3_' r4_' r5_' r6_' r7_' i_'∧lx (10,0,0) (18,(8-(2:Int)).toNat,0)) (λr__=>r__=(Ae s k a c e u v)) (λt_ p_ h_ n_ al_ zl_ x0_ x1_ x2_ x3_ x4_ x5_ x6_ x7_ r_=>Bj ⟨t_,p_,h_,n_,al_,zl_,x0_,x1_,x2_,x3_,x4_,x5_,x6_,x7_⟩ ((Ae s k a c e u v).1)∧r_=(Ae s k a c e u v).2):=by
 unfold Ai at hI
 unfold VL
 try unfold AA
 try unfold Az
 try unfold Ai
 try unfold AB
 try unfold A7
 try unfold AC
 try unfold Aw
 try unfold AL
 try unfold Aj
 try unfold AO
 try unfold Ah
 obtain ⟨hR,_,_,rfl,hA,rfl⟩:=hI
 have hE:=hR.eq
 injection hE with e1 e2 e3 e4 e5 f0 f1 f2 f3 f4 f5 f6 f7
 refine ⟨λ_=>⟨by decide, λ_=>⟨λe=>⟨by decide, λ_=>⟨⟨⟨hR.n,hR.z,?_⟩,by decide,by decide,rfl,hA,rfl⟩,Bo⟩⟩, λe=>⟨⟨⟨hR.n,hR.z,?_⟩,by decide,by decide,rfl,hA,rfl⟩,Bo⟩⟩⟩, λh=>(by cases h)⟩
 ·have g:Gw (DL (D8 s (BK s.a a)) u v).r2 a u 3 2=u:=by
   have f:(DL (D8 s (BK s.a a)) u v).r2=r2_:=f2
   unfold Gw;rw [f,e];rfl
  simp only [LU,RS.mk.injEq]
  exact ⟨e1,e2,e3,e4,e5,f0,f1,g,f3,f4,f5,f6,f7⟩
 ·have g:Gw (DL (D8 s (BK s.a a)) u v).r2 a u 3 2=r2_:=by
   have f:(DL (D8 s (BK s.a a)) u v).r2=r2_:=f2
   unfold Gw;rw [f,e];rfl
  simp only [LU,RS.mk.injEq]
  exact ⟨e1,e2,e3,e4,e5,f0,f1,g,f3,f4,f5,f6,f7⟩
theorem AbJ (s:RS) (k a c e u v:Int) (hp0:s.a.length≤1000) (t_ p_ h_:Int) (n_:Nat) (a_ z_:LI) (r0_ r1_ r2_ r3_ r4_ r5_ r6_ r7_:Int) (hI:Ai s k a c e u v t_ p_ h_ n_ a_ z_ r0_ r1_ r2_ r3_ r4_ r5_ r6_ r7_ (3:Int)):VM s k a c e u v t_ p_ h_ n_ a_ z_ r0_ r1_ r2_ r3_ r4_ r5_ r6_ r7_ (λq_'=>AA s k a c e u v q_'∧lx (20,0,0) (18,(8-(3:Int)).toNat,0)) (λt_' p_' h_' n_' a_' z_' r0_' r1_' r2_' r3_' r4_' r5_' r6_' r7_'=>Az s k a c e u v t_' p_' h_' n_' a_' z_' r0_' r1_' r2_' r3_' r4_' r5_' r6_' r7_'∧lx (19,0,0) (18,(8-(3:Int)).toNat,0)) (λt_' p_' h_' n_' a_' z_' r0_' r1_' r2_' r3_' r4_' r5_' r6_' r7_' i_'=>Ai s k a c e u v t_' p_' h_' n_' a_' z_' r0_' r1_' r2_' r3_' r4_' r5_' r6_' r7_' i_'∧lx (18,(8-i_').toNat,0) (18,(8-(3:Int)).toNat,0)) (λk_'=>AB s k a c e u v k_'∧lx (17,0,0) (18,(8-(3:Int)).toNat,0)) (λt_' p_' h_' n_' a_' z_' r0_' r1_' r2_' r3_' r4_' r5_' r6_' r7_' k_'=>A7 s k a c e u v t_' p_' h_' n_' a_' z_' r0_' r1_' r2_' r3_' r4_' r5_' r6_' r7_' k_'∧lx (16,0,0) (18,(8-(3:Int)).toNat,0)) (λt_' p_' h_' n_' a_' z_' r0_' r1_' r2_' r3_' r4_' r5_' r6_' r7_' w_'=>AC s k a c e u v t_' p_' h_' n_' a_' z_' r0_' r1_' r2_' r3_' r4_' r5_' r6_' r7_' w_'∧lx (15,0,0) (18,(8-(3:Int)).toNat,0)) (λw_'=>Aw s k a c e u v w_'∧lx (14,0,0) (18,(8-(3:Int)).toNat,0)) (λq_' i_'=>AL s k a c e u v q_' i_'∧lx (13,0,0) (18,(8-(3:Int)).toNat,0)) (λt_' p_' h_' n_' a_' z_' r0_' r1_' r2_' r3_' r4_' r5_' r6_' r7_' i_'=>Aj s k a c e u v t_' p_' h_' n_' a_' z_' r0_' r1_' r2_' r3_' r4_' r5_' r6_' r7_' i_'∧lx (12,0,0) (18,(8-(3:Int)).toNat,0)) (λi_'=>AO s k a c e u v i_'∧lx (11,0,0) (18,(8-(3:Int)).toNat,0)) (λt_' p_' h_' n_' a_' z_' r0_' r1_' r2_' r3_' r4_' r5_' r6_' r7_' i_'=>Ah s k a c e u v t_' p_' h_' n_' a_' z_' r0_' r1_' r2_' r3_' r4_' r5_' r6_' r7_' i_'∧lx (10,0,0) (18,(8-(3:Int)).toNat,0)) (λr__=>r__=(Ae s k a c e u v)) (λt_ p_ h_ n_ al_ zl_ x0_ x1_ x2_ x3_ x4_ x5_ x6_ x7_ r_=>Bj ⟨t_,p_,h_,n_,al_,zl_,x0_,x1_,x2_,x3_,x4_,x5_,x6_,x7_⟩ ((Ae s k a c e u v).1)∧r_=(Ae s k a c e u v).2):=by
 unfold Ai at hI
 unfold VM
 try unfold AA
 try unfold Az
 try unfold Ai
 try unfold AB
 try unfold A7
 try unfold AC
 try unfold Aw
 try unfold AL
 try unfold Aj
 try unfold AO
 try unfold Ah
 obtain ⟨hR,_,_,rfl,hA,rfl⟩:=hI
 have hE:=hR.eq
 injection hE with e1 e2 e3 e4 e5 f0 f1 f2 f3 f4 f5 f6 f7
 refine ⟨λ_=>⟨by decide, λ_=>⟨λe=>⟨by decide, λ_=>⟨⟨⟨hR.n,hR.z,?_⟩,by decide,by decide,rfl,hA,rfl⟩,Bo⟩⟩, λe=>⟨⟨⟨hR.n,hR.z,?_⟩,by decide,by decide,rfl,hA,rfl⟩,Bo⟩⟩⟩, λh=>(by cases h)⟩
 ·have g:Gw (DL (D8 s (BK s.a a)) u v).r3 a u 4 3=u:=by
   have f:(DL (D8 s (BK s.a a)) u v).r3=r3_:=f3
   unfold Gw;rw [f,e];rfl
  simp only [LU,RS.mk.injEq]
  exact ⟨e1,e2,e3,e4,e5,f0,f1,f2,g,f4,f5,f6,f7⟩
 ·have g:Gw (DL (D8 s (BK s.a a)) u v).r3 a u 4 3=r3_:=by
   have f:(DL (D8 s (BK s.a a)) u v).r3=r3_:=f3
   unfold Gw;rw [f,e];rfl
  simp only [LU,RS.mk.injEq]
  exact ⟨e1,e2,e3,e4,e5,f0,f1,f2,g,f4,f5,f6,f7⟩
theorem AbK (s:RS) (k a c e u v:Int) (hp0:s.a.length≤1000) (t_ p_ h_:Int) (n_:Nat) (a_ z_:LI) (r0_ r1_ r2_ r3_ r4_ r5_ r6_ r7_:Int) (hI:Ai s k a c e u v t_ p_ h_ n_ a_ z_ r0_ r1_ r2_ r3_ r4_ r5_ r6_ r7_ (4:Int)):VN s k a c e u v t_ p_ h_ n_ a_ z_ r0_ r1_ r2_ r3_ r4_ r5_ r6_ r7_ (λq_'=>AA s k a c e u v q_'∧lx (20,0,0) (18,(8-(4:Int)).toNat,0)) (λt_' p_' h_' n_' a_' z_' r0_' r1_' r2_' r3_' r4_' r5_' r6_' r7_'=>Az s k a c e u v t_' p_' h_' n_' a_' z_' r0_' r1_' r2_' r3_' r4_' r5_' r6_' r7_'∧lx (19,0,0) (18,(8-(4:Int)).toNat,0)) (λt_' p_' h_' n_' a_' z_' r0_' r1_' r2_' r3_' r4_' r5_' r6_' r7_' i_'=>Ai s k a c e u v t_' p_' h_' n_' a_' z_' r0_' r1_' r2_' r3_' r4_' r5_' r6_' r7_' i_'∧lx (18,(8-i_').toNat,0) (18,(8-(4:Int)).toNat,0)) (λk_'=>AB s k a c e u v k_'∧lx (17,0,0) (18,(8-(4:Int)).toNat,0)) (λt_' p_' h_' n_' a_' z_' r0_' r1_' r2_' r3_' r4_' r5_' r6_' r7_' k_'=>A7 s k a c e u v t_' p_' h_' n_' a_' z_' r0_' r1_' r2_' r3_' r4_' r5_' r6_' r7_' k_'∧lx (16,0,0) (18,(8-(4:Int)).toNat,0)) (λt_' p_' h_' n_' a_' z_' r0_' r1_' r2_' r3_' r4_' r5_' r6_' r7_' w_'=>AC s k a c e u v t_' p_' h_' n_' a_' z_' r0_' r1_' r2_' r3_' r4_' r5_' r6_' r7_' w_'∧lx (15,0,0) (18,(8-(4:Int)).toNat,0)) (λw_'=>Aw s k a c e u v w_'∧lx (14,0,0) (18,(8-(4:Int)).toNat,0)) (λq_' i_'=>AL s k a c e u v q_' i_'∧lx (13,0,0) (18,(8-(4:Int)).toNat,0)) (λt_' p_' h_' n_' a_' z_' r0_' r1_' r2_' r3_' r4_' r5_' r6_' r7_' i_'=>Aj s k a c e u v t_' p_' h_' n_' a_' z_' r0_' r1_' r2_' r3_' r4_' r5_' r6_' r7_' i_'∧lx (12,0,0) (18,(8-(4:Int)).toNat,0)) (λi_'=>AO s k a c e u v i_'∧lx (11,0,0) (18,(8-(4:Int)).toNat,0)) (λt_' p_' h_' n_' a_' z_' r0_' r1_' r2_' r3_' r4_' r5_' r6_' r7_' i_'=>Ah s k a c e u v t_' p_' h_' n_' a_' z_' r0_' r1_' r2_' r3_' r4_' r5_' r6_' r7_' i_'∧lx (10,0,0) (18,(8-(4:Int)).toNat,0)) (λr__=>r__=(Ae s k a c e u v)) (λt_ p_ h_ n_ al_ zl_ x0_ x1_ x2_ x3_ x4_ x5_ x6_ x7_ r_=>Bj ⟨t_,p_,h_,n_,al_,zl_,x0_,x1_,x2_,x3_,x4_,x5_,x6_,x7_⟩ ((Ae s k a c e u v).1)∧r_=(Ae s k a c e u v).2):=by
 unfold Ai at hI
 unfold VN
 try unfold AA
 try unfold Az
 try unfold Ai
 try unfold AB
 try unfold A7
 try unfold AC
 try unfold Aw
 try unfold AL
 try unfold Aj
 try unfold AO
 try unfold Ah
 obtain ⟨hR,_,_,rfl,hA,rfl⟩:=hI
 have hE:=hR.eq
 injection hE with e1 e2 e3 e4 e5 f0 f1 f2 f3 f4 f5 f6 f7
 refine ⟨λ_=>⟨by decide, λ_=>⟨λe=>⟨by decide, λ_=>⟨⟨⟨hR.n,hR.z,?_⟩,by decide,by decide,rfl,hA,rfl⟩,Bo⟩⟩, λe=>⟨⟨⟨hR.n,hR.z,?_⟩,by decide,by decide,rfl,hA,rfl⟩,Bo⟩⟩⟩, λh=>(by cases h)⟩
 ·have g:Gw (DL (D8 s (BK s.a a)) u v).r4 a u 5 4=u:=by
   have f:(DL (D8 s (BK s.a a)) u v).r4=r4_:=f4
   unfold Gw;rw [f,e];rfl
  simp only [LU,RS.mk.injEq]
  exact ⟨e1,e2,e3,e4,e5,f0,f1,f2,f3,g,f5,f6,f7⟩
 ·have g:Gw (DL (D8 s (BK s.a a)) u v).r4 a u 5 4=r4_:=by
   have f:(DL (D8 s (BK s.a a)) u v).r4=r4_:=f4
   unfold Gw;rw [f,e];rfl
  simp only [LU,RS.mk.injEq]
  exact ⟨e1,e2,e3,e4,e5,f0,f1,f2,f3,g,f5,f6,f7⟩
theorem AbL (s:RS) (k a c e u v:Int) (hp0:s.a.length≤1000) (t_ p_ h_:Int) (n_:Nat) (a_ z_:LI) (r0_ r1_ r2_ r3_ r4_ r5_ r6_ r7_:Int) (hI:Ai s k a c e u v t_ p_ h_ n_ a_ z_ r0_ r1_ r2_ r3_ r4_ r5_ r6_ r7_ (5:Int)):VO s k a c e u v t_ p_ h_ n_ a_ z_ r0_ r1_ r2_ r3_ r4_ r5_ r6_ r7_ (λq_'=>AA s k a c e u v q_'∧lx (20,0,0) (18,(8-(5:Int)).toNat,0)) (λt_' p_' h_' n_' a_' z_' r0_' r1_' r2_' r3_' r4_' r5_' r6_' r7_'=>Az s k a c e u v t_' p_' h_' n_' a_' z_' r0_' r1_' r2_' r3_' r4_' r5_' r6_' r7_'∧lx (19,0,0) (18,(8-(5:Int)).toNat,0)) (λt_' p_' h_' n_' a_' z_' r0_' r1_' r2_' r3_' r4_' r5_' r6_' r7_' i_'=>Ai s k a c e u v t_' p_' h_' n_' a_' z_' r0_' r1_' r2_' r3_' r4_' r5_' r6_' r7_' i_'∧lx (18,(8-i_').toNat,0) (18,(8-(5:Int)).toNat,0)) (λk_'=>AB s k a c e u v k_'∧lx (17,0,0) (18,(8-(5:Int)).toNat,0)) (λt_' p_' h_' n_' a_' z_' r0_' r1_' r2_' r3_' r4_' r5_' r6_' r7_' k_'=>A7 s k a c e u v t_' p_' h_' n_' a_' z_' r0_' r1_' r2_' r3_' r4_' r5_' r6_' r7_' k_'∧lx (16,0,0) (18,(8-(5:Int)).toNat,0)) (λt_' p_' h_' n_' a_' z_' r0_' r1_' r2_' r3_' r4_' r5_' r6_' r7_' w_'=>AC s k a c e u v t_' p_' h_' n_' a_' z_' r0_' r1_' r2_' r3_' r4_' r5_' r6_' r7_' w_'∧lx (15,0,0) (18,(8-(5:Int)).toNat,0)) (λw_'=>Aw s k a c e u v w_'∧lx (14,0,0) (18,(8-(5:Int)).toNat,0)) (λq_' i_'=>AL s k a c e u v q_' i_'∧lx (13,0,0) (18,(8-(5:Int)).toNat,0)) (λt_' p_' h_' n_' a_' z_' r0_' r1_' r2_' r3_' r4_' r5_' r6_' r7_' i_'=>Aj s k a c e u v t_' p_' h_' n_' a_' z_' r0_' r1_' r2_' r3_' r4_' r5_' r6_' r7_' i_'∧lx (12,0,0) (18,(8-(5:Int)).toNat,0)) (λi_'=>AO s k a c e u v i_'∧lx (11,0,0) (18,(8-(5:Int)).toNat,0)) (λt_' p_' h_' n_' a_' z_' r0_' r1_' r2_' r3_' r4_' r5_' r6_' r7_' i_'=>Ah s k a c e u v t_' p_' h_' n_' a_' z_' r0_' r1_' r2_' r3_' r4_' r5_' r6_' r7_' i_'∧lx (10,0,0) (18,(8-(5:Int)).toNat,0)) (λr__=>r__=(Ae s k a c e u v)) (λt_ p_ h_ n_ al_ zl_ x0_ x1_ x2_ x3_ x4_ x5_ x6_ x7_ r_=>Bj ⟨t_,p_,h_,n_,al_,zl_,x0_,x1_,x2_,x3_,x4_,x5_,x6_,x7_⟩ ((Ae s k a c e u v).1)∧r_=(Ae s k a c e u v).2):=by
 unfold Ai at hI
 unfold VO
 try unfold AA
 try unfold Az
 try unfold Ai
 try unfold AB
 try unfold A7
 try unfold AC
 try unfold Aw
 try unfold AL
 try unfold Aj
 try unfold AO
 try unfold Ah
 obtain ⟨hR,_,_,rfl,hA,rfl⟩:=hI
 have hE:=hR.eq
 injection hE with e1 e2 e3 e4 e5 f0 f1 f2 f3 f4 f5 f6 f7
 refine ⟨λ_=>⟨by decide, λ_=>⟨λe=>⟨by decide, λ_=>⟨⟨⟨hR.n,hR.z,?_⟩,by decide,by decide,rfl,hA,rfl⟩,Bo⟩⟩, λe=>⟨⟨⟨hR.n,hR.z,?_⟩,by decide,by decide,rfl,hA,rfl⟩,Bo⟩⟩⟩, λh=>(by cases h)⟩
 ·have g:Gw (DL (D8 s (BK s.a a)) u v).r5 a u 6 5=u:=by
   have f:(DL (D8 s (BK s.a a)) u v).r5=r5_:=f5
   unfold Gw;rw [f,e];rfl
  simp only [LU,RS.mk.injEq]
  exact ⟨e1,e2,e3,e4,e5,f0,f1,f2,f3,f4,g,f6,f7⟩
 ·have g:Gw (DL (D8 s (BK s.a a)) u v).r5 a u 6 5=r5_:=by
   have f:(DL (D8 s (BK s.a a)) u v).r5=r5_:=f5
   unfold Gw;rw [f,e];rfl
  simp only [LU,RS.mk.injEq]
  exact ⟨e1,e2,e3,e4,e5,f0,f1,f2,f3,f4,g,f6,f7⟩
theorem AbM (s:RS) (k a c e u v:Int) (hp0:s.a.length≤1000) (t_ p_ h_:Int) (n_:Nat) (a_ z_:LI) (r0_ r1_ r2_ r3_ r4_ r5_ r6_ r7_:Int) (hI:Ai s k a c e u v t_ p_ h_ n_ a_ z_ r0_ r1_ r2_ r3_ r4_ r5_ r6_ r7_ (6:Int)):VP s k a c e u v t_ p_ h_ n_ a_ z_ r0_ r1_ r2_ r3_ r4_ r5_ r6_ r7_ (λq_'=>AA s k a c e u v q_'∧lx (20,0,0) (18,(8-(6:Int)).toNat,0)) (λt_' p_' h_' n_' a_' z_' r0_' r1_' r2_' r3_' r4_' r5_' r6_' r7_'=>Az s k a c e u v t_' p_' h_' n_' a_' z_' r0_' r1_' r2_' r3_' r4_' r5_' r6_' r7_'∧lx (19,0,0) (18,(8-(6:Int)).toNat,0)) (λt_' p_' h_' n_' a_' z_' r0_' r1_' r2_' r3_' r4_' r5_' r6_' r7_' i_'=>Ai s k a c e u v t_' p_' h_' n_' a_' z_' r0_' r1_' r2_' r3_' r4_' r5_' r6_' r7_' i_'∧lx (18,(8-i_').toNat,0) (18,(8-(6:Int)).toNat,0)) (λk_'=>AB s k a c e u v k_'∧lx (17,0,0) (18,(8-(6:Int)).toNat,0)) (λt_' p_' h_' n_' a_' z_' r0_' r1_' r2_' r3_' r4_' r5_' r6_' r7_' k_'=>A7 s k a c e u v t_' p_' h_' n_' a_' z_' r0_' r1_' r2_' r3_' r4_' r5_' r6_' r7_' k_'∧lx (16,0,0) (18,(8-(6:Int)).toNat,0)) (λt_' p_' h_' n_' a_' z_' r0_' r1_' r2_' r3_' r4_' r5_' r6_' r7_' w_'=>AC s k a c e u v t_' p_' h_' n_' a_' z_' r0_' r1_' r2_' r3_' r4_' r5_' r6_' r7_' w_'∧lx (15,0,0) (18,(8-(6:Int)).toNat,0)) (λw_'=>Aw s k a c e u v w_'∧lx (14,0,0) (18,(8-(6:Int)).toNat,0)) (λq_' i_'=>AL s k a c e u v q_' i_'∧lx (13,0,0) (18,(8-(6:Int)).toNat,0)) (λt_' p_' h_' n_' a_' z_' r0_' r1_' r2_' r3_' r4_' r5_' r6_' r7_' i_'=>Aj s k a c e u v t_' p_' h_' n_' a_' z_' r0_' r1_' r2_' r3_' r4_' r5_' r6_' r7_' i_'∧lx (12,0,0) (18,(8-(6:Int)).toNat,0)) (λi_'=>AO s k a c e u v i_'∧lx (11,0,0) (18,(8-(6:Int)).toNat,0)) (λt_' p_' h_' n_' a_' z_' r0_' r1_' r2_' r3_' r4_' r5_' r6_' r7_' i_'=>Ah s k a c e u v t_' p_' h_' n_' a_' z_' r0_' r1_' r2_' r3_' r4_' r5_' r6_' r7_' i_'∧lx (10,0,0) (18,(8-(6:Int)).toNat,0)) (λr__=>r__=(Ae s k a c e u v)) (λt_ p_ h_ n_ al_ zl_ x0_ x1_ x2_ x3_ x4_ x5_ x6_ x7_ r_=>Bj ⟨t_,p_,h_,n_,al_,zl_,x0_,x1_,x2_,x3_,x4_,x5_,x6_,x7_⟩ ((Ae s k a c e u v).1)∧r_=(Ae s k a c e u v).2):=by
 unfold Ai at hI
 unfold VP
 try unfold AA
 try unfold Az
 try unfold Ai
 try unfold AB
 try unfold A7
 try unfold AC
 try unfold Aw
 try unfold AL
 try unfold Aj
 try unfold AO
 try unfold Ah
 obtain ⟨hR,_,_,rfl,hA,rfl⟩:=hI
 have hE:=hR.eq
 injection hE with e1 e2 e3 e4 e5 f0 f1 f2 f3 f4 f5 f6 f7
 refine ⟨λ_=>⟨by decide, λ_=>⟨λe=>⟨by decide, λ_=>⟨⟨⟨hR.n,hR.z,?_⟩,by decide,by decide,rfl,hA,rfl⟩,Bo⟩⟩, λe=>⟨⟨⟨hR.n,hR.z,?_⟩,by decide,by decide,rfl,hA,rfl⟩,Bo⟩⟩⟩, λh=>(by cases h)⟩
 ·have g:Gw (DL (D8 s (BK s.a a)) u v).r6 a u 7 6=u:=by
   have f:(DL (D8 s (BK s.a a)) u v).r6=r6_:=f6
   unfold Gw;rw [f,e];rfl
  simp only [LU,RS.mk.injEq]
  exact ⟨e1,e2,e3,e4,e5,f0,f1,f2,f3,f4,f5,g,f7⟩
 ·have g:Gw (DL (D8 s (BK s.a a)) u v).r6 a u 7 6=r6_:=by
   have f:(DL (D8 s (BK s.a a)) u v).r6=r6_:=f6
   unfold Gw;rw [f,e];rfl
  simp only [LU,RS.mk.injEq]
  exact ⟨e1,e2,e3,e4,e5,f0,f1,f2,f3,f4,f5,g,f7⟩
theorem AbN (s:RS) (k a c e u v:Int) (hp0:s.a.length≤1000) (t_ p_ h_:Int) (n_:Nat) (a_ z_:LI) (r0_ r1_ r2_ r3_ r4_ r5_ r6_ r7_:Int) (hI:Ai s k a c e u v t_ p_ h_ n_ a_ z_ r0_ r1_ r2_ r3_ r4_ r5_ r6_ r7_ (7:Int)):VQ s k a c e u v t_ p_ h_ n_ a_ z_ r0_ r1_ r2_ r3_ r4_ r5_ r6_ r7_ (λq_'=>AA s k a c e u v q_'∧lx (20,0,0) (18,(8-(7:Int)).toNat,0)) (λt_' p_' h_' n_' a_' z_' r0_' r1_' r2_' r3_' r4_' r5_' r6_' r7_'=>Az s k a c e u v t_' p_' h_' n_' a_' z_' r0_' r1_' r2_' r3_' r4_' r5_' r6_' r7_'∧lx (19,0,0) (18,(8-(7:Int)).toNat,0)) (λt_' p_' h_' n_' a_' z_' r0_' r1_' r2_' r3_' r4_' r5_' r6_' r7_' i_'=>Ai s k a c e u v t_' p_' h_' n_' a_' z_' r0_' r1_' r2_' r3_' r4_' r5_' r6_' r7_' i_'∧lx (18,(8-i_').toNat,0) (18,(8-(7:Int)).toNat,0)) (λk_'=>AB s k a c e u v k_'∧lx (17,0,0) (18,(8-(7:Int)).toNat,0)) (λt_' p_' h_' n_' a_' z_' r0_' r1_' r2_' r3_' r4_' r5_' r6_' r7_' k_'=>A7 s k a c e u v t_' p_' h_' n_' a_' z_' r0_' r1_' r2_' r3_' r4_' r5_' r6_' r7_' k_'∧lx (16,0,0) (18,(8-(7:Int)).toNat,0)) (λt_' p_' h_' n_' a_' z_' r0_' r1_' r2_' r3_' r4_' r5_' r6_' r7_' w_'=>AC s k a c e u v t_' p_' h_' n_' a_' z_' r0_' r1_' r2_' r3_' r4_' r5_' r6_' r7_' w_'∧lx (15,0,0) (18,(8-(7:Int)).toNat,0)) (λw_'=>Aw s k a c e u v w_'∧lx (14,0,0) (18,(8-(7:Int)).toNat,0)) (λq_' i_'=>AL s k a c e u v q_' i_'∧lx (13,0,0) (18,(8-(7:Int)).toNat,0)) (λt_' p_' h_' n_' a_' z_' r0_' r1_' r2_' r3_' r4_' r5_' r6_' r7_' i_'=>Aj s k a c e u v t_' p_' h_' n_' a_' z_' r0_' r1_' r2_' r3_' r4_' r5_' r6_' r7_' i_'∧lx (12,0,0) (18,(8-(7:Int)).toNat,0)) (λi_'=>AO s k a c e u v i_'∧lx (11,0,0) (18,(8-(7:Int)).toNat,0)) (λt_' p_' h_' n_' a_' z_' r0_' r1_' r2_' r3_' r4_' r5_' r6_' r7_' i_'=>Ah s k a c e u v t_' p_' h_' n_' a_' z_' r0_' r1_' r2_' r3_' r4_' r5_' r6_' r7_' i_'∧lx (10,0,0) (18,(8-(7:Int)).toNat,0)) (λr__=>r__=(Ae s k a c e u v)) (λt_ p_ h_ n_ al_ zl_ x0_ x1_ x2_ x3_ x4_ x5_ x6_ x7_ r_=>Bj ⟨t_,p_,h_,n_,al_,zl_,x0_,x1_,x2_,x3_,x4_,x5_,x6_,x7_⟩ ((Ae s k a c e u v).1)∧r_=(Ae s k a c e u v).2):=by
 unfold Ai at hI
 unfold VQ
 try unfold AA
 try unfold Az
 try unfold Ai
 try unfold AB
 try unfold A7
 try unfold AC
 try unfold Aw
 try unfold AL
 try unfold Aj
 try unfold AO
 try unfold Ah
 obtain ⟨hR,_,_,rfl,hA,rfl⟩:=hI
 have hE:=hR.eq
 injection hE with e1 e2 e3 e4 e5 f0 f1 f2 f3 f4 f5 f6 f7
 refine ⟨λ_=>⟨by decide, λ_=>⟨λe=>⟨by decide, λ_=>⟨⟨⟨hR.n,hR.z,?_⟩,by decide,by decide,rfl,hA,rfl⟩,Bo⟩⟩, λe=>⟨⟨⟨hR.n,hR.z,?_⟩,by decide,by decide,rfl,hA,rfl⟩,Bo⟩⟩⟩, λh=>(by cases h)⟩
 ·have g:Gw (DL (D8 s (BK s.a a)) u v).r7 a u 8 7=u:=by
   have f:(DL (D8 s (BK s.a a)) u v).r7=r7_:=f7
   unfold Gw;rw [f,e];rfl
  simp only [LU,RS.mk.injEq]
  exact ⟨e1,e2,e3,e4,e5,f0,f1,f2,f3,f4,f5,f6,g⟩
 ·have g:Gw (DL (D8 s (BK s.a a)) u v).r7 a u 8 7=r7_:=by
   have f:(DL (D8 s (BK s.a a)) u v).r7=r7_:=f7
   unfold Gw;rw [f,e];rfl
  simp only [LU,RS.mk.injEq]
  exact ⟨e1,e2,e3,e4,e5,f0,f1,f2,f3,f4,f5,f6,g⟩
theorem AbO (s:RS) (k a c e u v:Int) (hp0:s.a.length≤1000) (t_ p_ h_:Int) (n_:Nat) (a_ z_:LI) (r0_ r1_ r2_ r3_ r4_ r5_ r6_ r7_:Int) (hI:Ai s k a c e u v t_ p_ h_ n_ a_ z_ r0_ r1_ r2_ r3_ r4_ r5_ r6_ r7_ (8:Int)):VR s k a c e u v t_ p_ h_ n_ a_ z_ r0_ r1_ r2_ r3_ r4_ r5_ r6_ r7_ (λq_'=>AA s k a c e u v q_'∧lx (20,0,0) (18,(8-(8:Int)).toNat,0)) (λt_' p_' h_' n_' a_' z_' r0_' r1_' r2_' r3_' r4_' r5_' r6_' r7_'=>Az s k a c e u v t_' p_' h_' n_' a_' z_' r0_' r1_' r2_' r3_' r4_' r5_' r6_' r7_'∧lx (19,0,0) (18,(8-(8:Int)).toNat,0)) (λt_' p_' h_' n_' a_' z_' r0_' r1_' r2_' r3_' r4_' r5_' r6_' r7_' i_'=>Ai s k a c e u v t_' p_' h_' n_' a_' z_' r0_' r1_' r2_' r3_' r4_' r5_' r6_' r7_' i_'∧lx (18,(8-i_').toNat,0) (18,(8-(8:Int)).toNat,0)) (λk_'=>AB s k a c e u v k_'∧lx (17,0,0) (18,(8-(8:Int)).toNat,0)) (λt_' p_' h_' n_' a_' z_' r0_' r1_' r2_' r3_' r4_' r5_' r6_' r7_' k_'=>A7 s k a c e u v t_' p_' h_' n_' a_' z_' r0_' r1_' r2_' r3_' r4_' r5_' r6_' r7_' k_'∧lx (16,0,0) (18,(8-(8:Int)).toNat,0)) (λt_' p_' h_' n_' a_' z_' r0_' r1_' r2_' r3_' r4_' r5_' r6_' r7_' w_'=>AC s k a c e u v t_' p_' h_' n_' a_' z_' r0_' r1_' r2_' r3_' r4_' r5_' r6_' r7_' w_'∧lx (15,0,0) (18,(8-(8:Int)).toNat,0)) (λw_'=>Aw s k a c e u v w_'∧lx (14,0,0) (18,(8-(8:Int)).toNat,0)) (λq_' i_'=>AL s k a c e u v q_' i_'∧lx (13,0,0) (18,(8-(8:Int)).toNat,0)) (λt_' p_' h_' n_' a_' z_' r0_' r1_' r2_' r3_' r4_' r5_' r6_' r7_' i_'=>Aj s k a c e u v t_' p_' h_' n_' a_' z_' r0_' r1_' r2_' r3_' r4_' r5_' r6_' r7_' i_'∧lx (12,0,0) (18,(8-(8:Int)).toNat,0)) (λi_'=>AO s k a c e u v i_'∧lx (11,0,0) (18,(8-(8:Int)).toNat,0)) (λt_' p_' h_' n_' a_' z_' r0_' r1_' r2_' r3_' r4_' r5_' r6_' r7_' i_'=>Ah s k a c e u v t_' p_' h_' n_' a_' z_' r0_' r1_' r2_' r3_' r4_' r5_' r6_' r7_' i_'∧lx (10,0,0) (18,(8-(8:Int)).toNat,0)) (λr__=>r__=(Ae s k a c e u v)) (λt_ p_ h_ n_ al_ zl_ x0_ x1_ x2_ x3_ x4_ x5_ x6_ x7_ r_=>Bj ⟨t_,p_,h_,n_,al_,zl_,x0_,x1_,x2_,x3_,x4_,x5_,x6_,x7_⟩ ((Ae s k a c e u v).1)∧r_=(Ae s k a c e u v).2):=by
 unfold Ai at hI
 unfold VR
 try unfold AA
 try unfold Az
 try unfold Ai
 try unfold AB
 try unfold A7
 try unfold AC
 try unfold Aw
 try unfold AL
 try unfold Aj
 try unfold AO
 try unfold Ah
 obtain ⟨hR,_,_,rfl,hA,rfl⟩:=hI
 have key:Ae s 3 a c 0 u v=(Io s 3 a c u v,true):=by unfold Ae;rw [hA];rfl
 refine ⟨λh=>(by cases h), λ_=>⟨?_,?_⟩⟩
 ·show Bj _ (Ae s 3 a c 0 u v).1
  rw [key];exact hR
 ·show _=(Ae s 3 a c 0 u v).2
  rw [key]
theorem AfC (s:RS) (k a c e u v:Int) (hp0:s.a.length≤1000) (k_ t_ p_ h_:Int) (n_:Nat) (al_ zl_:LI) (x0_ x1_ x2_ x3_ x4_ x5_ x6_ x7_:Int) (hI:AB s k a c e u v k_) (hx:Bj ⟨t_,p_,h_,n_,al_,zl_,x0_,x1_,x2_,x3_,x4_,x5_,x6_,x7_⟩ (s)):AbB s k a c e u v k_ t_ p_ h_ n_ al_ zl_ x0_ x1_ x2_ x3_ x4_ x5_ x6_ x7_ (λt_' p_' h_' n_' a_' z_' r0_' r1_' r2_' r3_' r4_' r5_' r6_' r7_' k_'=>A7 s k a c e u v t_' p_' h_' n_' a_' z_' r0_' r1_' r2_' r3_' r4_' r5_' r6_' r7_' k_'∧lx (16,0,0) (17,0,0)):=by
 unfold AB at hI
 unfold AbB
 try unfold AA
 try unfold Az
 try unfold Ai
 try unfold AB
 try unfold A7
 try unfold AC
 try unfold Aw
 try unfold AL
 try unfold Aj
 try unfold AO
 try unfold Ah
 exact ⟨⟨hx,hI⟩,Bo⟩
theorem AfD (s:RS) (k a c e u v:Int) (hp0:s.a.length≤1000) (t_ p_ h_:Int) (n_:Nat) (a_ z_:LI) (r0_ r1_ r2_ r3_ r4_ r5_ r6_ r7_ k_:Int) (hI:A7 s k a c e u v t_ p_ h_ n_ a_ z_ r0_ r1_ r2_ r3_ r4_ r5_ r6_ r7_ k_):AbC s k a c e u v t_ p_ h_ n_ a_ z_ r0_ r1_ r2_ r3_ r4_ r5_ r6_ r7_ k_ (λq_'=>AA s k a c e u v q_'∧lx (20,0,0) (16,0,0)) (λt_' p_' h_' n_' a_' z_' r0_' r1_' r2_' r3_' r4_' r5_' r6_' r7_'=>Az s k a c e u v t_' p_' h_' n_' a_' z_' r0_' r1_' r2_' r3_' r4_' r5_' r6_' r7_'∧lx (19,0,0) (16,0,0)) (λt_' p_' h_' n_' a_' z_' r0_' r1_' r2_' r3_' r4_' r5_' r6_' r7_' i_'=>Ai s k a c e u v t_' p_' h_' n_' a_' z_' r0_' r1_' r2_' r3_' r4_' r5_' r6_' r7_' i_'∧lx (18,(8-i_').toNat,0) (16,0,0)) (λk_'=>AB s k a c e u v k_'∧lx (17,0,0) (16,0,0)) (λt_' p_' h_' n_' a_' z_' r0_' r1_' r2_' r3_' r4_' r5_' r6_' r7_' k_'=>A7 s k a c e u v t_' p_' h_' n_' a_' z_' r0_' r1_' r2_' r3_' r4_' r5_' r6_' r7_' k_'∧lx (16,0,0) (16,0,0)) (λt_' p_' h_' n_' a_' z_' r0_' r1_' r2_' r3_' r4_' r5_' r6_' r7_' w_'=>AC s k a c e u v t_' p_' h_' n_' a_' z_' r0_' r1_' r2_' r3_' r4_' r5_' r6_' r7_' w_'∧lx (15,0,0) (16,0,0)) (λw_'=>Aw s k a c e u v w_'∧lx (14,0,0) (16,0,0)) (λq_' i_'=>AL s k a c e u v q_' i_'∧lx (13,0,0) (16,0,0)) (λt_' p_' h_' n_' a_' z_' r0_' r1_' r2_' r3_' r4_' r5_' r6_' r7_' i_'=>Aj s k a c e u v t_' p_' h_' n_' a_' z_' r0_' r1_' r2_' r3_' r4_' r5_' r6_' r7_' i_'∧lx (12,0,0) (16,0,0)) (λi_'=>AO s k a c e u v i_'∧lx (11,0,0) (16,0,0)) (λt_' p_' h_' n_' a_' z_' r0_' r1_' r2_' r3_' r4_' r5_' r6_' r7_' i_'=>Ah s k a c e u v t_' p_' h_' n_' a_' z_' r0_' r1_' r2_' r3_' r4_' r5_' r6_' r7_' i_'∧lx (10,0,0) (16,0,0)) (λr__=>r__=(Ae s k a c e u v)) (λt_ p_ h_ n_ al_ zl_ x0_ x1_ x2_ x3_ x4_ x5_ x6_ x7_ r_=>Bj ⟨t_,p_,h_,n_,al_,zl_,x0_,x1_,x2_,x3_,x4_,x5_,x6_,x7_⟩ ((Ae s k a c e u v).1)∧r_=(Ae s k a c e u v).2):=by
 unfold A7 at hI
 unfold AbC
 try unfold AA
 try unfold Az
 try unfold Ai
 try unfold AB
 try unfold A7
 try unfold AC
 try unfold Aw
 try unfold AL
 try unfold Aj
 try unfold AO
 try unfold Ah
 obtain ⟨hR,_,rfl,hA,rfl⟩:=hI
 exact ⟨⟨hR,by rw [hR.eq],rfl,hA,rfl⟩,Bo⟩
theorem U5 (s:RS) (k a c e u v:Int) (hp0:s.a.length≤1000) (t_ p_ h_:Int) (n_:Nat) (a_ z_:LI) (r0_ r1_ r2_ r3_ r4_ r5_ r6_ r7_ w_:Int) (hI:AC s k a c e u v t_ p_ h_ n_ a_ z_ r0_ r1_ r2_ r3_ r4_ r5_ r6_ r7_ w_):(Bj ⟨t_,p_,h_,n_,a_,z_,r0_,r1_,r2_,r3_,r4_,r5_,r6_,r7_⟩ s)∧SV s k a c e u v t_ p_ h_ n_ a_ z_ r0_ r1_ r2_ r3_ r4_ r5_ r6_ r7_ w_ (λw_'=>Aw s k a c e u v w_'∧lx (14,0,0) (15,0,0)):=by
 unfold AC at hI
 unfold SV
 try unfold AA
 try unfold Az
 try unfold Ai
 try unfold AB
 try unfold A7
 try unfold AC
 try unfold Aw
 try unfold AL
 try unfold Aj
 try unfold AO
 try unfold Ah
 obtain ⟨hR,hI⟩:=hI
 exact ⟨hR,hI,Bo⟩
theorem AfE (s:RS) (k a c e u v:Int) (hp0:s.a.length≤1000) (w_:Int) (hI:Aw s k a c e u v w_):AbD s k a c e u v w_ (λq_'=>AA s k a c e u v q_'∧lx (20,0,0) (14,0,0)) (λt_' p_' h_' n_' a_' z_' r0_' r1_' r2_' r3_' r4_' r5_' r6_' r7_'=>Az s k a c e u v t_' p_' h_' n_' a_' z_' r0_' r1_' r2_' r3_' r4_' r5_' r6_' r7_'∧lx (19,0,0) (14,0,0)) (λt_' p_' h_' n_' a_' z_' r0_' r1_' r2_' r3_' r4_' r5_' r6_' r7_' i_'=>Ai s k a c e u v t_' p_' h_' n_' a_' z_' r0_' r1_' r2_' r3_' r4_' r5_' r6_' r7_' i_'∧lx (18,(8-i_').toNat,0) (14,0,0)) (λk_'=>AB s k a c e u v k_'∧lx (17,0,0) (14,0,0)) (λt_' p_' h_' n_' a_' z_' r0_' r1_' r2_' r3_' r4_' r5_' r6_' r7_' k_'=>A7 s k a c e u v t_' p_' h_' n_' a_' z_' r0_' r1_' r2_' r3_' r4_' r5_' r6_' r7_' k_'∧lx (16,0,0) (14,0,0)) (λt_' p_' h_' n_' a_' z_' r0_' r1_' r2_' r3_' r4_' r5_' r6_' r7_' w_'=>AC s k a c e u v t_' p_' h_' n_' a_' z_' r0_' r1_' r2_' r3_' r4_' r5_' r6_' r7_' w_'∧lx (15,0,0) (14,0,0)) (λw_'=>Aw s k a c e u v w_'∧lx (14,0,0) (14,0,0)) (λq_' i_'=>AL s k a c e u v q_' i_'∧lx (13,0,0) (14,0,0)) (λt_' p_' h_' n_' a_' z_' r0_' r1_' r2_' r3_' r4_' r5_' r6_' r7_' i_'=>Aj s k a c e u v t_' p_' h_' n_' a_' z_' r0_' r1_' r2_' r3_' r4_' r5_' r6_' r7_' i_'∧lx (12,0,0) (14,0,0)) (λi_'=>AO s k a c e u v i_'∧lx (11,0,0) (14,0,0)) (λt_' p_' h_' n_' a_' z_' r0_' r1_' r2_' r3_' r4_' r5_' r6_' r7_' i_'=>Ah s k a c e u v t_' p_' h_' n_' a_' z_' r0_' r1_' r2_' r3_' r4_' r5_' r6_' r7_' i_'∧lx (10,0,0) (14,0,0)) (λr__=>r__=(Ae s k a c e u v)) (λt_ p_ h_ n_ al_ zl_ x0_ x1_ x2_ x3_ x4_ x5_ x6_ x7_ r_=>Bj ⟨t_,p_,h_,n_,al_,zl_,x0_,x1_,x2_,x3_,x4_,x5_,x6_,x7_⟩ ((Ae s k a c e u v).1)∧r_=(Ae s k a c e u v).2):=by
 unfold Aw at hI
 unfold AbD
 try unfold AA
 try unfold Az
 try unfold Ai
 try unfold AB
 try unfold A7
 try unfold AC
 try unfold Aw
 try unfold AL
 try unfold Aj
 try unfold AO
 try unfold Ah
 obtain ⟨rfl,rfl,hA,rfl⟩:=hI
 rintro r0 rfl
 have h8:=AsI hA
 exact ⟨hp0, λ_=>⟨⟨rfl,rfl,h8.1,h8.2,rfl,hA,rfl⟩,Bo⟩⟩
theorem AfF (s:RS) (k a c e u v:Int) (hp0:s.a.length≤1000) (q_:RS) (i_ t_ p_ h_:Int) (n_:Nat) (al_ zl_:LI) (x0_ x1_ x2_ x3_ x4_ x5_ x6_ x7_:Int) (hI:AL s k a c e u v q_ i_) (hx:Bj ⟨t_,p_,h_,n_,al_,zl_,x0_,x1_,x2_,x3_,x4_,x5_,x6_,x7_⟩ (q_)):AbE s k a c e u v q_ i_ t_ p_ h_ n_ al_ zl_ x0_ x1_ x2_ x3_ x4_ x5_ x6_ x7_ (λt_' p_' h_' n_' a_' z_' r0_' r1_' r2_' r3_' r4_' r5_' r6_' r7_' i_'=>Aj s k a c e u v t_' p_' h_' n_' a_' z_' r0_' r1_' r2_' r3_' r4_' r5_' r6_' r7_' i_'∧lx (12,0,0) (13,0,0)):=by
 unfold AL at hI
 unfold AbE
 try unfold AA
 try unfold Az
 try unfold Ai
 try unfold AB
 try unfold A7
 try unfold AC
 try unfold Aw
 try unfold AL
 try unfold Aj
 try unfold AO
 try unfold Ah
 obtain ⟨rfl,h⟩:=hI
 exact ⟨⟨hx,h⟩,Bo⟩
theorem AjJ (s:RS) (k a c e u v:Int) (hp0:s.a.length≤1000) (t_ p_ h_:Int) (n_:Nat) (a_ z_:LI) (r0_ r1_ r2_ r3_ r4_ r5_ r6_ r7_ i_:Int) (hI:Aj s k a c e u v t_ p_ h_ n_ a_ z_ r0_ r1_ r2_ r3_ r4_ r5_ r6_ r7_ i_):i_=0∨i_=1∨i_=2∨i_=3∨i_=4∨i_=5∨i_=6∨i_=7:=by
 unfold Aj at hI
 omega
theorem AbP (s:RS) (k a c e u v:Int) (hp0:s.a.length≤1000) (t_ p_ h_:Int) (n_:Nat) (a_ z_:LI) (r0_ r1_ r2_ r3_ r4_ r5_ r6_ r7_:Int) (hI:Aj s k a c e u v t_ p_ h_ n_ a_ z_ r0_ r1_ r2_ r3_ r4_ r5_ r6_ r7_ (0:Int)):VS s k a c e u v t_ p_ h_ n_ a_ z_ r0_ r1_ r2_ r3_ r4_ r5_ r6_ r7_ (λq_'=>AA s k a c e u v q_'∧lx (20,0,0) (12,0,0)) (λt_' p_' h_' n_' a_' z_' r0_' r1_' r2_' r3_' r4_' r5_' r6_' r7_'=>Az s k a c e u v t_' p_' h_' n_' a_' z_' r0_' r1_' r2_' r3_' r4_' r5_' r6_' r7_'∧lx (19,0,0) (12,0,0)) (λt_' p_' h_' n_' a_' z_' r0_' r1_' r2_' r3_' r4_' r5_' r6_' r7_' i_'=>Ai s k a c e u v t_' p_' h_' n_' a_' z_' r0_' r1_' r2_' r3_' r4_' r5_' r6_' r7_' i_'∧lx (18,(8-i_').toNat,0) (12,0,0)) (λk_'=>AB s k a c e u v k_'∧lx (17,0,0) (12,0,0)) (λt_' p_' h_' n_' a_' z_' r0_' r1_' r2_' r3_' r4_' r5_' r6_' r7_' k_'=>A7 s k a c e u v t_' p_' h_' n_' a_' z_' r0_' r1_' r2_' r3_' r4_' r5_' r6_' r7_' k_'∧lx (16,0,0) (12,0,0)) (λt_' p_' h_' n_' a_' z_' r0_' r1_' r2_' r3_' r4_' r5_' r6_' r7_' w_'=>AC s k a c e u v t_' p_' h_' n_' a_' z_' r0_' r1_' r2_' r3_' r4_' r5_' r6_' r7_' w_'∧lx (15,0,0) (12,0,0)) (λw_'=>Aw s k a c e u v w_'∧lx (14,0,0) (12,0,0)) (λq_' i_'=>AL s k a c e u v q_' i_'∧lx (13,0,0) (12,0,0)) (λt_' p_' h_' n_' a_' z_' r0_' r1_' r2_' r3_' r4_' r5_' r6_' r7_' i_'=>Aj s k a c e u v t_' p_' h_' n_' a_' z_' r0_' r1_' r2_' r3_' r4_' r5_' r6_' r7_' i_'∧lx (12,0,0) (12,0,0)) (λi_'=>AO s k a c e u v i_'∧lx (11,0,0) (12,0,0)) (λt_' p_' h_' n_' a_' z_' r0_' r1_' r2_' r3_' r4_' r5_' r6_' r7_' i_'=>Ah s k a c e u v t_' p_' h_' n_' a_' z_' r0_' r1_' r2_' r3_' r4_' r5_' r6_' r7_' i_'∧lx (10,0,0) (12,0,0)) (λr__=>r__=(Ae s k a c e u v)) (λt_ p_ h_ n_ al_ zl_ x0_ x1_ x2_ x3_ x4_ x5_ x6_ x7_ r_=>Bj ⟨t_,p_,h_,n_,al_,zl_,x0_,x1_,x2_,x3_,x4_,x5_,x6_,x7_⟩ ((Ae s k a c e u v).1)∧r_=(Ae s k a c e u v).2):=by
 unfold Aj at hI
 unfold VS
 try unfold AA
 try unfold Az
 try unfold Ai
 try unfold AB
 try unfold A7
 try unfold AC
 try unfold Aw
 try unfold AL
 try unfold Aj
 try unfold AO
 try unfold Ah
 obtain ⟨hR,rfl,_,_,rfl,hA,rfl⟩:=hI
 have key:Ae s 4 0 c 0 u v=(Io s 4 0 c u v,true):=by unfold Ae;rw [hA];rfl
 refine ⟨by decide, λ_=>⟨?_,?_⟩⟩
 ·show Bj _ (Ae s 4 0 c 0 u v).1
  rw [key];exact ⟨hR.n,hR.z,by show EK _ _ _=_;unfold EK;rw [hR.eq];rfl⟩
 ·show _=(Ae s 4 0 c 0 u v).2
  rw [key]
theorem AbQ (s:RS) (k a c e u v:Int) (hp0:s.a.length≤1000) (t_ p_ h_:Int) (n_:Nat) (a_ z_:LI) (r0_ r1_ r2_ r3_ r4_ r5_ r6_ r7_:Int) (hI:Aj s k a c e u v t_ p_ h_ n_ a_ z_ r0_ r1_ r2_ r3_ r4_ r5_ r6_ r7_ (1:Int)):VT s k a c e u v t_ p_ h_ n_ a_ z_ r0_ r1_ r2_ r3_ r4_ r5_ r6_ r7_ (λq_'=>AA s k a c e u v q_'∧lx (20,0,0) (12,0,0)) (λt_' p_' h_' n_' a_' z_' r0_' r1_' r2_' r3_' r4_' r5_' r6_' r7_'=>Az s k a c e u v t_' p_' h_' n_' a_' z_' r0_' r1_' r2_' r3_' r4_' r5_' r6_' r7_'∧lx (19,0,0) (12,0,0)) (λt_' p_' h_' n_' a_' z_' r0_' r1_' r2_' r3_' r4_' r5_' r6_' r7_' i_'=>Ai s k a c e u v t_' p_' h_' n_' a_' z_' r0_' r1_' r2_' r3_' r4_' r5_' r6_' r7_' i_'∧lx (18,(8-i_').toNat,0) (12,0,0)) (λk_'=>AB s k a c e u v k_'∧lx (17,0,0) (12,0,0)) (λt_' p_' h_' n_' a_' z_' r0_' r1_' r2_' r3_' r4_' r5_' r6_' r7_' k_'=>A7 s k a c e u v t_' p_' h_' n_' a_' z_' r0_' r1_' r2_' r3_' r4_' r5_' r6_' r7_' k_'∧lx (16,0,0) (12,0,0)) (λt_' p_' h_' n_' a_' z_' r0_' r1_' r2_' r3_' r4_' r5_' r6_' r7_' w_'=>AC s k a c e u v t_' p_' h_' n_' a_' z_' r0_' r1_' r2_' r3_' r4_' r5_' r6_' r7_' w_'∧lx (15,0,0) (12,0,0)) (λw_'=>Aw s k a c e u v w_'∧lx (14,0,0) (12,0,0)) (λq_' i_'=>AL s k a c e u v q_' i_'∧lx (13,0,0) (12,0,0)) (λt_' p_' h_' n_' a_' z_' r0_' r1_' r2_' r3_' r4_' r5_' r6_' r7_' i_'=>Aj s k a c e u v t_' p_' h_' n_' a_' z_' r0_' r1_' r2_' r3_' r4_' r5_' r6_' r7_' i_'∧lx (12,0,0) (12,0,0)) (λi_'=>AO s k a c e u v i_'∧lx (11,0,0) (12,0,0)) (λt_' p_' h_' n_' a_' z_' r0_' r1_' r2_' r3_' r4_' r5_' r6_' r7_' i_'=>Ah s k a c e u v t_' p_' h_' n_' a_' z_' r0_' r1_' r2_' r3_' r4_' r5_' r6_' r7_' i_'∧lx (10,0,0) (12,0,0)) (λr__=>r__=(Ae s k a c e u v)) (λt_ p_ h_ n_ al_ zl_ x0_ x1_ x2_ x3_ x4_ x5_ x6_ x7_ r_=>Bj ⟨t_,p_,h_,n_,al_,zl_,x0_,x1_,x2_,x3_,x4_,x5_,x6_,x7_⟩ ((Ae s k a c e u v).1)∧r_=(Ae s k a c e u v).2):=by
 unfold Aj at hI
 unfold VT
 try unfold AA
 try unfold Az
 try unfold Ai
 try unfold AB
 try unfold A7
 try unfold AC
 try unfold Aw
 try unfold AL
 try unfold Aj
 try unfold AO
 try unfold Ah
 obtain ⟨hR,rfl,_,_,rfl,hA,rfl⟩:=hI
 have key:Ae s 4 1 c 0 u v=(Io s 4 1 c u v,true):=by unfold Ae;rw [hA];rfl
 refine ⟨by decide, λ_=>⟨?_,?_⟩⟩
 ·show Bj _ (Ae s 4 1 c 0 u v).1
  rw [key];exact ⟨hR.n,hR.z,by show EK _ _ _=_;unfold EK;rw [hR.eq];rfl⟩
 ·show _=(Ae s 4 1 c 0 u v).2
  rw [key]
theorem AbR (s:RS) (k a c e u v:Int) (hp0:s.a.length≤1000) (t_ p_ h_:Int) (n_:Nat) (a_ z_:LI) (r0_ r1_ r2_ r3_ r4_ r5_ r6_ r7_:Int) (hI:Aj s k a c e u v t_ p_ h_ n_ a_ z_ r0_ r1_ r2_ r3_ r4_ r5_ r6_ r7_ (2:Int)):VU s k a c e u v t_ p_ h_ n_ a_ z_ r0_ r1_ r2_ r3_ r4_ r5_ r6_ r7_ (λq_'=>AA s k a c e u v q_'∧lx (20,0,0) (12,0,0)) (λt_' p_' h_' n_' a_' z_' r0_' r1_' r2_' r3_' r4_' r5_' r6_' r7_'=>Az s k a c e u v t_' p_' h_' n_' a_' z_' r0_' r1_' r2_' r3_' r4_' r5_' r6_' r7_'∧lx (19,0,0) (12,0,0)) (λt_' p_' h_' n_' a_' z_' r0_' r1_' r2_' r3_' r4_' r5_' r6_' r7_' i_'=>Ai s k a c e u v t_' p_' h_' n_' a_' z_' r0_' r1_' r2_' r3_' r4_' r5_' r6_' r7_' i_'∧lx (18,(8-i_').toNat,0) (12,0,0)) (λk_'=>AB s k a c e u v k_'∧lx (17,0,0) (12,0,0)) (λt_' p_' h_' n_' a_' z_' r0_' r1_' r2_' r3_' r4_' r5_' r6_' r7_' k_'=>A7 s k a c e u v t_' p_' h_' n_' a_' z_' r0_' r1_' r2_' r3_' r4_' r5_' r6_' r7_' k_'∧lx (16,0,0) (12,0,0)) (λt_' p_' h_' n_' a_' z_' r0_' r1_' r2_' r3_' r4_' r5_' r6_' r7_' w_'=>AC s k a c e u v t_' p_' h_' n_' a_' z_' r0_' r1_' r2_' r3_' r4_' r5_' r6_' r7_' w_'∧lx (15,0,0) (12,0,0)) (λw_'=>Aw s k a c e u v w_'∧lx (14,0,0) (12,0,0)) (λq_' i_'=>AL s k a c e u v q_' i_'∧lx (13,0,0) (12,0,0)) (λt_' p_' h_' n_' a_' z_' r0_' r1_' r2_' r3_' r4_' r5_' r6_' r7_' i_'=>Aj s k a c e u v t_' p_' h_' n_' a_' z_' r0_' r1_' r2_' r3_' r4_' r5_' r6_' r7_' i_'∧lx (12,0,0) (12,0,0)) (λi_'=>AO s k a c e u v i_'∧lx (11,0,0) (12,0,0)) (λt_' p_' h_' n_' a_' z_' r0_' r1_' r2_' r3_' r4_' r5_' r6_' r7_' i_'=>Ah s k a c e u v t_' p_' h_' n_' a_' z_' r0_' r1_' r2_' r3_' r4_' r5_' r6_' r7_' i_'∧lx (10,0,0) (12,0,0)) (λr__=>r__=(Ae s k a c e u v)) (λt_ p_ h_ n_ al_ zl_ x0_ x1_ x2_ x3_ x4_ x5_ x6_ x7_ r_=>Bj ⟨t_,p_,h_,n_,al_,zl_,x0_,x1_,x2_,x3_,x4_,x5_,x6_,x7_⟩ ((Ae s k a c e u v).1)∧r_=(Ae s k a c e u v).2):=by
 unfold Aj at hI
 unfold VU
 try unfold AA
 try unfold Az
 try unfold Ai
 try unfold AB
 try unfold A7
 try unfold AC
 try unfold Aw
 try unfold AL
 try unfold Aj
 try unfold AO
 try unfold Ah
 obtain ⟨hR,rfl,_,_,rfl,hA,rfl⟩:=hI
 have key:Ae s 4 2 c 0 u v=(Io s 4 2 c u v,true):=by unfold Ae;rw [hA];rfl
 refine ⟨by decide, λ_=>⟨?_,?_⟩⟩
 ·show Bj _ (Ae s 4 2 c 0 u v).1
  rw [key];exact ⟨hR.n,hR.z,by show EK _ _ _=_;unfold EK;rw [hR.eq];rfl⟩
 ·show _=(Ae s 4 2 c 0 u v).2
  rw [key]
theorem AbS (s:RS) (k a c e u v:Int) (hp0:s.a.length≤1000) (t_ p_ h_:Int) (n_:Nat) (a_ z_:LI) (r0_ r1_ r2_ r3_ r4_ r5_ r6_ r7_:Int) (hI:Aj s k a c e u v t_ p_ h_ n_ a_ z_ r0_ r1_ r2_ r3_ r4_ r5_ r6_ r7_ (3:Int)):VV s k a c e u v t_ p_ h_ n_ a_ z_ r0_ r1_ r2_ r3_ r4_ r5_ r6_ r7_ (λq_'=>AA s k a c e u v q_'∧lx (20,0,0) (12,0,0)) (λt_' p_' h_' n_' a_' z_' r0_' r1_' r2_' r3_' r4_' r5_' r6_' r7_'=>Az s k a c e u v t_' p_' h_' n_' a_' z_' r0_' r1_' r2_' r3_' r4_' r5_' r6_' r7_'∧lx (19,0,0) (12,0,0)) (λt_' p_' h_' n_' a_' z_' r0_' r1_' r2_' r3_' r4_' r5_' r6_' r7_' i_'=>Ai s k a c e u v t_' p_' h_' n_' a_' z_' r0_' r1_' r2_' r3_' r4_' r5_' r6_' r7_' i_'∧lx (18,(8-i_').toNat,0) (12,0,0)) (λk_'=>AB s k a c e u v k_'∧lx (17,0,0) (12,0,0)) (λt_' p_' h_' n_' a_' z_' r0_' r1_' r2_' r3_' r4_' r5_' r6_' r7_' k_'=>A7 s k a c e u v t_' p_' h_' n_' a_' z_' r0_' r1_' r2_' r3_' r4_' r5_' r6_' r7_' k_'∧lx (16,0,0) (12,0,0)) (λt_' p_' h_' n_' a_' z_' r0_' r1_' r2_' r3_' r4_' r5_' r6_' r7_' w_'=>AC s k a c e u v t_' p_' h_' n_' a_' z_' r0_' r1_' r2_' r3_' r4_' r5_' r6_' r7_' w_'∧lx (15,0,0) (12,0,0)) (λw_'=>Aw s k a c e u v w_'∧lx (14,0,0) (12,0,0)) (λq_' i_'=>AL s k a c e u v q_' i_'∧lx (13,0,0) (12,0,0)) (λt_' p_' h_' n_' a_' z_' r0_' r1_' r2_' r3_' r4_' r5_' r6_' r7_' i_'=>Aj s k a c e u v t_' p_' h_' n_' a_' z_' r0_' r1_' r2_' r3_' r4_' r5_' r6_' r7_' i_'∧lx (12,0,0) (12,0,0)) (λi_'=>AO s k a c e u v i_'∧lx (11,0,0) (12,0,0)) (λt_' p_' h_' n_' a_' z_' r0_' r1_' r2_' r3_' r4_' r5_' r6_' r7_' i_'=>Ah s k a c e u v t_' p_' h_' n_' a_' z_' r0_' r1_' r2_' r3_' r4_' r5_' r6_' r7_' i_'∧lx (10,0,0) (12,0,0)) (λr__=>r__=(Ae s k a c e u v)) (λt_ p_ h_ n_ al_ zl_ x0_ x1_ x2_ x3_ x4_ x5_ x6_ x7_ r_=>Bj ⟨t_,p_,h_,n_,al_,zl_,x0_,x1_,x2_,x3_,x4_,x5_,x6_,x7_⟩ ((Ae s k a c e u v).1)∧r_=(Ae s k a c e u v).2):=by
 unfold Aj at hI
 unfold VV
 try unfold AA
 try unfold Az
 try unfold Ai
 try unfold AB
 try unfold A7
 try unfold AC
 try unfold Aw
 try unfold AL
 try unfold Aj
 try unfold AO
 try unfold Ah
 obtain ⟨hR,rfl,_,_,rfl,hA,rfl⟩:=hI
 have key:Ae s 4 3 c 0 u v=(Io s 4 3 c u v,true):=by unfold Ae;rw [hA];rfl
 refine ⟨by decide, λ_=>⟨?_,?_⟩⟩
 ·show Bj _ (Ae s 4 3 c 0 u v).1
  rw [key];exact ⟨hR.n,hR.z,by show EK _ _ _=_;unfold EK;rw [hR.eq];rfl⟩
 ·show _=(Ae s 4 3 c 0 u v).2
  rw [key]
theorem AbT (s:RS) (k a c e u v:Int) (hp0:s.a.length≤1000) (t_ p_ h_:Int) (n_:Nat) (a_ z_:LI) (r0_ r1_ r2_ r3_ r4_ r5_ r6_ r7_:Int) (hI:Aj s k a c e u v t_ p_ h_ n_ a_ z_ r0_ r1_ r2_ r3_ r4_ r5_ r6_ r7_ (4:Int)):VW s k a c e u v t_ p_ h_ n_ a_ z_ r0_ r1_ r2_ r3_ r4_ r5_ r6_ r7_ (λq_'=>AA s k a c e u v q_'∧lx (20,0,0) (12,0,0)) (λt_' p_' h_' n_' a_' z_' r0_' r1_' r2_' r3_' r4_' r5_' r6_' r7_'=>Az s k a c e u v t_' p_' h_' n_' a_' z_' r0_' r1_' r2_' r3_' r4_' r5_' r6_' r7_'∧lx (19,0,0) (12,0,0)) (λt_' p_' h_' n_' a_' z_' r0_' r1_' r2_' r3_' r4_' r5_' r6_' r7_' i_'=>Ai s k a c e u v t_' p_' h_' n_' a_' z_' r0_' r1_' r2_' r3_' r4_' r5_' r6_' r7_' i_'∧lx (18,(8-i_').toNat,0) (12,0,0)) (λk_'=>AB s k a c e u v k_'∧lx (17,0,0) (12,0,0)) (λt_' p_' h_' n_' a_' z_' r0_' r1_' r2_' r3_' r4_' r5_' r6_' r7_' k_'=>A7 s k a c e u v t_' p_' h_' n_' a_' z_' r0_' r1_' r2_' r3_' r4_' r5_' r6_' r7_' k_'∧lx (16,0,0) (12,0,0)) (λt_' p_' h_' n_' a_' z_' r0_' r1_' r2_' r3_' r4_' r5_' r6_' r7_' w_'=>AC s k a c e u v t_' p_' h_' n_' a_' z_' r0_' r1_' r2_' r3_' r4_' r5_' r6_' r7_' w_'∧lx (15,0,0) (12,0,0)) (λw_'=>Aw s k a c e u v w_'∧lx (14,0,0) (12,0,0)) (λq_' i_'=>AL s k a c e u v q_' i_'∧lx (13,0,0) (12,0,0)) (λt_' p_' h_' n_' a_' z_' r0_' r1_' r2_' r3_' r4_' r5_' r6_' r7_' i_'=>Aj s k a c e u v t_' p_' h_' n_' a_' z_' r0_' r1_' r2_' r3_' r4_' r5_' r6_' r7_' i_'∧lx (12,0,0) (12,0,0)) (λi_'=>AO s k a c e u v i_'∧lx (11,0,0) (12,0,0)) (λt_' p_' h_' n_' a_' z_' r0_' r1_' r2_' r3_' r4_' r5_' r6_' r7_' i_'=>Ah s k a c e u v t_' p_' h_' n_' a_' z_' r0_' r1_' r2_' r3_' r4_' r5_' r6_' r7_' i_'∧lx (10,0,0) (12,0,0)) (λr__=>r__=(Ae s k a c e u v)) (λt_ p_ h_ n_ al_ zl_ x0_ x1_ x2_ x3_ x4_ x5_ x6_ x7_ r_=>Bj ⟨t_,p_,h_,n_,al_,zl_,x0_,x1_,x2_,x3_,x4_,x5_,x6_,x7_⟩ ((Ae s k a c e u v).1)∧r_=(Ae s k a c e u v).2):=by
 unfold Aj at hI
 unfold VW
 try unfold AA
 try unfold Az
 try unfold Ai
 try unfold AB
 try unfold A7
 try unfold AC
 try unfold Aw
 try unfold AL
 try unfold Aj
 try unfold AO
 try unfold Ah
 obtain ⟨hR,rfl,_,_,rfl,hA,rfl⟩:=hI
 have key:Ae s 4 4 c 0 u v=(Io s 4 4 c u v,true):=by unfold Ae;rw [hA];rfl
 refine ⟨by decide, λ_=>⟨?_,?_⟩⟩
 ·show Bj _ (Ae s 4 4 c 0 u v).1
  rw [key];exact ⟨hR.n,hR.z,by show EK _ _ _=_;unfold EK;rw [hR.eq];rfl⟩
 ·show _=(Ae s 4 4 c 0 u v).2
  rw [key]
theorem AbU (s:RS) (k a c e u v:Int) (hp0:s.a.length≤1000) (t_ p_ h_:Int) (n_:Nat) (a_ z_:LI) (r0_ r1_ r2_ r3_ r4_ r5_ r6_ r7_:Int) (hI:Aj s k a c e u v t_ p_ h_ n_ a_ z_ r0_ r1_ r2_ r3_ r4_ r5_ r6_ r7_ (5:Int)):VX s k a c e u v t_ p_ h_ n_ a_ z_ r0_ r1_ r2_ r3_ r4_ r5_ r6_ r7_ (λq_'=>AA s k a c e u v q_'∧lx (20,0,0) (12,0,0)) (λt_' p_' h_' n_' a_' z_' r0_' r1_' r2_' r3_' r4_' r5_' r6_' r7_'=>Az s k a c e u v t_' p_' h_' n_' a_' z_' r0_' r1_' r2_' r3_' r4_' r5_' r6_' r7_'∧lx (19,0,0) (12,0,0)) (λt_' p_' h_' n_' a_' z_' r0_' r1_' r2_' r3_' r4_' r5_' r6_' r7_' i_'=>Ai s k a c e u v t_' p_' h_' n_' a_' z_' r0_' r1_' r2_' r3_' r4_' r5_' r6_' r7_' i_'∧lx (18,(8-i_').toNat,0) (12,0,0)) (λk_'=>AB s k a c e u v k_'∧lx (17,0,0) (12,0,0)) (λt_' p_' h_' n_' a_' z_' r0_' r1_' r2_' r3_' r4_' r5_' r6_' r7_' k_'=>A7 s k a c e u v t_' p_' h_' n_' a_' z_' r0_' r1_' r2_' r3_' r4_' r5_' r6_' r7_' k_'∧lx (16,0,0) (12,0,0)) (λt_' p_' h_' n_' a_' z_' r0_' r1_' r2_' r3_' r4_' r5_' r6_' r7_' w_'=>AC s k a c e u v t_' p_' h_' n_' a_' z_' r0_' r1_' r2_' r3_' r4_' r5_' r6_' r7_' w_'∧lx (15,0,0) (12,0,0)) (λw_'=>Aw s k a c e u v w_'∧lx (14,0,0) (12,0,0)) (λq_' i_'=>AL s k a c e u v q_' i_'∧lx (13,0,0) (12,0,0)) (λt_' p_' h_' n_' a_' z_' r0_' r1_' r2_' r3_' r4_' r5_' r6_' r7_' i_'=>Aj s k a c e u v t_' p_' h_' n_' a_' z_' r0_' r1_' r2_' r3_' r4_' r5_' r6_' r7_' i_'∧lx (12,0,0) (12,0,0)) (λi_'=>AO s k a c e u v i_'∧lx (11,0,0) (12,0,0)) (λt_' p_' h_' n_' a_' z_' r0_' r1_' r2_' r3_' r4_' r5_' r6_' r7_' i_'=>Ah s k a c e u v t_' p_' h_' n_' a_' z_' r0_' r1_' r2_' r3_' r4_' r5_' r6_' r7_' i_'∧lx (10,0,0) (12,0,0)) (λr__=>r__=(Ae s k a c e u v)) (λt_ p_ h_ n_ al_ zl_ x0_ x1_ x2_ x3_ x4_ x5_ x6_ x7_ r_=>Bj ⟨t_,p_,h_,n_,al_,zl_,x0_,x1_,x2_,x3_,x4_,x5_,x6_,x7_⟩ ((Ae s k a c e u v).1)∧r_=(Ae s k a c e u v).2):=by
 unfold Aj at hI
 unfold VX
 try unfold AA
 try unfold Az
 try unfold Ai
 try unfold AB
 try unfold A7
 try unfold AC
 try unfold Aw
 try unfold AL
 try unfold Aj
 try unfold AO
 try unfold Ah
 obtain ⟨hR,rfl,_,_,rfl,hA,rfl⟩:=hI
 have key:Ae s 4 5 c 0 u v=(Io s 4 5 c u v,true):=by unfold Ae;rw [hA];rfl
 refine ⟨by decide, λ_=>⟨?_,?_⟩⟩
 ·show Bj _ (Ae s 4 5 c 0 u v).1
  rw [key];exact ⟨hR.n,hR.z,by show EK _ _ _=_;unfold EK;rw [hR.eq];rfl⟩
 ·show _=(Ae s 4 5 c 0 u v).2
  rw [key]
theorem AbV (s:RS) (k a c e u v:Int) (hp0:s.a.length≤1000) (t_ p_ h_:Int) (n_:Nat) (a_ z_:LI) (r0_ r1_ r2_ r3_ r4_ r5_ r6_ r7_:Int) (hI:Aj s k a c e u v t_ p_ h_ n_ a_ z_ r0_ r1_ r2_ r3_ r4_ r5_ r6_ r7_ (6:Int)):VY s k a c e u v t_ p_ h_ n_ a_ z_ r0_ r1_ r2_ r3_ r4_ r5_ r6_ r7_ (λq_'=>AA s k a c e u v q_'∧lx (20,0,0) (12,0,0)) (λt_' p_' h_' n_' a_' z_' r0_' r1_' r2_' r3_' r4_' r5_' r6_' r7_'=>Az s k a c e u v t_' p_' h_' n_' a_' z_' r0_' r1_' r2_' r3_' r4_' r5_' r6_' r7_'∧lx (19,0,0) (12,0,0)) (λt_' p_' h_' n_' a_' z_' r0_' r1_' r2_' r3_' r4_' r5_' r6_' r7_' i_'=>Ai s k a c e u v t_' p_' h_' n_' a_' z_' r0_' r1_' r2_' r3_' r4_' r5_' r6_' r7_' i_'∧lx (18,(8-i_').toNat,0) (12,0,0)) (λk_'=>AB s k a c e u v k_'∧lx (17,0,0) (12,0,0)) (λt_' p_' h_' n_' a_' z_' r0_' r1_' r2_' r3_' r4_' r5_' r6_' r7_' k_'=>A7 s k a c e u v t_' p_' h_' n_' a_' z_' r0_' r1_' r2_' r3_' r4_' r5_' r6_' r7_' k_'∧lx (16,0,0) (12,0,0)) (λt_' p_' h_' n_' a_' z_' r0_' r1_' r2_' r3_' r4_' r5_' r6_' r7_' w_'=>AC s k a c e u v t_' p_' h_' n_' a_' z_' r0_' r1_' r2_' r3_' r4_' r5_' r6_' r7_' w_'∧lx (15,0,0) (12,0,0)) (λw_'=>Aw s k a c e u v w_'∧lx (14,0,0) (12,0,0)) (λq_' i_'=>AL s k a c e u v q_' i_'∧lx (13,0,0) (12,0,0)) (λt_' p_' h_' n_' a_' z_' r0_' r1_' r2_' r3_' r4_' r5_' r6_' r7_' i_'=>Aj s k a c e u v t_' p_' h_' n_' a_' z_' r0_' r1_' r2_' r3_' r4_' r5_' r6_' r7_' i_'∧lx (12,0,0) (12,0,0)) (λi_'=>AO s k a c e u v i_'∧lx (11,0,0) (12,0,0)) (λt_' p_' h_' n_' a_' z_' r0_' r1_' r2_' r3_' r4_' r5_' r6_' r7_' i_'=>Ah s k a c e u v t_' p_' h_' n_' a_' z_' r0_' r1_' r2_' r3_' r4_' r5_' r6_' r7_' i_'∧lx (10,0,0) (12,0,0)) (λr__=>r__=(Ae s k a c e u v)) (λt_ p_ h_ n_ al_ zl_ x0_ x1_ x2_ x3_ x4_ x5_ x6_ x7_ r_=>Bj ⟨t_,p_,h_,n_,al_,zl_,x0_,x1_,x2_,x3_,x4_,x5_,x6_,x7_⟩ ((Ae s k a c e u v).1)∧r_=(Ae s k a c e u v).2):=by
 unfold Aj at hI
 unfold VY
 try unfold AA
 try unfold Az
 try unfold Ai
 try unfold AB
 try unfold A7
 try unfold AC
 try unfold Aw
 try unfold AL
 try unfold Aj
 try unfold AO
 try unfold Ah
 obtain ⟨hR,rfl,_,_,rfl,hA,rfl⟩:=hI
 have key:Ae s 4 6 c 0 u v=(Io s 4 6 c u v,true):=by unfold Ae;rw [hA];rfl
 refine ⟨by decide, λ_=>⟨?_,?_⟩⟩
 ·show Bj _ (Ae s 4 6 c 0 u v).1
  rw [key];exact ⟨hR.n,hR.z,by show EK _ _ _=_;unfold EK;rw [hR.eq];rfl⟩
 ·show _=(Ae s 4 6 c 0 u v).2
  rw [key]
theorem AbW (s:RS) (k a c e u v:Int) (hp0:s.a.length≤1000) (t_ p_ h_:Int) (n_:Nat) (a_ z_:LI) (r0_ r1_ r2_ r3_ r4_ r5_ r6_ r7_:Int) (hI:Aj s k a c e u v t_ p_ h_ n_ a_ z_ r0_ r1_ r2_ r3_ r4_ r5_ r6_ r7_ (7:Int)):VZ s k a c e u v t_ p_ h_ n_ a_ z_ r0_ r1_ r2_ r3_ r4_ r5_ r6_ r7_ (λq_'=>AA s k a c e u v q_'∧lx (20,0,0) (12,0,0)) (λt_' p_' h_' n_' a_' z_' r0_' r1_' r2_' r3_' r4_' r5_' r6_' r7_'=>Az s k a c e u v t_' p_' h_' n_' a_' z_' r0_' r1_' r2_' r3_' r4_' r5_' r6_' r7_'∧lx (19,0,0) (12,0,0)) (λt_' p_' h_' n_' a_' z_' r0_' r1_' r2_' r3_' r4_' r5_' r6_' r7_' i_'=>Ai s k a c e u v t_' p_' h_' n_' a_' z_' r0_' r1_' r2_' r3_' r4_' r5_' r6_' r7_' i_'∧lx (18,(8-i_').toNat,0) (12,0,0)) (λk_'=>AB s k a c e u v k_'∧lx (17,0,0) (12,0,0)) (λt_' p_' h_' n_' a_' z_' r0_' r1_' r2_' r3_' r4_' r5_' r6_' r7_' k_'=>A7 s k a c e u v t_' p_' h_' n_' a_' z_' r0_' r1_' r2_' r3_' r4_' r5_' r6_' r7_' k_'∧lx (16,0,0) (12,0,0)) (λt_' p_' h_' n_' a_' z_' r0_' r1_' r2_' r3_' r4_' r5_' r6_' r7_' w_'=>AC s k a c e u v t_' p_' h_' n_' a_' z_' r0_' r1_' r2_' r3_' r4_' r5_' r6_' r7_' w_'∧lx (15,0,0) (12,0,0)) (λw_'=>Aw s k a c e u v w_'∧lx (14,0,0) (12,0,0)) (λq_' i_'=>AL s k a c e u v q_' i_'∧lx (13,0,0) (12,0,0)) (λt_' p_' h_' n_' a_' z_' r0_' r1_' r2_' r3_' r4_' r5_' r6_' r7_' i_'=>Aj s k a c e u v t_' p_' h_' n_' a_' z_' r0_' r1_' r2_' r3_' r4_' r5_' r6_' r7_' i_'∧lx (12,0,0) (12,0,0)) (λi_'=>AO s k a c e u v i_'∧lx (11,0,0) (12,0,0)) (λt_' p_' h_' n_' a_' z_' r0_' r1_' r2_' r3_' r4_' r5_' r6_' r7_' i_'=>Ah s k a c e u v t_' p_' h_' n_' a_' z_' r0_' r1_' r2_' r3_' r4_' r5_' r6_' r7_' i_'∧lx (10,0,0) (12,0,0)) (λr__=>r__=(Ae s k a c e u v)) (λt_ p_ h_ n_ al_ zl_ x0_ x1_ x2_ x3_ x4_ x5_ x6_ x7_ r_=>Bj ⟨t_,p_,h_,n_,al_,zl_,x0_,x1_,x2_,x3_,x4_,x5_,x6_,x7_⟩ ((Ae s k a c e u v).1)∧r_=(Ae s k a c e u v).2):=by
 unfold Aj at hI
 unfold VZ
 try unfold AA
 try unfold Az
 try unfold Ai
 try unfold AB
 try unfold A7
 try unfold AC
 try unfold Aw
 try unfold AL
 try unfold Aj
 try unfold AO
 try unfold Ah
 obtain ⟨hR,rfl,_,_,rfl,hA,rfl⟩:=hI
 have key:Ae s 4 7 c 0 u v=(Io s 4 7 c u v,true):=by unfold Ae;rw [hA];rfl
 refine ⟨by decide, λ_=>⟨?_,?_⟩⟩
 ·show Bj _ (Ae s 4 7 c 0 u v).1
  rw [key];exact ⟨hR.n,hR.z,by show EK _ _ _=_;unfold EK;rw [hR.eq];rfl⟩
 ·show _=(Ae s 4 7 c 0 u v).2
  rw [key]
theorem AfG (s:RS) (k a c e u v:Int) (hp0:s.a.length≤1000) (i_ t_ p_ h_:Int) (n_:Nat) (al_ zl_:LI) (x0_ x1_ x2_ x3_ x4_ x5_ x6_ x7_:Int) (hI:AO s k a c e u v i_) (hx:Bj ⟨t_,p_,h_,n_,al_,zl_,x0_,x1_,x2_,x3_,x4_,x5_,x6_,x7_⟩ (s)):AbF s k a c e u v i_ t_ p_ h_ n_ al_ zl_ x0_ x1_ x2_ x3_ x4_ x5_ x6_ x7_ (λt_' p_' h_' n_' a_' z_' r0_' r1_' r2_' r3_' r4_' r5_' r6_' r7_' i_'=>Ah s k a c e u v t_' p_' h_' n_' a_' z_' r0_' r1_' r2_' r3_' r4_' r5_' r6_' r7_' i_'∧lx (10,0,0) (11,0,0)):=by
 unfold AO at hI
 unfold AbF
 try unfold AA
 try unfold Az
 try unfold Ai
 try unfold AB
 try unfold A7
 try unfold AC
 try unfold Aw
 try unfold AL
 try unfold Aj
 try unfold AO
 try unfold Ah
 exact ⟨⟨hx,hI⟩,Bo⟩
theorem Aik (s:RS) (k a c e u v:Int) (hp0:s.a.length≤1000) (t_ p_ h_:Int) (n_:Nat) (a_ z_:LI) (r0_ r1_ r2_ r3_ r4_ r5_ r6_ r7_ i_:Int) (hI:Ah s k a c e u v t_ p_ h_ n_ a_ z_ r0_ r1_ r2_ r3_ r4_ r5_ r6_ r7_ i_):i_=0∨i_=1∨i_=2∨i_=3∨i_=4∨i_=5∨i_=6∨i_=7:=by
 unfold Ah at hI
 omega
theorem Zr (s:RS) (k a c e u v:Int) (hp0:s.a.length≤1000) (t_ p_ h_:Int) (n_:Nat) (a_ z_:LI) (r0_ r1_ r2_ r3_ r4_ r5_ r6_ r7_:Int) (hI:Ah s k a c e u v t_ p_ h_ n_ a_ z_ r0_ r1_ r2_ r3_ r4_ r5_ r6_ r7_ (0:Int)):Ux s k a c e u v t_ p_ h_ n_ a_ z_ r0_ r1_ r2_ r3_ r4_ r5_ r6_ r7_ (λq_'=>AA s k a c e u v q_'∧lx (20,0,0) (10,0,0)) (λt_' p_' h_' n_' a_' z_' r0_' r1_' r2_' r3_' r4_' r5_' r6_' r7_'=>Az s k a c e u v t_' p_' h_' n_' a_' z_' r0_' r1_' r2_' r3_' r4_' r5_' r6_' r7_'∧lx (19,0,0) (10,0,0)) (λt_' p_' h_' n_' a_' z_' r0_' r1_' r2_' r3_' r4_' r5_' r6_' r7_' i_'=>Ai s k a c e u v t_' p_' h_' n_' a_' z_' r0_' r1_' r2_' r3_' r4_' r5_' r6_' r7_' i_'∧lx (18,(8-i_').toNat,0) (10,0,0)) (λk_'=>AB s k a c e u v k_'∧lx (17,0,0) (10,0,0)) (λt_' p_' h_' n_' a_' z_' r0_' r1_' r2_' r3_' r4_' r5_' r6_' r7_' k_'=>A7 s k a c e u v t_' p_' h_' n_' a_' z_' r0_' r1_' r2_' r3_' r4_' r5_' r6_' r7_' k_'∧lx (16,0,0) (10,0,0)) (λt_' p_' h_' n_' a_' z_' r0_' r1_' r2_' r3_' r4_' r5_' r6_' r7_' w_'=>AC s k a c e u v t_' p_' h_' n_' a_' z_' r0_' r1_' r2_' r3_' r4_' r5_' r6_' r7_' w_'∧lx (15,0,0) (10,0,0)) (λw_'=>Aw s k a c e u v w_'∧lx (14,0,0) (10,0,0)) (λq_' i_'=>AL s k a c e u v q_' i_'∧lx (13,0,0) (10,0,0)) (λt_' p_' h_' n_' a_' z_' r0_' r1_' r2_' r3_' r4_' r5_' r6_' r7_' i_'=>Aj s k a c e u v t_' p_' h_' n_' a_' z_' r0_' r1_' r2_' r3_' r4_' r5_' r6_' r7_' i_'∧lx (12,0,0) (10,0,0)) (λi_'=>AO s k a c e u v i_'∧lx (11,0,0) (10,0,0)) (λt_' p_' h_' n_' a_' z_' r0_' r1_' r2_' r3_' r4_' r5_' r6_' r7_' i_'=>Ah s k a c e u v t_' p_' h_' n_' a_' z_' r0_' r1_' r2_' r3_' r4_' r5_' r6_' r7_' i_'∧lx (10,0,0) (10,0,0)) (λr__=>r__=(Ae s k a c e u v)) (λt_ p_ h_ n_ al_ zl_ x0_ x1_ x2_ x3_ x4_ x5_ x6_ x7_ r_=>Bj ⟨t_,p_,h_,n_,al_,zl_,x0_,x1_,x2_,x3_,x4_,x5_,x6_,x7_⟩ ((Ae s k a c e u v).1)∧r_=(Ae s k a c e u v).2):=by
 unfold Ah at hI
 unfold Ux
 try unfold AA
 try unfold Az
 try unfold Ai
 try unfold AB
 try unfold A7
 try unfold AC
 try unfold Aw
 try unfold AL
 try unfold Aj
 try unfold AO
 try unfold Ah
 obtain ⟨hR,rfl,_,_,rfl,hA,rfl⟩:=hI
 have key:Ae s 5 0 c 0 u v=(Io s 5 0 c u v,true):=by unfold Ae;rw [hA];rfl
 refine ⟨by decide, λ_=>⟨?_,?_⟩⟩
 ·show Bj _ (Ae s 5 0 c 0 u v).1
  rw [key];exact ⟨hR.n,hR.z,by show EK _ _ _=_;unfold EK;rw [hR.eq];rfl⟩
 ·show _=(Ae s 5 0 c 0 u v).2
  rw [key]
theorem Zt (s:RS) (k a c e u v:Int) (hp0:s.a.length≤1000) (t_ p_ h_:Int) (n_:Nat) (a_ z_:LI) (r0_ r1_ r2_ r3_ r4_ r5_ r6_ r7_:Int) (hI:Ah s k a c e u v t_ p_ h_ n_ a_ z_ r0_ r1_ r2_ r3_ r4_ r5_ r6_ r7_ (1:Int)):Uy s k a c e u v t_ p_ h_ n_ a_ z_ r0_ r1_ r2_ r3_ r4_ r5_ r6_ r7_ (λq_'=>AA s k a c e u v q_'∧lx (20,0,0) (10,0,0)) (λt_' p_' h_' n_' a_' z_' r0_' r1_' r2_' r3_' r4_' r5_' r6_' r7_'=>Az s k a c e u v t_' p_' h_' n_' a_' z_' r0_' r1_' r2_' r3_' r4_' r5_' r6_' r7_'∧lx (19,0,0) (10,0,0)) (λt_' p_' h_' n_' a_' z_' r0_' r1_' r2_' r3_' r4_' r5_' r6_' r7_' i_'=>Ai s k a c e u v t_' p_' h_' n_' a_' z_' r0_' r1_' r2_' r3_' r4_' r5_' r6_' r7_' i_'∧lx (18,(8-i_').toNat,0) (10,0,0)) (λk_'=>AB s k a c e u v k_'∧lx (17,0,0) (10,0,0)) (λt_' p_' h_' n_' a_' z_' r0_' r1_' r2_' r3_' r4_' r5_' r6_' r7_' k_'=>A7 s k a c e u v t_' p_' h_' n_' a_' z_' r0_' r1_' r2_' r3_' r4_' r5_' r6_' r7_' k_'∧lx (16,0,0) (10,0,0)) (λt_' p_' h_' n_' a_' z_' r0_' r1_' r2_' r3_' r4_' r5_' r6_' r7_' w_'=>AC s k a c e u v t_' p_' h_' n_' a_' z_' r0_' r1_' r2_' r3_' r4_' r5_' r6_' r7_' w_'∧lx (15,0,0) (10,0,0)) (λw_'=>Aw s k a c e u v w_'∧lx (14,0,0) (10,0,0)) (λq_' i_'=>AL s k a c e u v q_' i_'∧lx (13,0,0) (10,0,0)) (λt_' p_' h_' n_' a_' z_' r0_' r1_' r2_' r3_' r4_' r5_' r6_' r7_' i_'=>Aj s k a c e u v t_' p_' h_' n_' a_' z_' r0_' r1_' r2_' r3_' r4_' r5_' r6_' r7_' i_'∧lx (12,0,0) (10,0,0)) (λi_'=>AO s k a c e u v i_'∧lx (11,0,0) (10,0,0)) (λt_' p_' h_' n_' a_' z_' r0_' r1_' r2_' r3_' r4_' r5_' r6_' r7_' i_'=>Ah s k a c e u v t_' p_' h_' n_' a_' z_' r0_' r1_' r2_' r3_' r4_' r5_' r6_' r7_' i_'∧lx (10,0,0) (10,0,0)) (λr__=>r__=(Ae s k a c e u v)) (λt_ p_ h_ n_ al_ zl_ x0_ x1_ x2_ x3_ x4_ x5_ x6_ x7_ r_=>Bj ⟨t_,p_,h_,n_,al_,zl_,x0_,x1_,x2_,x3_,x4_,x5_,x6_,x7_⟩ ((Ae s k a c e u v).1)∧r_=(Ae s k a c e u v).2):=by
 unfold Ah at hI
 unfold Uy
 try unfold AA
 try unfold Az
 try unfold Ai
 try unfold AB
 try unfold A7
 try unfold AC
 try unfold Aw
 try unfold AL
 try unfold Aj
 try unfold AO
 try unfold Ah
 obtain ⟨hR,rfl,_,_,rfl,hA,rfl⟩:=hI
 have key:Ae s 5 1 c 0 u v=(Io s 5 1 c u v,true):=by unfold Ae;rw [hA];rfl
 refine ⟨by decide, λ_=>⟨?_,?_⟩⟩
 ·show Bj _ (Ae s 5 1 c 0 u v).1
  rw [key];exact ⟨hR.n,hR.z,by show EK _ _ _=_;unfold EK;rw [hR.eq];rfl⟩
 ·show _=(Ae s 5 1 c 0 u v).2
  rw [key]
theorem Zu (s:RS) (k a c e u v:Int) (hp0:s.a.length≤1000) (t_ p_ h_:Int) (n_:Nat) (a_ z_:LI) (r0_ r1_ r2_ r3_ r4_ r5_ r6_ r7_:Int) (hI:Ah s k a c e u v t_ p_ h_ n_ a_ z_ r0_ r1_ r2_ r3_ r4_ r5_ r6_ r7_ (2:Int)):Uz s k a c e u v t_ p_ h_ n_ a_ z_ r0_ r1_ r2_ r3_ r4_ r5_ r6_ r7_ (λq_'=>AA s k a c e u v q_'∧lx (20,0,0) (10,0,0)) (λt_' p_' h_' n_' a_' z_' r0_' r1_' r2_' r3_' r4_' r5_' r6_' r7_'=>Az s k a c e u v t_' p_' h_' n_' a_' z_' r0_' r1_' r2_' r3_' r4_' r5_' r6_' r7_'∧lx (19,0,0) (10,0,0)) (λt_' p_' h_' n_' a_' z_' r0_' r1_' r2_' r3_' r4_' r5_' r6_' r7_' i_'=>Ai s k a c e u v t_' p_' h_' n_' a_' z_' r0_' r1_' r2_' r3_' r4_' r5_' r6_' r7_' i_'∧lx (18,(8-i_').toNat,0) (10,0,0)) (λk_'=>AB s k a c e u v k_'∧lx (17,0,0) (10,0,0)) (λt_' p_' h_' n_' a_' z_' r0_' r1_' r2_' r3_' r4_' r5_' r6_' r7_' k_'=>A7 s k a c e u v t_' p_' h_' n_' a_' z_' r0_' r1_' r2_' r3_' r4_' r5_' r6_' r7_' k_'∧lx (16,0,0) (10,0,0)) (λt_' p_' h_' n_' a_' z_' r0_' r1_' r2_' r3_' r4_' r5_' r6_' r7_' w_'=>AC s k a c e u v t_' p_' h_' n_' a_' z_' r0_' r1_' r2_' r3_' r4_' r5_' r6_' r7_' w_'∧lx (15,0,0) (10,0,0)) (λw_'=>Aw s k a c e u v w_'∧lx (14,0,0) (10,0,0)) (λq_' i_'=>AL s k a c e u v q_' i_'∧lx (13,0,0) (10,0,0)) (λt_' p_' h_' n_' a_' z_' r0_' r1_' r2_' r3_' r4_' r5_' r6_' r7_' i_'=>Aj s k a c e u v t_' p_' h_' n_' a_' z_' r0_' r1_' r2_' r3_' r4_' r5_' r6_' r7_' i_'∧lx (12,0,0) (10,0,0)) (λi_'=>AO s k a c e u v i_'∧lx (11,0,0) (10,0,0)) (λt_' p_' h_' n_' a_' z_' r0_' r1_' r2_' r3_' r4_' r5_' r6_' r7_' i_'=>Ah s k a c e u v t_' p_' h_' n_' a_' z_' r0_' r1_' r2_' r3_' r4_' r5_' r6_' r7_' i_'∧lx (10,0,0) (10,0,0)) (λr__=>r__=(Ae s k a c e u v)) (λt_ p_ h_ n_ al_ zl_ x0_ x1_ x2_ x3_ x4_ x5_ x6_ x7_ r_=>Bj ⟨t_,p_,h_,n_,al_,zl_,x0_,x1_,x2_,x3_,x4_,x5_,x6_,x7_⟩ ((Ae s k a c e u v).1)∧r_=(Ae s k a c e u v).2):=by
 unfold Ah at hI
 unfold Uz
 try unfold AA
 try unfold Az
 try unfold Ai
 try unfold AB
 try unfold A7
 try unfold AC
 try unfold Aw
 try unfold AL
 try unfold Aj
 try unfold AO
 try unfold Ah
 obtain ⟨hR,rfl,_,_,rfl,hA,rfl⟩:=hI
 have key:Ae s 5 2 c 0 u v=(Io s 5 2 c u v,true):=by unfold Ae;rw [hA];rfl
 refine ⟨by decide, λ_=>⟨?_,?_⟩⟩
 ·show Bj _ (Ae s 5 2 c 0 u v).1
  rw [key];exact ⟨hR.n,hR.z,by show EK _ _ _=_;unfold EK;rw [hR.eq];rfl⟩
 ·show _=(Ae s 5 2 c 0 u v).2
  rw [key]
theorem Zv (s:RS) (k a c e u v:Int) (hp0:s.a.length≤1000) (t_ p_ h_:Int) (n_:Nat) (a_ z_:LI) (r0_ r1_ r2_ r3_ r4_ r5_ r6_ r7_:Int) (hI:Ah s k a c e u v t_ p_ h_ n_ a_ z_ r0_ r1_ r2_ r3_ r4_ r5_ r6_ r7_ (3:Int)):U0 s k a c e u v t_ p_ h_ n_ a_ z_ r0_ r1_ r2_ r3_ r4_ r5_ r6_ r7_ (λq_'=>AA s k a c e u v q_'∧lx (20,0,0) (10,0,0)) (λt_' p_' h_' n_' a_' z_' r0_' r1_' r2_' r3_' r4_' r5_' r6_' r7_'=>Az s k a c e u v t_' p_' h_' n_' a_' z_' r0_' r1_' r2_' r3_' r4_' r5_' r6_' r7_'∧lx (19,0,0) (10,0,0)) (λt_' p_' h_' n_' a_' z_' r0_' r1_' r2_' r3_' r4_' r5_' r6_' r7_' i_'=>Ai s k a c e u v t_' p_' h_' n_' a_' z_' r0_' r1_' r2_' r3_' r4_' r5_' r6_' r7_' i_'∧lx (18,(8-i_').toNat,0) (10,0,0)) (λk_'=>AB s k a c e u v k_'∧lx (17,0,0) (10,0,0)) (λt_' p_' h_' n_' a_' z_' r0_' r1_' r2_' r3_' r4_' r5_' r6_' r7_' k_'=>A7 s k a c e u v t_' p_' h_' n_' a_' z_' r0_' r1_' r2_' r3_' r4_' r5_' r6_' r7_' k_'∧lx (16,0,0) (10,0,0)) (λt_' p_' h_' n_' a_' z_' r0_' r1_' r2_' r3_' r4_' r5_' r6_' r7_' w_'=>AC s k a c e u v t_' p_' h_' n_' a_' z_' r0_' r1_' r2_' r3_' r4_' r5_' r6_' r7_' w_'∧lx (15,0,0) (10,0,0)) (λw_'=>Aw s k a c e u v w_'∧lx (14,0,0) (10,0,0)) (λq_' i_'=>AL s k a c e u v q_' i_'∧lx (13,0,0) (10,0,0)) (λt_' p_' h_' n_' a_' z_' r0_' r1_' r2_' r3_' r4_' r5_' r6_' r7_' i_'=>Aj s k a c e u v t_' p_' h_' n_' a_' z_' r0_' r1_' r2_' r3_' r4_' r5_' r6_' r7_' i_'∧lx (12,0,0) (10,0,0)) (λi_'=>AO s k a c e u v i_'∧lx (11,0,0) (10,0,0)) (λt_' p_' h_' n_' a_' z_' r0_' r1_' r2_' r3_' r4_' r5_' r6_' r7_' i_'=>Ah s k a c e u v t_' p_' h_' n_' a_' z_' r0_' r1_' r2_' r3_' r4_' r5_' r6_' r7_' i_'∧lx (10,0,0) (10,0,0)) (λr__=>r__=(Ae s k a c e u v)) (λt_ p_ h_ n_ al_ zl_ x0_ x1_ x2_ x3_ x4_ x5_ x6_ x7_ r_=>Bj ⟨t_,p_,h_,n_,al_,zl_,x0_,x1_,x2_,x3_,x4_,x5_,x6_,x7_⟩ ((Ae s k a c e u v).1)∧r_=(Ae s k a c e u v).2):=by
 unfold Ah at hI
 unfold U0
 try unfold AA
 try unfold Az
 try unfold Ai
 try unfold AB
 try unfold A7
 try unfold AC
 try unfold Aw
 try unfold AL
 try unfold Aj
 try unfold AO
 try unfold Ah
 obtain ⟨hR,rfl,_,_,rfl,hA,rfl⟩:=hI
 have key:Ae s 5 3 c 0 u v=(Io s 5 3 c u v,true):=by unfold Ae;rw [hA];rfl
 refine ⟨by decide, λ_=>⟨?_,?_⟩⟩
 ·show Bj _ (Ae s 5 3 c 0 u v).1
  rw [key];exact ⟨hR.n,hR.z,by show EK _ _ _=_;unfold EK;rw [hR.eq];rfl⟩
 ·show _=(Ae s 5 3 c 0 u v).2
  rw [key]
theorem Zw (s:RS) (k a c e u v:Int) (hp0:s.a.length≤1000) (t_ p_ h_:Int) (n_:Nat) (a_ z_:LI) (r0_ r1_ r2_ r3_ r4_ r5_ r6_ r7_:Int) (hI:Ah s k a c e u v t_ p_ h_ n_ a_ z_ r0_ r1_ r2_ r3_ r4_ r5_ r6_ r7_ (4:Int)):U1 s k a c e u v t_ p_ h_ n_ a_ z_ r0_ r1_ r2_ r3_ r4_ r5_ r6_ r7_ (λq_'=>AA s k a c e u v q_'∧lx (20,0,0) (10,0,0)) (λt_' p_' h_' n_' a_' z_' r0_' r1_' r2_' r3_' r4_' r5_' r6_' r7_'=>Az s k a c e u v t_' p_' h_' n_' a_' z_' r0_' r1_' r2_' r3_' r4_' r5_' r6_' r7_'∧lx (19,0,0) (10,0,0)) (λt_' p_' h_' n_' a_' z_' r0_' r1_' r2_' r3_' r4_' r5_' r6_' r7_' i_'=>Ai s k a c e u v t_' p_' h_' n_' a_' z_' r0_' r1_' r2_' r3_' r4_' r5_' r6_' r7_' i_'∧lx (18,(8-i_').toNat,0) (10,0,0)) (λk_'=>AB s k a c e u v k_'∧lx (17,0,0) (10,0,0)) (λt_' p_' h_' n_' a_' z_' r0_' r1_' r2_' r3_' r4_' r5_' r6_' r7_' k_'=>A7 s k a c e u v t_' p_' h_' n_' a_' z_' r0_' r1_' r2_' r3_' r4_' r5_' r6_' r7_' k_'∧lx (16,0,0) (10,0,0)) (λt_' p_' h_' n_' a_' z_' r0_' r1_' r2_' r3_' r4_' r5_' r6_' r7_' w_'=>AC s k a c e u v t_' p_' h_' n_' a_' z_' r0_' r1_' r2_' r3_' r4_' r5_' r6_' r7_' w_'∧lx (15,0,0) (10,0,0)) (λw_'=>Aw s k a c e u v w_'∧lx (14,0,0) (10,0,0)) (λq_' i_'=>AL s k a c e u v q_' i_'∧lx (13,0,0) (10,0,0)) (λt_' p_' h_' n_' a_' z_' r0_' r1_' r2_' r3_' r4_' r5_' r6_' r7_' i_'=>Aj s k a c e u v t_' p_' h_' n_' a_' z_' r0_' r1_' r2_' r3_' r4_' r5_' r6_' r7_' i_'∧lx (12,0,0) (10,0,0)) (λi_'=>AO s k a c e u v i_'∧lx (11,0,0) (10,0,0)) (λt_' p_' h_' n_' a_' z_' r0_' r1_' r2_' r3_' r4_' r5_' r6_' r7_' i_'=>Ah s k a c e u v t_' p_' h_' n_' a_' z_' r0_' r1_' r2_' r3_' r4_' r5_' r6_' r7_' i_'∧lx (10,0,0) (10,0,0)) (λr__=>r__=(Ae s k a c e u v)) (λt_ p_ h_ n_ al_ zl_ x0_ x1_ x2_ x3_ x4_ x5_ x6_ x7_ r_=>Bj ⟨t_,p_,h_,n_,al_,zl_,x0_,x1_,x2_,x3_,x4_,x5_,x6_,x7_⟩ ((Ae s k a c e u v).1)∧r_=(Ae s k a c e u v).2):=by
 unfold Ah at hI
 unfold U1
 try unfold AA
 try unfold Az
 try unfold Ai
 try unfold AB
 try unfold A7
 try unfold AC
 try unfold Aw
 try unfold AL
 try unfold Aj
 try unfold AO
 try unfold Ah
 obtain ⟨hR,rfl,_,_,rfl,hA,rfl⟩:=hI
 have key:Ae s 5 4 c 0 u v=(Io s 5 4 c u v,true):=by unfold Ae;rw [hA];rfl
 refine ⟨by decide, λ_=>⟨?_,?_⟩⟩
 ·show Bj _ (Ae s 5 4 c 0 u v).1
  rw [key];exact ⟨hR.n,hR.z,by show EK _ _ _=_;unfold EK;rw [hR.eq];rfl⟩
 ·show _=(Ae s 5 4 c 0 u v).2
  rw [key]
theorem Zx (s:RS) (k a c e u v:Int) (hp0:s.a.length≤1000) (t_ p_ h_:Int) (n_:Nat) (a_ z_:LI) (r0_ r1_ r2_ r3_ r4_ r5_ r6_ r7_:Int) (hI:Ah s k a c e u v t_ p_ h_ n_ a_ z_ r0_ r1_ r2_ r3_ r4_ r5_ r6_ r7_ (5:Int)):U2 s k a c e u v t_ p_ h_ n_ a_ z_ r0_ r1_ r2_ r3_ r4_ r5_ r6_ r7_ (λq_'=>AA s k a c e u v q_'∧lx (20,0,0) (10,0,0)) (λt_' p_' h_' n_' a_' z_' r0_' r1_' r2_' r3_' r4_' r5_' r6_' r7_'=>Az s k a c e u v t_' p_' h_' n_' a_' z_' r0_' r1_' r2_' r3_' r4_' r5_' r6_' r7_'∧lx (19,0,0) (10,0,0)) (λt_' p_' h_' n_' a_' z_' r0_' r1_' r2_' r3_' r4_' r5_' r6_' r7_' i_'=>Ai s k a c e u v t_' p_' h_' n_' a_' z_' r0_' r1_' r2_' r3_' r4_' r5_' r6_' r7_' i_'∧lx (18,(8-i_').toNat,0) (10,0,0)) (λk_'=>AB s k a c e u v k_'∧lx (17,0,0) (10,0,0)) (λt_' p_' h_' n_' a_' z_' r0_' r1_' r2_' r3_' r4_' r5_' r6_' r7_' k_'=>A7 s k a c e u v t_' p_' h_' n_' a_' z_' r0_' r1_' r2_' r3_' r4_' r5_' r6_' r7_' k_'∧lx (16,0,0) (10,0,0)) (λt_' p_' h_' n_' a_' z_' r0_' r1_' r2_' r3_' r4_' r5_' r6_' r7_' w_'=>AC s k a c e u v t_' p_' h_' n_' a_' z_' r0_' r1_' r2_' r3_' r4_' r5_' r6_' r7_' w_'∧lx (15,0,0) (10,0,0)) (λw_'=>Aw s k a c e u v w_'∧lx (14,0,0) (10,0,0)) (λq_' i_'=>AL s k a c e u v q_' i_'∧lx (13,0,0) (10,0,0)) (λt_' p_' h_' n_' a_' z_' r0_' r1_' r2_' r3_' r4_' r5_' r6_' r7_' i_'=>Aj s k a c e u v t_' p_' h_' n_' a_' z_' r0_' r1_' r2_' r3_' r4_' r5_' r6_' r7_' i_'∧lx (12,0,0) (10,0,0)) (λi_'=>AO s k a c e u v i_'∧lx (11,0,0) (10,0,0)) (λt_' p_' h_' n_' a_' z_' r0_' r1_' r2_' r3_' r4_' r5_' r6_' r7_' i_'=>Ah s k a c e u v t_' p_' h_' n_' a_' z_' r0_' r1_' r2_' r3_' r4_' r5_' r6_' r7_' i_'∧lx (10,0,0) (10,0,0)) (λr__=>r__=(Ae s k a c e u v)) (λt_ p_ h_ n_ al_ zl_ x0_ x1_ x2_ x3_ x4_ x5_ x6_ x7_ r_=>Bj ⟨t_,p_,h_,n_,al_,zl_,x0_,x1_,x2_,x3_,x4_,x5_,x6_,x7_⟩ ((Ae s k a c e u v).1)∧r_=(Ae s k a c e u v).2):=by
 unfold Ah at hI
 unfold U2
 try unfold AA
 try unfold Az
 try unfold Ai
 try unfold AB
 try unfold A7
 try unfold AC
 try unfold Aw
 try unfold AL
 try unfold Aj
 try unfold AO
 try unfold Ah
 obtain ⟨hR,rfl,_,_,rfl,hA,rfl⟩:=hI
 have key:Ae s 5 5 c 0 u v=(Io s 5 5 c u v,true):=by unfold Ae;rw [hA];rfl
 refine ⟨by decide, λ_=>⟨?_,?_⟩⟩
 ·show Bj _ (Ae s 5 5 c 0 u v).1
  rw [key];exact ⟨hR.n,hR.z,by show EK _ _ _=_;unfold EK;rw [hR.eq];rfl⟩
 ·show _=(Ae s 5 5 c 0 u v).2
  rw [key]
theorem Zy (s:RS) (k a c e u v:Int) (hp0:s.a.length≤1000) (t_ p_ h_:Int) (n_:Nat) (a_ z_:LI) (r0_ r1_ r2_ r3_ r4_ r5_ r6_ r7_:Int) (hI:Ah s k a c e u v t_ p_ h_ n_ a_ z_ r0_ r1_ r2_ r3_ r4_ r5_ r6_ r7_ (6:Int)):U3 s k a c e u v t_ p_ h_ n_ a_ z_ r0_ r1_ r2_ r3_ r4_ r5_ r6_ r7_ (λq_'=>AA s k a c e u v q_'∧lx (20,0,0) (10,0,0)) (λt_' p_' h_' n_' a_' z_' r0_' r1_' r2_' r3_' r4_' r5_' r6_' r7_'=>Az s k a c e u v t_' p_' h_' n_' a_' z_' r0_' r1_' r2_' r3_' r4_' r5_' r6_' r7_'∧lx (19,0,0) (10,0,0)) (λt_' p_' h_' n_' a_' z_' r0_' r1_' r2_' r3_' r4_' r5_' r6_' r7_' i_'=>Ai s k a c e u v t_' p_' h_' n_' a_' z_' r0_' r1_' r2_' r3_' r4_' r5_' r6_' r7_' i_'∧lx (18,(8-i_').toNat,0) (10,0,0)) (λk_'=>AB s k a c e u v k_'∧lx (17,0,0) (10,0,0)) (λt_' p_' h_' n_' a_' z_' r0_' r1_' r2_' r3_' r4_' r5_' r6_' r7_' k_'=>A7 s k a c e u v t_' p_' h_' n_' a_' z_' r0_' r1_' r2_' r3_' r4_' r5_' r6_' r7_' k_'∧lx (16,0,0) (10,0,0)) (λt_' p_' h_' n_' a_' z_' r0_' r1_' r2_' r3_' r4_' r5_' r6_' r7_' w_'=>AC s k a c e u v t_' p_' h_' n_' a_' z_' r0_' r1_' r2_' r3_' r4_' r5_' r6_' r7_' w_'∧lx (15,0,0) (10,0,0)) (λw_'=>Aw s k a c e u v w_'∧lx (14,0,0) (10,0,0)) (λq_' i_'=>AL s k a c e u v q_' i_'∧lx (13,0,0) (10,0,0)) (λt_' p_' h_' n_' a_' z_' r0_' r1_' r2_' r3_' r4_' r5_' r6_' r7_' i_'=>Aj s k a c e u v t_' p_' h_' n_' a_' z_' r0_' r1_' r2_' r3_' r4_' r5_' r6_' r7_' i_'∧lx (12,0,0) (10,0,0)) (λi_'=>AO s k a c e u v i_'∧lx (11,0,0) (10,0,0)) (λt_' p_' h_' n_' a_' z_' r0_' r1_' r2_' r3_' r4_' r5_' r6_' r7_' i_'=>Ah s k a c e u v t_' p_' h_' n_' a_' z_' r0_' r1_' r2_' r3_' r4_' r5_' r6_' r7_' i_'∧lx (10,0,0) (10,0,0)) (λr__=>r__=(Ae s k a c e u v)) (λt_ p_ h_ n_ al_ zl_ x0_ x1_ x2_ x3_ x4_ x5_ x6_ x7_ r_=>Bj ⟨t_,p_,h_,n_,al_,zl_,x0_,x1_,x2_,x3_,x4_,x5_,x6_,x7_⟩ ((Ae s k a c e u v).1)∧r_=(Ae s k a c e u v).2):=by
 unfold Ah at hI
 unfold U3
 try unfold AA
 try unfold Az
 try unfold Ai
 try unfold AB
 try unfold A7
 try unfold AC
 try unfold Aw
 try unfold AL
 try unfold Aj
 try unfold AO
 try unfold Ah
 obtain ⟨hR,rfl,_,_,rfl,hA,rfl⟩:=hI
 have key:Ae s 5 6 c 0 u v=(Io s 5 6 c u v,true):=by unfold Ae;rw [hA];rfl
 refine ⟨by decide, λ_=>⟨?_,?_⟩⟩
 ·show Bj _ (Ae s 5 6 c 0 u v).1
  rw [key];exact ⟨hR.n,hR.z,by show EK _ _ _=_;unfold EK;rw [hR.eq];rfl⟩
 ·show _=(Ae s 5 6 c 0 u v).2
  rw [key]
theorem Zz (s:RS) (k a c e u v:Int) (hp0:s.a.length≤1000) (t_ p_ h_:Int) (n_:Nat) (a_ z_:LI) (r0_ r1_ r2_ r3_ r4_ r5_ r6_ r7_:Int) (hI:Ah s k a c e u v t_ p_ h_ n_ a_ z_ r0_ r1_ r2_ r3_ r4_ r5_ r6_ r7_ (7:Int)):U4 s k a c e u v t_ p_ h_ n_ a_ z_ r0_ r1_ r2_ r3_ r4_ r5_ r6_ r7_ (λq_'=>AA s k a c e u v q_'∧lx (20,0,0) (10,0,0)) (λt_' p_' h_' n_' a_' z_' r0_' r1_' r2_' r3_' r4_' r5_' r6_' r7_'=>Az s k a c e u v t_' p_' h_' n_' a_' z_' r0_' r1_' r2_' r3_' r4_' r5_' r6_' r7_'∧lx (19,0,0) (10,0,0)) (λt_' p_' h_' n_' a_' z_' r0_' r1_' r2_' r3_' r4_' r5_' r6_' r7_' i_'=>Ai s k a c e u v t_' p_' h_' n_' a_' z_' r0_' r1_' r2_' r3_' r4_' r5_' r6_' r7_' i_'∧lx (18,(8-i_').toNat,0) (10,0,0)) (λk_'=>AB s k a c e u v k_'∧lx (17,0,0) (10,0,0)) (λt_' p_' h_' n_' a_' z_' r0_' r1_' r2_' r3_' r4_' r5_' r6_' r7_' k_'=>A7 s k a c e u v t_' p_' h_' n_' a_' z_' r0_' r1_' r2_' r3_' r4_' r5_' r6_' r7_' k_'∧lx (16,0,0) (10,0,0)) (λt_' p_' h_' n_' a_' z_' r0_' r1_' r2_' r3_' r4_' r5_' r6_' r7_' w_'=>AC s k a c e u v t_' p_' h_' n_' a_' z_' r0_' r1_' r2_' r3_' r4_' r5_' r6_' r7_' w_'∧lx (15,0,0) (10,0,0)) (λw_'=>Aw s k a c e u v w_'∧lx (14,0,0) (10,0,0)) (λq_' i_'=>AL s k a c e u v q_' i_'∧lx (13,0,0) (10,0,0)) (λt_' p_' h_' n_' a_' z_' r0_' r1_' r2_' r3_' r4_' r5_' r6_' r7_' i_'=>Aj s k a c e u v t_' p_' h_' n_' a_' z_' r0_' r1_' r2_' r3_' r4_' r5_' r6_' r7_' i_'∧lx (12,0,0) (10,0,0)) (λi_'=>AO s k a c e u v i_'∧lx (11,0,0) (10,0,0)) (λt_' p_' h_' n_' a_' z_' r0_' r1_' r2_' r3_' r4_' r5_' r6_' r7_' i_'=>Ah s k a c e u v t_' p_' h_' n_' a_' z_' r0_' r1_' r2_' r3_' r4_' r5_' r6_' r7_' i_'∧lx (10,0,0) (10,0,0)) (λr__=>r__=(Ae s k a c e u v)) (λt_ p_ h_ n_ al_ zl_ x0_ x1_ x2_ x3_ x4_ x5_ x6_ x7_ r_=>Bj ⟨t_,p_,h_,n_,al_,zl_,x0_,x1_,x2_,x3_,x4_,x5_,x6_,x7_⟩ ((Ae s k a c e u v).1)∧r_=(Ae s k a c e u v).2):=by
 unfold Ah at hI
 unfold U4
 try unfold AA
 try unfold Az
 try unfold Ai
 try unfold AB
 try unfold A7
 try unfold AC
 try unfold Aw
 try unfold AL
 try unfold Aj
 try unfold AO
 try unfold Ah
 obtain ⟨hR,rfl,_,_,rfl,hA,rfl⟩:=hI
 have key:Ae s 5 7 c 0 u v=(Io s 5 7 c u v,true):=by unfold Ae;rw [hA];rfl
 refine ⟨by decide, λ_=>⟨?_,?_⟩⟩
 ·show Bj _ (Ae s 5 7 c 0 u v).1
  rw [key];exact ⟨hR.n,hR.z,by show EK _ _ _=_;unfold EK;rw [hR.eq];rfl⟩
 ·show _=(Ae s 5 7 c 0 u v).2
  rw [key]
theorem AbX:DV 19 AeP:=
 Gg Dg Ik false Uw (I:=[1772789138000,1521130898900,6889840018000,11184807314900,7158275474900,2999998,1500000000000,1500000000004,1500000000005,1500000000008]) Try.func19 mix (B:=AP Try.f19) (by kernel_rfl) rfl (by kernel_rfl) 400
  λo s k a c e u v hb hp=>have hp0:s.a.length≤1000:=hp _ (.head _);⟨s,(Ae s k a c e u v).1,(Ae s k a c e u v).2,[⟨some 0,[0,1,1,0,1,1,1,1,1,0,1,0,1,1,1,1],[.code [1,1,1,0,1,1,1,1,1,0,1,0,1,1,1,1], .blk 0, .code [1,1,1,1,1]],[0,4,5],[.objc CW ⟨o,0,none⟩, .box 29 [.ic .i64 (k), .ic .i64 (a), .ic .i64 (c)], .box 32 [.ic .i64 (e), .ic .i64 (u), .ic .i64 (v)]]⟩,⟨some 0,[0,1,1,0,1,1,1,1,1,0,1,0,1,1,1,1],[.code [1,1,1,0,1,1,1,1,1,0,1,0,1,1,1,1], .blk 0, .code [1,1,1,1,1]],[0,4,5],[.boxc o Bq.t Bq.l, .box 29 [.ic .i64 (k), .ic .i64 (a), .ic .i64 (c)], .box 32 [.ic .i64 (e), .ic .i64 (u), .ic .i64 (v)]]⟩,⟨none,[0,1,1,1,0,1,1,1,1,1,0,1,0,1,1,1,1],[.blk 1, .blk 0, .code [1,1,1,1,1]],[0,4,5,8],[.boxc o Bq.t Bq.l, .box 29 [.ic .i64 (k), .ic .i64 (a), .ic .i64 (c)], .box 32 [.ic .i64 (e), .ic .i64 (u), .ic .i64 (v)], .i .i64]⟩,⟨some 900,[0,0,1,1,1,1,1,1,1,0,1,0,1,1,1,1],[.code [1,0,1,1,1,1,1,1,1,0,1,0,1,1,1,1], .blk 0, .code [1,1,1,1,1]],[0,4,5,24],[.objk CW ⟨o,0,none⟩ (s), .box 29 [.ic .i64 (k), .ic .i64 (a), .ic .i64 (c)], .box 32 [.ic .i64 (e), .ic .i64 (u), .ic .i64 (v)], .i .i64]⟩,⟨some 900,[0,0,1,1,1,1,1,1,1,0,1,0,1,1,1,1],[.code [1,0,1,1,1,1,1,1,1,0,1,0,1,1,1,1], .blk 0, .code [1,1,1,1,1]],[0,4,5,24],[.boxc o Bq.t Bq.l, .box 29 [.ic .i64 (k), .ic .i64 (a), .ic .i64 (c)], .box 32 [.ic .i64 (e), .ic .i64 (u), .ic .i64 (v)], .i .i64]⟩,⟨some 0,[0,1,0,1,1,1,1,1,1,1,0,1,0,1,1,1,1],[.code [1,1,0,1,1,1,1,1,1,1,0,1,0,1,1,1,1], .blk 0, .code [1,1,1,1,1]],[0,4,5,9],[.boxc o Bq.t Bq.l, .box 29 [.ic .i64 (k), .ic .i64 (a), .ic .i64 (c)], .box 32 [.ic .i64 (e), .ic .i64 (u), .ic .i64 (v)], .i .i64]⟩,⟨some 0,[0,1,0,1,1,1,1,1,1,1,0,1,0,1,1,1,1],[.code [1,1,0,1,1,1,1,1,1,1,0,1,0,1,1,1,1], .blk 0, .code [1,1,1,1,1]],[0,4,5,9],[.objk CW ⟨o,0,none⟩ (s), .box 29 [.ic .i64 (k), .ic .i64 (a), .ic .i64 (c)], .box 32 [.ic .i64 (e), .ic .i64 (u), .ic .i64 (v)], .i .i64]⟩,⟨some 900,[1,1,0,1,1,1,1,1,1,1,0,1,0,1,1,1,1],[.blk 0, .code [1,1,1,1,1]],[0,4,5],[.objc CW ⟨o,0,none⟩, .box 29 [.ic .i64 (k), .i .i64, .ic .i64 (c)], .box 32 [.ic .i64 (e), .ic .i64 (u), .ic .i64 (v)]]⟩,⟨some 900,[1,1,0,1,1,1,1,1,1,1,0,1,0,1,1,1,1],[.blk 0, .code [1,1,1,1,1]],[0,4,5],[.boxc o Bq.t Bq.l, .box 29 [.ic .i64 (k), .i .i64, .ic .i64 (c)], .box 32 [.ic .i64 (e), .ic .i64 (u), .ic .i64 (v)]]⟩,⟨some 900,[0,1,1,1,1,1,1,1,1,1,0,1,0,1,1,1,1],[.blk 0, .code [1,1,1,1,1]],[0,4,5],[.objk CW ⟨o,0,none⟩ (s), .box 29 [.ic .i64 (k), .i .i64, .ic .i64 (c)], .box 32 [.ic .i64 (e), .ic .i64 (u), .ic .i64 (v)]]⟩,⟨some 900,[0,1,1,1,1,1,1,1,1,1,0,1,0,1,1,1,1],[.blk 0, .code [1,1,1,1,1]],[0,4,5],[.boxc o Bq.t Bq.l, .box 29 [.ic .i64 (k), .i .i64, .ic .i64 (c)], .box 32 [.ic .i64 (e), .ic .i64 (u), .ic .i64 (v)]]⟩],[.opn 0 (λ_=>o) 1, .run, .run, .opn 0 (λ_=>o) 4, .run, .cls 6, .run, .opn 0 (λ_=>o) 8, .run, .opn 0 (λ_=>o) 10, .run], λj=>iN [Ag (Hd.kd (⟨some 0,[0,1,1,0,1,1,1,1,1,0,1,0,1,1,1,1],[.code [1,1,1,0,1,1,1,1,1,0,1,0,1,1,1,1], .blk 0, .code [1,1,1,1,1]],[0,4,5],[.objc CW ⟨o,0,none⟩, .box 29 [.ic .i64 (k), .ic .i64 (a), .ic .i64 (c)], .box 32 [.ic .i64 (e), .ic .i64 (u), .ic .i64 (v)]]⟩:Hd Sg)) (λq_'=>AA s k a c e u v q_'),Ag (Hd.kd (⟨some 0,[0,1,1,0,1,1,1,1,1,0,1,0,1,1,1,1],[.code [1,1,1,0,1,1,1,1,1,0,1,0,1,1,1,1], .blk 0, .code [1,1,1,1,1]],[0,4,5],[.boxc o Bq.t Bq.l, .box 29 [.ic .i64 (k), .ic .i64 (a), .ic .i64 (c)], .box 32 [.ic .i64 (e), .ic .i64 (u), .ic .i64 (v)]]⟩:Hd Sg)) (λt_' p_' h_' n_' a_' z_' r0_' r1_' r2_' r3_' r4_' r5_' r6_' r7_'=>Az s k a c e u v t_' p_' h_' n_' a_' z_' r0_' r1_' r2_' r3_' r4_' r5_' r6_' r7_'),Ag (Hd.kd (⟨none,[0,1,1,1,0,1,1,1,1,1,0,1,0,1,1,1,1],[.blk 1, .blk 0, .code [1,1,1,1,1]],[0,4,5,8],[.boxc o Bq.t Bq.l, .box 29 [.ic .i64 (k), .ic .i64 (a), .ic .i64 (c)], .box 32 [.ic .i64 (e), .ic .i64 (u), .ic .i64 (v)], .i .i64]⟩:Hd Sg)) (λt_' p_' h_' n_' a_' z_' r0_' r1_' r2_' r3_' r4_' r5_' r6_' r7_' i_'=>Ai s k a c e u v t_' p_' h_' n_' a_' z_' r0_' r1_' r2_' r3_' r4_' r5_' r6_' r7_' i_'),Ag (Hd.kd (⟨some 900,[0,0,1,1,1,1,1,1,1,0,1,0,1,1,1,1],[.code [1,0,1,1,1,1,1,1,1,0,1,0,1,1,1,1], .blk 0, .code [1,1,1,1,1]],[0,4,5,24],[.objk CW ⟨o,0,none⟩ (s), .box 29 [.ic .i64 (k), .ic .i64 (a), .ic .i64 (c)], .box 32 [.ic .i64 (e), .ic .i64 (u), .ic .i64 (v)], .i .i64]⟩:Hd Sg)) (λk_'=>AB s k a c e u v k_'),Ag (Hd.kd (⟨some 900,[0,0,1,1,1,1,1,1,1,0,1,0,1,1,1,1],[.code [1,0,1,1,1,1,1,1,1,0,1,0,1,1,1,1], .blk 0, .code [1,1,1,1,1]],[0,4,5,24],[.boxc o Bq.t Bq.l, .box 29 [.ic .i64 (k), .ic .i64 (a), .ic .i64 (c)], .box 32 [.ic .i64 (e), .ic .i64 (u), .ic .i64 (v)], .i .i64]⟩:Hd Sg)) (λt_' p_' h_' n_' a_' z_' r0_' r1_' r2_' r3_' r4_' r5_' r6_' r7_' k_'=>A7 s k a c e u v t_' p_' h_' n_' a_' z_' r0_' r1_' r2_' r3_' r4_' r5_' r6_' r7_' k_'),Ag (Hd.kd (⟨some 0,[0,1,0,1,1,1,1,1,1,1,0,1,0,1,1,1,1],[.code [1,1,0,1,1,1,1,1,1,1,0,1,0,1,1,1,1], .blk 0, .code [1,1,1,1,1]],[0,4,5,9],[.boxc o Bq.t Bq.l, .box 29 [.ic .i64 (k), .ic .i64 (a), .ic .i64 (c)], .box 32 [.ic .i64 (e), .ic .i64 (u), .ic .i64 (v)], .i .i64]⟩:Hd Sg)) (λt_' p_' h_' n_' a_' z_' r0_' r1_' r2_' r3_' r4_' r5_' r6_' r7_' w_'=>AC s k a c e u v t_' p_' h_' n_' a_' z_' r0_' r1_' r2_' r3_' r4_' r5_' r6_' r7_' w_'),Ag (Hd.kd (⟨some 0,[0,1,0,1,1,1,1,1,1,1,0,1,0,1,1,1,1],[.code [1,1,0,1,1,1,1,1,1,1,0,1,0,1,1,1,1], .blk 0, .code [1,1,1,1,1]],[0,4,5,9],[.objk CW ⟨o,0,none⟩ (s), .box 29 [.ic .i64 (k), .ic .i64 (a), .ic .i64 (c)], .box 32 [.ic .i64 (e), .ic .i64 (u), .ic .i64 (v)], .i .i64]⟩:Hd Sg)) (λw_'=>Aw s k a c e u v w_'),Ag (Hd.kd (⟨some 900,[1,1,0,1,1,1,1,1,1,1,0,1,0,1,1,1,1],[.blk 0, .code [1,1,1,1,1]],[0,4,5],[.objc CW ⟨o,0,none⟩, .box 29 [.ic .i64 (k), .i .i64, .ic .i64 (c)], .box 32 [.ic .i64 (e), .ic .i64 (u), .ic .i64 (v)]]⟩:Hd Sg)) (λq_' i_'=>AL s k a c e u v q_' i_'),Ag (Hd.kd (⟨some 900,[1,1,0,1,1,1,1,1,1,1,0,1,0,1,1,1,1],[.blk 0, .code [1,1,1,1,1]],[0,4,5],[.boxc o Bq.t Bq.l, .box 29 [.ic .i64 (k), .i .i64, .ic .i64 (c)], .box 32 [.ic .i64 (e), .ic .i64 (u), .ic .i64 (v)]]⟩:Hd Sg)) (λt_' p_' h_' n_' a_' z_' r0_' r1_' r2_' r3_' r4_' r5_' r6_' r7_' i_'=>Aj s k a c e u v t_' p_' h_' n_' a_' z_' r0_' r1_' r2_' r3_' r4_' r5_' r6_' r7_' i_'),Ag (Hd.kd (⟨some 900,[0,1,1,1,1,1,1,1,1,1,0,1,0,1,1,1,1],[.blk 0, .code [1,1,1,1,1]],[0,4,5],[.objk CW ⟨o,0,none⟩ (s), .box 29 [.ic .i64 (k), .i .i64, .ic .i64 (c)], .box 32 [.ic .i64 (e), .ic .i64 (u), .ic .i64 (v)]]⟩:Hd Sg)) (λi_'=>AO s k a c e u v i_'),Ag (Hd.kd (⟨some 900,[0,1,1,1,1,1,1,1,1,1,0,1,0,1,1,1,1],[.blk 0, .code [1,1,1,1,1]],[0,4,5],[.boxc o Bq.t Bq.l, .box 29 [.ic .i64 (k), .i .i64, .ic .i64 (c)], .box 32 [.ic .i64 (e), .ic .i64 (u), .ic .i64 (v)]]⟩:Hd Sg)) (λt_' p_' h_' n_' a_' z_' r0_' r1_' r2_' r3_' r4_' r5_' r6_' r7_' i_'=>Ah s k a c e u v t_' p_' h_' n_' a_' z_' r0_' r1_' r2_' r3_' r4_' r5_' r6_' r7_' i_')] j (λ_=>False), λj=>iN [Ag (Hd.kd (⟨some 0,[0,1,1,0,1,1,1,1,1,0,1,0,1,1,1,1],[.code [1,1,1,0,1,1,1,1,1,0,1,0,1,1,1,1], .blk 0, .code [1,1,1,1,1]],[0,4,5],[.objc CW ⟨o,0,none⟩, .box 29 [.ic .i64 (k), .ic .i64 (a), .ic .i64 (c)], .box 32 [.ic .i64 (e), .ic .i64 (u), .ic .i64 (v)]]⟩:Hd Sg)) (λq_'=>(20,0,0)),Ag (Hd.kd (⟨some 0,[0,1,1,0,1,1,1,1,1,0,1,0,1,1,1,1],[.code [1,1,1,0,1,1,1,1,1,0,1,0,1,1,1,1], .blk 0, .code [1,1,1,1,1]],[0,4,5],[.boxc o Bq.t Bq.l, .box 29 [.ic .i64 (k), .ic .i64 (a), .ic .i64 (c)], .box 32 [.ic .i64 (e), .ic .i64 (u), .ic .i64 (v)]]⟩:Hd Sg)) (λt_' p_' h_' n_' a_' z_' r0_' r1_' r2_' r3_' r4_' r5_' r6_' r7_'=>(19,0,0)),Ag (Hd.kd (⟨none,[0,1,1,1,0,1,1,1,1,1,0,1,0,1,1,1,1],[.blk 1, .blk 0, .code [1,1,1,1,1]],[0,4,5,8],[.boxc o Bq.t Bq.l, .box 29 [.ic .i64 (k), .ic .i64 (a), .ic .i64 (c)], .box 32 [.ic .i64 (e), .ic .i64 (u), .ic .i64 (v)], .i .i64]⟩:Hd Sg)) (λt_' p_' h_' n_' a_' z_' r0_' r1_' r2_' r3_' r4_' r5_' r6_' r7_' i_'=>(18,(8-i_').toNat,0)),Ag (Hd.kd (⟨some 900,[0,0,1,1,1,1,1,1,1,0,1,0,1,1,1,1],[.code [1,0,1,1,1,1,1,1,1,0,1,0,1,1,1,1], .blk 0, .code [1,1,1,1,1]],[0,4,5,24],[.objk CW ⟨o,0,none⟩ (s), .box 29 [.ic .i64 (k), .ic .i64 (a), .ic .i64 (c)], .box 32 [.ic .i64 (e), .ic .i64 (u), .ic .i64 (v)], .i .i64]⟩:Hd Sg)) (λk_'=>(17,0,0)),Ag (Hd.kd (⟨some 900,[0,0,1,1,1,1,1,1,1,0,1,0,1,1,1,1],[.code [1,0,1,1,1,1,1,1,1,0,1,0,1,1,1,1], .blk 0, .code [1,1,1,1,1]],[0,4,5,24],[.boxc o Bq.t Bq.l, .box 29 [.ic .i64 (k), .ic .i64 (a), .ic .i64 (c)], .box 32 [.ic .i64 (e), .ic .i64 (u), .ic .i64 (v)], .i .i64]⟩:Hd Sg)) (λt_' p_' h_' n_' a_' z_' r0_' r1_' r2_' r3_' r4_' r5_' r6_' r7_' k_'=>(16,0,0)),Ag (Hd.kd (⟨some 0,[0,1,0,1,1,1,1,1,1,1,0,1,0,1,1,1,1],[.code [1,1,0,1,1,1,1,1,1,1,0,1,0,1,1,1,1], .blk 0, .code [1,1,1,1,1]],[0,4,5,9],[.boxc o Bq.t Bq.l, .box 29 [.ic .i64 (k), .ic .i64 (a), .ic .i64 (c)], .box 32 [.ic .i64 (e), .ic .i64 (u), .ic .i64 (v)], .i .i64]⟩:Hd Sg)) (λt_' p_' h_' n_' a_' z_' r0_' r1_' r2_' r3_' r4_' r5_' r6_' r7_' w_'=>(15,0,0)),Ag (Hd.kd (⟨some 0,[0,1,0,1,1,1,1,1,1,1,0,1,0,1,1,1,1],[.code [1,1,0,1,1,1,1,1,1,1,0,1,0,1,1,1,1], .blk 0, .code [1,1,1,1,1]],[0,4,5,9],[.objk CW ⟨o,0,none⟩ (s), .box 29 [.ic .i64 (k), .ic .i64 (a), .ic .i64 (c)], .box 32 [.ic .i64 (e), .ic .i64 (u), .ic .i64 (v)], .i .i64]⟩:Hd Sg)) (λw_'=>(14,0,0)),Ag (Hd.kd (⟨some 900,[1,1,0,1,1,1,1,1,1,1,0,1,0,1,1,1,1],[.blk 0, .code [1,1,1,1,1]],[0,4,5],[.objc CW ⟨o,0,none⟩, .box 29 [.ic .i64 (k), .i .i64, .ic .i64 (c)], .box 32 [.ic .i64 (e), .ic .i64 (u), .ic .i64 (v)]]⟩:Hd Sg)) (λq_' i_'=>(13,0,0)),Ag (Hd.kd (⟨some 900,[1,1,0,1,1,1,1,1,1,1,0,1,0,1,1,1,1],[.blk 0, .code [1,1,1,1,1]],[0,4,5],[.boxc o Bq.t Bq.l, .box 29 [.ic .i64 (k), .i .i64, .ic .i64 (c)], .box 32 [.ic .i64 (e), .ic .i64 (u), .ic .i64 (v)]]⟩:Hd Sg)) (λt_' p_' h_' n_' a_' z_' r0_' r1_' r2_' r3_' r4_' r5_' r6_' r7_' i_'=>(12,0,0)),Ag (Hd.kd (⟨some 900,[0,1,1,1,1,1,1,1,1,1,0,1,0,1,1,1,1],[.blk 0, .code [1,1,1,1,1]],[0,4,5],[.objk CW ⟨o,0,none⟩ (s), .box 29 [.ic .i64 (k), .i .i64, .ic .i64 (c)], .box 32 [.ic .i64 (e), .ic .i64 (u), .ic .i64 (v)]]⟩:Hd Sg)) (λi_'=>(11,0,0)),Ag (Hd.kd (⟨some 900,[0,1,1,1,1,1,1,1,1,1,0,1,0,1,1,1,1],[.blk 0, .code [1,1,1,1,1]],[0,4,5],[.boxc o Bq.t Bq.l, .box 29 [.ic .i64 (k), .i .i64, .ic .i64 (c)], .box 32 [.ic .i64 (e), .ic .i64 (u), .ic .i64 (v)]]⟩:Hd Sg)) (λt_' p_' h_' n_' a_' z_' r0_' r1_' r2_' r3_' r4_' r5_' r6_' r7_' i_'=>(10,0,0))] j (λ_=>(0,0,0)),by kernel_rfl, λ_ _=>by kernel_rfl,by kernel_rfl,⟨_, λ_ _ _=>by kernel_rfl,Af9 s k a c e u v hp0⟩,⟨λq_ hI=>⟨q_, λ_=>by kernel_rfl, λt_ p_ h_ n_ al_ zl_ x0_ x1_ x2_ x3_ x4_ x5_ x6_ x7_ hx=>⟨_, λ_ _=>by kernel_rfl,AfA s k a c e u v hp0 q_ t_ p_ h_ n_ al_ zl_ x0_ x1_ x2_ x3_ x4_ x5_ x6_ x7_ hI hx⟩⟩,⟨λt_ p_ h_ n_ a_ z_ r0_ r1_ r2_ r3_ r4_ r5_ r6_ r7_ hI=>⟨_, λ_ _ _=>by kernel_rfl,AfB s k a c e u v hp0 t_ p_ h_ n_ a_ z_ r0_ r1_ r2_ r3_ r4_ r5_ r6_ r7_ hI⟩,⟨λt_ p_ h_ n_ a_ z_ r0_ r1_ r2_ r3_ r4_ r5_ r6_ r7_ i_ hI=>(by
   rcases AjI s k a c e u v hp0 t_ p_ h_ n_ a_ z_ r0_ r1_ r2_ r3_ r4_ r5_ r6_ r7_ i_ hI with rfl|rfl|rfl|rfl|rfl|rfl|rfl|rfl|rfl
   ·exact ⟨_, λ_ _ _=>by kernel_rfl,AbG s k a c e u v hp0 t_ p_ h_ n_ a_ z_ r0_ r1_ r2_ r3_ r4_ r5_ r6_ r7_ hI⟩
   ·exact ⟨_, λ_ _ _=>by kernel_rfl,AbH s k a c e u v hp0 t_ p_ h_ n_ a_ z_ r0_ r1_ r2_ r3_ r4_ r5_ r6_ r7_ hI⟩
   ·exact ⟨_, λ_ _ _=>by kernel_rfl,AbI s k a c e u v hp0 t_ p_ h_ n_ a_ z_ r0_ r1_ r2_ r3_ r4_ r5_ r6_ r7_ hI⟩
   ·exact ⟨_, λ_ _ _=>by kernel_rfl,AbJ s k a c e u v hp0 t_ p_ h_ n_ a_ z_ r0_ r1_ r2_ r3_ r4_ r5_ r6_ r7_ hI⟩
   ·exact ⟨_, λ_ _ _=>by kernel_rfl,AbK s k a c e u v hp0 t_ p_ h_ n_ a_ z_ r0_ r1_ r2_ r3_ r4_ r5_ r6_ r7_ hI⟩
   ·exact ⟨_, λ_ _ _=>by kernel_rfl,AbL s k a c e u v hp0 t_ p_ h_ n_ a_ z_ r0_ r1_ r2_ r3_ r4_ r5_ r6_ r7_ hI⟩
   ·exact ⟨_, λ_ _ _=>by kernel_rfl,AbM s k a c e u v hp0 t_ p_ h_ n_ a_ z_ r0_ r1_ r2_ r3_ r4_ r5_ r6_ r7_ hI⟩
   ·exact ⟨_, λ_ _ _=>by kernel_rfl,AbN s k a c e u v hp0 t_ p_ h_ n_ a_ z_ r0_ r1_ r2_ r3_ r4_ r5_ r6_ r7_ hI⟩
   ·exact ⟨_, λ_ _ _=>by kernel_rfl,AbO s k a c e u v hp0 t_ p_ h_ n_ a_ z_ r0_ r1_ r2_ r3_ r4_ r5_ r6_ r7_ hI⟩),⟨λk_ hI=>⟨s, λ_=>by kernel_rfl, λt_ p_ h_ n_ al_ zl_ x0_ x1_ x2_ x3_ x4_ x5_ x6_ x7_ hx=>⟨_, λ_ _=>by kernel_rfl,AfC s k a c e u v hp0 k_ t_ p_ h_ n_ al_ zl_ x0_ x1_ x2_ x3_ x4_ x5_ x6_ x7_ hI hx⟩⟩,⟨λt_ p_ h_ n_ a_ z_ r0_ r1_ r2_ r3_ r4_ r5_ r6_ r7_ k_ hI=>⟨_, λ_ _ _=>by kernel_rfl,AfD s k a c e u v hp0 t_ p_ h_ n_ a_ z_ r0_ r1_ r2_ r3_ r4_ r5_ r6_ r7_ k_ hI⟩,⟨λt_ p_ h_ n_ a_ z_ r0_ r1_ r2_ r3_ r4_ r5_ r6_ r7_ w_ hI=>⟨s,SV s k a c e u v t_ p_ h_ n_ a_ z_ r0_ r1_ r2_ r3_ r4_ r5_ r6_ r7_ w_ (λw_'=>Aw s k a c e u v w_'∧lx (14,0,0) (15,0,0)),(U5 s k a c e u v hp0 t_ p_ h_ n_ a_ z_ r0_ r1_ r2_ r3_ r4_ r5_ r6_ r7_ w_ hI).1, λ_=>by kernel_rfl,(U5 s k a c e u v hp0 t_ p_ h_ n_ a_ z_ r0_ r1_ r2_ r3_ r4_ r5_ r6_ r7_ w_ hI).2⟩,⟨λw_ hI=>⟨_, λ_ _ _=>by kernel_rfl,AfE s k a c e u v hp0 w_ hI⟩,⟨λq_ i_ hI=>⟨q_, λ_=>by kernel_rfl, λt_ p_ h_ n_ al_ zl_ x0_ x1_ x2_ x3_ x4_ x5_ x6_ x7_ hx=>⟨_, λ_ _=>by kernel_rfl,AfF s k a c e u v hp0 q_ i_ t_ p_ h_ n_ al_ zl_ x0_ x1_ x2_ x3_ x4_ x5_ x6_ x7_ hI hx⟩⟩,⟨λt_ p_ h_ n_ a_ z_ r0_ r1_ r2_ r3_ r4_ r5_ r6_ r7_ i_ hI=>(by
   rcases AjJ s k a c e u v hp0 t_ p_ h_ n_ a_ z_ r0_ r1_ r2_ r3_ r4_ r5_ r6_ r7_ i_ hI with rfl|rfl|rfl|rfl|rfl|rfl|rfl|rfl
   ·exact ⟨_, λ_ _ _=>by kernel_rfl,AbP s k a c e u v hp0 t_ p_ h_ n_ a_ z_ r0_ r1_ r2_ r3_ r4_ r5_ r6_ r7_ hI⟩
   ·exact ⟨_, λ_ _ _=>by kernel_rfl,AbQ s k a c e u v hp0 t_ p_ h_ n_ a_ z_ r0_ r1_ r2_ r3_ r4_ r5_ r6_ r7_ hI⟩
   ·exact ⟨_, λ_ _ _=>by kernel_rfl,AbR s k a c e u v hp0 t_ p_ h_ n_ a_ z_ r0_ r1_ r2_ r3_ r4_ r5_ r6_ r7_ hI⟩
   ·exact ⟨_, λ_ _ _=>by kernel_rfl,AbS s k a c e u v hp0 t_ p_ h_ n_ a_ z_ r0_ r1_ r2_ r3_ r4_ r5_ r6_ r7_ hI⟩
   ·exact ⟨_, λ_ _ _=>by kernel_rfl,AbT s k a c e u v hp0 t_ p_ h_ n_ a_ z_ r0_ r1_ r2_ r3_ r4_ r5_ r6_ r7_ hI⟩
   ·exact ⟨_, λ_ _ _=>by kernel_rfl,AbU s k a c e u v hp0 t_ p_ h_ n_ a_ z_ r0_ r1_ r2_ r3_ r4_ r5_ r6_ r7_ hI⟩
   ·exact ⟨_, λ_ _ _=>by kernel_rfl,AbV s k a c e u v hp0 t_ p_ h_ n_ a_ z_ r0_ r1_ r2_ r3_ r4_ r5_ r6_ r7_ hI⟩
   ·exact ⟨_, λ_ _ _=>by kernel_rfl,AbW s k a c e u v hp0 t_ p_ h_ n_ a_ z_ r0_ r1_ r2_ r3_ r4_ r5_ r6_ r7_ hI⟩),⟨λi_ hI=>⟨s, λ_=>by kernel_rfl, λt_ p_ h_ n_ al_ zl_ x0_ x1_ x2_ x3_ x4_ x5_ x6_ x7_ hx=>⟨_, λ_ _=>by kernel_rfl,AfG s k a c e u v hp0 i_ t_ p_ h_ n_ al_ zl_ x0_ x1_ x2_ x3_ x4_ x5_ x6_ x7_ hI hx⟩⟩,⟨λt_ p_ h_ n_ a_ z_ r0_ r1_ r2_ r3_ r4_ r5_ r6_ r7_ i_ hI=>(by
   rcases Aik s k a c e u v hp0 t_ p_ h_ n_ a_ z_ r0_ r1_ r2_ r3_ r4_ r5_ r6_ r7_ i_ hI with rfl|rfl|rfl|rfl|rfl|rfl|rfl|rfl
   ·exact ⟨_, λ_ _ _=>by kernel_rfl,Zr s k a c e u v hp0 t_ p_ h_ n_ a_ z_ r0_ r1_ r2_ r3_ r4_ r5_ r6_ r7_ hI⟩
   ·exact ⟨_, λ_ _ _=>by kernel_rfl,Zt s k a c e u v hp0 t_ p_ h_ n_ a_ z_ r0_ r1_ r2_ r3_ r4_ r5_ r6_ r7_ hI⟩
   ·exact ⟨_, λ_ _ _=>by kernel_rfl,Zu s k a c e u v hp0 t_ p_ h_ n_ a_ z_ r0_ r1_ r2_ r3_ r4_ r5_ r6_ r7_ hI⟩
   ·exact ⟨_, λ_ _ _=>by kernel_rfl,Zv s k a c e u v hp0 t_ p_ h_ n_ a_ z_ r0_ r1_ r2_ r3_ r4_ r5_ r6_ r7_ hI⟩
   ·exact ⟨_, λ_ _ _=>by kernel_rfl,Zw s k a c e u v hp0 t_ p_ h_ n_ a_ z_ r0_ r1_ r2_ r3_ r4_ r5_ r6_ r7_ hI⟩
   ·exact ⟨_, λ_ _ _=>by kernel_rfl,Zx s k a c e u v hp0 t_ p_ h_ n_ a_ z_ r0_ r1_ r2_ r3_ r4_ r5_ r6_ r7_ hI⟩
   ·exact ⟨_, λ_ _ _=>by kernel_rfl,Zy s k a c e u v hp0 t_ p_ h_ n_ a_ z_ r0_ r1_ r2_ r3_ r4_ r5_ r6_ r7_ hI⟩
   ·exact ⟨_, λ_ _ _=>by kernel_rfl,Zz s k a c e u v hp0 t_ p_ h_ n_ a_ z_ r0_ r1_ r2_ r3_ r4_ r5_ r6_ r7_ hI⟩),trivial⟩⟩⟩⟩⟩⟩⟩⟩⟩⟩⟩⟩
def AeR:Tb:=(19,AeP)::Ab8
theorem We:D7 AeR:=Ea AbX Uw
end
end Go.Proofs.Ytdjfnbbmfmjckaa
