/-
  DERIVED. Part 4 of the texts of this claim.
-/
import Derived.Test.YtjfabjhlkpgckaaGreatJSmallAllocs3
set_option linter.unusedSimpArgs false
set_option linter.unusedVariables false
namespace Go.Proofs.YtjfabjhlkpgckaaGreat
open Go.Sl
theorem binOf_e (n:Int):bin_Of n=binOf n:=rfl
theorem Ju (n:Int):A8 n=binOf n:=rfl
theorem free_e (s:VS) (t p h g:Int):bin_free s t p h g=(pFree ⟨t,p,h⟩ g).run s:=rfl
theorem KH (s:VS) (t p h g:Int):Be s t p h g=(s.read (Cf.info ⟨t,p,h⟩ g),(iGet (s.get (Cf.info ⟨t,p,h⟩ g))).k,(iGet (s.get (Cf.info ⟨t,p,h⟩ g))).l,(iGet (s.get (Cf.info ⟨t,p,h⟩ g))).c):=rfl
theorem n_in (n p:Int):(decide (1≤n)&&decide (n≤p))=!(decide (n<1)||decide (n>p)):=by
 apply Bool.eq_iff_iff.2
 simp only [Bool.and_eq_true,decide_eq_true_eq,Bool.not_eq_true',Bool.or_eq_false_iff,decide_eq_false_iff_not]
 omega
theorem binOf_ge (n:Int): -1≤binOf n:=by
 unfold binOf
 cases decide (n>1024) with
 |true=>exact Int.le_refl _
 |false=>exact logI_ge n
theorem binOf_le (n:Int):binOf n≤10:=by
 unfold binOf
 cases h:decide (n>1024) with
 |true=>exact (by decide:(-1:Int)≤10)
 |false=>
  have:n<2^11:=by
   have h':¬n>1024:=by simpa using h
   have:(2:Int)^11=2048:=by decide
   omega
  exact logI_le 11 n this
def bin_first (s:VS) (t p sh n:Int):VS×Int×Bool:=(Pg.get (cBin (binOf n)) fun q=>pFirst ⟨t,p,sh⟩ n p.toNat (q-1)).run s
abbrev c_bin_first:Ct Sg:=⟨some wView,false,[.agg [.i .i64, .i .i64, .i .i64], .i .i64], .tup [.i .i64, .b]⟩
def e_bin_first:Entry Sg:=entC c_bin_first bin_first (fun s t p sh n=>[p≤9223372036854775807])
def bin_first_w (s:VS) (t p sh n:Int) (Q0:VS→Int→Int→Prop) (R_:VS×Int×Bool→Prop):Prop:=(∀r1:VS×Int,r1=((VS.read s (place_Bin (bin_Of n)),VS.get s (place_Bin (bin_Of n))))→(Q0 r1.1 (0) (IntKind.wrap IntKind.i64 (IntKind.wrap IntKind.i64 r1.2-1))))
def bin_first_w0 (s:VS) (t p sh n:Int) (sv:VS) (i g:Int) (Q0:VS→Int→Int→Prop) (R_:VS×Int×Bool→Prop):Prop:=(bw_ (decide (i<p)) (bw_ (!bin_page t p sh g) (R_ ((sv,0,false))) (∀r2:VS×Int,r2=(bin_free sv t p sh g)→(bw_ (decide (r2.2≥n)) (R_ ((r2.1,g,true))) (∀r4:VS×Int,r4=((VS.read r2.1 (place_Next t p sh g),VS.get r2.1 (place_Next t p sh g)))→(Q0 r4.1 (IntKind.wrap IntKind.i64 (i+1)) (IntKind.wrap IntKind.i64 (IntKind.wrap IntKind.i64 r4.2-1))))))) (R_ ((sv,0,false))))
def bin_first_I0 (s:VS) (t p sh n:Int) (sv:VS) (i g:Int) (r_:VS×Int×Bool):Prop:=0≤i∧(i≤p∨i=0)∧(pFirst ⟨t,p,sh⟩ n (p-i).toNat g).run sv=r_
abbrev bin_first_h0 (p0:Addr) (s:VS) (t p sh n:Int):Hd Sg:=⟨none,[0,1,0,1,1,0,1],[.blk 0, .code [1,1,1,0,1], .scp [1]],[0,18,17,8,4,2],[.objc wView p0, .i .i64, .ic .i64 (p), .i .i64, .box 23 [.ic .i64 (t), .ic .i64 (p), .ic .i64 (sh)], .ic .i64 (n)]⟩
theorem bin_first_begin (s:VS) (t p sh n:Int) (hp0:p≤9223372036854775807):bin_first_w s t p sh n (fun sv' i' g'=>bin_first_I0 s t p sh n sv' i' g' (bin_first s t p sh n)) (fun r__=>r__=(bin_first s t p sh n)):=by
 unfold bin_first_w
 try unfold bin_first_I0
 intro r1 e1
 subst e1
 rw [place_Bin_eq,binOf_e,w64g,w64g1]
 refine ⟨by omega,by omega,?_⟩
 rw [show (p-0).toNat=p.toNat by omega]
 rfl
theorem bin_first_step0 (s:VS) (t p sh n:Int) (hp0:p≤9223372036854775807) (sv:VS) (i g:Int) {r_:VS×Int×Bool} (hI:bin_first_I0 s t p sh n sv i g r_):bin_first_w0 s t p sh n sv i g (fun sv' i' g'=>bin_first_I0 s t p sh n sv' i' g' r_∧lx ((p-i').toNat,0,0) ((p-i).toNat,0,0)) (fun r__=>r__=r_):=by
 unfold bin_first_I0 at hI
 unfold bin_first_w0
 try unfold bin_first_I0
 obtain ⟨h0,h1,h2⟩:=hI
 refine ⟨fun h=>?_,fun h=>?_⟩
 ·simp only [decide_eq_true_eq] at h
  have hf:(p-i).toNat=(p-(i+1)).toNat+1:=by omega
  rw [hf] at h2
  simp only [pFirst] at h2
  refine ⟨fun hp=>?_,fun hp r2 e2=>?_⟩
  ·have hpg:Cf.page ⟨t,p,sh⟩ g=false:=by
    have:bin_page t p sh g=false:=by simpa using hp
    exact this
   rw [hpg] at h2
   exact h2
  ·have hpg:Cf.page ⟨t,p,sh⟩ g=true:=by
    have:bin_page t p sh g=true:=by simpa using hp
    exact this
   rw [hpg,cond_true,Pg.run_bind,←free_e,←e2] at h2
   refine ⟨fun hc=>?_,fun hc r4 e4=>?_⟩
   ·rw [show decide (n≤r2.2)=true from hc] at h2
    exact h2
   ·rw [show decide (n≤r2.2)=false from hc] at h2
    subst e4
    simp only [cond_false,Pg.run_get] at h2
    rw [place_Next_eq,w64 (n:=i+1) (by omega),w64g,w64g1]
    exact ⟨⟨by omega,by omega,h2⟩,lxo_⟩
 ·simp only [decide_eq_false_iff_not] at h
  rw [show (p-i).toNat=0 by omega] at h2
  exact h2
theorem bin_first_ok:EOk 193 e_bin_first:=
 ent_wp Dg DF (I:=[6567000000000,6567000000018,6567000000017,6567000000008,6567000000004,6567000000002]) Tryz.func193 mix (B:=bodyOf Tryz.f193) (by kernel_rfl) rfl (by kernel_rfl) 400
  fun p0 s t p sh n hb hp=>have hp0:p≤9223372036854775807:=hp _ (.head _);⟨[bin_first_h0 p0 s t p sh n],fun j=>List.getD [appC (Hd.kd (bin_first_h0 p0 s t p sh n)) (fun sv' i' g'=>bin_first_I0 s t p sh n sv' i' g' (bin_first s t p sh n))] j (fun _=>False),fun j=>List.getD [appC (Hd.kd (bin_first_h0 p0 s t p sh n)) (fun sv' i' g'=>((p-i').toNat,0,0))] j (fun _=>(0,0,0)),by kernel_rfl,⟨_,fun _ _ _=>by kernel_rfl,bin_first_begin s t p sh n hp0⟩,⟨fun sv i g hI=>⟨_,fun _ _ _=>by kernel_rfl,bin_first_step0 s t p sh n hp0 sv i g hI⟩,trivial⟩⟩
def T_bin_first:Tb:=(193,e_bin_first)::FY
theorem T_bin_first_ok:TOk T_bin_first:=tc_ bin_first_ok DF
def bin_Find (s:VS) (t p sh n:Int):VS×Int×Bool:=(pFind ⟨t,p,sh⟩ n).run s
abbrev c_bin_Find:Ct Sg:=⟨some wView,false,[.agg [.i .i64, .i .i64, .i .i64], .i .i64], .tup [.i .i64, .b]⟩
def e_bin_Find:Entry Sg:=entC c_bin_Find bin_Find (fun s t p sh n=>[p≤9223372036854775807])
def bin_Find_w (s:VS) (t p sh n:Int) (Q0:VS→Int→Prop) (R_:VS×Int×Bool→Prop):Prop:=(bw_ (decide (n<1)||decide (n>p)) (R_ ((s,0,false))) (∀r2:VS×Int×Bool,r2=(bin_first s t p sh n)→(aw_ (p≤9223372036854775807) (bw_ r2.2.2 (R_ ((r2.1,r2.2.1,true))) (Q0 r2.1 (IntKind.wrap IntKind.i64 (bin_Of n+1)))))))
def bin_Find_w0 (s:VS) (t p sh n:Int) (sv:VS) (k:Int) (Q0:VS→Int→Prop) (R_:VS×Int×Bool→Prop):Prop:=(bw_ (decide (k<11)) (∀r1:VS×Int,r1=((VS.read sv (place_Bin k),VS.get sv (place_Bin k)))→(bw_ (bin_page t p sh (IntKind.wrap IntKind.i64 (IntKind.wrap IntKind.i64 r1.2-1))) (R_ ((r1.1,IntKind.wrap IntKind.i64 (IntKind.wrap IntKind.i64 r1.2-1),true))) (Q0 r1.1 (IntKind.wrap IntKind.i64 (k+1))))) (R_ ((sv,0,false))))
def bin_Find_I0 (s:VS) (t p sh n:Int) (sv:VS) (k:Int) (r_:VS×Int×Bool):Prop:=0≤k∧∃f:Nat,11-k<f∧(pBins ⟨t,p,sh⟩ f k).run sv=r_
abbrev bin_Find_h0 (p0:Addr) (s:VS) (t p sh n:Int):Hd Sg:=⟨none,[0,1,0,1,1,1],[.blk 0, .code [1,1,1,1]],[0,10,4],[.objc wView p0, .i .i64, .box 23 [.ic .i64 (t), .ic .i64 (p), .ic .i64 (sh)]]⟩
theorem bin_Find_begin (s:VS) (t p sh n:Int) (hp0:p≤9223372036854775807):bin_Find_w s t p sh n (fun sv' k'=>bin_Find_I0 s t p sh n sv' k' (bin_Find s t p sh n)) (fun r__=>r__=(bin_Find s t p sh n)):=by
 unfold bin_Find_w
 try unfold bin_Find_I0
 have hb:=binOf_ge n
 have hb2:=binOf_le n
 refine ⟨fun hc=>?_,fun hc r2 e2=>⟨hp0,fun _=>⟨fun h3=>?_,fun h3=>?_⟩⟩⟩
 ·show (s,0,false)=bin_Find s t p sh n
  unfold bin_Find pFind
  rw [n_in,show (decide (n<1)||decide (n>p))=true from hc]
  rfl
 ·show _=bin_Find s t p sh n
  unfold bin_Find pFind
  have e2':=e2.symm
  unfold bin_first at e2'
  rw [n_in,hc,Bool.not_false,cond_true,Pg.run_bind]
  dsimp only
  rw [e2',h3,cond_true,Pg.run_ret]
  exact Prod.ext rfl (Prod.ext rfl h3.symm)
 ·rw [binOf_e,w64 (by omega)]
  refine ⟨by omega,12,by omega,?_⟩
  show _=bin_Find s t p sh n
  unfold bin_Find pFind
  have e2':=e2.symm
  unfold bin_first at e2'
  rw [n_in,hc,Bool.not_false,cond_true,Pg.run_bind]
  dsimp only
  rw [e2',h3]
  rfl
theorem bin_Find_step0 (s:VS) (t p sh n:Int) (hp0:p≤9223372036854775807) (sv:VS) (k:Int) {r_:VS×Int×Bool} (hI:bin_Find_I0 s t p sh n sv k r_):bin_Find_w0 s t p sh n sv k (fun sv' k'=>bin_Find_I0 s t p sh n sv' k' r_∧lx ((11-k').toNat,0,0) ((11-k).toNat,0,0)) (fun r__=>r__=r_):=by
 unfold bin_Find_I0 at hI
 unfold bin_Find_w0
 try unfold bin_Find_I0
 obtain ⟨h0,f,hf,h2⟩:=hI
 refine ⟨fun h=>?_,fun h=>?_⟩
 ·simp only [decide_eq_true_eq] at h
  obtain ⟨f',rfl⟩:∃f',f=f'+1:=⟨f-1,by omega⟩
  have hk:decide (k<11)=true:=by simpa using h
  simp only [pBins,hk,cond_true,Pg.run_get] at h2
  intro r1 e1
  subst e1
  rw [place_Bin_eq,w64g,w64g1]
  refine ⟨fun hp=>?_,fun hp=>?_⟩
  ·rw [show Cf.page ⟨t,p,sh⟩ (sv.get (cBin k)-1)=true from hp] at h2
   exact h2
  ·rw [show Cf.page ⟨t,p,sh⟩ (sv.get (cBin k)-1)=false from hp] at h2
   rw [w64 (n:=k+1) (by omega)]
   exact ⟨⟨by omega,f',by omega,h2⟩,lxo_⟩
 ·simp only [decide_eq_false_iff_not] at h
  have hk:decide (k<11)=false:=by simpa using h
  cases f with
  |zero=>exact h2
  |succ f=>
   simp only [pBins,hk] at h2
   exact h2
theorem bin_Find_ok:EOk 185 e_bin_Find:=
 ent_wp Dg T_bin_first_ok (I:=[1643000000000,1643000000010,1643000000004]) Tryz.func185 mix (B:=bodyOf Tryz.f185) (by kernel_rfl) rfl (by kernel_rfl) 400
  fun p0 s t p sh n hb hp=>have hp0:p≤9223372036854775807:=hp _ (.head _);⟨[bin_Find_h0 p0 s t p sh n],fun j=>List.getD [appC (Hd.kd (bin_Find_h0 p0 s t p sh n)) (fun sv' k'=>bin_Find_I0 s t p sh n sv' k' (bin_Find s t p sh n))] j (fun _=>False),fun j=>List.getD [appC (Hd.kd (bin_Find_h0 p0 s t p sh n)) (fun sv' k'=>((11-k').toNat,0,0))] j (fun _=>(0,0,0)),by kernel_rfl,⟨_,fun _ _ _=>by kernel_rfl,bin_Find_begin s t p sh n hp0⟩,⟨fun sv k hI=>⟨_,fun _ _ _=>by kernel_rfl,bin_Find_step0 s t p sh n hp0 sv k hI⟩,trivial⟩⟩
def T_bin_Find:Tb:=(185,e_bin_Find)::T_bin_first
theorem T_bin_Find_ok:TOk T_bin_Find:=tc_ bin_Find_ok T_bin_first_ok
def AQ (s:VS) (t p sh n:Int):VS×Int×Bool:=(pFind ⟨t,p,sh⟩ n).run s
abbrev JM:Ct Sg:=⟨some Ak,false,[.agg [.i .i64, .i .i64, .i .i64], .i .i64], .tup [.i .i64, .b]⟩
def FZ:Entry Sg:=entC JM AQ (fun s t p sh n=>[p≤9223372036854775807])
def Gf (s:VS) (t p sh n:Int) (Q0:VS→Int→Int→Prop) (Q1:VS→Int→Prop) (R_:VS×Int×Bool→Prop):Prop:=(bw_ (decide (n<1)||decide (n>p)) (R_ ((s,0,false))) (∀r2:VS×Int,r2=((VS.read s (r07_Bin (A8 n)),VS.get s (r07_Bin (A8 n))))→(Q0 r2.1 (0) (IntKind.wrap IntKind.i64 r2.2))))
def ES (s:VS) (t p sh n:Int) (sv:VS) (m q:Int) (Q0:VS→Int→Int→Prop) (Q1:VS→Int→Prop) (R_:VS×Int×Bool→Prop):Prop:=(bw_ (decide (m<p)&&decide (q≥1)&&decide (q≤p)) (∀r1:VS×Int×Int×Int,r1=(Be sv t p sh (IntKind.wrap IntKind.i64 (q-1)))→(bw_ (r1.2.1==1&&decide (r1.2.2.1≥n)) (R_ ((r1.1,IntKind.wrap IntKind.i64 (q-1),true))) (∀r4:VS×Int,r4=((VS.read r1.1 (r07_Next t p sh (IntKind.wrap IntKind.i64 (q-1))),VS.get r1.1 (r07_Next t p sh (IntKind.wrap IntKind.i64 (q-1)))))→(Q0 r4.1 (IntKind.wrap IntKind.i64 (m+1)) (IntKind.wrap IntKind.i64 r4.2))))) (Q1 (sv) (IntKind.wrap IntKind.i64 (A8 n+1))))
def AC (s:VS) (t p sh n:Int) (sv:VS) (m q:Int) (r_:VS×Int×Bool):Prop:=0≤m∧1≤n∧0≤q∧q<4294967296∧((pFirst ⟨t,p,sh⟩ n (p-m).toNat (q-1)).bind fun r=>bif r.2 then .ret r else pBins ⟨t,p,sh⟩ 12 (binOf n+1)).run sv=r_
def ET (s:VS) (t p sh n:Int) (sv:VS) (k:Int) (Q0:VS→Int→Int→Prop) (Q1:VS→Int→Prop) (R_:VS×Int×Bool→Prop):Prop:=(bw_ (decide (k<11)) (∀r1:VS×Int,r1=((VS.read sv (r07_Bin k),VS.get sv (r07_Bin k)))→(bw_ (decide (IntKind.wrap IntKind.i64 r1.2≥1)&&decide (IntKind.wrap IntKind.i64 r1.2≤p)) (R_ ((r1.1,IntKind.wrap IntKind.i64 (IntKind.wrap IntKind.i64 r1.2-1),true))) (Q1 r1.1 (IntKind.wrap IntKind.i64 (k+1))))) (R_ ((sv,0,false))))
def AL (s:VS) (t p sh n:Int) (sv:VS) (k:Int) (r_:VS×Int×Bool):Prop:=0≤k∧∃f:Nat,11-k<f∧(pBins ⟨t,p,sh⟩ f k).run sv=r_
abbrev CQ (p0:Addr) (s:VS) (t p sh n:Int):Hd Sg:=⟨none,[0,1,0,1,1,1],[.blk 0, .code [1,1,1,1]],[0,9,8,4,2],[.objc Ak p0, .i .i64, .i .i64, .box 23 [.ic .i64 (t), .ic .i64 (p), .ic .i64 (sh)], .ic .i64 (n)]⟩
abbrev CS (p0:Addr) (s:VS) (t p sh n:Int):Hd Sg:=⟨none,[0,1,0,1,1,1,1],[.blk 2, .code [1,1,1,1,1]],[0,11,4],[.objc Ak p0, .i .i64, .box 23 [.ic .i64 (t), .ic .i64 (p), .ic .i64 (sh)]]⟩
theorem GY (s:VS) (t p sh n:Int) (hp0:p≤9223372036854775807):Gf s t p sh n (fun sv' m' q'=>AC s t p sh n sv' m' q' (AQ s t p sh n)) (fun sv' k'=>AL s t p sh n sv' k' (AQ s t p sh n)) (fun r__=>r__=(AQ s t p sh n)):=by
 unfold Gf
 try unfold AC
 try unfold AL
 refine ⟨fun hc=>?_,fun hc r2 e2=>?_⟩
 ·show (s,0,false)=AQ s t p sh n
  unfold AQ pFind
  rw [n_in,show (decide (n<1)||decide (n>p))=true from hc]
  rfl
 ·subst e2
  have:=VS.get_bd s (r07_Bin (A8 n))
  simp only [Bool.or_eq_false_iff,decide_eq_false_iff_not] at hc
  rw [w64g]
  refine ⟨by omega,by omega,by omega,by omega,?_⟩
  unfold AQ pFind
  have e:(decide (1≤n)&&decide (n≤p))=true:=by simp;omega
  rw [e,show (p-0).toNat=p.toNat by omega,r07_Bin_eq,Ju]
  rfl
theorem GZ (s:VS) (t p sh n:Int) (hp0:p≤9223372036854775807) (sv:VS) (m q:Int) {r_:VS×Int×Bool} (hI:AC s t p sh n sv m q r_):ES s t p sh n sv m q (fun sv' m' q'=>AC s t p sh n sv' m' q' r_∧lx ((p-m').toNat+12,0,0) ((p-m).toNat+12,0,0)) (fun sv' k'=>AL s t p sh n sv' k' r_∧lx ((11-k').toNat,0,0) ((p-m).toNat+12,0,0)) (fun r__=>r__=r_):=by
 unfold AC at hI
 unfold ES
 try unfold AC
 try unfold AL
 obtain ⟨h0,h1,hq0,hq1,h2⟩:=hI
 have hb:=binOf_ge n
 have hb2:=binOf_le n
 refine ⟨fun h=>?_,fun h=>?_⟩
 ·simp only [Bool.and_eq_true,decide_eq_true_eq] at h
  have hf:(p-m).toNat=(p-(m+1)).toNat+1:=by omega
  have hpg:Cf.page ⟨t,p,sh⟩ (q-1)=true:=by
   simp only [Cf.page,Bool.and_eq_true,decide_eq_true_eq]
   omega
  rw [hf] at h2
  simp only [pFirst,hpg,cond_true,pFree,Pg.bind,Pg.run_get] at h2
  intro r1 e1
  rw [w64 (n:=q-1) (by omega)] at e1
  have e1':=e1.trans (show _=Be sv t p sh (q-1) from rfl)
  rw [KH] at e1'
  subst e1'
  simp only
  by_cases hk:(iGet (sv.get (Cf.info ⟨t,p,sh⟩ (q-1)))).k=1
  ·have e2:((iGet (sv.get (Cf.info ⟨t,p,sh⟩ (q-1)))).k==1)=true:=by simpa using hk
   simp only [e2,cond_true] at h2
   rw [e2,Bool.true_and]
   refine ⟨fun hc=>?_,fun hc r4 e4=>?_⟩
   ·rw [show decide (n≤(iGet (sv.get (Cf.info ⟨t,p,sh⟩ (q-1)))).l)=true from hc] at h2
    rw [w64 (n:=q-1) (by omega)]
    exact h2
   ·rw [show decide (n≤(iGet (sv.get (Cf.info ⟨t,p,sh⟩ (q-1)))).l)=false from hc] at h2
    subst e4
    simp only [cond_false,Pg.bind,Pg.run_get] at h2
    have bd:=VS.get_bd (sv.read (Cf.info ⟨t,p,sh⟩ (q-1))) (Cf.next ⟨t,p,sh⟩ (q-1))
    rw [r07_Next_eq,w64 (n:=q-1) (by omega),w64 (n:=m+1) (by omega),w64g]
    exact ⟨⟨by omega,h1,bd.1,bd.2,h2⟩,lxo_⟩
  ·have e2:((iGet (sv.get (Cf.info ⟨t,p,sh⟩ (q-1)))).k==1)=false:=by simpa using hk
   have e3:decide (n≤0)=false:=by simp;omega
   simp only [e2,e3,cond_false,Pg.bind,Pg.run_get] at h2
   rw [e2,Bool.false_and]
   refine ⟨(fun h=>by cases h),fun _ r4 e4=>?_⟩
   subst e4
   have bd:=VS.get_bd (sv.read (Cf.info ⟨t,p,sh⟩ (q-1))) (Cf.next ⟨t,p,sh⟩ (q-1))
   rw [r07_Next_eq,w64 (n:=q-1) (by omega),w64 (n:=m+1) (by omega),w64g]
   exact ⟨⟨by omega,h1,bd.1,bd.2,h2⟩,lxo_⟩
 ·have hpf:pFirst ⟨t,p,sh⟩ n (p-m).toNat (q-1)= .ret (0,false):=by
   cases hf:(p-m).toNat with
   |zero=>rfl
   |succ f=>
    have hpg:Cf.page ⟨t,p,sh⟩ (q-1)=false:=by
     cases hx:Cf.page ⟨t,p,sh⟩ (q-1) with
     |false=>rfl
     |true=>
      simp only [Cf.page,Bool.and_eq_true,decide_eq_true_eq] at hx
      simp only [Bool.and_eq_false_iff,decide_eq_false_iff_not] at h
      omega
    simp only [pFirst,hpg,cond_false]
  rw [hpf] at h2
  rw [Ju,w64 (by omega)]
  exact ⟨⟨by omega,12,by omega,h2⟩,lxo_⟩
theorem Ha (s:VS) (t p sh n:Int) (hp0:p≤9223372036854775807) (sv:VS) (k:Int) {r_:VS×Int×Bool} (hI:AL s t p sh n sv k r_):ET s t p sh n sv k (fun sv' m' q'=>AC s t p sh n sv' m' q' r_∧lx ((p-m').toNat+12,0,0) ((11-k).toNat,0,0)) (fun sv' k'=>AL s t p sh n sv' k' r_∧lx ((11-k').toNat,0,0) ((11-k).toNat,0,0)) (fun r__=>r__=r_):=by
 unfold AL at hI
 unfold ET
 try unfold AC
 try unfold AL
 obtain ⟨h0,f,hf,h2⟩:=hI
 refine ⟨fun h=>?_,fun h=>?_⟩
 ·simp only [decide_eq_true_eq] at h
  obtain ⟨f',rfl⟩:∃f',f=f'+1:=⟨f-1,by omega⟩
  have hk:decide (k<11)=true:=by simpa using h
  simp only [pBins,hk,cond_true,Pg.run_get] at h2
  intro r1 e1
  subst e1
  rw [r07_Bin_eq,w64g,w64g1]
  have e:Cf.page ⟨t,p,sh⟩ (sv.get (cBin k)-1)=(decide (sv.get (cBin k)≥1)&&decide (sv.get (cBin k)≤p)):=by
   apply Bool.eq_iff_iff.2
   simp only [Cf.page,Bool.and_eq_true,decide_eq_true_eq]
   omega
  refine ⟨fun hp=>?_,fun hp=>?_⟩
  ·rw [e.trans hp] at h2
   exact h2
  ·rw [e.trans hp] at h2
   rw [w64 (n:=k+1) (by omega)]
   exact ⟨⟨by omega,f',by omega,h2⟩,lxo_⟩
 ·simp only [decide_eq_false_iff_not] at h
  have hk:decide (k<11)=false:=by simpa using h
  cases f with
  |zero=>exact h2
  |succ f=>
   simp only [pBins,hk] at h2
   exact h2
theorem Jj:EOk 123 FZ:=
 ent_wp Dg T_bin_Find_ok (I:=[1643000000000,1643000000009,1643000000008,1643000000004,1643000000002,6571000000000,6571000000011,6571000000004]) Tryz.func123 mix (B:=bodyOf Tryz.f123) (by kernel_rfl) rfl (by kernel_rfl) 400
  fun p0 s t p sh n hb hp=>have hp0:p≤9223372036854775807:=hp _ (.head _);⟨[CQ p0 s t p sh n,CS p0 s t p sh n],fun j=>List.getD [appC (Hd.kd (CQ p0 s t p sh n)) (fun sv' m' q'=>AC s t p sh n sv' m' q' (AQ s t p sh n)),appC (Hd.kd (CS p0 s t p sh n)) (fun sv' k'=>AL s t p sh n sv' k' (AQ s t p sh n))] j (fun _=>False),fun j=>List.getD [appC (Hd.kd (CQ p0 s t p sh n)) (fun sv' m' q'=>((p-m').toNat+12,0,0)),appC (Hd.kd (CS p0 s t p sh n)) (fun sv' k'=>((11-k').toNat,0,0))] j (fun _=>(0,0,0)),by kernel_rfl,⟨_,fun _ _ _=>by kernel_rfl,GY s t p sh n hp0⟩,⟨fun sv m q hI=>⟨_,fun _ _ _=>by kernel_rfl,GZ s t p sh n hp0 sv m q hI⟩,⟨fun sv k hI=>⟨_,fun _ _ _=>by kernel_rfl,Ha s t p sh n hp0 sv k hI⟩,trivial⟩⟩⟩
def Gg:Tb:=(123,FZ)::T_bin_Find
theorem DI:TOk Gg:=tc_ Jj T_bin_Find_ok
end Go.Proofs.YtjfabjhlkpgckaaGreat
namespace Go.Sl
def cel (xs:LI) (i:Int):Int:=xs.getD i.toNat 0
def infoOk (v:Int):Bool:=iRight (v%16) (v/16%4096) (v/65536)
theorem iGet_len {v:Int} (h:infoOk v=true) (hk:((iGet v).k==0)=false):1≤(iGet v).l:=by
 unfold infoOk at h
 have e:iGet v=⟨v%16,v/16%4096,v/65536⟩:=by unfold iGet;rw [h];rfl
 rw [e] at hk ⊢
 simp only at hk ⊢
 unfold iRight at h
 rw [hk,cond_false] at h
 cases h1:(v%16==1||v%16==2) with
 |true=>
  rw [h1] at h
  simp only [cond_true,Bool.and_eq_true,decide_eq_true_eq] at h
  omega
 |false=>
  rw [h1] at h
  simp only [cond_false] at h
  cases h3:v%16==3 with
  |false=>rw [h3] at h;cases h
  |true=>
   rw [h3] at h
   simp only [cond_true,Bool.and_eq_true,decide_eq_true_eq,beq_iff_eq] at h
   omega
theorem iGet_bd (v:Int):0≤(iGet v).k∧(iGet v).k≤3∧0≤(iGet v).l∧(iGet v).l≤1024∧0≤(iGet v).c∧(iGet v).c≤8:=by
 unfold iGet
 cases h:iRight (v%16) (v/16%4096) (v/65536) with
 |false=>simp
 |true=>
  simp only [cond_true]
  unfold iRight at h
  cases h0:v%16==0 with
  |true=>
   rw [h0] at h
   simp only [cond_true,Bool.and_eq_true,beq_iff_eq] at h h0
   omega
  |false=>
   rw [h0] at h
   simp only [cond_false] at h
   cases h1:(v%16==1||v%16==2) with
   |true=>
    rw [h1] at h
    simp only [cond_true,Bool.and_eq_true,decide_eq_true_eq,beq_iff_eq,Bool.or_eq_true] at h h1
    omega
   |false=>
    rw [h1] at h
    simp only [cond_false] at h
    cases h3:v%16==3 with
    |false=>rw [h3] at h;cases h
    |true=>
     rw [h3] at h
     simp only [cond_true,Bool.and_eq_true,decide_eq_true_eq,beq_iff_eq] at h h3
     omega
section
variable (c:Cf) (xs:LI)
def aInfo (p:Int):If:=iGet (cel xs (c.info p))
def startsF:Nat→Int→LI→LI×Bool
 |0,at_,out=>(out,at_==c.p)
 |f+1,at_,out=>bif decide (at_<c.p) then
   (bif !infoOk (cel xs (c.info at_))||(aInfo c xs at_).k==0 then ([],false) else startsF f (at_+(aInfo c xs at_).l) (out++[at_]))
  else (out,at_==c.p)
def starts:LI×Bool:=startsF c xs (c.p.toNat+1) 0 []
def tilesF (l:LI):Nat→Nat→Bool
 |0,_=>true
 |k+1,n=>bif decide (n<l.length)&&l.getD n 0==c.p-(k+1:Nat) then tilesF l k (n+1) else (bif cel xs (c.info (c.p-(k+1:Nat))) !=0 then false else tilesF l k n)
def tiles:Bool:=bif (starts c xs).2 then tilesF c xs (starts c xs).1 c.p.toNat 0 else false
def feetF (l:LI):Nat→Nat→Bool
 |0,_=>true
 |k+1,n=>
  let p:=c.p-(k+1:Nat)
  let n':=bif decide (n+1<l.length)&&l.getD (n+1) 0==p then n+1 else n
  let want:=bif p==l.getD n' 0+(aInfo c xs (l.getD n' 0)).l-1 then nv (l.getD n' 0+1) else 0
  bif cel xs (c.foot p) !=want then false else feetF l k n'
def feet:Bool:=feetF c xs (starts c xs).1 c.p.toNat 0
def apartF (l:LI):Nat→Bool
 |0=>true
 |k+1=>bif (aInfo c xs (l.getD (l.length-(k+1)) 0)).k==1&&(aInfo c xs (l.getD (l.length-(k+1)-1) 0)).k==1 then false else apartF l k
def apart:Bool:=apartF c xs (starts c xs).1 ((starts c xs).1.length-1)
def bitAt (v i:Int):Bool:=decide (i≥0)&&decide (i<32)&&v/2^i.toNat%2==1
def onesF (v:Int):Nat→Int
 |0=>0
 |k+1=>onesF v k+(bif bitAt v k then 1 else 0)
def ones (v:Int):Int:=onesF v 32
def kSlots (k:Int):Int:=bif decide (0≤k) then [32,21,16,10,8,5,4,3,2].getD k.toNat 0 else 0
def slotsB (p:Int) (i:If):Nat→Bool
 |0=>true
 |k+1=>
  let b:Int:=32-(k+1:Nat)
  let live:=bitAt (cel xs (c.slots p)) b
  let taken:=bitAt (cel xs (c.taken p)) b
  bif (live&&!taken)||(taken&&((i.k !=3)||decide (b≥kSlots i.c))) then false else slotsB p i k
def slotsF:Nat→Bool
 |0=>true
 |k+1=>
  let p:=c.p-(k+1:Nat)
  bif slotsB c xs p (aInfo c xs p) 32 then (bif (aInfo c xs p).k==3&&cel xs (c.taken p)==0 then false else slotsF k) else false
def slotsOk:Bool:=slotsF c xs c.p.toNat
def listF:Nat→Int→Int→LI→LI×Bool
 |0,_,_,out=>(out,false)
 |f+1,q,ahead,out=>bif q==0 then (out,true) else
   bif decide (q>c.p)||decide ((out.length:Int)≥c.p) then (out,false) else
   bif cel xs (c.prev (q-1)) !=ahead then (out,false) else listF f (cel xs (c.next (q-1))) q (out++[q-1])
def listA (head:Int):LI×Bool:=listF c xs (c.p.toNat+2) (cel xs head) 0 []
def inA (l:LI) (p:Int):Int:=(l.filter (· ==p)).length
def full (taken k:Int):Bool:=ones taken==kSlots k
def binned (p k:Int):Bool:=(aInfo c xs p).k==1&&logI (aInfo c xs p).l==k
def racked (p k:Int):Bool:=(aInfo c xs p).k==3&&(aInfo c xs p).c==k&&!full (cel xs (c.taken p)) k
def onceF (l:LI) (g:Int→Bool):Nat→Bool
 |0=>true
 |k+1=>
  let p:=c.p-(k+1:Nat)
  bif inA l p !=(bif g p then 1 else 0) then false else onceF l g k
def binsF:Nat→Bool
 |0=>true
 |k+1=>bif (listA c xs (cBin (11-(k+1:Nat)))).2 then (bif onceF c (listA c xs (cBin (11-(k+1:Nat)))).1 (binned c xs · (11-(k+1:Nat))) c.p.toNat then binsF k else false) else false
def bins:Bool:=binsF c xs 11
def racksF:Nat→Bool
 |0=>true
 |k+1=>bif (listA c xs (cRack (9-(k+1:Nat)))).2 then (bif onceF c (listA c xs (cRack (9-(k+1:Nat)))).1 (racked c xs · (9-(k+1:Nat))) c.p.toNat then racksF k else false) else false
def racks:Bool:=racksF c xs 9
def looseF:Nat→Bool
 |0=>true
 |k+1=>
  let p:=c.p-(k+1:Nat)
  let i:=aInfo c xs p
  bif i.k==1||(i.k==3&&!full (cel xs (c.taken p)) i.c) then looseF k else
   bif cel xs (c.next p) !=0||cel xs (c.prev p) !=0 then false else looseF k
def loose:Bool:=looseF c xs c.p.toNat
def countsF:Nat→Int×Int
 |0=>(0,0)
 |k+1=>
  let i:=aInfo c xs k
  ((countsF k).1+(bif i.k==1 then i.l else 0),(countsF k).2+(bif i.k==2 then 1 else 0)+ones (cel xs (c.slots k)))
def counts:Bool:=cel xs 0==nv (countsF c xs c.p.toNat).1&&cel xs 1==nv (countsF c xs c.p.toNat).2
end
end Go.Sl
namespace Go.Proofs.YtjfabjhlkpgckaaGreat
open Go.Sl
structure AGood (c:Cf) (xs:LI):Prop where
 ok:c.ok=true
 len:(xs.length:Int)=c.cells
 bd:∀v∈xs,bd32 v
theorem cel_bd {c:Cf} {xs:LI} (h:AGood c xs) (i:Int):bd32 (cel xs i):=by
 unfold cel
 rw [List.getD_eq_getElem?_getD]
 cases e:xs[i.toNat]? with
 |none=>exact ⟨by decide,by decide⟩
 |some v=>exact h.bd v (List.mem_of_getElem? e)
theorem pc_in {c:Cf} {xs:LI} (h:AGood c xs) {g k:Int} (hg:0≤g∧g<c.p) (hk:0≤k∧k≤5):0≤c.pc g k∧c.pc g k<(xs.length:Int):=by
 have h1:=Cf.ok_iff.1 h.ok
 have h2:=h.len
 have hp:c.page g=true:=by simp [Cf.page,hg.1,hg.2]
 unfold Cf.cells at h2
 rw [h.ok,cond_true] at h2
 unfold Cf.pc
 rw [h.ok,hp]
 simp only [Bool.and_self,cond_true]
 omega
theorem bin_in {c:Cf} {xs:LI} (h:AGood c xs) {k:Int} (hk:0≤k∧k<11):0≤cBin k∧cBin k<(xs.length:Int):=by
 have h1:=Cf.ok_iff.1 h.ok
 have h2:=h.len
 unfold Cf.cells at h2
 rw [h.ok,cond_true] at h2
 have e:(decide (0≤k)&&decide (k<11))=true:=by simp [hk.1,hk.2]
 unfold cBin
 rw [e,cond_true]
 omega
theorem rack_in {c:Cf} {xs:LI} (h:AGood c xs) {k:Int} (hk:0≤k∧k<9):0≤cRack k∧cRack k<(xs.length:Int):=by
 have h1:=Cf.ok_iff.1 h.ok
 have h2:=h.len
 unfold Cf.cells at h2
 rw [h.ok,cond_true] at h2
 have e:(decide (0≤k)&&decide (k<9))=true:=by simp [hk.1,hk.2]
 unfold cRack
 rw [e,cond_true]
 omega
def r01_Bit (w i:Int):Bool:=decide (i≥0)&&decide (i<32)&&Int.tmod (Int.fdiv w (2^min (Int.toNat (IntKind.wrap IntKind.u64 i)) 32)) (2:Int)==1
abbrev c_r01_Bit:Ct Sg:=⟨none,false,[.i .u32, .i .i64], .b⟩
def e_r01_Bit:Entry Sg:=entC c_r01_Bit r01_Bit (fun _ _=>[])
theorem r01_Bit_ok:EOk 55 e_r01_Bit:=
 ent_ok Dg DI (I:=[]) Tryz.func55 mix (B:=bodyOf Tryz.f55) (by kernel_rfl) rfl (by kernel_rfl) 400
  fun _ w i hb hp=>⟨(r01_Bit w i),(.need ((decide (i≥0)&&decide (i<32))=true→0≤IntKind.wrap IntKind.u64 i) .t),fun _ _ _=>by kernel_rfl,⟨(by first|omega|(rw [IntKind.wrap_u64];omega)|(intro _;rw [IntKind.wrap_u64];omega)),fun z0=>trivial⟩,rfl⟩
def T_r01_Bit:Tb:=(55,e_r01_Bit)::Gg
theorem T_r01_Bit_ok:TOk T_r01_Bit:=tc_ r01_Bit_ok DI
def r07_Slots (t p sh g:Int):Int:=r07_Page t p sh g 4
abbrev c_r07_Slots:Ct Sg:=⟨none,false,[.agg [.i .i64, .i .i64, .i .i64], .i .i64], .i .i64⟩
def e_r07_Slots:Entry Sg:=entC c_r07_Slots r07_Slots (fun _ _ _ _=>[])
theorem r07_Slots_ok:EOk 36 e_r07_Slots:=
 ent_ok Dg T_r01_Bit_ok (I:=[]) Tryz.func36 mix (B:=bodyOf Tryz.f36) (by kernel_rfl) rfl (by kernel_rfl) 400
  fun _ t p sh g hb hp=>⟨(r07_Slots t p sh g), .t,fun _ _ _=>by kernel_rfl,trivial,rfl⟩
def T_r07_Slots:Tb:=(36,e_r07_Slots)::T_r01_Bit
theorem T_r07_Slots_ok:TOk T_r07_Slots:=tc_ r07_Slots_ok T_r01_Bit_ok
def r07_Taken (t p sh g:Int):Int:=r07_Page t p sh g 5
abbrev c_r07_Taken:Ct Sg:=⟨none,false,[.agg [.i .i64, .i .i64, .i .i64], .i .i64], .i .i64⟩
def e_r07_Taken:Entry Sg:=entC c_r07_Taken r07_Taken (fun _ _ _ _=>[])
theorem r07_Taken_ok:EOk 86 e_r07_Taken:=
 ent_ok Dg T_r07_Slots_ok (I:=[]) Tryz.func86 mix (B:=bodyOf Tryz.f86) (by kernel_rfl) rfl (by kernel_rfl) 400
  fun _ t p sh g hb hp=>⟨(r07_Taken t p sh g), .t,fun _ _ _=>by kernel_rfl,trivial,rfl⟩
def T_r07_Taken:Tb:=(86,e_r07_Taken)::T_r07_Slots
theorem T_r07_Taken_ok:TOk T_r07_Taken:=tc_ r07_Taken_ok T_r07_Slots_ok
def r07_Rack (k:Int):Int:=(bif decide (k<0)||decide (k>8) then (-1) else IntKind.wrap IntKind.i64 (13+k))
abbrev c_r07_Rack:Ct Sg:=⟨none,false,[.i .i64], .i .i64⟩
def e_r07_Rack:Entry Sg:=entC c_r07_Rack r07_Rack (fun _=>[])
theorem r07_Rack_ok:EOk 81 e_r07_Rack:=
 ent_ok Dg T_r07_Taken_ok (I:=[]) Tryz.func81 mix (B:=bodyOf Tryz.f81) (by kernel_rfl) rfl (by kernel_rfl) 400
  fun _ k hb hp=>⟨(r07_Rack k), .t,fun _ _ _=>by kernel_rfl,trivial,rfl⟩
def T_r07_Rack:Tb:=(81,e_r07_Rack)::T_r07_Taken
theorem T_r07_Rack_ok:TOk T_r07_Rack:=tc_ r07_Rack_ok T_r07_Taken_ok
def r07_Cells (t p sh:Int):Int:=(bif !r04_Right t p sh then 0 else IntKind.wrap IntKind.i64 (IntKind.wrap IntKind.i64 (30+IntKind.wrap IntKind.i64 (4*t))+IntKind.wrap IntKind.i64 (6*p)))
abbrev c_r07_Cells:Ct Sg:=⟨none,false,[.agg [.i .i64, .i .i64, .i .i64]], .i .i64⟩
def e_r07_Cells:Entry Sg:=entC c_r07_Cells r07_Cells (fun _ _ _=>[])
theorem r07_Cells_ok:EOk 146 e_r07_Cells:=
 ent_ok Dg T_r07_Rack_ok (I:=[]) Tryz.func146 mix (B:=bodyOf Tryz.f146) (by kernel_rfl) rfl (by kernel_rfl) 400
  fun _ t p sh hb hp=>⟨(r07_Cells t p sh), .t,fun _ _ _=>by kernel_rfl,trivial,rfl⟩
def T_r07_Cells:Tb:=(146,e_r07_Cells)::T_r07_Rack
theorem T_r07_Cells_ok:TOk T_r07_Cells:=tc_ r07_Cells_ok T_r07_Rack_ok
def r05_Slots (k:Int):Int:=(bif k==0 then 32 else (bif k==1 then 21 else (bif k==2 then 16 else (bif k==3 then 10 else (bif k==4 then 8 else (bif k==5 then 5 else (bif k==6 then 4 else (bif k==7 then 3 else (bif k==8 then 2 else 0)))))))))
abbrev c_r05_Slots:Ct Sg:=⟨none,false,[.i .i64], .i .i64⟩
def e_r05_Slots:Entry Sg:=entC c_r05_Slots r05_Slots (fun _=>[])
theorem r05_Slots_ok:EOk 87 e_r05_Slots:=
 ent_ok Dg T_r07_Cells_ok (I:=[]) Tryz.func87 mix (B:=bodyOf Tryz.f87) (by kernel_rfl) rfl (by kernel_rfl) 400
  fun _ k hb hp=>⟨(r05_Slots k), .t,fun _ _ _=>by kernel_rfl,trivial,rfl⟩
def T_r05_Slots:Tb:=(87,e_r05_Slots)::T_r07_Cells
theorem T_r05_Slots_ok:TOk T_r05_Slots:=tc_ r05_Slots_ok T_r07_Cells_ok
def x_Info (t p sh:Int) (xs:LI) (g:Int):Int×Int×Int:=((aInfo ⟨t,p,sh⟩ xs g).k,(aInfo ⟨t,p,sh⟩ xs g).l,(aInfo ⟨t,p,sh⟩ xs g).c)
abbrev c_x_Info:Ct Sg:=⟨none,false,[.agg [.i .i64, .i .i64, .i .i64, .ro [some .u32]], .i .i64], .agg [.i .i64, .i .i64, .i .i64]⟩
def e_x_Info:Entry Sg:=entC c_x_Info x_Info (fun t p sh xs g=>[AGood ⟨t,p,sh⟩ xs,0≤g∧g<p])
abbrev E5 (xs:LI) (r2:Int) (R_:Int×Int×Int→Prop):Prop:=(∀r4:Int×Int×Int×Bool,r4=(r09_Get (List.getD xs (Int.toNat r2) 0))→(R_ ((r4.1,r4.2.1,r4.2.2.1))))
def x_Info_w (t p sh:Int) (xs:LI) (g:Int) (R_:Int×Int×Int→Prop):Prop:=((∀r2:Int,r2=(r07_Info t p sh g)→(aw_ (0≤r2∧r2<(↑(List.length xs):Int)) ((E5 xs r2 R_)∧(E5 xs r2 R_))))∧(∀r3:Int,r3=(r07_Info t p sh g)→(aw_ (0≤r3∧r3<(↑(List.length xs):Int)) (E5 xs r3 R_))))
theorem x_Info_begin (t p sh:Int) (xs:LI) (g:Int) (hp0:AGood ⟨t,p,sh⟩ xs) (hp1:0≤g∧g<p) (hl0:xs.length≤9223372036854775807):x_Info_w t p sh xs g (fun r__=>r__=(x_Info t p sh xs g)):=by
 unfold x_Info_w E5
 have hin:=pc_in hp0 hp1 (k:=0) (by omega)
 obtain ⟨e1,e2,e3⟩:=r09_Get_i (cel_bd hp0 (Cf.info ⟨t,p,sh⟩ g))
 have key:∀r2,r2=r07_Info t p sh g→(0≤r2∧r2<(xs.length:Int))∧∀r4:Int×Int×Int×Bool,r4=r09_Get (xs.getD r2.toNat 0)→(r4.1,r4.2.1,r4.2.2.1)=x_Info t p sh xs g:=by
  rintro r2 rfl
  rw [r07_Info_eq]
  refine ⟨hin,?_⟩
  rintro r4 rfl
  exact Prod.ext e1 (Prod.ext e2 e3)
 exact ⟨fun r2 h2=>⟨(key r2 h2).1,fun _=>⟨fun r4 h4=>(key r2 h2).2 r4 h4,fun r5 h5=>(key r2 h2).2 r5 h5⟩⟩,fun r3 h3=>⟨(key r3 h3).1,fun _ r5 h5=>(key r3 h3).2 r5 h5⟩⟩
theorem x_Info_ok:EOk 156 e_x_Info:=
 ent_w0 Dg T_r05_Slots_ok (I:=[]) Tryz.func156 mix (B:=bodyOf Tryz.f156) (by kernel_rfl) rfl (by kernel_rfl) 400
  fun _ t p sh xs g hb hp=>⟨_,fun _ _ _=>by kernel_rfl,x_Info_begin t p sh xs g (hp _ (.head _)) (hp _ (.tail _ (.head _))) (hb.1.2.2.2.1)⟩
def T_x_Info:Tb:=(156,e_x_Info)::T_r05_Slots
theorem T_x_Info_ok:TOk T_x_Info:=tc_ x_Info_ok T_r05_Slots_ok
def x_Slots (t p sh:Int) (xs:LI) (g:Int):Int:=cel xs (Cf.slots ⟨t,p,sh⟩ g)
abbrev c_x_Slots:Ct Sg:=⟨none,false,[.agg [.i .i64, .i .i64, .i .i64, .ro [some .u32]], .i .i64], .i .u32⟩
def e_x_Slots:Entry Sg:=entC c_x_Slots x_Slots (fun t p sh xs g=>[AGood ⟨t,p,sh⟩ xs,0≤g∧g<p])
def x_Slots_w (t p sh:Int) (xs:LI) (g:Int) (R_:Int→Prop):Prop:=(aw_ (0≤r07_Slots t p sh g∧r07_Slots t p sh g<(↑(List.length xs):Int)) (R_ (List.getD xs (Int.toNat (r07_Slots t p sh g)) 0)))
theorem x_Slots_begin (t p sh:Int) (xs:LI) (g:Int) (hp0:AGood ⟨t,p,sh⟩ xs) (hp1:0≤g∧g<p) (hl0:xs.length≤9223372036854775807):x_Slots_w t p sh xs g (fun r__=>r__=(x_Slots t p sh xs g)):=by
 unfold x_Slots_w
 have e:r07_Slots t p sh g=Cf.slots ⟨t,p,sh⟩ g:=r07_Page_eq (by omega)
 have hin:=pc_in hp0 hp1 (k:=4) (by omega)
 rw [e]
 exact ⟨hin,fun _=>rfl⟩
theorem x_Slots_ok:EOk 56 e_x_Slots:=
 ent_w0 Dg T_x_Info_ok (I:=[]) Tryz.func56 mix (B:=bodyOf Tryz.f56) (by kernel_rfl) rfl (by kernel_rfl) 400
  fun _ t p sh xs g hb hp=>⟨_,fun _ _ _=>by kernel_rfl,x_Slots_begin t p sh xs g (hp _ (.head _)) (hp _ (.tail _ (.head _))) (hb.1.2.2.2.1)⟩
def T_x_Slots:Tb:=(56,e_x_Slots)::T_x_Info
theorem T_x_Slots_ok:TOk T_x_Slots:=tc_ x_Slots_ok T_x_Info_ok
def x_Taken (t p sh:Int) (xs:LI) (g:Int):Int:=cel xs (Cf.taken ⟨t,p,sh⟩ g)
abbrev c_x_Taken:Ct Sg:=⟨none,false,[.agg [.i .i64, .i .i64, .i .i64, .ro [some .u32]], .i .i64], .i .u32⟩
def e_x_Taken:Entry Sg:=entC c_x_Taken x_Taken (fun t p sh xs g=>[AGood ⟨t,p,sh⟩ xs,0≤g∧g<p])
def x_Taken_w (t p sh:Int) (xs:LI) (g:Int) (R_:Int→Prop):Prop:=(aw_ (0≤r07_Taken t p sh g∧r07_Taken t p sh g<(↑(List.length xs):Int)) (R_ (List.getD xs (Int.toNat (r07_Taken t p sh g)) 0)))
theorem x_Taken_begin (t p sh:Int) (xs:LI) (g:Int) (hp0:AGood ⟨t,p,sh⟩ xs) (hp1:0≤g∧g<p) (hl0:xs.length≤9223372036854775807):x_Taken_w t p sh xs g (fun r__=>r__=(x_Taken t p sh xs g)):=by
 unfold x_Taken_w
 have e:r07_Taken t p sh g=Cf.taken ⟨t,p,sh⟩ g:=r07_Page_eq (by omega)
 have hin:=pc_in hp0 hp1 (k:=5) (by omega)
 rw [e]
 exact ⟨hin,fun _=>rfl⟩
theorem x_Taken_ok:EOk 174 e_x_Taken:=
 ent_w0 Dg T_x_Slots_ok (I:=[]) Tryz.func174 mix (B:=bodyOf Tryz.f174) (by kernel_rfl) rfl (by kernel_rfl) 400
  fun _ t p sh xs g hb hp=>⟨_,fun _ _ _=>by kernel_rfl,x_Taken_begin t p sh xs g (hp _ (.head _)) (hp _ (.tail _ (.head _))) (hb.1.2.2.2.1)⟩
def T_x_Taken:Tb:=(174,e_x_Taken)::T_x_Slots
theorem T_x_Taken_ok:TOk T_x_Taken:=tc_ x_Taken_ok T_x_Slots_ok
end Go.Proofs.YtjfabjhlkpgckaaGreat
namespace Go.Proofs.YtjfabjhlkpgckaaGreat
open Go.Sl
theorem r09_ok {v:Int} (h:bd32 v):(r09_Get v).2.2.2=infoOk v:=by
 rw [r09_Get_eq h.1 h.2]
 unfold infoOk
 rw [←iRight_eq]
 cases info_right (v%16) (v/16%4096) (v/65536)<;>rfl
def x_starts (t p sh:Int) (xs:LI):LI×Bool:=starts ⟨t,p,sh⟩ xs
abbrev c_x_starts:Ct Sg:=⟨none,false,[.agg [.i .i64, .i .i64, .i .i64, .ro [some .u32]]], .tup [.new 3 [some .i64], .b]⟩
def e_x_starts:Entry Sg:=entC c_x_starts x_starts (fun t p sh xs=>[AGood ⟨t,p,sh⟩ xs])
def x_starts_w (t p sh:Int) (xs:LI) (Q0:Int→Nat→LI→Prop) (R_:LI×Bool→Prop):Prop:=(Q0 (0) (0) ([]))
abbrev He (xs:LI) (r1:Int) (R_:LI×Bool→Prop) (n1:Nat) (Q0:Int→Nat→LI→Prop) (i:Int) (out:LI):Prop:=(∀r4:Int×Int×Int×Bool,r4=(r09_Get (List.getD xs (Int.toNat r1) 0))→(bw_ (!r4.2.2.2||r4.1==0) (R_ (([],false))) (aw_ ((n1+1)*8≤140737488355328) (Q0 (IntKind.wrap IntKind.i64 (i+r4.2.1)) (n1+1) (out++[i])))))
def x_starts_w0 (t p sh:Int) (xs:LI) (i:Int) (n1:Nat) (out:LI) (Q0:Int→Nat→LI→Prop) (R_:LI×Bool→Prop):Prop:=(bw_ (decide (i<p)) ((∀r1:Int,r1=(r07_Info t p sh i)→(aw_ (0≤r1∧r1<(↑(List.length xs):Int)) ((∀r3:Int×Int×Int×Bool,r3=(r09_Get (List.getD xs (Int.toNat r1) 0))→(bw_ (!r3.2.2.2||r3.1==0) (R_ (([],false))) (aw_ ((n1+1)*8≤140737488355328) (Q0 (IntKind.wrap IntKind.i64 (i+r3.2.1)) (n1+1) (out++[i])))))∧(He xs r1 R_ n1 Q0 i out))))∧(∀r2:Int,r2=(r07_Info t p sh i)→(aw_ (0≤r2∧r2<(↑(List.length xs):Int)) (He xs r2 R_ n1 Q0 i out)))) (R_ ((out,i==p))))
def x_starts_I0 (t p sh:Int) (xs:LI) (i:Int) (n1:Nat) (out:LI) (r_:LI×Bool):Prop:=0≤i∧n1=out.length∧(out.length:Int)≤i∧i≤p+1024∧∃f:Nat,p-i<f∧startsF ⟨t,p,sh⟩ xs f i out=r_
abbrev x_starts_h0 (p0:Addr) (t p sh:Int) (xs:LI):Hd Sg:=⟨none,[0,0,1,1,1],[.blk 0, .code [1,1,1,1]],[5,4,1],[.i .i64, .own 3 [some .i64], .box 102 [.ic .i64 (t), .ic .i64 (p), .ic .i64 (sh), .roc [.ints .u32 (xs)]]]⟩
theorem x_starts_begin (t p sh:Int) (xs:LI) (hp0:AGood ⟨t,p,sh⟩ xs) (hl0:xs.length≤9223372036854775807):x_starts_w t p sh xs (fun i' n1' out'=>x_starts_I0 t p sh xs i' n1' out' (x_starts t p sh xs)) (fun r__=>r__=(x_starts t p sh xs)):=by
 unfold x_starts_w
 try unfold x_starts_I0
 have hok:=Cf.ok_iff.1 hp0.ok
 simp only at hok
 exact ⟨by omega,rfl,by simp,by omega,p.toNat+1,by omega,rfl⟩
theorem x_starts_step0 (t p sh:Int) (xs:LI) (hp0:AGood ⟨t,p,sh⟩ xs) (hl0:xs.length≤9223372036854775807) (i:Int) (n1:Nat) (out:LI) {r_:LI×Bool} (hI:x_starts_I0 t p sh xs i n1 out r_):x_starts_w0 t p sh xs i n1 out (fun i' n1' out'=>x_starts_I0 t p sh xs i' n1' out' r_∧lx ((p+1025-i').toNat,0,0) ((p+1025-i).toNat,0,0)) (fun r__=>r__=r_):=by
 unfold x_starts_I0 at hI
 unfold x_starts_w0 He
 try unfold x_starts_I0
 obtain ⟨h0,h1,h2,h3,f,hf,hr⟩:=hI
 have hok:=Cf.ok_iff.1 hp0.ok
 simp only at hok
 refine ⟨fun h=>?_,fun h=>?_⟩
 ·simp only [decide_eq_true_eq] at h
  obtain ⟨f',rfl⟩:∃f',f=f'+1:=⟨f-1,by omega⟩
  have hin:=pc_in hp0 (g:=i) (k:=0) ⟨h0,h⟩ (by omega)
  have hb:=cel_bd hp0 (Cf.info ⟨t,p,sh⟩ i)
  obtain ⟨g1,g2,_⟩:=r09_Get_i hb
  have g3:=r09_ok hb
  have hd:decide (i<p)=true:=by simpa using h
  simp only [startsF,hd,cond_true] at hr
  have hw:∀l:Int,0≤l→l≤1024→IntKind.i64.wrap (i+l)=i+l:=fun l h1 h2=>w64 (by omega)
  have key:∀r1,r1=r07_Info t p sh i→(0≤r1∧r1<(xs.length:Int))∧∀r4:Int×Int×Int×Bool,r4=r09_Get (xs.getD r1.toNat 0)→((!r4.2.2.2||r4.1==0)=true→([],false)=r_)∧((!r4.2.2.2||r4.1==0)=false→(n1+1)*8≤140737488355328∧
   ((0≤IntKind.i64.wrap (i+r4.2.1)∧n1+1=(out++[i]).length∧((out++[i]).length:Int)≤IntKind.i64.wrap (i+r4.2.1)∧IntKind.i64.wrap (i+r4.2.1)≤p+1024∧∃f:Nat,p-IntKind.i64.wrap (i+r4.2.1)<f∧startsF ⟨t,p,sh⟩ xs f (IntKind.i64.wrap (i+r4.2.1)) (out++[i])=r_)∧lx ((p+1025-IntKind.i64.wrap (i+r4.2.1)).toNat,0,0) ((p+1025-i).toNat,0,0))):=by
   rintro r1 rfl
   rw [r07_Info_eq]
   refine ⟨hin,?_⟩
   rintro r4 rfl
   have e1:(r09_Get (xs.getD (Cf.info ⟨t,p,sh⟩ i).toNat 0)).1=(aInfo ⟨t,p,sh⟩ xs i).k:=g1
   have e2:(r09_Get (xs.getD (Cf.info ⟨t,p,sh⟩ i).toNat 0)).2.1=(aInfo ⟨t,p,sh⟩ xs i).l:=g2
   have e3:(r09_Get (xs.getD (Cf.info ⟨t,p,sh⟩ i).toNat 0)).2.2.2=infoOk (cel xs (Cf.info ⟨t,p,sh⟩ i)):=g3
   rw [e1,e2,e3]
   refine ⟨fun hc=>?_,fun hc=>?_⟩
   ·rw [hc] at hr;exact hr
   ·rw [hc,cond_false] at hr
    simp only [Bool.or_eq_false_iff,Bool.not_eq_false'] at hc
    have hl:1≤(aInfo ⟨t,p,sh⟩ xs i).l:=iGet_len hc.1 hc.2
    have hl2:(aInfo ⟨t,p,sh⟩ xs i).l≤1024:=(iGet_bd _).2.2.2.1
    rw [hw _ (by omega) hl2]
    refine ⟨by omega,⟨by omega,by simp [h1],by simp;omega,by omega,f',by omega,hr⟩,lxo_⟩
  exact ⟨fun r1 q1=>⟨(key r1 q1).1,fun _=>⟨fun r3 q3=>⟨((key r1 q1).2 r3 q3).1,fun hc=>⟨(((key r1 q1).2 r3 q3).2 hc).1,fun _=>(((key r1 q1).2 r3 q3).2 hc).2⟩⟩,fun r4 q4=>⟨((key r1 q1).2 r4 q4).1,fun hc=>⟨(((key r1 q1).2 r4 q4).2 hc).1,fun _=>(((key r1 q1).2 r4 q4).2 hc).2⟩⟩⟩⟩,fun r2 q2=>⟨(key r2 q2).1,fun _ r4 q4=>⟨((key r2 q2).2 r4 q4).1,fun hc=>⟨(((key r2 q2).2 r4 q4).2 hc).1,fun _=>(((key r2 q2).2 r4 q4).2 hc).2⟩⟩⟩⟩
 ·have hd:decide (i<p)=false:=h
  show (out,i==p)=r_
  rw [←hr]
  cases f with
  |zero=>rfl
  |succ f=>simp only [startsF,hd,cond_false]
theorem x_starts_ok:EOk 173 e_x_starts:=
 ent_wp Dg T_x_Taken_ok (I:=[363000000005,363000000004,363000000001]) Tryz.func173 mix (B:=bodyOf Tryz.f173) (by kernel_rfl) rfl (by kernel_rfl) 400
  fun p0 t p sh xs hb hp=>have hl0:xs.length≤9223372036854775807:=hb.1.2.2.2.1;have hp0:AGood ⟨t,p,sh⟩ xs:=hp _ (.head _);⟨[x_starts_h0 p0 t p sh xs],fun j=>List.getD [appC (Hd.kd (x_starts_h0 p0 t p sh xs)) (fun i' n1' out'=>x_starts_I0 t p sh xs i' n1' out' (x_starts t p sh xs))] j (fun _=>False),fun j=>List.getD [appC (Hd.kd (x_starts_h0 p0 t p sh xs)) (fun i' n1' out'=>((p+1025-i').toNat,0,0))] j (fun _=>(0,0,0)),by kernel_rfl,⟨_,fun _ _ _=>by kernel_rfl,x_starts_begin t p sh xs hp0 hl0⟩,⟨fun i n1 out hI=>⟨_,fun _ _ _=>by kernel_rfl,x_starts_step0 t p sh xs hp0 hl0 i n1 out hI⟩,trivial⟩⟩
def T_x_starts:Tb:=(173,e_x_starts)::T_x_Taken
theorem T_x_starts_ok:TOk T_x_starts:=tc_ x_starts_ok T_x_Taken_ok
end Go.Proofs.YtjfabjhlkpgckaaGreat
namespace Go.Proofs.YtjfabjhlkpgckaaGreat
open Go.Sl
theorem startsF_in {c:Cf} {xs:LI}:∀(f:Nat) (a:Int) (out:LI),0≤a→(∀x∈out,0≤x∧x<c.p)→∀x∈(startsF c xs f a out).1,0≤x∧x<c.p
 |0,_,out,_,h,x,hx=>h x hx
 |f+1,a,out,ha,h,x,hx=>by
  simp only [startsF] at hx
  cases hd:decide (a<c.p) with
  |false=>rw [hd] at hx;exact h x hx
  |true=>
   rw [hd,cond_true] at hx
   cases hc:(!infoOk (cel xs (c.info a))||(aInfo c xs a).k==0) with
   |true=>rw [hc] at hx;cases hx
   |false=>
    rw [hc,cond_false] at hx
    have hl:=(iGet_bd (cel xs (c.info a))).2.2.1
    have hl':0≤(aInfo c xs a).l:=hl
    refine startsF_in f _ _ (by omega) (fun y hy=>?_) x hx
    rcases List.mem_append.1 hy with hy|hy
    ·exact h y hy
    ·rw [List.mem_singleton.1 hy];exact ⟨ha,by simpa using hd⟩
theorem starts_in {c:Cf} {xs:LI}:∀x∈(starts c xs).1,0≤x∧x<c.p:=startsF_in _ _ _ (Int.le_refl 0) fun x hx=>by cases hx
theorem startsF_ne {c:Cf} {xs:LI}:∀(f:Nat) (a:Int) (out:LI),out≠[]→(startsF c xs f a out).2=true→(startsF c xs f a out).1≠[]
 |0,_,out,h,_=>h
 |f+1,a,out,h,ht=>by
  simp only [startsF] at ht ⊢
  cases hd:decide (a<c.p) with
  |false=>exact h
  |true=>
   rw [hd,cond_true] at ht
   rw [cond_true]
   cases hc:(!infoOk (cel xs (c.info a))||(aInfo c xs a).k==0) with
   |true=>rw [hc] at ht;cases ht
   |false=>
    rw [hc,cond_false] at ht
    exact startsF_ne f _ _ (by simp) ht
theorem starts_ne {c:Cf} {xs:LI} (hp:1≤c.p) (h:(starts c xs).2=true):1≤(starts c xs).1.length:=by
 have hd:decide ((0:Int)<c.p)=true:=by simp;omega
 have:(starts c xs).1≠[]:=by
  unfold starts at h ⊢
  simp only [startsF,hd,cond_true] at h ⊢
  cases hc:(!infoOk (cel xs (c.info 0))||(aInfo c xs 0).k==0) with
  |true=>rw [hc] at h;cases h
  |false=>
   rw [hc,cond_false] at h
   exact startsF_ne _ _ _ (by simp) h
 rcases hl:(starts c xs).1 with _|⟨x,r⟩
 ·exact absurd hl this
 ·simp
theorem startsF_len {c:Cf} {xs:LI}:∀(f:Nat) (a:Int) (out:LI),(startsF c xs f a out).1.length≤out.length+f
 |0,_,out=>Nat.le_refl _
 |f+1,a,out=>by
  simp only [startsF]
  cases decide (a<c.p) with
  |false=>simp only [cond_false];omega
  |true=>
   simp only [cond_true]
   cases (!infoOk (cel xs (c.info a))||(aInfo c xs a).k==0) with
   |true=>simp only [cond_true,List.length_nil];omega
   |false=>
    simp only [cond_false]
    have:=startsF_len (c:=c) (xs:=xs) f (a+(aInfo c xs a).l) (out++[a])
    simp only [List.length_append,List.length_singleton] at this
    omega
theorem starts_len {c:Cf} {xs:LI}:(starts c xs).1.length≤c.p.toNat+1:=by
 have:=startsF_len (c:=c) (xs:=xs) (c.p.toNat+1) 0 []
 unfold starts
 simpa using this
theorem getD_memA {l:LI} {j:Nat} (h:j<l.length):l.getD j 0∈l:=by
 rw [List.getD_eq_getElem?_getD,List.getElem?_eq_getElem h];exact List.getElem_mem h
def x_tiles (t p sh:Int) (xs:LI):Bool:=tiles ⟨t,p,sh⟩ xs
abbrev c_x_tiles:Ct Sg:=⟨none,false,[.agg [.i .i64, .i .i64, .i .i64, .ro [some .u32]]], .b⟩
def e_x_tiles:Entry Sg:=entC c_x_tiles x_tiles (fun t p sh xs=>[AGood ⟨t,p,sh⟩ xs])
def x_tiles_w (t p sh:Int) (xs:LI) (Q0:Int→Int→Nat→LI→Prop) (R_:Bool→Prop):Prop:=(∀r1:LI×Bool,r1=(x_starts t p sh xs)→(aw_ (AGood {t:=t,p:=p,s:=sh} xs) (bw_ (!r1.2) (R_ (false)) (Q0 (0) (0) (List.length r1.1) r1.1))))
def x_tiles_w0 (t p sh:Int) (xs:LI) (i n:Int) (n1:Nat) (ls:LI) (Q0:Int→Int→Nat→LI→Prop) (R_:Bool→Prop):Prop:=(bw_ (decide (i<p)) (aw_ (decide (n<(↑n1:Int))=true→0≤n∧n<(↑n1:Int)) (bw_ (decide (n<(↑n1:Int))&&List.getD ls (Int.toNat n) 0==i) (Q0 (IntKind.wrap IntKind.i64 (i+1)) (IntKind.wrap IntKind.i64 (n+1)) (n1) (ls)) (aw_ (0≤r07_Info t p sh i∧r07_Info t p sh i<(↑(List.length xs):Int)) (bw_ (List.getD xs (Int.toNat (r07_Info t p sh i)) (0:Int) !=0) (R_ (false)) (Q0 (IntKind.wrap IntKind.i64 (i+1)) (n) (n1) (ls)))))) (R_ (true)))
def x_tiles_I0 (t p sh:Int) (xs:LI) (i n:Int) (n1:Nat) (ls:LI) (r_:Bool):Prop:=0≤i∧i≤p∧0≤n∧n≤i∧n1=ls.length∧tilesF ⟨t,p,sh⟩ xs ls (p-i).toNat n.toNat=r_
abbrev x_tiles_h0 (p0:Addr) (t p sh:Int) (xs:LI):Hd Sg:=⟨none,[0,1,0,1,1,1,1],[.blk 0, .code [1,1,1,1,1]],[6,5,3,1],[.i .i64, .i .i64, .own 3 [some .i64], .box 102 [.ic .i64 (t), .ic .i64 (p), .ic .i64 (sh), .roc [.ints .u32 (xs)]]]⟩
theorem x_tiles_begin (t p sh:Int) (xs:LI) (hp0:AGood ⟨t,p,sh⟩ xs) (hl0:xs.length≤9223372036854775807):x_tiles_w t p sh xs (fun i' n' n1' ls'=>x_tiles_I0 t p sh xs i' n' n1' ls' (x_tiles t p sh xs)) (fun r__=>r__=(x_tiles t p sh xs)):=by
 unfold x_tiles_w
 try unfold x_tiles_I0
 have hok:=Cf.ok_iff.1 hp0.ok
 simp only at hok
 rintro r1 rfl
 refine ⟨hp0,fun _=>⟨fun hc=>?_,fun hc=>?_⟩⟩
 ·have e:(starts ⟨t,p,sh⟩ xs).2=false:=by simpa [x_starts] using hc
  show false=tiles ⟨t,p,sh⟩ xs
  unfold tiles
  rw [e];rfl
 ·have e:(starts ⟨t,p,sh⟩ xs).2=true:=by simpa [x_starts] using hc
  refine ⟨by omega,by omega,by omega,by omega,rfl,?_⟩
  show _=tiles ⟨t,p,sh⟩ xs
  unfold tiles
  rw [e,cond_true,show (p-0).toNat=p.toNat by omega]
  rfl
theorem x_tiles_step0 (t p sh:Int) (xs:LI) (hp0:AGood ⟨t,p,sh⟩ xs) (hl0:xs.length≤9223372036854775807) (i n:Int) (n1:Nat) (ls:LI) {r_:Bool} (hI:x_tiles_I0 t p sh xs i n n1 ls r_):x_tiles_w0 t p sh xs i n n1 ls (fun i' n' n1' ls'=>x_tiles_I0 t p sh xs i' n' n1' ls' r_∧lx ((p-i').toNat,0,0) ((p-i).toNat,0,0)) (fun r__=>r__=r_):=by
 unfold x_tiles_I0 at hI
 unfold x_tiles_w0
 try unfold x_tiles_I0
 obtain ⟨h0,h1,h2,h3,h4,hr⟩:=hI
 have hok:=Cf.ok_iff.1 hp0.ok
 simp only at hok
 refine ⟨fun h=>?_,fun h=>?_⟩
 ·simp only [decide_eq_true_eq] at h
  have hin:=pc_in hp0 (g:=i) (k:=0) ⟨h0,h⟩ (by omega)
  have e:(p-i).toNat=(p-(i+1)).toNat+1:=by omega
  have ei:(p:Int)-(((p-(i+1)).toNat+1:Nat):Int)=i:=by omega
  have hb:decide (n<(n1:Int))=decide (n.toNat<ls.length):=by rw [h4];apply decide_eq_decide.2;omega
  rw [e] at hr
  simp only [tilesF] at hr
  rw [ei] at hr
  rw [w64 (n:=i+1) (by omega),w64 (n:=n+1) (by omega),r07_Info_eq,hb]
  refine ⟨fun hh=>(by simp only [decide_eq_true_eq] at hh;omega),fun _=>⟨fun hc=>?_,fun hc=>?_⟩⟩
  ·rw [hc,cond_true] at hr
   refine ⟨⟨by omega,by omega,by omega,by omega,h4,?_⟩,lxo_⟩
   rw [show (n+1).toNat=n.toNat+1 by omega];exact hr
  ·rw [hc,cond_false] at hr
   refine ⟨hin,fun _=>⟨fun hz=>?_,fun hz=>?_⟩⟩
   ·have hz':(cel xs (Cf.info ⟨t,p,sh⟩ i) !=0)=true:=hz
    rw [hz',cond_true] at hr;exact hr
   ·have hz':(cel xs (Cf.info ⟨t,p,sh⟩ i) !=0)=false:=hz
    rw [hz',cond_false] at hr
    exact ⟨⟨by omega,by omega,h2,by omega,h4,hr⟩,lxo_⟩
 ·simp only [decide_eq_false_iff_not] at h
  rw [show (p-i).toNat=0 by omega] at hr
  exact hr
theorem x_tiles_ok:EOk 147 e_x_tiles:=
 ent_wp Dg T_x_starts_ok (I:=[6571000000006,6571000000005,6571000000003,6571000000001]) Tryz.func147 mix (B:=bodyOf Tryz.f147) (by kernel_rfl) rfl (by kernel_rfl) 400
  fun p0 t p sh xs hb hp=>have hl0:xs.length≤9223372036854775807:=hb.1.2.2.2.1;have hp0:AGood ⟨t,p,sh⟩ xs:=hp _ (.head _);⟨[x_tiles_h0 p0 t p sh xs],fun j=>List.getD [appC (Hd.kd (x_tiles_h0 p0 t p sh xs)) (fun i' n' n1' ls'=>x_tiles_I0 t p sh xs i' n' n1' ls' (x_tiles t p sh xs))] j (fun _=>False),fun j=>List.getD [appC (Hd.kd (x_tiles_h0 p0 t p sh xs)) (fun i' n' n1' ls'=>((p-i').toNat,0,0))] j (fun _=>(0,0,0)),by kernel_rfl,⟨_,fun _ _ _=>by kernel_rfl,x_tiles_begin t p sh xs hp0 hl0⟩,⟨fun i n n1 ls hI=>⟨_,fun _ _ _=>by kernel_rfl,x_tiles_step0 t p sh xs hp0 hl0 i n n1 ls hI⟩,trivial⟩⟩
def T_x_tiles:Tb:=(147,e_x_tiles)::T_x_starts
theorem T_x_tiles_ok:TOk T_x_tiles:=tc_ x_tiles_ok T_x_starts_ok
def x_apart (t p sh:Int) (xs:LI):Bool:=apart ⟨t,p,sh⟩ xs
abbrev c_x_apart:Ct Sg:=⟨none,false,[.agg [.i .i64, .i .i64, .i .i64, .ro [some .u32]]], .b⟩
def e_x_apart:Entry Sg:=entC c_x_apart x_apart (fun t p sh xs=>[AGood ⟨t,p,sh⟩ xs])
def x_apart_w (t p sh:Int) (xs:LI) (Q0:Int→Nat→LI→Prop) (R_:Bool→Prop):Prop:=(∀r1:LI×Bool,r1=(x_starts t p sh xs)→(aw_ (AGood {t:=t,p:=p,s:=sh} xs) (Q0 (1) (List.length r1.1) r1.1)))
def x_apart_w0 (t p sh:Int) (xs:LI) (n:Int) (n1:Nat) (ls:LI) (Q0:Int→Nat→LI→Prop) (R_:Bool→Prop):Prop:=(bw_ (decide (n<(↑n1:Int))) (aw_ (0≤n∧n<(↑n1:Int)) (aw_ (AGood {t:=t,p:=p,s:=sh} xs) (aw_ (0≤List.getD ls (Int.toNat n) 0∧List.getD ls (Int.toNat n) 0<p) (aw_ ((Prod.fst (x_Info t p sh xs (List.getD ls (Int.toNat n) 0))==1)=true→0≤IntKind.wrap IntKind.i64 (n-1)∧IntKind.wrap IntKind.i64 (n-1)<(↑n1:Int)) (aw_ ((Prod.fst (x_Info t p sh xs (List.getD ls (Int.toNat n) 0))==1)=true→AGood {t:=t,p:=p,s:=sh} xs) (aw_ ((Prod.fst (x_Info t p sh xs (List.getD ls (Int.toNat n) 0))==1)=true→0≤List.getD ls (Int.toNat (IntKind.wrap IntKind.i64 (n-1))) 0∧List.getD ls (Int.toNat (IntKind.wrap IntKind.i64 (n-1))) 0<p) (bw_ (Prod.fst (x_Info t p sh xs (List.getD ls (Int.toNat n) 0))==1&&Prod.fst (x_Info t p sh xs (List.getD ls (Int.toNat (IntKind.wrap IntKind.i64 (n-1))) 0))==1) (R_ (false)) (Q0 (IntKind.wrap IntKind.i64 (n+1)) (n1) (ls))))))))) (R_ (true)))
def x_apart_I0 (t p sh:Int) (xs:LI) (n:Int) (n1:Nat) (ls:LI) (r_:Bool):Prop:=1≤n∧(n≤ls.length∨n=1)∧n1=ls.length∧ls=(starts ⟨t,p,sh⟩ xs).1∧apartF ⟨t,p,sh⟩ xs ls (ls.length-n).toNat=r_
abbrev x_apart_h0 (p0:Addr) (t p sh:Int) (xs:LI):Hd Sg:=⟨none,[0,1,0,1,1],[.blk 0, .code [1,1,1]],[5,3,1],[.i .i64, .own 3 [some .i64], .box 102 [.ic .i64 (t), .ic .i64 (p), .ic .i64 (sh), .roc [.ints .u32 (xs)]]]⟩
theorem x_apart_begin (t p sh:Int) (xs:LI) (hp0:AGood ⟨t,p,sh⟩ xs) (hl0:xs.length≤9223372036854775807):x_apart_w t p sh xs (fun n' n1' ls'=>x_apart_I0 t p sh xs n' n1' ls' (x_apart t p sh xs)) (fun r__=>r__=(x_apart t p sh xs)):=by
 unfold x_apart_w
 try unfold x_apart_I0
 rintro r1 rfl
 refine ⟨hp0,fun _=>⟨by omega, .inr rfl,rfl,rfl,?_⟩⟩
 show apartF ⟨t,p,sh⟩ xs (starts ⟨t,p,sh⟩ xs).1 (((starts ⟨t,p,sh⟩ xs).1.length:Int)-1).toNat=apart ⟨t,p,sh⟩ xs
 unfold apart
 congr 1
 omega
theorem x_apart_step0 (t p sh:Int) (xs:LI) (hp0:AGood ⟨t,p,sh⟩ xs) (hl0:xs.length≤9223372036854775807) (n:Int) (n1:Nat) (ls:LI) {r_:Bool} (hI:x_apart_I0 t p sh xs n n1 ls r_):x_apart_w0 t p sh xs n n1 ls (fun n' n1' ls'=>x_apart_I0 t p sh xs n' n1' ls' r_∧lx ((ls'.length-n').toNat,0,0) ((ls.length-n).toNat,0,0)) (fun r__=>r__=r_):=by
 unfold x_apart_I0 at hI
 unfold x_apart_w0
 try unfold x_apart_I0
 obtain ⟨h0,h1,h4,h5,hr⟩:=hI
 have hok:=Cf.ok_iff.1 hp0.ok
 simp only at hok
 refine ⟨fun h=>?_,fun h=>?_⟩
 ·simp only [decide_eq_true_eq] at h
  have hn:n<(ls.length:Int):=by omega
  have hm:=starts_in (c:=⟨t,p,sh⟩) (xs:=xs) (ls.getD n.toNat 0) (by rw [←h5];exact getD_memA (by omega))
  have hm':=starts_in (c:=⟨t,p,sh⟩) (xs:=xs) (ls.getD (n-1).toNat 0) (by rw [←h5];exact getD_memA (by omega))
  have hbig:n<9223372036854775807:=by
   have hl:=starts_len (c:=⟨t,p,sh⟩) (xs:=xs)
   rw [←h5] at hl
   simp only at hl
   omega
  obtain ⟨m,hm2⟩:∃m:Nat,(ls.length-n).toNat=m+1:=⟨(ls.length-n).toNat-1,by omega⟩
  rw [hm2] at hr
  simp only [apartF] at hr
  rw [show ls.length-(m+1)=n.toNat by omega,show n.toNat-1=(n-1).toNat by omega] at hr
  rw [w64 (n:=n-1) (by omega),w64 (n:=n+1) (by omega)]
  refine ⟨⟨by omega,h⟩,fun _=>⟨hp0,fun _=>⟨hm,fun _=>⟨fun _=>by omega,fun _=>⟨fun _=>hp0,fun _=>⟨fun _=>hm',fun _=>⟨fun hc=>?_,fun hc=>?_⟩⟩⟩⟩⟩⟩⟩
  ·simp only [x_Info] at hc;rw [hc,cond_true] at hr;exact hr.symm▸rfl
  ·simp only [x_Info] at hc;rw [hc,cond_false] at hr
   refine ⟨⟨by omega,by omega,h4,h5,?_⟩,lxo_⟩
   rw [show (ls.length-(n+1)).toNat=m by omega];exact hr
 ·simp only [decide_eq_false_iff_not] at h
  rw [show (ls.length-n).toNat=0 by omega] at hr
  exact hr
theorem x_apart_ok:EOk 149 e_x_apart:=
 ent_wp Dg T_x_tiles_ok (I:=[411000000005,411000000003,411000000001]) Tryz.func149 mix (B:=bodyOf Tryz.f149) (by kernel_rfl) rfl (by kernel_rfl) 400
  fun p0 t p sh xs hb hp=>have hl0:xs.length≤9223372036854775807:=hb.1.2.2.2.1;have hp0:AGood ⟨t,p,sh⟩ xs:=hp _ (.head _);⟨[x_apart_h0 p0 t p sh xs],fun j=>List.getD [appC (Hd.kd (x_apart_h0 p0 t p sh xs)) (fun n' n1' ls'=>x_apart_I0 t p sh xs n' n1' ls' (x_apart t p sh xs))] j (fun _=>False),fun j=>List.getD [appC (Hd.kd (x_apart_h0 p0 t p sh xs)) (fun n' n1' ls'=>((ls'.length-n').toNat,0,0))] j (fun _=>(0,0,0)),by kernel_rfl,⟨_,fun _ _ _=>by kernel_rfl,x_apart_begin t p sh xs hp0 hl0⟩,⟨fun n n1 ls hI=>⟨_,fun _ _ _=>by kernel_rfl,x_apart_step0 t p sh xs hp0 hl0 n n1 ls hI⟩,trivial⟩⟩
def T_x_apart:Tb:=(149,e_x_apart)::T_x_tiles
theorem T_x_apart_ok:TOk T_x_apart:=tc_ x_apart_ok T_x_tiles_ok
def r12_in (ls:LI) (g:Int):Int:=inA ls g
abbrev c_r12_in:Ct Sg:=⟨none,false,[.ro [some .i64], .i .i64], .i .i64⟩
def e_r12_in:Entry Sg:=entC c_r12_in r12_in (fun _ _=>[])
def r12_in_w (ls:LI) (g:Int) (Q0:Int→Int→Prop) (R_:Int→Prop):Prop:=(Q0 (0) (0))
def r12_in_w0 (ls:LI) (g i m:Int) (Q0:Int→Int→Prop) (R_:Int→Prop):Prop:=(bw_ (decide (i<(↑(List.length ls):Int))) (aw_ (0≤i∧i<(↑(List.length ls):Int)) (bw_ (List.getD ls (Int.toNat i) 0==g) (Q0 (IntKind.wrap IntKind.i64 (i+1)) (IntKind.wrap IntKind.i64 (m+1))) (Q0 (IntKind.wrap IntKind.i64 (i+1)) (m)))) (R_ (m)))
def r12_in_I0 (ls:LI) (g i m r_:Int):Prop:=0≤i∧i≤ls.length∧m=inA (ls.take i.toNat) g∧ls.length≤9223372036854775807∧r_=inA ls g
abbrev r12_in_h0 (p0:Addr) (ls:LI) (g:Int):Hd Sg:=⟨none,[0,1,0,1,1],[.blk 0, .code [1,1,1]],[6,5,0,1],[.i .i64, .i .i64, .roc [.ints .i64 (ls)], .ic .i64 (g)]⟩
theorem r12_in_begin (ls:LI) (g:Int) (hl0:ls.length≤9223372036854775807):r12_in_w ls g (fun i' m'=>r12_in_I0 ls g i' m' (r12_in ls g)) (fun r__=>r__=(r12_in ls g)):=by
 unfold r12_in_w
 try unfold r12_in_I0
 exact ⟨by omega,by omega,by simp [inA],hl0,rfl⟩
theorem r12_in_step0 (ls:LI) (g:Int) (hl0:ls.length≤9223372036854775807) (i m:Int) {r_:Int} (hI:r12_in_I0 ls g i m r_):r12_in_w0 ls g i m (fun i' m'=>r12_in_I0 ls g i' m' r_∧lx ((ls.length-i').toNat,0,0) ((ls.length-i).toNat,0,0)) (fun r__=>r__=r_):=by
 unfold r12_in_I0 at hI
 unfold r12_in_w0
 try unfold r12_in_I0
 obtain ⟨h0,h1,h2,h3,hr⟩:=hI
 refine ⟨fun h=>?_,fun h=>?_⟩
 ·simp only [decide_eq_true_eq] at h
  have ht:ls.take (i+1).toNat=ls.take i.toNat++[ls.getD i.toNat 0]:=by
   rw [show (i+1).toNat=i.toNat+1 by omega,List.take_add_one,List.getD_eq_getElem?_getD,List.getElem?_eq_getElem (by omega)];rfl
  have hle:0≤m∧m≤i:=by
   rw [h2];unfold inA
   have:=List.length_filter_le (· ==g) (ls.take i.toNat)
   rw [List.length_take] at this
   omega
  rw [w64 (n:=i+1) (by omega),w64 (n:=m+1) (by omega)]
  refine ⟨⟨h0,h⟩,fun _=>⟨fun hc=>?_,fun hc=>?_⟩⟩
  ·refine ⟨⟨by omega,by omega,?_,h3,hr⟩,lxo_⟩
   rw [ht,h2]
   generalize ls.getD i.toNat 0=q at hc
   unfold inA
   rw [List.filter_append,List.length_append]
   simp only [beq_iff_eq,beq_eq_false_iff_ne] at hc
   simp [List.filter_cons,hc]
  ·refine ⟨⟨by omega,by omega,?_,h3,hr⟩,lxo_⟩
   rw [ht,h2]
   generalize ls.getD i.toNat 0=q at hc
   unfold inA
   rw [List.filter_append,List.length_append]
   simp only [beq_iff_eq,beq_eq_false_iff_ne] at hc
   simp [List.filter_cons,hc]
 ·simp only [decide_eq_false_iff_not] at h
  show m=r_
  rw [hr,h2,List.take_of_length_le (by omega)]
theorem r12_in_ok:EOk 177 e_r12_in:=
 ent_wp Dg T_x_apart_ok (I:=[411000000006,411000000005,411000000000,411000000001]) Tryz.func177 mix (B:=bodyOf Tryz.f177) (by kernel_rfl) rfl (by kernel_rfl) 400
  fun p0 ls g hb hp=>have hl0:ls.length≤9223372036854775807:=hb.1;⟨[r12_in_h0 p0 ls g],fun j=>List.getD [appC (Hd.kd (r12_in_h0 p0 ls g)) (fun i' m'=>r12_in_I0 ls g i' m' (r12_in ls g))] j (fun _=>False),fun j=>List.getD [appC (Hd.kd (r12_in_h0 p0 ls g)) (fun i' m'=>((ls.length-i').toNat,0,0))] j (fun _=>(0,0,0)),by kernel_rfl,⟨_,fun _ _ _=>by kernel_rfl,r12_in_begin ls g hl0⟩,⟨fun i m hI=>⟨_,fun _ _ _=>by kernel_rfl,r12_in_step0 ls g hl0 i m hI⟩,trivial⟩⟩
def T_r12_in:Tb:=(177,e_r12_in)::T_x_apart
theorem T_r12_in_ok:TOk T_r12_in:=tc_ r12_in_ok T_x_apart_ok
end Go.Proofs.YtjfabjhlkpgckaaGreat
namespace Go.Proofs.YtjfabjhlkpgckaaGreat
open Go.Sl
theorem r05_Slots_eq (k:Int):r05_Slots k=kSlots k:=by
 by_cases h:0≤k∧k≤8
 ·rcases (by omega:k=0∨k=1∨k=2∨k=3∨k=4∨k=5∨k=6∨k=7∨k=8) with rfl|rfl|rfl|rfl|rfl|rfl|rfl|rfl|rfl<;>rfl
 ·have e:∀j:Int,0≤j→j≤8→(k==j)=false:=fun j h0 h1=>by simp;omega
  have e1:r05_Slots k=0:=by
   unfold r05_Slots
   simp only [e 0 (by omega) (by omega),e 1 (by omega) (by omega),e 2 (by omega) (by omega),e 3 (by omega) (by omega),e 4 (by omega) (by omega),e 5 (by omega) (by omega),e 6 (by omega) (by omega),e 7 (by omega) (by omega),e 8 (by omega) (by omega),cond_false]
  rw [e1]
  unfold kSlots
  by_cases h0:0≤k
  ·have:decide (0≤k)=true:=by simpa using h0
   rw [this,cond_true,List.getD_eq_getElem?_getD,List.getElem?_eq_none (by simp;omega)];rfl
  ·have:decide (0≤k)=false:=by simpa using h0
   rw [this];rfl
theorem bit_eq {v:Int} (hv:bd32 v) (i:Int):r01_Bit v i=bitAt v i:=by
 unfold r01_Bit bitAt
 by_cases h:0≤i∧i<32
 ·have e1:decide (i≥0)=true:=by simp;omega
  have e2:decide (i<32)=true:=by simp;omega
  rw [e1,e2]
  have ew:IntKind.wrap IntKind.u64 i=i:=by rw [IntKind.wrap_u64];omega
  have em:min i.toNat 32=i.toNat:=by omega
  have hp:(0:Int)≤2^i.toNat:=Int.le_of_lt (Int.pow_pos (by omega))
  rw [ew,em,Int.fdiv_eq_ediv_of_nonneg _ hp,Int.tmod_eq_emod_of_nonneg (Int.ediv_nonneg hv.1 hp)]
 ·have:(decide (i≥0)&&decide (i<32))=false:=by simp;omega
  rw [this,Bool.false_and,Bool.false_and]
def r01_Ones (v:Int):Int:=ones v
abbrev c_r01_Ones:Ct Sg:=⟨none,false,[.i .u32], .i .i64⟩
def e_r01_Ones:Entry Sg:=entC c_r01_Ones r01_Ones (fun v=>[bd32 v])
def r01_Ones_w (v:Int) (Q0:Int→Int→Prop) (R_:Int→Prop):Prop:=(Q0 (0) (0))
def r01_Ones_w0 (v i m:Int) (Q0:Int→Int→Prop) (R_:Int→Prop):Prop:=(bw_ (decide (i<32)) (bw_ (r01_Bit v i) (Q0 (IntKind.wrap IntKind.i64 (i+1)) (IntKind.wrap IntKind.i64 (m+1))) (Q0 (IntKind.wrap IntKind.i64 (i+1)) (m))) (R_ (m)))
def r01_Ones_I0 (v i m r_:Int):Prop:=0≤i∧i≤32∧0≤m∧m≤i∧m=onesF v i.toNat∧r_=ones v
abbrev r01_Ones_h0 (p0:Addr) (v:Int):Hd Sg:=⟨none,[0,1,0,1,1],[.blk 0, .code [1,1,1]],[4,3,0],[.i .i64, .i .i64, .ic .u32 (v)]⟩
theorem r01_Ones_begin (v:Int) (hp0:bd32 v):r01_Ones_w v (fun i' m'=>r01_Ones_I0 v i' m' (r01_Ones v)) (fun r__=>r__=(r01_Ones v)):=by
 unfold r01_Ones_w
 try unfold r01_Ones_I0
 exact ⟨by omega,by omega,by omega,by omega,rfl,rfl⟩
theorem r01_Ones_step0 (v:Int) (hp0:bd32 v) (i m:Int) {r_:Int} (hI:r01_Ones_I0 v i m r_):r01_Ones_w0 v i m (fun i' m'=>r01_Ones_I0 v i' m' r_∧lx ((32-i').toNat,0,0) ((32-i).toNat,0,0)) (fun r__=>r__=r_):=by
 unfold r01_Ones_I0 at hI
 unfold r01_Ones_w0
 try unfold r01_Ones_I0
 obtain ⟨h0,h1,h2,h3,h4,hr⟩:=hI
 refine ⟨fun h=>?_,fun h=>?_⟩
 ·simp only [decide_eq_true_eq] at h
  have e:(i+1).toNat=i.toNat+1:=by omega
  have ei:((i.toNat:Nat):Int)=i:=by omega
  rw [w64 (n:=i+1) (by omega),w64 (n:=m+1) (by omega),bit_eq hp0]
  refine ⟨fun hb=>?_,fun hb=>?_⟩
  ·exact ⟨⟨by omega,by omega,by omega,by omega,by rw [e,onesF,ei,hb,←h4];rfl,hr⟩,lxo_⟩
  ·exact ⟨⟨by omega,by omega,by omega,by omega,by rw [e,onesF,ei,hb,←h4];simp,hr⟩,lxo_⟩
 ·simp only [decide_eq_false_iff_not] at h
  have e:i.toNat=32:=by omega
  rw [e] at h4
  rw [hr];exact h4
theorem r01_Ones_ok:EOk 130 e_r01_Ones:=
 ent_wp Dg T_r12_in_ok (I:=[411000000004,411000000003,411000000000]) Tryz.func130 mix (B:=bodyOf Tryz.f130) (by kernel_rfl) rfl (by kernel_rfl) 400
  fun p0 v hb hp=>have hp0:bd32 v:=hp _ (.head _);⟨[r01_Ones_h0 p0 v],fun j=>List.getD [appC (Hd.kd (r01_Ones_h0 p0 v)) (fun i' m'=>r01_Ones_I0 v i' m' (r01_Ones v))] j (fun _=>False),fun j=>List.getD [appC (Hd.kd (r01_Ones_h0 p0 v)) (fun i' m'=>((32-i').toNat,0,0))] j (fun _=>(0,0,0)),by kernel_rfl,⟨_,fun _ _ _=>by kernel_rfl,r01_Ones_begin v hp0⟩,⟨fun i m hI=>⟨_,fun _ _ _=>by kernel_rfl,r01_Ones_step0 v hp0 i m hI⟩,trivial⟩⟩
def T_r01_Ones:Tb:=(130,e_r01_Ones)::T_r12_in
theorem T_r01_Ones_ok:TOk T_r01_Ones:=tc_ r01_Ones_ok T_r12_in_ok
def r12_Full (v k:Int):Bool:=r01_Ones v==r05_Slots k
abbrev c_r12_Full:Ct Sg:=⟨none,false,[.i .u32, .i .i64], .b⟩
def e_r12_Full:Entry Sg:=entC c_r12_Full r12_Full (fun v k=>[bd32 v])
theorem r12_Full_ok:EOk 88 e_r12_Full:=
 ent_ok Dg T_r01_Ones_ok (I:=[]) Tryz.func88 mix (B:=bodyOf Tryz.f88) (by kernel_rfl) rfl (by kernel_rfl) 400
  fun _ v k hb hp=>have hp0:bd32 v:=hp _ (.head _);⟨(r12_Full v k),(.need (bd32 v) .t),fun _ _ _=>by kernel_rfl,⟨(by exact hp0),fun z0=>trivial⟩,rfl⟩
def T_r12_Full:Tb:=(88,e_r12_Full)::T_r01_Ones
theorem T_r12_Full_ok:TOk T_r12_Full:=tc_ r12_Full_ok T_r01_Ones_ok
def x_List (t p sh:Int) (xs:LI) (hd:Int):LI×Bool:=listA ⟨t,p,sh⟩ xs hd
abbrev c_x_List:Ct Sg:=⟨none,false,[.agg [.i .i64, .i .i64, .i .i64, .ro [some .u32]], .i .i64], .tup [.new 3 [some .i64], .b]⟩
def e_x_List:Entry Sg:=entC c_x_List x_List (fun t p sh xs hd=>[AGood ⟨t,p,sh⟩ xs,0≤hd∧hd<xs.length])
def x_List_w (t p sh:Int) (xs:LI) (hd:Int) (Q0:Int→Int→Nat→LI→Prop) (R_:LI×Bool→Prop):Prop:=(aw_ (0≤hd∧hd<(↑(List.length xs):Int)) (Q0 (0) (List.getD xs (Int.toNat hd) 0) (0) ([])))
def x_List_w0 (t p sh:Int) (xs:LI) (hd ah q:Int) (n1:Nat) (out:LI) (Q0:Int→Int→Nat→LI→Prop) (R_:LI×Bool→Prop):Prop:=(bw_ (q !=0) (bw_ (decide (IntKind.wrap IntKind.i64 q>p)||decide ((↑n1:Int)≥p)) (R_ ((out,false))) (aw_ (0≤r07_Prev t p sh (IntKind.wrap IntKind.i64 (IntKind.wrap IntKind.i64 q-1))∧r07_Prev t p sh (IntKind.wrap IntKind.i64 (IntKind.wrap IntKind.i64 q-1))<(↑(List.length xs):Int)) (bw_ (List.getD xs (Int.toNat (r07_Prev t p sh (IntKind.wrap IntKind.i64 (IntKind.wrap IntKind.i64 q-1)))) 0 !=ah) (R_ ((out,false))) (aw_ ((n1+1)*8≤140737488355328) (aw_ (0≤r07_Next t p sh (IntKind.wrap IntKind.i64 (IntKind.wrap IntKind.i64 q-1))∧r07_Next t p sh (IntKind.wrap IntKind.i64 (IntKind.wrap IntKind.i64 q-1))<(↑(List.length xs):Int)) (Q0 (q) (List.getD xs (Int.toNat (r07_Next t p sh (IntKind.wrap IntKind.i64 (IntKind.wrap IntKind.i64 q-1)))) 0) (n1+1) (out++[IntKind.wrap IntKind.i64 (IntKind.wrap IntKind.i64 q-1)]))))))) (R_ ((out,true))))
def x_List_I0 (t p sh:Int) (xs:LI) (hd ah q:Int) (n1:Nat) (out:LI) (r_:LI×Bool):Prop:=bd32 q∧n1=out.length∧(out.length:Int)≤p∧∃f:Nat,p+1-out.length<f∧listF ⟨t,p,sh⟩ xs f q ah out=r_
abbrev x_List_h0 (p0:Addr) (t p sh:Int) (xs:LI) (hd:Int):Hd Sg:=⟨none,[0,0,1,1,1,1],[.blk 0, .code [1,1,1,1,1]],[8,7,6,2],[.i .u32, .i .u32, .own 3 [some .i64], .box 102 [.ic .i64 (t), .ic .i64 (p), .ic .i64 (sh), .roc [.ints .u32 (xs)]]]⟩
theorem x_List_begin (t p sh:Int) (xs:LI) (hd:Int) (hp0:AGood ⟨t,p,sh⟩ xs) (hp1:0≤hd∧hd<xs.length) (hl0:xs.length≤9223372036854775807):x_List_w t p sh xs hd (fun ah' q' n1' out'=>x_List_I0 t p sh xs hd ah' q' n1' out' (x_List t p sh xs hd)) (fun r__=>r__=(x_List t p sh xs hd)):=by
 unfold x_List_w
 try unfold x_List_I0
 have hok:=Cf.ok_iff.1 hp0.ok
 simp only at hok
 exact ⟨hp1,fun _=>⟨cel_bd hp0 hd,rfl,by simp;omega,p.toNat+2,by simp;omega,rfl⟩⟩
theorem x_List_step0 (t p sh:Int) (xs:LI) (hd:Int) (hp0:AGood ⟨t,p,sh⟩ xs) (hp1:0≤hd∧hd<xs.length) (hl0:xs.length≤9223372036854775807) (ah q:Int) (n1:Nat) (out:LI) {r_:LI×Bool} (hI:x_List_I0 t p sh xs hd ah q n1 out r_):x_List_w0 t p sh xs hd ah q n1 out (fun ah' q' n1' out'=>x_List_I0 t p sh xs hd ah' q' n1' out' r_∧lx ((p+1-out'.length).toNat,0,0) ((p+1-out.length).toNat,0,0)) (fun r__=>r__=r_):=by
 unfold x_List_I0 at hI
 unfold x_List_w0
 try unfold x_List_I0
 obtain ⟨hq,h1,h2,f,hf,hr⟩:=hI
 have hok:=Cf.ok_iff.1 hp0.ok
 simp only at hok
 have hq':0≤q∧q<4294967296:=hq
 obtain ⟨f',rfl⟩:∃f',f=f'+1:=⟨f-1,by omega⟩
 simp only [listF] at hr
 refine ⟨fun h=>?_,fun h=>?_⟩
 ·have hne:q≠0:=by simpa using h
  have e0:(q==0)=false:=by simpa using hne
  rw [e0,cond_false] at hr
  have hb:(decide (q>p)||decide ((n1:Int)≥p))=(decide (q>p)||decide ((out.length:Int)≥p)):=by rw [h1]
  rw [w64 (n:=q) (by omega),w64 (n:=q-1) (by omega),hb,r07_Prev_eq,r07_Next_eq]
  refine ⟨fun hc=>?_,fun hc=>?_⟩
  ·rw [hc,cond_true] at hr;exact hr
  ·rw [hc,cond_false] at hr
   simp only [Bool.or_eq_false_iff,decide_eq_false_iff_not] at hc
   have hg:0≤q-1∧q-1<p:=by omega
   have hin:=pc_in hp0 (g:=q-1) (k:=3) hg (by omega)
   have hin2:=pc_in hp0 (g:=q-1) (k:=2) hg (by omega)
   refine ⟨hin,fun _=>⟨fun hz=>?_,fun hz=>?_⟩⟩
   ·have hz':(cel xs (Cf.prev ⟨t,p,sh⟩ (q-1)) !=ah)=true:=hz
    rw [hz',cond_true] at hr;exact hr
   ·have hz':(cel xs (Cf.prev ⟨t,p,sh⟩ (q-1)) !=ah)=false:=hz
    rw [hz',cond_false] at hr
    exact ⟨by omega,fun _=>⟨hin2,fun _=>⟨⟨cel_bd hp0 _,by simp [h1],by simp;omega,f',by simp;omega,hr⟩,Or.inl (by simp;omega)⟩⟩⟩
 ·have e0:(q==0)=true:=by simpa using h
  rw [e0,cond_true] at hr
  exact hr
theorem x_List_ok:EOk 175 e_x_List:=
 ent_wp Dg T_r12_Full_ok (I:=[1451000000008,1451000000007,1451000000006,1451000000002]) Tryz.func175 mix (B:=bodyOf Tryz.f175) (by kernel_rfl) rfl (by kernel_rfl) 400
  fun p0 t p sh xs hd hb hp=>have hl0:xs.length≤9223372036854775807:=hb.1.2.2.2.1;have hp0:AGood ⟨t,p,sh⟩ xs:=hp _ (.head _);have hp1:0≤hd∧hd<xs.length:=hp _ (.tail _ (.head _));⟨[x_List_h0 p0 t p sh xs hd],fun j=>List.getD [appC (Hd.kd (x_List_h0 p0 t p sh xs hd)) (fun ah' q' n1' out'=>x_List_I0 t p sh xs hd ah' q' n1' out' (x_List t p sh xs hd))] j (fun _=>False),fun j=>List.getD [appC (Hd.kd (x_List_h0 p0 t p sh xs hd)) (fun ah' q' n1' out'=>((p+1-out'.length).toNat,0,0))] j (fun _=>(0,0,0)),by kernel_rfl,⟨_,fun _ _ _=>by kernel_rfl,x_List_begin t p sh xs hd hp0 hp1 hl0⟩,⟨fun ah q n1 out hI=>⟨_,fun _ _ _=>by kernel_rfl,x_List_step0 t p sh xs hd hp0 hp1 hl0 ah q n1 out hI⟩,trivial⟩⟩
def T_x_List:Tb:=(175,e_x_List)::T_r12_Full
theorem T_x_List_ok:TOk T_x_List:=tc_ x_List_ok T_r12_Full_ok
def x_binned (t p sh:Int) (xs:LI) (g k:Int):Bool:=binned ⟨t,p,sh⟩ xs g k
abbrev c_x_binned:Ct Sg:=⟨none,false,[.agg [.i .i64, .i .i64, .i .i64, .ro [some .u32]], .i .i64, .i .i64], .b⟩
def e_x_binned:Entry Sg:=entC c_x_binned x_binned (fun t p sh xs g k=>[AGood ⟨t,p,sh⟩ xs,0≤g∧g<p])
def x_binned_w (t p sh:Int) (xs:LI) (g k:Int) (R_:Bool→Prop):Prop:=(aw_ (AGood {t:=t,p:=p,s:=sh} xs) (aw_ (0≤g∧g<p) (aw_ ((Prod.fst (x_Info t p sh xs g)==1)=true→Prod.fst (If.l (aInfo {t:=t,p:=p,s:=sh} xs g),If.c (aInfo {t:=t,p:=p,s:=sh} xs g))≤9223372036854775807) (R_ (Prod.fst (If.k (aInfo {t:=t,p:=p,s:=sh} xs g),If.l (aInfo {t:=t,p:=p,s:=sh} xs g),If.c (aInfo {t:=t,p:=p,s:=sh} xs g))==1&&r01_Log (If.l (aInfo {t:=t,p:=p,s:=sh} xs g))==k)))))
theorem x_binned_begin (t p sh:Int) (xs:LI) (g k:Int) (hp0:AGood ⟨t,p,sh⟩ xs) (hp1:0≤g∧g<p) (hl0:xs.length≤9223372036854775807):x_binned_w t p sh xs g k (fun r__=>r__=(x_binned t p sh xs g k)):=by
 unfold x_binned_w
 have hl:(aInfo ⟨t,p,sh⟩ xs g).l≤9223372036854775807:=by
  have:=(iGet_bd (cel xs (Cf.info ⟨t,p,sh⟩ g))).2.2.2.1
  have h2:(aInfo ⟨t,p,sh⟩ xs g).l≤1024:=this
  omega
 exact ⟨hp0,fun _=>⟨hp1,fun _=>⟨fun _=>hl,fun _=>rfl⟩⟩⟩
theorem x_binned_ok:EOk 176 e_x_binned:=
 ent_w0 Dg T_x_List_ok (I:=[]) Tryz.func176 mix (B:=bodyOf Tryz.f176) (by kernel_rfl) rfl (by kernel_rfl) 400
  fun _ t p sh xs g k hb hp=>⟨_,fun _ _ _=>by kernel_rfl,x_binned_begin t p sh xs g k (hp _ (.head _)) (hp _ (.tail _ (.head _))) (hb.1.2.2.2.1)⟩
def T_x_binned:Tb:=(176,e_x_binned)::T_x_List
theorem T_x_binned_ok:TOk T_x_binned:=tc_ x_binned_ok T_x_List_ok
def x_racked (t p sh:Int) (xs:LI) (g k:Int):Bool:=racked ⟨t,p,sh⟩ xs g k
abbrev c_x_racked:Ct Sg:=⟨none,false,[.agg [.i .i64, .i .i64, .i .i64, .ro [some .u32]], .i .i64, .i .i64], .b⟩
def e_x_racked:Entry Sg:=entC c_x_racked x_racked (fun t p sh xs g k=>[AGood ⟨t,p,sh⟩ xs,0≤g∧g<p])
def x_racked_w (t p sh:Int) (xs:LI) (g k:Int) (R_:Bool→Prop):Prop:=(aw_ (AGood {t:=t,p:=p,s:=sh} xs) (aw_ (0≤g∧g<p) (aw_ ((Prod.fst (x_Info t p sh xs g)==3&&Prod.snd (If.l (aInfo {t:=t,p:=p,s:=sh} xs g),If.c (aInfo {t:=t,p:=p,s:=sh} xs g))==k)=true→AGood {t:=t,p:=p,s:=sh} xs) (aw_ ((Prod.fst (x_Info t p sh xs g)==3&&Prod.snd (If.l (aInfo {t:=t,p:=p,s:=sh} xs g),If.c (aInfo {t:=t,p:=p,s:=sh} xs g))==k)=true→0≤g∧g<p) (aw_ ((Prod.fst (x_Info t p sh xs g)==3&&Prod.snd (If.l (aInfo {t:=t,p:=p,s:=sh} xs g),If.c (aInfo {t:=t,p:=p,s:=sh} xs g))==k)=true→bd32 (x_Taken t p sh xs g)) (R_ (Prod.fst (If.k (aInfo {t:=t,p:=p,s:=sh} xs g),If.l (aInfo {t:=t,p:=p,s:=sh} xs g),If.c (aInfo {t:=t,p:=p,s:=sh} xs g))==3&&If.c (aInfo {t:=t,p:=p,s:=sh} xs g)==k&&!r12_Full (x_Taken t p sh xs g) k)))))))
theorem x_racked_begin (t p sh:Int) (xs:LI) (g k:Int) (hp0:AGood ⟨t,p,sh⟩ xs) (hp1:0≤g∧g<p) (hl0:xs.length≤9223372036854775807):x_racked_w t p sh xs g k (fun r__=>r__=(x_racked t p sh xs g k)):=by
 unfold x_racked_w
 have hbd:=cel_bd hp0 (Cf.taken ⟨t,p,sh⟩ g)
 refine ⟨hp0,fun _=>⟨hp1,fun _=>⟨fun _=>hp0,fun _=>⟨fun _=>hp1,fun _=>⟨fun _=>hbd,fun _=>?_⟩⟩⟩⟩⟩
 show (_&&_&&!r12_Full (cel xs (Cf.taken ⟨t,p,sh⟩ g)) k)=racked ⟨t,p,sh⟩ xs g k
 unfold racked full r12_Full
 rw [r05_Slots_eq]
 rfl
theorem x_racked_ok:EOk 178 e_x_racked:=
 ent_w0 Dg T_x_binned_ok (I:=[]) Tryz.func178 mix (B:=bodyOf Tryz.f178) (by kernel_rfl) rfl (by kernel_rfl) 400
  fun _ t p sh xs g k hb hp=>⟨_,fun _ _ _=>by kernel_rfl,x_racked_begin t p sh xs g k (hp _ (.head _)) (hp _ (.tail _ (.head _))) (hb.1.2.2.2.1)⟩
def T_x_racked:Tb:=(178,e_x_racked)::T_x_binned
theorem T_x_racked_ok:TOk T_x_racked:=tc_ x_racked_ok T_x_binned_ok
end Go.Proofs.YtjfabjhlkpgckaaGreat
namespace Go.Proofs.YtjfabjhlkpgckaaGreat
open Go.Sl
theorem onesF_bd (v:Int):∀k:Nat,0≤onesF v k∧onesF v k≤k
 |0=>⟨Int.le_refl _,Int.le_refl _⟩
 |k+1=>by
  have:=onesF_bd v k
  simp only [onesF]
  cases bitAt v k with
  |true=>simp only [cond_true];omega
  |false=>simp only [cond_false];omega
theorem countsF_bd (c:Cf) (xs:LI):∀k:Nat,0≤(countsF c xs k).1∧(countsF c xs k).1≤1024*k∧0≤(countsF c xs k).2∧(countsF c xs k).2≤33*k
 |0=>by simp [countsF]
 |k+1=>by
  have h:=countsF_bd c xs k
  have h2:0≤ones (cel xs (c.slots k))∧ones (cel xs (c.slots k))≤32:=onesF_bd _ 32
  have h3:0≤(aInfo c xs k).l∧(aInfo c xs k).l≤1024:=⟨(iGet_bd (cel xs (c.info k))).2.2.1,(iGet_bd (cel xs (c.info k))).2.2.2.1⟩
  simp only [countsF]
  cases (aInfo c xs k).k==1<;>cases (aInfo c xs k).k==2<;>simp only [cond_true,cond_false]<;>omega
def x_loose (t p sh:Int) (xs:LI):Bool:=loose ⟨t,p,sh⟩ xs
abbrev c_x_loose:Ct Sg:=⟨none,false,[.agg [.i .i64, .i .i64, .i .i64, .ro [some .u32]]], .b⟩
def e_x_loose:Entry Sg:=entC c_x_loose x_loose (fun t p sh xs=>[AGood ⟨t,p,sh⟩ xs])
def x_loose_w (t p sh:Int) (xs:LI) (Q0:Int→Prop) (R_:Bool→Prop):Prop:=(Q0 (0))
def x_loose_w0 (t p sh:Int) (xs:LI) (i:Int) (Q0:Int→Prop) (R_:Bool→Prop):Prop:=(bw_ (decide (i<p)) (aw_ (AGood {t:=t,p:=p,s:=sh} xs) (aw_ (0≤i∧i<p) (aw_ ((Prod.fst (x_Info t p sh xs i)==3)=true→AGood {t:=t,p:=p,s:=sh} xs) (aw_ ((Prod.fst (x_Info t p sh xs i)==3)=true→0≤i∧i<p) (aw_ ((Prod.fst (x_Info t p sh xs i)==3)=true→bd32 (x_Taken t p sh xs i)) (bw_ (Prod.fst (x_Info t p sh xs i)==1||Prod.fst (x_Info t p sh xs i)==3&&!r12_Full (x_Taken t p sh xs i) (If.c (aInfo {t:=t,p:=p,s:=sh} xs i))) (Q0 (IntKind.wrap IntKind.i64 (i+1))) (aw_ (0≤r07_Next t p sh i∧r07_Next t p sh i<(↑(List.length xs):Int)) (aw_ ((List.getD xs (Int.toNat (r07_Next t p sh i)) (0:Int) !=0)=false→0≤r07_Prev t p sh i∧r07_Prev t p sh i<(↑(List.length xs):Int)) (bw_ (List.getD xs (Int.toNat (r07_Next t p sh i)) (0:Int) !=0||List.getD xs (Int.toNat (r07_Prev t p sh i)) (0:Int) !=0) (R_ (false)) (Q0 (IntKind.wrap IntKind.i64 (i+1)))))))))))) (R_ (true)))
def x_loose_I0 (t p sh:Int) (xs:LI) (i:Int) (r_:Bool):Prop:=0≤i∧i≤p∧looseF ⟨t,p,sh⟩ xs (p-i).toNat=r_
abbrev x_loose_h0 (p0:Addr) (t p sh:Int) (xs:LI):Hd Sg:=⟨none,[0,1,0,1],[.blk 0, .code [1,1]],[3,1],[.i .i64, .box 102 [.ic .i64 (t), .ic .i64 (p), .ic .i64 (sh), .roc [.ints .u32 (xs)]]]⟩
theorem x_loose_begin (t p sh:Int) (xs:LI) (hp0:AGood ⟨t,p,sh⟩ xs) (hl0:xs.length≤9223372036854775807):x_loose_w t p sh xs (fun i'=>x_loose_I0 t p sh xs i' (x_loose t p sh xs)) (fun r__=>r__=(x_loose t p sh xs)):=by
 unfold x_loose_w
 try unfold x_loose_I0
 have hok:=Cf.ok_iff.1 hp0.ok
 simp only at hok
 refine ⟨by omega,by omega,?_⟩
 show _=loose ⟨t,p,sh⟩ xs
 unfold loose
 rw [show (p-0).toNat=p.toNat by omega]
theorem x_loose_step0 (t p sh:Int) (xs:LI) (hp0:AGood ⟨t,p,sh⟩ xs) (hl0:xs.length≤9223372036854775807) (i:Int) {r_:Bool} (hI:x_loose_I0 t p sh xs i r_):x_loose_w0 t p sh xs i (fun i'=>x_loose_I0 t p sh xs i' r_∧lx ((p-i').toNat,0,0) ((p-i).toNat,0,0)) (fun r__=>r__=r_):=by
 unfold x_loose_I0 at hI
 unfold x_loose_w0
 try unfold x_loose_I0
 obtain ⟨h0,h1,hr⟩:=hI
 have hok:=Cf.ok_iff.1 hp0.ok
 simp only at hok
 refine ⟨fun h=>?_,fun h=>?_⟩
 ·simp only [decide_eq_true_eq] at h
  have hg:0≤i∧i<p:=⟨h0,h⟩
  have hbt:bd32 (x_Taken t p sh xs i):=cel_bd hp0 _
  have hin2:=pc_in hp0 (g:=i) (k:=2) hg (by omega)
  have hin3:=pc_in hp0 (g:=i) (k:=3) hg (by omega)
  have e:(p-i).toNat=(p-(i+1)).toNat+1:=by omega
  have ei:(p:Int)-(((p-(i+1)).toNat+1:Nat):Int)=i:=by omega
  rw [e] at hr
  simp only [looseF] at hr
  rw [ei] at hr
  have hf:∀k,r12_Full (x_Taken t p sh xs i) k=full (cel xs (Cf.taken ⟨t,p,sh⟩ i)) k:=fun k=>by
   unfold r12_Full full
   rw [r05_Slots_eq];rfl
  rw [w64 (n:=i+1) (by omega),r07_Next_eq,r07_Prev_eq,hf]
  refine ⟨hp0,fun _=>⟨hg,fun _=>⟨fun _=>hp0,fun _=>⟨fun _=>hg,fun _=>⟨fun _=>hbt,fun _=>⟨fun hc=>?_,fun hc=>?_⟩⟩⟩⟩⟩⟩
  ·have hc':((aInfo ⟨t,p,sh⟩ xs i).k==1||((aInfo ⟨t,p,sh⟩ xs i).k==3&&!full (cel xs (Cf.taken ⟨t,p,sh⟩ i)) (aInfo ⟨t,p,sh⟩ xs i).c))=true:=hc
   rw [hc',cond_true] at hr
   exact ⟨⟨by omega,by omega,hr⟩,lxo_⟩
  ·have hc':((aInfo ⟨t,p,sh⟩ xs i).k==1||((aInfo ⟨t,p,sh⟩ xs i).k==3&&!full (cel xs (Cf.taken ⟨t,p,sh⟩ i)) (aInfo ⟨t,p,sh⟩ xs i).c))=false:=hc
   rw [hc',cond_false] at hr
   refine ⟨hin2,fun _=>⟨fun _=>hin3,fun _=>⟨fun hz=>?_,fun hz=>?_⟩⟩⟩
   ·have hz':(cel xs (Cf.next ⟨t,p,sh⟩ i) !=0||cel xs (Cf.prev ⟨t,p,sh⟩ i) !=0)=true:=hz
    rw [hz',cond_true] at hr;exact hr
   ·have hz':(cel xs (Cf.next ⟨t,p,sh⟩ i) !=0||cel xs (Cf.prev ⟨t,p,sh⟩ i) !=0)=false:=hz
    rw [hz',cond_false] at hr
    exact ⟨⟨by omega,by omega,hr⟩,lxo_⟩
 ·simp only [decide_eq_false_iff_not] at h
  rw [show (p-i).toNat=0 by omega] at hr
  exact hr
theorem x_loose_ok:EOk 153 e_x_loose:=
 ent_wp Dg T_x_racked_ok (I:=[103000000003,103000000001]) Tryz.func153 mix (B:=bodyOf Tryz.f153) (by kernel_rfl) rfl (by kernel_rfl) 400
  fun p0 t p sh xs hb hp=>have hl0:xs.length≤9223372036854775807:=hb.1.2.2.2.1;have hp0:AGood ⟨t,p,sh⟩ xs:=hp _ (.head _);⟨[x_loose_h0 p0 t p sh xs],fun j=>List.getD [appC (Hd.kd (x_loose_h0 p0 t p sh xs)) (fun i'=>x_loose_I0 t p sh xs i' (x_loose t p sh xs))] j (fun _=>False),fun j=>List.getD [appC (Hd.kd (x_loose_h0 p0 t p sh xs)) (fun i'=>((p-i').toNat,0,0))] j (fun _=>(0,0,0)),by kernel_rfl,⟨_,fun _ _ _=>by kernel_rfl,x_loose_begin t p sh xs hp0 hl0⟩,⟨fun i hI=>⟨_,fun _ _ _=>by kernel_rfl,x_loose_step0 t p sh xs hp0 hl0 i hI⟩,trivial⟩⟩
def T_x_loose:Tb:=(153,e_x_loose)::T_x_racked
theorem T_x_loose_ok:TOk T_x_loose:=tc_ x_loose_ok T_x_racked_ok
def x_counts (t p sh:Int) (xs:LI):Bool:=counts ⟨t,p,sh⟩ xs
abbrev c_x_counts:Ct Sg:=⟨none,false,[.agg [.i .i64, .i .i64, .i .i64, .ro [some .u32]]], .b⟩
def e_x_counts:Entry Sg:=entC c_x_counts x_counts (fun t p sh xs=>[AGood ⟨t,p,sh⟩ xs])
def x_counts_w (t p sh:Int) (xs:LI) (Q0:Int→Int→Int→Prop) (R_:Bool→Prop):Prop:=(Q0 (0) (0) (0))
def x_counts_w0 (t p sh:Int) (xs:LI) (i lv fr:Int) (Q0:Int→Int→Int→Prop) (R_:Bool→Prop):Prop:=(bw_ (decide (i<p)) (aw_ (AGood {t:=t,p:=p,s:=sh} xs) (aw_ (0≤i∧i<p) (bw_ (Prod.fst (x_Info t p sh xs i)==1) (bw_ (Prod.fst (x_Info t p sh xs i)==2) (aw_ (AGood {t:=t,p:=p,s:=sh} xs) (aw_ (0≤i∧i<p) (aw_ (bd32 (x_Slots t p sh xs i)) (Q0 (IntKind.wrap IntKind.i64 (i+1)) (IntKind.wrap IntKind.i64 (IntKind.wrap IntKind.i64 (lv+1)+r01_Ones (x_Slots t p sh xs i))) (IntKind.wrap IntKind.i64 (fr+If.l (aInfo {t:=t,p:=p,s:=sh} xs i))))))) (aw_ (AGood {t:=t,p:=p,s:=sh} xs) (aw_ (0≤i∧i<p) (aw_ (bd32 (x_Slots t p sh xs i)) (Q0 (IntKind.wrap IntKind.i64 (i+1)) (IntKind.wrap IntKind.i64 (lv+r01_Ones (x_Slots t p sh xs i))) (IntKind.wrap IntKind.i64 (fr+If.l (aInfo {t:=t,p:=p,s:=sh} xs i)))))))) (bw_ (Prod.fst (x_Info t p sh xs i)==2) (aw_ (AGood {t:=t,p:=p,s:=sh} xs) (aw_ (0≤i∧i<p) (aw_ (bd32 (x_Slots t p sh xs i)) (Q0 (IntKind.wrap IntKind.i64 (i+1)) (IntKind.wrap IntKind.i64 (IntKind.wrap IntKind.i64 (lv+1)+r01_Ones (x_Slots t p sh xs i))) (fr))))) (aw_ (AGood {t:=t,p:=p,s:=sh} xs) (aw_ (0≤i∧i<p) (aw_ (bd32 (x_Slots t p sh xs i)) (Q0 (IntKind.wrap IntKind.i64 (i+1)) (IntKind.wrap IntKind.i64 (lv+r01_Ones (x_Slots t p sh xs i))) (fr))))))))) (aw_ ((0:Int)≤0∧0<(↑(List.length xs):Int)) (aw_ ((List.getD xs 0 0==IntKind.wrap IntKind.u32 fr)=true→(0:Int)≤1∧1<(↑(List.length xs):Int)) (R_ (List.getD xs 0 0==IntKind.wrap IntKind.u32 fr&&List.getD xs 1 0==IntKind.wrap IntKind.u32 lv)))))
def x_counts_I0 (t p sh:Int) (xs:LI) (i lv fr:Int) (r_:Bool):Prop:=0≤i∧i≤p∧fr=(countsF ⟨t,p,sh⟩ xs i.toNat).1∧lv=(countsF ⟨t,p,sh⟩ xs i.toNat).2∧r_=counts ⟨t,p,sh⟩ xs
abbrev x_counts_h0 (p0:Addr) (t p sh:Int) (xs:LI):Hd Sg:=⟨none,[0,1,0,1,1],[.blk 0, .code [1,1,1]],[5,4,3,1],[.i .i64, .i .i64, .i .i64, .box 102 [.ic .i64 (t), .ic .i64 (p), .ic .i64 (sh), .roc [.ints .u32 (xs)]]]⟩
theorem x_counts_begin (t p sh:Int) (xs:LI) (hp0:AGood ⟨t,p,sh⟩ xs) (hl0:xs.length≤9223372036854775807):x_counts_w t p sh xs (fun i' lv' fr'=>x_counts_I0 t p sh xs i' lv' fr' (x_counts t p sh xs)) (fun r__=>r__=(x_counts t p sh xs)):=by
 unfold x_counts_w
 try unfold x_counts_I0
 have hok:=Cf.ok_iff.1 hp0.ok
 simp only at hok
 exact ⟨by omega,by omega,rfl,rfl,rfl⟩
theorem x_counts_step0 (t p sh:Int) (xs:LI) (hp0:AGood ⟨t,p,sh⟩ xs) (hl0:xs.length≤9223372036854775807) (i lv fr:Int) {r_:Bool} (hI:x_counts_I0 t p sh xs i lv fr r_):x_counts_w0 t p sh xs i lv fr (fun i' lv' fr'=>x_counts_I0 t p sh xs i' lv' fr' r_∧lx ((p-i').toNat,0,0) ((p-i).toNat,0,0)) (fun r__=>r__=r_):=by
 unfold x_counts_I0 at hI
 unfold x_counts_w0
 try unfold x_counts_I0
 obtain ⟨h0,h1,hf,hl,hr⟩:=hI
 have hok:=Cf.ok_iff.1 hp0.ok
 simp only at hok
 have hb:=countsF_bd ⟨t,p,sh⟩ xs i.toNat
 refine ⟨fun h=>?_,fun h=>?_⟩
 ·simp only [decide_eq_true_eq] at h
  have hg:0≤i∧i<p:=⟨h0,h⟩
  have e:(i+1).toNat=i.toNat+1:=by omega
  have ei:((i.toNat:Nat):Int)=i:=by omega
  have hbs:bd32 (x_Slots t p sh xs i):=cel_bd hp0 _
  have hl0:0≤(aInfo ⟨t,p,sh⟩ xs i).l:=(iGet_bd (cel xs (Cf.info ⟨t,p,sh⟩ i))).2.2.1
  have hl1:(aInfo ⟨t,p,sh⟩ xs i).l≤1024:=(iGet_bd (cel xs (Cf.info ⟨t,p,sh⟩ i))).2.2.2.1
  have ho:0≤ones (cel xs (Cf.slots ⟨t,p,sh⟩ i))∧ones (cel xs (Cf.slots ⟨t,p,sh⟩ i))≤32:=onesF_bd _ 32
  have hones:r01_Ones (x_Slots t p sh xs i)=ones (cel xs (Cf.slots ⟨t,p,sh⟩ i)):=rfl
  have key:countsF ⟨t,p,sh⟩ xs (i+1).toNat=(fr+(bif (aInfo ⟨t,p,sh⟩ xs i).k==1 then (aInfo ⟨t,p,sh⟩ xs i).l else 0),lv+(bif (aInfo ⟨t,p,sh⟩ xs i).k==2 then 1 else 0)+ones (cel xs (Cf.slots ⟨t,p,sh⟩ i))):=by
   rw [e,countsF,ei,←hf,←hl]
  have F1:IntKind.i64.wrap (fr+(aInfo ⟨t,p,sh⟩ xs i).l)=fr+(aInfo ⟨t,p,sh⟩ xs i).l:=w64 (by omega)
  have F2:IntKind.i64.wrap (lv+1)=lv+1:=w64 (by omega)
  have F3:IntKind.i64.wrap (lv+1+ones (cel xs (Cf.slots ⟨t,p,sh⟩ i)))=lv+1+ones (cel xs (Cf.slots ⟨t,p,sh⟩ i)):=w64 (by omega)
  have F4:IntKind.i64.wrap (lv+ones (cel xs (Cf.slots ⟨t,p,sh⟩ i)))=lv+ones (cel xs (Cf.slots ⟨t,p,sh⟩ i)):=w64 (by omega)
  rw [hones,w64 (n:=i+1) (by omega),F2,F3,F4]
  have fin:∀(b1 b2:Bool),((aInfo ⟨t,p,sh⟩ xs i).k==1)=b1→((aInfo ⟨t,p,sh⟩ xs i).k==2)=b2→∀x y:Int,x=fr+(bif b1 then (aInfo ⟨t,p,sh⟩ xs i).l else 0)→y=lv+(bif b2 then 1 else 0)+ones (cel xs (Cf.slots ⟨t,p,sh⟩ i))→
   (0≤i+1∧i+1≤p∧x=(countsF ⟨t,p,sh⟩ xs (i+1).toNat).1∧y=(countsF ⟨t,p,sh⟩ xs (i+1).toNat).2∧r_=counts ⟨t,p,sh⟩ xs)∧lx ((p-(i+1)).toNat,0,0) ((p-i).toNat,0,0):=by
   intro b1 b2 e1 e2 x y hx hy
   rw [key,e1,e2]
   exact ⟨⟨by omega,by omega,hx,hy,hr⟩,lxo_⟩
  refine ⟨hp0,fun _=>⟨hg,fun _=>⟨fun c1=>⟨fun c2=>?_,fun c2=>?_⟩,fun c1=>⟨fun c2=>?_,fun c2=>?_⟩⟩⟩⟩
  ·exact ⟨hp0,fun _=>⟨hg,fun _=>⟨hbs,fun _=>fin true true c1 c2 _ _ F1 rfl⟩⟩⟩
  ·exact ⟨hp0,fun _=>⟨hg,fun _=>⟨hbs,fun _=>fin true false c1 c2 _ _ F1 (by simp)⟩⟩⟩
  ·exact ⟨hp0,fun _=>⟨hg,fun _=>⟨hbs,fun _=>fin false true c1 c2 _ _ (by simp) rfl⟩⟩⟩
  ·exact ⟨hp0,fun _=>⟨hg,fun _=>⟨hbs,fun _=>fin false false c1 c2 _ _ (by simp) (by simp)⟩⟩⟩
 ·simp only [decide_eq_false_iff_not] at h
  have hlen:=hp0.len
  unfold Cf.cells at hlen
  rw [hp0.ok,cond_true] at hlen
  simp only at hlen
  have e:i.toNat=p.toNat:=by omega
  refine ⟨⟨by omega,by omega⟩,fun _=>⟨fun _=>⟨by omega,by omega⟩,fun _=>?_⟩⟩
  show _=r_
  rw [hr,wrapu_nv,wrapu_nv,hf,hl,e]
  rfl
theorem x_counts_ok:EOk 154 e_x_counts:=
 ent_wp Dg T_x_loose_ok (I:=[411000000005,411000000004,411000000003,411000000001]) Tryz.func154 mix (B:=bodyOf Tryz.f154) (by kernel_rfl) rfl (by kernel_rfl) 400
  fun p0 t p sh xs hb hp=>have hl0:xs.length≤9223372036854775807:=hb.1.2.2.2.1;have hp0:AGood ⟨t,p,sh⟩ xs:=hp _ (.head _);⟨[x_counts_h0 p0 t p sh xs],fun j=>List.getD [appC (Hd.kd (x_counts_h0 p0 t p sh xs)) (fun i' lv' fr'=>x_counts_I0 t p sh xs i' lv' fr' (x_counts t p sh xs))] j (fun _=>False),fun j=>List.getD [appC (Hd.kd (x_counts_h0 p0 t p sh xs)) (fun i' lv' fr'=>((p-i').toNat,0,0))] j (fun _=>(0,0,0)),by kernel_rfl,⟨_,fun _ _ _=>by kernel_rfl,x_counts_begin t p sh xs hp0 hl0⟩,⟨fun i lv fr hI=>⟨_,fun _ _ _=>by kernel_rfl,x_counts_step0 t p sh xs hp0 hl0 i lv fr hI⟩,trivial⟩⟩
def T_x_counts:Tb:=(154,e_x_counts)::T_x_loose
theorem T_x_counts_ok:TOk T_x_counts:=tc_ x_counts_ok T_x_loose_ok
end Go.Proofs.YtjfabjhlkpgckaaGreat
namespace Go.Proofs.YtjfabjhlkpgckaaGreat
open Go.Sl
theorem lxp_ {x y:Nat×Nat×Nat} (h:lx x y:=by unfold lx;dsimp only;omega):lx x y:=h
theorem r07_Rack_eq (k:Int):r07_Rack k=cRack k:=by
 unfold r07_Rack cRack
 by_cases hg:0≤k∧k<9
 ·have a1:(decide (k<0)||decide (k>8))=false:=by simp;omega
  have a2:(decide (0≤k)&&decide (k<9))=true:=by simp;omega
  rw [a2]
  first|(rw [a1];simp only [cond_false,cond_true];rw [w64 (by omega)])|(simp only [cond_true];rw [w64 (by omega)])
 ·have a1:(decide (k<0)||decide (k>8))=true:=by simp;omega
  have a2:(decide (0≤k)&&decide (k<9))=false:=by simp;omega
  rw [a2]
  first|(rw [a1];rfl)|rfl
def x_bins (t p sh:Int) (xs:LI):Bool:=bins ⟨t,p,sh⟩ xs
abbrev c_x_bins:Ct Sg:=⟨none,false,[.agg [.i .i64, .i .i64, .i .i64, .ro [some .u32]]], .b⟩
def e_x_bins:Entry Sg:=entC c_x_bins x_bins (fun t p sh xs=>[AGood ⟨t,p,sh⟩ xs])
def x_bins_w (t p sh:Int) (xs:LI) (Q0:Int→Prop) (Q1:Int→Nat→LI→Int→Prop) (R_:Bool→Prop):Prop:=(Q0 (0))
def x_bins_w0 (t p sh:Int) (xs:LI) (k:Int) (Q0:Int→Prop) (Q1:Int→Nat→LI→Int→Prop) (R_:Bool→Prop):Prop:=(bw_ (decide (k<11)) (∀r1:Int,r1=(r07_Bin k)→(∀r2:LI×Bool,r2=(x_List t p sh xs r1)→(aw_ (AGood {t:=t,p:=p,s:=sh} xs) (aw_ (0≤r1∧r1<(↑(List.length xs):Int)) (bw_ (!r2.2) (R_ (false)) (Q1 (0) (List.length r2.1) r2.1 (k))))))) (R_ (true)))
def x_bins_I0 (t p sh:Int) (xs:LI) (k:Int) (r_:Bool):Prop:=0≤k∧k≤11∧binsF ⟨t,p,sh⟩ xs (11-k).toNat=r_
def x_bins_w1 (t p sh:Int) (xs:LI) (i:Int) (n1:Nat) (ls:LI) (k:Int) (Q0:Int→Prop) (Q1:Int→Nat→LI→Int→Prop) (R_:Bool→Prop):Prop:=(bw_ (decide (i<p)) (aw_ (AGood {t:=t,p:=p,s:=sh} xs) (aw_ (0≤i∧i<p) (bw_ (x_binned t p sh xs i k) (bw_ (r12_in ls i !=1) (R_ (false)) (Q1 (IntKind.wrap IntKind.i64 (i+1)) (n1) (ls) (k))) (bw_ (r12_in ls i !=0) (R_ (false)) (Q1 (IntKind.wrap IntKind.i64 (i+1)) (n1) (ls) (k)))))) (Q0 (IntKind.wrap IntKind.i64 (k+1))))
def x_bins_I1 (t p sh:Int) (xs:LI) (i:Int) (n1:Nat) (ls:LI) (k:Int) (r_:Bool):Prop:=0≤k∧k<11∧0≤i∧i≤p∧n1=ls.length∧(bif onceF ⟨t,p,sh⟩ ls (fun g=>binned ⟨t,p,sh⟩ xs g k) (p-i).toNat then binsF ⟨t,p,sh⟩ xs (10-k).toNat else false)=r_
abbrev x_bins_h0 (p0:Addr) (t p sh:Int) (xs:LI):Hd Sg:=⟨none,[0,1,0,1],[.blk 0, .code [1,1]],[3,1],[.i .i64, .box 102 [.ic .i64 (t), .ic .i64 (p), .ic .i64 (sh), .roc [.ints .u32 (xs)]]]⟩
abbrev x_bins_h1 (p0:Addr) (t p sh:Int) (xs:LI):Hd Sg:=⟨none,[0,1,1,1,0,0,1,0,0,1,0,1],[.blk 2, .blk 1, .code [1,1,0,0,1,0,1], .again [0,1,0,1], .blk 0, .code [1,1]],[6,4,3,1],[.i .i64, .own 3 [some .i64], .i .i64, .box 102 [.ic .i64 (t), .ic .i64 (p), .ic .i64 (sh), .roc [.ints .u32 (xs)]]]⟩
theorem x_bins_begin (t p sh:Int) (xs:LI) (hp0:AGood ⟨t,p,sh⟩ xs) (hl0:xs.length≤9223372036854775807):x_bins_w t p sh xs (fun k'=>x_bins_I0 t p sh xs k' (x_bins t p sh xs)) (fun i' n1' ls' k'=>x_bins_I1 t p sh xs i' n1' ls' k' (x_bins t p sh xs)) (fun r__=>r__=(x_bins t p sh xs)):=by
 unfold x_bins_w
 try unfold x_bins_I0
 try unfold x_bins_I1
 exact ⟨by omega,by omega,rfl⟩
theorem x_bins_step0 (t p sh:Int) (xs:LI) (hp0:AGood ⟨t,p,sh⟩ xs) (hl0:xs.length≤9223372036854775807) (k:Int) {r_:Bool} (hI:x_bins_I0 t p sh xs k r_):x_bins_w0 t p sh xs k (fun k'=>x_bins_I0 t p sh xs k' r_∧lx ((11-k').toNat,p.toNat+1,0) ((11-k).toNat,p.toNat+1,0)) (fun i' n1' ls' k'=>x_bins_I1 t p sh xs i' n1' ls' k' r_∧lx ((11-k').toNat,(p-i').toNat,0) ((11-k).toNat,p.toNat+1,0)) (fun r__=>r__=r_):=by
 unfold x_bins_I0 at hI
 unfold x_bins_w0
 try unfold x_bins_I0
 try unfold x_bins_I1
 obtain ⟨h0,h1,hr⟩:=hI
 have hok:=Cf.ok_iff.1 hp0.ok
 simp only at hok
 refine ⟨fun h=>?_,fun h=>?_⟩
 ·simp only [decide_eq_true_eq] at h
  have e:(11-k).toNat=(10-k).toNat+1:=by omega
  have ek:(11:Int)-(((10-k).toNat+1:Nat):Int)=k:=by omega
  rw [e] at hr
  simp only [binsF] at hr
  rw [ek] at hr
  have hb:=bin_in hp0 (k:=k) ⟨h0,h⟩
  rintro r1 rfl r2 rfl
  rw [r07_Bin_eq]
  refine ⟨hp0,fun _=>⟨hb,fun _=>⟨fun hc=>?_,fun hc=>?_⟩⟩⟩
  ·have hc':(listA ⟨t,p,sh⟩ xs (cBin k)).2=false:=by simpa [x_List] using hc
   rw [hc',cond_false] at hr;exact hr
  ·have hc':(listA ⟨t,p,sh⟩ xs (cBin k)).2=true:=by simpa [x_List] using hc
   rw [hc',cond_true] at hr
   refine ⟨⟨h0,h,by omega,by omega,rfl,?_⟩,lxp_⟩
   rw [show (p-0).toNat=p.toNat by omega];exact hr
 ·simp only [decide_eq_false_iff_not] at h
  rw [show (11-k).toNat=0 by omega] at hr
  exact hr
theorem x_bins_step1 (t p sh:Int) (xs:LI) (hp0:AGood ⟨t,p,sh⟩ xs) (hl0:xs.length≤9223372036854775807) (i:Int) (n1:Nat) (ls:LI) (k:Int) {r_:Bool} (hI:x_bins_I1 t p sh xs i n1 ls k r_):x_bins_w1 t p sh xs i n1 ls k (fun k'=>x_bins_I0 t p sh xs k' r_∧lx ((11-k').toNat,p.toNat+1,0) ((11-k).toNat,(p-i).toNat,0)) (fun i' n1' ls' k'=>x_bins_I1 t p sh xs i' n1' ls' k' r_∧lx ((11-k').toNat,(p-i').toNat,0) ((11-k).toNat,(p-i).toNat,0)) (fun r__=>r__=r_):=by
 unfold x_bins_I1 at hI
 unfold x_bins_w1
 try unfold x_bins_I0
 try unfold x_bins_I1
 obtain ⟨h0,h1,h2,h3,h4,hr⟩:=hI
 have hok:=Cf.ok_iff.1 hp0.ok
 simp only at hok
 refine ⟨fun h=>?_,fun h=>?_⟩
 ·simp only [decide_eq_true_eq] at h
  have hg:0≤i∧i<p:=⟨h2,h⟩
  have e:(p-i).toNat=(p-(i+1)).toNat+1:=by omega
  have ei:(p:Int)-(((p-(i+1)).toNat+1:Nat):Int)=i:=by omega
  rw [e] at hr
  simp only [onceF] at hr
  rw [ei] at hr
  rw [w64 (n:=i+1) (by omega)]
  refine ⟨hp0,fun _=>⟨hg,fun _=>⟨fun hc=>?_,fun hc=>?_⟩⟩⟩
  ·have hc':binned ⟨t,p,sh⟩ xs i k=true:=hc
   rw [hc',cond_true] at hr
   refine ⟨fun hn=>?_,fun hn=>?_⟩
   ·have hn':(inA ls i !=1)=true:=hn
    rw [hn',cond_true,cond_false] at hr;exact hr
   ·have hn':(inA ls i !=1)=false:=hn
    rw [hn',cond_false] at hr
    exact ⟨⟨h0,h1,by omega,by omega,h4,hr⟩,lxp_⟩
  ·have hc':binned ⟨t,p,sh⟩ xs i k=false:=hc
   rw [hc',cond_false] at hr
   refine ⟨fun hn=>?_,fun hn=>?_⟩
   ·have hn':(inA ls i !=0)=true:=hn
    rw [hn',cond_true,cond_false] at hr;exact hr
   ·have hn':(inA ls i !=0)=false:=hn
    rw [hn',cond_false] at hr
    exact ⟨⟨h0,h1,by omega,by omega,h4,hr⟩,lxp_⟩
 ·simp only [decide_eq_false_iff_not] at h
  rw [show (p-i).toNat=0 by omega] at hr
  simp only [onceF,cond_true] at hr
  rw [w64 (n:=k+1) (by omega)]
  refine ⟨⟨by omega,by omega,?_⟩,lxp_⟩
  rw [show (11-(k+1)).toNat=(10-k).toNat by omega];exact hr
theorem x_bins_ok:EOk 151 e_x_bins:=
 ent_wp Dg T_x_counts_ok (I:=[103000000003,103000000001,8549000000006,8549000000004,8549000000003,8549000000001]) Tryz.func151 mix (B:=bodyOf Tryz.f151) (by kernel_rfl) rfl (by kernel_rfl) 400
  fun p0 t p sh xs hb hp=>have hl0:xs.length≤9223372036854775807:=hb.1.2.2.2.1;have hp0:AGood ⟨t,p,sh⟩ xs:=hp _ (.head _);⟨[x_bins_h0 p0 t p sh xs,x_bins_h1 p0 t p sh xs],fun j=>List.getD [appC (Hd.kd (x_bins_h0 p0 t p sh xs)) (fun k'=>x_bins_I0 t p sh xs k' (x_bins t p sh xs)),appC (Hd.kd (x_bins_h1 p0 t p sh xs)) (fun i' n1' ls' k'=>x_bins_I1 t p sh xs i' n1' ls' k' (x_bins t p sh xs))] j (fun _=>False),fun j=>List.getD [appC (Hd.kd (x_bins_h0 p0 t p sh xs)) (fun k'=>((11-k').toNat,p.toNat+1,0)),appC (Hd.kd (x_bins_h1 p0 t p sh xs)) (fun i' n1' ls' k'=>((11-k').toNat,(p-i').toNat,0))] j (fun _=>(0,0,0)),by kernel_rfl,⟨_,fun _ _ _=>by kernel_rfl,x_bins_begin t p sh xs hp0 hl0⟩,⟨fun k hI=>⟨_,fun _ _ _=>by kernel_rfl,x_bins_step0 t p sh xs hp0 hl0 k hI⟩,⟨fun i n1 ls k hI=>⟨_,fun _ _ _=>by kernel_rfl,x_bins_step1 t p sh xs hp0 hl0 i n1 ls k hI⟩,trivial⟩⟩⟩
def T_x_bins:Tb:=(151,e_x_bins)::T_x_counts
theorem T_x_bins_ok:TOk T_x_bins:=tc_ x_bins_ok T_x_counts_ok
def x_racks (t p sh:Int) (xs:LI):Bool:=racks ⟨t,p,sh⟩ xs
abbrev c_x_racks:Ct Sg:=⟨none,false,[.agg [.i .i64, .i .i64, .i .i64, .ro [some .u32]]], .b⟩
def e_x_racks:Entry Sg:=entC c_x_racks x_racks (fun t p sh xs=>[AGood ⟨t,p,sh⟩ xs])
def x_racks_w (t p sh:Int) (xs:LI) (Q0:Int→Prop) (Q1:Int→Nat→LI→Int→Prop) (R_:Bool→Prop):Prop:=(Q0 (0))
def x_racks_w0 (t p sh:Int) (xs:LI) (k:Int) (Q0:Int→Prop) (Q1:Int→Nat→LI→Int→Prop) (R_:Bool→Prop):Prop:=(bw_ (decide (k<9)) (∀r1:Int,r1=(r07_Rack k)→(∀r2:LI×Bool,r2=(x_List t p sh xs r1)→(aw_ (AGood {t:=t,p:=p,s:=sh} xs) (aw_ (0≤r1∧r1<(↑(List.length xs):Int)) (bw_ (!r2.2) (R_ (false)) (Q1 (0) (List.length r2.1) r2.1 (k))))))) (R_ (true)))
def x_racks_I0 (t p sh:Int) (xs:LI) (k:Int) (r_:Bool):Prop:=0≤k∧k≤9∧racksF ⟨t,p,sh⟩ xs (9-k).toNat=r_
def x_racks_w1 (t p sh:Int) (xs:LI) (i:Int) (n1:Nat) (ls:LI) (k:Int) (Q0:Int→Prop) (Q1:Int→Nat→LI→Int→Prop) (R_:Bool→Prop):Prop:=(bw_ (decide (i<p)) (aw_ (AGood {t:=t,p:=p,s:=sh} xs) (aw_ (0≤i∧i<p) (bw_ (x_racked t p sh xs i k) (bw_ (r12_in ls i !=1) (R_ (false)) (Q1 (IntKind.wrap IntKind.i64 (i+1)) (n1) (ls) (k))) (bw_ (r12_in ls i !=0) (R_ (false)) (Q1 (IntKind.wrap IntKind.i64 (i+1)) (n1) (ls) (k)))))) (Q0 (IntKind.wrap IntKind.i64 (k+1))))
def x_racks_I1 (t p sh:Int) (xs:LI) (i:Int) (n1:Nat) (ls:LI) (k:Int) (r_:Bool):Prop:=0≤k∧k<9∧0≤i∧i≤p∧n1=ls.length∧(bif onceF ⟨t,p,sh⟩ ls (fun g=>racked ⟨t,p,sh⟩ xs g k) (p-i).toNat then racksF ⟨t,p,sh⟩ xs (8-k).toNat else false)=r_
abbrev x_racks_h0 (p0:Addr) (t p sh:Int) (xs:LI):Hd Sg:=⟨none,[0,1,0,1],[.blk 0, .code [1,1]],[3,1],[.i .i64, .box 102 [.ic .i64 (t), .ic .i64 (p), .ic .i64 (sh), .roc [.ints .u32 (xs)]]]⟩
abbrev x_racks_h1 (p0:Addr) (t p sh:Int) (xs:LI):Hd Sg:=⟨none,[0,1,1,1,0,0,1,0,0,1,0,1],[.blk 2, .blk 1, .code [1,1,0,0,1,0,1], .again [0,1,0,1], .blk 0, .code [1,1]],[6,4,3,1],[.i .i64, .own 3 [some .i64], .i .i64, .box 102 [.ic .i64 (t), .ic .i64 (p), .ic .i64 (sh), .roc [.ints .u32 (xs)]]]⟩
theorem x_racks_begin (t p sh:Int) (xs:LI) (hp0:AGood ⟨t,p,sh⟩ xs) (hl0:xs.length≤9223372036854775807):x_racks_w t p sh xs (fun k'=>x_racks_I0 t p sh xs k' (x_racks t p sh xs)) (fun i' n1' ls' k'=>x_racks_I1 t p sh xs i' n1' ls' k' (x_racks t p sh xs)) (fun r__=>r__=(x_racks t p sh xs)):=by
 unfold x_racks_w
 try unfold x_racks_I0
 try unfold x_racks_I1
 exact ⟨by omega,by omega,rfl⟩
theorem x_racks_step0 (t p sh:Int) (xs:LI) (hp0:AGood ⟨t,p,sh⟩ xs) (hl0:xs.length≤9223372036854775807) (k:Int) {r_:Bool} (hI:x_racks_I0 t p sh xs k r_):x_racks_w0 t p sh xs k (fun k'=>x_racks_I0 t p sh xs k' r_∧lx ((9-k').toNat,p.toNat+1,0) ((9-k).toNat,p.toNat+1,0)) (fun i' n1' ls' k'=>x_racks_I1 t p sh xs i' n1' ls' k' r_∧lx ((9-k').toNat,(p-i').toNat,0) ((9-k).toNat,p.toNat+1,0)) (fun r__=>r__=r_):=by
 unfold x_racks_I0 at hI
 unfold x_racks_w0
 try unfold x_racks_I0
 try unfold x_racks_I1
 obtain ⟨h0,h1,hr⟩:=hI
 have hok:=Cf.ok_iff.1 hp0.ok
 simp only at hok
 refine ⟨fun h=>?_,fun h=>?_⟩
 ·simp only [decide_eq_true_eq] at h
  have e:(9-k).toNat=(8-k).toNat+1:=by omega
  have ek:(9:Int)-(((8-k).toNat+1:Nat):Int)=k:=by omega
  rw [e] at hr
  simp only [racksF] at hr
  rw [ek] at hr
  have hb:=rack_in hp0 (k:=k) ⟨h0,h⟩
  rintro r1 rfl r2 rfl
  rw [r07_Rack_eq]
  refine ⟨hp0,fun _=>⟨hb,fun _=>⟨fun hc=>?_,fun hc=>?_⟩⟩⟩
  ·have hc':(listA ⟨t,p,sh⟩ xs (cRack k)).2=false:=by simpa [x_List] using hc
   rw [hc',cond_false] at hr;exact hr
  ·have hc':(listA ⟨t,p,sh⟩ xs (cRack k)).2=true:=by simpa [x_List] using hc
   rw [hc',cond_true] at hr
   refine ⟨⟨h0,h,by omega,by omega,rfl,?_⟩,lxp_⟩
   rw [show (p-0).toNat=p.toNat by omega];exact hr
 ·simp only [decide_eq_false_iff_not] at h
  rw [show (9-k).toNat=0 by omega] at hr
  exact hr
theorem x_racks_step1 (t p sh:Int) (xs:LI) (hp0:AGood ⟨t,p,sh⟩ xs) (hl0:xs.length≤9223372036854775807) (i:Int) (n1:Nat) (ls:LI) (k:Int) {r_:Bool} (hI:x_racks_I1 t p sh xs i n1 ls k r_):x_racks_w1 t p sh xs i n1 ls k (fun k'=>x_racks_I0 t p sh xs k' r_∧lx ((9-k').toNat,p.toNat+1,0) ((9-k).toNat,(p-i).toNat,0)) (fun i' n1' ls' k'=>x_racks_I1 t p sh xs i' n1' ls' k' r_∧lx ((9-k').toNat,(p-i').toNat,0) ((9-k).toNat,(p-i).toNat,0)) (fun r__=>r__=r_):=by
 unfold x_racks_I1 at hI
 unfold x_racks_w1
 try unfold x_racks_I0
 try unfold x_racks_I1
 obtain ⟨h0,h1,h2,h3,h4,hr⟩:=hI
 have hok:=Cf.ok_iff.1 hp0.ok
 simp only at hok
 refine ⟨fun h=>?_,fun h=>?_⟩
 ·simp only [decide_eq_true_eq] at h
  have hg:0≤i∧i<p:=⟨h2,h⟩
  have e:(p-i).toNat=(p-(i+1)).toNat+1:=by omega
  have ei:(p:Int)-(((p-(i+1)).toNat+1:Nat):Int)=i:=by omega
  rw [e] at hr
  simp only [onceF] at hr
  rw [ei] at hr
  rw [w64 (n:=i+1) (by omega)]
  refine ⟨hp0,fun _=>⟨hg,fun _=>⟨fun hc=>?_,fun hc=>?_⟩⟩⟩
  ·have hc':racked ⟨t,p,sh⟩ xs i k=true:=hc
   rw [hc',cond_true] at hr
   refine ⟨fun hn=>?_,fun hn=>?_⟩
   ·have hn':(inA ls i !=1)=true:=hn
    rw [hn',cond_true,cond_false] at hr;exact hr
   ·have hn':(inA ls i !=1)=false:=hn
    rw [hn',cond_false] at hr
    exact ⟨⟨h0,h1,by omega,by omega,h4,hr⟩,lxp_⟩
  ·have hc':racked ⟨t,p,sh⟩ xs i k=false:=hc
   rw [hc',cond_false] at hr
   refine ⟨fun hn=>?_,fun hn=>?_⟩
   ·have hn':(inA ls i !=0)=true:=hn
    rw [hn',cond_true,cond_false] at hr;exact hr
   ·have hn':(inA ls i !=0)=false:=hn
    rw [hn',cond_false] at hr
    exact ⟨⟨h0,h1,by omega,by omega,h4,hr⟩,lxp_⟩
 ·simp only [decide_eq_false_iff_not] at h
  rw [show (p-i).toNat=0 by omega] at hr
  simp only [onceF,cond_true] at hr
  rw [w64 (n:=k+1) (by omega)]
  refine ⟨⟨by omega,by omega,?_⟩,lxp_⟩
  rw [show (9-(k+1)).toNat=(8-k).toNat by omega];exact hr
theorem x_racks_ok:EOk 152 e_x_racks:=
 ent_wp Dg T_x_bins_ok (I:=[103000000003,103000000001,8549000000006,8549000000004,8549000000003,8549000000001]) Tryz.func152 mix (B:=bodyOf Tryz.f152) (by kernel_rfl) rfl (by kernel_rfl) 400
  fun p0 t p sh xs hb hp=>have hl0:xs.length≤9223372036854775807:=hb.1.2.2.2.1;have hp0:AGood ⟨t,p,sh⟩ xs:=hp _ (.head _);⟨[x_racks_h0 p0 t p sh xs,x_racks_h1 p0 t p sh xs],fun j=>List.getD [appC (Hd.kd (x_racks_h0 p0 t p sh xs)) (fun k'=>x_racks_I0 t p sh xs k' (x_racks t p sh xs)),appC (Hd.kd (x_racks_h1 p0 t p sh xs)) (fun i' n1' ls' k'=>x_racks_I1 t p sh xs i' n1' ls' k' (x_racks t p sh xs))] j (fun _=>False),fun j=>List.getD [appC (Hd.kd (x_racks_h0 p0 t p sh xs)) (fun k'=>((9-k').toNat,p.toNat+1,0)),appC (Hd.kd (x_racks_h1 p0 t p sh xs)) (fun i' n1' ls' k'=>((9-k').toNat,(p-i').toNat,0))] j (fun _=>(0,0,0)),by kernel_rfl,⟨_,fun _ _ _=>by kernel_rfl,x_racks_begin t p sh xs hp0 hl0⟩,⟨fun k hI=>⟨_,fun _ _ _=>by kernel_rfl,x_racks_step0 t p sh xs hp0 hl0 k hI⟩,⟨fun i n1 ls k hI=>⟨_,fun _ _ _=>by kernel_rfl,x_racks_step1 t p sh xs hp0 hl0 i n1 ls k hI⟩,trivial⟩⟩⟩
def T_x_racks:Tb:=(152,e_x_racks)::T_x_bins
theorem T_x_racks_ok:TOk T_x_racks:=tc_ x_racks_ok T_x_bins_ok
end Go.Proofs.YtjfabjhlkpgckaaGreat
namespace Go.Proofs.YtjfabjhlkpgckaaGreat
open Go.Sl
def x_slots (t p sh:Int) (xs:LI):Bool:=slotsOk ⟨t,p,sh⟩ xs
abbrev c_x_slots:Ct Sg:=⟨none,false,[.agg [.i .i64, .i .i64, .i .i64, .ro [some .u32]]], .b⟩
def e_x_slots:Entry Sg:=entC c_x_slots x_slots (fun t p sh xs=>[AGood ⟨t,p,sh⟩ xs])
def x_slots_w (t p sh:Int) (xs:LI) (Q0:Int→Prop) (Q1:Int→Int→Int→Int→Int→Prop) (R_:Bool→Prop):Prop:=(Q0 (0))
def x_slots_w0 (t p sh:Int) (xs:LI) (g:Int) (Q0:Int→Prop) (Q1:Int→Int→Int→Int→Int→Prop) (R_:Bool→Prop):Prop:=(bw_ (decide (g<p)) (aw_ (AGood {t:=t,p:=p,s:=sh} xs) (aw_ (0≤g∧g<p) (Q1 (0) (Prod.fst (If.k (aInfo {t:=t,p:=p,s:=sh} xs g),If.l (aInfo {t:=t,p:=p,s:=sh} xs g),If.c (aInfo {t:=t,p:=p,s:=sh} xs g))) (If.l (aInfo {t:=t,p:=p,s:=sh} xs g)) (If.c (aInfo {t:=t,p:=p,s:=sh} xs g)) (g)))) (R_ (true)))
def x_slots_I0 (t p sh:Int) (xs:LI) (g:Int) (r_:Bool):Prop:=0≤g∧g≤p∧slotsF ⟨t,p,sh⟩ xs (p-g).toNat=r_
def x_slots_w1 (t p sh:Int) (xs:LI) (j ik il ic g:Int) (Q0:Int→Prop) (Q1:Int→Int→Int→Int→Int→Prop) (R_:Bool→Prop):Prop:=(bw_ (decide (j<32)) (aw_ (AGood {t:=t,p:=p,s:=sh} xs) (aw_ (0≤g∧g<p) (aw_ (AGood {t:=t,p:=p,s:=sh} xs) (aw_ (0≤g∧g<p) (bw_ (r01_Bit (x_Slots t p sh xs g) j&&!r01_Bit (x_Taken t p sh xs g) j||r01_Bit (x_Taken t p sh xs g) j&&(ik !=3||decide (j≥r05_Slots ic))) (R_ (false)) (Q1 (IntKind.wrap IntKind.i64 (j+1)) (ik) (il) (ic) (g))))))) (aw_ ((ik==3)=true→AGood {t:=t,p:=p,s:=sh} xs) (aw_ ((ik==3)=true→0≤g∧g<p) (bw_ (ik==3&&x_Taken t p sh xs g==0) (R_ (false)) (Q0 (IntKind.wrap IntKind.i64 (g+1)))))))
def x_slots_I1 (t p sh:Int) (xs:LI) (j ik il ic g:Int) (r_:Bool):Prop:=0≤g∧g<p∧0≤j∧j≤32∧ik=(aInfo ⟨t,p,sh⟩ xs g).k∧ic=(aInfo ⟨t,p,sh⟩ xs g).c∧(bif slotsB ⟨t,p,sh⟩ xs g (aInfo ⟨t,p,sh⟩ xs g) (32-j).toNat then (bif (aInfo ⟨t,p,sh⟩ xs g).k==3&&cel xs (Cf.taken ⟨t,p,sh⟩ g)==0 then false else slotsF ⟨t,p,sh⟩ xs (p-(g+1)).toNat) else false)=r_
abbrev x_slots_h0 (p0:Addr) (t p sh:Int) (xs:LI):Hd Sg:=⟨none,[0,1,0,1],[.blk 0, .code [1,1]],[3,1],[.i .i64, .box 102 [.ic .i64 (t), .ic .i64 (p), .ic .i64 (sh), .roc [.ints .u32 (xs)]]]⟩
abbrev x_slots_h1 (p0:Addr) (t p sh:Int) (xs:LI):Hd Sg:=⟨none,[0,1,0,1,0,0,1,0,0,1,0,1],[.blk 2, .code [1,1,0,0,1,0,0,1,0,1], .blk 1, .code [1,1,0,0,1,0,1], .again [0,1,0,1], .blk 0, .code [1,1]],[5,4,3,1],[.i .i64, .box 105 [.i .i64, .i .i64, .i .i64], .i .i64, .box 102 [.ic .i64 (t), .ic .i64 (p), .ic .i64 (sh), .roc [.ints .u32 (xs)]]]⟩
theorem x_slots_begin (t p sh:Int) (xs:LI) (hp0:AGood ⟨t,p,sh⟩ xs) (hl0:xs.length≤9223372036854775807):x_slots_w t p sh xs (fun g'=>x_slots_I0 t p sh xs g' (x_slots t p sh xs)) (fun j' ik' il' ic' g'=>x_slots_I1 t p sh xs j' ik' il' ic' g' (x_slots t p sh xs)) (fun r__=>r__=(x_slots t p sh xs)):=by
 unfold x_slots_w
 try unfold x_slots_I0
 try unfold x_slots_I1
 have hok:=Cf.ok_iff.1 hp0.ok
 simp only at hok
 refine ⟨by omega,by omega,?_⟩
 show _=slotsOk ⟨t,p,sh⟩ xs
 unfold slotsOk
 rw [show (p-0).toNat=p.toNat by omega]
theorem x_slots_step0 (t p sh:Int) (xs:LI) (hp0:AGood ⟨t,p,sh⟩ xs) (hl0:xs.length≤9223372036854775807) (g:Int) {r_:Bool} (hI:x_slots_I0 t p sh xs g r_):x_slots_w0 t p sh xs g (fun g'=>x_slots_I0 t p sh xs g' r_∧lx ((p-g').toNat,33,0) ((p-g).toNat,33,0)) (fun j' ik' il' ic' g'=>x_slots_I1 t p sh xs j' ik' il' ic' g' r_∧lx ((p-g').toNat,(32-j').toNat,0) ((p-g).toNat,33,0)) (fun r__=>r__=r_):=by
 unfold x_slots_I0 at hI
 unfold x_slots_w0
 try unfold x_slots_I0
 try unfold x_slots_I1
 obtain ⟨h0,h1,hr⟩:=hI
 refine ⟨fun h=>?_,fun h=>?_⟩
 ·simp only [decide_eq_true_eq] at h
  have e:(p-g).toNat=(p-(g+1)).toNat+1:=by omega
  have ei:(p:Int)-(((p-(g+1)).toNat+1:Nat):Int)=g:=by omega
  rw [e] at hr
  simp only [slotsF] at hr
  rw [ei] at hr
  exact ⟨hp0,fun _=>⟨⟨h0,h⟩,fun _=>⟨⟨h0,h,by omega,by omega,rfl,rfl,hr⟩,lxp_⟩⟩⟩
 ·simp only [decide_eq_false_iff_not] at h
  rw [show (p-g).toNat=0 by omega] at hr
  exact hr
theorem x_slots_step1 (t p sh:Int) (xs:LI) (hp0:AGood ⟨t,p,sh⟩ xs) (hl0:xs.length≤9223372036854775807) (j ik il ic g:Int) {r_:Bool} (hI:x_slots_I1 t p sh xs j ik il ic g r_):x_slots_w1 t p sh xs j ik il ic g (fun g'=>x_slots_I0 t p sh xs g' r_∧lx ((p-g').toNat,33,0) ((p-g).toNat,(32-j).toNat,0)) (fun j' ik' il' ic' g'=>x_slots_I1 t p sh xs j' ik' il' ic' g' r_∧lx ((p-g').toNat,(32-j').toNat,0) ((p-g).toNat,(32-j).toNat,0)) (fun r__=>r__=r_):=by
 unfold x_slots_I1 at hI
 unfold x_slots_w1
 try unfold x_slots_I0
 try unfold x_slots_I1
 obtain ⟨h0,h1,h2,h3,rfl,rfl,hr⟩:=hI
 have hok:=Cf.ok_iff.1 hp0.ok
 simp only at hok
 have hbs:=cel_bd hp0 (Cf.slots ⟨t,p,sh⟩ g)
 have hbt:=cel_bd hp0 (Cf.taken ⟨t,p,sh⟩ g)
 have hg:0≤g∧g<p:=⟨h0,h1⟩
 refine ⟨fun h=>?_,fun h=>?_⟩
 ·simp only [decide_eq_true_eq] at h
  have e:(32-j).toNat=(32-(j+1)).toNat+1:=by omega
  have ej:(32:Int)-(((32-(j+1)).toNat+1:Nat):Int)=j:=by omega
  rw [e] at hr
  simp only [slotsB] at hr
  rw [ej] at hr
  have hb1:r01_Bit (x_Slots t p sh xs g) j=bitAt (cel xs (Cf.slots ⟨t,p,sh⟩ g)) j:=bit_eq hbs j
  have hb2:r01_Bit (x_Taken t p sh xs g) j=bitAt (cel xs (Cf.taken ⟨t,p,sh⟩ g)) j:=bit_eq hbt j
  rw [w64 (n:=j+1) (by omega),hb1,hb2,r05_Slots_eq]
  refine ⟨hp0,fun _=>⟨hg,fun _=>⟨hp0,fun _=>⟨hg,fun _=>⟨fun hc=>?_,fun hc=>?_⟩⟩⟩⟩⟩
  ·rw [hc,cond_true,cond_false] at hr;exact hr
  ·rw [hc,cond_false] at hr
   exact ⟨⟨h0,h1,by omega,by omega,rfl,rfl,hr⟩,lxp_⟩
 ·simp only [decide_eq_false_iff_not] at h
  rw [show (32-j).toNat=0 by omega] at hr
  simp only [slotsB,cond_true] at hr
  rw [w64 (n:=g+1) (by omega)]
  refine ⟨fun _=>hp0,fun _=>⟨fun _=>hg,fun _=>⟨fun hc=>?_,fun hc=>?_⟩⟩⟩
  ·have hc':((aInfo ⟨t,p,sh⟩ xs g).k==3&&cel xs (Cf.taken ⟨t,p,sh⟩ g)==0)=true:=hc
   rw [hc',cond_true] at hr;exact hr
  ·have hc':((aInfo ⟨t,p,sh⟩ xs g).k==3&&cel xs (Cf.taken ⟨t,p,sh⟩ g)==0)=false:=hc
   rw [hc',cond_false] at hr
   exact ⟨⟨by omega,by omega,hr⟩,lxp_⟩
theorem x_slots_ok:EOk 150 e_x_slots:=
 ent_wp Dg T_x_racks_ok (I:=[103000000003,103000000001,5703000000005,5703000000004,5703000000003,5703000000001]) Tryz.func150 mix (B:=bodyOf Tryz.f150) (by kernel_rfl) rfl (by kernel_rfl) 400
  fun p0 t p sh xs hb hp=>have hl0:xs.length≤9223372036854775807:=hb.1.2.2.2.1;have hp0:AGood ⟨t,p,sh⟩ xs:=hp _ (.head _);⟨[x_slots_h0 p0 t p sh xs,x_slots_h1 p0 t p sh xs],fun j=>List.getD [appC (Hd.kd (x_slots_h0 p0 t p sh xs)) (fun g'=>x_slots_I0 t p sh xs g' (x_slots t p sh xs)),appC (Hd.kd (x_slots_h1 p0 t p sh xs)) (fun j' ik' il' ic' g'=>x_slots_I1 t p sh xs j' ik' il' ic' g' (x_slots t p sh xs))] j (fun _=>False),fun j=>List.getD [appC (Hd.kd (x_slots_h0 p0 t p sh xs)) (fun g'=>((p-g').toNat,33,0)),appC (Hd.kd (x_slots_h1 p0 t p sh xs)) (fun j' ik' il' ic' g'=>((p-g').toNat,(32-j').toNat,0))] j (fun _=>(0,0,0)),by kernel_rfl,⟨_,fun _ _ _=>by kernel_rfl,x_slots_begin t p sh xs hp0 hl0⟩,⟨fun g hI=>⟨_,fun _ _ _=>by kernel_rfl,x_slots_step0 t p sh xs hp0 hl0 g hI⟩,⟨fun j ik il ic g hI=>⟨_,fun _ _ _=>by kernel_rfl,x_slots_step1 t p sh xs hp0 hl0 j ik il ic g hI⟩,trivial⟩⟩⟩
def T_x_slots:Tb:=(150,e_x_slots)::T_x_racks
theorem T_x_slots_ok:TOk T_x_slots:=tc_ x_slots_ok T_x_racks_ok
end Go.Proofs.YtjfabjhlkpgckaaGreat
namespace Go.Proofs.YtjfabjhlkpgckaaGreat
open Go.Sl
def r12_Has (ls zs:LI) (g:Int):Bool:=ls.contains g
abbrev c_r12_Has:Ct Sg:=⟨none,false,[.ro [some .i64,some .i64], .i .i64], .b⟩
def e_r12_Has:Entry Sg:=entC c_r12_Has r12_Has (fun _ _ _=>[])
def r12_Has_w (ls zs:LI) (g:Int) (Q0:Int→Prop) (R_:Bool→Prop):Prop:=(Q0 (0))
def r12_Has_w0 (ls zs:LI) (g i:Int) (Q0:Int→Prop) (R_:Bool→Prop):Prop:=(bw_ (decide (i<(↑(List.length ls):Int))) (aw_ (0≤i∧i<(↑(List.length ls):Int)) (bw_ (List.getD ls (Int.toNat i) 0==g) (R_ (true)) (Q0 (IntKind.wrap IntKind.i64 (i+1))))) (R_ (false)))
def r12_Has_I0 (ls zs:LI) (g i:Int) (r_:Bool):Prop:=0≤i∧i≤ls.length∧(ls.take i.toNat).contains g=false∧ls.length≤9223372036854775807∧r_=ls.contains g
abbrev r12_Has_h0 (p0:Addr) (ls zs:LI) (g:Int):Hd Sg:=⟨none,[0,1,0,1],[.blk 0, .code [1,1]],[5,0,1],[.i .i64, .roc [.ints .i64 (ls), .ints .i64 (zs)], .ic .i64 (g)]⟩
theorem r12_Has_begin (ls zs:LI) (g:Int) (hl0:ls.length≤9223372036854775807):r12_Has_w ls zs g (fun i'=>r12_Has_I0 ls zs g i' (r12_Has ls zs g)) (fun r__=>r__=(r12_Has ls zs g)):=by
 unfold r12_Has_w
 try unfold r12_Has_I0
 exact ⟨by omega,by omega,by simp,hl0,rfl⟩
theorem r12_Has_step0 (ls zs:LI) (g:Int) (hl0:ls.length≤9223372036854775807) (i:Int) {r_:Bool} (hI:r12_Has_I0 ls zs g i r_):r12_Has_w0 ls zs g i (fun i'=>r12_Has_I0 ls zs g i' r_∧lx ((ls.length-i').toNat,0,0) ((ls.length-i).toNat,0,0)) (fun r__=>r__=r_):=by
 unfold r12_Has_I0 at hI
 unfold r12_Has_w0
 try unfold r12_Has_I0
 obtain ⟨h0,h1,h2,h3,hr⟩:=hI
 refine ⟨fun h=>?_,fun h=>?_⟩
 ·simp only [decide_eq_true_eq] at h
  have hlt:i.toNat<ls.length:=by omega
  have ht:ls.take (i+1).toNat=ls.take i.toNat++[ls.getD i.toNat 0]:=by
   rw [show (i+1).toNat=i.toNat+1 by omega,List.take_add_one,List.getD_eq_getElem?_getD,List.getElem?_eq_getElem hlt];rfl
  rw [w64 (n:=i+1) (by omega)]
  refine ⟨⟨h0,h⟩,fun _=>⟨fun hc=>?_,fun hc=>?_⟩⟩
  ·have hm:=getD_memA hlt
   simp only [beq_iff_eq] at hc
   rw [hc] at hm
   show true=r_
   rw [hr]
   simpa using hm
  ·refine ⟨⟨by omega,by omega,?_,h3,hr⟩,lxo_⟩
   rw [ht]
   generalize ls.getD i.toNat 0=q at hc
   simp only [beq_eq_false_iff_ne] at hc
   simp only [List.contains_eq_mem,List.mem_append,decide_eq_false_iff_not] at h2 ⊢
   intro hh
   rcases hh with hh|hh
   ·exact h2 hh
   ·exact hc (List.mem_singleton.1 hh).symm
 ·simp only [decide_eq_false_iff_not] at h
  rw [List.take_of_length_le (by omega)] at h2
  show false=r_
  rw [hr,h2]
theorem r12_Has_ok:EOk 181 e_r12_Has:=
 ent_wp Dg T_x_slots_ok (I:=[103000000005,103000000000,103000000001]) Tryz.func181 mix (B:=bodyOf Tryz.f181) (by kernel_rfl) rfl (by kernel_rfl) 400
  fun p0 ls zs g hb hp=>have hl0:ls.length≤9223372036854775807:=hb.1;⟨[r12_Has_h0 p0 ls zs g],fun j=>List.getD [appC (Hd.kd (r12_Has_h0 p0 ls zs g)) (fun i'=>r12_Has_I0 ls zs g i' (r12_Has ls zs g))] j (fun _=>False),fun j=>List.getD [appC (Hd.kd (r12_Has_h0 p0 ls zs g)) (fun i'=>((ls.length-i').toNat,0,0))] j (fun _=>(0,0,0)),by kernel_rfl,⟨_,fun _ _ _=>by kernel_rfl,r12_Has_begin ls zs g hl0⟩,⟨fun i hI=>⟨_,fun _ _ _=>by kernel_rfl,r12_Has_step0 ls zs g hl0 i hI⟩,trivial⟩⟩
def T_r12_Has:Tb:=(181,e_r12_Has)::T_x_slots
theorem T_r12_Has_ok:TOk T_r12_Has:=tc_ r12_Has_ok T_x_slots_ok
def r04_Page (t p sh:Int):Int:=bif r04_Right t p sh then 2^sh.toNat else 0
abbrev c_r04_Page:Ct Sg:=⟨none,false,[.agg [.i .i64, .i .i64, .i .i64]], .i .i64⟩
def e_r04_Page:Entry Sg:=entC c_r04_Page r04_Page (fun _ _ _=>[])
def r04_Page_w (t p sh:Int) (Q0:Int→Int→Prop) (R_:Int→Prop):Prop:=(bw_ (!r04_Right t p sh) (R_ (0)) (Q0 (0) (1)))
def r04_Page_w0 (t p sh i m:Int) (Q0:Int→Int→Prop) (R_:Int→Prop):Prop:=(bw_ (decide (i<sh)) (Q0 (IntKind.wrap IntKind.i64 (i+1)) (IntKind.wrap IntKind.i64 (m*2))) (R_ (m)))
def r04_Page_I0 (t p sh i m r_:Int):Prop:=0≤i∧i≤sh∧sh≤20∧m=2^i.toNat∧r_=2^sh.toNat
abbrev r04_Page_h0 (p0:Addr) (t p sh:Int):Hd Sg:=⟨none,[0,1,0,1,1,1],[.blk 0, .code [1,1,1,1]],[4,3,1],[.i .i64, .i .i64, .box 23 [.ic .i64 (t), .ic .i64 (p), .ic .i64 (sh)]]⟩
theorem r04_Page_begin (t p sh:Int):r04_Page_w t p sh (fun i' m'=>r04_Page_I0 t p sh i' m' (r04_Page t p sh)) (fun r__=>r__=(r04_Page t p sh)):=by
 unfold r04_Page_w
 try unfold r04_Page_I0
 refine ⟨fun hc=>?_,fun hc=>?_⟩
 ·have e:r04_Right t p sh=false:=by simpa using hc
  show (0:Int)=r04_Page t p sh
  unfold r04_Page
  rw [e];rfl
 ·have e:r04_Right t p sh=true:=by simpa using hc
  have e':=e
  simp only [r04_Right,Bool.and_eq_true,decide_eq_true_eq] at e'
  refine ⟨by omega,by omega,by omega,rfl,?_⟩
  unfold r04_Page
  rw [e];rfl
theorem r04_Page_step0 (t p sh i m:Int) {r_:Int} (hI:r04_Page_I0 t p sh i m r_):r04_Page_w0 t p sh i m (fun i' m'=>r04_Page_I0 t p sh i' m' r_∧lx ((sh-i').toNat,0,0) ((sh-i).toNat,0,0)) (fun r__=>r__=r_):=by
 unfold r04_Page_I0 at hI
 unfold r04_Page_w0
 try unfold r04_Page_I0
 obtain ⟨h0,h1,h2,h3,hr⟩:=hI
 refine ⟨fun h=>?_,fun h=>?_⟩
 ·simp only [decide_eq_true_eq] at h
  have e:(2:Int)^(i+1).toNat=2^i.toNat*2:=by rw [show (i+1).toNat=i.toNat+1 by omega,Int.pow_succ]
  have hb:(2:Int)^i.toNat≤1048576:=by
   have h4:(2:Nat)^i.toNat≤2^20:=Nat.pow_le_pow_right (by omega) (by omega)
   have h5:((2^i.toNat:Nat):Int)≤((2^20:Nat):Int):=by exact_mod_cast h4
   simpa using h5
  have hb0:(0:Int)<2^i.toNat:=Int.pow_pos (by omega)
  rw [w64 (n:=i+1) (by omega),w64 (by omega)]
  exact ⟨⟨by omega,by omega,h2,by rw [e,h3],hr⟩,lxo_⟩
 ·simp only [decide_eq_false_iff_not] at h
  have e:i=sh:=by omega
  subst e
  rw [hr];exact h3
theorem r04_Page_ok:EOk 112 e_r04_Page:=
 ent_wp Dg T_r12_Has_ok (I:=[1643000000004,1643000000003,1643000000001]) Tryz.func112 mix (B:=bodyOf Tryz.f112) (by kernel_rfl) rfl (by kernel_rfl) 400
  fun p0 t p sh hb hp=>⟨[r04_Page_h0 p0 t p sh],fun j=>List.getD [appC (Hd.kd (r04_Page_h0 p0 t p sh)) (fun i' m'=>r04_Page_I0 t p sh i' m' (r04_Page t p sh))] j (fun _=>False),fun j=>List.getD [appC (Hd.kd (r04_Page_h0 p0 t p sh)) (fun i' m'=>((sh-i').toNat,0,0))] j (fun _=>(0,0,0)),by kernel_rfl,⟨_,fun _ _ _=>by kernel_rfl,r04_Page_begin t p sh⟩,⟨fun i m hI=>⟨_,fun _ _ _=>by kernel_rfl,r04_Page_step0 t p sh i m hI⟩,trivial⟩⟩
def T_r04_Page:Tb:=(112,e_r04_Page)::T_r12_Has
theorem T_r04_Page_ok:TOk T_r04_Page:=tc_ r04_Page_ok T_r12_Has_ok
def r05_Size (sh k:Int):Int:=(bif r05_Slots k==0||r04_Page 1 4 sh==0 then 0 else IntKind.wrap IntKind.i64 (IntKind.wrap IntKind.i64 (Int.tdiv (r04_Page 1 4 sh) (r05_Slots k))-Int.tmod (IntKind.wrap IntKind.i64 (Int.tdiv (r04_Page 1 4 sh) (r05_Slots k))) 16))
abbrev c_r05_Size:Ct Sg:=⟨none,false,[.i .i64, .i .i64], .i .i64⟩
def e_r05_Size:Entry Sg:=entC c_r05_Size r05_Size (fun _ _=>[])
theorem r05_Size_ok:EOk 66 e_r05_Size:=
 ent_ok Dg T_r04_Page_ok (I:=[]) Tryz.func66 mix (B:=bodyOf Tryz.f66) (by kernel_rfl) rfl (by kernel_rfl) 400
  fun _ sh k hb hp=>⟨(r05_Size sh k),(.br (r05_Slots k==0||r04_Page 1 4 sh==0) .t (.need (r05_Slots k≠0) .t)),fun _ _ _=>by kernel_rfl,⟨fun z0=>trivial,fun z0=>⟨(by first|omega|(simp_all;done)),fun z1=>trivial⟩⟩,rfl⟩
def T_r05_Size:Tb:=(66,e_r05_Size)::T_r04_Page
theorem T_r05_Size_ok:TOk T_r05_Size:=tc_ r05_Size_ok T_r04_Page_ok
def r06_Of (t p sh g o:Int):Int×Bool:=(bif !r04_Right t p sh||decide (g<0)||decide (g≥p)||decide (o<0)||decide (o≥r04_Page t p sh) then (0,false) else (IntKind.wrap IntKind.i64 (IntKind.wrap IntKind.i64 (IntKind.wrap IntKind.i64 (g+1)*r04_Page t p sh)+o),true))
abbrev c_r06_Of:Ct Sg:=⟨none,false,[.agg [.i .i64, .i .i64, .i .i64], .i .i64, .i .i64], .tup [.i .i64, .b]⟩
def e_r06_Of:Entry Sg:=entC c_r06_Of r06_Of (fun _ _ _ _ _=>[])
theorem r06_Of_ok:EOk 90 e_r06_Of:=
 ent_ok Dg T_r05_Size_ok (I:=[]) Tryz.func90 mix (B:=bodyOf Tryz.f90) (by kernel_rfl) rfl (by kernel_rfl) 400
  fun _ t p sh g o hb hp=>⟨(r06_Of t p sh g o), .t,fun _ _ _=>by kernel_rfl,trivial,rfl⟩
def T_r06_Of:Tb:=(90,e_r06_Of)::T_r05_Size
theorem T_r06_Of_ok:TOk T_r06_Of:=tc_ r06_Of_ok T_r05_Size_ok
def r06_At (t p sh k g j:Int):Int×Bool:=(bif decide (j<0)||decide (j≥r05_Slots k) then (0,false) else (Prod.fst (r06_Of t p sh g (IntKind.wrap IntKind.i64 (j*r05_Size sh k))),Prod.snd (r06_Of t p sh g (IntKind.wrap IntKind.i64 (j*r05_Size sh k)))))
abbrev c_r06_At:Ct Sg:=⟨none,false,[.agg [.i .i64, .i .i64, .i .i64], .i .i64, .i .i64, .i .i64], .tup [.i .i64, .b]⟩
def e_r06_At:Entry Sg:=entC c_r06_At r06_At (fun _ _ _ _ _ _=>[])
theorem r06_At_ok:EOk 40 e_r06_At:=
 ent_ok Dg T_r06_Of_ok (I:=[]) Tryz.func40 mix (B:=bodyOf Tryz.f40) (by kernel_rfl) rfl (by kernel_rfl) 400
  fun _ t p sh k g j hb hp=>⟨(r06_At t p sh k g j), .t,fun _ _ _=>by kernel_rfl,trivial,rfl⟩
def T_r06_At:Tb:=(40,e_r06_At)::T_r06_Of
theorem T_r06_At_ok:TOk T_r06_At:=tc_ r06_At_ok T_r06_Of_ok
end Go.Proofs.YtjfabjhlkpgckaaGreat
namespace Go.Proofs.YtjfabjhlkpgckaaGreat
open Go.Sl
def x_feet (t p sh:Int) (xs:LI):Bool:=feet ⟨t,p,sh⟩ xs
abbrev c_x_feet:Ct Sg:=⟨none,false,[.agg [.i .i64, .i .i64, .i .i64, .ro [some .u32]]], .b⟩
def e_x_feet:Entry Sg:=entC c_x_feet x_feet (fun t p sh xs=>[AGood ⟨t,p,sh⟩ xs,(starts ⟨t,p,sh⟩ xs).2=true])
def x_feet_w (t p sh:Int) (xs:LI) (Q0:Int→Int→Nat→LI→Prop) (R_:Bool→Prop):Prop:=(∀r1:LI×Bool,r1=(x_starts t p sh xs)→(aw_ (AGood {t:=t,p:=p,s:=sh} xs) (Q0 (0) (0) (List.length r1.1) r1.1)))
def x_feet_w0 (t p sh:Int) (xs:LI) (i n:Int) (n1:Nat) (ls:LI) (Q0:Int→Int→Nat→LI→Prop) (R_:Bool→Prop):Prop:=(bw_ (decide (i<p)) (aw_ (decide (IntKind.wrap IntKind.i64 (n+1)<(↑n1:Int))=true→0≤IntKind.wrap IntKind.i64 (n+1)∧IntKind.wrap IntKind.i64 (n+1)<(↑n1:Int)) (bw_ (decide (IntKind.wrap IntKind.i64 (n+1)<(↑n1:Int))&&List.getD ls (Int.toNat (IntKind.wrap IntKind.i64 (n+1))) 0==i) (aw_ (0≤IntKind.wrap IntKind.i64 (n+1)∧IntKind.wrap IntKind.i64 (n+1)<(↑n1:Int)) (aw_ (0≤IntKind.wrap IntKind.i64 (n+1)∧IntKind.wrap IntKind.i64 (n+1)<(↑n1:Int)) (aw_ (AGood {t:=t,p:=p,s:=sh} xs) (aw_ (0≤List.getD ls (Int.toNat (IntKind.wrap IntKind.i64 (n+1))) 0∧List.getD ls (Int.toNat (IntKind.wrap IntKind.i64 (n+1))) 0<p) (bw_ (i==IntKind.wrap IntKind.i64 (IntKind.wrap IntKind.i64 (List.getD ls (Int.toNat (IntKind.wrap IntKind.i64 (n+1))) 0+Prod.fst (If.l (aInfo {t:=t,p:=p,s:=sh} xs (List.getD ls (Int.toNat (IntKind.wrap IntKind.i64 (n+1))) 0)),If.c (aInfo {t:=t,p:=p,s:=sh} xs (List.getD ls (Int.toNat (IntKind.wrap IntKind.i64 (n+1))) 0))))-1)) (aw_ (0≤IntKind.wrap IntKind.i64 (n+1)∧IntKind.wrap IntKind.i64 (n+1)<(↑n1:Int)) (aw_ (0≤r07_Foot t p sh i∧r07_Foot t p sh i<(↑(List.length xs):Int)) (bw_ (List.getD xs (Int.toNat (r07_Foot t p sh i)) 0 !=IntKind.wrap IntKind.u32 (IntKind.wrap IntKind.i64 (List.getD ls (Int.toNat (IntKind.wrap IntKind.i64 (n+1))) (0:Int)+1))) (R_ (false)) (Q0 (IntKind.wrap IntKind.i64 (i+1)) (IntKind.wrap IntKind.i64 (n+1)) (n1) (ls))))) (aw_ (0≤r07_Foot t p sh i∧r07_Foot t p sh i<(↑(List.length xs):Int)) (bw_ (List.getD xs (Int.toNat (r07_Foot t p sh i)) (0:Int) !=0) (R_ (false)) (Q0 (IntKind.wrap IntKind.i64 (i+1)) (IntKind.wrap IntKind.i64 (n+1)) (n1) (ls))))))))) (aw_ (0≤n∧n<(↑n1:Int)) (aw_ (0≤n∧n<(↑n1:Int)) (aw_ (AGood {t:=t,p:=p,s:=sh} xs) (aw_ (0≤List.getD ls (Int.toNat n) 0∧List.getD ls (Int.toNat n) 0<p) (bw_ (i==IntKind.wrap IntKind.i64 (IntKind.wrap IntKind.i64 (List.getD ls (Int.toNat n) 0+Prod.fst (If.l (aInfo {t:=t,p:=p,s:=sh} xs (List.getD ls (Int.toNat n) 0)),If.c (aInfo {t:=t,p:=p,s:=sh} xs (List.getD ls (Int.toNat n) 0))))-1)) (aw_ (0≤n∧n<(↑n1:Int)) (aw_ (0≤r07_Foot t p sh i∧r07_Foot t p sh i<(↑(List.length xs):Int)) (bw_ (List.getD xs (Int.toNat (r07_Foot t p sh i)) 0 !=IntKind.wrap IntKind.u32 (IntKind.wrap IntKind.i64 (List.getD ls (Int.toNat n) (0:Int)+1))) (R_ (false)) (Q0 (IntKind.wrap IntKind.i64 (i+1)) (n) (n1) (ls))))) (aw_ (0≤r07_Foot t p sh i∧r07_Foot t p sh i<(↑(List.length xs):Int)) (bw_ (List.getD xs (Int.toNat (r07_Foot t p sh i)) (0:Int) !=0) (R_ (false)) (Q0 (IntKind.wrap IntKind.i64 (i+1)) (n) (n1) (ls))))))))))) (R_ (true)))
def x_feet_I0 (t p sh:Int) (xs:LI) (i n:Int) (n1:Nat) (ls:LI) (r_:Bool):Prop:=0≤i∧i≤p∧0≤n∧n<ls.length∧n1=ls.length∧ls=(starts ⟨t,p,sh⟩ xs).1∧feetF ⟨t,p,sh⟩ xs ls (p-i).toNat n.toNat=r_
abbrev x_feet_h0 (p0:Addr) (t p sh:Int) (xs:LI):Hd Sg:=⟨none,[0,1,0,1,1,1],[.blk 0, .code [1,1,1,1]],[6,5,3,1],[.i .i64, .i .i64, .own 3 [some .i64], .box 102 [.ic .i64 (t), .ic .i64 (p), .ic .i64 (sh), .roc [.ints .u32 (xs)]]]⟩
theorem x_feet_begin (t p sh:Int) (xs:LI) (hp0:AGood ⟨t,p,sh⟩ xs) (hp1:(starts ⟨t,p,sh⟩ xs).2=true) (hl0:xs.length≤9223372036854775807):x_feet_w t p sh xs (fun i' n' n1' ls'=>x_feet_I0 t p sh xs i' n' n1' ls' (x_feet t p sh xs)) (fun r__=>r__=(x_feet t p sh xs)):=by
 unfold x_feet_w
 try unfold x_feet_I0
 have hok:=Cf.ok_iff.1 hp0.ok
 simp only at hok
 have hne:=starts_ne (c:=⟨t,p,sh⟩) (xs:=xs) (by show 1≤p;omega) hp1
 rintro r1 rfl
 refine ⟨hp0,fun _=>⟨by omega,by omega,by omega,?_,rfl,rfl,?_⟩⟩
 ·show (0:Int)<((starts ⟨t,p,sh⟩ xs).1.length:Int)
  omega
 ·show feetF ⟨t,p,sh⟩ xs (starts ⟨t,p,sh⟩ xs).1 (p-0).toNat (Int.toNat 0)=feet ⟨t,p,sh⟩ xs
  unfold feet
  rw [show (p-0).toNat=p.toNat by omega]
  rfl
theorem x_feet_step0 (t p sh:Int) (xs:LI) (hp0:AGood ⟨t,p,sh⟩ xs) (hp1:(starts ⟨t,p,sh⟩ xs).2=true) (hl0:xs.length≤9223372036854775807) (i n:Int) (n1:Nat) (ls:LI) {r_:Bool} (hI:x_feet_I0 t p sh xs i n n1 ls r_):x_feet_w0 t p sh xs i n n1 ls (fun i' n' n1' ls'=>x_feet_I0 t p sh xs i' n' n1' ls' r_∧lx ((p-i').toNat,0,0) ((p-i).toNat,0,0)) (fun r__=>r__=r_):=by
 unfold x_feet_I0 at hI
 unfold x_feet_w0
 try unfold x_feet_I0
 obtain ⟨h0,h1,h2,h3,h4,h5,hr⟩:=hI
 have hok:=Cf.ok_iff.1 hp0.ok
 simp only at hok
 have hlen:(ls.length:Int)≤p+1:=by
  have:=starts_len (c:=⟨t,p,sh⟩) (xs:=xs)
  rw [←h5] at this
  simp only at this
  omega
 refine ⟨fun h=>?_,fun h=>?_⟩
 ·simp only [decide_eq_true_eq] at h
  have hft:=pc_in hp0 (g:=i) (k:=1) ⟨h0,h⟩ (by omega)
  have e:(p-i).toNat=(p-(i+1)).toNat+1:=by omega
  have ei:(p:Int)-(((p-(i+1)).toNat+1:Nat):Int)=i:=by omega
  rw [e] at hr
  simp only [feetF] at hr
  rw [ei] at hr
  have hmem:∀q:Nat,q<ls.length→0≤ls.getD q 0∧ls.getD q 0<p:=fun q hq=>starts_in (c:=⟨t,p,sh⟩) (xs:=xs) _ (by rw [←h5];exact getD_memA hq)
  have hw:∀x:Int,0≤x→x<p→IntKind.i64.wrap (IntKind.i64.wrap (x+(aInfo ⟨t,p,sh⟩ xs x).l)-1)=x+(aInfo ⟨t,p,sh⟩ xs x).l-1:=fun x a b=>by
   have h7:=iGet_bd (cel xs (Cf.info ⟨t,p,sh⟩ x))
   have h8:0≤(aInfo ⟨t,p,sh⟩ xs x).l∧(aInfo ⟨t,p,sh⟩ xs x).l≤1024:=⟨h7.2.2.1,h7.2.2.2.1⟩
   rw [w64 (n:=x+(aInfo ⟨t,p,sh⟩ xs x).l) (by omega),w64 (by omega)]
  have hv:∀x:Int,0≤x→x<p→IntKind.u32.wrap (IntKind.i64.wrap (x+1))=nv (x+1):=fun x a b=>by rw [w64 (n:=x+1) (by omega),wrapu_nv]
  have hn1:decide (n+1<(n1:Int))=decide (n.toNat+1<ls.length):=by rw [h4];apply decide_eq_decide.2;omega
  have en:(n+1).toNat=n.toNat+1:=by omega
  rw [w64 (n:=n+1) (by omega),w64 (n:=i+1) (by omega),r07_Foot_eq,hn1,en]
  refine ⟨fun hh=>(by simp only [decide_eq_true_eq] at hh;omega),fun _=>⟨fun hc=>?_,fun hc=>?_⟩⟩
  ·rw [hc,cond_true] at hr
   have hlt:n.toNat+1<ls.length:=by simp only [Bool.and_eq_true,decide_eq_true_eq] at hc;exact hc.1
   have hq:0≤n+1∧n+1<(n1:Int):=by omega
   have hm:=hmem (n.toNat+1) hlt
   refine ⟨hq,fun _=>⟨hq,fun _=>⟨hp0,fun _=>⟨hm,fun _=>⟨fun hcc=>⟨hq,fun _=>⟨hft,fun _=>⟨fun hz=>?_,fun hz=>?_⟩⟩⟩,fun hcc=>⟨hft,fun _=>⟨fun hz=>?_,fun hz=>?_⟩⟩⟩⟩⟩⟩⟩
   ·have hcc':(i==ls.getD (n.toNat+1) 0+(aInfo ⟨t,p,sh⟩ xs (ls.getD (n.toNat+1) 0)).l-1)=true:=by rw [←hw _ hm.1 hm.2];exact hcc
    have hz':(cel xs (Cf.foot ⟨t,p,sh⟩ i) !=nv (ls.getD (n.toNat+1) 0+1))=true:=by rw [←hv _ hm.1 hm.2];exact hz
    rw [hcc',cond_true,hz',cond_true] at hr;exact hr
   ·have hcc':(i==ls.getD (n.toNat+1) 0+(aInfo ⟨t,p,sh⟩ xs (ls.getD (n.toNat+1) 0)).l-1)=true:=by rw [←hw _ hm.1 hm.2];exact hcc
    have hz':(cel xs (Cf.foot ⟨t,p,sh⟩ i) !=nv (ls.getD (n.toNat+1) 0+1))=false:=by rw [←hv _ hm.1 hm.2];exact hz
    rw [hcc',cond_true,hz',cond_false] at hr
    exact ⟨⟨by omega,by omega,by omega,by omega,h4,h5,by rw [en];exact hr⟩,lxo_⟩
   ·have hcc':(i==ls.getD (n.toNat+1) 0+(aInfo ⟨t,p,sh⟩ xs (ls.getD (n.toNat+1) 0)).l-1)=false:=by rw [←hw _ hm.1 hm.2];exact hcc
    have hz':(cel xs (Cf.foot ⟨t,p,sh⟩ i) !=0)=true:=hz
    rw [hcc',cond_false,hz',cond_true] at hr;exact hr
   ·have hcc':(i==ls.getD (n.toNat+1) 0+(aInfo ⟨t,p,sh⟩ xs (ls.getD (n.toNat+1) 0)).l-1)=false:=by rw [←hw _ hm.1 hm.2];exact hcc
    have hz':(cel xs (Cf.foot ⟨t,p,sh⟩ i) !=0)=false:=hz
    rw [hcc',cond_false,hz',cond_false] at hr
    exact ⟨⟨by omega,by omega,by omega,by omega,h4,h5,by rw [en];exact hr⟩,lxo_⟩
  ·rw [hc,cond_false] at hr
   have hlt:n.toNat<ls.length:=by omega
   have hq:0≤n∧n<(n1:Int):=by omega
   have hm:=hmem (n.toNat) hlt
   refine ⟨hq,fun _=>⟨hq,fun _=>⟨hp0,fun _=>⟨hm,fun _=>⟨fun hcc=>⟨hq,fun _=>⟨hft,fun _=>⟨fun hz=>?_,fun hz=>?_⟩⟩⟩,fun hcc=>⟨hft,fun _=>⟨fun hz=>?_,fun hz=>?_⟩⟩⟩⟩⟩⟩⟩
   ·have hcc':(i==ls.getD (n.toNat) 0+(aInfo ⟨t,p,sh⟩ xs (ls.getD (n.toNat) 0)).l-1)=true:=by rw [←hw _ hm.1 hm.2];exact hcc
    have hz':(cel xs (Cf.foot ⟨t,p,sh⟩ i) !=nv (ls.getD (n.toNat) 0+1))=true:=by rw [←hv _ hm.1 hm.2];exact hz
    rw [hcc',cond_true,hz',cond_true] at hr;exact hr
   ·have hcc':(i==ls.getD (n.toNat) 0+(aInfo ⟨t,p,sh⟩ xs (ls.getD (n.toNat) 0)).l-1)=true:=by rw [←hw _ hm.1 hm.2];exact hcc
    have hz':(cel xs (Cf.foot ⟨t,p,sh⟩ i) !=nv (ls.getD (n.toNat) 0+1))=false:=by rw [←hv _ hm.1 hm.2];exact hz
    rw [hcc',cond_true,hz',cond_false] at hr
    exact ⟨⟨by omega,by omega,by omega,by omega,h4,h5,hr⟩,lxo_⟩
   ·have hcc':(i==ls.getD (n.toNat) 0+(aInfo ⟨t,p,sh⟩ xs (ls.getD (n.toNat) 0)).l-1)=false:=by rw [←hw _ hm.1 hm.2];exact hcc
    have hz':(cel xs (Cf.foot ⟨t,p,sh⟩ i) !=0)=true:=hz
    rw [hcc',cond_false,hz',cond_true] at hr;exact hr
   ·have hcc':(i==ls.getD (n.toNat) 0+(aInfo ⟨t,p,sh⟩ xs (ls.getD (n.toNat) 0)).l-1)=false:=by rw [←hw _ hm.1 hm.2];exact hcc
    have hz':(cel xs (Cf.foot ⟨t,p,sh⟩ i) !=0)=false:=hz
    rw [hcc',cond_false,hz',cond_false] at hr
    exact ⟨⟨by omega,by omega,by omega,by omega,h4,h5,hr⟩,lxo_⟩
 ·simp only [decide_eq_false_iff_not] at h
  rw [show (p-i).toNat=0 by omega] at hr
  exact hr
theorem x_feet_ok:EOk 148 e_x_feet:=
 ent_wp Dg T_r06_At_ok (I:=[1643000000006,1643000000005,1643000000003,1643000000001]) Tryz.func148 mix (B:=bodyOf Tryz.f148) (by kernel_rfl) rfl (by kernel_rfl) 400
  fun p0 t p sh xs hb hp=>have hl0:xs.length≤9223372036854775807:=hb.1.2.2.2.1;have hp0:AGood ⟨t,p,sh⟩ xs:=hp _ (.head _);have hp1:(starts ⟨t,p,sh⟩ xs).2=true:=hp _ (.tail _ (.head _));⟨[x_feet_h0 p0 t p sh xs],fun j=>List.getD [appC (Hd.kd (x_feet_h0 p0 t p sh xs)) (fun i' n' n1' ls'=>x_feet_I0 t p sh xs i' n' n1' ls' (x_feet t p sh xs))] j (fun _=>False),fun j=>List.getD [appC (Hd.kd (x_feet_h0 p0 t p sh xs)) (fun i' n' n1' ls'=>((p-i').toNat,0,0))] j (fun _=>(0,0,0)),by kernel_rfl,⟨_,fun _ _ _=>by kernel_rfl,x_feet_begin t p sh xs hp0 hp1 hl0⟩,⟨fun i n n1 ls hI=>⟨_,fun _ _ _=>by kernel_rfl,x_feet_step0 t p sh xs hp0 hp1 hl0 i n n1 ls hI⟩,trivial⟩⟩
def T_x_feet:Tb:=(148,e_x_feet)::T_r06_At
theorem T_x_feet_ok:TOk T_x_feet:=tc_ x_feet_ok T_r06_At_ok
end Go.Proofs.YtjfabjhlkpgckaaGreat
namespace Go.Sl
open Go.Proofs.YtjfabjhlkpgckaaGreat
structure Pt where
 k:Int
 a:Int
 s:Int
deriving DecidableEq
def pgB (sh:Int):Int:=2^sh.toNat
def szB (sh k:Int):Int:=pgB sh/kSlots k-pgB sh/kSlots k%16
theorem kSlots_bd (k:Int):0≤kSlots k∧kSlots k≤32:=by
 by_cases h:0≤k∧k≤8
 ·rcases (by omega:k=0∨k=1∨k=2∨k=3∨k=4∨k=5∨k=6∨k=7∨k=8) with rfl|rfl|rfl|rfl|rfl|rfl|rfl|rfl|rfl<;>decide
 ·unfold kSlots
  by_cases h0:0≤k
  ·have:decide (0≤k)=true:=by simpa using h0
   rw [this,cond_true,List.getD_eq_getElem?_getD,List.getElem?_eq_none (by simp;omega)];decide
  ·have:decide (0≤k)=false:=by simpa using h0
   rw [this];simp
theorem szB_all:∀a:Fin 11,∀k:Fin 9,r05_Size ((a.val+10:Nat):Int) (k.val:Int)=szB ((a.val+10:Nat):Int) (k.val:Int)∧16≤szB ((a.val+10:Nat):Int) (k.val:Int)∧szB ((a.val+10:Nat):Int) (k.val:Int)*kSlots (k.val:Int)≤pgB ((a.val+10:Nat):Int)∧1≤kSlots (k.val:Int)∧1024≤pgB ((a.val+10:Nat):Int)∧pgB ((a.val+10:Nat):Int)≤1048576∧szB ((a.val+10:Nat):Int) (k.val:Int)%16=0:=by decide+kernel
theorem szB_ok {sh k:Int} (h:10≤sh∧sh≤20) (hk:0≤k∧k≤8):r05_Size sh k=szB sh k∧16≤szB sh k∧szB sh k*kSlots k≤pgB sh∧1≤kSlots k∧1024≤pgB sh∧pgB sh≤1048576∧szB sh k%16=0:=by
 have:=szB_all ⟨(sh-10).toNat,by omega⟩ ⟨k.toNat,by omega⟩
 have e1:(((sh-10).toNat+10:Nat):Int)=sh:=by omega
 have e2:((k.toNat:Nat):Int)=k:=by omega
 simp only [e1,e2] at this
 exact this
theorem Cf.right {c:Cf} (h:c.ok=true):r04_Right c.t c.p c.s=true:=by
 have:=Cf.ok_iff.1 h
 simp only [r04_Right,Bool.and_eq_true,decide_eq_true_eq];omega
theorem page_pgB {c:Cf} (h:c.ok=true):r04_Page c.t c.p c.s=pgB c.s:=by
 unfold r04_Page pgB;rw [Cf.right h];rfl
theorem of_pgB {c:Cf} (h:c.ok=true) {g o:Int} (hg:0≤g∧g<c.p) (ho:0≤o∧o<pgB c.s):(r06_Of c.t c.p c.s g o).1=(g+1)*pgB c.s+o∧(r06_Of c.t c.p c.s g o).2=true:=by
 have h1:=Cf.ok_iff.1 h
 have h2:=(szB_ok h1.2.2 (k:=0) (by omega)).2.2.2.2
 have e:(!r04_Right c.t c.p c.s||decide (g<(0:Int))||decide (g≥c.p)||decide (o<(0:Int))||decide (o≥r04_Page c.t c.p c.s))=false:=by
  rw [Cf.right h,page_pgB h]
  simp only [Bool.not_true,Bool.false_or,Bool.or_eq_false_iff,decide_eq_false_iff_not]
  omega
 unfold r06_Of
 rw [e,page_pgB h]
 have h3:(g+1)*pgB c.s≤1024*1048576:=Int.mul_le_mul (by omega) (by omega) (by omega) (by omega)
 have h4:0≤(g+1)*pgB c.s:=Int.mul_nonneg (by omega) (by omega)
 rw [cond_false,w64 (n:=g+1) (by omega),w64 (n:=(g+1)*pgB c.s) (by omega),w64 (by omega)]
 exact ⟨rfl,rfl⟩
theorem at_pgB {c:Cf} (h:c.ok=true) {k g j:Int} (hk:0≤k∧k≤8) (hg:0≤g∧g<c.p) (hj:0≤j∧j<kSlots k):(r06_At c.t c.p c.s k g j).1=(g+1)*pgB c.s+j*szB c.s k∧(r06_At c.t c.p c.s k g j).2=true:=by
 have h1:=Cf.ok_iff.1 h
 obtain ⟨e,e2,e3,e4,e5,e6,_⟩:=szB_ok h1.2.2 hk
 have e0:(decide (j<(0:Int))||decide (j≥r05_Slots k))=false:=by
  rw [r05_Slots_eq]
  simp only [Bool.or_eq_false_iff,decide_eq_false_iff_not];omega
 have f1:0≤j*szB c.s k:=Int.mul_nonneg hj.1 (by omega)
 have f2:(j+1)*szB c.s k≤kSlots k*szB c.s k:=Int.mul_le_mul_of_nonneg_right (by omega) (by omega)
 have f3:(j+1)*szB c.s k=j*szB c.s k+szB c.s k:=by rw [Int.add_mul,Int.one_mul]
 have f4:kSlots k*szB c.s k=szB c.s k*kSlots k:=Int.mul_comm _ _
 unfold r06_At
 rw [e0,e,cond_false,w64 (n:=j*szB c.s k) (by omega)]
 obtain ⟨g1,g2⟩:=of_pgB h hg (o:=j*szB c.s k) (by omega)
 exact ⟨g1,g2⟩
section
variable (c:Cf) (xs:LI)
def slabKind (g j:Int):Int:=bif bitAt (cel xs (c.slots g)) j then 2 else bif bitAt (cel xs (c.taken g)) j then 4 else 3
def slabPt (g k j:Int):Pt:=⟨slabKind c xs g j,(g+1)*pgB c.s+j*szB c.s k,szB c.s k⟩
def slabF (g k:Int):Nat→List Pt
 |0=>[]
 |n+1=>slabF g k n++[slabPt c xs g k n]
theorem slabF_len (g k:Int):∀n,(slabF c xs g k n).length=n
 |0=>rfl
 |n+1=>by rw [slabF,List.length_append,slabF_len g k n];rfl
def slabRest (k:Int):Int:=pgB c.s-szB c.s k*kSlots k
def slabL (g k:Int):List Pt:=bif decide (0<slabRest c k) then slabF c xs g k (kSlots k).toNat++[⟨5,(g+1)*pgB c.s+szB c.s k*kSlots k,slabRest c k⟩] else slabF c xs g k (kSlots k).toNat
def partsOf (g:Int):List Pt:=
 let i:=aInfo c xs g
 bif i.k==1||i.k==2 then [⟨i.k,(g+1)*pgB c.s,i.l*pgB c.s⟩] else bif i.k==3 then slabL c xs g i.c else []
theorem slabKind_of {g j:Int} {b1 b2:Bool} (h1:bitAt (cel xs (c.slots g)) j=b1) (h2:bitAt (cel xs (c.taken g)) j=b2):slabKind c xs g j=bif b1 then 2 else bif b2 then 4 else 3:=by unfold slabKind;rw [h1,h2]
def partsF:Nat→List Pt
 |0=>[]
 |n+1=>partsF n++partsOf c xs n
theorem slabL_len (g k:Int):(slabL c xs g k).length≤33:=by
 have:=(kSlots_bd k).2
 unfold slabL
 cases decide (0<slabRest c k) with
 |true=>simp only [cond_true,List.length_append,slabF_len,List.length_singleton];omega
 |false=>simp only [cond_false,slabF_len];omega
theorem partsOf_len (g:Int):(partsOf c xs g).length≤33:=by
 unfold partsOf
 simp only
 cases (aInfo c xs g).k==1||(aInfo c xs g).k==2 with
 |true=>simp
 |false=>
  simp only [cond_false]
  cases (aInfo c xs g).k==3 with
  |true=>exact slabL_len c xs g _
  |false=>simp
theorem partsF_len:∀n:Nat,(partsF c xs n).length≤33*n
 |0=>Nat.le_refl _
 |n+1=>by
  have h1:=partsF_len n
  have h2:=partsOf_len c xs n
  rw [partsF,List.length_append];omega
theorem partsOf_one {g:Int} (h:((aInfo c xs g).k==1||(aInfo c xs g).k==2)=true):partsOf c xs g=[⟨(aInfo c xs g).k,(g+1)*pgB c.s,(aInfo c xs g).l*pgB c.s⟩]:=by simp only [partsOf,h,cond_true]
theorem partsOf_slab {g:Int} (h:((aInfo c xs g).k==3)=true):partsOf c xs g=slabL c xs g (aInfo c xs g).c:=by
 have e:((aInfo c xs g).k==1||(aInfo c xs g).k==2)=false:=by
  simp only [beq_iff_eq] at h;rw [h];rfl
 simp only [partsOf,e,h,cond_true,cond_false]
theorem partsOf_none {g:Int} (h1:((aInfo c xs g).k==1)=false) (h2:((aInfo c xs g).k==2)=false) (h3:((aInfo c xs g).k==3)=false):partsOf c xs g=[]:=by simp only [partsOf,h1,h2,h3,Bool.or_self,cond_false]
def partsL:List Pt:=partsF c xs c.p.toNat
def blocksL:List Pt:=(partsL c xs).filter fun x=>x.k==2
def rootsF (l:LI):Nat→Bool
 |0=>true
 |k+1=>
  let a:=cel xs (cRoot (8-(k+1:Nat)))
  bif a !=0&&!l.contains a then false else rootsF l k
def rootsOk:Bool:=rootsF xs ((blocksL c xs).map (·.a)) 8
def checkA:Int×Bool:=
 bif !c.ok||((xs.length:Int) !=c.cells) then (1,false) else
 bif !tiles c xs then (2,false) else
 bif !feet c xs then (3,false) else
 bif !apart c xs then (4,false) else
 bif !slotsOk c xs then (5,false) else
 bif !bins c xs then (6,false) else
 bif !racks c xs then (7,false) else
 bif !loose c xs then (8,false) else
 bif !counts c xs then (9,false) else
 bif !rootsOk c xs then (10,false) else (0,true)
def soundA:Bool:=(checkA c xs).2
theorem blk_step (P:List Pt) {i:Nat} (h:i<P.length):(P.take (i+1)).filter (fun x=>x.k==2)=(P.take i).filter (fun x=>x.k==2)++bif (P.map (·.k)).getD i 0==2 then [⟨(P.map (·.k)).getD i 0,(P.map (·.a)).getD i 0,(P.map (·.s)).getD i 0⟩] else []:=by
 have e:∀f:Pt→Int,(P.map f).getD i 0=f P[i]:=fun f=>by
  rw [List.getD_eq_getElem?_getD,List.getElem?_map,List.getElem?_eq_getElem h];rfl
 rw [List.take_add_one,List.filter_append,e,e,e,List.getElem?_eq_getElem h]
 congr 1
theorem partsL_len:(partsL c xs).length≤33*c.p.toNat:=partsF_len c xs _
theorem blocksL_len:(blocksL c xs).length≤33*c.p.toNat:=Nat.le_trans (List.length_filter_le _ _) (partsL_len c xs)
def bdAll (xs:LI):Prop:=∀v∈xs,bd32 v
def soundB:Bool:=c.ok&&(xs.length==c.cells)&&tiles c xs&&feet c xs&&apart c xs&&slotsOk c xs&&bins c xs&&racks c xs&&loose c xs&&counts c xs&&rootsOk c xs
theorem soundA_eq:soundA c xs=soundB c xs:=by
 unfold soundA checkA soundB bne
 cases c.ok<;>cases (xs.length:Int)==c.cells<;>cases tiles c xs<;>cases feet c xs<;>cases apart c xs<;>cases slotsOk c xs<;>cases bins c xs<;>cases racks c xs<;>cases loose c xs<;>cases counts c xs<;>cases rootsOk c xs<;>rfl
end
end Go.Sl
namespace Go.Proofs.YtjfabjhlkpgckaaGreat
open Go.Sl
def x_slab (t p sh:Int) (xs:LI) (g k:Int):LI×LI×LI:=((slabL ⟨t,p,sh⟩ xs g k).map (·.k),(slabL ⟨t,p,sh⟩ xs g k).map (·.a),(slabL ⟨t,p,sh⟩ xs g k).map (·.s))
abbrev c_x_slab:Ct Sg:=⟨none,false,[.agg [.i .i64, .i .i64, .i .i64, .ro [some .u32]], .i .i64, .i .i64], .new 115 [some .i64,some .i64,some .i64]⟩
def e_x_slab:Entry Sg:=entC c_x_slab x_slab (fun t p sh xs g k=>[AGood ⟨t,p,sh⟩ xs,0≤g∧g<p,0≤k∧k≤8])
def x_slab_w (t p sh:Int) (xs:LI) (g k:Int) (Q0:Int→Nat→LI→LI→LI→Prop) (R_:LI×LI×LI→Prop):Prop:=(Q0 (0) (0) ([]) ([]) ([]))
def x_slab_w0 (t p sh:Int) (xs:LI) (g k s:Int) (n1:Nat) (ks zs ss:LI) (Q0:Int→Nat→LI→LI→LI→Prop) (R_:LI×LI×LI→Prop):Prop:=(bw_ (decide (s<r05_Slots k)) (aw_ (AGood {t:=t,p:=p,s:=sh} xs) (aw_ (0≤g∧g<p) (bw_ (r01_Bit (x_Taken t p sh xs g) s) (aw_ (AGood {t:=t,p:=p,s:=sh} xs) (aw_ (0≤g∧g<p) (bw_ (r01_Bit (x_Slots t p sh xs g) s) (aw_ ((n1+1)*24≤140737488355328) (Q0 (IntKind.wrap IntKind.i64 (s+1)) (n1+1) (ks++[2]) (zs++[Prod.fst (r06_At t p sh k g s)]) (ss++[r05_Size sh k]))) (aw_ ((n1+1)*24≤140737488355328) (Q0 (IntKind.wrap IntKind.i64 (s+1)) (n1+1) (ks++[4]) (zs++[Prod.fst (r06_At t p sh k g s)]) (ss++[r05_Size sh k])))))) (aw_ (AGood {t:=t,p:=p,s:=sh} xs) (aw_ (0≤g∧g<p) (bw_ (r01_Bit (x_Slots t p sh xs g) s) (aw_ ((n1+1)*24≤140737488355328) (Q0 (IntKind.wrap IntKind.i64 (s+1)) (n1+1) (ks++[2]) (zs++[Prod.fst (r06_At t p sh k g s)]) (ss++[r05_Size sh k]))) (aw_ ((n1+1)*24≤140737488355328) (Q0 (IntKind.wrap IntKind.i64 (s+1)) (n1+1) (ks++[3]) (zs++[Prod.fst (r06_At t p sh k g s)]) (ss++[r05_Size sh k]))))))))) (bw_ (decide (IntKind.wrap IntKind.i64 (r04_Page t p sh-IntKind.wrap IntKind.i64 (r05_Size sh k*r05_Slots k))>0)) (aw_ ((n1+1)*24≤140737488355328) (R_ ((ks++[5],zs++[Prod.fst (r06_Of t p sh g (IntKind.wrap IntKind.i64 (r04_Page t p sh-IntKind.wrap IntKind.i64 (r04_Page t p sh-IntKind.wrap IntKind.i64 (r05_Size sh k*r05_Slots k)))))],ss++[IntKind.wrap IntKind.i64 (r04_Page t p sh-IntKind.wrap IntKind.i64 (r05_Size sh k*r05_Slots k))])))) (R_ ((ks,zs,ss)))))
def x_slab_I0 (t p sh:Int) (xs:LI) (g k s:Int) (n1:Nat) (ks zs ss:LI) (r_:LI×LI×LI):Prop:=0≤s∧s≤kSlots k∧n1=ks.length∧ks=(slabF ⟨t,p,sh⟩ xs g k s.toNat).map (·.k)∧zs=(slabF ⟨t,p,sh⟩ xs g k s.toNat).map (·.a)∧ss=(slabF ⟨t,p,sh⟩ xs g k s.toNat).map (·.s)∧r_=x_slab t p sh xs g k
abbrev x_slab_h0 (p0:Addr) (t p sh:Int) (xs:LI) (g k:Int):Hd Sg:=⟨none,[0,1,0,1,1,1],[.blk 0, .code [1,1,1,1]],[9,8,7,3,1,2],[.i .i64, .ic .i64 (r05_Size sh k), .own 115 [some .i64,some .i64,some .i64], .box 102 [.ic .i64 (t), .ic .i64 (p), .ic .i64 (sh), .roc [.ints .u32 (xs)]], .ic .i64 (g), .ic .i64 (k)]⟩
theorem x_slab_begin (t p sh:Int) (xs:LI) (g k:Int) (hp0:AGood ⟨t,p,sh⟩ xs) (hp1:0≤g∧g<p) (hp2:0≤k∧k≤8) (hl0:xs.length≤9223372036854775807):x_slab_w t p sh xs g k (fun s' n1' ks' zs' ss'=>x_slab_I0 t p sh xs g k s' n1' ks' zs' ss' (x_slab t p sh xs g k)) (fun r__=>r__=(x_slab t p sh xs g k)):=by
 unfold x_slab_w
 try unfold x_slab_I0
 exact ⟨by omega,(kSlots_bd k).1,rfl,rfl,rfl,rfl,rfl⟩
theorem x_slab_step0 (t p sh:Int) (xs:LI) (g k:Int) (hp0:AGood ⟨t,p,sh⟩ xs) (hp1:0≤g∧g<p) (hp2:0≤k∧k≤8) (hl0:xs.length≤9223372036854775807) (s:Int) (n1:Nat) (ks zs ss:LI) {r_:LI×LI×LI} (hI:x_slab_I0 t p sh xs g k s n1 ks zs ss r_):x_slab_w0 t p sh xs g k s n1 ks zs ss (fun s' n1' ks' zs' ss'=>x_slab_I0 t p sh xs g k s' n1' ks' zs' ss' r_∧lx ((kSlots k-s').toNat,0,0) ((kSlots k-s).toNat,0,0)) (fun r__=>r__=r_):=by
 unfold x_slab_I0 at hI
 unfold x_slab_w0
 try unfold x_slab_I0
 obtain ⟨h0,h1,h2,h3,h4,h5,hr⟩:=hI
 have hok:=Cf.ok_iff.1 hp0.ok
 simp only at hok
 have hkb:=kSlots_bd k
 obtain ⟨s1,s2,s3,s4,s5,s6,_⟩:=szB_ok hok.2.2 hp2
 have hlen:ks.length=s.toNat:=by rw [h3,List.length_map,slabF_len]
 refine ⟨fun h=>?_,fun h=>?_⟩
 ·rw [r05_Slots_eq] at h
  simp only [decide_eq_true_eq] at h
  have hb1:r01_Bit (x_Taken t p sh xs g) s=bitAt (cel xs (Cf.taken ⟨t,p,sh⟩ g)) s:=bit_eq (cel_bd hp0 _) s
  have hb2:r01_Bit (x_Slots t p sh xs g) s=bitAt (cel xs (Cf.slots ⟨t,p,sh⟩ g)) s:=bit_eq (cel_bd hp0 _) s
  obtain ⟨ha,_⟩:=at_pgB hp0.ok (k:=k) (g:=g) (j:=s) hp2 hp1 ⟨h0,h⟩
  simp only at ha
  rw [w64 (n:=s+1) (by omega),hb1,hb2,ha,s1]
  have es:(s+1).toNat=s.toNat+1:=by omega
  have ei:((s.toNat:Nat):Int)=s:=by omega
  have hst0:slabF ⟨t,p,sh⟩ xs g k (s+1).toNat=slabF ⟨t,p,sh⟩ xs g k s.toNat++[slabPt ⟨t,p,sh⟩ xs g k s]:=by rw [es,slabF,ei]
  have fin:∀kd,kd=slabKind ⟨t,p,sh⟩ xs g s→(n1+1)*24≤140737488355328∧((0≤s+1∧s+1≤kSlots k∧n1+1=(ks++[kd]).length∧ks++[kd]=(slabF ⟨t,p,sh⟩ xs g k (s+1).toNat).map (·.k)∧zs++[(g+1)*pgB sh+s*szB sh k]=(slabF ⟨t,p,sh⟩ xs g k (s+1).toNat).map (·.a)∧ss++[szB sh k]=(slabF ⟨t,p,sh⟩ xs g k (s+1).toNat).map (·.s)∧r_=x_slab t p sh xs g k)∧lx ((kSlots k-(s+1)).toNat,0,0) ((kSlots k-s).toNat,0,0)):=by
   rintro kd rfl
   refine ⟨by omega,⟨by omega,by omega,by simp [h2],?_,?_,?_,hr⟩,lxo_⟩<;>rw [hst0,List.map_append]
   ·rw [←h3];rfl
   ·rw [←h4];rfl
   ·rw [←h5];rfl
  refine ⟨hp0,fun _=>⟨hp1,fun _=>⟨fun c1=>⟨hp0,fun _=>⟨hp1,fun _=>⟨fun c2=>?_,fun c2=>?_⟩⟩⟩,fun c1=>⟨hp0,fun _=>⟨hp1,fun _=>⟨fun c2=>?_,fun c2=>?_⟩⟩⟩⟩⟩⟩
  ·obtain ⟨a,b⟩:=fin 2 (slabKind_of _ _ c2 c1).symm;exact ⟨a,fun _=>b⟩
  ·obtain ⟨a,b⟩:=fin 4 (slabKind_of _ _ c2 c1).symm;exact ⟨a,fun _=>b⟩
  ·obtain ⟨a,b⟩:=fin 2 (slabKind_of _ _ c2 c1).symm;exact ⟨a,fun _=>b⟩
  ·obtain ⟨a,b⟩:=fin 3 (slabKind_of _ _ c2 c1).symm;exact ⟨a,fun _=>b⟩
 ·rw [r05_Slots_eq] at h
  simp only [decide_eq_false_iff_not] at h
  have e:s.toNat=(kSlots k).toNat:=by omega
  have hpg:r04_Page t p sh=pgB sh:=page_pgB hp0.ok
  have hz:0≤szB sh k*kSlots k:=Int.mul_nonneg (by omega) (by omega)
  have w1:IntKind.i64.wrap (szB sh k*kSlots k)=szB sh k*kSlots k:=w64 (by omega)
  have w2:IntKind.i64.wrap (pgB sh-szB sh k*kSlots k)=slabRest ⟨t,p,sh⟩ k:=w64 (by omega)
  have hre:slabRest ⟨t,p,sh⟩ k=pgB sh-szB sh k*kSlots k:=rfl
  rw [hpg,s1,r05_Slots_eq,w1,w2]
  have w3:IntKind.i64.wrap (pgB sh-slabRest ⟨t,p,sh⟩ k)=szB sh k*kSlots k:=by rw [hre,w64 (by omega)];omega
  rw [w3]
  rw [e] at h3 h4 h5
  refine ⟨fun hc=>⟨by omega,fun _=>?_⟩,fun hc=>?_⟩
  ·obtain ⟨ha,_⟩:=of_pgB hp0.ok (g:=g) (o:=szB sh k*kSlots k) hp1 (by simp only [gt_iff_lt,decide_eq_true_eq] at hc;show 0≤_∧_<pgB sh;omega)
   simp only at ha
   rw [ha]
   show _=_
   have hc':decide (0<slabRest ⟨t,p,sh⟩ k)=true:=hc
   rw [hr,x_slab,slabL,hc',cond_true,h3,h4,h5]
   simp only [List.map_append];rfl
  ·have hc':decide (0<slabRest ⟨t,p,sh⟩ k)=false:=hc
   show _=_
   rw [hr,x_slab,slabL,hc',cond_false,h3,h4,h5]
theorem x_slab_ok:EOk 157 e_x_slab:=
 ent_wp Dg T_x_feet_ok (I:=[1643000000009,1643000000008,1643000000007,1643000000003,1643000000001,1643000000002]) Tryz.func157 mix (B:=bodyOf Tryz.f157) (by kernel_rfl) rfl (by kernel_rfl) 400
  fun p0 t p sh xs g k hb hp=>have hl0:xs.length≤9223372036854775807:=hb.1.2.2.2.1;have hp0:AGood ⟨t,p,sh⟩ xs:=hp _ (.head _);have hp1:0≤g∧g<p:=hp _ (.tail _ (.head _));have hp2:0≤k∧k≤8:=hp _ (.tail _ (.tail _ (.head _)));⟨[x_slab_h0 p0 t p sh xs g k],fun j=>List.getD [appC (Hd.kd (x_slab_h0 p0 t p sh xs g k)) (fun s' n1' ks' zs' ss'=>x_slab_I0 t p sh xs g k s' n1' ks' zs' ss' (x_slab t p sh xs g k))] j (fun _=>False),fun j=>List.getD [appC (Hd.kd (x_slab_h0 p0 t p sh xs g k)) (fun s' n1' ks' zs' ss'=>((kSlots k-s').toNat,0,0))] j (fun _=>(0,0,0)),by kernel_rfl,⟨_,fun _ _ _=>by kernel_rfl,x_slab_begin t p sh xs g k hp0 hp1 hp2 hl0⟩,⟨fun s n1 ks zs ss hI=>⟨_,fun _ _ _=>by kernel_rfl,x_slab_step0 t p sh xs g k hp0 hp1 hp2 hl0 s n1 ks zs ss hI⟩,trivial⟩⟩
def T_x_slab:Tb:=(157,e_x_slab)::T_x_feet
theorem T_x_slab_ok:TOk T_x_slab:=tc_ x_slab_ok T_x_feet_ok
def x_parts (t p sh:Int) (xs:LI):LI×LI×LI:=((partsL ⟨t,p,sh⟩ xs).map (·.k),(partsL ⟨t,p,sh⟩ xs).map (·.a),(partsL ⟨t,p,sh⟩ xs).map (·.s))
abbrev c_x_parts:Ct Sg:=⟨none,false,[.agg [.i .i64, .i .i64, .i .i64, .ro [some .u32]]], .new 115 [some .i64,some .i64,some .i64]⟩
def e_x_parts:Entry Sg:=entC c_x_parts x_parts (fun t p sh xs=>[AGood ⟨t,p,sh⟩ xs])
def x_parts_w (t p sh:Int) (xs:LI) (Q0:Int→Nat→LI→LI→LI→Prop) (R_:LI×LI×LI→Prop):Prop:=(Q0 (0) (0) ([]) ([]) ([]))
abbrev Hf (n1:Nat) (Q0:Int→Nat→LI→LI→LI→Prop) (i:Int) (ks:LI) (t p sh:Int) (xs zs ss:LI):Prop:=(aw_ ((n1+1)*24≤140737488355328) (Q0 (IntKind.wrap IntKind.i64 (i+1)) (n1+1) (ks++[Prod.fst (If.k (aInfo {t:=t,p:=p,s:=sh} xs i),If.l (aInfo {t:=t,p:=p,s:=sh} xs i),If.c (aInfo {t:=t,p:=p,s:=sh} xs i))]) (zs++[Prod.fst (r06_Of t p sh i 0)]) (ss++[IntKind.wrap IntKind.i64 (If.l (aInfo {t:=t,p:=p,s:=sh} xs i)*r04_Page t p sh)])))
abbrev Hg (t p sh:Int) (xs:LI) (i:Int) (n1:Nat) (Q0:Int→Nat→LI→LI→LI→Prop) (ks zs ss:LI):Prop:=(bw_ (Prod.fst (x_Info t p sh xs i)==3) (∀r7:LI×LI×LI,r7=(x_slab t p sh xs i (If.c (aInfo {t:=t,p:=p,s:=sh} xs i)))→(aw_ (AGood {t:=t,p:=p,s:=sh} xs) (aw_ (0≤i∧i<p) (aw_ (0≤Prod.snd (If.l (aInfo {t:=t,p:=p,s:=sh} xs i),If.c (aInfo {t:=t,p:=p,s:=sh} xs i))∧Prod.snd (If.l (aInfo {t:=t,p:=p,s:=sh} xs i),If.c (aInfo {t:=t,p:=p,s:=sh} xs i))≤8) (aw_ ((n1+List.length r7.1)*24≤140737488355328) (Q0 (IntKind.wrap IntKind.i64 (i+1)) (n1+List.length r7.1) (ks++r7.1) (zs++r7.2.1) (ss++r7.2.2))))))) (Q0 (IntKind.wrap IntKind.i64 (i+1)) (n1) (ks) (zs) (ss)))
def x_parts_w0 (t p sh:Int) (xs:LI) (i:Int) (n1:Nat) (ks zs ss:LI) (Q0:Int→Nat→LI→LI→LI→Prop) (R_:LI×LI×LI→Prop):Prop:=(bw_ (decide (i<p)) (aw_ (AGood {t:=t,p:=p,s:=sh} xs) (aw_ (0≤i∧i<p) (bw_ (Prod.fst (x_Info t p sh xs i)==1) (bw_ (Prod.fst (x_Info t p sh xs i)==1) (tw_ (Hf n1 Q0 i ks t p sh xs zs ss)) (Hg t p sh xs i n1 Q0 ks zs ss)) (bw_ (Prod.fst (x_Info t p sh xs i)==2) (tw_ (Hf n1 Q0 i ks t p sh xs zs ss)) (Hg t p sh xs i n1 Q0 ks zs ss))))) (R_ ((ks,zs,ss))))
def x_parts_I0 (t p sh:Int) (xs:LI) (i:Int) (n1:Nat) (ks zs ss:LI) (r_:LI×LI×LI):Prop:=0≤i∧i≤p∧n1=ks.length∧ks=(partsF ⟨t,p,sh⟩ xs i.toNat).map (·.k)∧zs=(partsF ⟨t,p,sh⟩ xs i.toNat).map (·.a)∧ss=(partsF ⟨t,p,sh⟩ xs i.toNat).map (·.s)∧r_=x_parts t p sh xs
abbrev x_parts_h0 (p0:Addr) (t p sh:Int) (xs:LI):Hd Sg:=⟨none,[0,1,0,1,1],[.blk 0, .code [1,1,1]],[4,3,1],[.i .i64, .own 115 [some .i64,some .i64,some .i64], .box 102 [.ic .i64 (t), .ic .i64 (p), .ic .i64 (sh), .roc [.ints .u32 (xs)]]]⟩
theorem x_parts_begin (t p sh:Int) (xs:LI) (hp0:AGood ⟨t,p,sh⟩ xs) (hl0:xs.length≤9223372036854775807):x_parts_w t p sh xs (fun i' n1' ks' zs' ss'=>x_parts_I0 t p sh xs i' n1' ks' zs' ss' (x_parts t p sh xs)) (fun r__=>r__=(x_parts t p sh xs)):=by
 unfold x_parts_w
 try unfold x_parts_I0
 have hok:=Cf.ok_iff.1 hp0.ok
 simp only at hok
 exact ⟨by omega,by omega,rfl,rfl,rfl,rfl,rfl⟩
theorem x_parts_step0 (t p sh:Int) (xs:LI) (hp0:AGood ⟨t,p,sh⟩ xs) (hl0:xs.length≤9223372036854775807) (i:Int) (n1:Nat) (ks zs ss:LI) {r_:LI×LI×LI} (hI:x_parts_I0 t p sh xs i n1 ks zs ss r_):x_parts_w0 t p sh xs i n1 ks zs ss (fun i' n1' ks' zs' ss'=>x_parts_I0 t p sh xs i' n1' ks' zs' ss' r_∧lx ((p-i').toNat,0,0) ((p-i).toNat,0,0)) (fun r__=>r__=r_):=by
 unfold x_parts_I0 at hI
 unfold x_parts_w0 Hg Hf
 try unfold x_parts_I0
 obtain ⟨h0,h1,h2,h3,h4,h5,hr⟩:=hI
 have hok:=Cf.ok_iff.1 hp0.ok
 simp only at hok
 have hlen:ks.length≤33*i.toNat:=by rw [h3,List.length_map];exact partsF_len _ _ _
 refine ⟨fun h=>?_,fun h=>?_⟩
 ·simp only [decide_eq_true_eq] at h
  have hg:0≤i∧i<p:=⟨h0,h⟩
  have hbd:=iGet_bd (cel xs (Cf.info ⟨t,p,sh⟩ i))
  have hb1:0≤(aInfo ⟨t,p,sh⟩ xs i).l∧(aInfo ⟨t,p,sh⟩ xs i).l≤1024:=⟨hbd.2.2.1,hbd.2.2.2.1⟩
  have hb2:0≤(aInfo ⟨t,p,sh⟩ xs i).c∧(aInfo ⟨t,p,sh⟩ xs i).c≤8:=⟨hbd.2.2.2.2.1,hbd.2.2.2.2.2⟩
  have hpb:=(szB_ok hok.2.2 (k:=0) (by omega)).2.2.2.2
  obtain ⟨ha,_⟩:=of_pgB hp0.ok (g:=i) (o:=0) hg (by show 0≤0∧0<pgB sh;omega)
  simp only [Int.add_zero] at ha
  have hpg:r04_Page t p sh=pgB sh:=page_pgB hp0.ok
  have hm1:0≤(aInfo ⟨t,p,sh⟩ xs i).l*pgB sh:=Int.mul_nonneg hb1.1 (by omega)
  have hm2:(aInfo ⟨t,p,sh⟩ xs i).l*pgB sh≤1024*1048576:=Int.mul_le_mul hb1.2 hpb.2.1 (by omega) (by omega)
  have hst:partsF ⟨t,p,sh⟩ xs (i+1).toNat=partsF ⟨t,p,sh⟩ xs i.toNat++partsOf ⟨t,p,sh⟩ xs i:=by
   rw [show (i+1).toNat=i.toNat+1 by omega,partsF,show ((i.toNat:Nat):Int)=i by omega]
  have fin:∀(L:List Pt),partsOf ⟨t,p,sh⟩ xs i=L→∀(n1':Nat) (ks' zs' ss':LI),n1'=n1+L.length→ks'=ks++L.map (·.k)→zs'=zs++L.map (·.a)→ss'=ss++L.map (·.s)→
   (0≤i+1∧i+1≤p∧n1'=ks'.length∧ks'=(partsF ⟨t,p,sh⟩ xs (i+1).toNat).map (·.k)∧zs'=(partsF ⟨t,p,sh⟩ xs (i+1).toNat).map (·.a)∧ss'=(partsF ⟨t,p,sh⟩ xs (i+1).toNat).map (·.s)∧r_=x_parts t p sh xs)∧lx ((p-(i+1)).toNat,0,0) ((p-i).toNat,0,0):=by
   intro L hL n1' ks' zs' ss' e1 e2 e3 e4
   rw [hst,hL,List.map_append,List.map_append,List.map_append,←h3,←h4,←h5]
   exact ⟨⟨by omega,by omega,by rw [e1,e2,List.length_append,List.length_map,h2],e2,e3,e4,hr⟩,lxo_⟩
  simp only [x_Info]
  rw [w64 (n:=i+1) (by omega),ha,hpg,w64 (n:=(aInfo ⟨t,p,sh⟩ xs i).l*pgB sh) (by omega)]
  refine ⟨hp0,fun _=>⟨hg,fun _=>?_⟩⟩
  have hsl:=slabL_len ⟨t,p,sh⟩ xs i (aInfo ⟨t,p,sh⟩ xs i).c
  have hl2:(x_slab t p sh xs i (aInfo ⟨t,p,sh⟩ xs i).c).1.length=(slabL ⟨t,p,sh⟩ xs i (aInfo ⟨t,p,sh⟩ xs i).c).length:=by simp [x_slab]
  have f1:∀h:((aInfo ⟨t,p,sh⟩ xs i).k==1||(aInfo ⟨t,p,sh⟩ xs i).k==2)=true,_:=fun h=>fin _ (partsOf_one _ _ h) _ _ _ _ rfl rfl rfl rfl
  have f3:∀h:((aInfo ⟨t,p,sh⟩ xs i).k==3)=true,_:=fun h=>fin _ (partsOf_slab _ _ h) _ _ _ _ rfl rfl rfl rfl
  rw [←hl2] at f3
  have f0:=fun h1 h2 h3=>fin _ (partsOf_none ⟨t,p,sh⟩ xs (g:=i) h1 h2 h3) n1 ks zs ss (by simp) (by simp) (by simp) (by simp)
  cases k1:(aInfo ⟨t,p,sh⟩ xs i).k==1<;>cases k2:(aInfo ⟨t,p,sh⟩ xs i).k==2<;>cases k3:(aInfo ⟨t,p,sh⟩ xs i).k==3<;>simp only [bw_,aw_,true_implies,false_implies,Bool.true_eq_false,Bool.false_eq_true,reduceCtorEq,and_true,true_and,and_self]<;>first
   |exact f0 k1 k2 k3
   |exact ⟨by omega,fun _=>f1 (by rw [k1,k2];rfl)⟩
   |(refine fun r hr=>?_;subst hr;exact ⟨hp0,fun _=>⟨hg,fun _=>⟨hb2,fun _=>⟨by omega,fun _=>f3 k3⟩⟩⟩⟩)
   |fail
 ·simp only [decide_eq_false_iff_not] at h
  have e:i.toNat=p.toNat:=by omega
  show _=_
  rw [hr,x_parts,partsL,h3,h4,h5,e]
theorem x_parts_ok:EOk 111 e_x_parts:=
 ent_wp Dg T_x_slab_ok (I:=[411000000004,411000000003,411000000001]) Tryz.func111 mix (B:=bodyOf Tryz.f111) (by kernel_rfl) rfl (by kernel_rfl) 400
  fun p0 t p sh xs hb hp=>have hl0:xs.length≤9223372036854775807:=hb.1.2.2.2.1;have hp0:AGood ⟨t,p,sh⟩ xs:=hp _ (.head _);⟨[x_parts_h0 p0 t p sh xs],fun j=>List.getD [appC (Hd.kd (x_parts_h0 p0 t p sh xs)) (fun i' n1' ks' zs' ss'=>x_parts_I0 t p sh xs i' n1' ks' zs' ss' (x_parts t p sh xs))] j (fun _=>False),fun j=>List.getD [appC (Hd.kd (x_parts_h0 p0 t p sh xs)) (fun i' n1' ks' zs' ss'=>((p-i').toNat,0,0))] j (fun _=>(0,0,0)),by kernel_rfl,⟨_,fun _ _ _=>by kernel_rfl,x_parts_begin t p sh xs hp0 hl0⟩,⟨fun i n1 ks zs ss hI=>⟨_,fun _ _ _=>by kernel_rfl,x_parts_step0 t p sh xs hp0 hl0 i n1 ks zs ss hI⟩,trivial⟩⟩
def T_x_parts:Tb:=(111,e_x_parts)::T_x_slab
theorem T_x_parts_ok:TOk T_x_parts:=tc_ x_parts_ok T_x_slab_ok
end Go.Proofs.YtjfabjhlkpgckaaGreat
namespace Go.Proofs.YtjfabjhlkpgckaaGreat
open Go.Sl
def x_blocks (t p sh:Int) (xs:LI):LI×LI:=((blocksL ⟨t,p,sh⟩ xs).map (·.a),(blocksL ⟨t,p,sh⟩ xs).map (·.s))
abbrev c_x_blocks:Ct Sg:=⟨none,false,[.agg [.i .i64, .i .i64, .i .i64, .ro [some .u32]]], .new 198 [some .i64,some .i64]⟩
def e_x_blocks:Entry Sg:=entC c_x_blocks x_blocks (fun t p sh xs=>[AGood ⟨t,p,sh⟩ xs])
def x_blocks_w (t p sh:Int) (xs:LI) (Q0:Int→Nat→LI→LI→LI→Nat→LI→LI→Prop) (R_:LI×LI→Prop):Prop:=(∀r2:LI×LI×LI,r2=(x_parts t p sh xs)→(aw_ (AGood {t:=t,p:=p,s:=sh} xs) (Q0 (0) (List.length r2.1) r2.1 r2.2.1 r2.2.2 (0) ([]) ([]))))
def x_blocks_w0 (t p sh:Int) (xs:LI) (i:Int) (n1:Nat) (ks zs ss:LI) (n2:Nat) (as_ bs:LI) (Q0:Int→Nat→LI→LI→LI→Nat→LI→LI→Prop) (R_:LI×LI→Prop):Prop:=(bw_ (decide (i<(↑n1:Int))) (aw_ (0≤i∧i<(↑n1:Int)) (bw_ (List.getD ks (Int.toNat i) (0:Int)==2) (aw_ (0≤i∧i<(↑n1:Int)) (aw_ (0≤i∧i<(↑n1:Int)) (tw_ (aw_ ((n2+1)*16≤140737488355328) (Q0 (IntKind.wrap IntKind.i64 (i+1)) (n1) (ks) (zs) (ss) (n2+1) (as_++[List.getD zs (Int.toNat i) 0]) (bs++[List.getD ss (Int.toNat i) 0])))))) (Q0 (IntKind.wrap IntKind.i64 (i+1)) (n1) (ks) (zs) (ss) (n2) (as_) (bs)))) (R_ ((as_,bs))))
def x_blocks_I0 (t p sh:Int) (xs:LI) (i:Int) (n1:Nat) (ks zs ss:LI) (n2:Nat) (as_ bs:LI) (r_:LI×LI):Prop:=0≤i∧i≤n1∧n1=(partsL ⟨t,p,sh⟩ xs).length∧n1≤33*1024∧ks=(partsL ⟨t,p,sh⟩ xs).map (·.k)∧zs=(partsL ⟨t,p,sh⟩ xs).map (·.a)∧ss=(partsL ⟨t,p,sh⟩ xs).map (·.s)∧n2=as_.length∧n2≤i∧as_=(((partsL ⟨t,p,sh⟩ xs).take i.toNat).filter fun x=>x.k==2).map (·.a)∧bs=(((partsL ⟨t,p,sh⟩ xs).take i.toNat).filter fun x=>x.k==2).map (·.s)∧r_=x_blocks t p sh xs
abbrev x_blocks_h0 (p0:Addr) (t p sh:Int) (xs:LI):Hd Sg:=⟨none,[0,1,0,1,1,1],[.blk 0, .code [1,1,1,1]],[5,4,3],[.i .i64, .own 115 [some .i64,some .i64,some .i64], .own 198 [some .i64,some .i64]]⟩
theorem x_blocks_begin (t p sh:Int) (xs:LI) (hp0:AGood ⟨t,p,sh⟩ xs) (hl0:xs.length≤9223372036854775807):x_blocks_w t p sh xs (fun i' n1' ks' zs' ss' n2' as_' bs'=>x_blocks_I0 t p sh xs i' n1' ks' zs' ss' n2' as_' bs' (x_blocks t p sh xs)) (fun r__=>r__=(x_blocks t p sh xs)):=by
 unfold x_blocks_w
 try unfold x_blocks_I0
 have hok:=Cf.ok_iff.1 hp0.ok
 simp only at hok
 have hl:(partsL ⟨t,p,sh⟩ xs).length≤33*p.toNat:=partsL_len _ _
 rintro r2 rfl
 exact ⟨hp0,fun _=>⟨by omega,by omega,by simp [x_parts],by simp only [x_parts,List.length_map];omega,rfl,rfl,rfl,rfl,by omega,by simp,by simp,rfl⟩⟩
theorem x_blocks_step0 (t p sh:Int) (xs:LI) (hp0:AGood ⟨t,p,sh⟩ xs) (hl0:xs.length≤9223372036854775807) (i:Int) (n1:Nat) (ks zs ss:LI) (n2:Nat) (as_ bs:LI) {r_:LI×LI} (hI:x_blocks_I0 t p sh xs i n1 ks zs ss n2 as_ bs r_):x_blocks_w0 t p sh xs i n1 ks zs ss n2 as_ bs (fun i' n1' ks' zs' ss' n2' as_' bs'=>x_blocks_I0 t p sh xs i' n1' ks' zs' ss' n2' as_' bs' r_∧lx ((n1'-i').toNat,0,0) ((n1-i).toNat,0,0)) (fun r__=>r__=r_):=by
 unfold x_blocks_I0 at hI
 unfold x_blocks_w0
 try unfold x_blocks_I0
 obtain ⟨h0,h1,h2,hb,h3,h4,h5,h6,h7,h8,h9,hr⟩:=hI
 refine ⟨fun h=>?_,fun h=>?_⟩
 ·simp only [decide_eq_true_eq] at h
  have hi:0≤i∧i<(n1:Int):=⟨h0,h⟩
  have hs:=blk_step (partsL ⟨t,p,sh⟩ xs) (i:=i.toNat) (by omega)
  rw [←h3,←h4,←h5] at hs
  have es:(i+1).toNat=i.toNat+1:=by omega
  rw [w64 (n:=i+1) (by omega)]
  refine ⟨hi,fun _=>⟨fun hc=>⟨hi,fun _=>⟨hi,fun _=>?_⟩⟩,fun hc=>?_⟩⟩
  ·rw [hc] at hs
   refine And.intro ?_ ?_<;>exact ⟨by omega,fun _=>⟨⟨by omega,by omega,h2,hb,h3,h4,h5,by simp [h6],by omega,by rw [es,hs,List.map_append,←h8];rfl,by rw [es,hs,List.map_append,←h9];rfl,hr⟩,lxo_⟩⟩
  ·rw [hc] at hs
   exact ⟨⟨by omega,by omega,h2,hb,h3,h4,h5,h6,by omega,by rw [es,hs,List.map_append,←h8];simp,by rw [es,hs,List.map_append,←h9];simp,hr⟩,lxo_⟩
 ·simp only [decide_eq_false_iff_not] at h
  show _=_
  rw [hr,x_blocks,blocksL,h8,h9,List.take_of_length_le (by omega)]
theorem x_blocks_ok:EOk 179 e_x_blocks:=
 ent_wp Dg T_x_parts_ok (I:=[1643000000005,1643000000004,1643000000003]) Tryz.func179 mix (B:=bodyOf Tryz.f179) (by kernel_rfl) rfl (by kernel_rfl) 400
  fun p0 t p sh xs hb hp=>have hl0:xs.length≤9223372036854775807:=hb.1.2.2.2.1;have hp0:AGood ⟨t,p,sh⟩ xs:=hp _ (.head _);⟨[x_blocks_h0 p0 t p sh xs],fun j=>List.getD [appC (Hd.kd (x_blocks_h0 p0 t p sh xs)) (fun i' n1' ks' zs' ss' n2' as_' bs'=>x_blocks_I0 t p sh xs i' n1' ks' zs' ss' n2' as_' bs' (x_blocks t p sh xs))] j (fun _=>False),fun j=>List.getD [appC (Hd.kd (x_blocks_h0 p0 t p sh xs)) (fun i' n1' ks' zs' ss' n2' as_' bs'=>((n1'-i').toNat,0,0))] j (fun _=>(0,0,0)),by kernel_rfl,⟨_,fun _ _ _=>by kernel_rfl,x_blocks_begin t p sh xs hp0 hl0⟩,⟨fun i n1 ks zs ss n2 as_ bs hI=>⟨_,fun _ _ _=>by kernel_rfl,x_blocks_step0 t p sh xs hp0 hl0 i n1 ks zs ss n2 as_ bs hI⟩,trivial⟩⟩
def T_x_blocks:Tb:=(179,e_x_blocks)::T_x_parts
theorem T_x_blocks_ok:TOk T_x_blocks:=tc_ x_blocks_ok T_x_parts_ok
def x_roots (t p sh:Int) (xs:LI):Bool:=rootsOk ⟨t,p,sh⟩ xs
abbrev c_x_roots:Ct Sg:=⟨none,false,[.agg [.i .i64, .i .i64, .i .i64, .ro [some .u32]]], .b⟩
def e_x_roots:Entry Sg:=entC c_x_roots x_roots (fun t p sh xs=>[AGood ⟨t,p,sh⟩ xs])
def x_roots_w (t p sh:Int) (xs:LI) (Q0:Int→Nat→LI→LI→Prop) (R_:Bool→Prop):Prop:=(∀r1:LI×LI,r1=(x_blocks t p sh xs)→(aw_ (AGood {t:=t,p:=p,s:=sh} xs) (Q0 (0) (List.length r1.1) r1.1 r1.2)))
def x_roots_w0 (t p sh:Int) (xs:LI) (i:Int) (n2:Nat) (as_ bs:LI) (Q0:Int→Nat→LI→LI→Prop) (R_:Bool→Prop):Prop:=(bw_ (decide (i<8)) (aw_ (0≤r07_Root i∧r07_Root i<(↑(List.length xs):Int)) (bw_ (IntKind.wrap IntKind.i64 (List.getD xs (Int.toNat (r07_Root i)) 0) !=0&&!r12_Has as_ bs (IntKind.wrap IntKind.i64 (List.getD xs (Int.toNat (r07_Root i)) 0))) (R_ (false)) (Q0 (IntKind.wrap IntKind.i64 (i+1)) (n2) (as_) (bs)))) (R_ (true)))
def x_roots_I0 (t p sh:Int) (xs:LI) (i:Int) (n2:Nat) (as_ bs:LI) (r_:Bool):Prop:=0≤i∧i≤8∧n2=as_.length∧as_.length=bs.length∧as_.length≤33*1024∧rootsF xs as_ (8-i).toNat=r_
abbrev x_roots_h0 (p0:Addr) (t p sh:Int) (xs:LI):Hd Sg:=⟨none,[0,1,0,1,1],[.blk 0, .code [1,1,1]],[4,3,1],[.i .i64, .own 198 [some .i64,some .i64], .box 102 [.ic .i64 (t), .ic .i64 (p), .ic .i64 (sh), .roc [.ints .u32 (xs)]]]⟩
theorem x_roots_begin (t p sh:Int) (xs:LI) (hp0:AGood ⟨t,p,sh⟩ xs) (hl0:xs.length≤9223372036854775807):x_roots_w t p sh xs (fun i' n2' as_' bs'=>x_roots_I0 t p sh xs i' n2' as_' bs' (x_roots t p sh xs)) (fun r__=>r__=(x_roots t p sh xs)):=by
 unfold x_roots_w
 try unfold x_roots_I0
 have hok:=Cf.ok_iff.1 hp0.ok
 simp only at hok
 have hl:(blocksL ⟨t,p,sh⟩ xs).length≤33*p.toNat:=blocksL_len _ _
 rintro r2 rfl
 exact ⟨hp0,fun _=>⟨by omega,by omega,rfl,by simp [x_blocks],by simp only [x_blocks,List.length_map];omega,rfl⟩⟩
theorem x_roots_step0 (t p sh:Int) (xs:LI) (hp0:AGood ⟨t,p,sh⟩ xs) (hl0:xs.length≤9223372036854775807) (i:Int) (n2:Nat) (as_ bs:LI) {r_:Bool} (hI:x_roots_I0 t p sh xs i n2 as_ bs r_):x_roots_w0 t p sh xs i n2 as_ bs (fun i' n2' as_' bs'=>x_roots_I0 t p sh xs i' n2' as_' bs' r_∧lx ((8-i').toNat,0,0) ((8-i).toNat,0,0)) (fun r__=>r__=r_):=by
 unfold x_roots_I0 at hI
 unfold x_roots_w0
 try unfold x_roots_I0
 obtain ⟨h0,h1,h2,h3,hb,hr⟩:=hI
 refine ⟨fun h=>?_,fun h=>?_⟩
 ·simp only [decide_eq_true_eq] at h
  have hin:0≤cRoot i∧cRoot i<(xs.length:Int):=by
   have h1:=Cf.ok_iff.1 hp0.ok
   have h2:=hp0.len
   unfold Cf.cells at h2
   rw [hp0.ok,cond_true] at h2
   have e:(decide (0≤i)&&decide (i<8))=true:=by simp [h0,h]
   unfold cRoot
   rw [e,cond_true]
   omega
  have hbd:=cel_bd hp0 (cRoot i)
  have hbd':0≤xs.getD (cRoot i).toNat 0∧xs.getD (cRoot i).toNat 0<4294967296:=hbd
  have e:(8-i).toNat=(8-(i+1)).toNat+1:=by omega
  have ei:(8:Int)-(((8-(i+1)).toNat+1:Nat):Int)=i:=by omega
  rw [e] at hr
  simp only [rootsF] at hr
  rw [ei] at hr
  rw [r07_Root_eq,w64 (n:=i+1) (by omega),w64 (n:=xs.getD (cRoot i).toNat 0) (by omega)]
  refine ⟨hin,fun _=>⟨fun hc=>?_,fun hc=>?_⟩⟩
  ·have hc':(cel xs (cRoot i) !=0&&!as_.contains (cel xs (cRoot i)))=true:=hc
   rw [hc',cond_true] at hr;exact hr
  ·have hc':(cel xs (cRoot i) !=0&&!as_.contains (cel xs (cRoot i)))=false:=hc
   rw [hc',cond_false] at hr
   exact ⟨⟨by omega,by omega,h2,h3,hb,hr⟩,lxo_⟩
 ·simp only [decide_eq_false_iff_not] at h
  rw [show (8-i).toNat=0 by omega] at hr
  exact hr
theorem x_roots_ok:EOk 155 e_x_roots:=
 ent_wp Dg T_x_blocks_ok (I:=[411000000004,411000000003,411000000001]) Tryz.func155 mix (B:=bodyOf Tryz.f155) (by kernel_rfl) rfl (by kernel_rfl) 400
  fun p0 t p sh xs hb hp=>have hl0:xs.length≤9223372036854775807:=hb.1.2.2.2.1;have hp0:AGood ⟨t,p,sh⟩ xs:=hp _ (.head _);⟨[x_roots_h0 p0 t p sh xs],fun j=>List.getD [appC (Hd.kd (x_roots_h0 p0 t p sh xs)) (fun i' n2' as_' bs'=>x_roots_I0 t p sh xs i' n2' as_' bs' (x_roots t p sh xs))] j (fun _=>False),fun j=>List.getD [appC (Hd.kd (x_roots_h0 p0 t p sh xs)) (fun i' n2' as_' bs'=>((8-i').toNat,0,0))] j (fun _=>(0,0,0)),by kernel_rfl,⟨_,fun _ _ _=>by kernel_rfl,x_roots_begin t p sh xs hp0 hl0⟩,⟨fun i n2 as_ bs hI=>⟨_,fun _ _ _=>by kernel_rfl,x_roots_step0 t p sh xs hp0 hl0 i n2 as_ bs hI⟩,trivial⟩⟩
def T_x_roots:Tb:=(155,e_x_roots)::T_x_blocks
theorem T_x_roots_ok:TOk T_x_roots:=tc_ x_roots_ok T_x_blocks_ok
def r12_Check (t p sh:Int) (xs:LI):Int×Bool:=checkA ⟨t,p,sh⟩ xs
abbrev c_r12_Check:Ct Sg:=⟨none,false,[.agg [.i .i64, .i .i64, .i .i64], .ro [some .u32]], .tup [.i .i64, .b]⟩
def e_r12_Check:Entry Sg:=entC c_r12_Check r12_Check (fun t p sh xs=>[bdAll xs])
def r12_Check_w (t p sh:Int) (xs:LI) (R_:Int×Bool→Prop):Prop:=(∀r1:Bool,r1=(r04_Right t p sh)→(bw_ (!r1||(↑(List.length xs):Int) !=r07_Cells t p sh) (R_ ((1,false))) (∀r4:Bool,r4=(x_tiles t p sh xs)→(aw_ (AGood {t:=t,p:=p,s:=sh} xs) (bw_ (!r4) (R_ ((2,false))) (∀r7:Bool,r7=(x_feet t p sh xs)→(aw_ (AGood {t:=t,p:=p,s:=sh} xs) (aw_ (Prod.snd (starts {t:=t,p:=p,s:=sh} xs)=true) (bw_ (!r7) (R_ ((3,false))) (∀r11:Bool,r11=(x_apart t p sh xs)→(aw_ (AGood {t:=t,p:=p,s:=sh} xs) (bw_ (!r11) (R_ ((4,false))) (∀r14:Bool,r14=(x_slots t p sh xs)→(aw_ (AGood {t:=t,p:=p,s:=sh} xs) (bw_ (!r14) (R_ ((5,false))) (∀r17:Bool,r17=(x_bins t p sh xs)→(aw_ (AGood {t:=t,p:=p,s:=sh} xs) (bw_ (!r17) (R_ ((6,false))) (∀r20:Bool,r20=(x_racks t p sh xs)→(aw_ (AGood {t:=t,p:=p,s:=sh} xs) (bw_ (!r20) (R_ ((7,false))) (∀r23:Bool,r23=(x_loose t p sh xs)→(aw_ (AGood {t:=t,p:=p,s:=sh} xs) (bw_ (!r23) (R_ ((8,false))) (∀r26:Bool,r26=(x_counts t p sh xs)→(aw_ (AGood {t:=t,p:=p,s:=sh} xs) (bw_ (!r26) (R_ ((9,false))) (∀r29:Bool,r29=(x_roots t p sh xs)→(aw_ (AGood {t:=t,p:=p,s:=sh} xs) (bw_ (!r29) (R_ ((10,false))) (R_ ((0,true)))))))))))))))))))))))))))))))))
theorem r12_Check_begin (t p sh:Int) (xs:LI) (hp0:bdAll xs) (hl0:xs.length≤9223372036854775807):r12_Check_w t p sh xs (fun r__=>r__=(r12_Check t p sh xs)):=by
 unfold r12_Check_w
 have hr:r04_Right t p sh=Cf.ok ⟨t,p,sh⟩:=by
  apply Bool.eq_iff_iff.2
  rw [Cf.ok_iff]
  simp only [r04_Right,Bool.and_eq_true,decide_eq_true_eq];omega
 have hcl:r07_Cells t p sh=Cf.cells ⟨t,p,sh⟩:=by
  unfold r07_Cells Cf.cells
  rw [hr]
  cases h:Cf.ok ⟨t,p,sh⟩ with
  |false=>rfl
  |true=>
   have:=Cf.ok_iff.1 h
   simp only at this
   show IntKind.i64.wrap _=30+4*t+6*p
   rw [w64 (n:=4*t) (by omega),w64 (n:=30+4*t) (by omega),w64 (n:=6*p) (by omega),w64 (by omega)]
 rintro r1 rfl
 rw [hr,hcl]
 refine ⟨fun hc=>?_,fun hc=>?_⟩
 ·show _=checkA ⟨t,p,sh⟩ xs
  unfold checkA
  rw [hc];rfl
 have hg:AGood ⟨t,p,sh⟩ xs:=by
  simp only [Bool.or_eq_false_iff,Bool.not_eq_false',bne_eq_false_iff_eq] at hc
  exact {ok:=hc.1,len:=hc.2,bd:=hp0}
 have key:∀{r:Int×Bool},r=checkA ⟨t,p,sh⟩ xs→(fun r__=>r__=r12_Check t p sh xs) r:=fun h=>h
 unfold checkA at key
 rw [hc,cond_false] at key
 rintro r rfl
 refine ⟨hg,fun _=>⟨fun hd=>key (by rw [show (!tiles ⟨t,p,sh⟩ xs)=true from hd];rfl),fun hd=>?_⟩⟩
 have h_tiles:(!tiles ⟨t,p,sh⟩ xs)=false:=hd
 rw [h_tiles,cond_false] at key
 rintro r rfl
 have hst:(starts ⟨t,p,sh⟩ xs).2=true:=by
  have h1:tiles ⟨t,p,sh⟩ xs=true:=by simpa using h_tiles
  unfold tiles at h1
  cases hq:(starts ⟨t,p,sh⟩ xs).2 with
  |true=>rfl
  |false=>rw [hq] at h1;cases h1
 refine ⟨hg,fun _=>⟨hst,fun _=>⟨fun hd=>key (by rw [show (!feet ⟨t,p,sh⟩ xs)=true from hd];rfl),fun hd=>?_⟩⟩⟩
 have h_feet:(!feet ⟨t,p,sh⟩ xs)=false:=hd
 rw [h_feet,cond_false] at key
 rintro r rfl
 refine ⟨hg,fun _=>⟨fun hd=>key (by rw [show (!apart ⟨t,p,sh⟩ xs)=true from hd];rfl),fun hd=>?_⟩⟩
 have h_apart:(!apart ⟨t,p,sh⟩ xs)=false:=hd
 rw [h_apart,cond_false] at key
 rintro r rfl
 refine ⟨hg,fun _=>⟨fun hd=>key (by rw [show (!slotsOk ⟨t,p,sh⟩ xs)=true from hd];rfl),fun hd=>?_⟩⟩
 have h_slotsOk:(!slotsOk ⟨t,p,sh⟩ xs)=false:=hd
 rw [h_slotsOk,cond_false] at key
 rintro r rfl
 refine ⟨hg,fun _=>⟨fun hd=>key (by rw [show (!bins ⟨t,p,sh⟩ xs)=true from hd];rfl),fun hd=>?_⟩⟩
 have h_bins:(!bins ⟨t,p,sh⟩ xs)=false:=hd
 rw [h_bins,cond_false] at key
 rintro r rfl
 refine ⟨hg,fun _=>⟨fun hd=>key (by rw [show (!racks ⟨t,p,sh⟩ xs)=true from hd];rfl),fun hd=>?_⟩⟩
 have h_racks:(!racks ⟨t,p,sh⟩ xs)=false:=hd
 rw [h_racks,cond_false] at key
 rintro r rfl
 refine ⟨hg,fun _=>⟨fun hd=>key (by rw [show (!loose ⟨t,p,sh⟩ xs)=true from hd];rfl),fun hd=>?_⟩⟩
 have h_loose:(!loose ⟨t,p,sh⟩ xs)=false:=hd
 rw [h_loose,cond_false] at key
 rintro r rfl
 refine ⟨hg,fun _=>⟨fun hd=>key (by rw [show (!counts ⟨t,p,sh⟩ xs)=true from hd];rfl),fun hd=>?_⟩⟩
 have h_counts:(!counts ⟨t,p,sh⟩ xs)=false:=hd
 rw [h_counts,cond_false] at key
 rintro r rfl
 refine ⟨hg,fun _=>⟨fun hd=>key (by rw [show (!rootsOk ⟨t,p,sh⟩ xs)=true from hd];rfl),fun hd=>?_⟩⟩
 have h_rootsOk:(!rootsOk ⟨t,p,sh⟩ xs)=false:=hd
 rw [h_rootsOk,cond_false] at key
 exact key rfl
theorem r12_Check_ok:EOk 110 e_r12_Check:=
 ent_w0 Dg T_x_roots_ok (I:=[2999998]) Tryz.func110 mix (B:=bodyOf Tryz.f110) (by kernel_rfl) rfl (by kernel_rfl) 400
  fun _ t p sh xs hb hp=>⟨_,fun _ _ _=>by kernel_rfl,r12_Check_begin t p sh xs (hp _ (.head _)) (hb.2.1)⟩
def T_r12_Check:Tb:=(110,e_r12_Check)::T_x_roots
theorem T_r12_Check_ok:TOk T_r12_Check:=tc_ r12_Check_ok T_x_roots_ok
def r12_Sound (t p sh:Int) (xs:LI):Bool:=soundA ⟨t,p,sh⟩ xs
abbrev c_r12_Sound:Ct Sg:=⟨none,false,[.agg [.i .i64, .i .i64, .i .i64], .ro [some .u32]], .b⟩
def e_r12_Sound:Entry Sg:=entC c_r12_Sound r12_Sound (fun t p sh xs=>[bdAll xs])
def r12_Sound_w (t p sh:Int) (xs:LI) (R_:Bool→Prop):Prop:=(∀r1:Int×Bool,r1=(r12_Check t p sh xs)→(aw_ (bdAll xs) (R_ r1.2)))
theorem r12_Sound_begin (t p sh:Int) (xs:LI) (hp0:bdAll xs) (hl0:xs.length≤9223372036854775807):r12_Sound_w t p sh xs (fun r__=>r__=(r12_Sound t p sh xs)):=by
 unfold r12_Sound_w
 rintro r rfl
 exact ⟨hp0,fun _=>rfl⟩
theorem r12_Sound_ok:EOk 63 e_r12_Sound:=
 ent_w0 Dg T_r12_Check_ok (I:=[2999998]) Tryz.func63 mix (B:=bodyOf Tryz.f63) (by kernel_rfl) rfl (by kernel_rfl) 400
  fun _ t p sh xs hb hp=>⟨_,fun _ _ _=>by kernel_rfl,r12_Sound_begin t p sh xs (hp _ (.head _)) (hb.2.1)⟩
def T_r12_Sound:Tb:=(63,e_r12_Sound)::T_r12_Check
theorem T_r12_Sound_ok:TOk T_r12_Sound:=tc_ r12_Sound_ok T_r12_Check_ok
def r12_Few (t p sh:Int):Bool:=decide (p≤64)
def r12_Few_v (t p sh:Int):Bool:=decide (p≤64)
abbrev c_r12_Few:Ct Sg:=⟨none,false,[.agg [.i .i64, .i .i64, .i .i64]], .b⟩
def e_r12_Few:Entry Sg:=entC c_r12_Few r12_Few (fun _ _ _=>[])
theorem r12_Few_eq (t p sh:Int):r12_Few_v t p sh=(r12_Few t p sh):=by
 rfl
theorem r12_Few_ok:EOk 21 e_r12_Few:=
 ent_ok Dg T_r12_Sound_ok (I:=[]) Tryz.func21 mix (B:=bodyOf Tryz.f21) (by kernel_rfl) rfl (by kernel_rfl) 400
  fun _ t p sh hb hp=>⟨(r12_Few_v t p sh), .t,fun _ _ _=>by kernel_rfl,trivial,r12_Few_eq t p sh⟩
def T_r12_Few:Tb:=(21,e_r12_Few)::T_r12_Sound
theorem T_r12_Few_ok:TOk T_r12_Few:=tc_ r12_Few_ok T_r12_Sound_ok
def l14_Eight:Int×Int×Int×LI:=(1,8,10,[8,0,0,0,0,1,0,0,0,0,0,0,0,0,0,0,0,0,0,0,0,0,0,0,0,0,0,0,0,0,0,0,0,0,129,0,0,0,0,0,0,0,0,0,0,0,0,0,0,0,0,0,0,0,0,0,0,0,0,0,0,0,0,0,0,0,0,0,0,0,0,0,0,0,0,0,0,1,0,0,0,0])
abbrev c_l14_Eight:Ct Sg:=⟨none,false,[], .tup [.agg [.i .i64, .i .i64, .i .i64], .new 60 [some .u32]]⟩
def e_l14_Eight:Entry Sg:=entC c_l14_Eight l14_Eight ([])
theorem l14_Eight_ok:EOk 23 e_l14_Eight:=
 ent_ok Dg T_r12_Few_ok (I:=[]) Tryz.func23 mix (B:=bodyOf Tryz.f23) (by kernel_rfl) rfl (by kernel_rfl) 400
  fun _ hb hp=>⟨l14_Eight,(.need ((0:Int)≤82∧(82:Int)≤82∧(328:Int)≤140737488355328) (.need ((0:Int)≤0∧(0:Int)<82) (.need ((0:Int)≤5∧(5:Int)<82) (.need ((0:Int)≤34∧(34:Int)<82) (.need ((0:Int)≤77∧(77:Int)<82) .t))))),fun _ _ _=>by kernel_rfl,⟨(by first|omega|decide),fun z1=>⟨(by first|omega|decide),fun z3=>⟨(by first|omega|decide),fun z4=>⟨(by first|omega|decide),fun z5=>⟨(by first|omega|decide),fun z6=>trivial⟩⟩⟩⟩⟩,rfl⟩
def T_l14_Eight:Tb:=(23,e_l14_Eight)::T_r12_Few
theorem T_l14_Eight_ok:TOk T_l14_Eight:=tc_ l14_Eight_ok T_r12_Few_ok
end Go.Proofs.YtjfabjhlkpgckaaGreat
namespace Go.Proofs.YtjfabjhlkpgckaaGreat
open Go.Sl
def sp_used (s:VS) (t p h g n:Int):VS:=(let r1:Ty (Ct.RK c_view_Put):=VS.set s (place_Info t p h g) (Prod.fst (info_Put (2:Int) n (0:Int)));(let r3:Ty (Ct.RK c_view_Put):=VS.set r1 (place_Foot t p h (IntKind.wrap IntKind.i64 (IntKind.wrap IntKind.i64 (g+n)-(1:Int)))) (IntKind.wrap IntKind.u32 (IntKind.wrap IntKind.i64 (g+(1:Int))));r3))
def sp_used_out (r_:VS):List Value→Value:=fun ss=>undef
def sp_used_nw (p_0:Addr) (r_:VS):List (Chunk Sg):=[.obj p_0 (.view (r_))]
def sp_used_rows (r_:VS):List (Mk Sg):=[]
section
variable (s:VS) (t p h g n:Int) (p_0:Addr)
theorem sp_used_calls {E_:Ev} {G_:Hp} {w_:World} (hS:Sat E_ G_ w_ [Dg p_0 ((.view s))]):Calls Tryz.prog 186 #[(.agg #[.pointer (some p_0), .int .i64 t, .int .i64 p, .int .i64 h]),(.int .i64 g),(.int .i64 n)] w_ (Post Dg E_ G_ (sp_used_out (sp_used s t p h g n)) (sp_used_nw p_0 (sp_used s t p h g n)) (sp_used_rows (sp_used s t p h g n))):=
 calls_post Dg T_l14_Eight_ok (I:=[]) Tryz.func186 mix (B:=bodyOf Tryz.f186) (by kernel_rfl) [(.agg #[.pointer (some p_0), .int .i64 t, .int .i64 p, .int .i64 h]),(.int .i64 g),(.int .i64 n)] [.many [.pt 0 .obj, .no, .no, .no], .no, .no] (by kernel_rfl) (objs:=[.obj p_0 (.view s)]) (ros:=[]) (psOk_cons (by simp [pOk,psOk,cOk]) (psOk_cons pOk_no (psOk_cons pOk_no (psOk_nil)))) (by kernel_rfl) (trivial) hS 400
  (t:=Tree.fresh fun b=>Tree.bind (VS.set s (place_Info t p h g) (Prod.fst (info_Put (2:Int) n (0:Int)))) fun a=>Tree.need (bd32 (Prod.fst (info_Put (2:Int) n (0:Int)))) (Tree.bind (VS.set a (place_Foot t p h (IntKind.wrap IntKind.i64 (IntKind.wrap IntKind.i64 (g+n)-(1:Int)))) (IntKind.wrap IntKind.u32 (IntKind.wrap IntKind.i64 (g+(1:Int))))) fun a_1=>Tree.need (bd32 (IntKind.wrap IntKind.u32 (IntKind.wrap IntKind.i64 (g+(1:Int))))) (Tree.ret (Value.tuple {toList:=[]}) pn_ [Chunk.obj p_0 (Option.getD (some (Wr.inj wView a_1)) (Option.getD (some (Wr.inj wView a)) (Sg.view s))),kc_ b 163 [(Value.pointer (some p_0),po_ 0),(vi_ t,pn_),(vi_ p,pn_),(vi_ h,pn_)]])))
  (by kernel_rfl)
  (fun b0_0=>fun r1 e1=>⟨by first|exact wu32_bd _|exact VS.get_bd _ _|exact zero_bd|(rw [info_Put_val];exact iVal_bd _ _ _)|(subst_vars;exact VS.get_bd _ _)|omega,fun y2=>fun r3 e3=>⟨by first|exact wu32_bd _|exact VS.get_bd _ _|exact zero_bd|(rw [info_Put_val];exact iVal_bd _ _ _)|(subst_vars;exact VS.get_bd _ _)|omega,fun y4=>RetOk.at (outf:=sp_used_out) (nwf:=sp_used_nw p_0) (rowsf:=sp_used_rows) (r:=r3) (by subst e1;subst e3;first|exact Eq.symm rfl|(simp only [sp_used,cond_true,cond_false];done)|(exfalso;simp_all;done)|decide) ⟨[],[0],(by decide),rfl,rfl,⟨.inl rfl,trivial⟩⟩⟩⟩)
end
def sp_used_e:Entry Sg:=fun
 |[(.agg ⟨[.pointer (some p_0), .int .i64 t, .int .i64 p, .int .i64 h]⟩, .many [.obj (.view s), .none, .none, .none]),(.int .i64 g,_),(.int .i64 n,_)]=>some ⟨(sp_used s t p h g n),fun (r_:VS)=>⟨[],some (.view (r_)),[],fun ss=>undef,fun k_=> .no⟩⟩
 |_=>none
theorem sp_used_ok:EntryOk Dg Tryz.prog 186 sp_used_e:=by
 intro args c r h hr_
 unfold sp_used_e at h
 split at h
 ·injection h with h;subst h;subst hr_
  refine ⟨fun K acs _=>pOk_no,fun hpre E G w hi hS=>?_⟩
  exact entry_post Dg (by exact rfl) (sp_used_calls _ _ _ _ _ _ _ hS)
 ·cases h
def T_sp_used:List (Nat×Entry Sg):=(186,sp_used_e)::T_l14_Eight
theorem T_sp_used_ok:TableOk Dg Tryz.prog T_sp_used:=TableOk.cons Dg sp_used_ok T_l14_Eight_ok
def sp_free (s:VS) (t p h g:Int):VS×Int:=(let r1:Ty (Ct.RK c_place_Info):=place_Info t p h g;(let r2:Ty (Ct.RK c_view_Get):=(VS.read s r1,VS.get s r1);(let r3:Ty (Ct.RK c_info_Get):=info_Get r2.2;(bif r3.1 !=(1:Int) then (r2.1,(0:Int)) else (r2.1,r3.2.1)))))
def sp_free_out (r_:VS×Int):List Value→Value:=fun ss=> .int .i64 (r_.2)
def sp_free_nw (p_0:Addr) (r_:VS×Int):List (Chunk Sg):=[.obj p_0 (.view (r_.1))]
def sp_free_rows (r_:VS×Int):List (Mk Sg):=[]
section
variable (s:VS) (t p h g:Int) (p_0:Addr)
theorem sp_free_calls {E_:Ev} {G_:Hp} {w_:World} (hS:Sat E_ G_ w_ [Dg p_0 ((.view s))]):Calls Tryz.prog 138 #[(.agg #[.pointer (some p_0), .int .i64 t, .int .i64 p, .int .i64 h]),(.int .i64 g)] w_ (Post Dg E_ G_ (sp_free_out (sp_free s t p h g)) (sp_free_nw p_0 (sp_free s t p h g)) (sp_free_rows (sp_free s t p h g))):=
 calls_post Dg T_sp_used_ok (I:=[]) Tryz.func138 mix (B:=bodyOf Tryz.f138) (by kernel_rfl) [(.agg #[.pointer (some p_0), .int .i64 t, .int .i64 p, .int .i64 h]),(.int .i64 g)] [.many [.pt 0 .obj, .no, .no, .no], .no] (by kernel_rfl) (objs:=[.obj p_0 (.view s)]) (ros:=[]) (psOk_cons (by simp [pOk,psOk,cOk]) (psOk_cons pOk_no (psOk_nil))) (by kernel_rfl) (trivial) hS 400
  (t:=Tree.fresh fun b=>Tree.two (Tree.bind (place_Info t p h g) fun a=>Tree.two (Tree.bind (VS.read s a,VS.get s a) fun a=>Tree.two (Tree.bind (info_Get a.2) fun a_1=>Tree.fresh fun b_1=>Tree.br (a_1.1 !=(1:Int)) (Tree.ret (vi_ (0:Int)) pn_ [Chunk.obj p_0 (Option.getD (some (Wr.inj wView a.1)) (Sg.view s)),kc_ b 163 [(Value.pointer (some p_0),po_ 0),(vi_ t,pn_),(vi_ p,pn_),(vi_ h,pn_)],kc_ b_1 105 [(vi_ a_1.1,pn_),(vi_ a_1.2.1,pn_),(vi_ a_1.2.2.1,pn_)]]) (Tree.ret (vi_ a_1.2.1) pn_ [Chunk.obj p_0 (Option.getD (some (Wr.inj wView a.1)) (Sg.view s)),kc_ b 163 [(Value.pointer (some p_0),po_ 0),(vi_ t,pn_),(vi_ p,pn_),(vi_ h,pn_)],kc_ b_1 105 [(vi_ a_1.1,pn_),(vi_ a_1.2.1,pn_),(vi_ a_1.2.2.1,pn_)]])) (Tree.fresh fun b_1=>Tree.bind (info_Get a.2) fun a_1=>Tree.br (a_1.1 !=(1:Int)) (Tree.ret (vi_ (0:Int)) pn_ [Chunk.obj p_0 (Option.getD (some (Wr.inj wView a.1)) (Sg.view s)),kc_ b 163 [(Value.pointer (some p_0),po_ 0),(vi_ t,pn_),(vi_ p,pn_),(vi_ h,pn_)],kc_ b_1 105 [(vi_ a_1.1,pn_),(vi_ a_1.2.1,pn_),(vi_ a_1.2.2.1,pn_)]]) (Tree.ret (vi_ a_1.2.1) pn_ [Chunk.obj p_0 (Option.getD (some (Wr.inj wView a.1)) (Sg.view s)),kc_ b 163 [(Value.pointer (some p_0),po_ 0),(vi_ t,pn_),(vi_ p,pn_),(vi_ h,pn_)],kc_ b_1 105 [(vi_ a_1.1,pn_),(vi_ a_1.2.1,pn_),(vi_ a_1.2.2.1,pn_)]]))) (Tree.fresh fun b_1=>Tree.bind (VS.read s a,VS.get s a) fun a=>Tree.bind (info_Get a.2) fun a_1=>Tree.br (a_1.1 !=(1:Int)) (Tree.ret (vi_ (0:Int)) pn_ [Chunk.obj p_0 (Option.getD (some (Wr.inj wView a.1)) (Sg.view s)),kc_ b 163 [(Value.pointer (some p_0),po_ 0),(vi_ t,pn_),(vi_ p,pn_),(vi_ h,pn_)],kc_ b_1 105 [(vi_ a_1.1,pn_),(vi_ a_1.2.1,pn_),(vi_ a_1.2.2.1,pn_)]]) (Tree.ret (vi_ a_1.2.1) pn_ [Chunk.obj p_0 (Option.getD (some (Wr.inj wView a.1)) (Sg.view s)),kc_ b 163 [(Value.pointer (some p_0),po_ 0),(vi_ t,pn_),(vi_ p,pn_),(vi_ h,pn_)],kc_ b_1 105 [(vi_ a_1.1,pn_),(vi_ a_1.2.1,pn_),(vi_ a_1.2.2.1,pn_)]]))) (Tree.fresh fun b_1=>Tree.bind (place_Info t p h g) fun a=>Tree.bind (VS.read s a,VS.get s a) fun a=>Tree.bind (info_Get a.2) fun a_1=>Tree.br (a_1.1 !=(1:Int)) (Tree.ret (vi_ (0:Int)) pn_ [Chunk.obj p_0 (Option.getD (some (Wr.inj wView a.1)) (Sg.view s)),kc_ b 163 [(Value.pointer (some p_0),po_ 0),(vi_ t,pn_),(vi_ p,pn_),(vi_ h,pn_)],kc_ b_1 105 [(vi_ a_1.1,pn_),(vi_ a_1.2.1,pn_),(vi_ a_1.2.2.1,pn_)]]) (Tree.ret (vi_ a_1.2.1) pn_ [Chunk.obj p_0 (Option.getD (some (Wr.inj wView a.1)) (Sg.view s)),kc_ b 163 [(Value.pointer (some p_0),po_ 0),(vi_ t,pn_),(vi_ p,pn_),(vi_ h,pn_)],kc_ b_1 105 [(vi_ a_1.1,pn_),(vi_ a_1.2.1,pn_),(vi_ a_1.2.2.1,pn_)]])))
  (by kernel_rfl)
  (fun b0_0=>⟨fun r1 e1=>⟨fun r2 e2=>⟨fun r3 e3=>fun b4_0=>⟨fun z5=>RetOk.at (outf:=sp_free_out) (nwf:=sp_free_nw p_0) (rowsf:=sp_free_rows) (r:=(r2.1,(0:Int))) (by subst e1;subst e2;subst e3;first|exact Eq.symm ((cT z5).trans rfl)|(simp only [sp_free,z5,cond_true,cond_false];done)|(exfalso;simp_all;done)|decide) ⟨[],[0],(by decide),rfl,rfl,⟨.inl rfl,trivial⟩⟩,fun z5=>RetOk.at (outf:=sp_free_out) (nwf:=sp_free_nw p_0) (rowsf:=sp_free_rows) (r:=(r2.1,r3.2.1)) (by subst e1;subst e2;subst e3;first|exact Eq.symm ((cF z5).trans rfl)|(simp only [sp_free,z5,cond_true,cond_false];done)|(exfalso;simp_all;done)|decide) ⟨[],[0],(by decide),rfl,rfl,⟨.inl rfl,trivial⟩⟩⟩,fun b3_0=>fun r4 e4=>⟨fun z5=>RetOk.at (outf:=sp_free_out) (nwf:=sp_free_nw p_0) (rowsf:=sp_free_rows) (r:=(r2.1,(0:Int))) (by subst e1;subst e2;subst e4;first|exact Eq.symm ((cT z5).trans rfl)|(simp only [sp_free,z5,cond_true,cond_false];done)|(exfalso;simp_all;done)|decide) ⟨[],[0],(by decide),rfl,rfl,⟨.inl rfl,trivial⟩⟩,fun z5=>RetOk.at (outf:=sp_free_out) (nwf:=sp_free_nw p_0) (rowsf:=sp_free_rows) (r:=(r2.1,r4.2.1)) (by subst e1;subst e2;subst e4;first|exact Eq.symm ((cF z5).trans rfl)|(simp only [sp_free,z5,cond_true,cond_false];done)|(exfalso;simp_all;done)|decide) ⟨[],[0],(by decide),rfl,rfl,⟨.inl rfl,trivial⟩⟩⟩⟩,fun b2_0=>fun r3 e3=>fun r4 e4=>⟨fun z5=>RetOk.at (outf:=sp_free_out) (nwf:=sp_free_nw p_0) (rowsf:=sp_free_rows) (r:=(r3.1,(0:Int))) (by subst e1;subst e3;subst e4;first|exact Eq.symm ((cT z5).trans rfl)|(simp only [sp_free,z5,cond_true,cond_false];done)|(exfalso;simp_all;done)|decide) ⟨[],[0],(by decide),rfl,rfl,⟨.inl rfl,trivial⟩⟩,fun z5=>RetOk.at (outf:=sp_free_out) (nwf:=sp_free_nw p_0) (rowsf:=sp_free_rows) (r:=(r3.1,r4.2.1)) (by subst e1;subst e3;subst e4;first|exact Eq.symm ((cF z5).trans rfl)|(simp only [sp_free,z5,cond_true,cond_false];done)|(exfalso;simp_all;done)|decide) ⟨[],[0],(by decide),rfl,rfl,⟨.inl rfl,trivial⟩⟩⟩⟩,fun b1_0=>fun r2 e2=>fun r3 e3=>fun r4 e4=>⟨fun z5=>RetOk.at (outf:=sp_free_out) (nwf:=sp_free_nw p_0) (rowsf:=sp_free_rows) (r:=(r3.1,(0:Int))) (by subst e2;subst e3;subst e4;first|exact Eq.symm ((cT z5).trans rfl)|(simp only [sp_free,z5,cond_true,cond_false];done)|(exfalso;simp_all;done)|decide) ⟨[],[0],(by decide),rfl,rfl,⟨.inl rfl,trivial⟩⟩,fun z5=>RetOk.at (outf:=sp_free_out) (nwf:=sp_free_nw p_0) (rowsf:=sp_free_rows) (r:=(r3.1,r4.2.1)) (by subst e2;subst e3;subst e4;first|exact Eq.symm ((cF z5).trans rfl)|(simp only [sp_free,z5,cond_true,cond_false];done)|(exfalso;simp_all;done)|decide) ⟨[],[0],(by decide),rfl,rfl,⟨.inl rfl,trivial⟩⟩⟩⟩)
end
def sp_free_e:Entry Sg:=fun
 |[(.agg ⟨[.pointer (some p_0), .int .i64 t, .int .i64 p, .int .i64 h]⟩, .many [.obj (.view s), .none, .none, .none]),(.int .i64 g,_)]=>some ⟨(sp_free s t p h g),fun (r_:VS×Int)=>⟨[],some (.view (r_.1)),[],fun ss=> .int .i64 (r_.2),fun k_=> .no⟩⟩
 |_=>none
theorem sp_free_ok:EntryOk Dg Tryz.prog 138 sp_free_e:=by
 intro args c r h hr_
 unfold sp_free_e at h
 split at h
 ·injection h with h;subst h;subst hr_
  refine ⟨fun K acs _=>pOk_no,fun hpre E G w hi hS=>?_⟩
  exact entry_post Dg (by exact rfl) (sp_free_calls _ _ _ _ _ _ hS)
 ·cases h
def T_sp_free:List (Nat×Entry Sg):=(138,sp_free_e)::T_sp_used
theorem T_sp_free_ok:TableOk Dg Tryz.prog T_sp_free:=TableOk.cons Dg sp_free_ok T_sp_used_ok
def sp_count (s:VS) (t p h n:Int):VS:=(let r1:Ty (Ct.RK c_view_Get):=(VS.read s (0:Int),VS.get s (0:Int));(let r2:Ty (Ct.RK c_view_Put):=VS.set r1.1 (0:Int) (IntKind.wrap IntKind.u32 (r1.2+IntKind.wrap IntKind.u32 n));r2))
def sp_count_out (r_:VS):List Value→Value:=fun ss=>undef
def sp_count_nw (p_0:Addr) (r_:VS):List (Chunk Sg):=[.obj p_0 (.view (r_))]
def sp_count_rows (r_:VS):List (Mk Sg):=[]
section
variable (s:VS) (t p h n:Int) (p_0:Addr)
theorem sp_count_calls {E_:Ev} {G_:Hp} {w_:World} (hS:Sat E_ G_ w_ [Dg p_0 ((.view s))]):Calls Tryz.prog 141 #[(.agg #[.pointer (some p_0), .int .i64 t, .int .i64 p, .int .i64 h]),(.int .i64 n)] w_ (Post Dg E_ G_ (sp_count_out (sp_count s t p h n)) (sp_count_nw p_0 (sp_count s t p h n)) (sp_count_rows (sp_count s t p h n))):=
 calls_post Dg T_sp_free_ok (I:=[]) Tryz.func141 mix (B:=bodyOf Tryz.f141) (by kernel_rfl) [(.agg #[.pointer (some p_0), .int .i64 t, .int .i64 p, .int .i64 h]),(.int .i64 n)] [.many [.pt 0 .obj, .no, .no, .no], .no] (by kernel_rfl) (objs:=[.obj p_0 (.view s)]) (ros:=[]) (psOk_cons (by simp [pOk,psOk,cOk]) (psOk_cons pOk_no (psOk_nil))) (by kernel_rfl) (trivial) hS 400
  (t:=Tree.fresh fun b=>Tree.bind (VS.read s (0:Int),VS.get s (0:Int)) fun a=>Tree.bind (VS.set a.1 (0:Int) (IntKind.wrap IntKind.u32 (a.2+IntKind.wrap IntKind.u32 n))) fun a_1=>Tree.need (bd32 (IntKind.wrap IntKind.u32 (a.2+IntKind.wrap IntKind.u32 n))) (Tree.ret (Value.tuple {toList:=[]}) pn_ [Chunk.obj p_0 (Option.getD (some (Wr.inj wView a_1)) (Option.getD (some (Wr.inj wView a.1)) (Sg.view s))),kc_ b 163 [(Value.pointer (some p_0),po_ 0),(vi_ t,pn_),(vi_ p,pn_),(vi_ h,pn_)]]))
  (by kernel_rfl)
  (fun b0_0=>fun r1 e1=>fun r2 e2=>⟨by first|exact wu32_bd _|exact VS.get_bd _ _|exact zero_bd|(rw [info_Put_val];exact iVal_bd _ _ _)|(subst_vars;exact VS.get_bd _ _)|omega,fun y3=>RetOk.at (outf:=sp_count_out) (nwf:=sp_count_nw p_0) (rowsf:=sp_count_rows) (r:=r2) (by subst e1;subst e2;first|exact Eq.symm rfl|(simp only [sp_count,cond_true,cond_false];done)|(exfalso;simp_all;done)|decide) ⟨[],[0],(by decide),rfl,rfl,⟨.inl rfl,trivial⟩⟩⟩)
end
def sp_count_e:Entry Sg:=fun
 |[(.agg ⟨[.pointer (some p_0), .int .i64 t, .int .i64 p, .int .i64 h]⟩, .many [.obj (.view s), .none, .none, .none]),(.int .i64 n,_)]=>some ⟨(sp_count s t p h n),fun (r_:VS)=>⟨[],some (.view (r_)),[],fun ss=>undef,fun k_=> .no⟩⟩
 |_=>none
theorem sp_count_ok:EntryOk Dg Tryz.prog 141 sp_count_e:=by
 intro args c r h hr_
 unfold sp_count_e at h
 split at h
 ·injection h with h;subst h;subst hr_
  refine ⟨fun K acs _=>pOk_no,fun hpre E G w hi hS=>?_⟩
  exact entry_post Dg (by exact rfl) (sp_count_calls _ _ _ _ _ _ hS)
 ·cases h
def T_sp_count:List (Nat×Entry Sg):=(141,sp_count_e)::T_sp_free
theorem T_sp_count_ok:TableOk Dg Tryz.prog T_sp_count:=TableOk.cons Dg sp_count_ok T_sp_free_ok
def sp_join (s:VS) (t p h g b:Int):VS×Int:=(let r1:Ty (Ct.RK c_bin_Drop):=bin_Drop s t p h g;(let r2:Ty (Ct.RK c_view_Put):=VS.set r1.1 (place_Info t p h b) (0:Int);(let r4:Ty (Ct.RK c_view_Put):=VS.set r2 (place_Foot t p h (IntKind.wrap IntKind.i64 (b-(1:Int)))) (0:Int);(r4,r1.2))))
def sp_join_out (r_:VS×Int):List Value→Value:=fun ss=> .int .i64 (r_.2)
def sp_join_nw (p_0:Addr) (r_:VS×Int):List (Chunk Sg):=[.obj p_0 (.view (r_.1))]
def sp_join_rows (r_:VS×Int):List (Mk Sg):=[]
section
variable (s:VS) (t p h g b:Int) (p_0:Addr)
theorem sp_join_calls {E_:Ev} {G_:Hp} {w_:World} (hS:Sat E_ G_ w_ [Dg p_0 ((.view s))]):Calls Tryz.prog 139 #[(.agg #[.pointer (some p_0), .int .i64 t, .int .i64 p, .int .i64 h]),(.int .i64 g),(.int .i64 b)] w_ (Post Dg E_ G_ (sp_join_out (sp_join s t p h g b)) (sp_join_nw p_0 (sp_join s t p h g b)) (sp_join_rows (sp_join s t p h g b))):=
 calls_post Dg T_sp_count_ok (I:=[]) Tryz.func139 mix (B:=bodyOf Tryz.f139) (by kernel_rfl) [(.agg #[.pointer (some p_0), .int .i64 t, .int .i64 p, .int .i64 h]),(.int .i64 g),(.int .i64 b)] [.many [.pt 0 .obj, .no, .no, .no], .no, .no] (by kernel_rfl) (objs:=[.obj p_0 (.view s)]) (ros:=[]) (psOk_cons (by simp [pOk,psOk,cOk]) (psOk_cons pOk_no (psOk_cons pOk_no (psOk_nil)))) (by kernel_rfl) (trivial) hS 400
  (t:=Tree.fresh fun b_1=>Tree.bind (bin_Drop s t p h g) fun a=>Tree.bind (VS.set a.1 (place_Info t p h b) (0:Int)) fun a_1=>Tree.need (bd32 (0:Int)) (Tree.bind (VS.set a_1 (place_Foot t p h (IntKind.wrap IntKind.i64 (b-(1:Int)))) (0:Int)) fun a_2=>Tree.need (bd32 (0:Int)) (Tree.ret (vi_ a.2) pn_ [Chunk.obj p_0 (Option.getD (some (Wr.inj wView a_2)) (Option.getD (some (Wr.inj wView a_1)) (Option.getD (some (Wr.inj wView a.1)) (Sg.view s)))),kc_ b_1 163 [(Value.pointer (some p_0),po_ 0),(vi_ t,pn_),(vi_ p,pn_),(vi_ h,pn_)]])))
  (by kernel_rfl)
  (fun b0_0=>fun r1 e1=>fun r2 e2=>⟨by first|exact wu32_bd _|exact VS.get_bd _ _|exact zero_bd|(rw [info_Put_val];exact iVal_bd _ _ _)|(subst_vars;exact VS.get_bd _ _)|omega,fun y3=>fun r4 e4=>⟨by first|exact wu32_bd _|exact VS.get_bd _ _|exact zero_bd|(rw [info_Put_val];exact iVal_bd _ _ _)|(subst_vars;exact VS.get_bd _ _)|omega,fun y5=>RetOk.at (outf:=sp_join_out) (nwf:=sp_join_nw p_0) (rowsf:=sp_join_rows) (r:=(r4,r1.2)) (by subst e1;subst e2;subst e4;first|exact Eq.symm rfl|(simp only [sp_join,cond_true,cond_false];done)|(exfalso;simp_all;done)|decide) ⟨[],[0],(by decide),rfl,rfl,⟨.inl rfl,trivial⟩⟩⟩⟩)
end
def sp_join_e:Entry Sg:=fun
 |[(.agg ⟨[.pointer (some p_0), .int .i64 t, .int .i64 p, .int .i64 h]⟩, .many [.obj (.view s), .none, .none, .none]),(.int .i64 g,_),(.int .i64 b,_)]=>some ⟨(sp_join s t p h g b),fun (r_:VS×Int)=>⟨[],some (.view (r_.1)),[],fun ss=> .int .i64 (r_.2),fun k_=> .no⟩⟩
 |_=>none
theorem sp_join_ok:EntryOk Dg Tryz.prog 139 sp_join_e:=by
 intro args c r h hr_
 unfold sp_join_e at h
 split at h
 ·injection h with h;subst h;subst hr_
  refine ⟨fun K acs _=>pOk_no,fun hpre E G w hi hS=>?_⟩
  exact entry_post Dg (by exact rfl) (sp_join_calls _ _ _ _ _ _ _ hS)
 ·cases h
def T_sp_join:List (Nat×Entry Sg):=(139,sp_join_e)::T_sp_count
theorem T_sp_join_ok:TableOk Dg Tryz.prog T_sp_join:=TableOk.cons Dg sp_join_ok T_sp_count_ok
def sp_ahead (s:VS) (t p h g:Int):VS×Int:=(bif g==(0:Int) then (s,(-1:Int)) else (let r2:Ty (Ct.RK c_view_Get):=(VS.read s (place_Foot t p h (IntKind.wrap IntKind.i64 (g-(1:Int)))),VS.get s (place_Foot t p h (IntKind.wrap IntKind.i64 (g-(1:Int)))));(r2.1,IntKind.wrap IntKind.i64 (IntKind.wrap IntKind.i64 r2.2-(1:Int)))))
def sp_ahead_out (r_:VS×Int):List Value→Value:=fun ss=> .int .i64 (r_.2)
def sp_ahead_nw (p_0:Addr) (r_:VS×Int):List (Chunk Sg):=[.obj p_0 (.view (r_.1))]
def sp_ahead_rows (r_:VS×Int):List (Mk Sg):=[]
section
variable (s:VS) (t p h g:Int) (p_0:Addr)
theorem sp_ahead_calls {E_:Ev} {G_:Hp} {w_:World} (hS:Sat E_ G_ w_ [Dg p_0 ((.view s))]):Calls Tryz.prog 137 #[(.agg #[.pointer (some p_0), .int .i64 t, .int .i64 p, .int .i64 h]),(.int .i64 g)] w_ (Post Dg E_ G_ (sp_ahead_out (sp_ahead s t p h g)) (sp_ahead_nw p_0 (sp_ahead s t p h g)) (sp_ahead_rows (sp_ahead s t p h g))):=
 calls_post Dg T_sp_join_ok (I:=[]) Tryz.func137 mix (B:=bodyOf Tryz.f137) (by kernel_rfl) [(.agg #[.pointer (some p_0), .int .i64 t, .int .i64 p, .int .i64 h]),(.int .i64 g)] [.many [.pt 0 .obj, .no, .no, .no], .no] (by kernel_rfl) (objs:=[.obj p_0 (.view s)]) (ros:=[]) (psOk_cons (by simp [pOk,psOk,cOk]) (psOk_cons pOk_no (psOk_nil))) (by kernel_rfl) (trivial) hS 400
  (t:=Tree.fresh fun b=>Tree.br (g==(0:Int)) (Tree.ret (vi_ (-1:Int)) pn_ [Chunk.obj p_0 (Sg.view s),kc_ b 163 [(Value.pointer (some p_0),po_ 0),(vi_ t,pn_),(vi_ p,pn_),(vi_ h,pn_)]]) (Tree.bind (VS.read s (place_Foot t p h (IntKind.wrap IntKind.i64 (g-(1:Int)))),VS.get s (place_Foot t p h (IntKind.wrap IntKind.i64 (g-(1:Int))))) fun a=>Tree.ret (vi_ (IntKind.wrap IntKind.i64 (IntKind.wrap IntKind.i64 a.2-(1:Int)))) pn_ [Chunk.obj p_0 (Option.getD (some (Wr.inj wView a.1)) (Sg.view s)),kc_ b 163 [(Value.pointer (some p_0),po_ 0),(vi_ t,pn_),(vi_ p,pn_),(vi_ h,pn_)]]))
  (by kernel_rfl)
  (fun b0_0=>⟨fun z1=>RetOk.at (outf:=sp_ahead_out) (nwf:=sp_ahead_nw p_0) (rowsf:=sp_ahead_rows) (r:=(s,(-1:Int))) (by first|exact Eq.symm ((cT z1).trans rfl)|(simp only [sp_ahead,z1,cond_true,cond_false];done)|(exfalso;simp_all;done)|decide) ⟨[],[0],(by decide),rfl,rfl,⟨.inl rfl,trivial⟩⟩,fun z1=>fun r2 e2=>RetOk.at (outf:=sp_ahead_out) (nwf:=sp_ahead_nw p_0) (rowsf:=sp_ahead_rows) (r:=(r2.1,IntKind.wrap IntKind.i64 (IntKind.wrap IntKind.i64 r2.2-(1:Int)))) (by subst e2;first|exact Eq.symm ((cF z1).trans rfl)|(simp only [sp_ahead,z1,cond_true,cond_false];done)|(exfalso;simp_all;done)|decide) ⟨[],[0],(by decide),rfl,rfl,⟨.inl rfl,trivial⟩⟩⟩)
end
def sp_ahead_e:Entry Sg:=fun
 |[(.agg ⟨[.pointer (some p_0), .int .i64 t, .int .i64 p, .int .i64 h]⟩, .many [.obj (.view s), .none, .none, .none]),(.int .i64 g,_)]=>some ⟨(sp_ahead s t p h g),fun (r_:VS×Int)=>⟨[],some (.view (r_.1)),[],fun ss=> .int .i64 (r_.2),fun k_=> .no⟩⟩
 |_=>none
theorem sp_ahead_ok:EntryOk Dg Tryz.prog 137 sp_ahead_e:=by
 intro args c r h hr_
 unfold sp_ahead_e at h
 split at h
 ·injection h with h;subst h;subst hr_
  refine ⟨fun K acs _=>pOk_no,fun hpre E G w hi hS=>?_⟩
  exact entry_post Dg (by exact rfl) (sp_ahead_calls _ _ _ _ _ _ hS)
 ·cases h
def T_sp_ahead:List (Nat×Entry Sg):=(137,sp_ahead_e)::T_sp_join
theorem T_sp_ahead_ok:TableOk Dg Tryz.prog T_sp_ahead:=TableOk.cons Dg sp_ahead_ok T_sp_join_ok
end Go.Proofs.YtjfabjhlkpgckaaGreat
namespace Go.Sl
abbrev wI (x:Int):Int:=IntKind.wrap IntKind.i64 x
section
variable (c:Cf)
def qUsed (p n:Int):Pg Unit:= .put (c.info p) (iVal 2 n 0) <| .put (c.foot (wI (wI (p+n)-1))) (nv (p+1)) (.ret ())
def qJoin (p b:Int):Pg Int:=(pDrop c p).bind fun l=> .put (c.info b) 0 <| .put (c.foot (wI (b-1))) 0 (.ret l)
def qTake (n:Int):Pg (Int×Bool):=
 (pFind c n).bind fun r=>bif r.2 then
   (pDrop c r.1).bind fun l=>(qUsed c r.1 n).bind fun _=>
     (bif decide (n<l) then pAdd c (wI (r.1+n)) (wI (l-n)) else .ret ()).bind fun _=>(pCount (-n)).bind fun _=> .ret (r.1,true)
 else .ret (0,false)
def qAhead (p n:Int):Pg (Int×Int):=
 bif p==0 then .ret (p,n) else .get (c.foot (wI (p-1))) fun f=>
  (pFree c (f-1)).bind fun l=>bif decide (0<l) then (qJoin c (f-1) p).bind fun m=> .ret (f-1,wI (n+m)) else .ret (p,n)
def qNext (r:Int) (a:Int×Int):Pg (Int×Int):=
 bif decide (r<c.p) then (pFree c r).bind fun l=>bif decide (0<l) then (qJoin c r r).bind fun m=> .ret (a.1,wI (a.2+m)) else .ret a else .ret a
def qRelease (p n:Int):Pg Unit:=
 (qAhead c p n).bind fun a=>(qNext c (wI (p+n)) a).bind fun a=>(pAdd c a.1 a.2).bind fun _=>pCount n
end
end Go.Sl
namespace Go.Proofs.YtjfabjhlkpgckaaGreat
open Go.Sl
theorem nvadd (x y:Int):nv (x+nv y)=nv (x+y):=by unfold nv;omega
theorem nvsub (x y:Int):nv (x-nv y)=nv (x+ -y):=by unfold nv;omega
theorem nvwi0 (y:Int):nv (IntKind.wrap IntKind.i64 y)=nv y:=by rw [IntKind.wrap_i64];unfold nv;omega
theorem nvaddw (x y:Int):nv (x+IntKind.wrap IntKind.i64 y)=nv (x+y):=by rw [IntKind.wrap_i64];unfold nv;omega
theorem dpos (v:Int):decide (0<bif (iGet v).k==1 then (iGet v).l else 0)=((iGet v).k==1):=by
 have hi:=iGet_cases v
 cases hk:(iGet v).k==1 with
 |false=>rfl
 |true=>
  simp only [beq_iff_eq] at hk
  simp only [cond_true,decide_eq_true_eq];omega
theorem spFree_eq (s:VS) (t p h g:Int):sp_free s t p h g=(pFree ⟨t,p,h⟩ g).run s:=by
 simp only [sp_free,pFree,Pg.run_get,Pg.run_ret,place_Info_eq,infoG1,infoG2,bne]
 cases (iGet (s.get (Cf.info ⟨t,p,h⟩ g))).k==1<;>rfl
theorem dposr (c:Cf) (g:Int) (s:VS):decide (0<((pFree c g).run s).2)=((iGet (s.get (c.info g))).k==1):=dpos _
theorem pFreeR (c:Cf) (g:Int) (s:VS):(pFree c g).run s=(s.read (c.info g),bif (iGet (s.get (c.info g))).k==1 then (iGet (s.get (c.info g))).l else 0):=rfl
theorem nvnegw (x y:Int):nv (x+ -IntKind.wrap IntKind.i64 y)=nv (x+ -y):=by rw [IntKind.wrap_i64];unfold nv;omega
theorem dge1 (x:Int):decide (0≤x-1)=decide (1≤x):=decide_eq_decide.2 (by omega)
theorem dneg:decide ((0:Int)≤ -1)=false:=rfl
theorem get_fb (s:VS) (i:Int):IntKind.wrap IntKind.i64 (s.get i)=s.get i:=w64g s i
theorem get_fb1 (s:VS) (i:Int):IntKind.wrap IntKind.i64 (s.get i-1)=s.get i-1:=w64g1 s i
def span_Take (s:VS) (t p h n:Int):VS×Int×Bool:=(qTake ⟨t,p,h⟩ n).run s
abbrev c_span_Take:Ct Sg:=⟨some wView,false,[.agg [.i .i64, .i .i64, .i .i64], .i .i64], .tup [.i .i64, .b]⟩
def e_span_Take:Entry Sg:=entC c_span_Take span_Take (fun s t p h n=>[p≤1024])
def span_Take_w (s:VS) (t p h n:Int) (R_:VS×Int×Bool→Prop):Prop:=(∀r2:VS×Int×Bool,r2=(bin_Find s t p h n)→(aw_ (p≤9223372036854775807) (bw_ (!r2.2.2) (R_ ((r2.1,0,false))) (∀r5:VS×Int,r5=(bin_Drop r2.1 t p h r2.2.1)→(∀r6:VS,r6=(sp_used r5.1 t p h r2.2.1 n)→(bw_ (decide (r5.2>n)) (∀r8:VS,r8=(bin_Add r6 t p h (IntKind.wrap IntKind.i64 (r2.2.1+n)) (IntKind.wrap IntKind.i64 (r5.2-n)))→(aw_ (p≤1024) (∀r10:VS,r10=(sp_count r8 t p h (IntKind.wrap IntKind.i64 (0-n)))→(R_ ((r10,r2.2.1,true)))))) (∀r8:VS,r8=(sp_count r6 t p h (IntKind.wrap IntKind.i64 (0-n)))→(R_ ((r8,r2.2.1,true))))))))))
theorem span_Take_begin (s:VS) (t p h n:Int) (hp0:p≤1024):span_Take_w s t p h n (fun r__=>r__=(span_Take s t p h n)):=by
 unfold span_Take_w
 repeat' first
  |(refine fun r hr=>?_;subst hr)
  |refine ⟨(by first|exact wu32_bd _|exact VS.get_bd _ _|exact zero_bd|exact iVal_bd _ _ _|exact nv_bd _|(rw [info_Put_val];exact iVal_bd _ _ _)|(rw [r09_Value_eq];exact iVal_bd _ _ _)|assumption|omega),fun _=>?_⟩
  |refine ⟨fun hc=>?_,fun hc=>?_⟩
  |(refine fun hr=>?_;subst hr)
  |fail
 all_goals
  simp only [link_page_eq,page_ne t p h,link_next,link_prev,place_Next_eq,place_Prev_eq,r07_Next_eq,r07_Prev_eq,link_to,w64g,w64g1,wrapu_nv,nvw,nvw2,bin_page,place_Info_eq,place_Foot_eq,r07_Info_eq,r07_Foot_eq,place_Bin_eq,r07_Bin_eq,info_Put_val,r09_Value_eq,bin_Of,A8,infoG1,infoG2,infoG3,rinfoG1,rinfoG2,rinfoG3,gt_iff_lt,bin_Find,AQ,bin_Drop,BJ,bin_Add,BU,sp_used,spFree_eq,sp_count,nvadd,nvsub,nvwi0,nvaddw,nvnegw,Int.zero_sub,get_fb,get_fb1,dge1,dneg,ge_iff_le,bne,Bool.not_eq_true',Bool.not_eq_false',reduceCtorEq] at*
 all_goals
  skip
 all_goals
  simp only [span_Take,qUsed,pCount,qJoin,wI,nvadd,nvsub,nvaddw,nvnegw,qTake,Pg.run_get,Pg.run_put,Pg.run_ret,Pg.run_bind,Pg.run_cond,gt_iff_lt,cond_true,cond_false, *]
 all_goals
  try rfl
theorem span_Take_ok:EOk 159 e_span_Take:=
 ent_w0 Dg T_sp_ahead_ok (I:=[2999998]) Tryz.func159 mix (B:=bodyOf Tryz.f159) (by kernel_rfl) rfl (by kernel_rfl) 400
  fun _ s t p h n hb hp=>⟨_,fun _ _ _=>by kernel_rfl,span_Take_begin s t p h n (hp _ (.head _))⟩
def T_span_Take:Tb:=(159,e_span_Take)::T_sp_ahead
theorem T_span_Take_ok:TOk T_span_Take:=tc_ span_Take_ok T_sp_ahead_ok
def span_Release (s:VS) (t p h g n:Int):VS:=((qRelease ⟨t,p,h⟩ g n).run s).1
def T_span_Release:Tb:=T_span_Take
theorem T_span_Release_ok:TOk T_span_Release:=T_span_Take_ok
def BZ (s:VS) (t p h n:Int):VS×Int×Bool:=(qTake ⟨t,p,h⟩ n).run s
abbrev JO:Ct Sg:=⟨some Ak,false,[.agg [.i .i64, .i .i64, .i .i64], .i .i64], .tup [.i .i64, .b]⟩
def Gh:Entry Sg:=entC JO BZ (fun s t p h n=>[p≤1024])
abbrev Hl (r13:VS) (n:Int) (R_:VS×Int×Bool→Prop) (r1:VS×Int×Bool):Prop:=(∀r15:VS×Int,r15=((VS.read r13 0,VS.get r13 0))→(∀r16:VS,r16=(VS.set r15.1 0 (IntKind.wrap IntKind.u32 (r15.2-IntKind.wrap IntKind.u32 n)))→(aw_ (bd32 (IntKind.wrap IntKind.u32 (r15.2-IntKind.wrap IntKind.u32 n))) (R_ ((r16,r1.2.1,true))))))
def Gi (s:VS) (t p h n:Int) (R_:VS×Int×Bool→Prop):Prop:=(∀r1:VS×Int×Bool,r1=(AQ s t p h n)→(aw_ (p≤9223372036854775807) (bw_ (!r1.2.2) (R_ ((r1.1,0,false))) (∀r4:VS×Int,r4=(BJ r1.1 t p h r1.2.1)→(∀r5:Int,r5=(r07_Info t p h r1.2.1)→(∀r6:Int,r6=(Bq 2 n 0)→(∀r7:VS,r7=(VS.set r4.1 r5 r6)→(aw_ (bd32 r6) (∀r9:Int,r9=(r07_Foot t p h (IntKind.wrap IntKind.i64 (IntKind.wrap IntKind.i64 (r1.2.1+n)-1)))→(∀r10:VS,r10=(VS.set r7 r9 (IntKind.wrap IntKind.u32 (IntKind.wrap IntKind.u32 r1.2.1+1)))→(aw_ (bd32 (IntKind.wrap IntKind.u32 (IntKind.wrap IntKind.u32 r1.2.1+1))) (bw_ (decide (r4.2>n)) (∀r13:VS,r13=(BU r10 t p h (IntKind.wrap IntKind.i64 (r1.2.1+n)) (IntKind.wrap IntKind.i64 (r4.2-n)))→(aw_ (p≤1024) (Hl r13 n R_ r1))) (Hl r10 n R_ r1)))))))))))))
theorem Hm (s:VS) (t p h n:Int) (hp0:p≤1024):Gi s t p h n (fun r__=>r__=(BZ s t p h n)):=by
 unfold Gi Hl
 repeat' first
  |(refine fun r hr=>?_;subst hr)
  |refine ⟨(by first|exact wu32_bd _|exact VS.get_bd _ _|exact zero_bd|exact iVal_bd _ _ _|exact nv_bd _|(rw [info_Put_val];exact iVal_bd _ _ _)|(rw [r09_Value_eq];exact iVal_bd _ _ _)|assumption|omega),fun _=>?_⟩
  |refine ⟨fun hc=>?_,fun hc=>?_⟩
  |(refine fun hr=>?_;subst hr)
  |fail
 all_goals
  simp only [link_page_eq,page_ne t p h,link_next,link_prev,place_Next_eq,place_Prev_eq,r07_Next_eq,r07_Prev_eq,link_to,w64g,w64g1,wrapu_nv,nvw,nvw2,bin_page,place_Info_eq,place_Foot_eq,r07_Info_eq,r07_Foot_eq,place_Bin_eq,r07_Bin_eq,info_Put_val,r09_Value_eq,bin_Of,A8,infoG1,infoG2,infoG3,rinfoG1,rinfoG2,rinfoG3,gt_iff_lt,bin_Find,AQ,bin_Drop,BJ,bin_Add,BU,sp_used,spFree_eq,sp_count,nvadd,nvsub,nvwi0,nvaddw,nvnegw,Int.zero_sub,get_fb,get_fb1,dge1,dneg,ge_iff_le,Be,pInfo,Pg.run_get,Pg.run_ret,bne,Bool.not_eq_true',Bool.not_eq_false',reduceCtorEq] at*
 all_goals
  skip
 all_goals
  simp only [BZ,qUsed,pCount,qJoin,wI,nvadd,nvsub,nvaddw,nvnegw, ↓dposr,pFreeR,qTake,Pg.run_get,Pg.run_put,Pg.run_ret,Pg.run_bind,Pg.run_cond,gt_iff_lt,cond_true,cond_false, *]
 all_goals
  try rfl
theorem Jk:EOk 82 Gh:=
 ent_w0 Dg T_span_Release_ok (I:=[2999998]) Tryz.func82 mix (B:=bodyOf Tryz.f82) (by kernel_rfl) rfl (by kernel_rfl) 400
  fun _ s t p h n hb hp=>⟨_,fun _ _ _=>by kernel_rfl,Hm s t p h n (hp _ (.head _))⟩
def Gj:Tb:=(82,Gh)::T_span_Release
theorem I5:TOk Gj:=tc_ Jk T_span_Release_ok
def Jl (s:VS) (t p h g n:Int):VS:=((qRelease ⟨t,p,h⟩ g n).run s).1
def DJ:Tb:=Gj
theorem Cb:TOk DJ:=I5
end Go.Proofs.YtjfabjhlkpgckaaGreat
namespace Go.Proofs.YtjfabjhlkpgckaaGreat
open Go.Sl
def SlSlab1_bytes0:ByteArray:=⟨⟨[0,1,1,2,1,2,2,3,1,2,2,3,2,3,3,4,1,2,2,3,2,3,3,4,2,3,3,4,3,4,4,5,1,2,2,3,2,3,3,4,2,3,3,4,3,4,4,5,2,3,3,4,3,4,4,5,3,4,4,5,4,5,5,6,1,2,2,3,2,3,3,4,2,3,3,4,3,4,4,5,2,3,3,4,3,4,4,5,3,4,4,5,4,5,5,6,2,3,3,4,3,4,4,5,3,4,4,5,4,5,5,6,3,4,4,5,4,5,5,6,4,5,5,6,5,6,6,7,1,2,2,3,2,3,3,4,2,3,3,4,3,4,4,5,2,3,3,4,3,4,4,5,3,4,4,5,4,5,5,6,2,3,3,4,3,4,4,5,3,4,4,5,4,5,5,6,3,4,4,5,4,5,5,6,4,5,5,6,5,6,6,7,2,3,3,4,3,4,4,5,3,4,4,5,4,5,5,6,3,4,4,5,4,5,5,6,4,5,5,6,5,6,6,7,3,4,4,5,4,5,5,6,4,5,5,6,5,6,6,7,4,5,5,6,5,6,6,7,5,6,6,7,6,7,7,8]⟩⟩
def Bc (b:Int):Int:=IntKind.wrap IntKind.u32 ((1:Int)*2^min (Int.toNat (IntKind.wrap IntKind.u64 b)) 32)
abbrev Ky:Ct Sg:=⟨none,false,[.i .i64], .i .u32⟩
def Ij:Entry Sg:=entC Ky Bc (fun _=>[])
theorem JP:EOk 38 Ij:=
 ent_ok Dg Cb (I:=[]) Tryz.func38 mix (B:=bodyOf Tryz.f38) (by kernel_rfl) rfl (by kernel_rfl) 400
  fun _ b hb hp=>⟨(Bc b),(.need (0≤IntKind.wrap IntKind.u64 b) .t),fun _ _ _=>by kernel_rfl,⟨(by rw [IntKind.wrap_u64];exact Int.emod_nonneg _ (by decide)),fun z0=>trivial⟩,rfl⟩
def Ik:Tb:=(38,Ij)::DJ
theorem Eo:TOk Ik:=tc_ JP Cb
def place_Rack (k:Int):Int:=place_within 13 k 9
abbrev c_place_Rack:Ct Sg:=⟨none,false,[.i .i64], .i .i64⟩
def e_place_Rack:Entry Sg:=entC c_place_Rack place_Rack (fun _=>[])
theorem place_Rack_ok:EOk 93 e_place_Rack:=
 ent_ok Dg Eo (I:=[]) Tryz.func93 mix (B:=bodyOf Tryz.f93) (by kernel_rfl) rfl (by kernel_rfl) 400
  fun _ k hb hp=>⟨(place_Rack k), .t,fun _ _ _=>by kernel_rfl,trivial,rfl⟩
def T_place_Rack:Tb:=(93,e_place_Rack)::Ik
theorem T_place_Rack_ok:TOk T_place_Rack:=tc_ place_Rack_ok Eo
def place_Taken (t p s pg:Int):Int:=place_of t p s pg 5
abbrev c_place_Taken:Ct Sg:=⟨none,false,[.agg [.i .i64, .i .i64, .i .i64], .i .i64], .i .i64⟩
def e_place_Taken:Entry Sg:=entC c_place_Taken place_Taken (fun _ _ _ _=>[])
theorem place_Taken_ok:EOk 94 e_place_Taken:=
 ent_ok Dg T_place_Rack_ok (I:=[]) Tryz.func94 mix (B:=bodyOf Tryz.f94) (by kernel_rfl) rfl (by kernel_rfl) 400
  fun _ t p s pg hb hp=>⟨(place_Taken t p s pg), .t,fun _ _ _=>by kernel_rfl,trivial,rfl⟩
def T_place_Taken:Tb:=(94,e_place_Taken)::T_place_Rack
theorem T_place_Taken_ok:TOk T_place_Taken:=tc_ place_Taken_ok T_place_Rack_ok
def place_Slots (t p s pg:Int):Int:=place_of t p s pg 4
abbrev c_place_Slots:Ct Sg:=⟨none,false,[.agg [.i .i64, .i .i64, .i .i64], .i .i64], .i .i64⟩
def e_place_Slots:Entry Sg:=entC c_place_Slots place_Slots (fun _ _ _ _=>[])
theorem place_Slots_ok:EOk 121 e_place_Slots:=
 ent_ok Dg T_place_Taken_ok (I:=[]) Tryz.func121 mix (B:=bodyOf Tryz.f121) (by kernel_rfl) rfl (by kernel_rfl) 400
  fun _ t p s pg hb hp=>⟨(place_Slots t p s pg), .t,fun _ _ _=>by kernel_rfl,trivial,rfl⟩
def T_place_Slots:Tb:=(121,e_place_Slots)::T_place_Taken
theorem T_place_Slots_ok:TOk T_place_Slots:=tc_ place_Slots_ok T_place_Taken_ok
def class_slots:Int×Int×Int×Int×Int×Int×Int×Int×Int:=(32,21,16,10,8,5,4,3,2)
abbrev c_class_slots:Ct Sg:=⟨none,false,[], .agg [.i .i64, .i .i64, .i .i64, .i .i64, .i .i64, .i .i64, .i .i64, .i .i64, .i .i64]⟩
def e_class_slots:Entry Sg:=entC c_class_slots class_slots ([])
theorem class_slots_ok:EOk 161 e_class_slots:=
 ent_ok Dg T_place_Slots_ok (I:=[]) Tryz.func161 mix (B:=bodyOf Tryz.f161) (by kernel_rfl) rfl (by kernel_rfl) 400
  fun _ hb hp=>⟨class_slots, .t,fun _ _ _=>by kernel_rfl,trivial,rfl⟩
def T_class_slots:Tb:=(161,e_class_slots)::T_place_Slots
theorem T_class_slots_ok:TOk T_class_slots:=tc_ class_slots_ok T_place_Slots_ok
abbrev c_class_Slots:Ct Sg:=⟨none,false,[.i .i64], .i .i64⟩
def e_class_Slots:Entry Sg:=entC c_class_Slots kSlots (fun _=>[])
theorem ent_or {c:Ct Sg} {P:Program} {f:FuncId} {F:Cur c.AK (Ty c.RK)} {pre pre1 pre2:Cur c.AK (List Prop)} (h1:EntryOk Dg P f (entC c F pre1)) (h2:EntryOk Dg P f (entC c F pre2))
 (h:∀cs,(∀p∈appC c.AK pre cs,p)→(∀p∈appC c.AK pre1 cs,p)∨(∀p∈appC c.AK pre2 cs,p)):EntryOk Dg P f (entC c F pre):=by
 intro args d r hd hr
 unfold entC at hd
 split at hd
 rotate_left
 ·cases hd
 rename_i cs hcs
 injection hd with hd;subst hd;subst hr
 have e1:entC c F pre1 args=some ⟨appC c.AK F cs,fun r=>⟨appC c.AK pre1 cs,newC c.rob (toCm c.RK r),c.mksC r,c.outC r,c.rs.outp⟩⟩:=by unfold entC;rw [hcs]
 have e2:entC c F pre2 args=some ⟨appC c.AK F cs,fun r=>⟨appC c.AK pre2 cs,newC c.rob (toCm c.RK r),c.mksC r,c.outC r,c.rs.outp⟩⟩:=by unfold entC;rw [hcs]
 refine ⟨(h1 args _ _ e1 rfl).1,fun hp=>?_⟩
 rcases h cs hp with hp|hp
 ·exact (h1 args _ _ e1 rfl).2 hp
 ·exact (h2 args _ _ e2 rfl).2 hp
theorem class_Slots_ok1:EntryOk Dg Tryz.prog 119 (entC c_class_Slots kSlots fun k=>[¬(0≤k∧k<9)]):=
 ent_ok Dg T_class_slots_ok (I:=[]) Tryz.func119 mix (B:=bodyOf Tryz.f119) (by kernel_rfl) rfl (by kernel_rfl) 26
  fun _ (k:Int) hb hp=>by
 have h:¬(0≤k∧k<9):=hp _ (.head _)
 refine ⟨bif decide (k<0)||decide (k≥9) then (0:Int) else (0:Int), .br (decide (k<0)||decide (k≥9)) .t (.need (0≤k∧k<9) (.need False .t)),fun _ _ _=>by kernel_rfl,⟨fun _=>trivial,fun hc=>?_⟩,?_⟩
 ·exfalso;simp at hc;omega
 ·show _=kSlots k
  have hk:kSlots k=0:=by
   unfold kSlots
   by_cases h0:0≤k
   ·have e:decide (0≤k)=true:=by simpa using h0
    rw [e,cond_true,List.getD_eq_getElem?_getD,List.getElem?_eq_none (by simp;omega)];rfl
   ·have e:decide (0≤k)=false:=by simpa using h0
    rw [e];rfl
  rw [hk];cases decide (k<0)||decide (k≥9)<;>rfl
theorem class_Slots_ok2:EntryOk Dg Tryz.prog 119 (entC c_class_Slots kSlots fun k=>[0≤k∧k<9]):=
 ent_ok Dg T_class_slots_ok (I:=[]) Tryz.func119 mix (B:=bodyOf Tryz.f119) (by kernel_rfl) rfl (by kernel_rfl) 400
  fun _ (k:Int) hb hp=>by
 have h:0≤k∧k<9:=hp _ (.head _)
 have h':k=0∨k=1∨k=2∨k=3∨k=4∨k=5∨k=6∨k=7∨k=8:=by omega
 rcases h' with rfl|rfl|rfl|rfl|rfl|rfl|rfl|rfl|rfl
 ·exact ⟨bif false then (0:Int) else (32:Int), .br false .t (.need ((0:Int)≤(0:Int)∧(0:Int)<(9:Int)) .t),fun _ _ _=>by kernel_rfl,⟨fun _=>trivial,fun _=>⟨by decide,fun _=>trivial⟩⟩,rfl⟩
 ·exact ⟨bif false then (0:Int) else (21:Int), .br false .t (.need ((0:Int)≤(1:Int)∧(1:Int)<(9:Int)) .t),fun _ _ _=>by kernel_rfl,⟨fun _=>trivial,fun _=>⟨by decide,fun _=>trivial⟩⟩,rfl⟩
 ·exact ⟨bif false then (0:Int) else (16:Int), .br false .t (.need ((0:Int)≤(2:Int)∧(2:Int)<(9:Int)) .t),fun _ _ _=>by kernel_rfl,⟨fun _=>trivial,fun _=>⟨by decide,fun _=>trivial⟩⟩,rfl⟩
 ·exact ⟨bif false then (0:Int) else (10:Int), .br false .t (.need ((0:Int)≤(3:Int)∧(3:Int)<(9:Int)) .t),fun _ _ _=>by kernel_rfl,⟨fun _=>trivial,fun _=>⟨by decide,fun _=>trivial⟩⟩,rfl⟩
 ·exact ⟨bif false then (0:Int) else (8:Int), .br false .t (.need ((0:Int)≤(4:Int)∧(4:Int)<(9:Int)) .t),fun _ _ _=>by kernel_rfl,⟨fun _=>trivial,fun _=>⟨by decide,fun _=>trivial⟩⟩,rfl⟩
 ·exact ⟨bif false then (0:Int) else (5:Int), .br false .t (.need ((0:Int)≤(5:Int)∧(5:Int)<(9:Int)) .t),fun _ _ _=>by kernel_rfl,⟨fun _=>trivial,fun _=>⟨by decide,fun _=>trivial⟩⟩,rfl⟩
 ·exact ⟨bif false then (0:Int) else (4:Int), .br false .t (.need ((0:Int)≤(6:Int)∧(6:Int)<(9:Int)) .t),fun _ _ _=>by kernel_rfl,⟨fun _=>trivial,fun _=>⟨by decide,fun _=>trivial⟩⟩,rfl⟩
 ·exact ⟨bif false then (0:Int) else (3:Int), .br false .t (.need ((0:Int)≤(7:Int)∧(7:Int)<(9:Int)) .t),fun _ _ _=>by kernel_rfl,⟨fun _=>trivial,fun _=>⟨by decide,fun _=>trivial⟩⟩,rfl⟩
 ·exact ⟨bif false then (0:Int) else (2:Int), .br false .t (.need ((0:Int)≤(8:Int)∧(8:Int)<(9:Int)) .t),fun _ _ _=>by kernel_rfl,⟨fun _=>trivial,fun _=>⟨by decide,fun _=>trivial⟩⟩,rfl⟩
theorem class_Slots_ok:EntryOk Dg Tryz.prog 119 e_class_Slots:=
 ent_or class_Slots_ok1 class_Slots_ok2 fun cs _=>by
 by_cases h:0≤(Kd.of .i (hdC cs):Int)∧(Kd.of .i (hdC cs):Int)<9
 ·exact .inr fun p hp=>by
   rcases List.mem_singleton.1 hp with rfl
   exact h
 ·exact .inl fun p hp=>by
   rcases List.mem_singleton.1 hp with rfl
   exact h
def T_class_Slots:List (Nat×Entry Sg):=(119,e_class_Slots)::T_class_slots
theorem T_class_Slots_ok:TableOk Dg Tryz.prog T_class_Slots:=TableOk.cons Dg class_Slots_ok T_class_slots_ok
def u32ok (v:Int):Prop:=0≤v∧v<4294967296
theorem and255 (z:Int):0≤IntKind.u32.wrap ((BitVec.ofInt 32 z &&& BitVec.ofInt 32 255).toNat:Int)∧IntKind.u32.wrap ((BitVec.ofInt 32 z &&& BitVec.ofInt 32 255).toNat:Int)<((256:Nat):Int):=by
 have h:(BitVec.ofInt 32 z &&& BitVec.ofInt 32 255).toNat<256:=by
  rw [BitVec.toNat_and]
  exact Nat.lt_of_le_of_lt Nat.and_le_right (by decide)
 rw [IntKind.wrap_u32];omega
theorem top8 {v:Int} (h0:0≤v) (h1:v<4294967296):0≤Int.fdiv v 16777216∧Int.fdiv v 16777216<((256:Nat):Int):=by
 rw [Int.fdiv_eq_ediv_of_nonneg _ (by omega)];omega
theorem frange_snoc (p:Nat→Bool) (n:Nat):(List.range (n+1)).filter p=(List.range n).filter p++(if p n=true then [n] else []):=by
 rw [List.range_succ,List.filter_append]
 by_cases h:p n=true
 ·rw [if_pos h,List.filter_cons_of_pos h];rfl
 ·rw [if_neg h,List.filter_cons_of_neg h];rfl
theorem frange_len (p:Nat→Bool) (n:Nat):((List.range n).filter p).length≤n:=by
 have:=List.length_filter_le p (List.range n)
 simpa using this
def frN (p:Nat→Bool) (n:Nat):LI:=((List.range n).filter p).map fun (i:Nat)=>(i:Int)
def zeroAt (v:Int) (i:Nat):Bool:=IntKind.wrap IntKind.u32 ((BitVec.ofInt 32 (Int.fdiv v ((2:Int)^min (Int.toNat (i:Int)) 32)) &&& BitVec.ofInt 32 1).toNat:Int)==0
def orB (v s:Int):Int:=IntKind.wrap IntKind.u32 ((BitVec.ofInt 32 v ||| BitVec.ofInt 32 (IntKind.wrap IntKind.u32 (1*(2:Int)^min (Int.toNat s) 32))).toNat:Int)
abbrev nnL (xs:LI):Prop:=∀s∈xs,(0:Int)≤s
theorem take_snocB {xs:LI} {k:Nat} (h:k<xs.length):xs.take (k+1)=xs.take k++[xs.getD k 0]:=by
 rw [List.take_add_one,List.getD_eq_getElem?_getD,List.getElem?_eq_getElem h];rfl
def bits_Ones (v:Int):Int:=IntKind.wrap IntKind.i64
 (IntKind.wrap IntKind.u8
   (IntKind.wrap IntKind.u8
     (IntKind.wrap IntKind.u8
       (sAt SlSlab1_bytes0 (Int.fdiv v 16777216)+
         sAt SlSlab1_bytes0 (IntKind.wrap IntKind.u32 (↑(BitVec.toNat (BitVec.ofInt 32 (Int.fdiv v 65536) &&& BitVec.ofInt 32 255)):Int)))+
       sAt SlSlab1_bytes0 (IntKind.wrap IntKind.u32 (↑(BitVec.toNat (BitVec.ofInt 32 (Int.fdiv v 256) &&& BitVec.ofInt 32 255)):Int)))+
     sAt SlSlab1_bytes0 (IntKind.wrap IntKind.u32 (↑(BitVec.toNat (BitVec.ofInt 32 v &&& BitVec.ofInt 32 255)):Int))))
abbrev c_bits_Ones:Ct Sg:=⟨none,false,[.i .u32], .i .i64⟩
def e_bits_Ones:Entry Sg:=entC c_bits_Ones bits_Ones (fun v=>[u32ok v])
theorem bits_Ones_ok:EOk 164 e_bits_Ones:=
 ent_ok Dg T_class_Slots_ok (I:=[]) Tryz.func164 mix (B:=bodyOf Tryz.f164) (by kernel_rfl) rfl (by kernel_rfl) 400
  fun _ v hb hp=>have hp0:u32ok v:=hp _ (.head _);⟨(bits_Ones v),(.need (0≤Int.fdiv v 16777216∧Int.fdiv v (16777216:Int)<256) (.need (0≤IntKind.wrap IntKind.u32 (↑(BitVec.toNat (BitVec.ofInt 32 (Int.fdiv v 65536) &&& BitVec.ofInt 32 255)):Int)∧IntKind.wrap IntKind.u32 (↑(BitVec.toNat (BitVec.ofInt 32 (Int.fdiv v 65536) &&& BitVec.ofInt 32 255)):Int)<256) (.need (0≤IntKind.wrap IntKind.u32 (↑(BitVec.toNat (BitVec.ofInt 32 (Int.fdiv v 256) &&& BitVec.ofInt 32 255)):Int)∧IntKind.wrap IntKind.u32 (↑(BitVec.toNat (BitVec.ofInt 32 (Int.fdiv v 256) &&& BitVec.ofInt 32 255)):Int)<256) (.need (0≤IntKind.wrap IntKind.u32 (↑(BitVec.toNat (BitVec.ofInt 32 v &&& BitVec.ofInt 32 255)):Int)∧IntKind.wrap IntKind.u32 (↑(BitVec.toNat (BitVec.ofInt 32 v &&& BitVec.ofInt 32 255)):Int)<256) .t)))),fun _ _ _=>by kernel_rfl,⟨(by first|exact top8 hp0.1 hp0.2|exact and255 _),fun z0=>⟨(by first|exact top8 hp0.1 hp0.2|exact and255 _),fun z1=>⟨(by first|exact top8 hp0.1 hp0.2|exact and255 _),fun z2=>⟨(by first|exact top8 hp0.1 hp0.2|exact and255 _),fun z3=>trivial⟩⟩⟩⟩,rfl⟩
def T_bits_Ones:Tb:=(164,e_bits_Ones)::T_class_Slots
theorem T_bits_Ones_ok:TOk T_bits_Ones:=tc_ bits_Ones_ok T_class_Slots_ok
def half_Ones (v:Int):Int:=bits_Ones v
abbrev c_half_Ones:Ct Sg:=⟨none,false,[.i .u32], .i .i64⟩
def e_half_Ones:Entry Sg:=entC c_half_Ones half_Ones (fun v=>[u32ok v])
theorem half_Ones_ok:EOk 132 e_half_Ones:=
 ent_ok Dg T_bits_Ones_ok (I:=[]) Tryz.func132 mix (B:=bodyOf Tryz.f132) (by kernel_rfl) rfl (by kernel_rfl) 400
  fun _ v hb hp=>have hp0:u32ok v:=hp _ (.head _);⟨(half_Ones v),(.need (u32ok v) .t),fun _ _ _=>by kernel_rfl,⟨(by exact hp0),fun z0=>trivial⟩,rfl⟩
def T_half_Ones:Tb:=(132,e_half_Ones)::T_bits_Ones
theorem T_half_Ones_ok:TOk T_half_Ones:=tc_ half_Ones_ok T_bits_Ones_ok
def half_Free (v n:Int):LI:=frN (zeroAt v) (min n.toNat 32)
abbrev c_half_Free:Ct Sg:=⟨none,false,[.i .u32, .i .i64], .new 3 [some .i64]⟩
def e_half_Free:Entry Sg:=entC c_half_Free half_Free (fun _ _=>[])
def half_Free_w (v n:Int) (Q0:Int→Int→Nat→LI→Prop) (R_:LI→Prop):Prop:=(Q0 (0) (if 32<n then 32 else n) (0) ([]))
def half_Free_w0 (v n i m:Int) (no:Nat) (xs:LI) (Q0:Int→Int→Nat→LI→Prop) (R_:LI→Prop):Prop:=(bw_ (decide (i<m)) (aw_ (0≤i) (bw_ (IntKind.wrap IntKind.u32 (↑(BitVec.toNat (BitVec.ofInt 32 (Int.fdiv v (2^min (Int.toNat i) 32)) &&& BitVec.ofInt 32 1)):Int)==0) (aw_ ((no+1)*8≤140737488355328) (Q0 (IntKind.wrap IntKind.i64 (i+1)) (m) (no+1) (xs++[i]))) (Q0 (IntKind.wrap IntKind.i64 (i+1)) (m) (no) (xs)))) (R_ (xs)))
def half_Free_I0 (v n i m:Int) (no:Nat) (xs r_:LI):Prop:=0≤i∧(i≤m∨i=0)∧m≤32∧m.toNat=min n.toNat 32∧no=xs.length∧xs=frN (zeroAt v) i.toNat∧r_=half_Free v n
abbrev half_Free_h0 (p0:Addr) (v n:Int):Hd Sg:=⟨none,[0,1,0,1,1],[.blk 0, .code [1,1,1]],[9,8,5,0],[.i .i64, .i .i64, .own 3 [some .i64], .ic .u32 (v)]⟩
theorem half_Free_begin (v n:Int):half_Free_w v n (fun i' m' no' xs'=>half_Free_I0 v n i' m' no' xs' (half_Free v n)) (fun r__=>r__=(half_Free v n)):=by
 unfold half_Free_w
 try unfold half_Free_I0
 exact ⟨by omega, .inr rfl,by split<;>omega,by split<;>omega,rfl,rfl,rfl⟩
theorem half_Free_step0 (v n i m:Int) (no:Nat) (xs:LI) {r_:LI} (hI:half_Free_I0 v n i m no xs r_):half_Free_w0 v n i m no xs (fun i' m' no' xs'=>half_Free_I0 v n i' m' no' xs' r_∧lx ((m'-i').toNat,0,0) ((m-i).toNat,0,0)) (fun r__=>r__=r_):=by
 unfold half_Free_I0 at hI
 unfold half_Free_w0
 try unfold half_Free_I0
 obtain ⟨h0,h1,hm,hn,h2,h3,hr⟩:=hI
 refine ⟨fun h=>⟨h0,fun _=>?_⟩,fun h=>?_⟩
 ·simp only [decide_eq_true_eq] at h
  have hi:((i.toNat:Nat):Int)=i:=by omega
  have hl:=frange_len (zeroAt v) i.toNat
  have hx:xs.length=((List.range i.toNat).filter (zeroAt v)).length:=by rw [h3,frN,List.length_map]
  rw [w64 (by omega)]
  refine ⟨fun hc=>⟨by omega,fun _=>⟨⟨by omega,by omega,hm,hn,by simp [h2],?_,hr⟩,lxo_⟩⟩,fun hc=>⟨⟨by omega,by omega,hm,hn,h2,?_,hr⟩,lxo_⟩⟩
  ·have hz:zeroAt v i.toNat=true:=by unfold zeroAt;rw [hi];exact hc
   rw [toNat_succ h0,frN,frange_snoc,if_pos hz,List.map_append,h3,frN]
   simp [hi]
  ·have hz:¬zeroAt v i.toNat=true:=by unfold zeroAt;rw [hi,hc];simp
   rw [toNat_succ h0,frN,frange_snoc,if_neg hz,List.append_nil]
   exact h3
 ·simp only [decide_eq_false_iff_not] at h
  show xs=r_
  rw [hr,h3,half_Free,show i.toNat=min n.toNat 32 by omega]
theorem half_Free_ok:EOk 118 e_half_Free:=
 ent_wp Dg T_half_Ones_ok (I:=[411000000009,411000000008,411000000005,411000000000]) Tryz.func118 mix (B:=bodyOf Tryz.f118) (by kernel_rfl) rfl (by kernel_rfl) 400
  fun p0 v n hb hp=>⟨[half_Free_h0 p0 v n],fun j=>List.getD [appC (Hd.kd (half_Free_h0 p0 v n)) (fun i' m' no' xs'=>half_Free_I0 v n i' m' no' xs' (half_Free v n))] j (fun _=>False),fun j=>List.getD [appC (Hd.kd (half_Free_h0 p0 v n)) (fun i' m' no' xs'=>((m'-i').toNat,0,0))] j (fun _=>(0,0,0)),by kernel_rfl,⟨_,fun _ _ _=>by kernel_rfl,half_Free_begin v n⟩,⟨fun i m no xs hI=>⟨_,fun _ _ _=>by kernel_rfl,half_Free_step0 v n i m no xs hI⟩,trivial⟩⟩
def T_half_Free:Tb:=(118,e_half_Free)::T_half_Ones
theorem T_half_Free_ok:TOk T_half_Free:=tc_ half_Free_ok T_half_Ones_ok
def slab_bits (xs:LI):Int:=xs.foldl orB 0
abbrev c_slab_bits:Ct Sg:=⟨none,false,[.ro [some .i64]], .i .u32⟩
def e_slab_bits:Entry Sg:=entC c_slab_bits slab_bits (fun xs=>[nnL xs])
def slab_bits_w (xs:LI) (Q0:Int→Int→Prop) (R_:Int→Prop):Prop:=(Q0 (0) (0))
def slab_bits_w0 (xs:LI) (i v:Int) (Q0:Int→Int→Prop) (R_:Int→Prop):Prop:=(bw_ (decide (i<(↑(List.length xs):Int))) (aw_ (0≤i∧i<(↑(List.length xs):Int)) (aw_ (0≤List.getD xs (Int.toNat i) 0) (Q0 (IntKind.wrap IntKind.i64 (i+1)) (IntKind.wrap IntKind.u32 (↑(BitVec.toNat (BitVec.ofInt 32 v ||| BitVec.ofInt 32 (IntKind.wrap IntKind.u32 ((1:Int)*2^min (Int.toNat (List.getD xs (Int.toNat i) 0)) 32)))):Int))))) (R_ (v)))
def slab_bits_I0 (xs:LI) (i v r_:Int):Prop:=0≤i∧i≤xs.length∧v=(xs.take i.toNat).foldl orB 0∧r_=slab_bits xs
abbrev slab_bits_h0 (p0:Addr) (xs:LI):Hd Sg:=⟨none,[0,1,0,1,1],[.blk 0, .code [1,1,1]],[8,7,6,3],[.i .i64, .ic .i64 (xs.length), .roc [.ints .i64 (xs)], .i .u32]⟩
theorem slab_bits_begin (xs:LI) (hp0:nnL xs) (hl0:xs.length≤9223372036854775807):slab_bits_w xs (fun i' v'=>slab_bits_I0 xs i' v' (slab_bits xs)) (fun r__=>r__=(slab_bits xs)):=by
 unfold slab_bits_w
 try unfold slab_bits_I0
 exact ⟨by omega,by omega,rfl,rfl⟩
theorem slab_bits_step0 (xs:LI) (hp0:nnL xs) (hl0:xs.length≤9223372036854775807) (i v:Int) {r_:Int} (hI:slab_bits_I0 xs i v r_):slab_bits_w0 xs i v (fun i' v'=>slab_bits_I0 xs i' v' r_∧lx ((xs.length-i').toNat,0,0) ((xs.length-i).toNat,0,0)) (fun r__=>r__=r_):=by
 unfold slab_bits_I0 at hI
 unfold slab_bits_w0
 try unfold slab_bits_I0
 obtain ⟨h0,h1,h2,hr⟩:=hI
 refine ⟨fun h=>?_,fun h=>?_⟩
 ·simp only [decide_eq_true_eq] at h
  have hs:=hp0 (xs.getD i.toNat 0) (getD_mem (by omega))
  rw [w64 (by omega)]
  refine ⟨⟨h0,h⟩,fun _=>⟨hs,fun _=>⟨⟨by omega,by omega,?_,hr⟩,lxo_⟩⟩⟩
  rw [toNat_succ h0,take_snocB (by omega),List.foldl_append,←h2];rfl
 ·simp only [decide_eq_false_iff_not] at h
  show v=r_
  rw [hr,h2,slab_bits,List.take_of_length_le (by omega)]
theorem slab_bits_ok:EOk 95 e_slab_bits:=
 ent_wp Dg T_half_Free_ok (I:=[411000000008,411000000007,411000000006,411000000003]) Tryz.func95 mix (B:=bodyOf Tryz.f95) (by kernel_rfl) rfl (by kernel_rfl) 400
  fun p0 xs hb hp=>have hl0:xs.length≤9223372036854775807:=hb.1;have hp0:nnL xs:=hp _ (.head _);⟨[slab_bits_h0 p0 xs],fun j=>List.getD [appC (Hd.kd (slab_bits_h0 p0 xs)) (fun i' v'=>slab_bits_I0 xs i' v' (slab_bits xs))] j (fun _=>False),fun j=>List.getD [appC (Hd.kd (slab_bits_h0 p0 xs)) (fun i' v'=>((xs.length-i').toNat,0,0))] j (fun _=>(0,0,0)),by kernel_rfl,⟨_,fun _ _ _=>by kernel_rfl,slab_bits_begin xs hp0 hl0⟩,⟨fun i v hI=>⟨_,fun _ _ _=>by kernel_rfl,slab_bits_step0 xs hp0 hl0 i v hI⟩,trivial⟩⟩
def T_slab_bits:Tb:=(95,e_slab_bits)::T_half_Free
theorem T_slab_bits_ok:TOk T_slab_bits:=tc_ slab_bits_ok T_half_Free_ok
end Go.Proofs.YtjfabjhlkpgckaaGreat
namespace Go.Proofs.YtjfabjhlkpgckaaGreat
open Go.Sl
theorem ofInt32 (n:Nat):BitVec.ofInt 32 (n:Int)=BitVec.ofNat 32 n:=by apply BitVec.eq_of_toNat_eq;simp
theorem minNat {i:Nat} (h:i<32):min (Int.toNat (i:Int)) 32=i:=by simp;omega
theorem fdiv_pow {V i:Nat}:Int.fdiv (V:Int) (2^i)=((V/2^i:Nat):Int):=by
 rw [Int.fdiv_eq_ediv_of_nonneg _ (by exact Int.le_of_lt (Int.pow_pos (by omega)))]
 push_cast;rfl
theorem bitAt_nat {V i:Nat} (hi:i<32):bitAt (V:Int) (i:Int)=V.testBit i:=by
 unfold bitAt
 have e1:decide ((i:Int)≥0)=true:=by simp
 have e2:decide ((i:Int)<32)=true:=by simp;omega
 rw [e1,e2,Bool.true_and,Bool.true_and,Int.toNat_natCast,Nat.testBit_eq_decide_div_mod_eq]
 have e3:(V:Int)/2^i%2=((V/2^i%2:Nat):Int):=by push_cast;rfl
 rw [e3]
 apply Bool.eq_iff_iff.2
 rw [beq_iff_eq,decide_eq_true_eq]
 omega
theorem bitAt_out {v b:Int} (h:¬(0≤b∧b<32)):bitAt v b=false:=by
 unfold bitAt
 have:(decide (b≥0)&&decide (b<32))=false:=by simp;omega
 rw [this,Bool.false_and]
theorem zeroAt_eq {V i:Nat} (hV:V<4294967296) (hi:i<32):zeroAt (V:Int) i=!V.testBit i:=by
 unfold zeroAt
 rw [minNat hi,fdiv_pow,Nat.testBit_eq_decide_div_mod_eq]
 have h3:V/2^i<2^32:=Nat.lt_of_le_of_lt (Nat.div_le_self _ _) (by omega)
 have e:(BitVec.ofInt 32 ((V/2^i:Nat):Int) &&& BitVec.ofInt 32 1).toNat=V/2^i%2:=by
  rw [ofInt32,BitVec.toNat_and,BitVec.toNat_ofNat,Nat.mod_eq_of_lt h3]
  show _ &&& 1=_
  rw [Nat.and_one_is_mod]
 rw [e]
 have:=Nat.mod_lt (V/2^i) (show 2>0 by omega)
 rw [wrap_u32_nat (by omega)]
 apply Bool.eq_iff_iff.2
 simp only [beq_iff_eq,Bool.not_eq_true',decide_eq_false_iff_not]
 omega
def cb (V:Nat):Nat→Nat
 |0=>0
 |k+1=>(V.testBit k).toNat+cb V k
theorem cb_le (V:Nat):∀k,cb V k≤k
 |0=>Nat.le_refl _
 |k+1=>by
  have:=cb_le V k
  have:=Bool.toNat_le (V.testBit k)
  simp only [cb];omega
theorem onesF_cb {V:Nat}:∀k:Nat,k≤32→onesF (V:Int) k=(cb V k:Int)
 |0,_=>rfl
 |k+1,h=>by
  rw [onesF,onesF_cb k (by omega),bitAt_nat (by omega),cb]
  cases V.testBit k<;>simp<;>omega
theorem cb_byte (V k:Nat):cb V (k+8)=cb (V/2^k%256) 8+cb V k:=by
 have h:∀j,j<8→(V/2^k%256).testBit j=V.testBit (k+j):=fun j hj=>by
  rw [show (256:Nat)=2^8 by rfl,Nat.testBit_mod_two_pow,Nat.testBit_div_two_pow,Nat.add_comm j k]
  simp [hj]
 simp only [cb]
 rw [h 7 (by omega),h 6 (by omega),h 5 (by omega),h 4 (by omega),h 3 (by omega),h 2 (by omega),h 1 (by omega),h 0 (by omega)]
 simp only [Nat.add_zero]
 omega
theorem pop_tab:∀i:Fin 256,sAt SlSlab1_bytes0 (i.val:Int)=(cb i.val 8:Int):=by decide+kernel
theorem pop_nat {b:Nat} (h:b<256):sAt SlSlab1_bytes0 (b:Int)=(cb b 8:Int):=pop_tab ⟨b,h⟩
theorem and255_eq (m:Nat) (hm:m<4294967296):IntKind.u32.wrap ((BitVec.ofInt 32 (m:Int) &&& BitVec.ofInt 32 255).toNat:Int)=((m%256:Nat):Int):=by
 have e:(BitVec.ofInt 32 (m:Int) &&& BitVec.ofInt 32 255).toNat=m%256:=by
  rw [ofInt32,BitVec.toNat_and,BitVec.toNat_ofNat,Nat.mod_eq_of_lt hm]
  show m &&& (2^8-1)=_
  rw [Nat.and_two_pow_sub_one_eq_mod]
 rw [e,wrap_u32_nat (by omega)]
theorem fdivN (z:Int) (k:Nat) (h0:0≤z) (hk:0<k):Int.fdiv z (k:Int)=((z.toNat/k:Nat):Int):=by
 rw [Int.fdiv_eq_ediv_of_nonneg _ (by omega)]
 obtain ⟨n,rfl⟩:=Int.eq_ofNat_of_zero_le h0
 simp
theorem bits_Ones_eq {V:Nat} (hV:V<4294967296):bits_Ones (V:Int)=(cb V 32:Int):=by
 have c3:cb V 32=cb (V/2^24%256) 8+cb V 24:=cb_byte V 24
 have c2:cb V 24=cb (V/2^16%256) 8+cb V 16:=cb_byte V 16
 have c1:cb V 16=cb (V/2^8%256) 8+cb V 8:=cb_byte V 8
 have c0:cb V 8=cb (V/2^0%256) 8+cb V 0:=cb_byte V 0
 have z:cb V 0=0:=rfl
 have b3:=cb_le (V/2^24%256) 8
 have b2:=cb_le (V/2^16%256) 8
 have b1:=cb_le (V/2^8%256) 8
 have b0:=cb_le (V/2^0%256) 8
 have f:∀k:Nat,0<k→Int.fdiv (V:Int) (k:Int)=((V/k:Nat):Int):=fun k hk=>by
  rw [fdivN _ _ (by omega) hk,Int.toNat_natCast]
 have f3:=f 16777216 (by omega)
 have f2:=f 65536 (by omega)
 have f1:=f 256 (by omega)
 have h3:V/16777216<256:=by omega
 unfold bits_Ones
 rw [show (16777216:Int)=((16777216:Nat):Int) by rfl,show (65536:Int)=((65536:Nat):Int) by rfl,show Int.fdiv (V:Int) (256:Int)=Int.fdiv (V:Int) ((256:Nat):Int) by rfl,f3,f2,f1]
 rw [and255_eq _ (by omega),and255_eq _ (by omega),and255_eq _ hV,pop_nat h3,pop_nat (by omega),pop_nat (by omega),pop_nat (by omega)]
 have g3:cb (V/2^24%256) 8=cb (V/16777216) 8:=by rw [show (2:Nat)^24=16777216 by rfl,Nat.mod_eq_of_lt h3]
 have g2:cb (V/2^16%256) 8=cb (V/65536%256) 8:=rfl
 have g1:cb (V/2^8%256) 8=cb (V/256%256) 8:=rfl
 have g0:cb (V/2^0%256) 8=cb (V%256) 8:=by rw [Nat.pow_zero,Nat.div_one]
 simp only [IntKind.wrap_u8]
 rw [w64 (by omega)]
 omega
theorem natOf {v:Int} (h:bd32 v):∃V:Nat,v=(V:Int)∧V<4294967296:=⟨v.toNat,by unfold bd32 at h;omega,by unfold bd32 at h;omega⟩
theorem half_Ones_eq {v:Int} (h:bd32 v):half_Ones v=ones v:=by
 obtain ⟨V,rfl,hV⟩:=natOf h
 rw [half_Ones,bits_Ones_eq hV,ones,onesF_cb 32 (Nat.le_refl _)]
theorem testBit_add {V k i:Nat} (h:V.testBit k=false):(V+2^k).testBit i=(V.testBit i||decide (i=k)):=by
 have e:V+2^k=V ||| 2^k:=by
  have hb:∀w,V+2^k<2^w→V ||| 2^k<2^w→V+2^k=V ||| 2^k:=fun w h1 h2=>by
   have hand:(BitVec.ofNat w V) &&& (BitVec.ofNat w (2^k))=0#w:=by
    apply BitVec.eq_of_toNat_eq
    have hp:=Nat.two_pow_pos k
    have hV:V<2^w:=by omega
    have hk:2^k<2^w:=by omega
    rw [BitVec.toNat_and,BitVec.toNat_ofNat,BitVec.toNat_ofNat,Nat.mod_eq_of_lt hV,Nat.mod_eq_of_lt hk,BitVec.toNat_ofNat,Nat.zero_mod]
    apply Nat.eq_of_testBit_eq
    intro j
    rw [Nat.testBit_and,Nat.testBit_two_pow,Nat.zero_testBit]
    by_cases hj:k=j
    ·subst hj;rw [h];rfl
    ·simp [hj]
   have:=BitVec.add_eq_or_of_and_eq_zero _ _ hand
   have h3:=congrArg BitVec.toNat this
   have hp:=Nat.two_pow_pos k
   have hV:V<2^w:=by omega
   have hk:2^k<2^w:=by omega
   rw [BitVec.toNat_add,BitVec.toNat_or,BitVec.toNat_ofNat,BitVec.toNat_ofNat,Nat.mod_eq_of_lt hV,Nat.mod_eq_of_lt hk,Nat.mod_eq_of_lt h1] at h3
   exact h3
  refine hb (V+2^k+(V ||| 2^k)) ?_ ?_
  ·exact Nat.lt_of_le_of_lt (Nat.le_add_right _ _) Nat.lt_two_pow_self
  ·exact Nat.lt_of_le_of_lt (Nat.le_add_left _ _) Nat.lt_two_pow_self
 rw [e,Nat.testBit_or,Nat.testBit_two_pow]
 congr 1
 apply Bool.eq_iff_iff.2;simp [eq_comm]
theorem or_add {V k:Nat} (h:V.testBit k=false):V ||| 2^k=V+2^k:=by
 apply Nat.eq_of_testBit_eq
 intro i
 rw [testBit_add h,Nat.testBit_or,Nat.testBit_two_pow]
 congr 1
 apply Bool.eq_iff_iff.2;simp [eq_comm]
theorem lt_of_bits {V:Nat} (h:∀i,32≤i→V.testBit i=false):V<4294967296:=by
 have:=Nat.lt_pow_two_of_testBit V h
 simpa using this
theorem bits_of_lt {V:Nat} (h:V<4294967296) {i:Nat} (hi:32≤i):V.testBit i=false:=Nat.testBit_lt_two_pow (Nat.lt_of_lt_of_le h (by have:=Nat.pow_le_pow_right (n:=2) (by omega) hi;simpa using this))
def setB (v s:Int):Int:=bif bitAt v s then v else v+2^s.toNat
theorem setB_nat {V k:Nat} (hk:k<32):setB (V:Int) (k:Int)=((V ||| 2^k:Nat):Int):=by
 unfold setB
 rw [bitAt_nat hk]
 cases h:V.testBit k with
 |true=>
  have e:V ||| 2^k=V:=by
   apply Nat.eq_of_testBit_eq
   intro i
   rw [Nat.testBit_or,Nat.testBit_two_pow]
   by_cases hi:k=i
   ·subst hi;rw [h];rfl
   ·simp [hi]
  rw [cond_true,e]
 |false=>rw [cond_false,or_add h];push_cast;rfl
theorem or_lt {V k:Nat} (hV:V<4294967296) (hk:k<32):V ||| 2^k<4294967296:=lt_of_bits fun i hi=>by
 rw [Nat.testBit_or,bits_of_lt hV hi,Nat.testBit_two_pow];simp;omega
theorem bitAt_setB {v s:Int} (hv:bd32 v) (hs:0≤s∧s<32):bd32 (setB v s)∧∀b,bitAt (setB v s) b=(bitAt v b||decide (b=s)):=by
 obtain ⟨V,rfl,hV⟩:=natOf hv
 obtain ⟨k,rfl⟩:=Int.eq_ofNat_of_zero_le hs.1
 have hk:k<32:=by omega
 rw [setB_nat hk]
 refine ⟨by have:=or_lt hV hk;unfold bd32;omega,fun b=>?_⟩
 by_cases hb:0≤b∧b<32
 ·obtain ⟨j,rfl⟩:=Int.eq_ofNat_of_zero_le hb.1
  rw [bitAt_nat (by omega),bitAt_nat (by omega),Nat.testBit_or,Nat.testBit_two_pow]
  congr 1
  apply Bool.eq_iff_iff.2
  simp only [decide_eq_true_eq];omega
 ·rw [bitAt_out hb,bitAt_out hb]
  symm;simp;omega
theorem bits_ext {v w:Int} (hv:bd32 v) (hw:bd32 w) (h:∀b,bitAt v b=bitAt w b):v=w:=by
 obtain ⟨V,rfl,hV⟩:=natOf hv
 obtain ⟨W,rfl,hW⟩:=natOf hw
 congr 1
 apply Nat.eq_of_testBit_eq
 intro i
 by_cases hi:i<32
 ·rw [←bitAt_nat hi,←bitAt_nat hi];exact h _
 ·rw [bits_of_lt hV (by omega),bits_of_lt hW (by omega)]
theorem bitAt_zero (b:Int):bitAt 0 b=false:=by
 unfold bitAt;simp
theorem orB_eq {v s:Int} (hv:bd32 v) (hs:0≤s∧s<32):orB v s=setB v s:=by
 obtain ⟨V,rfl,hV⟩:=natOf hv
 obtain ⟨k,rfl⟩:=Int.eq_ofNat_of_zero_le hs.1
 have hk:k<32:=by omega
 have hp:2^k<4294967296:=by have:=Nat.pow_lt_pow_right (a:=2) (by omega) hk;simpa using this
 rw [setB_nat hk]
 unfold orB
 rw [minNat hk,Int.one_mul,show ((2:Int)^k)=((2^k:Nat):Int) by push_cast;rfl,wrap_u32_nat hp,ofInt32,ofInt32,BitVec.toNat_or,BitVec.toNat_ofNat,BitVec.toNat_ofNat,Nat.mod_eq_of_lt hV,Nat.mod_eq_of_lt hp,wrap_u32_nat (or_lt hV hk)]
def setL (v:Int) (l:LI):Int:=l.foldl setB v
theorem bitAt_setL:∀{l:LI} {v:Int},bd32 v→(∀s∈l,0≤s∧s<32)→bd32 (setL v l)∧∀b,bitAt (setL v l) b=(bitAt v b||l.contains b)
 |[],v,hv,_=>⟨hv,fun b=>by simp [setL]⟩
 |s::l,v,hv,hl=>by
  obtain ⟨h1,h2⟩:=bitAt_setB hv (hl s (by simp))
  obtain ⟨g1,g2⟩:=bitAt_setL (l:=l) h1 fun x hx=>hl x (by simp [hx])
  refine ⟨g1,fun b=>?_⟩
  show bitAt (setL (setB v s) l) b=_
  rw [g2,h2,List.contains_cons,Bool.or_assoc]
  congr 2
theorem foldl_orB:∀{l:LI} {v:Int},bd32 v→(∀s∈l,0≤s∧s<32)→l.foldl orB v=setL v l
 |[],_,_,_=>rfl
 |s::l,v,hv,hl=>by
  have hs:=hl s (by simp)
  show l.foldl orB (orB v s)=setL (setB v s) l
  rw [orB_eq hv hs]
  exact foldl_orB (bitAt_setB hv hs).1 fun x hx=>hl x (by simp [hx])
theorem slab_bits_eq {l:LI} (hl:∀s∈l,0≤s∧s<32):slab_bits l=setL 0 l:=foldl_orB (by unfold bd32;decide) hl
theorem wrapOr {a b:Int} (ha:bd32 a) (hb:bd32 b):bd32 (IntKind.u32.wrap ((BitVec.ofInt 32 a ||| BitVec.ofInt 32 b).toNat:Int))∧∀i,bitAt (IntKind.u32.wrap ((BitVec.ofInt 32 a ||| BitVec.ofInt 32 b).toNat:Int)) i=(bitAt a i||bitAt b i):=by
 obtain ⟨A,rfl,hA⟩:=natOf ha
 obtain ⟨B,rfl,hB⟩:=natOf hb
 have hl:A ||| B<4294967296:=lt_of_bits fun i hi=>by rw [Nat.testBit_or,bits_of_lt hA hi,bits_of_lt hB hi];rfl
 rw [ofInt32,ofInt32,BitVec.toNat_or,BitVec.toNat_ofNat,BitVec.toNat_ofNat,Nat.mod_eq_of_lt hA,Nat.mod_eq_of_lt hB,wrap_u32_nat hl]
 refine ⟨by unfold bd32;omega,fun b=>?_⟩
 by_cases hb:0≤b∧b<32
 ·obtain ⟨j,rfl⟩:=Int.eq_ofNat_of_zero_le hb.1
  rw [bitAt_nat (by omega),bitAt_nat (by omega),bitAt_nat (by omega),Nat.testBit_or]
 ·rw [bitAt_out hb,bitAt_out hb,bitAt_out hb];rfl
theorem or_bits {v:Int} {l:LI} (hv:bd32 v) (hl:∀s∈l,0≤s∧s<32):IntKind.u32.wrap ((BitVec.ofInt 32 v ||| BitVec.ofInt 32 (slab_bits l)).toNat:Int)=setL v l:=by
 rw [slab_bits_eq hl]
 obtain ⟨h1,h2⟩:=bitAt_setL (l:=l) (v:=0) (by unfold bd32;decide) hl
 obtain ⟨g1,g2⟩:=wrapOr hv h1
 obtain ⟨k1,k2⟩:=bitAt_setL hv hl
 exact bits_ext g1 k1 fun b=>by rw [g2,h2,k2,bitAt_zero,Bool.false_or]
theorem frN_mem {p:Nat→Bool} {n:Nat} {s:Int}:s∈frN p n↔0≤s∧s<n∧p s.toNat=true:=by
 unfold frN
 rw [List.mem_map]
 constructor
 ·rintro ⟨i,hi,rfl⟩
  rw [List.mem_filter,List.mem_range] at hi
  exact ⟨by omega,by omega,by simpa using hi.2⟩
 ·rintro ⟨h1,h2,h3⟩
  exact ⟨s.toNat,List.mem_filter.2 ⟨List.mem_range.2 (by omega),h3⟩,by omega⟩
def frL (v n:Int):LI:=frN (fun i=>!bitAt v (i:Int)) n.toNat
theorem frN_congr {p q:Nat→Bool} {n:Nat} (h:∀i,i<n→p i=q i):frN p n=frN q n:=by
 unfold frN
 congr 1
 exact List.filter_congr fun i hi=>h i (List.mem_range.1 hi)
theorem half_Free_eq {v n:Int} (hv:bd32 v) (hn:n≤32):half_Free v n=frL v n:=by
 obtain ⟨V,rfl,hV⟩:=natOf hv
 unfold half_Free frL
 rw [show min n.toNat 32=n.toNat by omega]
 exact frN_congr fun i hi=>by rw [zeroAt_eq hV (by omega),bitAt_nat (by omega)]
theorem frL_mem {v n s:Int} (h:s∈frL v n):0≤s∧s<n∧bitAt v s=false:=by
 obtain ⟨h1,h2,h3⟩:=frN_mem.1 h
 refine ⟨h1,by omega,?_⟩
 have e:((s.toNat:Nat):Int)=s:=by omega
 rw [e] at h3
 simpa using h3
theorem frN_succ (p:Nat→Bool) (n:Nat):frN p (n+1)=frN p n++(if p n=true then [(n:Int)] else []):=by
 unfold frN
 rw [frange_snoc,List.map_append]
 split<;>rfl
theorem frN_len (p:Nat→Bool) (n:Nat):(frN p n).length≤n:=by
 unfold frN;rw [List.length_map];exact frange_len p n
theorem frN_pre (p:Nat→Bool) {n m:Nat} (h:n≤m):∃l,frN p m=frN p n++l:=by
 induction m with
 |zero=>exact ⟨[],by rw [show n=0 by omega];simp⟩
 |succ m ih=>
  by_cases e:n=m+1
  ·exact ⟨[],by rw [e];simp⟩
  ·obtain ⟨l,hl⟩:=ih (by omega)
   exact ⟨_,by rw [frN_succ,hl,List.append_assoc]⟩
theorem frN_sorted (p:Nat→Bool) (n:Nat):(frN p n).Pairwise (· < ·):=by
 unfold frN
 rw [List.pairwise_map]
 refine List.Pairwise.imp ?_ (List.Pairwise.filter p List.pairwise_lt_range)
 intro a b h;omega
end Go.Proofs.YtjfabjhlkpgckaaGreat
namespace Go.Proofs.YtjfabjhlkpgckaaGreat
open Go.Sl
theorem place_Taken_eq (t p s g:Int):place_Taken t p s g=Cf.taken ⟨t,p,s⟩ g:=place_of_eq (by omega)
theorem place_Slots_eq (t p s g:Int):place_Slots t p s g=Cf.slots ⟨t,p,s⟩ g:=place_of_eq (by omega)
theorem r07_Taken_eq (t p s g:Int):r07_Taken t p s g=Cf.taken ⟨t,p,s⟩ g:=r07_Page_eq (by omega)
theorem r07_Slots_eq (t p s g:Int):r07_Slots t p s g=Cf.slots ⟨t,p,s⟩ g:=r07_Page_eq (by omega)
theorem place_Rack_eq (k:Int):place_Rack k=cRack k:=by
 unfold place_Rack place_within cRack
 by_cases hg:0≤k∧k<9
 ·have a1:(decide (k<0)||decide (k≥9))=false:=by simp;omega
  have a2:(decide (0≤k)&&decide (k<9))=true:=by simp;omega
  rw [a1,a2,w64 (by omega)];rfl
 ·have a1:(decide (k<0)||decide (k≥9))=true:=by simp;omega
  have a2:(decide (0≤k)&&decide (k<9))=false:=by simp;omega
  rw [a1,a2];rfl
theorem full_eq (v k:Int):r12_Full v k=full v k:=by
 show (ones v==r05_Slots k)=_
 rw [r05_Slots_eq];rfl
theorem Jv {b:Int} (hb:0≤b∧b<32):Bc b=2^b.toNat:=by
 have hp:(2:Int)^b.toNat≤2^31:=pow2_le (by omega)
 have h0:=pow2_pos b.toNat
 unfold Bc
 rw [wu64 (by omega),Int.one_mul,show min b.toNat 32=b.toNat by omega,wu32 (by omega)]
theorem KI {v b:Int} (hv:bd32 v) (hb:0≤b∧b<32) (h:bitAt v b=false):IntKind.wrap IntKind.u32 (v+Bc b)=setB v b:=by
 have h1:=(bitAt_setB hv hb).1
 unfold setB at h1 ⊢
 rw [h,cond_false] at h1 ⊢
 rw [Jv hb]
 unfold bd32 at h1
 exact wu32 (by omega)
theorem take_if {l:LI} {w:Int} (hw:0≤w):l.take (Int.toNat (if (l.length:Int)<w then (l.length:Int) else w))=l.take w.toNat:=by
 split
 ·rw [List.take_of_length_le (by omega),List.take_of_length_le (by omega)]
 ·rfl
theorem not_take {l:LI} (hs:l.Pairwise (· < ·)) {i:Nat} (hi:i<l.length):(l.take i).contains (l.getD i 0)=false:=by
 cases h:(l.take i).contains (l.getD i 0) with
 |false=>rfl
 |true=>
  rw [List.contains_iff_mem,List.mem_take_iff_getElem] at h
  obtain ⟨j,hj,e⟩:=h
  have:=(List.pairwise_iff_getElem.1 hs) j i (by omega) hi (by omega)
  rw [List.getD_eq_getElem?_getD,List.getElem?_eq_getElem hi,Option.getD_some] at e
  omega
theorem frL_len (v n:Int):(frL v n).length≤n.toNat:=frN_len _ _
theorem frL_succ (v:Int) {i:Int} (h:0≤i):frL v (i+1)=frL v i++(if bitAt v i=false then [i] else []):=by
 unfold frL
 rw [show (i+1).toNat=i.toNat+1 by omega,frN_succ,show ((i.toNat:Nat):Int)=i by omega]
 cases bitAt v i<;>simp
theorem frL_take {v n i w:Int} (h0:0≤i) (h1:i≤n) (h2:((frL v i).length:Int)≤w) (h:i=n∨((frL v i).length:Int)=w):(frL v n).take w.toNat=frL v i:=by
 obtain ⟨l,hl⟩:=frN_pre (fun i=>!bitAt v (i:Int)) (n:=i.toNat) (m:=n.toNat) (by omega)
 have hl:frL v n=frL v i++l:=hl
 rcases h with rfl|h
 ·exact List.take_of_length_le (by omega)
 ·rw [hl,show w.toNat=(frL v i).length by omega,List.take_left]
section
variable (c:Cf)
def pOpen (k:Int):Pg (Int×Bool):=
 .get (cRack k) fun q=>bif q==0 then
  (qTake c 1).bind fun r=>bif r.2 then .put (c.info r.1) (iVal 3 1 k) ((pPush c (cRack k) r.1).bind fun _=> .ret (r.1,true)) else .ret (0,false)
 else .ret (q-1,true)
def pPutS (p k t:Int) (l:LI):Pg (Int×LI×Bool):=
 .put (c.taken p) (setL t l) <| (bif full (setL t l) k then pPull c (cRack k) p else .ret ()).bind fun _=> .ret (p,l,true)
def pTakeS (p k want t:Int):Pg (Int×LI×Bool):=
 bif ((frL t (kSlots k)).length:Int)==0 then .ret (-1,[],false) else pPutS c p k t ((frL t (kSlots k)).take want.toNat)
def pPick (k want:Int):Pg (Int×LI×Bool):=
 bif decide (k<0)||decide (9≤k)||decide (want<1)||decide (4<want) then .ret (-1,[],false) else
  (pOpen c k).bind fun r=>bif r.2 then .get (c.taken r.1) (pTakeS c r.1 k want) else .ret (-1,[],false)
end
end Go.Proofs.YtjfabjhlkpgckaaGreat
namespace Go.Proofs.YtjfabjhlkpgckaaGreat
open Go.Sl
def slab_full (v k:Int):Bool:=full v k
abbrev c_slab_full:Ct Sg:=⟨none,false,[.i .u32, .i .i64], .b⟩
def e_slab_full:Entry Sg:=entC c_slab_full slab_full (fun v k=>[bd32 v])
def slab_full_w (v k:Int) (R_:Bool→Prop):Prop:=(aw_ (u32ok v) (R_ (half_Ones v==kSlots k)))
theorem slab_full_begin (v k:Int) (hp0:bd32 v):slab_full_w v k (fun r__=>r__=(slab_full v k)):=by
 unfold slab_full_w
 refine ⟨hp0,fun _=>?_⟩
 rw [half_Ones_eq hp0];rfl
theorem slab_full_ok:EOk 96 e_slab_full:=
 ent_w0 Dg T_slab_bits_ok (I:=[]) Tryz.func96 mix (B:=bodyOf Tryz.f96) (by kernel_rfl) rfl (by kernel_rfl) 400
  fun _ v k hb hp=>⟨_,fun _ _ _=>by kernel_rfl,slab_full_begin v k (hp _ (.head _))⟩
def T_slab_full:Tb:=(96,e_slab_full)::T_slab_bits
theorem T_slab_full_ok:TOk T_slab_full:=tc_ slab_full_ok T_slab_bits_ok
def slab_open (s:VS) (t p h k:Int):VS×Int×Bool:=(pOpen ⟨t,p,h⟩ k).run s
abbrev c_slab_open:Ct Sg:=⟨some wView,false,[.agg [.i .i64, .i .i64, .i .i64], .i .i64], .tup [.i .i64, .b]⟩
def e_slab_open:Entry Sg:=entC c_slab_open slab_open (fun s t p h k=>[p≤1024])
def slab_open_w (s:VS) (t p h k:Int) (R_:VS×Int×Bool→Prop):Prop:=(∀r1:Int,r1=(place_Rack k)→(∀r2:VS×Int,r2=((VS.read s r1,VS.get s r1))→(bw_ (r2.2 !=0) (R_ ((r2.1,IntKind.wrap IntKind.i64 (IntKind.wrap IntKind.i64 r2.2-1),true))) (∀r4:VS×Int×Bool,r4=(span_Take r2.1 t p h 1)→(aw_ (p≤1024) (bw_ (!r4.2.2) (R_ ((r4.1,0,false))) (∀r7:Int×Bool,r7=(info_Put 3 1 k)→(∀r8:Int,r8=(place_Info t p h r4.2.1)→(∀r9:VS,r9=(VS.set r4.1 r8 r7.1)→(aw_ (bd32 r7.1) (∀r11:VS,r11=(link_Push r9 t p h (place_Rack k) r4.2.1)→(R_ ((r11,r4.2.1,true))))))))))))))
theorem slab_open_begin (s:VS) (t p h k:Int) (hp0:p≤1024):slab_open_w s t p h k (fun r__=>r__=(slab_open s t p h k)):=by
 unfold slab_open_w
 repeat' first
  |(refine fun r hr=>?_;subst hr)
  |refine ⟨(by first|exact wu32_bd _|exact VS.get_bd _ _|exact zero_bd|exact iVal_bd _ _ _|exact nv_bd _|(rw [info_Put_val];exact iVal_bd _ _ _)|(rw [r09_Value_eq];exact iVal_bd _ _ _)|assumption|omega),fun _=>?_⟩
  |refine ⟨fun hc=>?_,fun hc=>?_⟩
  |(refine fun hr=>?_;subst hr)
  |fail
 all_goals
  simp only [link_page_eq,page_ne t p h,link_next,link_prev,place_Next_eq,place_Prev_eq,r07_Next_eq,r07_Prev_eq,link_to,w64g,w64g1,wrapu_nv,nvw,nvw2,bin_page,place_Info_eq,place_Foot_eq,r07_Info_eq,r07_Foot_eq,place_Bin_eq,r07_Bin_eq,info_Put_val,r09_Value_eq,bin_Of,A8,infoG1,infoG2,infoG3,rinfoG1,rinfoG2,rinfoG3,gt_iff_lt,span_Take,BZ,span_Release,Jl,Be,pInfo,Pg.run_get,Pg.run_ret,link_Push,link_Pull,Bz,BA,place_Rack_eq,place_Taken_eq,r07_Rack_eq,r07_Taken_eq,full_eq,slab_full,bne,Bool.not_eq_true',Bool.not_eq_false',reduceCtorEq] at*
 all_goals
  skip
 all_goals
  simp only [slab_open,pOpen,Pg.run_get,Pg.run_put,Pg.run_ret,Pg.run_bind,Pg.run_cond,gt_iff_lt,cond_true,cond_false, *]
 all_goals
  try rfl
theorem slab_open_ok:EOk 117 e_slab_open:=
 ent_w0 Dg T_slab_full_ok (I:=[2999998]) Tryz.func117 mix (B:=bodyOf Tryz.f117) (by kernel_rfl) rfl (by kernel_rfl) 400
  fun _ s t p h k hb hp=>⟨_,fun _ _ _=>by kernel_rfl,slab_open_begin s t p h k (hp _ (.head _))⟩
def T_slab_open:Tb:=(117,e_slab_open)::T_slab_full
theorem T_slab_open_ok:TOk T_slab_open:=tc_ slab_open_ok T_slab_full_ok
def slab_Pick (s:VS) (t p h k w:Int):VS×Int×LI×Bool:=(pPick ⟨t,p,h⟩ k w).run s
abbrev c_slab_Pick:Ct Sg:=⟨some wView,false,[.agg [.i .i64, .i .i64, .i .i64], .i .i64, .i .i64], .tup [.i .i64, .new 3 [some .i64], .b]⟩
def e_slab_Pick:Entry Sg:=entC c_slab_Pick slab_Pick (fun s t p h k w=>[p≤1024])
abbrev Dl (r8:LI) (w:Int):=(Int.toNat (if (↑(List.length r8):Int)<w then (↑(List.length r8):Int) else w))
abbrev Dn (r6:VS×Int) (r12:Int):=(IntKind.wrap IntKind.u32 (↑(BitVec.toNat (BitVec.ofInt 32 r6.2 ||| BitVec.ofInt 32 r12)):Int))
def slab_Pick_w (s:VS) (t p h k w:Int) (R_:VS×Int×LI×Bool→Prop):Prop:=(bw_ (decide (k<0)||decide (k≥9)||decide (w<1)||decide (w>4)) (R_ ((s,(-1),[],false))) (∀r2:VS×Int×Bool,r2=(slab_open s t p h k)→(aw_ (p≤1024) (bw_ (!r2.2.2) (R_ ((r2.1,(-1),[],false))) (∀r5:Int,r5=(place_Taken t p h r2.2.1)→(∀r6:VS×Int,r6=((VS.read r2.1 r5,VS.get r2.1 r5))→(∀r7:Int,r7=(kSlots k)→(∀r8:LI,r8=(half_Free r6.2 r7)→(bw_ ((↑(List.length r8):Int)==0) (R_ ((r6.1,(-1),[],false))) (aw_ ((0≤if (↑(List.length r8):Int)<w then (↑(List.length r8):Int) else w)∧(if (↑(List.length r8):Int)<w then (↑(List.length r8):Int) else w)≤(↑(List.length r8):Int)) (∀r12:Int,r12=(slab_bits (List.take (Dl r8 w) r8))→(aw_ (nnL (List.take (Dl r8 w) r8)) (∀r14:Int,r14=(place_Taken t p h r2.2.1)→(∀r15:VS,r15=(VS.set r6.1 r14 (Dn r6 r12))→(aw_ (bd32 (Dn r6 r12)) (∀r17:Bool,r17=(slab_full (Dn r6 r12) k)→(aw_ (bd32 (Dn r6 r12)) (bw_ (r17) (∀r20:VS,r20=(link_Pull r15 t p h (place_Rack k) r2.2.1)→(R_ ((r20,r2.2.1,List.take (Dl r8 w) r8,true)))) (R_ ((r15,r2.2.1,List.take (Dl r8 w) r8,true)))))))))))))))))))))
theorem slab_Pick_begin (s:VS) (t p h k w:Int) (hp0:p≤1024):slab_Pick_w s t p h k w (fun r__=>r__=(slab_Pick s t p h k w)):=by
 unfold slab_Pick_w Dn Dl
 have hcond:(decide (k<0)||decide (k≥9)||decide (w<1)||decide (w>4))=(decide (k<0)||decide (9≤k)||decide (w<1)||decide (4<w)):=by
  rfl
 rw [hcond]
 refine ⟨fun hc=>?_,fun hc=>?_⟩
 ·show _=slab_Pick s t p h k w
  rw [slab_Pick,pPick,hc];rfl
 have hkw:(0≤k∧k≤8)∧1≤w∧w≤4:=by
  simp only [Bool.or_eq_false_iff,decide_eq_false_iff_not] at hc;omega
 have hrun:slab_Pick s t p h k w=((pOpen ⟨t,p,h⟩ k).bind fun r=>bif r.2 then .get (Cf.taken ⟨t,p,h⟩ r.1) (pTakeS ⟨t,p,h⟩ r.1 k w) else .ret (-1,[],false)).run s:=by
  rw [slab_Pick,pPick,hc];rfl
 rw [Pg.run_bind] at hrun
 have e0:slab_open s t p h k=(pOpen ⟨t,p,h⟩ k).run s:=rfl
 rw [e0]
 generalize (pOpen ⟨t,p,h⟩ k).run s=o at hrun ⊢
 obtain ⟨s1,g,ok⟩:=o
 rintro r2 rfl
 refine ⟨hp0,fun _=>⟨fun hn=>?_,fun hn=>?_⟩⟩
 ·have hn':ok=false:=(Bool.not_eq_true' _).mp hn
  subst hn'
  exact hrun.symm
 have hn':ok=true:=(Bool.not_eq_false' _).mp hn
 subst hn'
 simp only [place_Taken_eq,place_Rack_eq]
 rintro r5 rfl r6 rfl r7 rfl r8 rfl
 have hrun:slab_Pick s t p h k w=(pTakeS ⟨t,p,h⟩ g k w (s1.get (Cf.taken ⟨t,p,h⟩ g))).run (s1.read (Cf.taken ⟨t,p,h⟩ g)):=hrun
 have hT:bd32 (s1.get (Cf.taken ⟨t,p,h⟩ g)):=VS.get_bd _ _
 simp only
 rw [half_Free_eq hT (kSlots_bd k).2]
 generalize s1.get (Cf.taken ⟨t,p,h⟩ g)=T at hrun hT ⊢
 generalize s1.read (Cf.taken ⟨t,p,h⟩ g)=u at hrun ⊢
 have hks:=kSlots_bd k
 refine ⟨fun he=>?_,fun he=>⟨⟨by split<;>omega,by split<;>omega⟩,fun _=>?_⟩⟩
 ·show _=slab_Pick s t p h k w
  rw [hrun,pTakeS,he];rfl
 rw [take_if (by omega)]
 have hm:∀x∈(frL T (kSlots k)).take w.toNat,0≤x∧x<32:=fun x hx=>by
  have:=frL_mem (List.mem_of_mem_take hx);omega
 rw [pTakeS,he,cond_false] at hrun
 generalize (frL T (kSlots k)).take w.toNat=l at hrun hm ⊢
 rintro r12 rfl
 refine ⟨fun x hx=>(hm x hx).1,fun _=>?_⟩
 rw [or_bits hT hm]
 have hb:=(bitAt_setL hT hm).1
 rintro r14 rfl r15 rfl
 refine ⟨hb,fun _=>?_⟩
 rintro r17 rfl
 refine ⟨hb,fun _=>⟨fun hf=>?_,fun hf=>?_⟩⟩
 ·rintro r20 rfl
  have hf:full (setL T l) k=true:=hf
  show _=slab_Pick s t p h k w
  rw [hrun,pPutS,hf];simp only [Pg.run_put,Pg.run_bind,Pg.run_ret,cond_true,cond_false]<;>rfl
 ·have hf:full (setL T l) k=false:=hf
  show _=slab_Pick s t p h k w
  rw [hrun,pPutS,hf];simp only [Pg.run_put,Pg.run_bind,Pg.run_ret,cond_true,cond_false]<;>rfl
theorem slab_Pick_ok:EOk 71 e_slab_Pick:=
 ent_w0 Dg T_slab_open_ok (I:=[2999998]) Tryz.func71 mix (B:=bodyOf Tryz.f71) (by kernel_rfl) rfl (by kernel_rfl) 400
  fun _ s t p h k w hb hp=>⟨_,fun _ _ _=>by kernel_rfl,slab_Pick_begin s t p h k w (hp _ (.head _))⟩
def T_slab_Pick:Tb:=(71,e_slab_Pick)::T_slab_open
theorem T_slab_Pick_ok:TOk T_slab_Pick:=tc_ slab_Pick_ok T_slab_open_ok
def T_slab_Give:Tb:=T_slab_Pick
theorem T_slab_Give_ok:TOk T_slab_Give:=T_slab_Pick_ok
def Aa (s:VS) (t p h k w:Int):VS×Int×LI×Bool:=(pPick ⟨t,p,h⟩ k w).run s
abbrev JQ:Ct Sg:=⟨some Ak,false,[.agg [.i .i64, .i .i64, .i .i64], .i .i64, .i .i64], .tup [.i .i64, .new 3 [some .i64], .b]⟩
def Gl:Entry Sg:=entC JQ Aa (fun s t p h k w=>[p≤1024])
def Gm (s:VS) (t p h k w:Int) (Q0:VS→Int→Int→Nat→LI→Int→Prop) (Q1:VS→Int→Int→Nat→LI→Int→Prop) (R_:VS×Int×LI×Bool→Prop):Prop:=(bw_ (decide (k<0)||decide (k>8)||decide (w<1)||decide (w>4)) (R_ ((s,(-1),[],false))) (∀r2:Int,r2=(r07_Rack k)→(∀r3:VS×Int,r3=((VS.read s r2,VS.get s r2))→(bw_ (r3.2==0) (∀r5:VS×Int×Bool,r5=(BZ r3.1 t p h 1)→(aw_ (p≤1024) (bw_ (!r5.2.2) (R_ ((r5.1,(-1),[],false))) (∀r8:Int,r8=(r07_Info t p h r5.2.1)→(∀r9:Int,r9=(Bq 3 1 k)→(∀r10:VS,r10=(VS.set r5.1 r8 r9)→(aw_ (bd32 r9) (∀r12:VS,r12=(Bz r10 t p h (r07_Rack k) r5.2.1)→(∀r13:Int,r13=(r07_Taken t p h r5.2.1)→(∀r14:VS×Int,r14=((VS.read r12 r13,VS.get r12 r13))→(Q0 r14.1 r5.2.1 r14.2 (0) ([]) (0)))))))))))) (∀r5:Int,r5=(r07_Taken t p h (IntKind.wrap IntKind.i64 (IntKind.wrap IntKind.i64 r3.2-1)))→(∀r6:VS×Int,r6=((VS.read r3.1 r5,VS.get r3.1 r5))→(Q0 r6.1 (IntKind.wrap IntKind.i64 (IntKind.wrap IntKind.i64 r3.2-1)) r6.2 (0) ([]) (0))))))))
def EU (s:VS) (t p h k w:Int) (u:VS) (g tt:Int) (no:Nat) (l:LI) (i:Int) (Q0:VS→Int→Int→Nat→LI→Int→Prop) (Q1:VS→Int→Int→Nat→LI→Int→Prop) (R_:VS×Int×LI×Bool→Prop):Prop:=(∀r0:Int,r0=(r05_Slots k)→(bw_ (decide (i<r0)&&decide ((↑no:Int)<w)) (∀r2:Bool,r2=(r01_Bit tt i)→(bw_ (!r2) (aw_ ((no+1)*8≤140737488355328) (Q0 (u) (g) (tt) (no+1) (l++[i]) (IntKind.wrap IntKind.i64 (i+1)))) (Q0 (u) (g) (tt) (no) (l) (IntKind.wrap IntKind.i64 (i+1))))) (bw_ ((↑no:Int)==0) (R_ ((u,(-1),[],false))) (Q1 (u) (g) (tt) (no) (l) (0)))))
def Ar (s:VS) (t p h k w:Int) (u:VS) (g tt:Int) (no:Nat) (l:LI) (i:Int) (r_:VS×Int×LI×Bool):Prop:=(0≤k∧k≤8∧1≤w∧w≤4∧p≤1024)∧bd32 tt∧0≤i∧i≤kSlots k∧no=l.length∧l=frL tt i∧(l.length:Int)≤w∧r_=(pTakeS ⟨t,p,h⟩ g k w tt).run u
def EW (s:VS) (t p h k w:Int) (u:VS) (g tt:Int) (no:Nat) (l:LI) (i:Int) (Q0:VS→Int→Int→Nat→LI→Int→Prop) (Q1:VS→Int→Int→Nat→LI→Int→Prop) (R_:VS×Int×LI×Bool→Prop):Prop:=(bw_ (decide (i<(↑no:Int))) (aw_ (0≤i∧i<(↑no:Int)) (∀r2:Int,r2=(Bc (List.getD l (Int.toNat i) 0))→(Q1 (u) (g) (IntKind.wrap IntKind.u32 (tt+r2)) (no) (l) (IntKind.wrap IntKind.i64 (i+1))))) (∀r1:Int,r1=(r07_Taken t p h g)→(∀r2:VS,r2=(VS.set u r1 tt)→(aw_ (bd32 tt) (∀r4:Bool,r4=(r12_Full tt k)→(aw_ (bd32 tt) (bw_ (r4) (∀r7:VS,r7=(BA r2 t p h (r07_Rack k) g)→(R_ ((r7,g,l,true)))) (R_ ((r2,g,l,true))))))))))
def AO (s:VS) (t p h k w:Int) (u:VS) (g tt:Int) (no:Nat) (l:LI) (i:Int) (r_:VS×Int×LI×Bool):Prop:=(0≤k∧k≤8∧p≤1024)∧∃t0,bd32 t0∧0≤i∧i≤l.length∧l.length≤32∧no=l.length∧l≠[]∧(∀x∈l,0≤x∧x<kSlots k∧bitAt t0 x=false)∧l.Pairwise (· < ·)∧tt=setL t0 (l.take i.toNat)∧r_=(pPutS ⟨t,p,h⟩ g k t0 l).run u
abbrev CU (p0:Addr) (s:VS) (t p h k w:Int):Hd Sg:=⟨none,[0,1,0,1,1,1,1,1,1,1],[.blk 0, .code [1,1,1,1,1,1,1,1]],[0,5,2,3,12,15,16,17],[.objc Ak p0, .box 23 [.ic .i64 (t), .ic .i64 (p), .ic .i64 (h)], .ic .i64 (k), .ic .i64 (w), .i .i64, .i .u32, .own 3 [some .i64], .i .i64]⟩
abbrev CV (p0:Addr) (s:VS) (t p h k w:Int):Hd Sg:=⟨none,[0,1,0,1,1,1,1,1,1,1,1,1],[.blk 2, .code [1,1,1,1,1,1,1,1,1,1]],[0,5,2,12,15,16,18],[.objc Ak p0, .box 23 [.ic .i64 (t), .ic .i64 (p), .ic .i64 (h)], .ic .i64 (k), .i .i64, .i .u32, .own 3 [some .i64], .i .i64]⟩
theorem Ho (s:VS) (t p h k w:Int) (hp0:p≤1024):Gm s t p h k w (fun u' g' tt' no' l' i'=>Ar s t p h k w u' g' tt' no' l' i' (Aa s t p h k w)) (fun u' g' tt' no' l' i'=>AO s t p h k w u' g' tt' no' l' i' (Aa s t p h k w)) (fun r__=>r__=(Aa s t p h k w)):=by
 unfold Gm
 try unfold Ar
 try unfold AO
 have hcond:(decide (k<0)||decide (k>8)||decide (w<1)||decide (w>4))=(decide (k<0)||decide (9≤k)||decide (w<1)||decide (4<w)):=by
  apply Bool.eq_iff_iff.2
  simp only [Bool.or_eq_true,decide_eq_true_eq];omega
 rw [hcond]
 refine ⟨fun hc=>?_,fun hc=>?_⟩
 ·show _=Aa s t p h k w
  rw [Aa,pPick,hc];rfl
 have hkw:(0≤k∧k≤8)∧1≤w∧w≤4:=by
  simp only [Bool.or_eq_false_iff,decide_eq_false_iff_not] at hc;omega
 have hrun:Aa s t p h k w=((pOpen ⟨t,p,h⟩ k).bind fun r=>bif r.2 then .get (Cf.taken ⟨t,p,h⟩ r.1) (pTakeS ⟨t,p,h⟩ r.1 k w) else .ret (-1,[],false)).run s:=by
  rw [Aa,pPick,hc];rfl
 rw [Pg.run_bind] at hrun
 simp only [r07_Taken_eq,r07_Rack_eq,r07_Info_eq,r09_Value_eq]
 rintro r2 rfl r3 rfl
 have fin:∀(u:VS) (g T:Int),bd32 T→Aa s t p h k w=(pTakeS ⟨t,p,h⟩ g k w T).run u→(Ar s t p h k w u g T 0 [] 0 (Aa s t p h k w)):=fun u g T hT e=>
  ⟨⟨by omega,by omega,by omega,by omega,hp0⟩,hT,Int.le_refl _,(kSlots_bd k).1,rfl,rfl,by simp;omega,e⟩
 refine ⟨fun hq=>?_,fun hq=>?_⟩
 ·rintro r5 rfl
  refine ⟨hp0,fun _=>⟨fun hn=>?_,fun hn=>?_⟩⟩
  ·have hn':((qTake ⟨t,p,h⟩ 1).run (s.read (cRack k))).2.2=false:=(Bool.not_eq_true' _).mp hn
   show _=Aa s t p h k w
   rw [hrun,pOpen,Pg.run_get,show (s.get (cRack k)==0)=true from hq,cond_true,Pg.run_bind,hn'];simp only [Pg.run_put,Pg.run_bind,Pg.run_ret,cond_true,cond_false]<;>rfl
  ·have hn':((qTake ⟨t,p,h⟩ 1).run (s.read (cRack k))).2.2=true:=(Bool.not_eq_false' _).mp hn
   rintro r8 rfl r9 rfl r10 rfl
   refine ⟨iVal_bd _ _ _,fun _=>?_⟩
   rintro r12 rfl r13 rfl r14 rfl
   refine fin _ _ _ (VS.get_bd _ _) ?_
   rw [hrun,pOpen,Pg.run_get,show (s.get (cRack k)==0)=true from hq,cond_true,Pg.run_bind,hn'];simp only [Pg.run_put,Pg.run_bind,Pg.run_ret,cond_true,cond_false]<;>rfl
 ·rintro r5 rfl r6 rfl
  have eq1:IntKind.wrap IntKind.i64 (IntKind.wrap IntKind.i64 (s.get (cRack k))-1)=s.get (cRack k)-1:=by
   have:=VS.get_bd s (cRack k)
   rw [w64 (n:=s.get (cRack k)) (by omega),w64 (by omega)]
  simp only [eq1]
  refine fin _ _ _ (VS.get_bd _ _) ?_
  rw [hrun,pOpen,Pg.run_get,show (s.get (cRack k)==0)=false from hq];rfl
theorem Hr (s:VS) (t p h k w:Int) (hp0:p≤1024) (u:VS) (g tt:Int) (no:Nat) (l:LI) (i:Int) {r_:VS×Int×LI×Bool} (hI:Ar s t p h k w u g tt no l i r_):EU s t p h k w u g tt no l i (fun u' g' tt' no' l' i'=>Ar s t p h k w u' g' tt' no' l' i' r_∧lx ((kSlots k-i').toNat+40,0,0) ((kSlots k-i).toNat+40,0,0)) (fun u' g' tt' no' l' i'=>AO s t p h k w u' g' tt' no' l' i' r_∧lx ((l'.length-i').toNat,0,0) ((kSlots k-i).toNat+40,0,0)) (fun r__=>r__=r_):=by
 unfold Ar at hI
 unfold EU
 try unfold Ar
 try unfold AO
 obtain ⟨hk,ht,h0,h1,h2,h3,h4,hr⟩:=hI
 have hks:=kSlots_bd k
 have hlen:l.length≤i.toNat:=by rw [h3];exact frL_len _ _
 rintro r0 rfl
 rw [r05_Slots_eq]
 refine ⟨fun hc=>?_,fun hc=>?_⟩
 ·simp only [Bool.and_eq_true,decide_eq_true_eq] at hc
  rintro r2 rfl
  rw [bit_eq ht,w64 (n:=i+1) (by omega)]
  refine ⟨fun hb=>⟨by omega,fun _=>⟨⟨hk,ht,by omega,by omega,by simp [h2],?_,by simp;omega,hr⟩,lxo_⟩⟩,fun hb=>⟨⟨hk,ht,by omega,by omega,h2,?_,h4,hr⟩,lxo_⟩⟩
  ·rw [frL_succ _ h0,if_pos ((Bool.not_eq_true' _).mp hb),h3]
  ·rw [frL_succ _ h0,if_neg (by rw [(Bool.not_eq_false' _).mp hb];simp),List.append_nil];exact h3
 ·have key:(frL tt (kSlots k)).take w.toNat=l:=by
   rw [h3]
   refine frL_take h0 h1 (by rw [←h3];exact h4) ?_
   rw [←h3]
   simp only [Bool.and_eq_false_iff,decide_eq_false_iff_not] at hc
   omega
  have hz:((frL tt (kSlots k)).length:Int)==0↔l=[]:=by
   rw [←key]
   simp only [beq_iff_eq]
   constructor
   ·intro e;rw [List.eq_nil_of_length_eq_zero (l:=frL tt (kSlots k)) (by omega)];simp
   ·intro e
    have:=congrArg List.length e
    rw [List.length_take,List.length_nil] at this
    omega
  refine ⟨fun he=>?_,fun he=>?_⟩
  ·have hl:l=[]:=List.eq_nil_of_length_eq_zero (by have:(no:Int)=0:=by simpa using he
                                                   omega)
   show _=r_
   rw [hr,pTakeS,hz.2 hl];rfl
  ·have hl:l≠[]:=fun e=>by rw [h2,e] at he;simp at he
   have hzf:(((frL tt (kSlots k)).length:Int)==0)=false:=by
    cases hq:(((frL tt (kSlots k)).length:Int)==0) with
    |false=>rfl
    |true=>exact absurd (hz.1 hq) hl
   rw [pTakeS,hzf,cond_false,key] at hr
   refine ⟨⟨⟨hk.1,hk.2.1,hk.2.2.2.2⟩,tt,ht,Int.le_refl _,by omega,by omega,h2,hl,fun x hx=>?_,?_,rfl,hr⟩,lxo_⟩
   ·rw [h3] at hx
    have:=frL_mem hx
    exact ⟨this.1,by omega,this.2.2⟩
   ·rw [h3];exact frN_sorted _ _
theorem Ht (s:VS) (t p h k w:Int) (hp0:p≤1024) (u:VS) (g tt:Int) (no:Nat) (l:LI) (i:Int) {r_:VS×Int×LI×Bool} (hI:AO s t p h k w u g tt no l i r_):EW s t p h k w u g tt no l i (fun u' g' tt' no' l' i'=>Ar s t p h k w u' g' tt' no' l' i' r_∧lx ((kSlots k-i').toNat+40,0,0) ((l.length-i).toNat,0,0)) (fun u' g' tt' no' l' i'=>AO s t p h k w u' g' tt' no' l' i' r_∧lx ((l'.length-i').toNat,0,0) ((l.length-i).toNat,0,0)) (fun r__=>r__=r_):=by
 unfold AO at hI
 unfold EW
 try unfold Ar
 try unfold AO
 obtain ⟨hk,t0,ht0,h0,h1,h32,h2,hne,hm,hs,htt,hr⟩:=hI
 have hks:=kSlots_bd k
 have hbd:∀x∈l,0≤x∧x<32:=fun x hx=>by have:=hm x hx;omega
 have hbt:=bitAt_setL (l:=l.take i.toNat) ht0 (fun x hx=>hbd x (List.mem_of_mem_take hx))
 rw [←htt] at hbt
 refine ⟨fun hc=>?_,fun hc=>?_⟩
 ·simp only [decide_eq_true_eq] at hc
  refine ⟨by omega,fun _=>?_⟩
  rintro r2 rfl
  have hx:=hm (l.getD i.toNat 0) (getD_mem (by omega))
  have hnb:bitAt tt (l.getD i.toNat 0)=false:=by rw [hbt.2,hx.2.2,not_take hs (by omega)];rfl
  rw [w64 (n:=i+1) (by omega),KI hbt.1 (hbd _ (getD_mem (by omega))) hnb]
  refine ⟨⟨hk,t0,ht0,by omega,by omega,h32,h2,hne,hm,hs,?_,hr⟩,lxo_⟩
  rw [toNat_succ h0,take_snocB (by omega),setL,List.foldl_append,htt];rfl
 ·simp only [decide_eq_false_iff_not] at hc
  have e:l.take i.toNat=l:=List.take_of_length_le (by omega)
  rw [e] at htt
  simp only [r07_Taken_eq,r07_Rack_eq]
  rintro r1 rfl r2 rfl
  refine ⟨hbt.1,fun _=>?_⟩
  rintro r4 rfl
  rw [full_eq,htt]
  rw [htt] at hbt
  refine ⟨hbt.1,fun _=>⟨fun hf=>?_,fun hf=>?_⟩⟩
  ·rintro r7 rfl
   show _=r_
   rw [hr,pPutS,hf];simp only [Pg.run_put,Pg.run_bind,Pg.run_ret,cond_true,cond_false]<;>rfl
  ·show _=r_
   rw [hr,pPutS,hf];simp only [Pg.run_put,Pg.run_bind,Pg.run_ret,cond_true,cond_false]<;>rfl
theorem Jm:EOk 39 Gl:=
 ent_wp Dg T_slab_Give_ok (I:=[2999998,1657000000000,1657000000005,1657000000002,1657000000003,1657000000012,1657000000015,1657000000016,1657000000017,6561000000000,6561000000005,6561000000002,6561000000012,6561000000015,6561000000016,6561000000018]) Tryz.func39 mix (B:=bodyOf Tryz.f39) (by kernel_rfl) rfl (by kernel_rfl) 400
  fun p0 s t p h k w hb hp=>have hp0:p≤1024:=hp _ (.head _);⟨[CU p0 s t p h k w,CV p0 s t p h k w],fun j=>List.getD [appC (Hd.kd (CU p0 s t p h k w)) (fun u' g' tt' no' l' i'=>Ar s t p h k w u' g' tt' no' l' i' (Aa s t p h k w)),appC (Hd.kd (CV p0 s t p h k w)) (fun u' g' tt' no' l' i'=>AO s t p h k w u' g' tt' no' l' i' (Aa s t p h k w))] j (fun _=>False),fun j=>List.getD [appC (Hd.kd (CU p0 s t p h k w)) (fun u' g' tt' no' l' i'=>((kSlots k-i').toNat+40,0,0)),appC (Hd.kd (CV p0 s t p h k w)) (fun u' g' tt' no' l' i'=>((l'.length-i').toNat,0,0))] j (fun _=>(0,0,0)),by kernel_rfl,⟨_,fun _ _ _=>by kernel_rfl,Ho s t p h k w hp0⟩,⟨fun u g tt no l i hI=>⟨_,fun _ _ _=>by kernel_rfl,Hr s t p h k w hp0 u g tt no l i hI⟩,⟨fun u g tt no l i hI=>⟨_,fun _ _ _=>by kernel_rfl,Ht s t p h k w hp0 u g tt no l i hI⟩,trivial⟩⟩⟩
def Gn:Tb:=(39,Gl)::T_slab_Give
theorem I7:TOk Gn:=tc_ Jm T_slab_Give_ok
def Gp:Tb:=Gn
theorem DK:TOk Gp:=I7
end Go.Proofs.YtjfabjhlkpgckaaGreat
namespace Go.Proofs.YtjfabjhlkpgckaaGreat
open Go.Sl
theorem cs_n1 {s k:Int} {b:Bool} (h:(kSlots k==0||decide (s<10)||b)=false):0≤s:=by
 have z:=(Bool.or_eq_false_iff.1 (Bool.or_eq_false_iff.1 h).1).2
 simp only [decide_eq_false_iff_not] at z;omega
theorem cs_n2 {s k:Int} {b:Bool} (h:(kSlots k==0||decide (s<10)||b)=false):kSlots k≠0:=by
 simp only [Bool.or_eq_false_iff,beq_eq_false_iff_ne] at h;exact h.1.1
def class_Size (s k:Int):Int:=(bif kSlots k==0||decide (s<10)||decide (s>20) then 0 else IntKind.wrap IntKind.i64 (↑(BitVec.toNat (BitVec.ofInt 64 (IntKind.wrap IntKind.i64 (Int.tdiv (IntKind.wrap IntKind.i64 ((1:Int)*2^min (Int.toNat s) 64)) (kSlots k))) &&& ~~~BitVec.ofInt 64 15)):Int))
abbrev c_class_Size:Ct Sg:=⟨none,false,[.i .i64, .i .i64], .i .i64⟩
def e_class_Size:Entry Sg:=entC c_class_Size class_Size (fun _ _=>[])
theorem class_Size_ok:EOk 115 e_class_Size:=
 ent_ok Dg DK (I:=[]) Tryz.func115 mix (B:=bodyOf Tryz.f115) (by kernel_rfl) rfl (by kernel_rfl) 400
  fun _ s k hb hp=>⟨(class_Size s k),(.br (kSlots k==0||decide (s<10)||decide (s>20)) .t (.need (0≤s) (.need (kSlots k≠0) .t))),fun _ _ _=>by kernel_rfl,⟨fun z0=>trivial,fun z0=>⟨(by first|exact cs_n1 z0|exact cs_n2 z0),fun z1=>⟨(by first|exact cs_n1 z0|exact cs_n2 z0),fun z2=>trivial⟩⟩⟩,rfl⟩
def T_class_Size:Tb:=(115,e_class_Size)::Gp
theorem T_class_Size_ok:TOk T_class_Size:=tc_ class_Size_ok DK
theorem size_table:∀i:Nat,i<11→∀k:Nat,k<9→class_Size (10+(i:Int)) (k:Int)=r05_Size (10+(i:Int)) (k:Int)∧0<r05_Size (10+(i:Int)) (k:Int):=by decide+kernel
theorem r04_Page_pos {s:Int}:(r04_Page 1 4 s==0)=decide (s<10∨20<s):=by
 by_cases h:s<10∨20<s
 ·have:r04_Right 1 4 s=false:=by
   simp only [r04_Right,Bool.and_eq_false_iff,decide_eq_false_iff_not];omega
  simp [r04_Page,this,h]
 ·have:r04_Right 1 4 s=true:=by
   simp only [r04_Right,Bool.and_eq_true,decide_eq_true_eq];omega
  have:=pow2_pos s.toNat
  simp only [r04_Page, *,cond_true,decide_false]
  simp;omega
theorem kSlots_zero {k:Int}:(kSlots k==0)=decide (k<0∨9≤k):=by
 by_cases h:k<0∨9≤k
 ·have e:kSlots k=0:=by
   unfold kSlots
   by_cases h0:0≤k
   ·have e:decide (0≤k)=true:=by simpa using h0
    rw [e,cond_true,List.getD_eq_getElem?_getD,List.getElem?_eq_none (by simp;omega)];rfl
   ·have e:decide (0≤k)=false:=by simpa using h0
    rw [e];rfl
  rw [e];simp [h]
 ·rcases (by omega:k=0∨k=1∨k=2∨k=3∨k=4∨k=5∨k=6∨k=7∨k=8) with rfl|rfl|rfl|rfl|rfl|rfl|rfl|rfl|rfl<;>decide
theorem slots_same (k:Int):kSlots k=r05_Slots k:=(r05_Slots_eq k).symm
theorem class_Size_zero {s k:Int} (h:k<0∨9≤k∨s<10∨20<s):class_Size s k=0∧r05_Size s k=0:=by
 have h1:(kSlots k==0||decide (s<10)||decide (s>20))=true:=by
  rw [kSlots_zero];simp only [Bool.or_eq_true,decide_eq_true_eq];omega
 have h2:(r05_Slots k==0||r04_Page 1 4 s==0)=true:=by
  rw [←slots_same,kSlots_zero,r04_Page_pos];simp only [Bool.or_eq_true,decide_eq_true_eq];omega
 exact ⟨by simp only [class_Size,h1,cond_true],by simp only [r05_Size,h2,cond_true]⟩
theorem size_in {s k:Int} (h:0≤k∧k<9∧10≤s∧s≤20):class_Size s k=r05_Size s k∧0<r05_Size s k:=by
 have:=size_table (s-10).toNat (by omega) k.toNat (by omega)
 rwa [show (10+((s-10).toNat:Int))=s by omega,show ((k.toNat:Nat):Int)=k by omega] at this
theorem size_same (s k:Int):class_Size s k=r05_Size s k:=by
 by_cases h:0≤k∧k<9∧10≤s∧s≤20
 ·exact (size_in h).1
 ·obtain ⟨h1,h2⟩:=class_Size_zero (s:=s) (k:=k) (by omega);rw [h1,h2]
def ofOpt:Option Nat→Int×Bool
 |some k=>((k:Int),true)
 |none=>(0,false)
theorem right_iff {t p s:Int}:r04_Right t p s=true↔(1≤t∧t≤16)∧(4≤p∧p≤1024)∧10≤s∧s≤20:=by
 simp only [r04_Right,Bool.and_eq_true,decide_eq_true_eq];omega
theorem need_Page {t p s:Int} (h:(conf_Check t p s !=0)=false):0≤s:=by
 rw [conf_Check_eq] at h
 cases hr:r04_Right t p s with
 |true=>have:=right_iff.1 hr;omega
 |false=>rw [hr] at h;simp at h
theorem r04_ne {t p s:Int} (h:r04_Right t p s=true):r04_Page t p s≠0:=by
 have:=pow2_pos s.toNat
 simp only [r04_Page,h,cond_true];omega
theorem r06_ne {t p s:Int} {b:Bool} (h:(!r04_Right t p s||b)=false):r04_Page t p s≠0:=r04_ne (by simpa using (Bool.or_eq_false_iff.1 h).1)
theorem r06_ne2 {t p s:Int} {b c:Bool} (h:(!r04_Right t p s||b||c)=false):r04_Page t p s≠0:=r06_ne (Bool.or_eq_false_iff.1 h).1
theorem r06_ne3 {t p s:Int} {b c d:Bool} (h:(!r04_Right t p s||b||c||d)=false):r04_Page t p s≠0:=r06_ne2 (Bool.or_eq_false_iff.1 h).1
def conf_Page (t p s:Int):Int:=(bif conf_Check t p s !=0 then 0 else IntKind.wrap IntKind.i64 ((1:Int)*2^min (Int.toNat s) 64))
abbrev c_conf_Page:Ct Sg:=⟨none,false,[.agg [.i .i64, .i .i64, .i .i64]], .i .i64⟩
def e_conf_Page:Entry Sg:=entC c_conf_Page conf_Page (fun _ _ _=>[])
theorem conf_Page_ok:EOk 113 e_conf_Page:=
 ent_ok Dg T_class_Size_ok (I:=[]) Tryz.func113 mix (B:=bodyOf Tryz.f113) (by kernel_rfl) rfl (by kernel_rfl) 400
  fun _ t p s hb hp=>⟨(conf_Page t p s),(.br (conf_Check t p s !=0) .t (.need (0≤s) .t)),fun _ _ _=>by kernel_rfl,⟨fun z1=>trivial,fun z1=>⟨(by exact need_Page (by assumption)),fun z2=>trivial⟩⟩,rfl⟩
def T_conf_Page:Tb:=(113,e_conf_Page)::T_class_Size
theorem T_conf_Page_ok:TOk T_conf_Page:=tc_ conf_Page_ok T_class_Size_ok
theorem conf_Page_eq (t p s:Int):conf_Page t p s=r04_Page t p s:=by
 unfold conf_Page r04_Page
 rw [conf_Check_eq]
 cases hr:r04_Right t p s with
 |false=>rfl
 |true=>
  have:=right_iff.1 hr
  have h1:=pow2_pos s.toNat
  have h2:=pow2_le (show s.toNat≤20 by omega)
  simp only [cond_true,Bool.not_true,cond_false,bne_self_eq_false]
  rw [show min s.toNat 64=s.toNat by omega,Int.one_mul,w64 (by omega)]
theorem page_zero {t p s:Int} (h:r04_Right t p s=false):r04_Page t p s=0:=by simp [r04_Page,h]
theorem pgIn {t p s:Int} (h:r04_Right t p s=true):r04_Page t p s=2^s.toNat:=by simp [r04_Page,h]
theorem s_of_page {t p s:Int} (h:r04_Page t p s≠0):0≤s:=by
 cases hr:r04_Right t p s with
 |true=>have:=right_iff.1 hr;omega
 |false=>exact absurd (page_zero hr) h
def conf_Bytes (t p s:Int):Int:=IntKind.wrap IntKind.i64 (conf_Page t p s*p)
abbrev c_conf_Bytes:Ct Sg:=⟨none,false,[.agg [.i .i64, .i .i64, .i .i64]], .i .i64⟩
def e_conf_Bytes:Entry Sg:=entC c_conf_Bytes conf_Bytes (fun _ _ _=>[])
theorem conf_Bytes_ok:EOk 114 e_conf_Bytes:=
 ent_ok Dg T_conf_Page_ok (I:=[]) Tryz.func114 mix (B:=bodyOf Tryz.f114) (by kernel_rfl) rfl (by kernel_rfl) 400
  fun _ t p s hb hp=>⟨(conf_Bytes t p s), .t,fun _ _ _=>by kernel_rfl,trivial,rfl⟩
def T_conf_Bytes:Tb:=(114,e_conf_Bytes)::T_conf_Page
theorem T_conf_Bytes_ok:TOk T_conf_Bytes:=tc_ conf_Bytes_ok T_conf_Page_ok
def spot_there (pg off t p s:Int):Bool:=conf_Check t p s==0&&decide (pg≥0)&&decide (pg<p)&&decide (off≥0)&&decide (off<conf_Page t p s)
abbrev c_spot_there:Ct Sg:=⟨none,false,[.agg [.i .i64, .i .i64], .agg [.i .i64, .i .i64, .i .i64]], .b⟩
def e_spot_there:Entry Sg:=entC c_spot_there spot_there (fun _ _ _ _ _=>[])
theorem spot_there_ok:EOk 116 e_spot_there:=
 ent_ok Dg T_conf_Bytes_ok (I:=[]) Tryz.func116 mix (B:=bodyOf Tryz.f116) (by kernel_rfl) rfl (by kernel_rfl) 400
  fun _ pg off t p s hb hp=>⟨(spot_there pg off t p s), .t,fun _ _ _=>by kernel_rfl,trivial,rfl⟩
def T_spot_there:Tb:=(116,e_spot_there)::T_conf_Bytes
theorem T_spot_there_ok:TOk T_spot_there:=tc_ spot_there_ok T_conf_Bytes_ok
theorem there_right {pg off t p s:Int} (h:spot_there pg off t p s=true):r04_Right t p s=true:=by
 simp only [spot_there,Bool.and_eq_true] at h
 have:=h.1.1.1.1
 rw [conf_Check_eq] at this
 cases hr:r04_Right t p s with
 |true=>rfl
 |false=>rw [hr] at this;simp at this
theorem need_Of {pg off t p s:Int} (h:(!spot_there pg off t p s)=false):0≤s:=by
 have:=right_iff.1 (there_right (by simpa using h));omega
theorem need_aPage {t p s:Int} {b c:Bool} (h:(conf_Page t p s==0||b||c)=false):0≤s:=by
 simp only [Bool.or_eq_false_iff,beq_eq_false_iff_ne,ne_eq,conf_Page_eq] at h
 exact s_of_page h.1.1
theorem need_Slot {s k:Int} {b:Bool} (h:(class_Size s k==0||b)=false):class_Size s k≠0:=by
 simp only [Bool.or_eq_false_iff,beq_eq_false_iff_ne,ne_eq] at h;exact h.1
theorem r05_slots_le (k:Int):0≤r05_Slots k∧r05_Slots k≤32:=by rw [r05_Slots_eq];exact kSlots_bd k
def addr_Of (t p s pg off:Int):Int×Bool:=(bif !spot_there pg off t p s then (0,false) else (IntKind.wrap IntKind.i64 (↑(BitVec.toNat (BitVec.ofInt 64 (IntKind.wrap IntKind.i64 (IntKind.wrap IntKind.i64 (pg+1)*2^min (Int.toNat s) 64)) ||| BitVec.ofInt 64 off)):Int),true))
abbrev c_addr_Of:Ct Sg:=⟨none,false,[.agg [.i .i64, .i .i64, .i .i64], .i .i64, .i .i64], .tup [.i .i64, .b]⟩
def e_addr_Of:Entry Sg:=entC c_addr_Of addr_Of (fun _ _ _ _ _=>[])
theorem addr_Of_ok:EOk 76 e_addr_Of:=
 ent_ok Dg T_spot_there_ok (I:=[]) Tryz.func76 mix (B:=bodyOf Tryz.f76) (by kernel_rfl) rfl (by kernel_rfl) 400
  fun _ t p s pg off hb hp=>⟨(addr_Of t p s pg off),(.br (!spot_there pg off t p s) .t (.need (0≤s) .t)),fun _ _ _=>by kernel_rfl,⟨fun z1=>trivial,fun z1=>⟨(by exact need_Of (by assumption)),fun z2=>trivial⟩⟩,rfl⟩
def T_addr_Of:Tb:=(76,e_addr_Of)::T_spot_there
theorem T_addr_Of_ok:TOk T_addr_Of:=tc_ addr_Of_ok T_spot_there_ok
def addr_Page (t p s a:Int):Int×Int×Bool:=(bif conf_Page t p s==0||decide (a<conf_Page t p s)||decide (a>IntKind.wrap IntKind.i64 (IntKind.wrap IntKind.i64 (conf_Bytes t p s+conf_Page t p s)-1)) then (0,0,false) else (IntKind.wrap IntKind.i64 (Int.fdiv a (2^min (Int.toNat s) 64)-1),IntKind.wrap IntKind.i64 (↑(BitVec.toNat (BitVec.ofInt 64 a &&& BitVec.ofInt 64 (IntKind.wrap IntKind.i64 (conf_Page t p s-1)))):Int),true))
abbrev c_addr_Page:Ct Sg:=⟨none,false,[.agg [.i .i64, .i .i64, .i .i64], .i .i64], .tup [.i .i64, .i .i64, .b]⟩
def e_addr_Page:Entry Sg:=entC c_addr_Page addr_Page (fun _ _ _ _=>[])
theorem addr_Page_ok:EOk 69 e_addr_Page:=
 ent_ok Dg T_addr_Of_ok (I:=[]) Tryz.func69 mix (B:=bodyOf Tryz.f69) (by kernel_rfl) rfl (by kernel_rfl) 400
  fun _ t p s a hb hp=>⟨(addr_Page t p s a),(.br (conf_Page t p s==0||decide (a<conf_Page t p s)||decide (a>IntKind.wrap IntKind.i64 (IntKind.wrap IntKind.i64 (conf_Bytes t p s+conf_Page t p s)-1))) .t (.need (0≤s) .t)),fun _ _ _=>by kernel_rfl,⟨fun z1=>trivial,fun z1=>⟨(by exact need_aPage (by assumption)),fun z2=>trivial⟩⟩,rfl⟩
def T_addr_Page:Tb:=(69,e_addr_Page)::T_addr_Of
theorem T_addr_Page_ok:TOk T_addr_Page:=tc_ addr_Page_ok T_addr_Of_ok
def r06_Page (t p s a:Int):Int×Int×Bool:=(bif !r04_Right t p s||decide (a<0)||decide (IntKind.wrap IntKind.i64 (Int.tdiv a (r04_Page t p s))<1)||decide (IntKind.wrap IntKind.i64 (Int.tdiv a (r04_Page t p s))>p) then (0,0,false) else (IntKind.wrap IntKind.i64 (IntKind.wrap IntKind.i64 (Int.tdiv a (r04_Page t p s))-1),Int.tmod a (r04_Page t p s),true))
abbrev c_r06_Page:Ct Sg:=⟨none,false,[.agg [.i .i64, .i .i64, .i .i64], .i .i64], .tup [.i .i64, .i .i64, .b]⟩
def e_r06_Page:Entry Sg:=entC c_r06_Page r06_Page (fun _ _ _ _=>[])
theorem r06_Page_ok:EOk 77 e_r06_Page:=
 ent_ok Dg T_addr_Page_ok (I:=[]) Tryz.func77 mix (B:=bodyOf Tryz.f77) (by kernel_rfl) rfl (by kernel_rfl) 400
  fun _ t p s a hb hp=>⟨(r06_Page t p s a),(.need ((!r04_Right t p s||decide (a<0))=false→r04_Page t p s≠0) (.need ((!r04_Right t p s||decide (a<0)||decide (IntKind.wrap IntKind.i64 (Int.tdiv a (r04_Page t p s))<1))=false→r04_Page t p s≠0) (.br (!r04_Right t p s||decide (a<0)||decide (IntKind.wrap IntKind.i64 (Int.tdiv a (r04_Page t p s))<1)||decide (IntKind.wrap IntKind.i64 (Int.tdiv a (r04_Page t p s))>p)) .t (.need (r04_Page t p s≠0) (.need (r04_Page t p s≠0) .t))))),fun _ _ _=>by kernel_rfl,⟨(by first|exact r06_ne|exact r06_ne2|exact r06_ne3|exact r06_ne2 (by assumption)|exact r06_ne3 (by assumption)),fun z1=>⟨(by first|exact r06_ne|exact r06_ne2|exact r06_ne3|exact r06_ne2 (by assumption)|exact r06_ne3 (by assumption)),fun z2=>⟨fun z3=>trivial,fun z3=>⟨(by first|exact r06_ne|exact r06_ne2|exact r06_ne3|exact r06_ne2 (by assumption)|exact r06_ne3 (by assumption)),fun z4=>⟨(by first|exact r06_ne|exact r06_ne2|exact r06_ne3|exact r06_ne2 (by assumption)|exact r06_ne3 (by assumption)),fun z5=>trivial⟩⟩⟩⟩⟩,rfl⟩
def T_r06_Page:Tb:=(77,e_r06_Page)::T_addr_Page
theorem T_r06_Page_ok:TOk T_r06_Page:=tc_ r06_Page_ok T_addr_Page_ok
def addr_first (t p s k n:Int):Int×Int×Bool:=(bif decide (n<0)||decide (n≥kSlots k) then (0,0,false) else (0,IntKind.wrap IntKind.i64 (n*class_Size s k),true))
abbrev c_addr_first:Ct Sg:=⟨none,false,[.agg [.i .i64, .i .i64, .i .i64], .i .i64, .i .i64], .tup [.agg [.i .i64, .i .i64], .b]⟩
def e_addr_first:Entry Sg:=entC c_addr_first addr_first (fun _ _ _ _ _=>[])
theorem addr_first_ok:EOk 75 e_addr_first:=
 ent_ok Dg T_r06_Page_ok (I:=[]) Tryz.func75 mix (B:=bodyOf Tryz.f75) (by kernel_rfl) rfl (by kernel_rfl) 400
  fun _ t p s k n hb hp=>⟨(addr_first t p s k n), .t,fun _ _ _=>by kernel_rfl,trivial,rfl⟩
def T_addr_first:Tb:=(75,e_addr_first)::T_r06_Page
theorem T_addr_first_ok:TOk T_addr_first:=tc_ addr_first_ok T_r06_Page_ok
def addr_At (t p s k pg n:Int):Int×Bool:=(bif !Prod.snd (Prod.snd (addr_first t p s k n)) then (0,false) else (Prod.fst (addr_Of t p s pg (Prod.fst (Prod.snd (addr_first t p s k n)))),Prod.snd (addr_Of t p s pg (Prod.fst (Prod.snd (addr_first t p s k n))))))
abbrev c_addr_At:Ct Sg:=⟨none,false,[.agg [.i .i64, .i .i64, .i .i64], .i .i64, .i .i64, .i .i64], .tup [.i .i64, .b]⟩
def e_addr_At:Entry Sg:=entC c_addr_At addr_At (fun _ _ _ _ _ _=>[])
theorem addr_At_ok:EOk 32 e_addr_At:=
 ent_ok Dg T_addr_first_ok (I:=[]) Tryz.func32 mix (B:=bodyOf Tryz.f32) (by kernel_rfl) rfl (by kernel_rfl) 400
  fun _ t p s k pg n hb hp=>⟨(addr_At t p s k pg n), .t,fun _ _ _=>by kernel_rfl,trivial,rfl⟩
def T_addr_At:Tb:=(32,e_addr_At)::T_addr_first
theorem T_addr_At_ok:TOk T_addr_At:=tc_ addr_At_ok T_addr_first_ok
def addr_Slot (t p s k off:Int):Int×Bool:=(bif class_Size s k==0||!spot_there 0 off t p s then (0,false) else (bif !Prod.snd (Prod.snd (addr_first t p s k (IntKind.wrap IntKind.i64 (Int.tdiv off (class_Size s k)))))||!(Prod.fst (addr_first t p s k (IntKind.wrap IntKind.i64 (Int.tdiv off (class_Size s k))))==0&&(Prod.fst (Prod.snd (addr_first t p s k (IntKind.wrap IntKind.i64 (Int.tdiv off (class_Size s k)))))==off&&true)) then (0,false) else (IntKind.wrap IntKind.i64 (Int.tdiv off (class_Size s k)),true)))
abbrev c_addr_Slot:Ct Sg:=⟨none,false,[.agg [.i .i64, .i .i64, .i .i64], .i .i64, .i .i64], .tup [.i .i64, .b]⟩
def e_addr_Slot:Entry Sg:=entC c_addr_Slot addr_Slot (fun _ _ _ _ _=>[])
theorem addr_Slot_ok:EOk 70 e_addr_Slot:=
 ent_ok Dg T_addr_At_ok (I:=[]) Tryz.func70 mix (B:=bodyOf Tryz.f70) (by kernel_rfl) rfl (by kernel_rfl) 400
  fun _ t p s k off hb hp=>⟨(addr_Slot t p s k off),(.br (class_Size s k==0||!spot_there 0 off t p s) .t (.need (class_Size s k≠0) .t)),fun _ _ _=>by kernel_rfl,⟨fun z1=>trivial,fun z1=>⟨(by exact need_Slot (by assumption)),fun z2=>trivial⟩⟩,rfl⟩
def T_addr_Slot:Tb:=(70,e_addr_Slot)::T_addr_At
theorem T_addr_Slot_ok:TOk T_addr_Slot:=tc_ addr_Slot_ok T_addr_At_ok
def r06_Slot (t p s k off:Int):Int×Bool:=bif !r04_Right t p s then (0,false) else ofOpt (firstP (r05_Slots k).toNat fun i=>off==IntKind.wrap IntKind.i64 ((i:Int)*r05_Size s k))
abbrev c_r06_Slot:Ct Sg:=⟨none,false,[.agg [.i .i64, .i .i64, .i .i64], .i .i64, .i .i64], .tup [.i .i64, .b]⟩
def e_r06_Slot:Entry Sg:=entC c_r06_Slot r06_Slot (fun _ _ _ _ _=>[])
def r06_Slot_w (t p s k off:Int) (Q0:Int→Prop) (R_:Int×Bool→Prop):Prop:=(bw_ (!r04_Right t p s) (R_ ((0,false))) (Q0 (0)))
def r06_Slot_w0 (t p s k off i:Int) (Q0:Int→Prop) (R_:Int×Bool→Prop):Prop:=(bw_ (decide (i<r05_Slots k)) (bw_ (off==IntKind.wrap IntKind.i64 (i*r05_Size s k)) (R_ ((i,true))) (Q0 (IntKind.wrap IntKind.i64 (i+1)))) (R_ ((0,false))))
def r06_Slot_I0 (t p s k off i:Int) (r_:Int×Bool):Prop:=0≤i∧i≤r05_Slots k∧r04_Right t p s=true∧(∀j:Nat,j<i.toNat→(off==IntKind.wrap IntKind.i64 ((j:Int)*r05_Size s k))=false)∧r_=r06_Slot t p s k off
abbrev r06_Slot_h0 (p0:Addr) (t p s k off:Int):Hd Sg:=⟨none,[0,1,0,1,1],[.blk 0, .code [1,1,1]],[8,3,1,2],[.i .i64, .box 23 [.ic .i64 (t), .ic .i64 (p), .ic .i64 (s)], .ic .i64 (k), .ic .i64 (off)]⟩
theorem r06_Slot_begin (t p s k off:Int):r06_Slot_w t p s k off (fun i'=>r06_Slot_I0 t p s k off i' (r06_Slot t p s k off)) (fun r__=>r__=(r06_Slot t p s k off)):=by
 unfold r06_Slot_w
 try unfold r06_Slot_I0
 refine ⟨fun h=>?_,fun h=>?_⟩
 ·simp only [r06_Slot,h,cond_true]
 ·have:=r05_slots_le k
  refine ⟨by omega,by omega,by simpa using h,fun j hj=>absurd hj (Nat.not_lt_zero j),rfl⟩
theorem r06_Slot_step0 (t p s k off i:Int) {r_:Int×Bool} (hI:r06_Slot_I0 t p s k off i r_):r06_Slot_w0 t p s k off i (fun i'=>r06_Slot_I0 t p s k off i' r_∧lx ((r05_Slots k-i').toNat,0,0) ((r05_Slots k-i).toNat,0,0)) (fun r__=>r__=r_):=by
 unfold r06_Slot_I0 at hI
 unfold r06_Slot_w0
 try unfold r06_Slot_I0
 obtain ⟨h0,h1,h2,h3,h4⟩:=hI
 have hs:=r05_slots_le k
 refine ⟨fun h=>⟨fun hg=>?_,fun hg=>?_⟩,fun h=>?_⟩
 ·show (i,true)=r_
  simp only [decide_eq_true_eq] at h
  have:=(firstP_some (n:=(r05_Slots k).toNat) (i:=i.toNat) (p:=fun i=>off==IntKind.wrap IntKind.i64 ((i:Int)*r05_Size s k))).2 ⟨by
   show (off==IntKind.wrap IntKind.i64 ((i.toNat:Int)*r05_Size s k))=true
   rw [Int.toNat_of_nonneg h0];exact hg,by omega,h3⟩
  rw [h4]
  simp only [r06_Slot,h2,this,Bool.not_true,cond_false,ofOpt]
  rw [Int.toNat_of_nonneg h0]
 ·simp only [decide_eq_true_eq] at h
  rw [w64 (by omega)]
  refine ⟨⟨by omega,by omega,h2,fun j hj=>?_,h4⟩,lxo_⟩
  by_cases hk:j=i.toNat
  ·subst hk;rw [Int.toNat_of_nonneg h0];exact hg
  ·exact h3 j (by omega)
 ·show ((0:Int),false)=r_
  simp only [decide_eq_false_iff_not] at h
  have:=(firstP_none (n:=(r05_Slots k).toNat) (p:=fun i=>off==IntKind.wrap IntKind.i64 ((i:Int)*r05_Size s k))).2 fun j hj=>h3 j (by omega)
  rw [h4]
  simp only [r06_Slot,h2,this,Bool.not_true,cond_false,ofOpt]
theorem r06_Slot_ok:EOk 78 e_r06_Slot:=
 ent_wp Dg T_addr_Slot_ok (I:=[411000000008,411000000003,411000000001,411000000002]) Tryz.func78 mix (B:=bodyOf Tryz.f78) (by kernel_rfl) rfl (by kernel_rfl) 400
  fun p0 t p s k off hb hp=>⟨[r06_Slot_h0 p0 t p s k off],fun j=>List.getD [appC (Hd.kd (r06_Slot_h0 p0 t p s k off)) (fun i'=>r06_Slot_I0 t p s k off i' (r06_Slot t p s k off))] j (fun _=>False),fun j=>List.getD [appC (Hd.kd (r06_Slot_h0 p0 t p s k off)) (fun i'=>((r05_Slots k-i').toNat,0,0))] j (fun _=>(0,0,0)),by kernel_rfl,⟨_,fun _ _ _=>by kernel_rfl,r06_Slot_begin t p s k off⟩,⟨fun i hI=>⟨_,fun _ _ _=>by kernel_rfl,r06_Slot_step0 t p s k off i hI⟩,trivial⟩⟩
def T_r06_Slot:Tb:=(78,e_r06_Slot)::T_addr_Slot
theorem T_r06_Slot_ok:TOk T_r06_Slot:=tc_ r06_Slot_ok T_addr_Slot_ok
end Go.Proofs.YtjfabjhlkpgckaaGreat
namespace Go.Proofs.YtjfabjhlkpgckaaGreat
open Go.Sl
def clone64 (xs:LI):LI:=(xs)
def clone64_out (r_:LI):List Value→Value:=fun ss=>ss.getD 0 undef
def clone64_nw (r_:LI):List (Chunk Sg):=[]
def clone64_rows (r_:LI):List (Mk Sg):=[.row 2 [.ints .i64 (r_)]]
section
variable (xs:LI) (a_0:Option Addr) (c_0:Nat)
def clone64_wp0 (xs:LI) (a_0:Option Addr) (c_0:Nat) (R_:LI→Prop):Prop:=(((Option.isNone a_0)=true→(R_ ([])))∧((Option.isNone a_0)=false→(∀b1_0:Nat,(((0+List.length xs)*8≤140737488355328)∧(((0+List.length xs)*8≤140737488355328)→(∀(b3_0:Option Nat) (b3_1:Nat),(R_ ([]++xs))))))))
theorem clone64_calls {E_:Ev} {G_:Hp} {w_:World} (hr0:RowAt G_ a_0 xs.length [.ints .i64 xs]∧xs.length≤c_0) (hp0:xs.length*16≤140737488355328) (hS:Sat E_ G_ w_ []):Calls Tryz.prog 68 #[(.slice a_0 xs.length c_0)] w_ (Post Dg E_ G_ (clone64_out (clone64 xs)) (clone64_nw (clone64 xs)) (clone64_rows (clone64 xs))):=by
 have h:clone64_wp0 xs a_0 c_0 (fun x=>x=(clone64 xs)):=by
  unfold clone64_wp0
  refine ⟨fun h=>?_,fun _ _=>⟨by simp only [Nat.zero_add];omega,fun _ _ _=>by simp [clone64]⟩⟩
  cases a_0 with
  |some b=>simp at h
  |none=>
   have hz:=row_none hr0.1
   have hx:xs=[]:=List.eq_nil_of_length_eq_zero hz
   subst hx
   rfl
 exact calls_post Dg T_r06_Slot_ok (I:=[]) Tryz.func68 mix (B:=bodyOf Tryz.f68) (by kernel_rfl) [(.slice a_0 xs.length c_0)] [.pt 0 .slice] (by kernel_rfl) (objs:=[]) (ros:=[.ro a_0 xs.length c_0 [.ints .i64 xs]]) (psOk_cons (pOk_at rfl rfl) (psOk_nil)) (by kernel_rfl) (⟨hr0,trivial⟩) hS 400
  (t:=Tree.br (Option.isNone a_0) (Tree.ret (Value.slice none 0 0) pn_ [Chunk.ro a_0 (List.length xs) c_0 [ci_ xs]]) (Tree.fresh fun b=>Tree.need ((0+List.length xs)*8≤140737488355328) (Tree.freshS fun a cap=>Tree.ret (vs_ (ob_ a) (0+List.length xs) cap) (ps_ 2) [Chunk.ro a_0 (List.length xs) c_0 [ci_ xs],Chunk.dead,kr_ a 2 (0+List.length xs) cap [ci_ ([]++xs)]])))
  (by kernel_rfl)
  (⟨fun z0=>RetOk.at (outf:=clone64_out) (nwf:=clone64_nw) (rowsf:=clone64_rows) (r:=[]) (h.1 z0) ⟨[(none,0,0,none)],[1000],(by decide),rfl,rfl,⟨.inr (by kernel_rfl),trivial⟩⟩,fun z0=>fun b1_0=>⟨((h.2 z0) b1_0).1,fun z2=>fun b3_0 b3_1=>RetOk.at (outf:=clone64_out) (nwf:=clone64_nw) (rowsf:=clone64_rows) (r:=[]++xs) ((((h.2 z0) b1_0).2 z2) b3_0 b3_1) ⟨[(b3_0,0+List.length xs,b3_1,none)],[2],(by decide),rfl,rfl,⟨.inl rfl,trivial⟩⟩⟩⟩)
end
def clone64_e:Entry Sg:=fun
 |[(_, .row n_0 [.ints .i64 xs])]=>some ⟨(clone64 xs),fun (r_:LI)=>⟨[(xs.length*16≤140737488355328:Prop)],none,[.row 2 [.ints .i64 (r_)]],fun ss=>ss.getD 0 undef,fun k_=> .pt k_ .slice⟩⟩
 |_=>none
theorem clone64_ok:EntryOk Dg Tryz.prog 68 clone64_e:=by
 intro args c r h hr_
 unfold clone64_e at h
 split at h
 ·injection h with h;subst h;subst hr_
  refine ⟨(by
  intro K acs hl
  match acs,hl with
  |[a0_],hl=>
   simp only [acsOk,acOk] at hl
   simp [pOk,psOk,cOk,sliceC,sliceV,sliceVal,lenC,Col.len,fzB,Col.isFz]),fun hpre E G w hi hS=>?_⟩
  have hi_0:=hi _ (List.mem_of_getElem? (i:=0) rfl)
  simp only [iOk,isOk,and_true,true_and] at hi_0
  obtain ⟨a_0,c_0,e_0,hr0⟩:=hi_0
  replace hr0:=And.intro hr0.1 hr0.2.1
  have l_0:=hr0.1.len
  simp only [Col.len] at l_0
  subst l_0
  subst e_0
  exact entry_post Dg (by exact rfl) (clone64_calls _ _ _ hr0 (hpre _ (by simp)) hS)
 ·cases h
def T_clone64:List (Nat×Entry Sg):=(68,clone64_e)::T_r06_Slot
theorem T_clone64_ok:TableOk Dg Tryz.prog T_clone64:=TableOk.cons Dg clone64_ok T_r06_Slot_ok
theorem fz_ints {G:Hp} {a:Option Addr} {n:Nat} {xs:LI} (h:RowAt G a n [.fz xs]):RowAt G a n [.ints .i64 xs]:=by
 refine ⟨fun c hc=>?_,fun i hi=>?_,h.2.2⟩
 ·rw [List.mem_singleton.1 hc];exact h.1 (.fz xs) (by simp)
 ·obtain ⟨b,hb,hc⟩:=h.2.1 i hi
  refine ⟨b,hb,fun j c hj=>?_⟩
  cases j with
  |zero=>
   simp only [List.getElem?_cons_zero,Option.some.injEq] at hj
   subst hj
   exact hc 0 (.fz xs) rfl
  |succ j=>simp at hj
def cl64_e:Entry Sg:=fun
 |[(v, .row n [.fz xs])]=>clone64_e [(v, .row n [.ints .i64 xs])]
 |args=>clone64_e args
theorem cl64_ok:EntryOk Dg Tryz.prog 68 cl64_e:=by
 intro args c r h hr
 unfold cl64_e at h
 split at h
 ·rename_i v n xs
  have h1:=clone64_ok _ c r h hr
  refine ⟨h1.1,fun hp E G w hi hS=>?_⟩
  have h2:=h1.2 hp E G w (fun x hx=>?_) (by simpa [objAs,objOf,objsOf,objsV] using hS)
  ·simpa [newAs,objOf,objsOf,objsV] using h2
  ·rw [List.mem_singleton.1 hx]
   have h3:=hi _ (.head _)
   simp only [iOk] at h3 ⊢
   obtain ⟨a,cap,e,h4,h5,_⟩:=h3
   exact ⟨a,cap,e,fz_ints h4,h5,fun h=>by cases h⟩
 ·exact clone64_ok _ c r h hr
def T_cl64:List (Nat×Entry Sg):=(68,cl64_e)::T_clone64
theorem T_cl64_ok:TableOk Dg Tryz.prog T_cl64:=TableOk.cons Dg cl64_ok T_clone64_ok
end Go.Proofs.YtjfabjhlkpgckaaGreat
namespace Go.Sl
open Go.RowKit
variable {σ:Type} (D:Addr→σ→Asn)
theorem ent_ofF {c:Ct σ} {mk:List (Cm σ)→List Nat} {P:Program} {T:List (Nat×Entry σ)} (hT:TableOk D P T) {I:List Nat} {f:FuncId} {fn:Func} {B:Code} (hfn:P.funcs[f]? =some fn) (hmix:P.follows .mixedOrders=true) (hB:fn.body=some B)
 (ha:isArgs c.ash=true) (hl:Nat.ble c.full.length fn.ntmps=true) {F:Cur c.AK (Ty c.RK)} {pre:Cur c.AK (List Prop)} (fuel:Nat)
 (H:∀p0,AllC c.AK fun cs=>bds c.full cs→(∀p∈appC c.AK pre cs,p)→∀ad E G,(c.treeM (mk cs) P T I fuel fn B p0 cs ad).holds (RetOk (c.outC (appC c.AK F cs)) (c.nwC p0 cs (appC c.AK F cs)) (c.mksC (appC c.AK F cs)))
   (SW D P f (Post D E G (c.outC (appC c.AK F cs)) (c.nwC p0 cs (appC c.AK F cs)) (c.mksC (appC c.AK F cs))) B fn.ntmps E G)):EntryOk D P f (entC c F pre):=by
 intro args d r hd hr
 unfold entC at hd
 split at hd
 rotate_left
 ·cases hd
 rename_i cs hcs
 injection hd with hd;subst hd;subst hr
 refine ⟨fun K acs hacs=>?_,fun hpre E G w hi hS=>?_⟩
 ·have:=Sh.outp_ok c.rs (restC c.rob (toCm c.RK (appC c.AK F cs))) K [] [] acs hacs
  simp only [List.append_nil] at this
  exact this
 dsimp only at hpre hS ⊢
 unfold argsC at hcs
 cases hob:c.ob with
 |none=>
  rw [hob] at hcs
  dsimp only at hcs
  have hfull:c.full=c.ash:=by unfold Ct.full;rw [hob];rfl
  have hiv:isOk G E.z (args.map (·.1)) (args.map (·.2)):=by
   clear hcs hpre hS
   induction args with
   |nil=>simp [isOk]
   |cons x xs ih=>simp only [List.map_cons,isOk];exact ⟨hi x (by simp),ih fun y hy=>hi y (by simp [hy])⟩
  obtain ⟨h1,h2,h3,h4,h5,adl,h6,h7⟩:=dAs_ok (G:=G) (Z:=E.z) c.ash (fun s _=>Sh.dA_ok s) _ _ _ ha hcs hiv
  have hH:=(H (adF adl 0).p).at cs (by unfold Ct.AK;rw [hfull];exact h1) (by rw [hfull];have:=h5 [];simpa using this) hpre (adF adl) E G
  have hadP:adP (adF adl 0).p (adF adl)=adF adl:=by funext j;cases j<;>rfl
  obtain ⟨g1,g2⟩:=h7 (adF adl) 0 0 [] (fun m a hm=>by simp [adF,List.getD_eq_getElem?_getD,hm])
  simp only [List.append_nil] at g1 g2
  obtain ⟨k1,k2,k3⟩:=tps_ok (adF adl) c.ash 0 0 cs ha
  have hobjs:objsOf args=[]:=by
   have:List.zip (args.map (·.1)) (args.map (·.2))=args:=by rw [List.zip_map'];simp
   rw [this] at h4;exact h4
  have hS0:SatK D E G w ([]:List (Chunk σ)):=by have:=hS;simp only [objAs,objOf,hobjs] at this;exact this
  unfold Ct.treeM at hH
  rw [hadP,hfull] at hH
  have hn:c.nwC (adF adl 0).p cs (appC c.AK F cs)=[]:=by unfold Ct.nwC;rw [hob]
  rw [hn] at hH
  have:=calls_postM D (mk:=mk cs) hT (I:=I) hfn hmix hB (tpV (tps (adF adl) c.ash 0 0 cs)) (tpP (tps (adF adl) c.ash 0 0 cs)) (by rw [tpV_len];rw [hfull] at hl;exact hl) (objs:=[]) (ros:=tpK (tps (adF adl) c.ash 0 0 cs)) (by simpa using k3 [] [] rfl) (by simpa using k2) g2 hS0
   (out:=c.outC (appC c.AK F cs)) (nw:=[]) (rows:=c.mksC (appC c.AK F cs)) fuel rfl (by rw [←tpC_zip];simpa using hH)
  rw [g1] at this
  exact entry_post D (pre:=appC c.AK pre cs) (outp:=c.rs.outp) (by simp [newAs,objOf,hobjs]) this
 |some wr=>
  rw [hob] at hcs
  dsimp only at hcs
  split at hcs
  rotate_left
  ·cases hcs
  rename_i p s rs
  cases his:wr.is s with
  |false=>rw [his] at hcs;cases hcs
  |true=>
   rw [his] at hcs
   simp only [cond_true] at hcs
   split at hcs
   rotate_left
   ·cases hcs
   rename_i cs' hcs'
   injection hcs with hcs;subst hcs
   have hfull:c.full= .obj wr::c.ash:=by unfold Ct.full;rw [hob];rfl
   have hiv:isOk G E.z (rs.map (·.1)) (rs.map (·.2)):=by
    have hi':∀x∈rs,iOk G E.z x.1 x.2:=fun x hx=>hi x (by simp [hx])
    clear hcs' hpre hS hi
    induction rs with
    |nil=>simp [isOk]
    |cons x xs ih=>simp only [List.map_cons,isOk];exact ⟨hi' x (by simp),ih fun y hy=>hi' y (by simp [hy])⟩
   obtain ⟨h1,h2,h3,h4,h5,adl,h6,h7⟩:=dAs_ok (G:=G) (Z:=E.z) c.ash (fun s _=>Sh.dA_ok s) _ _ _ ha hcs' hiv
   have hH:=(H p).at (.st s::cs') (by unfold Ct.AK;rw [hfull];simp only [kds,Sh.kd,List.cons_append,List.nil_append,fitsC,Kd.fits,his,h1];rfl) (by
    rw [hfull]
    refine ⟨trivial,?_⟩
    have:=h5 []
    simpa [Sh.nC] using this) hpre (fun j=>adF adl (j-1)) E G
   have had:∀(m:Nat) a,adl[m]? =some a→adP p (fun j=>adF adl (j-1)) (1+m)=a:=fun m a hm=>by
    rw [Nat.add_comm];simp [adP,adF,List.getD_eq_getElem?_getD,hm]
   obtain ⟨g1,g2⟩:=h7 (adP p (fun j=>adF adl (j-1))) 1 1 [] had
   simp only [List.append_nil] at g1 g2
   obtain ⟨k1,k2,k3⟩:=tps_ok (adP p (fun j=>adF adl (j-1))) c.ash 1 1 cs' ha
   have hinj:wr.inj (wr.prj s)=s:=wr.ok s his
   have htp:tps (adP p (fun j=>adF adl (j-1))) c.full 0 0 (.st s::cs')=⟨.pointer (some p), .pt 0 .obj,[.obj p s]⟩::tps (adP p (fun j=>adF adl (j-1))) c.ash 1 1 cs':=by
    rw [hfull]
    simp only [tps,Sh.tp,Sh.nK,Sh.nA,Sh.nC,List.headD_cons,Cm.stOf,hinj,List.drop_succ_cons,List.drop_zero,Nat.zero_add]
    rfl
   have hobjs:objsOf ((Value.pointer (some p),Info.obj s)::rs)=[(p,s)]:=by
    have:List.zip (rs.map (·.1)) (rs.map (·.2))=rs:=by rw [List.zip_map'];simp
    rw [this] at h4;simp [objsOf,objsV,h4]
   have hS0:SatK D E G w [Chunk.obj p s]:=by simpa [objAs,objOf,hobjs,SatK,den] using hS
   unfold Ct.treeM at hH
   rw [htp] at hH
   have:=calls_postM D (mk:=mk (.st s::cs')) hT (I:=I) hfn hmix hB (.pointer (some p)::tpV (tps (adP p (fun j=>adF adl (j-1))) c.ash 1 1 cs')) (.pt 0 .obj::tpP (tps (adP p (fun j=>adF adl (j-1))) c.ash 1 1 cs')) (by simp only [List.length_cons,tpV_len];rw [hfull] at hl;exact hl) (objs:=[.obj p s]) (ros:=tpK (tps (adP p (fun j=>adF adl (j-1))) c.ash 1 1 cs'))
    (psOk_cons (pOk_pt.2 ⟨.obj p s,rfl,rfl⟩) (by simpa using k3 [.obj p s] [] rfl)) (noCells_app (a:=[.obj p s]) rfl k2) g2 hS0
    (out:=c.outC (appC c.AK F (.st s::cs'))) (nw:=c.nwC p (.st s::cs') (appC c.AK F (.st s::cs'))) (rows:=c.mksC (appC c.AK F (.st s::cs'))) fuel rfl (by
      simp only [tpC,tpK,List.cons_append,List.nil_append] at hH
      rw [tpC_zip] at hH
      exact hH)
   rw [g1] at this
   have hn:(c.nwC p (.st s::cs') (appC c.AK F (.st s::cs'))).map (den D G)=newAs D ((Value.pointer (some p),Info.obj s)::rs) (newC c.rob (toCm c.RK (appC c.AK F (.st s::cs')))):=by
    unfold newAs objOf
    rw [hobjs]
    unfold Ct.nwC
    rw [hob]
    dsimp only
    cases hpu:c.pu with
    |true=>
     have:c.rob=none:=by unfold Ct.rob;rw [hpu];rfl
     rw [this]
     simp only [cond_true,List.headD_cons,Cm.stOf,hinj,List.map_cons,List.map_nil,den,newC,Option.getD_none]
    |false=>
     have:c.rob=some wr:=by unfold Ct.rob;rw [hpu,hob];rfl
     rw [this]
     simp only [cond_false,List.map_cons,List.map_nil,den,newC,Option.getD_some]
   exact entry_post D (pre:=appC c.AK pre (.st s::cs')) (outp:=c.rs.outp) hn this
theorem ent_wmF {c:Ct σ} (mk:List (Cm σ)→List Nat) {P:Program} {T:List (Nat×Entry σ)} (hT:TableOk D P T) {I:List Nat} {f:FuncId} {fn:Func} {B:Code} (hfn:P.funcs[f]? =some fn) (hmix:P.follows .mixedOrders=true) (hB:fn.body=some B)
 (ha:isArgs c.ash=true) (hl:Nat.ble c.full.length fn.ntmps=true) {F:Cur c.AK (Ty c.RK)} {pre:Cur c.AK (List Prop)} (fuel:Nat)
 (H:∀p0,AllC c.AK fun cs=>bds c.full cs→(∀p∈appC c.AK pre cs,p)→∃W:Prop,(∀ad β γ,c.lhsW p0 cs [] (fun r=>r=appC c.AK F cs) (fun _ _=>False) (c.treeM (mk cs) P T I fuel fn B p0 cs ad) β γ=c.rhsW p0 cs [] (c.treeM (mk cs) P T I fuel fn B p0 cs ad) W β γ)∧W):EntryOk D P f (entC c F pre):=by
 refine ent_ofF D (mk:=mk) hT (I:=I) hfn hmix hB ha hl fuel fun p0=>?_
 have key:∀{ks:List (Kd σ)} {p q:List (Cm σ)→Prop},(∀cs,p cs→q cs)→AllC ks p→AllC ks q:=by
  intro ks
  induction ks with
  |nil=>exact fun h hp=>h [] hp
  |cons k ks ih=>exact fun h hp a=>ih (fun cs=>h _) (hp a)
 refine key (fun cs hH hb hp ad E G=>?_) (H p0)
 obtain ⟨W,hW,hW'⟩:=hH hb hp
 exact wp_tree D (hW ad) hW' rfl fun j h hg=>by simp at hg
def kMk (i:Nat) (a b:List Nat) (cs:List (Cm σ)):List Nat:=match cs.getD i (.b false) with
 | .i (.negSucc _)=>b
 |_=>a
end Go.Sl
