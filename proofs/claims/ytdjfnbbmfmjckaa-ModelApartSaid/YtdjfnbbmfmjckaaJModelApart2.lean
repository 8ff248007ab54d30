/-
  DERIVED. Part 2 of the texts of this claim.
-/
import Derived.Test.YtdjfnbbmfmjckaaJModelApart1
import Derived.Maps.AppendAt
import Derived.ProofKit
import Derived.Lib.SmallJoins
import Derived.Deep.Slices
import Derived.OpenShut
import Derived.Shelf.SlSortCmp.WholeK
import Derived.Test.YtdjfnbbmfmjckaaProg
set_option linter.unusedSimpArgs false
set_option linter.unusedVariables false
open Option.some renaming injEq → iA
open List renaming map_cons → iC, getD_eq_getElem?_getD → iD, mem_cons → iE, getElem?_append_left → iH, getElem?_append_right → iI, getElem?_map → iK, getElem?_eq_getElem → iO, getElem?_set_self → iS, mem_of_getElem? → iU, length → iV, getElem?_set_ne → iW, zipWith → jA, map_append → jE, getElem?_eq_none → jF, getElem?_cons_zero → jH, length_cons → jI, mem_singleton → jM, all_eq_true → jN, append_assoc → jO, length_append → jP, getElem?_concat_length → jQ, map_set → jR, cons_append → jU, range → jX, map_nil → jZ, length_map → kD, zipWith_cons_cons → kF, mem_map → kG, getElem?_cons_succ → kH, headD_cons → kI, getElem?_take → kJ, getElem?_of_mem → kP, mem_range → kT, ext_getElem? → kV, tail_cons → kY, any_eq_true → lA, map_map → lB, append_nil → lF, zip → lI, nodup_cons → lJ, getElem?_drop → lL, map_congr_left → lN, length_singleton → lQ, mem_filter → lY, singleton_append → mE, length_nil → mI, mem_append_left → mM, drop_succ_cons → mQ, nodup_range → mR, drop_zero → mT, zip_cons_cons → mX, reverse_singleton → mY, nil_append → nB, getElem?_toArray → nE, headD_nil → nF, map_toArray → nI, getElem?_range → nO, tail_nil → nQ
open Nat renaming eq_of_beq_eq_true → iF, beq → iJ, le_of_ble_eq_true → iP, lt_or_ge → jC, ble → jS, le_refl → kC, mul_le_mul_right → kM, not_lt_zero → kX, zero_add → lH, mod_lt → lX, blt → lZ, eq_zero_or_pos → mD, succ_mul → mL, add_assoc → mP, mul_comm → nG, beq_refl → nH, strongRecOn → nT, zero_le → nU, sub_self → nW, le_trans → nX, add_zero → nY
open Bool renaming and_eq_true → iG, not_true → jW, false_eq_true → kK, false_or → kN, not_eq_true' → lC, true_or → lV, eq_iff_iff → mJ, and_self → nR, and_false → oB, true_and → oG
open Prod.mk renaming injEq → iM
open Go.Sem renaming run_bind → iQ, run_pure → iY
open Option renaming map_some → iR, getD_some → lG, map_none → mZ
open Go.Region renaming ready → iT, wanted → iZ, lexB → nV
open Go.Value renaming pointer → kB
open Array renaming getD_eq_getD_getElem? → jB, getElem?_eq_getElem → jJ, getElem?_eq_none → kA, getElem?_setIfInBounds → kO, length_toList → lO, toList_map → lT, replicate → mK, toArray_toList → mO
open Go.Sl.Chunk renaming cells → jG, obj → kL, bm → kQ, row → kU
open Go.Region.linearise renaming go → jL
open List.cons renaming injEq → jV
open Go.Sl.Pr renaming pt → kZ
namespace Go.Sl
section
open Go.RowKit
variable {σ:Type} (D:Addr→σ→BN)
section
variable {P:Program} {f:Fq} {R:Ending→World→Prop} {n:Nat} {E:Ev} {G:Hp} {L:List Af} {K:List (Chunk σ)} {o:Oper} {a:Act} {w:World}
theorem Ur (hF:Fr n L K a):∀(parts:List (Nat×Operand)) (vals:List (Nat×Value)),LD L parts=some vals→(parts.map λx=>(x.1,a.eval x.2))=vals
 |[],vals,h=>by simp only [LD,iA] at h;subst h;rfl
 |(i,x)::r,vals,h=>by
  simp only [LD] at h
  split at h
  ·rename_i v vs hv hr
   injection h with h;subst h
   simp only [iC]
   rw [Au (g:=none) hF trivial hv,Ur hF r vs hr]
  ·cases h
theorem YZ {t e:TypeId} {len sz:Nat} {parts:Array (Nat×Value)} {ei:TypeInfo} {z:Value} {cells:Array Value} (hu:P.underlying t=some (.slice e)) (hs:Dz P e=some sz) (hi:P.info? e=some ei) (hz:ei.zero=some z) (hb:len*sz≤16777216)
 (hf:Instr.fill (λi=>some (i*sz,sz)) ((Array.range (len*sz)).map ((bif iJ (len*sz) 0 then #[] else z.cells)[· %(bif iJ (len*sz) 0 then #[] else z.cells).size]!)) parts.toList=some cells):
 (Instr.buildSlice t len parts).run P w= .ok (.slice (some ⟨w.heap.size,0,none⟩) len len) (w.alloc (.cells cells e)):=by
 unfold Instr.buildSlice
 have n1:¬(len*sz>2^24):=by omega
 simp only [iQ,run_underlying hu,Result.andThen_ok,E5 hs,n1,if_false]
 cases hq:iJ (len*sz) 0 with
 |true=>
  rw [hq] at hf
  rw [if_pos (iF hq)]
  simp only [iQ,iY,Result.andThen_ok]
  simp only [cond_true] at hf
  rw [hf]
  simp [newRow]
 |false=>
  rw [hq] at hf
  rw [if_neg (λh=>by rw [h] at hq;simp at hq)]
  simp only [iQ,zeroValue,typeInfo,run_program,Result.andThen_ok,hi,hz,iY]
  simp only [cond_false] at hf
  rw [hf]
  simp [newRow]
theorem Ai9 {cols cols':List Ak} {len i off m:Nat} {vs cur:List Value} (hi:i<len) (hl:cols'.length=cols.length) (hm:vs.length=m) (hfit:off+m≤cols.length) (hcl:len*cols.length≤cur.length) (hcur:cur.take (len*cols.length)=flat cols len)
 (hset:∀(j:Nat) (c':Ak),cols'[j]? =some c'→∃c,cols[j]? =some c∧∀m',c'.at m'=if m'=i∧off≤j∧j<off+vs.length then vs.getD (j-off) undef else c.at m'):
 (cur.take (i*cols.length+off)++vs++cur.drop (i*cols.length+off+m)).take (len*cols.length)=flat cols' len:=by
 have hi1:i*cols.length+cols.length≤len*cols.length:=by
  have:(i+1)*cols.length≤len*cols.length:=kM _ hi
  rw [mL] at this;exact this
 apply kV
 intro k
 by_cases hk:k<len*cols.length
 ·have hs:0<cols.length:=by
   rcases mD cols.length with h|h
   ·rw [h] at hk;simp at hk
   ·exact h
  have hkd:k=k/cols.length*cols.length+k%cols.length:=by rw [nG];exact (Nat.div_add_mod k cols.length).symm
  have hj:k%cols.length<cols.length:=lX _ hs
  have hi':k/cols.length<len:=Nat.div_lt_of_lt_mul (by rw [nG];exact hk)
  generalize k/cols.length=i' at*
  generalize k%cols.length=j at*
  subst hkd
  obtain ⟨c2,hc'⟩:∃c2,cols'[j]? =some c2:=⟨_,iO (by omega)⟩
  obtain ⟨c,hc,hat⟩:=hset j _ hc'
  have hold:=flat_get hi' hc
  rw [←hcur,kJ,if_pos hk] at hold
  have hnew:=flat_get hi' hc'
  rw [hl] at hnew
  rw [hnew,hat i',kJ,if_pos hk]
  rcases Nat.lt_trichotomy i' i with h|h|h
  ·have:(i'+1)*cols.length≤i*cols.length:=kM _ h
   rw [mL] at this
   rw [if_neg (by omega),jO,iH (by simp;omega),kJ,if_pos (by omega)]
   exact hold
  ·subst h
   by_cases hin:off≤j∧j<off+m
   ·rw [if_pos ⟨rfl,hin.1,by omega⟩,jO,iI (by simp;omega),iH (by simp;omega)]
    simp only [List.length_take]
    rw [show i'*cols.length+j-min (i'*cols.length+off) cur.length=j-off by omega,iD,iO (by omega:j-off<vs.length)]
    rfl
   ·rw [if_neg (by intro h;exact hin ⟨h.2.1,by omega⟩)]
    by_cases hlt:j<off
    ·rw [jO,iH (by simp;omega),kJ,if_pos (by omega)]
     exact hold
    ·rw [iI (by simp;omega),lL]
     simp only [jP,List.length_take]
     rw [show i'*cols.length+off+m+(i'*cols.length+j-(min (i'*cols.length+off) cur.length+vs.length))=i'*cols.length+j by omega]
     exact hold
  ·have:(i+1)*cols.length≤i'*cols.length:=kM _ h
   rw [mL] at this
   rw [if_neg (by omega),iI (by simp;omega),lL]
   simp only [jP,List.length_take]
   rw [show i*cols.length+off+m+(i'*cols.length+j-(min (i*cols.length+off) cur.length+vs.length))=i'*cols.length+j by omega]
   exact hold
 ·rw [jF (by simp;omega),jF (by rw [ET,hl];omega)]
theorem AiA {G Y h:Hp} {b:Nat} {t:TypeId} {m cap:Nat} {cols:List Ak} {cells:Array Value} (hh:h b=some (.cells cells t (0,0))) (h1:∀c∈cols,c.len=m) (h2:0<cols.length) (h3:m≤cap) (h4:cap≤maxLen) (h5:cells.size=cap*cols.length)
 (h6:cells.toList.take (m*cols.length)=flat cols m):den D G (.row (some b) t m cap cols) Y h:=⟨h1,h2,cells,hh,h3,h4,h5,h6⟩
theorem Ae.Aa1 {b:Nat} {t:TypeId} {m cap:Nat} {cols:List Ak} {cells:Array Value} (hS:Ae D E G w K) (hb:b=w.heap.size) (h1:∀c∈cols,c.len=m) (h2:0<cols.length) (h3:m≤cap) (h4:cap≤maxLen) (h5:cells.size=cap*cols.length)
 (h6:cells.toList.take (m*cols.length)=flat cols m):Ae D E G (w.alloc (.cells cells t)) (K++[.row (some b) t m cap cols]):=by
 have:=Sat.alloc hS (.cells cells t)
 unfold Ae
 rw [jE]
 refine this.imp λi B hB=>?_
 rcases jC i (K.map (den D G)).length with hl|hl
 ·rw [iH hl] at hB
  exact ⟨B,by rw [iH hl];exact hB, λ_ _ h=>h⟩
 ·rw [iI hl] at hB
  have hz:i-(K.map (den D G)).length=0:=by have:=Bv hB;simp only [iC,jZ,lQ] at this;omega
  rw [hz] at hB
  simp only [iC,jZ,jH,iA] at hB
  refine ⟨pt w.heap.size (.cells cells t),?_,?_⟩
  ·rw [iI hl,hz];rfl
  ·subst hB
   intro Y p hp
   subst hb
   exact AiA D hp h1 h2 h3 h4 h5 h6
theorem CP.row {b:Option Nat} {t:TypeId} {m cap:Nat} {cols:List Ak} (h:CP K):CP (K++[.row b t m cap cols]):=
 h.append λb t cs hm=>by simp at hm
theorem H9 {R':Value→Pr→List (Chunk σ)→Prop} {S':List Ab→List Af→List (Chunk σ)→Prop}:∀{rows:List (Mk σ)} {k:List (Option Nat×Nat)→Tree σ},(JW rows k).holds R' S'→∀acs,Fe rows acs→(k acs).holds R' S'
 |[],k,h,[],_=>h
 |[],k,h,_::_,hl=>hl.elim
 |_::_,k,h,[],hl=>by simp [Fe] at hl
 | .row _ _::rs,k,h,(x,y)::acs,hl=>H9 (h x y) acs hl.2
 | .obj _::rs,k,h,(x,y)::acs,hl=>by
   obtain ⟨⟨b,hb⟩,hl2⟩:=hl
   injection hb with h1 h2
   subst h1;subst h2
   exact H9 (h b) acs hl2
theorem PI (rows:List (Mk σ)) (acs:List (Option Nat×Nat)):∀b t cs,jG (σ:=σ) b t cs ∉ jA Dq rows acs:= λb t cs hm=>by
 obtain ⟨i,hi⟩:=kP hm
 rw [List.getElem?_zipWith] at hi
 cases h1:rows[i]? with
 |none=>simp [h1] at hi
 |some r=>
  cases h2:acs[i]? with
  |none=>simp [h1,h2] at hi
  |some ac=>
   obtain ⟨x,y⟩:=ac
   cases r with
   |row t cols=>cases hf:D8 cols<;>simp [h1,h2,Dq,hf] at hi
   |obj s=>cases x<;>simp [h1,h2,Dq] at hi
theorem WQ (t ty e:TypeId) (i:TypeInfo) (ht:P.underlying t=some (.slice e)) (hi:P.info? e=some i) (base:Option Addr) (n cap c:Nat) (hn:n≤cap):
 (Builtin.append_ #[t,t] ty #[.slice base n cap, .slice none 0 c]).run P w= .ok (.slice base n cap) w:=by
 cases base<;>simp [Builtin.append_,run_underlying ht,sizeOf,typeInfo,hi,Builtin.lenOf,Builtin.firstCells,hn,storeCells]
theorem AjM {h:Hp} {a:Option Addr} {m:Nat} {cols:List Ak} (hR:Dl h a m cols) {b:Addr} (ha:a=some b):∀(j:Nat) u,(flat cols m)[j]? =some u→cellOf h (b.add j)=some u:=by
 intro j u hj
 have hjl:=Bv hj
 rw [ET] at hjl
 have hs:0<cols.length:=by
  rcases mD cols.length with h0|h0
  ·rw [h0] at hjl;simp at hjl
  ·exact h0
 have hkd:j=j/cols.length*cols.length+j%cols.length:=by rw [nG];exact (Nat.div_add_mod j cols.length).symm
 have hjm:j%cols.length<cols.length:=lX _ hs
 have hi':j/cols.length<m:=Nat.div_lt_of_lt_mul (by rw [nG];exact hjl)
 obtain ⟨c2,hc2⟩:∃c2,cols[j%cols.length]? =some c2:=⟨_,iO hjm⟩
 have hg:=flat_get hi' hc2
 rw [←hkd,hj] at hg
 injection hg with hg
 obtain ⟨b',hb',hcell⟩:=hR.2.1 _ hi'
 rw [ha] at hb';injection hb' with hb';subst hb'
 have:=hcell _ _ hc2
 rw [←hkd] at this
 rw [this,hg]
theorem AeC (hF:Fr n L K a) (hS:Ae D E G w K) {s x:Operand} {t e ty:TypeId} {ei:TypeInfo} {z:Value} {kd:Option Nat} {len m ks:Nat} {cols cols2 cols':List Ak} (hu:P.underlying t=some (.slice e)) (hei:P.info? e=some ei) (hz:ei.zero=some z)
 (hd:Oa P L K e s=some (kd,len,cols)) (hs:Acx L K x=some (ks,m,cols2)) (hne:neK kd ks=true) (happ:IX cols cols2=some cols') (q1:ei.size=cols.length) (q1':ei.size=cols2.length) (q2:1≤ei.size) (q3:1≤ei.bytes) (q4:z.cells.size=ei.size) (q5:cols2.all Acw=true)
 (hbytes:(len+m)*ei.bytes≤140737488355328):
 ∃a' cap w',(Builtin.append_ #[t,t] ty #[a.eval s,a.eval x]).run P w= .ok (Ba a' (len+m) cap) w'∧Ae D E G w' (IP K kd++[.row a' e (len+m) cap cols']):=by
 have hpx:=Bh (x:=x) (g:=none) hF trivial
 have hps:=Bh (x:=s) (g:=none) hF trivial
 have hlm:len+m≤maxLen:=by
  have:(len+m)*1≤(len+m)*ei.bytes:=Nat.mul_le_mul_left _ q3
  unfold maxLen;omega
 obtain ⟨ad,c,hex,hR⟩:∃ad c,a.eval x= .slice ad m c∧(∃p:Hp,p.sub w∧Dl p ad m cols2):=by
  unfold Acx at hs
  split at hs
  ·rename_i b0 n0 c0 k hv hp
   rw [hp,Bf] at hpx
   obtain ⟨ch,hk,hc⟩:=hpx
   split at hs
   ·rename_i a1 t1 n1 cap1 cols1 hk'
    rw [hk'] at hk;injection hk with hk;subst hk
    simp only [iA,iM] at hs
    obtain ⟨rfl,rfl,rfl⟩:=hs
    obtain ⟨_,p,_,hp,hsub⟩:=hS.get D hk'
    exact ⟨_,_,hc,p,hsub,TG D hp⟩
   ·rename_i a1 n1 cap1 cols1 hk'
    rw [hk'] at hk;injection hk with hk;subst hk
    simp only [iA,iM] at hs
    obtain ⟨rfl,rfl,rfl⟩:=hs
    obtain ⟨Y,p,hy,hp,_⟩:=hS.get D hk'
    exact ⟨_,_,hc,_,AgX hy hS.G,hp.1⟩
   ·cases hs
  ·cases hs
 obtain ⟨p2,hsub2,hR2⟩:=hR
 have hnews:∀b,ad=some b→∀(j:Nat) u,(flat cols2 m)[j]? =some u→w.cell? (b.add j)=some u:= λb hb j u hj=>NE hsub2 (AjM hR2 hb j u hj)
 obtain ⟨a1,cap1,hes,hcl,hc0,hown,hkk,hrow⟩:∃a1 cap1,a.eval s=Ba a1 len cap1∧(∀c∈cols,c.len=len)∧len≤cap1∧w.ownsRow 0 e ei.size (Ba a1 len cap1) len (flat cols len)∧
  (∀k,kd=some k→∃t1,K[k]? =some (.row a1 t1 len cap1 cols))∧(∀g,a1=some g→∃k,kd=some k):=by
  unfold Oa at hd
  split at hd
  ·rename_i hp hv
   split at hd
   ·rename_i cols0 hcols
    simp only [iA,iM] at hd
    obtain ⟨rfl,rfl,rfl⟩:=hd
    refine ⟨none,0,Au (g:=none) hF trivial hv,JZ 4 e _ hcols,kC _,?_,(λk hk=>by cases hk),(λg hg=>by cases hg)⟩
    exact World.ownsRow_nil w 0 e ei.size
   ·cases hd
  ·rename_i k b0 n0 c0 hp hv
   rw [hp,Bf] at hps
   obtain ⟨ch,hk,hc⟩:=hps
   split at hd
   ·rename_i a1 t1 n1 cap1 cols1 hk'
    rw [hk'] at hk;injection hk with hk;subst hk
    cases hte:iJ t1 e with
    |false=>rw [hte] at hd;simp at hd
    |true=>
     rw [hte] at hd
     simp only [cond_true,iA,iM] at hd
     obtain ⟨rfl,rfl,rfl⟩:=hd
     have hte':=iF hte
     subst hte'
     obtain ⟨_,p,_,hp,hsub⟩:=hS.get D hk'
     obtain ⟨d1,d2,d3⟩:=hp
     refine ⟨a1,cap1,hc,d1,?_,?_,(λk' hk''=>by injection hk'' with e';subst e';exact ⟨_,hk'⟩), λg _=>⟨_,rfl⟩⟩
     ·cases a1 with
      |none=>simp only at d3;omega
      |some g=>obtain ⟨_,_,h,_⟩:=d3;exact h
     ·cases a1 with
      |none=>
       obtain ⟨rfl,rfl⟩:=d3
       exact World.ownsRow_nil w 0 t1 ei.size
      |some g=>
       obtain ⟨cur,e1,e2,e3,e4,e5⟩:=d3
       exact ⟨by rw [ET,q1], .inr ⟨g,cap1,cur,rfl,nU _,hsub _ _ e1,e2,e3,by rw [q1];exact e4,by rw [q1];exact e5⟩⟩
   ·cases hd
  ·cases hd
 obtain ⟨f1,f2,f3,f4,f5⟩:=QJ happ hcl hR2.1
 have hflat:flat cols' (len+m)=flat cols len++flat cols2 m:=Un f4 f5
 have close:∀(a':Option Nat) (cap:Nat) (w':World),w'.ownsRow 0 e ei.size (Ba a' (len+m) cap) (len+m) (flat cols' (len+m))→w.grownBy w' a1→(a'=a1∨a'=some w.heap.size)→(a'=none→len+m=0∧cap=0)→
  Ae D E G w' (IP K kd++[.row a' e (len+m) cap cols']):=by
  intro a' cap w' ho hg hloc hnil
  have hcells:∀g,a'=some g→∃cur,w'.heap[g]? =some (.cells cur e (0,0))∧len+m≤cap∧cap≤maxLen∧cur.size=cap*ei.size∧cur.toList.take ((len+m)*ei.size)=flat cols' (len+m):= λg hg'=>by
   subst hg'
   rcases ho.2 with ⟨h0,_⟩|⟨g',cap',cur,h0,_,h1,h2,h3,h4,h5⟩
   ·simp [Ba] at h0
   ·simp only [Ba,iR,Value.slice.injEq,iA,Addr.mk.injEq] at h0
    obtain ⟨⟨rfl,_⟩,_,rfl⟩:=h0
    exact ⟨cur,h1,h2,h3,h4,h5⟩
  unfold Ae
  rw [jE]
  refine Sat.grown hS kd a1 a' hg (λg hg'=>?_) hloc (λg hg'=>?_) _ (λY p hp=>?_) _ ?_ (λi A hA=>?_)
  ·obtain ⟨k,hk⟩:=hrow g hg'
   obtain ⟨t1,hk1⟩:=hkk k hk
   refine ⟨k,_,hk,BJ D hk1, λY p hp=>?_⟩
   subst hg'
   obtain ⟨_,_,cur,h1,_⟩:=hp
   rw [h1];simp
  ·obtain ⟨cur,h1,_⟩:=hcells g hg';exact lt_of_heap h1
  ·refine ⟨f3,by omega,?_⟩
   cases a' with
   |none=>exact hnil rfl
   |some g=>
    obtain ⟨cur,h1,h2,h3,h4,h5⟩:=hcells g rfl
    exact ⟨cur,by rw [hp g rfl,h1],h2,h3,by rw [f1,←q1];exact h4,by rw [f1,←q1];exact h5⟩
  ·cases kd<;>simp [IP]
  ·cases kd with
   |none=>exact .inr ⟨by simp,hA⟩
   |some k=>
    simp only [IP,jR] at hA
    by_cases hki:k=i
    ·subst hki
     have hlt:k<(K.map (den D G)).length:=by have:=Bv hA;simpa using this
     rw [iS hlt] at hA
     injection hA with hA;subst hA
     exact .inl λ_ _=>trivial
    ·rw [iW hki] at hA
     exact .inr ⟨λe=>hki (by injection e with e;exact e.symm),hA⟩
 rw [hes,hex]
 cases ad with
 |none=>
  have hm0:m=0:=by
   rcases mD m with h0|h0
   ·exact h0
   ·obtain ⟨b,hb,_⟩:=hR2.2.1 0 h0;cases hb
  subst hm0
  refine ⟨a1,cap1,w,?_,close a1 cap1 w ?_ ⟨rfl,rfl,rfl,kC _, λ_ _ _=>rfl⟩ (.inl rfl) λh=>?_⟩
  ·exact WQ t ty e ei hu hei _ len cap1 c hc0
  ·rw [hflat];simpa [flat] using hown
  ·subst h
   rcases hown.2 with ⟨h1,h2⟩|⟨g,_,_,h1,_⟩
   ·simp only [Ba,Value.slice.injEq] at h1;exact ⟨h2,h1.2.2⟩
   ·simp [Ba] at h1
 |some b=>
  obtain ⟨v',w',hrun,hown',hgrow,hnil,hloc⟩:=run_append_own_at (P:=P) w 0 t ty e ei z ei.size ei.bytes hu hei hz rfl rfl q4 (by omega) (Ba a1 len cap1) len (flat cols len) hown b m c (flat cols2 m) (by rw [ET,q1']) (hnews b rfl) (Ai4 q5) hlm hbytes (nU _)
  rw [←hflat] at hown'
  have hob:∀(a:Option Nat) n c,(Ba a n c).ownBlock=a:= λa n c=>by cases a<;>rfl
  obtain ⟨a',cap,rfl,hnn⟩:∃a' cap,v'=Ba a' (len+m) cap∧(a'=none→len+m=0∧cap=0):=by
   rcases hown'.2 with ⟨rfl,h0⟩|⟨g,cap,_,rfl,_⟩
   ·exact ⟨none,0,by rw [h0];rfl, λ_=>⟨h0,rfl⟩⟩
   ·exact ⟨some g,cap,rfl, λh=>by cases h⟩
  rw [hob,hob] at hloc
  rw [hob] at hgrow
  exact ⟨a',cap,w',hrun,close a' cap w' hown' hgrow hloc hnn⟩
theorem BP.moved {E:World} {G:Hp} {w:World} {As:List Dn} (h:BP E G w As) {i:Nat} {A B T:Dn} (hi:As[i]? =some A) (hB:∀k:Hp,A k→B k) (hT:∀k:Hp,T k):BP E G w (As.set i T++[B]):=by
 obtain ⟨h1,h2,o,h3,h4⟩:=h
 have hil:=Bv hi
 refine ⟨h1,h2, λb=>if o b=some i then some As.length else if o b=some As.length then none else o b, λb j hb=>?_, λj C hj=>?_⟩
 ·dsimp only at hb
  split at hb
  ·rename_i e;exact h3 b i e
  ·split at hb
   ·cases hb
   ·exact h3 b j hb
 ·rcases jC j As.length with hlt|hge
  ·rw [iH (by simpa using hlt)] at hj
   by_cases hij:i=j
   ·subst hij
    rw [iS hlt] at hj
    injection hj with hj
    subst hj
    exact hT _
   ·rw [iW hij] at hj
    have:part w (λb=>if o b=some i then some As.length else if o b=some As.length then none else o b) j=part w o j:=DC λb=>⟨⟨λhb=>by
     split at hb
     ·injection hb with hb;omega
     ·split at hb
      ·cases hb
      ·exact hb, λhb=>by
     rw [if_neg (λe=>by rw [hb] at e;injection e with e;omega),if_neg (λe=>by rw [hb] at e;injection e with e;omega)]
     exact hb⟩, λ_=>rfl⟩
    rw [this];exact h4 j C hj
  ·rw [iI (by simpa using hge)] at hj
   have hj0:j=As.length:=by
    rcases Nat.eq_or_lt_of_le hge with h'|h'
    ·exact h'.symm
    ·rw [jF (by simp;omega)] at hj;cases hj
   subst hj0
   simp at hj
   subst hj
   have:part w (λb=>if o b=some i then some As.length else if o b=some As.length then none else o b) As.length=part w o i:=DC λb=>⟨⟨λhb=>by
    split at hb
    ·assumption
    ·split at hb
     ·cases hb
     ·rename_i e;exact absurd hb e, λhb=>by rw [if_pos hb]⟩, λ_=>rfl⟩
   rw [this];exact hB _ (h4 i A hi)
theorem Sat.moved {E:Ev} {G:Hp} {w:World} {As:List BN} (h:Sat E G w As) {i:Nat} {A B T:BN} (hi:As[i]? =some A) (hB:∀Y k:Hp,A Y k→B Y k) (hT:∀Y k:Hp,T Y k):Sat E G w (As.set i T++[B]):=by
 obtain ⟨Z,hz,hw,h0⟩:=h
 refine Sat.of hz hw h0.2.1 ?_
 rw [jE,jR]
 exact h0.moved (Dv hi) (λk hk Y hY=>hB Y k (hk Y hY)) λk Y _=>hT Y k
theorem BP.added {E:World} {G:Hp} {w:World} {As:List Dn} (h:BP E G w As) {B:Dn} (hB:∀k:Hp,B k):BP E G w (As++[B]):=by
 obtain ⟨h1,h2,o,h3,h4⟩:=h
 refine ⟨h1,h2,o,h3, λj C hj=>?_⟩
 rcases jC j As.length with hlt|hge
 ·rw [iH hlt] at hj
  exact h4 j C hj
 ·rw [iI hge] at hj
  have:=jM.1 (iU hj)
  rw [this];exact hB _
theorem Sat.added {E:Ev} {G:Hp} {w:World} {As:List BN} (h:Sat E G w As) {B:BN} (hB:∀Y k:Hp,B Y k):Sat E G w (As++[B]):=by
 obtain ⟨Z,hz,hw,h0⟩:=h
 refine Sat.of hz hw h0.2.1 ?_
 rw [jE]
 exact h0.added λk Y _=>hB Y k
theorem Sat.AcE {E:Ev} {G:Hp} {w:World} {As:List BN} (h:Sat E G w As) {i:Nat} {A B:BN} (hi:As[i]? =some A) (hB:∀Y k k':Hp,A Y k→B Y k'):Sat E G w (As++[B]):=by
 obtain ⟨Z,hz,hw,h0⟩:=h
 refine Sat.of hz hw h0.2.1 ?_
 rw [jE]
 refine h0.added (B:=G8 Z B) λk=>?_
 obtain ⟨_,_,o,_,hoA⟩:=h0
 exact λY hY=>hB Y _ k (hoA i _ (Dv hi) Y hY)
theorem AcF (n:Nat):∀cols:List Ak,D8 (cols.map (Ez n))=D8 cols
 |[]=>rfl
 |c::cs=>by
  have:=AcF n cs
  cases c<;>simp only [iC,Ez,D8,Ak.isFz,cond_true,cond_false]<;>exact this
theorem Jk (n:Nat) (c:Ak):(Ez n c).len=min n c.len∧∀i,i<n→(Ez n c).at i=c.at i:=by
 have key:∀{α:Type} (xs:List α) (d:α) (i:Nat),i<n→(xs.take n).getD i d=xs.getD i d:= λxs d i hi=>by
  rw [iD,iD,kJ,if_pos hi]
 cases c<;>exact ⟨by simp [Ez,Ak.len], λi hi=>by simp only [Ez,Ak.at];rw [key _ _ i hi]⟩
theorem AcG (n:Nat):∀cols:List Ak,D8 (cols.map (FZ n))=D8 cols
 |[]=>rfl
 |c::cs=>by
  have:=AcG n cs
  cases c<;>simp only [iC,FZ,D8,Ak.isFz,cond_true,cond_false]<;>exact this
theorem QN (n:Nat) (c:Ak):(FZ n c).len=c.len-n∧∀i,(FZ n c).at i=c.at (n+i):=by
 have key:∀{α:Type} (xs:List α) (d:α) (i:Nat),(xs.drop n).getD i d=xs.getD (n+i) d:= λxs d i=>by
  rw [iD,iD,lL]
 cases c<;>exact ⟨by simp [FZ,Ak.len], λi=>by simp only [FZ,Ak.at];rw [key]⟩
theorem Ahk {Y:Hp} {m i:Nat} {cols:List Ak} (h:subs Y m cols) (hi:i≤m):subs Y i (cols.map (Ez i)):=by
 intro c hc j hj
 obtain ⟨d,hd,rfl⟩:=kG.1 hc
 have hs:=h d hd j (by omega)
 cases d<;>first|trivial|skip
 rename_i xs
 have e:(xs.take i).getD j 0=xs.getD j 0:=by rw [iD,iD,kJ,if_pos hj]
 simp only [Ez,Ak.sub,e]
 exact hs
theorem Ahl {Y:Hp} {m i:Nat} {cols:List Ak} (h:subs Y m cols):subs Y (m-i) (cols.map (FZ i)):=by
 intro c hc j hj
 obtain ⟨d,hd,rfl⟩:=kG.1 hc
 have hs:=h d hd (i+j) (by omega)
 cases d<;>first|trivial|skip
 rename_i xs
 have e:(xs.drop i).getD j 0=xs.getD (i+j) 0:=by rw [iD,iD,lL]
 simp only [FZ,Ak.sub,e]
 exact hs
theorem LU {G Y k':Hp} {n i:Nat} (hi:i<n):∀{cols:List Ak} {chs:List (Chunk σ)},subs Y n cols→TB i cols=some chs→(∀B∈chs.map (den D G),B Y k')∧(∀c∈chs,∃a n cp cl,c=Chunk.ro a n cp cl)∧chs.length=cols.length∧
 ∀(K0:List (Chunk σ)),Aw (K0++chs) (cols.map (·.at i)) (TC K0.length cols)
 |[],_,_,h=>by
  simp only [TB,iA] at h;subst h
  exact ⟨λB hB=>(by cases hB), λc hc=>(by cases hc),rfl, λ_=>(by simp [Aw,TC])⟩
 |c::cs,chs,hs,h=>by
  cases c<;>simp only [TB] at h<;>first|cases h|skip
  rename_i xs
  split at h
  ·rename_i l hl
   injection h with h;subst h
   obtain ⟨h1,h2,h3,h4⟩:=LU (k':=k') (G:=G) hi (λd hd=>hs d (by simp [hd])) hl
   have hc:=hs (.sls xs) (by simp) i hi
   refine ⟨λB hB=>?_, λc hc=>?_,by simp [h3], λK0=>?_⟩
   rotate_left 2
   ·simp only [iC,TC,Aw]
    refine ⟨Bf.2 ⟨.ro (slA (xs.getD i 0)) (Qz (xs.getD i 0)).length (slC (xs.getD i 0)) [.fz (Qz (xs.getD i 0))],by rw [iI (kC _),nW];rfl,rfl⟩,?_⟩
    have:=h4 (K0++[.ro (slA (xs.getD i 0)) (Qz (xs.getD i 0)).length (slC (xs.getD i 0)) [.fz (Qz (xs.getD i 0))]])
    simpa [jO] using this
   ·simp only [iC,iE] at hB
    rcases hB with rfl|hB
    ·exact ⟨hc.1,hc.2,YV⟩
    ·exact h1 B hB
   ·rcases iE.1 hc with rfl|hc
    ·exact ⟨_,_,_,_,rfl⟩
    ·exact h2 c hc
  ·cases h
theorem Sat.Afu {E:Ev} {G:Hp} {w:World}:∀{As Bs:List BN} {i:Nat} {A:BN},Sat E G w As→As[i]? =some A→(∀Y k k':Hp,A Y k→∀B∈Bs,B Y k')→Sat E G w (As++Bs)
 |As,[],_,_,h,_,_=>by rw [lF];exact h
 |As,B::Bs,i,A,h,hi,hB=>by
  have h1:=Sat.AcE h hi λY k k' ha=>hB Y k k' ha B (by simp)
  have h2:=Sat.Afu (As:=As++[B]) (Bs:=Bs) h1 (by rw [iH (Bv hi)];exact hi) λY k k' ha C hC=>hB Y k k' ha C (by simp [hC])
  rw [jO] at h2;exact h2
theorem AeD {n:Nat} {cols:List Ak} {i:Nat} (hi:i<n):(cols.map (Ez n)).map (·.at i)=cols.map (·.at i):=by
 rw [lB]
 exact lN λc _=>(Jk n c).2 i hi
theorem Aa2 {cols:List Ak} {i:Nat}:∀{m:Nat},i≤m→(flat cols m).take (i*cols.length)=flat cols i
 |0,h=>by
  have:i=0:=by omega
  subst this;simp [flat]
 |m+1,h=>by
  by_cases he:i=m+1
  ·subst he;rw [List.take_of_length_le];rw [ET];exact kC _
  ·rw [Ie,List.take_append_of_le_length (by rw [ET];exact kM _ (by omega)),Aa2 (by omega)]
theorem AiB {G Y h:Hp} {ra:Option Nat} {te:TypeId} {m cap i:Nat} {cols:List Ak} (hi:i≤m) (H:den D G (.row ra te m cap cols) Y h):den D G (.row ra te i cap (cols.map (Ez i))) Y h:=by
 obtain ⟨h1,h2,h3⟩:=H
 refine ⟨λc hc=>?_,by simpa using h2,?_⟩
 ·obtain ⟨d,hd,rfl⟩:=kG.1 hc
  rw [(Jk i d).1,h1 d hd];omega
 ·cases ra with
  |none=>simp only at h3 ⊢;omega
  |some b=>
   simp only at h3 ⊢
   obtain ⟨cs,h4,h5,h6,h7,h8⟩:=h3
   refine ⟨cs,h4,by omega,h6,by simpa using h7,?_⟩
   rw [kD,OU (cols:=cols) λj hj=>AeD hj,←Aa2 hi,←h8,List.take_take,Nat.min_eq_left (kM _ hi)]
theorem AfZ {h:Hp} {a:Option Addr} {m i:Nat} {cols:List Ak} (hi:i≤m) (H:Dl h a m cols):Dl h a i (cols.map (Ez i)):=by
 obtain ⟨h1,h2,h3⟩:=H
 refine ⟨λc hc=>?_, λj hj=>?_,by omega⟩
 ·obtain ⟨d,hd,rfl⟩:=kG.1 hc
  rw [(Jk i d).1,h1 d hd];omega
 ·obtain ⟨b,hb,hc⟩:=h2 j (by omega)
  refine ⟨b,hb, λk c hk=>?_⟩
  rw [iK] at hk
  cases hck:cols[k]? with
  |none=>rw [hck] at hk;cases hk
  |some d=>
   rw [hck] at hk
   simp only [iR,iA] at hk
   subst hk
   rw [kD,(Jk i d).2 j hj]
   exact hc k d hck
theorem Aga {h:Hp} {a:Option Addr} {m cap i sz:Nat} {cols:List Ak} (hm:m≤cap) (hs:sz=cols.length) (H:Dl h a m cols):Dl h (KW a cap i sz) (m-i) (cols.map (FZ i)):=by
 subst hs
 obtain ⟨h1,h2,h3⟩:=H
 refine ⟨λc hc=>?_, λj hj=>?_,by omega⟩
 ·obtain ⟨d,hd,rfl⟩:=kG.1 hc
  rw [(QN i d).1,h1 d hd]
 ·obtain ⟨b,hb,hc⟩:=h2 (i+j) (by omega)
  have he:iJ cap i=false:=by
   cases hh:iJ cap i with
   |false=>rfl
   |true=>have:=iF hh;omega
  refine ⟨b.add (i*cols.length),by unfold KW;rw [he,hb];rfl, λk c hk=>?_⟩
  rw [iK] at hk
  cases hck:cols[k]? with
  |none=>rw [hck] at hk;cases hk
  |some d=>
   rw [hck] at hk
   simp only [iR,iA] at hk
   subst hk
   rw [kD,(QN i d).2 j,Addr.add_add,show i*cols.length+(j*cols.length+k)=(i+j)*cols.length+k by rw [Nat.add_mul];omega]
   exact hc k d hck
theorem Agb {P:Program} {o:Oper} {a:Act} {w:World} {t e:TypeId} {x lx:Operand} {ad:Option Addr} {m cap sz:Nat} {k:IntKind} {i:Int} (hop:o.op= .slice t x (some lx) none none) (hu:P.underlying t=some (.slice e)) (hs:Dz P e=some sz)
 (hv:a.eval x= .slice ad m cap) (hi:a.eval lx= .int k i) (h0:0≤i) (h1:i≤(m:Int)):(execOp a.eval o).run P w= .ok (.value (.slice (KW ad cap i.toNat sz) (m-i.toNat) (cap-i.toNat))) w:=by
 have hel:P.elem t=e:=by simp [Program.elem,hu]
 have hu':P.underlying t=some (.slice (P.elem t)):=by rw [hel];exact hu
 have hr:=run_slice_l (w:=w) t ad m cap hu' k i h0 h1
 have hsz:=E5 hs w
 rw [hel,hsz] at hr
 simp only [Result.andThen_ok] at hr
 have hadd:sliced ad i.toNat m cap sz= .slice (KW ad cap i.toNat sz) (m-i.toNat) (cap-i.toNat):=by
  unfold sliced KW
  by_cases he:cap=i.toNat
  ·have:iJ cap i.toNat=true:=by rw [←he];simp
   rw [if_pos he,this];rfl
  ·have:iJ cap i.toNat=false:=by
    cases hh:iJ cap i.toNat with
    |false=>rfl
    |true=>exact absurd (iF hh) he
   rw [if_neg he,this];rfl
 rw [hadd] at hr
 simp only [execOp,hop,iQ,mZ,iR,hv,hi,run_sliceAt_slice w t _ _ _ _ hu',hr,Result.andThen_ok,iY]
theorem Aa3 {P:Program} {o:Oper} {a:Act} {w:World} {t e:TypeId} {x hx:Operand} {ad:Option Addr} {m cap sz:Nat} {k:IntKind} {i:Int} (hop:o.op= .slice t x none (some hx) none) (hu:P.underlying t=some (.slice e)) (hs:Dz P e=some sz)
 (hv:a.eval x= .slice ad m cap) (hi:a.eval hx= .int k i) (h0:0≤i) (h1:i≤(cap:Int)):(execOp a.eval o).run P w= .ok (.value (.slice ad i.toNat cap)) w:=by
 have hel:P.elem t=e:=by simp [Program.elem,hu]
 have hu':P.underlying t=some (.slice (P.elem t)):=by rw [hel];exact hu
 have hr:=run_slice_h (w:=w) t ad m cap hu' k i h0 h1
 have hsz:=E5 hs w
 rw [hel,hsz] at hr
 simp only [Result.andThen_ok] at hr
 have hadd:sliced ad 0 i.toNat cap sz= .slice ad i.toNat cap:=by
  unfold sliced
  cases ad with
  |none=>simp
  |some b=>simp [Addr.add]
 rw [hadd] at hr
 simp only [execOp,hop,iQ,mZ,iR,hv,hi,run_sliceAt_slice w t _ _ _ _ hu',hr,Result.andThen_ok,iY]
def CJ (K K':List (Chunk σ)):Prop:=∀(k b:Nat) (t:TypeId) (cs:List (Value×Pr)),K[k]? =some (.cells b t cs)→K'[k]? =some (.cells b t cs)
theorem CJ.append (K B:List (Chunk σ)):CJ K (K++B):= λk b t cs h=>by rw [iH (Bv h)];exact h
theorem CJ.set {K:List (Chunk σ)} {i:Nat} {c c':Chunk σ} (h:K[i]? =some c) (hc:∀b t cs,c≠ .cells b t cs):CJ K (K.set i c'):= λk b t cs hk=>by
 by_cases hik:i=k
 ·subst hik
  rw [h] at hk;injection hk with hk
  exact absurd hk (hc b t cs)
 ·rw [iW hik];exact hk
theorem CJ.trans {K K' K'':List (Chunk σ)} (h:CJ K K') (h':CJ K' K''):CJ K K'':= λk b t cs hk=>h' k b t cs (h k b t cs hk)
theorem AeE {P:Program} {L:List Af} {K:List (Chunk σ)} {e:TypeId} {x:Operand} {k n:Nat} {cols:List Ak} (h:Oa P L K e x=some (some k,n,cols)):∃a t m cap cs,K[k]? =some (.row a t m cap cs):=by
 unfold Oa at h
 split at h
 ·split at h
  ·simp at h
  ·cases h
 ·split at h
  ·rename_i a t n0 cap cols0 hk
   cases hb:iJ t e with
   |false=>rw [hb] at h;cases h
   |true=>
    rw [hb] at h
    simp only [cond_true,iA,iM] at h
    obtain ⟨rfl,rfl,rfl⟩:=h
    exact ⟨_,_,_,_,_,hk⟩
  ·cases h
 ·cases h
theorem Ahm {L:List Af} {K:List (Chunk σ)} {o:Oper} {v:Value} (hF:Fr n L K a) (h:lenOf P L o=some v):(∀w,(execOp a.eval o).run P w= .ok (.value v) w)∧∃k x,v= .int k x:=by
 unfold lenOf at h
 split at h
 ·rename_i hop
  cases hb:o.op.operands.all (λx=>(val none L x).isSome) with
  |false=>rw [hb] at h;cases h
  |true=>
   rw [hb,cond_true] at h
   split at h
   ·rename_i k x he
    injection h with h;subst h
    exact ⟨λw=>WG (g:=none) hF trivial (λcs b e=>by rw [hop] at e;cases e) hb he w,k,x,rfl⟩
   ·cases h
 ·cases h
theorem AeF {ops:Array Oper} {i:Nat} {rest:List Nat} {td:List Item} {k:Value→Pr→List (Chunk σ)→Tree σ} {t:Tree σ} {R':Value→Pr→List (Chunk σ)→Prop} {S':List Ab→List Af→List (Chunk σ)→Prop}
 (ho:ops[i]? =some o) (hw:iZ o (yielded ops a.tmps)=true) (g2:∀d,o.dst=some d→d<n) (hF:Fr n L K a) (hS:Ae D E G w K) (h:Acf P L K o k=some t) (ht:t.holds R' S')
 (H:∀v pr K',(k v pr K').holds R' S'→AY K K'→CJ K K'→∀a' w',(∃u,a'=a.put o.dst u)→Fr n (Ce o.dst none v pr L) K' a'→Ae D E G w' K'→WT P f R (.inRegion ops rest::td) a' w'):WT P f R (.inRegion ops (i::rest)::td) a w:=by
 have g3:∀(d c:Nat) (b:Bool),o.dst=some d→(none:Option (Nat×Bool))=some (c,b)→c≠d:= λ_ _ _ _ h=>by cases h
 unfold Acf at h
 split at h
 ·
  rename_i t0 hop
  cases hks:IQ P t0 with
  |false=>rw [hks] at h;cases h
  |true=>
   rw [hks,cond_true] at h
   injection h with h;subst h
   have hrun:(execOp a.eval o).run P w= .ok (.value (.map (some w.heap.size))) (w.alloc (.map #[] 0)):=by
    simp only [execOp,hop,iQ,mZ]
    rfl
   refine WT.Du ho hw (.inl hrun) (H _ _ _ (ht w.heap.size) (AY.append K _) (CJ.append K _) _ _ ⟨_,rfl⟩ ?_ ?_)
   ·have hk:CP (K++[kQ w.heap.size [] none]):=hF.kok.append λb t cs hm=>by simp at hm
    exact (hF.ext (AY.append K _) hk).put g2 g3 λ_=>⟨rfl,Bf.2 ⟨_,jQ,rfl⟩⟩
   ·have:=Sat.alloc hS (.map #[] 0)
    unfold Ae
    rw [jE]
    refine this.imp λi B hB=>?_
    rcases jC i (K.map (den D G)).length with hl|hl
    ·rw [iH hl] at hB
     exact ⟨B,by rw [iH hl];exact hB, λ_ _ h=>h⟩
    ·rw [iI hl] at hB
     have hz:i-(K.map (den D G)).length=0:=by have:=Bv hB;simp only [iC,jZ,lQ] at this;omega
     rw [hz] at hB
     simp only [iC,jZ,jH,iA] at hB
     refine ⟨pt w.heap.size (.map #[] 0),?_,?_⟩
     ·rw [iI hl,hz];rfl
     ·subst hB
      intro Y p hp
      exact ⟨#[],0,hp,I8.nil,trivial⟩
 ·
  rename_i t0 m i0 x hop
  have hpx:=Bh (x:=m) (g:=none) hF trivial
  split at h
  ·rename_i c xa xs hp hi hx
   have hei:=Au (g:=none) hF trivial hi
   have hex:=Au (g:=none) hF trivial hx
   rw [hp,Bf] at hpx
   obtain ⟨ch,hk,hc⟩:=hpx
   split at h
   ·rename_i b l hk'
    rw [hk'] at hk;injection hk with hk;subst hk
    cases hks:IQ P t0 with
    |false=>rw [hks] at h;cases h
    |true=>
     rw [hks,cond_true] at h
     injection h with h;subst h
     obtain ⟨kt,et,hu,hkt,_⟩:=KZ hks
     obtain ⟨_,p,_,⟨es,clock,hes,hM,_⟩,hsub⟩:=hS.get D hk'
     obtain ⟨es',clock',hrun,hM'⟩:=Ai5 (P:=P) (w:=w) (x:=(xa,xs)) hop hc hei hex hu hkt (hsub _ _ hes) hM
     have hcmp:∀v pk,CE (kQ (σ:=σ) b l none) v pk→CE (kQ (σ:=σ) b (En l (xa,xs)) none) v pk:= λv pk hv=>by cases pk<;>exact hv
     refine WT.Du ho hw (.inr ⟨hrun,rfl⟩) (H _ _ _ ht (AY.set hk' hcmp) (CJ.set hk' λb t cs e=>by cases e) _ _ ⟨_,rfl⟩ ?_ ?_)
     ·exact (hF.ext (AY.set hk' hcmp) (hF.kok.set hk' hcmp λb' t' cs' e=>by cases e)).put g2 g3 λ_=>⟨rfl,Ar⟩
     ·unfold Ae
      rw [jR]
      have hb:=MapKept.heap_set (o':= .map es' clock') (hsub _ _ hes)
      refine Sat.write' hS (b:=b) (BJ D hk') (λY p hp=>?_) ⟨rfl,rfl,rfl⟩ (by simp) (λc hc=>hb.2 c hc) λY p p' hp hpo hpb=>?_
      ·obtain ⟨_,_,hh,_⟩:=hp;rw [hh];simp
      ·exact ⟨es',clock',by rw [hpb];exact hb.1,hM',trivial⟩
   ·cases h
  ·cases h
 ·
  rename_i m i0 t0 ts hop
  have hpx:=Bh (x:=m) (g:=none) hF trivial
  split at h
  ·rename_i c xa xs hp hi
   have hei:=Au (g:=none) hF trivial hi
   rw [hp,Bf] at hpx
   obtain ⟨ch,hk,hc⟩:=hpx
   split at h
   ·rename_i b l hk'
    rw [hk'] at hk;injection hk with hk;subst hk
    cases hks:IQ P t0 with
    |false=>rw [hks] at h;cases h
    |true=>
     rw [hks,cond_true] at h
     injection h with h;subst h
     obtain ⟨kt,et,hu,hkt,_⟩:=KZ hks
     obtain ⟨_,p,_,⟨es,clock,hes,hM,_⟩,hsub⟩:=hS.get D hk'
     obtain ⟨es',hrun,hM'⟩:=Ai6 (P:=P) (w:=w) (x:=(xa,xs)) hop hc hei hu hkt (hsub _ _ hes) hM
     have hcmp:∀v pk,CE (kQ (σ:=σ) b l none) v pk→CE (kQ (σ:=σ) b (EK l (xa,xs)) none) v pk:= λv pk hv=>by cases pk<;>exact hv
     refine WT.Du ho hw (.inl hrun) (H _ _ _ ht (AY.set hk' hcmp) (CJ.set hk' λb t cs e=>by cases e) _ _ ⟨_,rfl⟩ ?_ ?_)
     ·exact (hF.ext (AY.set hk' hcmp) (hF.kok.set hk' hcmp λb' t' cs' e=>by cases e)).put g2 g3 λ_=>⟨rfl,Ar⟩
     ·unfold Ae
      rw [jR]
      have hb:=MapKept.heap_set (o':= .map es' clock) (hsub _ _ hes)
      refine Sat.write' hS (b:=b) (BJ D hk') (λY p hp=>?_) ⟨rfl,rfl,rfl⟩ (by simp) (λc hc=>hb.2 c hc) λY p p' hp hpo hpb=>?_
      ·obtain ⟨_,_,hh,_⟩:=hp;rw [hh];simp
      ·exact ⟨es',clock,by rw [hpb];exact hb.1,hM',trivial⟩
   ·cases h
  ·cases h
 ·
  rename_i m t0 hop
  have hpx:=Bh (x:=m) (g:=none) hF trivial
  split at h
  ·rename_i c hp
   rw [hp,Bf] at hpx
   obtain ⟨ch,hk,hc⟩:=hpx
   split at h
   ·rename_i b l it hk'
    rw [hk'] at hk;injection hk with hk;subst hk
    cases hks:IQ P t0 with
    |false=>rw [hks] at h;cases h
    |true=>
     rw [hks,cond_true] at h
     injection h with h;subst h
     obtain ⟨kt,et,hu,hkt,_⟩:=KZ hks
     obtain ⟨_,p,_,⟨es,clock,hes,hM,_⟩,hsub⟩:=hS.get D hk'
     refine WT.Du ho hw (.inl (Ai7 hop hc hu (hsub _ _ hes) hM)) (H _ _ _ ht (AY.refl K) (λ_ _ _ _ h=>h) _ _ ⟨_,rfl⟩ ?_ hS)
     exact hF.put g2 g3 λ_=>⟨rfl,Ar⟩
   ·cases h
  ·cases h
 ·
  rename_i t0 m hop
  have hpx:=Bh (x:=m) (g:=none) hF trivial
  split at h
  ·rename_i c hp
   rw [hp,Bf] at hpx
   obtain ⟨ch,hk,hc⟩:=hpx
   split at h
   ·rename_i b l hk'
    rw [hk'] at hk;injection hk with hk;subst hk
    cases hks:IQ P t0 with
    |false=>rw [hks] at h;cases h
    |true=>
     rw [hks,cond_true] at h
     injection h with h;subst h
     obtain ⟨kt,et,hu,hkt,_⟩:=KZ hks
     obtain ⟨_,p,_,⟨es,clock,hes,hM,_⟩,hsub⟩:=hS.get D hk'
     have hcmp:∀v pk,CE (kQ (σ:=σ) b l none) v pk→CE (kQ (σ:=σ) b l (some (w.heap.size,[],l))) v pk:= λv pk hv=>by cases pk<;>first|exact hv|exact hv.elim
     refine WT.Du ho hw (.inl (AfX hop hc hu (hsub _ _ hes))) (H _ _ _ (ht w.heap.size) (AY.set hk' hcmp) (CJ.set hk' λb t cs e=>by cases e) _ _ ⟨_,rfl⟩ ?_ ?_)
     ·exact (hF.ext (AY.set hk' hcmp) (hF.kok.set hk' hcmp λb' t' cs' e=>by cases e)).put g2 g3 λ_=>⟨rfl,Bf.2 ⟨_,iS (Bv hk'),rfl⟩⟩
     ·unfold Ae
      rw [jR]
      refine Sat.grow hS (BJ D hk') _ λY p p' hp hs hno hpo hpb=>?_
      obtain ⟨es2,clock2,hh,hM2,_⟩:=hp
      have e:=hs _ _ hh
      rw [hsub _ _ hes] at e
      simp only [iA,Obj.map.injEq] at e
      obtain ⟨rfl,rfl⟩:=e
      have hne:b≠w.heap.size:= λe=>by rw [e,hno] at hh;cases hh
      exact ⟨es,clock,by rw [hpo b hne];exact hh,hM2, λe=>hne e.symm,_,hpb,Vs.start hM2⟩
   ·cases h
  ·cases h
 ·
  rename_i x hop
  have hpx:=Bh (x:=x) (g:=none) hF trivial
  split at h
  ·rename_i c hp
   rw [hp,Bf] at hpx
   obtain ⟨ch,hk,hc⟩:=hpx
   split at h
   ·rename_i b l i0 cur r hk'
    rw [hk'] at hk;injection hk with hk;subst hk
    injection h with h;subst h
    obtain ⟨_,p,_,⟨es,clock,hes,hM,hne,ob,hob,hI⟩,hsub⟩:=hS.get D hk'
    rcases Ahi (P:=P) (w:=w) hop hc (hsub _ _ hes) (hsub _ _ hob) hM hI with ⟨rfl,hrun⟩|⟨hr,n0,ob',w1,g1,e1,e2,e3,hI',hrun⟩
    ·refine WT.Du ho hw (.inl hrun) (H _ _ _ (ht.1 rfl) (AY.refl K) (λ_ _ _ _ h=>h) _ _ ⟨_,rfl⟩ ?_ hS)
     exact hF.put g2 g3 λ_=>⟨rfl,Ar⟩
    ·have hnil:NC r=false:=by cases r with|nil=>exact absurd rfl hr|cons _ _=>rfl
     have hcmp:∀v pk,CE (kQ (σ:=σ) b l (some (i0,cur,r))) v pk→CE (kQ (σ:=σ) b l (some (i0,[BX r n0],Ff r n0))) v pk:= λv pk hv=>by cases pk<;>exact hv
     refine WT.Du ho hw (.inl hrun) (H _ _ _ (ht.2 hnil n0) (AY.set hk' hcmp) (CJ.set hk' λb t cs e=>by cases e) _ _ ⟨_,rfl⟩ ?_ ?_)
     ·exact (hF.ext (AY.set hk' hcmp) (hF.kok.set hk' hcmp λb' t' cs' e=>by cases e)).put g2 g3 λ_=>⟨rfl,Ar⟩
     ·unfold Ae
      rw [jR]
      have hob1:w1.heap[i0]? =some ob:=by rw [g1];exact hsub _ _ hob
      have hb:=MapKept.heap_set (o':=ob') hob1
      refine Sat.writeS hS (b:=i0) (BJ D hk') (λY p hp=>?_) ⟨e1,e2,e3⟩ (by simp [g1]) (λc hc=>by rw [hb.2 c hc,g1]) λY p p' hp hs hpo hpb=>?_
      ·obtain ⟨_,_,_,_,_,o2,ho2,_⟩:=hp;rw [ho2];simp
      ·obtain ⟨es2,clock2,hh,hM2,_,o2,ho2,_⟩:=hp
       have e:=hs _ _ hh
       rw [hsub _ _ hes] at e
       simp only [iA,Obj.map.injEq] at e
       obtain ⟨rfl,rfl⟩:=e
       exact ⟨es,clock,by rw [hpo b (λe=>hne e.symm)];exact hh,hM2,hne,ob',by rw [hpb];exact hb.1,hI'⟩
   ·cases h
  ·cases h
 ·
  rename_i x hop
  have hpx:=Bh (x:=x) (g:=none) hF trivial
  split at h
  ·rename_i c hp
   rw [hp,Bf] at hpx
   obtain ⟨ch,hk,hc⟩:=hpx
   split at h
   ·rename_i b l i0 cu r hk'
    rw [hk'] at hk;injection hk with hk;subst hk
    injection h with h;subst h
    obtain ⟨hone,ht⟩:=ht
    have ht:=ht hone
    obtain ⟨y,rfl⟩:∃y,cu=[y]:=by
     match cu,hone with
     |[y],_=>exact ⟨y,rfl⟩
    obtain ⟨_,p,_,⟨es,clock,hes,hM,hne,ob,hob,hI⟩,hsub⟩:=hS.get D hk'
    refine WT.Du ho hw (.inl (AfY hop hc (hsub _ _ hes) (hsub _ _ hob) hM hI)) (H _ _ _ ht (AY.refl K) (λ_ _ _ _ h=>h) _ _ ⟨_,rfl⟩ ?_ hS)
    exact hF.put g2 g3 λ_=>⟨rfl,Ar⟩
   ·cases h
  ·cases h
 ·cases h
theorem PL:∀{K:List (Chunk σ)} {m j:Nat} {q:Addr},J4 m K=some (j,q)→m≤j∧∃s,K[j-m]? =some (.obj q s)
 |[],m,j,q,h=>by simp [J4] at h
 |c::K,m,j,q,h=>by
  by_cases hc:∃p s,c= .obj p s
  ·obtain ⟨p,s,rfl⟩:=hc
   simp only [J4,iA,iM] at h
   obtain ⟨rfl,rfl⟩:=h
   exact ⟨kC _,s,by simp⟩
  ·have:J4 (m+1) K=some (j,q):=by
    cases c<;>first|exact h|exact absurd ⟨_,_,rfl⟩ hc
   obtain ⟨h1,s,h2⟩:=PL this
   refine ⟨by omega,s,?_⟩
   have e:j-m=(j-(m+1))+1:=by omega
   rw [e,kH];exact h2
theorem AeG {ops:Array Oper} {i:Nat} {rest:List Nat} {td:List Item} {k:Value→Pr→List (Chunk σ)→Tree σ} {t:Tree σ} {R':Value→Pr→List (Chunk σ)→Prop} {S':List Ab→List Af→List (Chunk σ)→Prop}
 (ho:ops[i]? =some o) (hw:iZ o (yielded ops a.tmps)=true) (g2:∀d,o.dst=some d→d<n) (hF:Fr n L K a) (hS:Ae D E G w K) (h:Acg P L K o k=some t) (ht:t.holds R' S')
 (H:∀v pr K',(k v pr K').holds R' S'→AY K K'→CJ K K'→∀a' w',(∃u,a'=a.put o.dst u)→Fr n (Ce o.dst none v pr L) K' a'→Ae D E G w' K'→WT P f R (.inRegion ops rest::td) a' w'):WT P f R (.inRegion ops (i::rest)::td) a w:=by
 have g3:∀(d c:Nat) (b:Bool),o.dst=some d→(none:Option (Nat×Bool))=some (c,b)→c≠d:= λ_ _ _ _ h=>by cases h
 unfold Acg at h
 split at h
 ·
  rename_i t0 hop
  cases hks:QA P t0 with
  |false=>rw [hks] at h;cases h
  |true=>
   rw [hks,cond_true] at h
   injection h with h;subst h
   have hrun:(execOp a.eval o).run P w= .ok (.value (.map (some w.heap.size))) (w.alloc (.map #[] 0)):=by
    simp only [execOp,hop,iQ,mZ]
    rfl
   refine WT.Du ho hw (.inl hrun) (H _ _ _ (ht w.heap.size) (AY.append K _) (CJ.append K _) _ _ ⟨_,rfl⟩ ?_ ?_)
   ·have hk:CP (K++[Chunk.fm w.heap.size []]):=hF.kok.append λb t cs hm=>by simp at hm
    exact (hF.ext (AY.append K _) hk).put g2 g3 λ_=>⟨rfl,Bf.2 ⟨_,jQ,rfl⟩⟩
   ·have:=Sat.alloc hS (.map #[] 0)
    unfold Ae
    rw [jE]
    refine this.imp λi B hB=>?_
    rcases jC i (K.map (den D G)).length with hl|hl
    ·rw [iH hl] at hB
     exact ⟨B,by rw [iH hl];exact hB, λ_ _ h=>h⟩
    ·rw [iI hl] at hB
     have hz:i-(K.map (den D G)).length=0:=by have:=Bv hB;simp only [iC,jZ,lQ] at this;omega
     rw [hz] at hB
     simp only [iC,jZ,jH,iA] at hB
     refine ⟨pt w.heap.size (.map #[] 0),?_,?_⟩
     ·rw [iI hl,hz];rfl
     ·subst hB
      intro Y p hp
      exact ⟨#[],0,hp,rfl⟩
 ·
  rename_i t0 m i0 x hop
  have hpx:=Bh (x:=m) (g:=none) hF trivial
  split at h
  ·rename_i c z f0 q hp hi hx
   have hei:=Au (g:=none) hF trivial hi
   have hex:=Au (g:=none) hF trivial hx
   rw [hp,Bf] at hpx
   obtain ⟨ch,hk,hc⟩:=hpx
   split at h
   ·rename_i b l hk'
    rw [hk'] at hk;injection hk with hk;subst hk
    cases hks:QA P t0&&(KY l z).isNone with
    |false=>rw [hks] at h;cases h
    |true=>
     rw [hks,cond_true] at h
     injection h with h;subst h
     simp only [iG,Option.isNone_iff_eq_none] at hks
     obtain ⟨kt,et,hu,hkt⟩:=Aa0 hks.1
     obtain ⟨_,p,_,⟨es,clock,hes,hM⟩,hsub⟩:=hS.get D hk'
     obtain ⟨es',clock',hrun,hM'⟩:=Ai8 (P:=P) (w:=w) (z:=z) (f:=f0) (q:=q) hop hc hei hex hu hkt (hsub _ _ hes) hM hks.2
     have hcmp:∀v pk,CE (Chunk.fm (σ:=σ) b l) v pk→CE (Chunk.fm (σ:=σ) b (l++[(z,f0,q)])) v pk:= λv pk hv=>by cases pk<;>exact hv
     refine WT.Du ho hw (.inr ⟨hrun,rfl⟩) (H _ _ _ ht (AY.set hk' hcmp) (CJ.set hk' λb t cs e=>by cases e) _ _ ⟨_,rfl⟩ ?_ ?_)
     ·exact (hF.ext (AY.set hk' hcmp) (hF.kok.set hk' hcmp λb' t' cs' e=>by cases e)).put g2 g3 λ_=>⟨rfl,Ar⟩
     ·unfold Ae
      rw [jR]
      have hb:=MapKept.heap_set (o':= .map es' clock') (hsub _ _ hes)
      refine Sat.write' hS (b:=b) (BJ D hk') (λY p hp=>?_) ⟨rfl,rfl,rfl⟩ (by simp) (λc hc=>hb.2 c hc) λY p p' hp hpo hpb=>?_
      ·obtain ⟨_,_,hh,_⟩:=hp;rw [hh];simp
      ·exact ⟨es',clock',by rw [hpb];exact hb.1,hM'⟩
   ·cases h
  ·cases h
 ·
  rename_i t0 m i0 hop
  have hpx:=Bh (x:=m) (g:=none) hF trivial
  split at h
  ·rename_i c z hp hi
   have hei:=Au (g:=none) hF trivial hi
   rw [hp,Bf] at hpx
   obtain ⟨ch,hk,hc⟩:=hpx
   split at h
   ·rename_i b l hk'
    rw [hk'] at hk;injection hk with hk;subst hk
    split at h
    ·rename_i f0 q j q' hg hfo
     cases hks:QA P t0 with
     |false=>rw [hks] at h;cases h
     |true=>
      rw [hks,cond_true] at h
      injection h with h;subst h
      obtain ⟨rfl,ht⟩:=ht
      have ht:=ht rfl
      obtain ⟨kt,et,hu,hkt⟩:=Aa0 hks
      obtain ⟨_,p,_,⟨es,clock,hes,hM⟩,hsub⟩:=hS.get D hk'
      obtain ⟨_,s0,hs0⟩:=PL hfo
      refine WT.Du ho hw (.inl (Ahj hop hc hei hu hkt (hsub _ _ hes) hM hg)) (H _ _ _ ht (AY.refl K) (λ_ _ _ _ h=>h) _ _ ⟨_,rfl⟩ ?_ hS)
      refine hF.put g2 g3 λ_=>⟨rfl,?_⟩
      simp only [fnV,Bl]
      exact ⟨_,rfl,_,hs0,rfl⟩
    ·cases h
   ·cases h
  ·cases h
 ·
  rename_i t0 x hop
  have hpx:=Bh (x:=x) (g:=none) hF trivial
  split at h
  ·rename_i m e c off q hu hp hx
   have hex:=Au (g:=none) hF trivial hx
   rw [hp,Bf] at hpx
   obtain ⟨ch,hk,hc⟩:=hpx
   split at h
   ·rename_i sz b t cs hsz hk'
    rw [hk'] at hk;injection hk with hk;subst hk
    injection h with h;subst h
    have hc:a.eval x= .pointer (some ⟨b,off,none⟩):=hc
    rw [hex] at hc;injection hc with hc;injection hc with hc;subst hc
    refine WT.Du ho hw (.inl (AjJ hop hex hu hsz)) (H _ _ _ ht (AY.refl K) (λ_ _ _ _ h=>h) _ _ ⟨_,rfl⟩ ?_ hS)
    exact hF.put g2 g3 λ_=>⟨rfl,Bf.2 ⟨_,hk',_,_,rfl⟩⟩
   ·cases h
  ·cases h
 ·
  rename_i t0 x ix hop
  have hpx:=Bh (x:=x) (g:=none) hF trivial
  split at h
  ·rename_i e c off q m m2 kk z hu hp hx hi
   have hex:=Au (g:=none) hF trivial hx
   have hei:=Au (g:=none) hF trivial hi
   rw [hp,Bf] at hpx
   obtain ⟨ch,hk,hc⟩:=hpx
   split at h
   ·rename_i sz b t cs hsz hk'
    rw [hk'] at hk;injection hk with hk;subst hk
    injection h with h;subst h
    obtain ⟨hn,ht⟩:=ht
    have ht:=ht hn
    obtain ⟨_,_,hc⟩:∃n m,a.eval x= .slice (some ⟨b,off,none⟩) n m:=hc
    rw [hex] at hc;injection hc with hc _ _;injection hc with hc;subst hc
    refine WT.Du ho hw (.inl (AjK hop hex hei hu hsz hn)) (H _ _ _ ht (AY.refl K) (λ_ _ _ _ h=>h) _ _ ⟨_,rfl⟩ ?_ hS)
    exact hF.put g2 g3 λ_=>⟨rfl,Bf.2 ⟨_,hk',by simp [CE,Addr.add]⟩⟩
   ·cases h
  ·cases h
 ·
  rename_i t0 x ix hop
  split at h
  ·rename_i m e cs kk z hu hx hi
   have hex:=Au (g:=none) hF trivial hx
   have hei:=Au (g:=none) hF trivial hi
   split at h
   ·rename_i xs hv hsz
    cases hb:KX P e&&iJ m xs.length with
    |false=>rw [hb] at h;cases h
    |true=>
     rw [hb,cond_true] at h
     injection h with h;subst h
     simp only [iG] at hb
     obtain ⟨hn,ht⟩:=ht
     have ht:=ht hn
     refine WT.Du ho hw (.inl (AjL hop hex hei hu hsz hb.1 hv (iF hb.2) hn)) (H _ _ _ ht (AY.refl K) (λ_ _ _ _ h=>h) _ _ ⟨_,rfl⟩ ?_ hS)
     exact hF.put g2 g3 λ_=>⟨rfl,Ar⟩
   ·cases h
  ·cases h
 ·cases h
theorem AcH {T:List (Nat×Entry σ)} (hT:BD D P T) {ops:Array Oper} {i:Nat} {rest:List Nat} {td:List Item} {k:Value→Pr→List (Chunk σ)→Tree σ} {t:Tree σ} {R':Value→Pr→List (Chunk σ)→Prop} {S':List Ab→List Af→List (Chunk σ)→Prop}
 {ext:Nat→List (Value×Pr)→List (Chunk σ)→Option (Tree σ)}
 (hext:∀g args prs K t,ext g (lI args prs) K=some t→∀w,Aw K args prs→CP K→Ae D E G w K→∀Q:Value→Pr→List (Chunk σ)→Prop,t.holds Q (λ_ _ _=>False)→QG P g args.toArray w λen w'=>∃v p K',en= .returned v∧Q v p K'∧AY K K'∧CP K'∧Bl K' v p∧Ae D E G w' K')
 (ho:ops[i]? =some o) (hw:iZ o (yielded ops a.tmps)=true) (g2:∀d,o.dst=some d→d<n) (hF:Fr n L K a) (hS:Ae D E G w K) (h:WB P T ext L K o k=some t) (ht:t.holds R' S')
 (H:∀v pr K',(k v pr K').holds R' S'→AY K K'→(((∀t x y,o.op≠ .store t x y)∧∀g a K,ext g a K=none)→CJ K K')→∀a' w',(∃u,a'=a.put o.dst u)→Fr n (Ce o.dst none v pr L) K' a'→Ae D E G w' K'→WT P f R (.inRegion ops rest::td) a' w'):WT P f R (.inRegion ops (i::rest)::td) a w:=by
 have g3:∀(d c:Nat) (b:Bool),o.dst=some d→(none:Option (Nat×Bool))=some (c,b)→c≠d:= λ_ _ _ _ h=>by cases h
 unfold WB at h
 split at h
 ·
  rename_i t0 hop
  split at h
  ·rename_i kk vk hks
   injection h with h;subst h
   have hrun:(execOp a.eval o).run P w= .ok (.value (.map (some w.heap.size))) (w.alloc (.map #[] 0)):=by
    simp only [execOp,hop,iQ,mZ]
    rfl
   refine WT.Du ho hw (.inl hrun) (H _ _ _ (ht w.heap.size) (AY.append K _) (λ_=>CJ.append K _) _ _ ⟨_,rfl⟩ ?_ ?_)
   ·have hk:CP (K++[Chunk.map w.heap.size kk vk AfN]):=hF.kok.append λb t cs hm=>by simp at hm
    exact (hF.ext (AY.append K _) hk).put g2 g3 λ_=>⟨rfl,Bf.2 ⟨_,jQ,rfl⟩⟩
   ·have:=Sat.alloc hS (.map #[] 0)
    unfold Ae
    rw [jE]
    refine this.imp λi B hB=>?_
    rcases jC i (K.map (den D G)).length with hl|hl
    ·rw [iH hl] at hB
     exact ⟨B,by rw [iH hl];exact hB, λ_ _ h=>h⟩
    ·rw [iI hl] at hB
     have hz:i-(K.map (den D G)).length=0:=by have:=Bv hB;simp only [iC,jZ,lQ] at this;omega
     rw [hz] at hB
     simp only [iC,jZ,jH,iA] at hB
     refine ⟨pt w.heap.size (.map #[] 0),?_,?_⟩
     ·rw [iI hl,hz];rfl
     ·subst hB
      intro Y p hp
      exact ⟨#[],0,hp,by simp, λx=>rfl⟩
  ·cases h
 ·
  rename_i t0 m i0 x hop
  have hpx:=Bh (x:=m) (g:=none) hF trivial
  split at h
  ·rename_i c ki iv kx xv kk0 vk0 hp hi hx hks
   have hei:=Au (g:=none) hF trivial hi
   have hex:=Au (g:=none) hF trivial hx
   rw [hp,Bf] at hpx
   obtain ⟨ch,hk,hc⟩:=hpx
   split at h
   ·rename_i b kk vk f hk'
    rw [hk'] at hk;injection hk with hk;subst hk
    split at h
    ·rename_i q1 q2 q3 _ _ _
     subst q1;subst q2;subst q3
     injection h with h;subst h
     obtain ⟨kt,et,hu,hkt⟩:=WN hks
     obtain ⟨_,p,_,⟨es,clock,hes,hM⟩,hsub⟩:=hS.get D hk'
     obtain ⟨es',clock',hrun,hM'⟩:=Abv (P:=P) (w:=w) hop hc hei hex hu hkt (hsub _ _ hes) hM
     have hcmp:∀v pk,CE (Chunk.map (σ:=σ) b kk0 kx f) v pk→CE (Chunk.map (σ:=σ) b kk0 kx (Aiu f iv xv)) v pk:= λv pk hv=>by cases pk<;>exact hv
     refine WT.Du ho hw (.inr ⟨hrun,rfl⟩) (H _ _ _ ht (AY.set hk' hcmp) (λ_=>CJ.set hk' λb t cs e=>by cases e) _ _ ⟨_,rfl⟩ ?_ ?_)
     ·exact (hF.ext (AY.set hk' hcmp) (hF.kok.set hk' hcmp λb' t' cs' e=>by cases e)).put g2 g3 λ_=>⟨rfl,Ar⟩
     ·unfold Ae
      rw [jR]
      have hb:=MapKept.heap_set (o':= .map es' clock') (hsub _ _ hes)
      refine Sat.write' hS (b:=b) (BJ D hk') (λY p hp=>?_) ⟨rfl,rfl,rfl⟩ (by simp) (λc hc=>hb.2 c hc) λY p p' hp hpo hpb=>?_
      ·obtain ⟨_,_,hh,_⟩:=hp;rw [hh];simp
      ·exact ⟨es',clock',by rw [hpb];exact hb.1,hM'⟩
    ·cases h
   ·cases h
  ·cases h
 ·
  rename_i m t0 hop
  have hpx:=Bh (x:=m) (g:=none) hF trivial
  split at h
  ·rename_i c kv hp hks
   obtain ⟨kk0,vk0⟩:=kv
   rw [hp,Bf] at hpx
   obtain ⟨ch,hk,hc⟩:=hpx
   split at h
   ·rename_i b kk vk f hk'
    rw [hk'] at hk;injection hk with hk;subst hk
    injection h with h;subst h
    obtain ⟨kt,et,hu,hkt⟩:=WN hks
    obtain ⟨_,p,_,⟨es,clock,hes,hM⟩,hsub⟩:=hS.get D hk'
    have hrun:(execOp a.eval o).run P w= .ok (.value (.tuple #[])) {w with heap:=w.heap.setIfInBounds b (.map #[] clock)}:=by
     simp only [execOp,hop,resolve,invoke,builtin,iQ,iY,Result.andThen_ok,nI,iC,jZ]
     rw [show a.eval m= .map (some b) from hc]
     simp only [Builtin.clear_,iQ,nE,jH,run_underlying hu,Result.andThen_ok,MapKept.run_getObj_map (hsub _ _ hes),MapKept.run_setObj_map _ (hsub _ _ hes),iY]
    have hcmp:∀v pk,CE (Chunk.map (σ:=σ) b kk vk f) v pk→CE (Chunk.map (σ:=σ) b kk vk AfN) v pk:= λv pk hv=>by cases pk<;>exact hv
    refine WT.Du ho hw (.inl hrun) (H _ _ _ ht (AY.set hk' hcmp) (λ_=>CJ.set hk' λb t cs e=>by cases e) _ _ ⟨_,rfl⟩ ?_ ?_)
    ·exact (hF.ext (AY.set hk' hcmp) (hF.kok.set hk' hcmp λb' t' cs' e=>by cases e)).put g2 g3 λ_=>⟨rfl,Ar⟩
    ·unfold Ae
     rw [jR]
     have hb:=MapKept.heap_set (o':= .map #[] clock) (hsub _ _ hes)
     refine Sat.write' hS (b:=b) (BJ D hk') (λY p hp=>?_) ⟨rfl,rfl,rfl⟩ (by simp) (λc hc=>hb.2 c hc) λY p p' hp hpo hpb=>?_
     ·obtain ⟨_,_,hh,_⟩:=hp;rw [hh];simp
     ·exact ⟨#[],clock,by rw [hpb];exact hb.1,by simp, λx=>rfl⟩
   ·cases h
  ·cases h
 ·
  rename_i t0 x hop
  split at h
  ·rename_i v hv
   have hev:=Au (g:=none) hF trivial hv
   cases h1:Ib v.cells.toList with
   |false=>rw [h1] at h;simp at h
   |true=>
    rw [h1] at h
    simp only [cond_true,iA] at h
    subst h
    have hpx:=Bh (x:=x) (g:=none) hF trivial
    rw [hev] at hpx
    refine WT.Du ho hw (.inl (AjD hop)) (H _ _ _ (ht w.heap.size) (AY.append K _) (λ_=>CJ.append K _) _ _ ⟨_,rfl⟩ ?_ ?_)
    ·have hk:CP (K++[jG w.heap.size t0 (GX v (BR none L x))]):=hF.kok.append λb t cs hm y hy=>by
      simp only [jM,Chunk.cells.injEq] at hm
      obtain ⟨_,_,rfl⟩:=hm
      exact (ND hpx y hy).ext (AY.append K _)
     exact (hF.ext (AY.append K _) hk).put g2 g3 λ_=>⟨rfl,Bf.2 ⟨_,jQ,rfl⟩⟩
    ·have:=Sat.alloc hS (.cells (a.eval x).cells t0)
     rw [hev] at this ⊢
     unfold Ae
     rw [jE]
     simp only [iC,jZ,den,Jf,mO]
     exact this
  ·cases h
 ·
  rename_i t0 hop
  split at h
  ·rename_i ti hi
   split at h
   ·rename_i v hz
    cases h1:Ib v.cells.toList with
    |false=>rw [h1] at h;simp at h
    |true=>
     rw [h1] at h
     simp only [cond_true,iA] at h
     subst h
     refine WT.Du ho hw (.inl (Ahd hop hi hz)) (H _ _ _ (ht w.heap.size) (AY.append K _) (λ_=>CJ.append K _) _ _ ⟨_,rfl⟩ ?_ ?_)
     ·have hk:CP (K++[jG w.heap.size t0 (GX v .no)]):=hF.kok.append λb t cs hm y hy=>by
       simp only [jM,Chunk.cells.injEq] at hm
       obtain ⟨_,_,rfl⟩:=hm
       exact (ND (K:=K) Ar y hy).ext (AY.append K _)
      exact (hF.ext (AY.append K _) hk).put g2 g3 λ_=>⟨rfl,Bf.2 ⟨_,jQ,rfl⟩⟩
     ·have:=Sat.alloc hS (.cells v.cells t0)
      unfold Ae
      rw [jE]
      simp only [iC,jZ,den,Jf,mO]
      exact this
   ·cases h
  ·cases h
 ·
  rename_i t0 x y hop
  have hpx:=Bh (x:=x) (g:=none) hF trivial
  have hpy:=Bh (x:=y) (g:=none) hF trivial
  split at h
  ·rename_i c off v m hp hv hm
   have hev:=Au (g:=none) hF trivial hv
   rw [hp,Bf] at hpx
   rw [hev] at hpy
   obtain ⟨ch,hk,hc⟩:=hpx
   split at h
   ·rename_i b tb cs hk'
    rw [hk'] at hk;injection hk with hk;subst hk
    cases hcond:iJ v.cells.size m&&jS (off+m) cs.length&&Ib v.cells.toList with
    |false=>rw [hcond] at h;simp at h
    |true=>
     rw [hcond] at h
     simp only [cond_true,iA] at h
     subst h
     simp only [iG] at hcond
     obtain ⟨⟨hs1,hs2⟩,hs3⟩:=hcond
     have hsz:=iF hs1
     have hfit:=iP hs2
     have hb:w.heap[b]? =some (.cells (cs.map (·.1)).toArray tb (0,0)):=Sat.pt hS (BJ D hk')
     have hrun:=Uo (P:=P) (o:=o) (a:=a) (w:=w) (cur:=(cs.map (·.1)).toArray) (t0:=tb) hop hc hm (by rw [hev];exact hsz) hb (by simpa using hfit) (by rw [hev];exact Abw hs3)
     have hcell:(GX v (BR none L y)).length=m:=by
      have:=congrArg iV (Jf v (BR none L y))
      simpa [hsz] using this
     refine WT.Du ho hw (.inr ⟨hrun,rfl⟩) (H _ _ _ ht (AY.set hk' λv pk hv=>by cases pk<;>exact hv) (λhn=>absurd hop (hn.1 _ _ _)) _ _ ⟨_,rfl⟩ ?_ ?_)
     ·have hkk:CP (K.set c (.cells b tb (Eg cs off (GX v (BR none L y))))):=hF.kok.set hk' (λv pk hv=>by cases pk<;>exact hv) λb' t' cs' e z hz=>by
       injection e with _ _ e;subst e
       rcases Ul _ _ _ z hz with hz|hz
       ·exact hF.kok _ _ _ _ hk' z hz
       ·exact ND hpy z hz
      exact (hF.ext (AY.set hk' λv pk hv=>by cases pk<;>exact hv) hkk).put g2 g3 λ_=>⟨rfl,Ar⟩
     ·unfold Ae
      rw [jR]
      refine Sat.write hS (BJ D hk') ⟨rfl,rfl,rfl⟩ (by simp) (λc hc=>setRow_other _ _ _ _ hc) λY k hk=>?_
      rw [setRow_heap _ _ _ _ _ _ hb] at hk
      show k b=_
      rw [hk,Uk,Jf,WL _ _ _ (by rw [lO,hsz];simpa using hfit),hev,lO,hsz]
   ·cases h
  ·rename_i c ei off v m hp hv hm
   have hev:=Au (g:=none) hF trivial hv
   rw [hp,Bf] at hpx
   obtain ⟨ch,hk,hc⟩:=hpx
   split at h
   ·rename_i ra tb len cap cols hk'
    rw [hk'] at hk;injection hk with hk;subst hk
    cases hcond:iJ v.cells.size m&&jS 1 m with
    |false=>rw [hcond] at h;simp at h
    |true=>
     rw [hcond] at h
     simp only [cond_true] at h
     simp only [iG] at hcond
     have hm1:=iP hcond.2
     split at h
     ·rename_i cols' hset
      injection h with h;subst h
      have hsz:=iF hcond.1
      obtain ⟨hin,b,rfl,hpv⟩:=hc
      obtain ⟨_,q,_,hq,hqs⟩:=hS.get D hk'
      obtain ⟨d1,d2,cur,d3,d4,d5,d6,d7⟩:=hq
      obtain ⟨s1,s2,s3,s4,s5⟩:=LM hin hset d1
      have hb:=hqs _ _ d3
      rw [Addr.Ig,lH] at hpv
      have hvl:v.cells.toList.length=m:=by simpa using hsz
      have hrow1:ei*cols.length+cols.length≤len*cols.length:=by
       have:(ei+1)*cols.length≤len*cols.length:=kM _ hin
       rw [mL] at this;exact this
      have hrow2:len*cols.length≤cap*cols.length:=kM _ d4
      have hoff:off+m≤cols.length:=by
       rcases s3 with s3|s3
       ·rw [s3] at hvl;simp at hvl;omega
       ·rw [hvl] at s3;exact s3
      have hfit:ei*cols.length+off+m≤cur.size:=by omega
      have hrun:=Uo (P:=P) (o:=o) (a:=a) (w:=w) (cur:=cur) (t0:=tb) hop hpv hm (by rw [hev];exact hsz) hb hfit (by rw [hev];exact s4)
      have hcmp:∀v pk,CE (kU (σ:=σ) (some b) tb len cap cols) v pk→CE (kU (σ:=σ) (some b) tb len cap cols') v pk:= λv pk hv=>by
       cases pk<;>simp only [CE,s1] at hv ⊢ <;>exact hv
      refine WT.Du ho hw (.inr ⟨hrun,rfl⟩) (H _ _ _ ht (AY.set hk' hcmp) (λhn=>absurd hop (hn.1 _ _ _)) _ _ ⟨_,rfl⟩ ?_ ?_)
      ·exact (hF.ext (AY.set hk' hcmp) (hF.kok.set hk' hcmp λb' t' cs' e=>by cases e)).put g2 g3 λ_=>⟨rfl,Ar⟩
      ·unfold Ae
       rw [jR]
       refine Sat.write' hS (b:=b) (BJ D hk') (λY p hp=>?_) ⟨rfl,rfl,rfl⟩ (by simp) (λc hc=>setRow_other _ _ _ _ hc) λY p p' hp hpo hpb=>?_
       ·obtain ⟨_,_,cs,hh,_⟩:=hp;rw [hh];simp
       ·rw [setRow_heap _ _ _ _ _ _ hb] at hpb
        refine ⟨s2,by omega,_,hpb,d4,d5,?_,?_⟩
        ·rw [s1]
         simp only [List.size_toArray,jP,List.length_take,List.length_drop,lO,hev,hsz]
         omega
        ·rw [s1,hev]
         exact Ai9 hin s1 hvl hoff (by simp;omega) d7 s5
     ·cases h
   ·cases h
  ·cases h
 ·
  rename_i t0 len parts hop
  split at h
  ·rename_i e hu
   split at h
   ·rename_i sz cols ei vals hsz hcols hei hvals
    split at h
    ·rename_i z hz
     split at h
     ·rename_i cells hf
      split at h
      ·rename_i cols' hto
       cases hcond:iJ sz cols.length&&jS 1 sz&&jS (len*sz) 16777216 with
       |false=>rw [hcond] at h;simp at h
       |true=>
        rw [hcond] at h
        simp only [cond_true,iA] at h
        subst h
        simp only [iG] at hcond
        have q1:=iF hcond.1.1
        have q2:=iP hcond.1.2
        have q3:=iP hcond.2
        obtain ⟨r1,r2,r3⟩:=Um hto (JZ 4 e cols hcols)
        rw [lH] at r2 r3
        have r3':flat cols' len=cells.toList:=by simpa [flat] using r3
        have hcs:cells.size=len*cols.length:=by
         have:=congrArg iV r3'
         rw [ET,r1] at this
         simpa using this.symm
        have hrun:(execOp a.eval o).run P w= .ok (.value (Ba (some w.heap.size) len len)) (w.alloc (.cells cells e)):=by
         have hb:=YZ (w:=w) (len:=len) (parts:=(parts.map λx=>(x.1,a.eval x.2))) hu hsz hei hz q3 (by
          rw [lT,Ur hF _ _ hvals];exact hf)
         simp only [execOp,hop,iQ]
         erw [hb]
         rfl
        have hlm:len≤maxLen:=by
         have:len*1≤len*sz:=Nat.mul_le_mul_left _ q2
         unfold maxLen;omega
        refine WT.Du ho hw (.inl hrun) (H _ _ _ (ht w.heap.size) (AY.append K _) (λ_=>CJ.append K _) _ _ ⟨_,rfl⟩ ?_ ?_)
        ·exact (hF.ext (AY.append K _) hF.kok.row).put g2 g3 λ_=>⟨rfl,Bf.2 ⟨_,jQ,rfl⟩⟩
        ·exact Ae.Aa1 D hS rfl r2 (by omega) (kC _) hlm (by rw [r1];exact hcs) (by rw [r1,←hcs,r3',←lO,List.take_length])
      ·cases h
     ·cases h
    ·cases h
   ·cases h
  ·cases h
 ·
  rename_i t0 l c hop
  split at h
  ·rename_i e kl li kc ci hu hl hc
   split at h
   ·rename_i ei cols hei hcols
    split at h
    ·rename_i z hz
     split at h
     ·rename_i cols1 hpr
      split at h
      ·rename_i cols' hrep
       cases hcond:iJ ei.size cols.length&&jS 1 ei.size&&jS 1 ei.bytes&&iJ z.cells.size ei.size with
       |false=>rw [hcond] at h;simp at h
       |true=>
        rw [hcond] at h
        simp only [cond_true,iA] at h
        subst h
        obtain ⟨⟨b1,b2,b3⟩,ht⟩:=ht
        have ht:=ht ⟨b1,b2,b3⟩
        simp only [iG] at hcond
        have q1:=iF hcond.1.1.1
        have q2:=iP hcond.1.1.2
        have q3:=iP hcond.1.2
        have q4:=iF hcond.2
        obtain ⟨p1,p2,p3,_,_⟩:=LK hpr (JZ 4 e cols hcols)
        obtain ⟨r1,r2,r3⟩:=QK hrep
        have hci:ci≤140737488355328:=by
         have:(1:Int)*ci≤ei.bytes*ci:=Int.mul_le_mul_of_nonneg_right (by omega) (by omega)
         omega
        have hel:=Au (g:=none) hF trivial hl
        have hec:=Au (g:=none) hF trivial hc
        have hmk:=run_make (P:=P) w t0 e ei z hu hei hz kl kc li ci b1 b2 (by omega) (by omega)
        have hrun:(execOp a.eval o).run P w= .ok (.value (Ba (some w.heap.size) li.toNat ci.toNat)) (w.alloc (.cells (madeCells z.cells (ci.toNat*ei.size)) e)):=by
         simp only [execOp,hop,hel,hec,iQ,hmk,Result.andThen_ok,iY]
         rfl
        refine WT.Du ho hw (.inl hrun) (H _ _ _ (ht w.heap.size) (AY.append K _) (λ_=>CJ.append K _) _ _ ⟨_,rfl⟩ ?_ ?_)
        ·exact (hF.ext (AY.append K _) hF.kok.row).put g2 g3 λ_=>⟨rfl,Bf.2 ⟨_,jQ,rfl⟩⟩
        ·refine Ae.Aa1 D hS rfl r2 (by omega) (by omega) (by unfold maxLen;omega) (by rw [r1,p1,←q1,size_madeCells]) ?_
         rw [r1,p1]
         have hpl:cols1.length=cols.length:=p1
         apply kV
         intro k
         by_cases hk:k<li.toNat*cols.length
         ·have hs:0<cols.length:=by omega
          have hkd:k=k/cols.length*cols.length+k%cols.length:=by rw [nG];exact (Nat.div_add_mod k cols.length).symm
          have hj:k%cols.length<cols.length:=lX _ hs
          have hi':k/cols.length<li.toNat:=Nat.div_lt_of_lt_mul (by rw [nG];exact hk)
          have hle:li.toNat*cols.length≤ci.toNat*ei.size:=by rw [q1];exact kM _ (by omega)
          obtain ⟨c2,hc2⟩:∃c2,cols'[k%cols.length]? =some c2:=⟨_,iO (by omega)⟩
          have hg:=flat_get hi' hc2
          rw [r1,p1,←hkd] at hg
          rw [hg,kJ,if_pos hk]
          have hat:=congrArg (λl=>l[k%cols.length]?) (r3 _ hi')
          simp only [iK,hc2,iR] at hat
          have hzc:=congrArg (λl=>l[k%cols.length]?) p3
          simp only [lF,iK] at hzc
          rw [←hat] at hzc
          have hsz:z.cells.size=cols.length:=by omega
          simp only [madeCells,lT,Array.toList_range,iK,nO (by omega:k<ci.toNat*ei.size),iR]
          rw [hsz]
          have hz':z.cells[k%cols.length]? =some (c2.at (k/cols.length)):=by simpa using hzc
          rw [getElem!_def,hz']
         ·rw [jF (by simp;omega),jF (by rw [ET,r1,p1];omega)]
      ·cases h
     ·cases h
    ·cases h
   ·cases h
  ·cases h
 ·
  rename_i s x t1 t2 hop
  split at h
  ·rename_i e hu
   split at h
   ·rename_i ei kd len cols ks m cols2 hei hd hs
    split at h
    ·rename_i z cols' hz happ
     cases hcond:iJ t1 t2&&neK kd ks&&iJ ei.size cols.length&&iJ ei.size cols2.length&&jS 1 ei.size&&jS 1 ei.bytes&&iJ z.cells.size ei.size&&cols2.all Acw with
     |false=>rw [hcond] at h;simp at h
     |true=>
      rw [hcond] at h
      simp only [cond_true,iA] at h
      subst h
      obtain ⟨hbytes,ht⟩:=ht
      have ht:=ht hbytes
      simp only [iG] at hcond
      obtain ⟨⟨⟨⟨⟨⟨⟨c1,c2⟩,c3⟩,c4⟩,c5⟩,c6⟩,c7⟩,c8⟩:=hcond
      have e1:=iF c1
      subst e1
      obtain ⟨a',cap,w',hrun,hS'⟩:=AeC D (ty:=o.type) hF hS hu hei hz hd hs c2 happ (iF c3) (iF c4) (iP c5) (iP c6) (iF c7) c8 hbytes
      have hex:(execOp a.eval o).run P w= .ok (.value (Ba a' (len+m) cap)) w':=by
       simp only [execOp,hop,resolve,invoke,builtin,iQ,iY,Result.andThen_ok,nI,iC,jZ]
       erw [hrun]
       rfl
      have hx:AY K (IP K kd++[.row a' e (len+m) cap cols']):=by
       cases kd with
       |none=>exact AY.append _ _
       |some k=>
        rcases hk:K[k]? with _|ch
        ·have:K.set k .dead=K:=List.set_eq_of_length_le (by
          rcases jC k K.length with h'|h'
          ·rw [iO h'] at hk;cases hk
          ·exact h')
         simp only [IP,this];exact AY.append _ _
        ·exact (AY.set hk λv pk _=>by cases pk<;>trivial).trans (AY.append _ _)
      have hck:((∀t x y,o.op≠ .store t x y)∧∀g a K,ext g a K=none)→CJ K (IP K kd++[.row a' e (len+m) cap cols']):= λ_=>by
       cases kd with
       |none=>exact CJ.append _ _
       |some k=>
        obtain ⟨_,_,_,_,_,hk⟩:=AeE hd
        exact (CJ.set hk λb t cs e=>by cases e).trans (CJ.append _ _)
      refine WT.Du ho hw (.inl hex) (H _ _ _ (ht a' cap) hx hck _ _ ⟨_,rfl⟩ ?_ hS')
      have hkk:CP (IP K kd++[.row a' e (len+m) cap cols']):=by
       refine CP.row ?_
       cases kd with
       |none=>exact hF.kok
       |some k=>
        rcases hk:K[k]? with _|ch
        ·have:K.set k .dead=K:=List.set_eq_of_length_le (by
          rcases jC k K.length with h'|h'
          ·rw [iO h'] at hk;cases hk
          ·exact h')
         simp only [IP,this];exact hF.kok
        ·exact hF.kok.set hk (λv pk _=>by cases pk<;>trivial) λb t cs e=>by cases e
      refine (hF.ext hx hkk).put g2 g3 λ_=>⟨rfl,Bf.2 ⟨.row a' e (len+m) cap cols',?_,rfl⟩⟩
      have hl:(IP K kd).length=K.length:=by cases kd<;>simp [IP]
      rw [←hl];exact jQ
    ·cases h
   ·cases h
  ·cases h
 ·
  rename_i t0 x hop
  have hpx:=Bh (x:=x) (g:=none) hF trivial
  split at h
  ·rename_i c0 i0 off hpr
   rw [hpr,Bf] at hpx
   obtain ⟨c,hk,hc⟩:=hpx
   split at h
   ·rename_i a0 m cap cols hk'
    rw [hk'] at hk;injection hk with hk;subst hk
    split at h
    ·rename_i v p chs hl
     injection h with h;subst h
     have hin:i0<m:=hc.1
     obtain ⟨Y0,q0,hy0,hq0,hs0⟩:=hS.get D hk'
     obtain ⟨hv,hno,hpv,hdn⟩:Ls P t0 cols i0 off=some v∧(∀c∈chs,∃a n cp cl,c=Chunk.ro a n cp cl)∧Bl (K++chs) v p∧∀Y k k':Hp,den D G (.ro a0 m cap cols) Y k→∀B∈chs.map (den D G),B Y k':=by
      unfold AgV at hl
      unfold Ls
      split at hl
      ·rename_i n0 ha hn
       cases hb:jS (off+n0) cols.length with
       |false=>rw [hb] at hl;cases hl
       |true=>
        rw [hb,cond_true] at hl
        split at hl
        ·rename_i chs' hch
         simp only [iA,iM] at hl
         obtain ⟨rfl,rfl,rfl⟩:=hl
         have hsub:∀Y:Hp,subs Y m cols→subs Y m ((cols.drop off).take n0):= λY h c hc=>h c (List.mem_of_mem_drop (List.mem_of_mem_take hc))
         have h0:=LU D (G:=G) (k':=q0) hin (hsub _ hq0.2.2) hch
         refine ⟨(by simp only [cond_true]),h0.2.1,Ip (h0.2.2.2 K), λY k k' hd=>(LU D (G:=G) (k':=k') hin (hsub _ hd.2.2) hch).1⟩
        ·cases hl
      ·rename_i ha
       split at hl
       ·rename_i c1 hc1
        split at hl
        ·rename_i chs' hch
         simp only [iA,iM] at hl
         obtain ⟨rfl,rfl,rfl⟩:=hl
         have hsub:∀Y:Hp,subs Y m cols→subs Y m [c1]:= λY h c hc=>h c (by rw [jM.1 hc];exact iU hc1)
         have h0:=LU D (G:=G) (k':=q0) hin (hsub _ hq0.2.2) hch
         refine ⟨(by simp only [hc1,iR]),h0.2.1,(by have:=h0.2.2.2 K;simp only [iC,jZ,TC,Aw] at this;exact this.1), λY k k' hd=>(LU D (G:=G) (k':=k') hin (hsub _ hd.2.2) hch).1⟩
        ·cases hl
       ·cases hl
      ·cases hl
     have hrun:(execOp a.eval o).run P w= .ok (.value v) w:=by
      rcases QE D hS hk' hc with ⟨_,_,_,_,_,b,e1,_⟩|⟨_,_,_,_,b,e1,e2,e3⟩|e1
      ·cases e1
      ·injection e1 with _ _ _ e1;subst e1
       exact Oh hop e2 (NF e3 hv)
      ·cases e1
     have hkk:CP (K++chs):=hF.kok.append λb t cs hm=>by obtain ⟨_,_,_,_,e⟩:=hno _ hm;cases e
     refine WT.Du ho hw (.inl hrun) (H _ _ _ ht (AY.append _ _) (λ_=>CJ.append _ _) _ _ ⟨_,rfl⟩ ?_ ?_)
     ·exact (hF.ext (AY.append _ _) hkk).put g2 g3 λ_=>⟨rfl,hpv⟩
     ·unfold Ae
      rw [jE]
      exact Sat.Afu hS (BJ D hk') hdn
    ·cases h
   ·cases h
  ·cases h
 ·
  rename_i t0 x lo hi mx hop0
  split at h
  ·rename_i hx
   have hop:=hop0
   split at h
   ·rename_i e0 c0 ad m0 cap0 k0 i hu hpr hvx hvi
    have hpx:=Bh (x:=x) (g:=none) hF trivial
    have hex:=Au (g:=none) hF trivial hvx
    have hei:=Au (g:=none) hF trivial hvi
    rw [hpr,hex,Bf] at hpx
    obtain ⟨c,hk,hc⟩:=hpx
    split at h
    ·rename_i sz ra te m cap cols hsz hk'
     rw [hk'] at hk;injection hk with hk;subst hk
     injection h with h;subst h
     simp only [CE] at hc
     obtain ⟨hb,ht⟩:=ht
     have ht2:=ht hb
     injection hc with hc1 hc2 hc3
     subst hc1;subst hc2;subst hc3
     have hin:i.toNat≤m0:=by omega
     obtain ⟨_,q,_,hq,_⟩:=hS.get D hk'
     have hmc:m0≤cap0:=by
      obtain ⟨_,_,h3⟩:=hq
      cases ra with
      |none=>simp only at h3;omega
      |some b=>obtain ⟨cs,_,h5,_⟩:=h3;exact h5
     have hx1:AY K (K.set c0 .dead):=AY.set hk' λv pk _=>by cases pk<;>trivial
     have hkk:CP (K.set c0 .dead++[.row ra te i.toNat cap0 (cols.map (Ez i.toNat))]):=CP.row (hF.kok.set hk' (λv pk _=>by cases pk<;>trivial) λb t cs e=>by cases e)
     refine WT.Du ho hw (.inl (Aa3 hop hu hsz hex hei hb.1 (by omega))) (H _ _ _ ht2 (hx1.trans (AY.append _ _)) (λ_=>(CJ.set hk' λb t cs e=>by cases e).trans (CJ.append _ _)) _ _ ⟨_,rfl⟩ ?_ ?_)
     ·refine (hF.ext (hx1.trans (AY.append _ _)) hkk).put g2 g3 λ_=>⟨rfl,Bf.2 ⟨.row ra te i.toNat cap0 (cols.map (Ez i.toNat)),?_,rfl⟩⟩
      have hl:(K.set c0 (.dead:Chunk σ)).length=K.length:=by simp
      rw [←hl];exact jQ
     ·unfold Ae
      rw [jE,jR]
      exact Sat.moved hS (BJ D hk') (λY k hk=>AiB D hin hk) λ_ _=>trivial
    ·rename_i sz ra m cap cols hsz hk'
     rw [hk'] at hk;injection hk with hk;subst hk
     injection h with h;subst h
     simp only [CE] at hc
     obtain ⟨hb,ht⟩:=ht
     have ht2:=ht hb
     injection hc with hc1 hc2 hc3
     subst hc1;subst hc2;subst hc3
     have hin:i.toNat≤m0:=by omega
     obtain ⟨_,q,_,hq,_⟩:=hS.get D hk'
     have hkk:CP (K++[.ro ad i.toNat cap0 (cols.map (Ez i.toNat))]):=hF.kok.append λb t cs hm=>by simp at hm
     refine WT.Du ho hw (.inl (Aa3 hop hu hsz hex hei hb.1 (by have:=hq.2.1;omega))) (H _ _ _ ht2 (AY.append _ _) (λ_=>CJ.append _ _) _ _ ⟨_,rfl⟩ ?_ ?_)
     ·exact (hF.ext (AY.append _ _) hkk).put g2 g3 λ_=>⟨rfl,Bf.2 ⟨.ro ad i.toNat cap0 (cols.map (Ez i.toNat)),jQ,rfl⟩⟩
     ·unfold Ae
      rw [jE]
      refine Sat.AcE hS (BJ D hk') λY k k' hk=>⟨?_,by have:=hk.2.1;omega,Ahk hk.2.2 hin⟩
      rw [AcF]
      exact AfZ hin hk.1
    ·cases h
   ·cases h
  ·rename_i lx
   have hop:=hop0
   split at h
   ·rename_i e0 c0 ad m0 cap0 k0 i hu hpr hvx hvi
    have hpx:=Bh (x:=x) (g:=none) hF trivial
    have hex:=Au (g:=none) hF trivial hvx
    have hei:=Au (g:=none) hF trivial hvi
    rw [hpr,hex,Bf] at hpx
    obtain ⟨c,hk,hc⟩:=hpx
    split at h
    ·rename_i sz ra m cap cols hsz hk'
     rw [hk'] at hk;injection hk with hk;subst hk
     cases hq:iJ sz cols.length with
     |false=>rw [hq] at h;cases h
     |true=>
     rw [hq,cond_true] at h
     injection h with h;subst h
     simp only [CE] at hc
     obtain ⟨hb,ht⟩:=ht
     have ht2:=ht hb
     injection hc with hc1 hc2 hc3
     subst hc1;subst hc2;subst hc3
     have hkk:CP (K++[.ro (KW ad cap0 i.toNat sz) (m0-i.toNat) (cap0-i.toNat) (cols.map (FZ i.toNat))]):=hF.kok.append λb t cs hm=>by simp at hm
     refine WT.Du ho hw (.inl (Agb hop hu hsz hex hei hb.1 hb.2)) (H _ _ _ ht2 (AY.append _ _) (λ_=>CJ.append _ _) _ _ ⟨_,rfl⟩ ?_ ?_)
     ·exact (hF.ext (AY.append _ _) hkk).put g2 g3 λ_=>⟨rfl,Bf.2 ⟨.ro (KW ad cap0 i.toNat sz) (m0-i.toNat) (cap0-i.toNat) (cols.map (FZ i.toNat)),jQ,rfl⟩⟩
     ·unfold Ae
      rw [jE]
      refine Sat.AcE hS (BJ D hk') λY k k' hk=>⟨?_,by have:=hk.2.1;omega,Ahl hk.2.2⟩
      rw [AcG]
      exact Aga hk.2.1 (iF hq) hk.1
    ·cases h
   ·cases h
  ·cases h
 ·
  rename_i h1 h2 h3 h4 h5 h6
  split at h
  ·rename_i g args prs hcall
   refine (Bool.eq_false_or_eq_true (iJ g L9)).elim (λhk=>by rw [hk] at h;cases h) λhk=>?_
   rw [hk] at h
   dsimp only [cond_false] at h
   have hgk:g≠L9:= λe=>by rw [e,nH] at hk;cases hk
   split at h
   ·rename_i e he
    split at h
    ·rename_i cd hcd
     have hok:=Ac2 D hT he
     obtain ⟨hrun,hps1,hps2⟩:=Jh (g:=none) hF trivial hcall w
     obtain ⟨r,hr⟩:∃r,r=cd.r cd.x:=⟨_,rfl⟩
     have hout:=(hok args cd r hcd hr).1
     split at h
     ·rename_i q st j hob hkj
      injection h with h;subst h
      have ht:=ht _ rfl
      dsimp only at ht
      rw [←hr] at ht
      obtain ⟨hpre,ht⟩:=Eu ht
      obtain ⟨k',hkm,hk',hc⟩:=MQ D hok hps1 hps2 hcd hr hpre hS hob
      rw [hkj,jM] at hkm
      subst hkm
      have hcmp:∀v pk,CE (kL (σ:=σ) q st) v pk→CE (kL (σ:=σ) q (r.new.getD st)) v pk:= λv pk hv=>by cases pk<;>exact hv
      have hx:∀acs,AY K (K.set k' (.obj q (r.new.getD st))++jA Dq r.rows acs):= λacs=>(AY.set hk' hcmp).trans (AY.append _ _)
      refine WT.Oj ho hw hrun hc λen w' ⟨acs,e1,e2,e3⟩=>⟨_,e2,H _ _ _ (H9 ht acs e1) (hx acs) (λ_=>(CJ.set hk' λb t cs e=>by cases e).trans (CJ.append _ _)) _ _ ⟨_,rfl⟩ ?_ e3⟩
      have hx:=hx acs
      have hkk:CP (K.set k' (.obj q (r.new.getD st))++jA Dq r.rows acs):=
       (hF.kok.set hk' hcmp λb t cs e=>by cases e).append λb t cs hm=>absurd hm (PI r.rows acs b t cs)
      have hp:=hout (K.set k' (.obj q (r.new.getD st))) acs e1
      rw [List.length_set] at hp
      exact (hF.ext hx hkk).put g2 g3 λ_=>⟨rfl,hp⟩
     ·rename_i hob hkj
      injection h with h;subst h
      have ht:=ht _ rfl
      dsimp only at ht
      rw [←hr] at ht
      obtain ⟨hpre,ht⟩:=Eu ht
      refine WT.Oj ho hw hrun (MP D hok hps1 hps2 hcd hr hpre hS hob) λen w' ⟨acs,e1,e2,e3⟩=>⟨_,e2,H _ _ _ (H9 ht acs e1) (AY.append K _) (λ_=>CJ.append K _) _ _ ⟨_,rfl⟩ ?_ e3⟩
      have hkk:CP (K++jA Dq r.rows acs):=hF.kok.append λb t cs hm=>absurd hm (PI r.rows acs b t cs)
      exact (hF.ext (AY.append K _) hkk).put g2 g3 λ_=>⟨rfl,hout K acs e1⟩
     ·cases h
    ·
     split at h
     ·rename_i t0 he
      injection h with h;subst h
      obtain ⟨hrun,hps1,hps2⟩:=Jh (g:=none) hF trivial hcall w
      refine WT.Oj ho hw hrun ((hext _ _ _ _ _ he w hps1 hF.kok hS _ (Ed ht)).1 hgk) λen w' ⟨v,p,K',e1,e2,e3,e4,e5,e6⟩=>⟨v,e1,H _ _ _ e2 e3 (λhn=>(by rw [hn.2] at he;cases he)) _ _ ⟨_,rfl⟩ ?_ e6⟩
      exact (hF.ext e3 e4).put g2 g3 λ_=>⟨rfl,e5⟩
     ·cases h
   ·
    split at h
    ·rename_i t0 he
     injection h with h;subst h
     obtain ⟨hrun,hps1,hps2⟩:=Jh (g:=none) hF trivial hcall w
     refine WT.Oj ho hw hrun ((hext _ _ _ _ _ he w hps1 hF.kok hS _ (Ed ht)).1 hgk) λen w' ⟨v,p,K',e1,e2,e3,e4,e5,e6⟩=>⟨v,e1,H _ _ _ e2 e3 (λhn=>(by rw [hn.2] at he;cases he)) _ _ ⟨_,rfl⟩ ?_ e6⟩
     exact (hF.ext e3 e4).put g2 g3 λ_=>⟨rfl,e5⟩
    ·cases h
  ·
   split at h
   ·rename_i v hv
    injection h with h;subst h
    obtain ⟨hrun,k0,x0,rfl⟩:=Ahm hF hv
    refine WT.Du ho hw (.inl (hrun w)) (H _ _ _ ht (AY.refl K) (λ_ _ _ _ _ h=>h) _ _ ⟨_,rfl⟩ ?_ hS)
    exact hF.put g2 g3 λ_=>⟨rfl,trivial⟩
   ·
    split at h
    ·rename_i args prs hy
     split at h
     ·rename_i t0 he
      injection h with h;subst h
      obtain ⟨l,asv,rfl,hrun,hps⟩:=Ae6 (g:=none) hF trivial hy w
      have hx:=(hext _ _ _ _ _ he w hps hF.kok hS _ (Ed ht)).2 rfl l asv.toArray (by simp)
      refine WT.Ai3 ho hw hrun hx λen w' ⟨v,p,K',e1,e2,e3,e4,e5,e6⟩=>⟨v,e1,H _ _ _ e2 e3 (λhn=>(by rw [hn.2] at he;cases he)) _ _ ⟨_,rfl⟩ ?_ e6⟩
      exact (hF.ext e3 e4).put g2 g3 λ_=>⟨rfl,e5⟩
     ·cases h
    ·cases h
theorem H5 {T:List (Nat×Entry σ)} (hT:BD D P T) {ops:Array Oper} {i:Nat} {rest:List Nat} {td:List Item} {k:Value→Pr→List (Chunk σ)→Tree σ} {t:Tree σ} {R':Value→Pr→List (Chunk σ)→Prop} {S':List Ab→List Af→List (Chunk σ)→Prop}
 {ext:Nat→List (Value×Pr)→List (Chunk σ)→Option (Tree σ)}
 (hext:∀g args prs K t,ext g (lI args prs) K=some t→∀w,Aw K args prs→CP K→Ae D E G w K→∀Q:Value→Pr→List (Chunk σ)→Prop,t.holds Q (λ_ _ _=>False)→QG P g args.toArray w λen w'=>∃v p K',en= .returned v∧Q v p K'∧AY K K'∧CP K'∧Bl K' v p∧Ae D E G w' K')
 (ho:ops[i]? =some o) (hw:iZ o (yielded ops a.tmps)=true) (g2:∀d,o.dst=some d→d<n) (hF:Fr n L K a) (hS:Ae D E G w K) (h:GY P T ext L K o k=some t) (ht:t.holds R' S')
 (H:∀v pr K',(k v pr K').holds R' S'→AY K K'→(((∀t x y,o.op≠ .store t x y)∧∀g a K,ext g a K=none)→CJ K K')→∀a' w',(∃u,a'=a.put o.dst u)→Fr n (Ce o.dst none v pr L) K' a'→Ae D E G w' K'→WT P f R (.inRegion ops rest::td) a' w'):WT P f R (.inRegion ops (i::rest)::td) a w:=by
 unfold GY at h
 split at h
 ·rename_i t' hm
  injection h with h;subst h
  exact AeF D ho hw g2 hF hS hm ht λv pr K' h1 h2 h3=>H v pr K' h1 h2 λ_=>h3
 ·split at h
  ·rename_i t' hm
   injection h with h;subst h
   exact AeG D ho hw g2 hF hS hm ht λv pr K' h1 h2 h3=>H v pr K' h1 h2 λ_=>h3
  ·exact AcH D hT hext ho hw g2 hF hS h ht H
end
theorem Aa4 {c:Nat} {b:Bool} {K:List (Chunk σ)} {tm:Array Value} (h:tm.getD c undef= .bool b):∀{L:List Af},(∀e∈L,e.ok K tm)→∀e∈known0 c b L,e.ok K tm
 |[],_,e,he=>by simp [known0] at he
 |x::r,hL,e,he=>by
  have ih:=Aa4 h (L:=r) (λe he=>hL e (by simp [he]))
  have hx:=hL x (by simp)
  simp only [known0] at he
  split at he
  ·rename_i c' b' hg
   cases hc:iJ c' c with
   |false=>
    rw [hc] at he
    simp only [cond_false,iE] at he
    rcases he with rfl|he
    ·exact hx
    ·exact ih e he
   |true=>
    rw [hc] at he
    have:=iF hc
    subst this
    cases hb:b'==b with
    |false=>rw [hb] at he;simp only [cond_true,cond_false] at he;exact ih e he
    |true=>
     rw [hb] at he
     have:=eq_of_beq hb
     subst this
     simp only [cond_true,iE] at he
     rcases he with rfl|he
     ·intro _
      exact hx (by rw [hg];exact h)
     ·exact ih e he
  ·rename_i hg
   cases hc:iJ x.s c with
   |false=>
    rw [hc] at he
    simp only [cond_false,iE] at he
    rcases he with rfl|he
    ·exact hx
    ·exact ih e he
   |true=>
    rw [hc] at he
    simp only [cond_true,iE] at he
    rcases he with rfl|he
    ·intro _;exact ⟨h,Ar⟩
    ·exact ih e he
theorem Us {c:Nat} {b:Bool} {tm:Array Value}:∀{L:List Af},(∀e∈L,¬GV tm e.g→tm.getD e.s undef=undef)→∀e∈known0 c b L,¬GV tm e.g→tm.getD e.s undef=undef
 |[],_,e,he=>by simp [known0] at he
 |x::r,hL,e,he=>by
  have ih:=Us (c:=c) (b:=b) (L:=r) (λe he=>hL e (by simp [he]))
  have hx:=hL x (by simp)
  simp only [known0] at he
  split at he
  ·rename_i c' b' hg
   cases hc:iJ c' c with
   |false=>
    rw [hc] at he
    simp only [cond_false,iE] at he
    rcases he with rfl|he
    ·exact hx
    ·exact ih e he
   |true=>
    rw [hc] at he
    cases hb:b'==b with
    |false=>rw [hb] at he;simp only [cond_true,cond_false] at he;exact ih e he
    |true=>
     rw [hb] at he
     simp only [cond_true,iE] at he
     rcases he with rfl|he
     ·intro hg;exact absurd trivial hg
     ·exact ih e he
  ·rename_i hg
   cases hc:iJ x.s c with
   |false=>
    rw [hc] at he
    simp only [cond_false,iE] at he
    rcases he with rfl|he
    ·exact hx
    ·exact ih e he
   |true=>
    rw [hc] at he
    simp only [cond_true,iE] at he
    rcases he with rfl|he
    ·intro hg;exact absurd trivial hg
    ·exact ih e he
theorem Fr.known {n:Nat} {L:List Af} {K:List (Chunk σ)} {a:Act} (hF:Fr n L K a) (hn:n≤1000000) {c:Nat} {b:Bool} (h:a.tmps.getD c undef= .bool b):Fr n (known c b L) K a:=by
 refine ⟨hF.kok,hF.defers,hF.size, λe he=>?_, λe he=>?_⟩
 rotate_left
 ·simp only [Sl.known,iE] at he
  rcases he with rfl|he
  ·intro hg;exact absurd trivial hg
  ·exact Us hF.skipd e he
 simp only [Sl.known,iE] at he
 rcases he with rfl|he
 ·intro _
  refine ⟨?_,Ar⟩
  have:=hF.size
  have hle:a.tmps.size≤1000000+c:=by omega
  show a.tmps.getD (1000000+c) undef=undef
  rw [jB,kA hle];rfl
 ·exact Aa4 h hF.ents e he
theorem Fr.fixMark {n:Nat} {L':List Af} {K:List (Chunk σ)} {a:Act} (hF:Fr n L' K a) (o:Oper) (L:List Af):Fr n (Sl.fixMark n o L L') K a:=by
 unfold Sl.fixMark
 split
 ·rename_i d _ _
  cases hb:(jS n 1000000&&Acz L o) with
  |true=>
   simp only [cond_true]
   simp only [iG] at hb
   have hn:=iP hb.1
   refine ⟨hF.kok,hF.defers,hF.size, λe he hg=>?_, λe he hg=>?_⟩
   ·simp only [iE] at he
    rcases he with rfl|he
    ·refine ⟨?_,Ar⟩
     have:=hF.size
     have hle:a.tmps.size≤1000000+d:=by omega
     show a.tmps.getD (1000000+d) undef=undef
     rw [jB,kA hle];rfl
    ·exact hF.ents e he hg
   ·simp only [iE] at he
    rcases he with rfl|he
    ·exact absurd trivial hg
    ·exact hF.skipd e he hg
  |false=>
   simp only [cond_false]
   cases hm:marked d L' with
   |true=>simp only [cond_true];exact hF.sub λe he=>(Lu he).1
   |false=>exact hF
 ·exact hF
theorem Fr.markL {n:Nat} {L:List Af} {K:List (Chunk σ)} {a:Act} (hF:Fr n L K a):∀mk:List Nat,Fr n (Sl.markL n mk L) K a
 |[]=>hF
 |x::r=>by
  have ih:=Fr.markL hF r
  unfold Sl.markL
  cases hb:jS n 1000000 with
  |false=>exact ih
  |true=>
   have hn:=iP hb
   simp only [cond_true]
   refine ⟨ih.kok,ih.defers,ih.size, λe he hg=>?_, λe he hg=>?_⟩
   ·simp only [iE] at he
    rcases he with rfl|he
    ·refine ⟨?_,Ar⟩
     have:=hF.size
     have hle:a.tmps.size≤1000000+x:=by omega
     rw [jB,kA hle];rfl
    ·exact ih.ents e he hg
   ·simp only [iE] at he
    rcases he with rfl|he
    ·exact absurd trivial hg
    ·exact ih.skipd e he hg
theorem Fr.unmark {n:Nat} {L:List Af} {K:List (Chunk σ)} {a:Act} (hF:Fr n L K a) (o:Oper):Fr n (Sl.unmark o L) K a:=by
 unfold Sl.unmark
 split
 ·rename_i d _
  cases marked d L with
  |true=>simp only [cond_true];exact hF.sub λe he=>(Lu he).1
  |false=>exact hF
 ·exact hF
theorem Jl {R':Value→Pr→List (Chunk σ)→Prop} {S':List Ab→List Af→List (Chunk σ)→Prop} {mk t b:Bool} {A S:Tree σ} (h:(JX mk t b A S).holds R' S'):(t=b→A.holds R' S')∧(t=!b→S.holds R' S'):=by
 cases mk<;>cases t<;>cases b<;>simp [JX,Tree.holds] at h ⊢ <;>exact h
end
section
open Go.RowKit
variable {σ:Type} (D:Addr→σ→BN)
theorem Ii {i:Nat} {l:List Nat}:H7 i l=true↔i∈l:=by
 unfold H7
 rw [lA]
 exact ⟨λ⟨x,h,e⟩=>by rw [iF e];exact h, λh=>⟨i,h,nH i⟩⟩
theorem EN {j x:Nat} {l:List Nat}:x∈Ic j l↔x∈l∧x≠j:=by
 unfold Ic
 rw [lY]
 cases hb:iJ x j with
 |true=>have:=iF hb;simp [this]
 |false=>simp [Nat.ne_of_beq_eq_false hb]
theorem Ko {rd:List Nat} {L:List Af} {e:Af} (h:e∈keepR rd L):e∈L∧e.s∈rd∧∀c b,e.g=some (c,b)→c∈rd:=by
 induction L with
 |nil=>simp [keepR] at h
 |cons x r ih=>
  simp only [keepR] at h
  cases hb:(H7 x.s rd&&gIn rd x.g) with
  |false=>rw [hb] at h;simp only [cond_false] at h;have:=ih h;exact ⟨by simp [this.1],this.2⟩
  |true=>
   rw [hb] at h
   simp only [cond_true,iE] at h
   rcases h with rfl|h
   ·simp only [iG] at hb
    refine ⟨by simp,Ii.1 hb.1, λc b hg=>?_⟩
    rw [hg] at hb
    exact Ii.1 hb.2
   ·have:=ih h;exact ⟨by simp [this.1],this.2⟩
def Agr (R:List Nat) (a b:Act):Prop:=∀x∈R,a.tmps.getD x undef=b.tmps.getD x undef
theorem Agr.gv {R:List Nat} {a b:Act} (h:Agr R a b) {g:Option (Nat×Bool)} (hg:∀c t,g=some (c,t)→c∈R):GV a.tmps g↔GV b.tmps g:=by
 cases g with
 |none=>exact Iff.rfl
 |some x=>
  obtain ⟨c,t⟩:=x
  simp only [GV]
  rw [h c (hg c t rfl)]
theorem Fr.agr {n:Nat} {L:List Af} {K:List (Chunk σ)} {a b:Act} {R:List Nat} (h:Fr n L K a) (hL:∀e∈L,e.s∈R∧∀c t,e.g=some (c,t)→c∈R) (hab:Agr R a b) (hd:b.defers=[]) (hs:b.tmps.size=n):Fr n L K b:=by
 refine ⟨h.kok,hd,hs, λe he hg=>?_, λe he hg=>?_⟩
 ·obtain ⟨h1,h2⟩:=hL e he
  rw [←hab _ h1]
  exact h.ents e he ((hab.gv h2).2 hg)
 ·obtain ⟨h1,h2⟩:=hL e he
  rw [←hab _ h1]
  exact h.skipd e he λhg'=>hg ((hab.gv h2).1 hg')
theorem OV {n:Nat} {L:List Af} {K:List (Chunk σ)} {a b:Act} {R:List Nat} (h:Fr n L K a) (hab:Agr R a b) (hd:b.defers=[]) (hs:b.tmps.size=n):Fr n (keepR R L) K b:=
 (h.sub λ_ he=>(Ko he).1).agr (λ_ he=>(Ko he).2) hab hd hs
theorem Om (K:List (Chunk σ)) (k:Nat):(Oc K)[k]? =(K[k]?).map J5:=by unfold Oc;rw [iK]
theorem Ak7 (K:List (Chunk σ)) (k:Nat):(Oc K)[k]? =K[k]? ∨((Oc K)[k]? =some .dead):=by
 rw [Om]
 cases K[k]? with
 |none=>exact .inl rfl
 |some c=>
  cases c with
  |ro a n cap cols=>simp only [iR,J5];cases D8 cols with
   |true=>exact .inr rfl
   |false=>exact .inl rfl
  |_=>first|exact .inl rfl|exact .inr rfl
theorem WR (b:Nat):∀(K:List (Chunk σ)) (k:Nat),Et b k (Oc K)=Et b k K
 |[],_=>rfl
 |c::r,k=>by
  have ih:=WR b r (k+1)
  cases c with
  |ro a n cap cols=>
   show Et b k ((bif D8 cols then .dead else .ro a n cap cols)::Oc r)=_
   cases hf:D8 cols with
   |true=>
    simp only [cond_true]
    match a with
    |none=>exact ih
    |some ⟨b',0,none⟩=>simp only [Et,hf,jW,oB,cond_false];exact ih
    |some ⟨b',0,some _⟩=>exact ih
    |some ⟨b',m+1,x⟩=>exact ih
   |false=>
    simp only [cond_false]
    match a with
    |none=>exact ih
    |some ⟨b',0,none⟩=>simp only [Et];rw [ih]
    |some ⟨b',0,some _⟩=>exact ih
    |some ⟨b',m+1,x⟩=>exact ih
  |_=>exact ih
theorem AjN (K:List (Chunk σ)):AY K (Oc K):= λk c h=>⟨J5 c,by rw [Om,h];rfl, λv pk hv=>by
 cases c with
 |ro a n cap cols=>simp only [J5];cases D8 cols with
  |true=>trivial
  |false=>exact hv
 |_=>first|exact hv|(simp only [J5,CE])⟩
theorem AjO (K:List (Chunk σ)):CP (Oc K):= λk b t cs hk=>by
 rw [Om] at hk
 cases hc:K[k]? with
 |none=>rw [hc] at hk;cases hk
 |some c=>
  rw [hc] at hk
  cases c with
  |ro a n cap cols=>simp only [iR,J5] at hk;cases hf:D8 cols<;>rw [hf] at hk<;>simp at hk
  |_=>simp [J5] at hk
def AcI (G:Hp) (Kz:List (Chunk σ)):Prop:=∀c∈Kz,∀G':Hp,(∀b o,G b=some o→G' b=some o)→∀Y h:Hp,den D G' c Y h
theorem Ae.Ak8 {E:Ev} {G:Hp} {w:World} {K:List (Chunk σ)} (h:Ae D E G w K):AcI D G (Oc K):= λc hc G' hG Y hh=>by
 obtain ⟨k,hk⟩:=kP hc
 rw [Om] at hk
 cases hK:K[k]? with
 |none=>rw [hK] at hk;cases hk
 |some d=>
  rw [hK] at hk
  simp only [iR,iA] at hk
  subst hk
  obtain ⟨_,q,_,hq,_⟩:=h.get D hK
  cases d with
  |roc b t vs=>simp only [J5,den] at hq ⊢;exact hG _ _ hq
  |ro a n cap cols=>
   simp only [J5]
   cases hf:D8 cols with
   |true=>trivial
   |false=>
    have h1:=hq.1
    rw [hf] at h1
    refine ⟨?_,hq.2.1,YU hf⟩
    rw [hf]
    exact Dl.mono hG h1
  |_=>simp only [J5,den]
theorem AcI.sat {G:Hp} {Kz:List (Chunk σ)} (h:AcI D G Kz) {w:World} (hG:G.sub w):Ae D ⟨w, λb=>w.heap[b]?⟩ (λb=>w.heap[b]?) w Kz:=
 ⟨λb=>w.heap[b]?,⟨Hp.le_refl _, λb hb=> .inr hb⟩, λ_ _ h=>h,⟨rfl,rfl,rfl,kC _⟩,Hp.AgQ (λ_ _ h=>h) (λ_ _ h=>h), λ_=>none, λb i hb=>(by cases hb), λi A hi=>by
   obtain ⟨A',hi',rfl⟩:=Hu hi
   clear hi;have hi:=hi'
   rw [iK] at hi
   cases hk:Kz[i]? with
   |none=>rw [hk] at hi;cases hi
   |some c=>
    rw [hk] at hi
    simp only [iR,iA] at hi
    subst hi
    exact λY _=>h c (iU hk) _ (λb o hb=>hG b o hb) Y _⟩
theorem BP.keeps {E:World} {G:Hp} {w w':World} {As:List Dn} (h:BP E G w As) (h':Env w w') (k2:Hp.sub (λb=>w.heap[b]?) w'):BP E G w' As:=by
 obtain ⟨⟨e1,e2,e3,e4⟩,h2,o,h3,h4⟩:=h
 obtain ⟨f1,f2,f3,f4⟩:=h'
 refine ⟨⟨f1.trans e1,f2.trans e2,f3.trans e3,nX e4 f4⟩, λb x hb=>k2 b x (h2 b x hb),o, λb i hb=>⟨(h3 b i hb).1,Nat.lt_of_lt_of_le (h3 b i hb).2 f4⟩, λi A hi=>?_⟩
 have:part w' o i=part w o i:=by
  funext b
  unfold part
  by_cases hb:o b=some i
  ·rw [if_pos hb,if_pos hb]
   have hlt:=(h3 b i hb).2
   have he:w.heap[b]? =some w.heap[b]:=jJ hlt
   rw [he]
   exact k2 b _ he
  ·rw [if_neg hb,if_neg hb]
 rw [this];exact h4 i A hi
theorem Sat.keeps {E:Ev} {G:Hp} {w w':World} {As Bs:List BN} (h:Sat E G w As) (h':Sat ⟨w, λb=>w.heap[b]?⟩ (λb=>w.heap[b]?) w' Bs):Sat E G w' As:=by
 obtain ⟨Z,hz,hw,h0⟩:=h
 exact Sat.of hz hw h0.2.1 (h0.keeps h'.env h'.sub)
theorem AcJ {P:Program} {o:Oper} {a:Act} {C C':World→Prop} {w:World} {v:Value} (h:o.quietAt P a C w v) (hC:∀w',C w'→C' w'):o.quietAt P a C' w v:=by
 unfold Oper.quietAt at h ⊢
 cases hr:(execOp a.eval o).run P w with
 |halt x w'=>rw [hr] at h;exact h.elim
 |ok nx w'=>
  rw [hr] at h
  cases nx with
  |value u=>exact h
  |skip=>exact h
  |enter g args=>
   obtain ⟨h1,h2⟩:=h
   refine ⟨h1, λcs=>?_⟩
   obtain ⟨e,w'',fr,⟨he,hc⟩,hrest⟩:=h2 cs
   exact ⟨e,w'',fr,⟨he,hC _ hc⟩,hrest⟩
  |_=>exact h.elim
theorem TI (K:List (Chunk σ)) (k:Nat):(frs K)[k]? =(K[k]?).map OL:=by unfold frs;rw [iK]
theorem Ak9 (K:List (Chunk σ)) (k:Nat):(frs K)[k]? =K[k]? ∨(frs K)[k]? =some .dead:=by
 rw [TI]
 cases K[k]? with
 |none=>exact .inl rfl
 |some c=>
  cases c with
  |ro a n cap cols=>simp only [iR,OL];cases D8 cols with
   |true=>exact .inr rfl
   |false=>exact .inl rfl
  |_=>first|exact .inl rfl|exact .inr rfl
theorem WS (b:Nat):∀(K:List (Chunk σ)) (k:Nat),Et b k (frs K)=Et b k K
 |[],_=>rfl
 |c::r,k=>by
  have ih:=WS b r (k+1)
  cases c with
  |ro a n cap cols=>
   show Et b k ((bif D8 cols then .dead else .ro a n cap cols)::frs r)=_
   cases hf:D8 cols with
   |true=>
    simp only [cond_true]
    match a with
    |none=>exact ih
    |some ⟨b',0,none⟩=>simp only [Et,hf,jW,oB,cond_false];exact ih
    |some ⟨b',0,some _⟩=>exact ih
    |some ⟨b',m+1,x⟩=>exact ih
   |false=>
    simp only [cond_false]
    match a with
    |none=>exact ih
    |some ⟨b',0,none⟩=>simp only [Et];rw [ih]
    |some ⟨b',0,some _⟩=>exact ih
    |some ⟨b',m+1,x⟩=>exact ih
  |_=>exact ih
theorem AkA (K:List (Chunk σ)) (b:Nat):Et b 0 (frs K)=Et b 0 K:=WS b K 0
theorem Afv (K:List (Chunk σ)):AY K (frs K):= λk c h=>⟨OL c,by rw [TI,h];rfl, λv pk hv=>by
 cases c with
 |ro a n cap cols=>simp only [OL];cases D8 cols with
  |true=>trivial
  |false=>exact hv
 |_=>first|exact hv|(simp only [OL,CE])⟩
theorem AjP {K:List (Chunk σ)} (h:CP K):CP (frs K):= λk b t cs hk x hx=>by
 rw [TI] at hk
 cases hc:K[k]? with
 |none=>rw [hc] at hk;cases hk
 |some c=>
  rw [hc] at hk
  cases c with
  |ro a n cap cols=>simp only [iR,OL] at hk;cases hf:D8 cols<;>rw [hf] at hk<;>simp at hk
  |cells b' t' cs'=>
   simp [OL] at hk
   obtain ⟨rfl,rfl,rfl⟩:=hk
   exact (h k _ _ _ hc x hx).ext (Afv K)
  |_=>simp [OL] at hk
def V4 (G:Hp) (Kz K:List (Chunk σ)):Prop:=∀(k:Nat) (c:Chunk σ),Kz[k]? =some c→(∀Y h:Hp,den D G c Y h)∨∃b t cs,c= .cells b t cs∧K[k]? =some c
theorem Ae.AlY {E:Ev} {G:Hp} {w:World} {Kz K:List (Chunk σ)} (h:Ae D E G w K) (hs:V4 D G Kz K):Ae D E G w Kz:=by
 obtain ⟨Z,hz,hw,h1,h2,o,h3,h4⟩:=h
 refine ⟨Z,hz,hw,h1,h2,o,h3, λi A0 hi0=>?_⟩
 obtain ⟨A,hi,rfl⟩:=Hu hi0
 rw [iK] at hi
 cases hk:Kz[i]? with
 |none=>rw [hk] at hi;cases hi
 |some c=>
  rw [hk] at hi
  simp only [iR,iA] at hi
  subst hi
  rcases hs i c hk with hp|⟨b,t,cs,_,hK⟩
  ·exact λY _=>hp Y _
  ·exact h4 i _ (Dv (BJ D hK))
theorem V4.keep {G:Hp} {Kz K K':List (Chunk σ)} (h:V4 D G Kz K) (hk:CJ K K'):V4 D G Kz K':= λk c hc=>by
 rcases h k c hc with hp|⟨b,t,cs,e,hK⟩
 ·exact .inl hp
 ·subst e;exact .inr ⟨b,t,cs,rfl,hk k b t cs hK⟩
theorem Ae.frs {E:Ev} {G:Hp} {w:World} {K:List (Chunk σ)} (h:Ae D E G w K):V4 D G (Sl.frs K) K:= λk c hc=>by
 have hpers:=Ae.Ak8 D h
 rw [TI] at hc
 cases hK:K[k]? with
 |none=>rw [hK] at hc;cases hc
 |some d=>
  rw [hK] at hc
  simp only [iR,iA] at hc
  subst hc
  have hm:J5 d∈Oc K:=iU (by rw [Om,hK];rfl:(Oc K)[k]? =some (J5 d))
  have hp:=hpers _ hm G (λ_ _ e=>e)
  cases d with
  |cells b t cs=>exact .inr ⟨b,t,cs,rfl,rfl⟩
  |_=>exact .inl hp
theorem WU {P:Program} {T:List (Nat×Entry σ)} {g:Option (Nat×Bool)} {L:List Af} {K:List (Chunk σ)} {Kz:List (Chunk σ)} {o:Oper} {x:Value×Pr×List Prop} (hor:∀k:Nat,Kz[k]? =K[k]? ∨Kz[k]? =some .dead) (hro:∀b,Et b 0 Kz=Et b 0 K) (hc:∀c,o.op≠ .call c) (h:F5 P T g L Kz o=some x):F5 P T g L K o=some x:=by
 have hcall:∀K':List (Chunk σ),callOf P g L K' o=none:= λK'=>by
  unfold callOf
  split
  ·rename_i hop;exact absurd hop (hc _)
  ·rename_i hop;exact absurd hop (hc _)
  ·rfl
 unfold F5 at h ⊢
 split at h
 all_goals (first|(rename_i hop;simp only [hop])|skip)
 all_goals (first|exact h|skip)
 ·
  split at h
  ·rename_i k off hp
   rcases hor k with e|e
   ·rw [e] at h;exact h
   ·rw [e] at h;cases h
  ·rename_i k i off hp
   rcases hor k with e|e
   ·rw [e] at h;exact h
   ·rw [e] at h;cases h
  ·cases h
 ·
  split at h
  ·rename_i fields k pk hu hp
   split at h
   ·rename_i fd q hfd hv
    split at h
    ·rename_i nn hsz
     cases pk with
     |elem i off=>
      simp only at h ⊢
      rcases hor k with e|e
      ·rw [e] at h;exact h
      ·rw [e] at h;cases h
     |_=>exact h
    ·cases h
   ·cases h
  ·cases h
 ·
  split at h
  ·rename_i e0 k a m cap k1 i hu hp hv hi
   rcases hor k with e|e
   ·rw [e] at h;exact h
   ·rw [e] at h
    split at h
    ·rename_i h1;cases h1
    ·rename_i h1;cases h1
    ·cases h
  ·rename_i len e0 k off a k1 i hu hp hv hi
   exact h
  ·rename_i len e0 k j off q k1 i hu hp hv hi
   rcases hor k with e|e
   ·rw [e] at h;exact h
   ·rw [e] at h
    split at h
    ·rename_i h1;cases h1
    ·cases h
  ·simp only [hro] at h
   exact h
  ·cases h
 ·
  split at h
  ·rename_i k ki i kt et hp hi hu
   rcases hor k with e|e
   ·rw [e] at h;exact h
   ·rw [e] at h;cases h
  ·cases h
 ·rw [hcall] at h ⊢
  exact h
theorem MV {o:Oper} (h:YT o=false):∀c,o.op≠ .call c:= λc e=>by unfold YT at h;rw [e] at h;cases h
structure Jm (ops:Array Oper):Prop where
 dep:(jX ops.size).all (λi=>((ops[i]?).map (·.after.all λe=>!Region.binds .any e||lZ e.on i)).getD false)=true
 rd:∀(i j:Nat) (o o':Oper) (d:Nat),ops[i]? =some o→ops[j]? =some o'→o.dst=some d→d∈FN ops o'→i∈D9 ops j∧i≠j
 ds:∀(i j:Nat) (o o':Oper) (d:Nat),ops[i]? =some o→ops[j]? =some o'→o.dst=some d→o'.dst=some d→i=j
theorem Oo {ops:Array Oper} {i:Nat} {o:Oper} (h:ops[i]? =some o):i<ops.size:=by
 rcases jC i ops.size with h'|h'
 ·exact h'
 ·rw [kA h'] at h;cases h
theorem AjQ {ops:Array Oper} (h:QB ops=true):Jm ops:=by
 unfold QB at h
 simp only [iG] at h
 obtain ⟨h1,h2⟩:=h
 have row:∀(i j:Nat) (o o':Oper) (d:Nat),ops[i]? =some o→ops[j]? =some o'→o.dst=some d→
  ((!(H7 d (FN ops o'))||(H7 i (D9 ops j)&&!(iJ i j)))&&(iJ i j||neD d o'.dst))=true:= λi j o o' d hi hj hd=>by
  have:=(jN.1 h2) i (kT.2 (Oo hi))
  rw [hi] at this
  simp only [hd] at this
  unfold wideRow at this
  have:=(jN.1 this) j (kT.2 (Oo hj))
  rw [hj] at this
  exact this
 refine ⟨h1, λi j o o' d hi hj hd hm=>?_, λi j o o' d hi hj hd hd'=>?_⟩
 ·have:=row i j o o' d hi hj hd
  rw [Ii.2 hm] at this
  simp only [jW,kN,iG] at this
  obtain ⟨⟨h3,h4⟩,_⟩:=this
  exact ⟨Ii.1 h3, λe=>by subst e;simp at h4⟩
 ·have:=row i j o o' d hi hj hd
  simp only [iG] at this
  have:=this.2
  rw [hd'] at this
  simp only [neD,nH,jW,Bool.or_false] at this
  exact iF this
theorem OW {n:Nat} {ops:Array Oper} {o:Oper} {g:Option (Nat×Bool)} (h:gs n ops o=some g):∀c t,g=some (c,t)→c∈FN ops o:= λc t hg=>by
 have:=(Gf h).1
 unfold FN Aiv
 rw [this,hg]
 simp
theorem LV {a:Act} {dst:Option Nat} {u:Value} {x:Nat} (h:dst≠some x):(a.put dst u).tmps.getD x undef=a.tmps.getD x undef:=by
 cases dst with
 |none=>rfl
 |some d=>
  show (a.tmps.setIfInBounds d u).getD x undef=_
  have:d≠x:= λe=>h (by rw [e])
  rw [jB,kO,if_neg this,jB]
theorem put_eq {a:Act} {dst:Option Nat} {u:Value} {x:Nat} (h:dst=some x) (hx:x<a.tmps.size):(a.put dst u).tmps.getD x undef=u:=by
 subst h
 show (a.tmps.setIfInBounds x u).getD x undef=_
 rw [GZ u hx,if_pos rfl]
theorem OX {a:Act} {dst:Option Nat} {u:Value}:(a.put dst u).tmps.size=a.tmps.size:=by
 cases dst with
 |none=>rfl
 |some d=>show (a.tmps.setIfInBounds d u).size=_;simp
theorem put_defers {a:Act} {dst:Option Nat} {u:Value}:(a.put dst u).defers=a.defers:=by cases dst<;>rfl
section
variable (P:Program) (T:List (Nat×Entry σ)) (n:Nat) (ops:Array Oper) (nx:Bool)
def AcK (G:Hp) (Q:List Nat) (K:List (Chunk σ)) (s:Act) (i:Nat) (o:Oper):Prop:=
 ∃g,gs n ops o=some g∧(∀x∈D9 ops i,x ∉ Q)∧(¬GV s.tmps g→∀d,o.dst=some d→s.tmps.getD d undef=undef)∧
  (GV s.tmps g→∃Li Kz v p ps,F5 P T g Li Kz o=some (v,p,ps)∧(∀q∈ps,q)∧Fr n Li Kz s∧(∀e∈Li,e.s∈FN ops o∧∀c t,e.g=some (c,t)→c∈FN ops o)∧
    (∀d,o.dst=some d→s.tmps.getD d undef=v)∧(AcI D G Kz∨((∃B,K=Kz++B)∧(∀c,o.op≠ .call c)∧∀j∈Q,MM ops j=true→i∈reached ops j)∨(V4 D G Kz K∧(∀c,o.op≠ .call c)∧nx=true∧∀j∈Q,storeAt ops j=true→i∈reached ops j)))
structure FO (E:Ev) (G:Hp) (K0:List (Chunk σ)) (listed:Array Bool) (Q:List Nat) (L:List Af) (K:List (Chunk σ)) (s a:Act) (w:World):Prop where
 lsz:listed.size=ops.size
 cl:Closed ops listed
 qn:∀j∈Q,j<ops.size∧listed.getD j true=false
 fr:Fr n L K s
 sat:Ae D E G w K
 ad:a.defers=[]
 asz:a.tmps.size=n
 agr:∀x,(∀(i:Nat) (o:Oper),ops[i]? =some o→o.dst=some x→listed.getD i true=true∨i∈Q)→a.tmps.getD x undef=s.tmps.getD x undef
 pend:∀(i:Nat) (o:Oper),ops[i]? =some o→listed.getD i true=false→i ∉ Q→AcK D P T n ops nx G Q K s i o
 kx:AY K0 K
end
section
variable {P:Program} {T:List (Nat×Entry σ)} {n:Nat} {ops:Array Oper} {nx:Bool} {E:Ev} {G:Hp} {K0:List (Chunk σ)} {listed:Array Bool} {Q:List Nat} {L:List Af} {K:List (Chunk σ)} {s a:Act} {w:World}
theorem FO.rd (hW:Jm ops) (h:FO D P T n ops nx E G K0 listed Q L K s a w) {i:Nat} {o:Oper} (hi:i∈iT .any ops listed) (ho:ops[i]? =some o):Agr (FN ops o) s a:= λx hx=>
 (h.agr x λj o' hj hd=> .inl (by
   have h1:=F7 hi (hW.rd j i o' o x hj ho hd hx).1
   rw [getD_both (by rw [h.lsz];exact Oo hj) true false]
   exact h1)).symm
theorem FO.late (hT:BD D P T) (hW:Jm ops) (h:FO D P T n ops nx E G K0 listed Q L K s a w) {i:Nat} {o:Oper} (hi:i∈iT .any ops listed) (hq:i ∉ Q) (ho:ops[i]? =some o):
 ∃u,((iZ o (yielded ops a.tmps)=true∧o.quietAt P a (λw'=>Ae D E G w' K) w u)∨(iZ o (yielded ops a.tmps)=false∧u=undef))∧
  ∀w',Ae D E G w' K→FO D P T n ops nx E G K0 (listed.setIfInBounds i true) Q L K s (a.put o.dst u) w':=by
 obtain ⟨r1,r2,r3⟩:=Eo.1 hi
 obtain ⟨g,hgs,hdq,hno,hyes⟩:=h.pend i o ho r2 hq
 have hA:=h.rd D hW hi ho
 have hGV:GV s.tmps g↔GV a.tmps g:=hA.gv (OW hgs)
 have hil:i<listed.size:=by rw [h.lsz];exact r1
 have key:∀u,(∀d,o.dst=some d→s.tmps.getD d undef=u)→∀w',Ae D E G w' K→FO D P T n ops nx E G K0 (listed.setIfInBounds i true) Q L K s (a.put o.dst u) w':= λu hu w' hS'=>by
  refine ⟨by simpa using h.lsz,h.cl.set hi h.lsz, λj hj=>?_,h.fr,hS',by rw [put_defers];exact h.ad,by rw [OX];exact h.asz, λx hx=>?_, λj o' hj hl hjq=>?_,h.kx⟩
  ·have:=h.qn j hj
   refine ⟨this.1,?_⟩
   rw [C9 hil,if_neg (λe=>by subst e;exact hq hj)]
   exact this.2
  ·by_cases hd:o.dst=some x
   ·rw [put_eq hd (by rw [h.asz];exact (Gf hgs).2.1 x hd)]
    exact (hu x hd).symm
   ·rw [LV hd]
    refine h.agr x λj o' hj hd'=>?_
    have:=hx j o' hj hd'
    rw [C9 hil] at this
    by_cases hji:j=i
    ·subst hji
     rw [ho] at hj;injection hj with hj;subst hj
     exact absurd hd' hd
    ·rwa [if_neg hji] at this
  ·rw [C9 hil] at hl
   by_cases hji:j=i
   ·rw [if_pos hji] at hl;cases hl
   ·rw [if_neg hji] at hl
    exact h.pend j o' hj hl hjq
 by_cases hg:GV s.tmps g
 ·obtain ⟨Li,Kz,v,p,ps,hst,hps,hF,hL,hv,hp⟩:=hyes hg
  have hFa:Fr n Li Kz a:=hF.agr hL hA h.ad h.asz
  refine ⟨v, .inl ⟨(Df (Gf hgs).1).2 (hGV.1 hg),?_⟩,key v hv⟩
  rcases hp with hp|⟨⟨B,hB⟩,hnc,_⟩|⟨hs,hnc,_,_⟩
  ·have hS':=hp.sat D (w:=w) (Ae.G D h.sat)
   exact AcJ ((Hw D hT hFa (hGV.1 hg) hst hps hS').1 w hS').1 λw' hw'=>Sat.keeps h.sat hw'
  ·have hS':Ae D E G w Kz:=Sat.drop h.sat λi A hi=>by
    rw [hB,jE,iH (Bv hi)];exact hi
   exact Vt (((Hw D hT hFa (hGV.1 hg) hst hps hS').1 w hS').2 hnc)
  ·have hS':=Ae.AlY D h.sat hs
   exact Vt (((Hw D hT hFa (hGV.1 hg) hst hps hS').1 w hS').2 hnc)
 ·refine ⟨undef, .inr ⟨?_,rfl⟩,key undef (hno hg)⟩
  cases hw:iZ o (yielded ops a.tmps) with
  |false=>rfl
  |true=>exact absurd (hGV.2 ((Df (Gf hgs).1).1 hw)) hg
theorem AcK.put (hW:Jm ops) {K':List (Chunk σ)} {i j:Nat} {o o':Oper} {u:Value} (h:AcK D P T n ops nx G Q K s i o') (ho:ops[j]? =some o) (ho':ops[i]? =some o') (hij:i≠j) (hq:j∈Q)
 (hK:K'=K∨(MM ops j=true∧i ∉ reached ops j∧(storeAt ops j=false→nx=true→CJ K K'))∨∃B,K'=K++B):AcK D P T n ops nx G (Ic j Q) K' (s.put o.dst u) i o':=by
 obtain ⟨g,hgs,hdq,hno,hyes⟩:=h
 have hA:Agr (FN ops o') s (s.put o.dst u):= λx hx=>by
  rw [LV]
  intro hd
  exact hdq j (hW.rd j i o o' x ho ho' hd hx).1 hq
 have hdst:∀d,o'.dst=some d→(s.put o.dst u).tmps.getD d undef=s.tmps.getD d undef:= λd hd=>by
  rw [LV]
  intro hd'
  exact hij (hW.ds i j o' o d ho' ho hd hd')
 refine ⟨g,hgs, λx hx hm=>hdq x hx (EN.1 hm).1, λhg d hd=>?_, λhg=>?_⟩
 ·rw [hdst d hd]
  exact hno (λhg'=>hg ((hA.gv (OW hgs)).1 hg')) d hd
 ·obtain ⟨Li,Kz,v,p,ps,hst,hps,hF,hL,hv,hp⟩:=hyes ((hA.gv (OW hgs)).2 hg)
  refine ⟨Li,Kz,v,p,ps,hst,hps,hF.agr hL hA (by rw [put_defers];exact hF.defers) (by rw [OX];exact hF.size),hL, λd hd=>by rw [hdst d hd];exact hv d hd,?_⟩
  rcases hp with hp|⟨⟨B,hB⟩,hnc,hr⟩|⟨hs,hnc,hnx,hr⟩
  ·exact .inl hp
  ·rcases hK with rfl|⟨he,hn,_⟩|⟨B',hB'⟩
   ·exact .inr (.inl ⟨⟨B,hB⟩,hnc, λj' hj' e=>hr j' (EN.1 hj').1 e⟩)
   ·exact absurd (hr j hq he) hn
   ·exact .inr (.inl ⟨⟨B++B',by rw [hB',hB,jO]⟩,hnc, λj' hj' e=>hr j' (EN.1 hj').1 e⟩)
  ·refine .inr (.inr ⟨?_,hnc,hnx, λj' hj' e=>hr j' (EN.1 hj').1 e⟩)
   rcases hK with rfl|⟨_,hn,hck⟩|⟨B',rfl⟩
   ·exact hs
   rotate_left
   ·exact hs.keep D (CJ.append K B')
   ·cases hst:storeAt ops j with
    |true=>exact absurd (hr j hq hst) hn
    |false=>exact hs.keep D (hck hst hnx)
theorem FO.now (hW:Jm ops) (h:FO D P T n ops nx E G K0 listed Q L K s a w) {j:Nat} {o:Oper} (hj:j∈iT .any ops listed) (hq:j∈Q) (ho:ops[j]? =some o) {L':List Af} {K':List (Chunk σ)} {u:Value} {w':World}
 (hd:∀d,o.dst=some d→d<n) (hF:Fr n L' K' (s.put o.dst u)) (hS:Ae D E G w' K') (hx:AY K K') (hK:K'=K∨(MM ops j=true∧(storeAt ops j=false→nx=true→CJ K K'))∨∃B,K'=K++B):
 FO D P T n ops nx E G K0 (listed.setIfInBounds j true) (Ic j Q) L' K' (s.put o.dst u) (a.put o.dst u) w':=by
 obtain ⟨r1,r2,r3⟩:=Eo.1 hj
 have hil:j<listed.size:=by rw [h.lsz];exact r1
 refine ⟨by simpa using h.lsz,h.cl.set hj h.lsz, λi hi=>?_,hF,hS,by rw [put_defers];exact h.ad,by rw [OX];exact h.asz, λx hx'=>?_, λi o' hi hl hiq=>?_,h.kx.trans hx⟩
 ·obtain ⟨h1,h2⟩:=EN.1 hi
  have:=h.qn i h1
  refine ⟨this.1,?_⟩
  rw [C9 hil,if_neg h2]
  exact this.2
 ·by_cases hdx:o.dst=some x
  ·rw [put_eq hdx (by rw [h.asz];exact hd x hdx),put_eq hdx (by rw [h.fr.size];exact hd x hdx)]
  ·rw [LV hdx,LV hdx]
   refine h.agr x λi o' hi hd'=>?_
   have:=hx' i o' hi hd'
   rw [C9 hil] at this
   by_cases hji:i=j
   ·subst hji
    rw [ho] at hi;injection hi with hi;subst hi
    exact absurd hd' hdx
   ·rw [if_neg hji] at this
    exact this.imp id λhm=>(EN.1 hm).1
 ·rw [C9 hil] at hl
  by_cases hji:i=j
  ·rw [if_pos hji] at hl;cases hl
  ·rw [if_neg hji] at hl
   have hiq':i ∉ Q:= λhm=>hiq (EN.2 ⟨hm,hji⟩)
   refine (h.pend i o' hi hl hiq').put D hW ho hi hji hq (hK.imp id λe=>e.imp (λe=>⟨e.1, λhr=>?_,e.2⟩) id)
   have:=LJ h.cl j (D9 ops j) (λx hx=>F7 hj hx) i hr
   rw [getD_both (by rw [h.lsz];exact Oo hi) true false,this] at hl
   cases hl
theorem FO.early (hW:Jm ops) (h:FO D P T n ops nx E G K0 listed Q L K s a w) {i:Nat} {o:Oper} (hq:i∈Q) (ho:ops[i]? =some o) {L':List Af} {u:Value}
 (hF:Fr n L' K (s.put o.dst u)) (hc:AcK D P T n ops nx G (Ic i Q) K (s.put o.dst u) i o):FO D P T n ops nx E G K0 listed (Ic i Q) L' K (s.put o.dst u) a w:=by
 refine ⟨h.lsz,h.cl, λj hj=>h.qn j (EN.1 hj).1,hF,h.sat,h.ad,h.asz, λx hx=>?_, λj o' hj hl hjq=>?_,h.kx⟩
 ·have hdx:o.dst≠some x:= λhd=>by
   rcases hx i o ho hd with h1|h1
   ·rw [(h.qn i hq).2] at h1;cases h1
   ·exact (EN.1 h1).2 rfl
  rw [LV hdx]
  exact h.agr x λj o' hj hd'=>(hx j o' hj hd').imp id λhm=>(EN.1 hm).1
 ·by_cases hji:j=i
  ·subst hji
   rw [ho] at hj;injection hj with hj;subst hj
   exact hc
  ·exact (h.pend j o' hj hl λhm=>hjq (EN.2 ⟨hm,hji⟩)).put D hW ho hj hji hq (.inl rfl)
theorem Ut:∀{l:List Nat} {i:Nat} {x:Oper×Option (Nat×Bool)×Value×Pr×List Prop},QC P T n ops nx Q L K l=some (i,x)→i∈l∧AfP P T n ops nx Q L K i=some x
 |[],i,x,h=>by simp [QC] at h
 |j::r,i,x,h=>by
  simp only [QC] at h
  split at h
  ·rename_i y hy
   simp only [iA,iM] at h
   obtain ⟨rfl,rfl⟩:=h
   exact ⟨by simp,hy⟩
  ·have:=Ut h
   exact ⟨by simp [this.1],this.2⟩
theorem Agc {L L':List Af} {K:List (Chunk σ)} {g:Option (Nat×Bool)} {p:Prop} (hF:Fr n L K s) (hg:GV s.tmps g) (h:TE g L L' p):p:=by
 unfold TE at h
 split at h
 ·exact h
 ·rename_i c b
  split at h
  ·exact h
  ·split at h
   ·rename_i s0 g0 t pe hl
    obtain ⟨hm,hs⟩:=BV hl
    simp only at hs
    subst hs
    refine h ?_
    simp only [GV] at hg
    by_cases hgg:GV s.tmps (some g0)
    ·have:=(hF.ents _ hm hgg).1
     simp only at this
     rw [hg] at this
     injection this with this
     exact this.symm
    ·have:=hF.skipd _ hm hgg
     simp only at this
     rw [hg] at this
     cases this
   ·exact h
theorem QO {L L':List Af} {K:List (Chunk σ)} {g:Option (Nat×Bool)} {ps:List Prop} (hF:Fr n L K s) (hg:GV s.tmps g) (h:∀q∈ps.map (TE g L L'),q):∀q∈ps,q:=
 λ_ hq=>Agc hF hg (h _ (List.mem_map_of_mem hq))
theorem FO.try (hT:BD D P T) (hW:Jm ops) (h:FO D P T n ops nx E G K0 listed Q L K s a w) {i:Nat} {o:Oper} {g:Option (Nat×Bool)} {v:Value} {p:Pr} {ps:List Prop} (hq:i∈Q) (ht:AfP P T n ops nx Q L K i=some (o,g,v,p,ps)) (hps:∀q∈ps,q):
 ∃u,FO D P T n ops nx E G K0 listed (Ic i Q) (fixMark n o L (Ce o.dst g v p L)) K (s.put o.dst u) a w:=by
 unfold AfP at ht
 split at ht
 ·cases ht
 ·rename_i o1 ho
  cases hd:(D9 ops i).any (λx=>H7 x Q) with
  |true=>rw [hd] at ht;cases ht
  |false=>
   rw [hd] at ht
   simp only [cond_false] at ht
   have hdq:∀x∈D9 ops i,x ∉ Q:= λx hx hm=>by
    have:(D9 ops i).any (λx=>H7 x Q)=true:=lA.2 ⟨x,hx,Ii.2 hm⟩
    rw [hd] at this;cases this
   split at ht
   ·cases ht
   ·rename_i g1 hgs
    obtain ⟨q1,q2,q3⟩:=Gf hgs
    have hnd:∀(u:Value),Agr (FN ops o1) s (s.put o1.dst u):= λu x hx=>by
     rw [LV]
     intro hd'
     exact (hW.rd i i o1 o1 x ho ho hd' hx).2 rfl
    cases hsk:AfO g1 L with
    |true=>
     rw [hsk] at ht
     simp only [cond_true,iA,iM] at ht
     obtain ⟨rfl,rfl,rfl,rfl,rfl⟩:=ht
     have hng:¬GV s.tmps g1:=by
      unfold AfO at hsk
      split at hsk
      ·rename_i c b
       split at hsk
       ·rename_i s0 t pe hl
        simp only [iG,beq_iff_eq] at hsk
        obtain ⟨hm,hs⟩:=BV hl
        have:=(h.fr.ents _ hm trivial).1
        simp only at hs
        subst hs
        simp only at this
        intro hg
        simp only [GV] at hg
        rw [hg] at this
        injection this with this
        rw [hsk.2] at this
        cases b<;>cases this
       ·rename_i s0 x pe hl
        obtain ⟨hm,hs⟩:=BV hl
        have:=(h.fr.ents _ hm trivial).1
        simp only at hs
        subst hs
        simp only at this
        intro hg
        simp only [GV] at hg
        rw [hg] at this
        cases this
       ·cases hsk
      ·cases hsk
     have hngu:∀u,¬GV (s.put o1.dst u).tmps g1:= λu hg=>hng (((hnd u).gv (OW hgs)).2 hg)
     refine ⟨undef,h.early D hW hq ho ((h.fr.put q2 (λ_ _ _ _ e=>by cases e) λ_=>⟨rfl,Ar⟩).fixMark o1 L) ⟨g1,hgs, λx hx hm=>hdq x hx (EN.1 hm).1, λ_ d hd'=>put_eq hd' (by rw [h.fr.size];exact q2 d hd'), λhg=>absurd hg (hngu _)⟩⟩
    |false=>
     rw [hsk] at ht
     simp only [cond_false] at ht
     cases heb:YT o1 with
     |true=>rw [heb] at ht;cases ht
     |false=>
      rw [heb] at ht
      simp only [cond_false] at ht
      have fin:∀(Kz:List (Chunk σ)) (v:Value) (p:Pr) (ps:List Prop),AY K Kz→CP Kz→F5 P T g1 (keepR (FN ops o1) L) Kz o1=some (v,p,ps)→F5 P T g1 (keepR (FN ops o1) L) K o1=some (v,p,ps)→(GV s.tmps g1→∀q∈ps,q)→
       (AcI D G Kz∨((∃B,K=Kz++B)∧(∀c,o1.op≠ .call c)∧∀j∈Ic i Q,MM ops j=true→i∈reached ops j)∨(V4 D G Kz K∧(∀c,o1.op≠ .call c)∧nx=true∧∀j∈Ic i Q,storeAt ops j=true→i∈reached ops j))→∃u,FO D P T n ops nx E G K0 listed (Ic i Q) (fixMark n o1 L (Ce o1.dst g1 v p L)) K (s.put o1.dst u) a w:= λKz v p ps hx hk hz hK hps hp=>by
       have hFk:Fr n (keepR (FN ops o1) L) K s:=h.fr.sub λe he=>(Ko he).1
       by_cases hg:GV s.tmps g1
       ·have hpk:=(Hw D hT hFk hg hK (hps hg) h.sat).2
        refine ⟨v,h.early D hW hq ho ((h.fr.put q2 q3 (λ_=>⟨rfl,hpk⟩) λhn=>absurd hg hn).fixMark o1 L) ⟨g1,hgs, λx hx hm=>hdq x hx (EN.1 hm).1, λhn=>absurd (((hnd v).gv (OW hgs)).1 hg) hn, λ_=>?_⟩⟩
        exact ⟨keepR (FN ops o1) L,Kz,v,p,ps,hz,hps hg,OV (h.fr.ext hx hk) (hnd v) (by rw [put_defers];exact h.fr.defers) (by rw [OX];exact h.fr.size), λe he=>(Ko he).2, λd hd'=>put_eq hd' (by rw [h.fr.size];exact q2 d hd'),hp⟩
       ·refine ⟨undef,h.early D hW hq ho ((h.fr.put q2 q3 (λhg'=>absurd hg' hg) λ_=>rfl).fixMark o1 L) ⟨g1,hgs, λx hx hm=>hdq x hx (EN.1 hm).1, λ_ d hd'=>put_eq hd' (by rw [h.fr.size];exact q2 d hd'), λhg'=>absurd (((hnd undef).gv (OW hgs)).2 hg') hg⟩⟩
      split at ht
      ·rename_i v1 p1 ps1 hz
       simp only [iA,iM] at ht
       obtain ⟨rfl,rfl,rfl,rfl,rfl⟩:=ht
       exact fin (Oc K) _ _ _ (AjN K) (AjO K) hz (WU (Ak7 K) (WR · K 0) (MV heb) hz) (λhg=>QO h.fr hg hps) (.inl (Ae.Ak8 D h.sat))
      ·cases hall:Q.all (λj=>!(MM ops j)||H7 i (reached ops j)) with
       |false=>
        rw [hall] at ht
        simp only [cond_false] at ht
        cases hns:(nx&&Q.all (λj=>!(storeAt ops j)||H7 i (reached ops j))) with
        |false=>rw [hns] at ht;cases ht
        |true=>
         rw [hns] at ht
         simp only [cond_true] at ht
         simp only [iG] at hns
         split at ht
         ·rename_i v1 p1 ps1 hz
          simp only [iA,iM] at ht
          obtain ⟨rfl,rfl,rfl,rfl,rfl⟩:=ht
          refine fin (frs K) _ _ _ (Afv K) (AjP h.fr.kok) hz (WU (Ak9 K) (AkA K) (MV heb) hz) (λhg=>QO h.fr hg hps) (.inr (.inr ⟨Ae.frs D h.sat,MV heb,hns.1, λj hj he=>?_⟩))
          have:=(jN.1 hns.2) j (EN.1 hj).1
          rw [he] at this
          simp only [jW,kN] at this
          exact Ii.1 this
         ·cases ht
       |true=>
        rw [hall] at ht
        simp only [cond_true] at ht
        split at ht
        ·rename_i v1 p1 ps1 hz
         simp only [iA,iM] at ht
         obtain ⟨rfl,rfl,rfl,rfl,rfl⟩:=ht
         refine fin K _ _ _ (AY.refl K) h.fr.kok hz hz (λhg=>QO h.fr hg hps) (.inr (.inl ⟨⟨[],(lF K).symm⟩,MV heb, λj hj he=>?_⟩))
         have:=(jN.1 hall) j (EN.1 hj).1
         rw [he] at this
         simp only [jW,kN] at this
         exact Ii.1 this
        ·cases ht
theorem Agd {T:List (Nat×Entry σ)} {ext:Nat→List (Value×Pr)→List (Chunk σ)→Option (Tree σ)} {L:List Af} {K:List (Chunk σ)} {o:Oper} {t:TypeId} {x:Operand} (hop:o.op= .load t x) {k:Value→Pr→List (Chunk σ)→Tree σ} {tr:Tree σ}
 (h:GY P T ext L K o k=some tr):∃v pr chs,tr=k v pr (K++chs)∧∀k2:Value→Pr→List (Chunk σ)→Tree σ,GY P T ext L K o k2=some (k2 v pr (K++chs)):=by
 simp only [GY,Acf,Acg,WB,hop] at h ⊢
 split at h
 ·rename_i c i off hp
  split at h
  ·rename_i a n cap cols hk
   split at h
   ·rename_i v p chs hl
    injection h with h
    exact ⟨v,p,chs,h.symm, λk2=>by simp only [hp,hk,hl]⟩
   ·cases h
  ·cases h
 ·cases h
theorem WV {R':Value→Pr→List (Chunk σ)→Prop} {S':List Ab→List Af→List (Chunk σ)→Prop} {z:Tree σ}:∀{l:List (Tree σ)},(Aiw z l).holds R' S'→(∀t∈l,t.holds R' S')∧(l=[]→z.holds R' S')
 |[],h=>⟨by simp, λ_=>h⟩
 |[t],h=>⟨λx hx=>by rw [jM.1 hx];exact h,by simp⟩
 |t::t'::r,h=>by
  obtain ⟨h1,h2⟩:=h
  have:=WV (l:=t'::r) h2
  refine ⟨λx hx=>?_,by simp⟩
  rcases iE.1 hx with rfl|hx
  ·exact h1
  ·exact this.1 x hx
def MW (listed:Array Bool):Nat→Nat
 |0=>0
 |k+1=>(if listed.getD k true=true then 0 else 1)+MW listed k
theorem WW {i:Nat} (hi:i<listed.size):∀k,k≤i→MW (listed.setIfInBounds i true) k=MW listed k
 |0,_=>rfl
 |k+1,hk=>by
  have e:(listed.setIfInBounds i true).getD k true=listed.getD k true:=by rw [C9 hi,if_neg (by omega)]
  simp only [MW]
  rw [e,WW hi k (by omega)]
theorem Afw {i:Nat} (hi:i<listed.size) (hl:listed.getD i true=false):∀k,i<k→MW (listed.setIfInBounds i true) k+1=MW listed k
 |0,h=>by omega
 |k+1,h=>by
  by_cases hk:k=i
  ·subst hk
   have e:(listed.setIfInBounds k true).getD k true=true:=by rw [C9 hi,if_pos rfl]
   simp only [MW]
   rw [e,WW hi k (kC _),hl]
   simp
   omega
  ·have e:(listed.setIfInBounds i true).getD k true=listed.getD k true:=by rw [C9 hi,if_neg hk]
   simp only [MW]
   rw [e]
   have:=Afw hi hl k (by omega)
   omega
theorem Ahn:∀k,MW listed k≤k
 |0=>kC _
 |k+1=>by
  simp only [MW]
  have:=Ahn k
  split<;>omega
theorem AcL:∀k,MW listed k=0→∀i,i<k→listed.getD i true=true
 |0,_,i,h=>by omega
 |k+1,h,i,hi=>by
  simp only [MW] at h
  by_cases hk:i=k
  ·subst hk
   cases hl:listed.getD i true with
   |true=>rfl
   |false=>rw [hl] at h;simp at h
  ·exact AcL k (by omega) i (by omega)
theorem FO.start (hF:Fr n L K a) (hS:Ae D E G w K):FO D P T n ops nx E G K (mK ops.size false) (jX ops.size) L K a a w:=by
 have hl:∀i,(mK ops.size false).getD i false=false:= λi=>by
  rw [jB,Array.getElem?_replicate]
  split<;>rfl
 refine ⟨by simp, λi hi=>?_, λj hj=>⟨kT.1 hj,?_⟩,hF,hS,hF.defers,hF.size, λ_ _=>rfl, λi o ho _ hn=>absurd (kT.2 (Oo ho)) hn,AY.refl K⟩
 ·rw [hl] at hi;cases hi
 ·rw [getD_both (by simpa using kT.1 hj) true false,hl]
section
variable {f:Fq} {R:Ending→World→Prop} {td:List Item} {R':Value→Pr→List (Chunk σ)→Prop} {S':List Ab→List Af→List (Chunk σ)→Prop} {ext:Nat→List (Value×Pr)→List (Chunk σ)→Option (Tree σ)}
 {st:List Nat→List Af→List (Chunk σ)→Tree σ} {kont:List Af→List (Chunk σ)→Tree σ}
theorem QP (hT:BD D P T) (hW:Jm ops) (hst:∀Q L K,¬(st Q L K).holds R' S'):∀(m:Nat) (Q:List Nat) (L:List Af) (s:Act),FO D P T n ops nx E G K0 listed Q L K s a w→(wide P T ext n ops nx st kont m Q L K).holds R' S'→
 ∃m' Q' L' s',FO D P T n ops nx E G K0 listed Q' L' K s' a w∧(wide P T ext n ops nx st kont (m'+1) Q' L' K).holds R' S'∧((Q'=[]∧(kont L' K).holds R' S')∨(Q'≠[]∧∀j∈WE ops Q',(Aix P T ext n ops (st Q' L' K) (wide P T ext n ops nx st kont m') Q' L' K j).holds R' S'))
 |0,Q,L,s,hI,h=>absurd h (hst Q L K)
 |m+1,Q,L,s,hI,h=>by
  have h0:=h
  simp only [wide] at h
  split at h
  ·exact ⟨m,[],L,s,hI,h0, .inl ⟨rfl,h⟩⟩
  ·split at h
   ·rename_i q0 qr _ i o g v p ps hf
    obtain ⟨hps,ht⟩:=Eu h
    obtain ⟨h1,h2⟩:=Ut hf
    obtain ⟨u,hI'⟩:=hI.try D hT hW h1 h2 hps
    exact QP hT hW hst m _ _ _ hI' ht
   ·rename_i q0 qr _ hf
    refine ⟨m,_,L,s,hI,h0, .inr ⟨by simp, λj hj=>(WV h).1 _ (kG.2 ⟨j,hj,rfl⟩)⟩⟩
theorem Agf (hT:BD D P T) (hW:Jm ops) (hnx:nx=true→∀g a K,ext g a K=none)
 (hext:∀g args prs K t,ext g (lI args prs) K=some t→∀w,Aw K args prs→CP K→Ae D E G w K→∀Q:Value→Pr→List (Chunk σ)→Prop,t.holds Q (λ_ _ _=>False)→QG P g args.toArray w λen w'=>∃v p K',en= .returned v∧Q v p K'∧AY K K'∧CP K'∧Bl K' v p∧Ae D E G w' K')
 (hst:∀Q L K,¬(st Q L K).holds R' S') (hk:∀L K,AY K0 K→(kont L K).holds R' S'→∀a w,Fr n L K a→Ae D E G w K→WT P f R (.inRegion ops []::td) a w):
 ∀(fuel t:Nat) (listed:Array Bool) (m:Nat) (Q:List Nat) (L:List Af) (K:List (Chunk σ)) (s a:Act) (w:World),MW listed ops.size≤fuel→FO D P T n ops nx E G K0 listed Q L K s a w→(wide P T ext n ops nx st kont m Q L K).holds R' S'→
  WT P f R (.inRegion ops (jL .any ops fuel t listed [])::td) a w:=by
 have fin:∀(listed:Array Bool) (m:Nat) (Q:List Nat) (L:List Af) (K:List (Chunk σ)) (s a:Act) (w:World),(∀i,i<ops.size→listed.getD i true=true)→FO D P T n ops nx E G K0 listed Q L K s a w→(wide P T ext n ops nx st kont m Q L K).holds R' S'→
  WT P f R (.inRegion ops []::td) a w:= λlisted m Q L K s a w hall hI h=>by
  obtain ⟨m',Q',L',s',hI',hh,hc⟩:=QP D hT hW hst m Q L s hI h
  have hQ:Q'=[]:=by
   cases Q' with
   |nil=>rfl
   |cons j r=>
    have:=hI'.qn j (by simp)
    rw [hall j this.1] at this
    cases this.2
  rcases hc with ⟨_,hko⟩|⟨hne,_⟩
  ·have hA:Agr (L'.map (·.s)++L'.filterMap (λe=>e.g.map (·.1))) s' a:= λx _=>(hI'.agr x λi o ho _=> .inl (hall i (Oo ho))).symm
   refine hk L' K hI'.kx hko a w (hI'.fr.agr (λe he=>⟨?_, λc t hg=>?_⟩) hA hI'.ad hI'.asz) hI'.sat
   ·exact mM _ (kG.2 ⟨e,he,rfl⟩)
   ·exact List.mem_append_right _ (List.mem_filterMap.2 ⟨e,he,by rw [hg];rfl⟩)
  ·exact absurd hQ hne
 intro fuel
 induction fuel with
 |zero=>
  intro t listed m Q L K s a w hu hI h
  exact fin listed m Q L K s a w (AcL ops.size (by omega)) hI h
 |succ fuel ih=>
  intro t listed m Q L K s a w hu hI h
  simp only [jL]
  change WT P f R (.inRegion ops (match (iT .any ops listed)[t%(iT .any ops listed).length]? with
   |some i=>jL .any ops fuel (t/(iT .any ops listed).length) (listed.setIfInBounds i true) [i]
   |none=>[].reverse)::td) a w
  cases hi:(iT .any ops listed)[t%(iT .any ops listed).length]? with
  |none=>
   have hnil:iT .any ops listed=[]:=by
    cases hr:iT .any ops listed with
    |nil=>rfl
    |cons x xs=>
     rw [hr] at hi
     have hlt:t%(x::xs).length<(x::xs).length:=lX _ (by simp)
     rw [iO hlt] at hi;cases hi
   exact fin listed m Q L K s a w (ready_nil hW.dep hI.lsz hnil) hI h
  |some i=>
   have him:=iU hi
   dsimp only
   rw [linearise_go_acc,mY,mE]
   obtain ⟨r1,r2,r3⟩:=Eo.1 him
   have ho:ops[i]? =some ops[i]:=jJ r1
   generalize ops[i]=o at ho
   have hu':MW (listed.setIfInBounds i true) ops.size≤fuel:=by
    have:=Afw (listed:=listed) (by rw [hI.lsz];exact r1) r2 ops.size r1
    omega
   obtain ⟨m',Q',L',s',hI',hh,hc⟩:=QP D hT hW hst m Q L s hI h
   by_cases hq:i∈Q'
   ·rcases hc with ⟨hQ,_⟩|⟨_,hall⟩
    ·rw [hQ] at hq;cases hq
    ·have hrq:i∈WE ops Q':=by
      unfold WE
      rw [lY]
      refine ⟨hq,?_⟩
      cases hb:(D9 ops i).any (λx=>H7 x Q') with
      |false=>rfl
      |true=>
       exfalso
       rw [lA] at hb
       obtain ⟨x,hx,hxq⟩:=hb
       have h1:=F7 him hx
       have h2:=hI'.qn x (Ii.1 hxq)
       rw [getD_both (by rw [hI.lsz];exact h2.1) true false,h1] at h2
       cases h2.2
     have hE:=hall i hrq
     have hA:=hI'.rd D hW him ho
     unfold Aix at hE
     rw [ho] at hE
     simp only at hE
     split at hE
     ·exact absurd hE (hst _ _ _)
     ·rename_i g hgs
      obtain ⟨g1,g2,g3⟩:=Gf hgs
      have hGV:GV s'.tmps g↔GV a.tmps g:=hA.gv (OW hgs)
      have quiet:∀{v:Value} {p:Pr} {ps:List Prop},F5 P T g (keepR (FN ops o) L') K o=some (v,p,ps)→(needs ps (wide P T ext n ops nx st kont m' (Ic i Q') (fixMark n o L' (Ce o.dst g v p L')) K)).holds R' S'→
       WT P f R (.inRegion ops (i::jL .any ops fuel (t/(iT .any ops listed).length) (listed.setIfInBounds i true) [])::td) a w:= λ{v p ps} hqs hE=>by
       obtain ⟨hps,ht⟩:=Eu hE
       have hFa:Fr n (keepR (FN ops o) L') K a:=OV hI'.fr hA hI'.ad hI'.asz
       have hFs:Fr n (keepR (FN ops o) L') K s':=hI'.fr.sub λe he=>(Ko he).1
       by_cases hg:GV s'.tmps g
       ·have hwt:iZ o (yielded ops a.tmps)=true:=(Df g1).2 (hGV.1 hg)
        obtain ⟨hqq,hpk⟩:=Hw D hT hFa (hGV.1 hg) hqs hps hI'.sat
        refine WT.op ho hwt (hqq w hI'.sat).1 hI'.sat λw' hS'=>ih _ _ m' _ _ K _ _ w' hu' (hI'.now D hW him hq ho g2 ((hI'.fr.put g2 g3 (λ_=>⟨rfl,hpk⟩) λhn=>absurd hg hn).fixMark o L') hS' (AY.refl K) (.inl rfl)) ht
       ·have hwf:iZ o (yielded ops a.tmps)=false:=by
         cases hw:iZ o (yielded ops a.tmps) with
         |false=>rfl
         |true=>exact absurd (hGV.2 ((Df g1).1 hw)) hg
        exact WT.Ir ho hwf (ih _ _ m' _ _ K _ _ w hu' (hI'.now D hW him hq ho g2 ((hI'.fr.put g2 g3 (λhg'=>absurd hg' hg) λ_=>rfl).fixMark o L') hI'.sat (AY.refl K) (.inl rfl)) ht)
      split at hE
      ·
       split at hE
       ·rename_i v p ps hqs
        exact quiet hqs hE
       ·have lstp:∀(L1:List Af) (tr:Tree σ) (tl:TypeId) (xl:Operand),o.op= .load tl xl→Fr n L1 K s'→iZ o (yielded ops a.tmps)=true→GY P T ext (keepR (FN ops o) L1) K o (λv pr K'=>wide P T ext n ops nx st kont m' (Ic i Q') (unmark o (Ce o.dst none v pr L1)) K')=some tr→tr.holds R' S'→
         WT P f R (.inRegion ops (i::jL .any ops fuel (t/(iT .any ops listed).length) (listed.setIfInBounds i true) [])::td) a w:= λL1 tr tl xl hop hF1 hwt he hE=>by
         obtain ⟨v0,pr0,chs,rfl,hk2⟩:=Agd hop he
         refine H5 D hT hext ho hwt g2 (OV hF1 hA hI'.ad hI'.asz) hI'.sat (k:= λv' pr' K'=> .need (∃B,K'=K++B) (wide P T ext n ops nx st kont m' (Ic i Q') (unmark o (Ce o.dst none v' pr' L1)) K')) (hk2 _) ⟨⟨chs,rfl⟩, λ_=>hE⟩ λv pr K' hK0 hx hck a' w' ⟨u,ha'⟩ hF' hS'=>?_
         subst ha'
         obtain ⟨hB,hK1⟩:=hK0
         have hK':=hK1 hB
         refine ih _ _ m' _ _ K' _ _ w' hu' (hI'.now D hW him hq ho g2 (L':=unmark o (Ce o.dst none v pr L1)) (u:=u) (Fr.unmark ?_ o) hS' hx (.inr (.inr hB))) hK'
         have hk':CP K':=hF'.kok
         cases hdst:o.dst with
         |none=>
          exact hF1.ext hx hk'
         |some d=>
          rw [hdst] at hF'
          have he':=hF'.ents ⟨d,none,v,pr⟩ (by simp [Ce]) trivial
          simp only at he'
          rw [put_eq rfl (by rw [hI'.asz];exact g2 d hdst)] at he'
          exact (hF1.ext hx hk').put (λd' hd'=>by injection hd' with hd';subst hd';exact g2 d hdst) (λ_ _ _ _ e=>by cases e) λ_=>he'
        split at hE
        ·rename_i tl xl hop hqn
         split at hE
         ·rename_i tr he
          exact lstp L' tr tl xl hop hI'.fr ((Df g1).2 trivial) he hE
         ·exact absurd hE (hst _ _ _)
        ·rename_i c b tl xl hop hqn
         split at hE
         ·rename_i s0 t0 pe hl
          cases hnb:jS n 1000000 with
          |false=>rw [hnb] at hE;exact absurd hE (hst _ _ _)
          |true=>
           rw [hnb] at hE
           simp only [cond_true] at hE
           have hnn:=iP hnb
           obtain ⟨hAy,hSk⟩:=Jl hE
           obtain ⟨hm,hs⟩:=BV hl
           have ht:=(hI'.fr.ents _ hm trivial).1
           simp only at hs
           subst hs
           simp only at ht
           by_cases htb:t0=b
           ·subst htb
            have hAy:=hAy rfl
            split at hAy
            ·rename_i A he
             exact lstp _ A tl xl hop (hI'.fr.known hnn ht) ((Df g1).2 (hGV.1 ht)) he hAy
            ·exact absurd hAy (hst _ _ _)
           ·have htn:t0=!b:=by cases t0<;>cases b<;>simp at htb ⊢
            have hng:¬GV s'.tmps (some (s0,b)):= λhg=>by
             simp only [GV] at hg
             rw [ht] at hg
             injection hg with hg
             exact htb hg
            have hwf:iZ o (yielded ops a.tmps)=false:=by
             cases hw:iZ o (yielded ops a.tmps) with
             |false=>rfl
             |true=>exact absurd (hGV.2 ((Df g1).1 hw)) hng
            rw [htn] at ht
            exact WT.Ir ho hwf (ih _ _ m' _ _ K _ _ w hu' (hI'.now D hW him hq ho g2 ((hI'.fr.known hnn ht).put g2 (λ_ _ _ _ e=>by cases e) λ_=>⟨rfl,Ar⟩) hI'.sat (AY.refl K) (.inl rfl)) (hSk htn))
         ·exact absurd hE (hst _ _ _)
        ·exact absurd hE (hst _ _ _)
      ·
       rename_i heb
       have hea:MM ops i=true:=by unfold MM;rw [ho];exact heb
       have stp:∀(L1:List Af) (tr:Tree σ),Fr n L1 K s'→iZ o (yielded ops a.tmps)=true→GY P T ext (keepR (FN ops o) L1) K o (λv pr K'=>wide P T ext n ops nx st kont m' (Ic i Q') (unmark o (Ce o.dst none v pr L1)) K')=some tr→tr.holds R' S'→
        WT P f R (.inRegion ops (i::jL .any ops fuel (t/(iT .any ops listed).length) (listed.setIfInBounds i true) [])::td) a w:= λL1 tr hF1 hwt he htr=>by
        refine H5 D hT hext ho hwt g2 (OV hF1 hA hI'.ad hI'.asz) hI'.sat he htr λv pr K' hK' hx hck a' w' ⟨u,ha'⟩ hF' hS'=>?_
        subst ha'
        refine ih _ _ m' _ _ K' _ _ w' hu' (hI'.now D hW him hq ho g2 (L':=unmark o (Ce o.dst none v pr L1)) (u:=u) (Fr.unmark ?_ o) hS' hx (.inr (.inl ⟨hea, λhns hn=>hck ⟨λt' x' y' hop=>(by unfold storeAt at hns;rw [ho] at hns;simp only [hop] at hns;cases hns),hnx hn⟩⟩))) hK'
        have hk':CP K':=hF'.kok
        cases hdst:o.dst with
        |none=>
         exact hF1.ext hx hk'
        |some d=>
         rw [hdst] at hF'
         have he':=hF'.ents ⟨d,none,v,pr⟩ (by simp [Ce]) trivial
         simp only at he'
         rw [put_eq rfl (by rw [hI'.asz];exact g2 d hdst)] at he'
         exact (hF1.ext hx hk').put (λd' hd'=>by injection hd' with hd';subst hd';exact g2 d hdst) (λ_ _ _ _ e=>by cases e) λ_=>he'
       split at hE
       ·split at hE
        ·rename_i tr he
         exact stp L' tr hI'.fr ((Df g1).2 trivial) he hE
        ·exact absurd hE (hst _ _ _)
       ·rename_i c b
        split at hE
        ·rename_i s0 t0 pe hl
         cases hnb:jS n 1000000 with
         |false=>rw [hnb] at hE;exact absurd hE (hst _ _ _)
         |true=>
          rw [hnb] at hE
          simp only [cond_true] at hE
          have hnn:=iP hnb
          obtain ⟨hAy,hSk⟩:=Jl hE
          obtain ⟨hm,hs⟩:=BV hl
          have ht:=(hI'.fr.ents _ hm trivial).1
          simp only at hs
          subst hs
          simp only at ht
          by_cases htb:t0=b
          ·subst htb
           have hAy:=hAy rfl
           split at hAy
           ·rename_i A he
            exact stp _ A (hI'.fr.known hnn ht) ((Df g1).2 (hGV.1 ht)) he hAy
           ·exact absurd hAy (hst _ _ _)
          ·have htn:t0=!b:=by cases t0<;>cases b<;>simp at htb ⊢
           have hng:¬GV s'.tmps (some (s0,b)):= λhg=>by
            simp only [GV] at hg
            rw [ht] at hg
            injection hg with hg
            exact htb hg
           have hwf:iZ o (yielded ops a.tmps)=false:=by
            cases hw:iZ o (yielded ops a.tmps) with
            |false=>rfl
            |true=>exact absurd (hGV.2 ((Df g1).1 hw)) hng
           rw [htn] at ht
           exact WT.Ir ho hwf (ih _ _ m' _ _ K _ _ w hu' (hI'.now D hW him hq ho g2 ((hI'.fr.known hnn ht).put g2 (λ_ _ _ _ e=>by cases e) λ_=>⟨rfl,Ar⟩) hI'.sat (AY.refl K) (.inl rfl)) (hSk htn))
        ·split at hE
         ·rename_i v p ps hqs
          exact quiet hqs hE
         ·exact absurd hE (hst _ _ _)
   ·obtain ⟨u,hu2,hnext⟩:=hI'.late D hT hW him hq ho
    rcases hu2 with ⟨hwt,hqa⟩|⟨hwf,rfl⟩
    ·exact WT.op ho hwt hqa hI'.sat λw' hS'=>ih _ _ (m'+1) Q' L' K s' _ w' hu' (hnext w' hS') hh
    ·exact WT.Ir ho hwf (ih _ _ (m'+1) Q' L' K s' _ w hu' (hnext w hI'.sat) hh)
end
end
end
section
open Go.RowKit
variable {σ:Type} (D:Addr→σ→BN)
def Aju (Q:List (Chunk σ)→Prop):Prop:=∀K K',Q K→AY K K'→Q K'
theorem WX {K:List (Chunk σ)} {tm:Array Value}:∀(args:List (Value×Pr)) (i:Nat),(∀(j:Nat) v p,args[j]? =some (v,p)→tm.getD (i+j) undef=v∧Bl K v p)→∀e∈Di i args,e.ok K tm
 |[],_,_,e,he=>by simp [Di] at he
 |(v,p)::r,i,h,e,he=>by
  simp only [Di,iE] at he
  rcases he with rfl|he
  ·intro _;exact h 0 v p rfl
  ·refine WX r (i+1) (λj v' p' hj=>?_) e he
   have:=h (j+1) v' p' (by simpa using hj)
   rw [show i+(j+1)=i+1+j by omega] at this
   exact this
theorem Aa6:∀(args:List (Value×Pr)) (i:Nat) (e:Af),e∈Di i args→e.g=none
 |[],_,e,he=>by simp [Di] at he
 |(v,p)::r,i,e,he=>by
  simp only [Di,iE] at he
  rcases he with rfl|he
  ·rfl
  ·exact Aa6 r (i+1) e he
theorem Fr.start {n:Nat} {K:List (Chunk σ)} (args:List (Value×Pr)) (hlen:args.length≤n) (hp:∀x∈args,Bl K x.1 x.2) (hk:CP K):
 Fr n (Di 0 args) K {tmps:=(args.map (·.1)).toArray++mK (n-(args.map (·.1)).toArray.size) undef,defers:=[]}:=by
 refine ⟨hk,rfl,?_,WX args 0 λj v p hj=>⟨?_,hp (v,p) (iU hj)⟩, λe he hg=>absurd (by rw [Aa6 args 0 e he];trivial) hg⟩
 ·simp;omega
 ·have hjl:=Bv hj
  rw [lH,jB,Array.getElem?_append_left (by simpa using hjl)]
  simp [hj]
theorem Za {K:List (Chunk σ)}:∀{vs:List Value} {ps:List Pr},Aw K vs ps→(∀x∈lI vs ps,Bl K x.1 x.2)∧(lI vs ps).map (·.1)=vs
 |[],[],_=>by simp
 |[],_::_,h=>by simp [Aw] at h
 |_::_,[],h=>by simp [Aw] at h
 |v::vs,p::ps,h=>by
  simp only [Aw] at h
  obtain ⟨h1,h2⟩:=Za h.2
  refine ⟨λx hx=>?_,by simp [h2]⟩
  simp only [mX,iE] at hx
  rcases hx with rfl|hx
  ·exact h.1
  ·exact h1 x hx
theorem OY {I:List Nat} {b:Nat} {e:Af}:∀{L:List Af},e∈Oe I b L→e∈L
 |[],h=>by simp [Oe] at h
 |x::r,h=>by
  simp only [Oe] at h
  cases hb:I.any (iJ (b+x.s)) with
  |true=>
   rw [hb] at h
   simp only [cond_true,iE] at h ⊢
   exact h.imp id OY
  |false=>
   rw [hb] at h
   exact List.mem_cons_of_mem _ (OY h)
theorem Aho {I p:List Nat} {L:List Af} {e:Af} (h:e∈AfR I p L):e∈L:=by
 unfold AfR at h
 cases hb:I.any (λx=>iJ (x/1000000000) (1+AfQ p%9973)) with
 |true=>rw [hb] at h;exact OY h
 |false=>rw [hb] at h;exact h
def Ahp (P:Program) (Y:List (Value×Pr)→List (Chunk σ)→Option (Tree σ)) (E:Ev) (G:Hp):Prop:=
 ∀args prs K t,Y (lI args prs) K=some t→∀w,Aw K args prs→CP K→Ae D E G w K→∀Q:Value→Pr→List (Chunk σ)→Prop,t.holds Q (λ_ _ _=>False)→∀l asv,args.toArray= #[.func (.yield l) #[] #[]]++asv→
  Ol P l asv w λen w'=>∃v p K',en= .returned v∧Q v p K'∧AY K K'∧CP K'∧Bl K' v p∧Ae D E G w' K'
theorem Lc {P:Program} {T:List (Nat×Entry σ)} (hT:BD D P T) {Y:List (Value×Pr)→List (Chunk σ)→Option (Tree σ)} {I:List Nat} (hmix:P.follows .mixedOrders=true):
 ∀(fuel:Nat) {f:Fq} {rs:List ResultVar} {B:Code} {R:Ending→World→Prop} {n:Nat} {E:Ev} {G:Hp} (_:Ahp D P Y E G) (_:(f.pl∧∃fn,P.funcs[f.id]? =some fn∧rs=fn.results.toList)∨(rounds I=true∧∀(L:List Af) (K:List (Chunk σ)),ES P L K rs=none)) {Q:List (Chunk σ)→Prop} (_:Aju Q)
 {R':Value→Pr→List (Chunk σ)→Prop} (_:∀v p K w,R' v p K→Q K→CP K→Bl K v p→Ae D E G w K→R (.returned v) w)
 (td:List Ab) (L:List Af) (K:List (Chunk σ)),Q K→(Dp P T Y I fuel B rs n td L K).holds R' (SW D P f R B n E G)→SW D P f R B n E G td L K:=by
 intro fuel
 induction fuel with
 |zero=>intro f rs B R n E G hY hfn Q hQ R' hR td L K _ h;exact h
 |succ fuel ih0=>
  intro f rs B R n E G hY hfn Q hQ R' hR td L K hQK h a w hF hS
  have ih:= λtd L K=>ih0 (f:=f) (rs:=rs) (B:=B) (R:=R) (n:=n) (E:=E) (G:=G) hY hfn hQ hR td L K
  have fin:∀(t:List Item),(t=[]∨∃k,t= .code .ret::k)→td.map (item B)=t→
   Tree.holds R' (SW D P f R B n E G) (match ES P L K rs with|some [(v,p)]=> .ret v p K|some vs=> .ret (.tuple (vs.map (·.1)).toArray) (EH (vs.map (·.2))) K|none=> .stuck td L K)→WT P f R (td.map (item B)) a w:=by
   intro t ht htd h
   cases hr:ES P L K rs with
   |none=>rw [hr] at h;exact h a w hF hS
   |some vs=>
    rw [hr] at h
    rw [htd]
    obtain ⟨hro,fn,hfn1,rfl⟩:f.pl∧∃fn,P.funcs[f.id]? =some fn∧rs=fn.results.toList:=hfn.resolve_right λh2=>by rw [h2.2] at hr;cases hr
    have hps:=(IC D hF hS _ _ hr).2
    refine Ac8 D hro hfn1 ht hF hS hr ?_
    match vs,hps with
    |[],hps=>exact hR _ _ _ _ h hQK hF.kok (QH hps) hS
    |[(v,p)],hps=>exact hR _ _ _ _ h hQK hF.kok (hps (v,p) (by simp)) hS
    |_::_::_,hps=>exact hR _ _ _ _ h hQK hF.kok (QH hps) hS
  have hext:∀g args prs K t,(λ(g:Nat) (args:List (Value×Pr)) (K:List (Chunk σ))=>
   bif I.any (iJ g)&&lZ g 1000000 then match P.funcs[g]? with
    |some fn=>match fn.body with
     |some B'=>bif jS args.length fn.ntmps then some (Dp P T Y I fuel B' fn.results.toList fn.ntmps [.code []] (Di 0 args) K) else none
     |none=>none
    |none=>none
   else bif iJ g L9&&hooked I then Y args K else none) g (lI args prs) K=some t→∀w,Aw K args prs→CP K→Ae D E G w K→∀Q:Value→Pr→List (Chunk σ)→Prop,t.holds Q (λ_ _ _=>False)→
   QG P g args.toArray w λen w'=>∃v p K',en= .returned v∧Q v p K'∧AY K K'∧CP K'∧Bl K' v p∧Ae D E G w' K':=by
   intro g args prs K t ht w hps hk hS Q hQ
   dsimp only at ht
   cases hI:(I.any (iJ g)&&lZ g 1000000) with
   |false=>
    rw [hI] at ht
    simp only [cond_false] at ht
    cases hy:(iJ g L9&&hooked I) with
    |false=>rw [hy] at ht;cases ht
    |true=>
     rw [hy] at ht
     simp only [iG] at hy
     have e:=iF hy.1
     exact ⟨λhne=>absurd e hne, λ_ l asv has=>hY args prs K t ht w hps hk hS Q hQ l asv has⟩
   |true=>
    rw [hI] at ht
    simp only [cond_true] at ht
    split at ht
    ·rename_i fn' hfn'
     split at ht
     ·rename_i B' hB'
      cases hle:jS (lI args prs).length fn'.ntmps with
      |false=>rw [hle] at ht;cases ht
      |true=>
       rw [hle] at ht
       simp only [cond_true,iA] at ht
       subst ht
       obtain ⟨hp1,hp2⟩:=Za hps
       refine ⟨λ_=>Hy hfn' hB' ?_, λe=>(by simp only [iG] at hI;have:=iP (show jS (g+1) 1000000=true from hI.2);unfold L9 at e;omega)⟩
       have hgo:=ih0 (f:=(g:Fq)) (rs:=fn'.results.toList) (B:=B') (R:= λen w'=>∃v p K',en= .returned v∧Q v p K'∧AY K K'∧CP K'∧Bl K' v p∧Ae D E G w' K') (n:=fn'.ntmps) (E:=E) (G:=G) hY (.inl ⟨rfl,fn',hfn',rfl⟩) (Q:=AY K) (λ_ _ h1 h2=>h1.trans h2)
        (R':=Q) (λv p K' w' h1 h2 h3 h4 h5=>⟨v,p,K',rfl,h1,h2,h3,h4,h5⟩) [.code []] (Di 0 (lI args prs)) K (AY.refl K) (Tree.E8 (λ_ _ _ h=>h) (λ_ _ _ h=>h.elim) hQ)
       have hst:=Fr.start (n:=fn'.ntmps) (lI args prs) (iP hle) hp1 hk
       rw [hp2] at hst
       exact hgo _ w hst hS
     ·cases ht
    ·cases ht
  have hnx:((I.all λx=>jS 1000000 x)&&!(hooked I))=true→∀g (args:List (Value×Pr)) (K:List (Chunk σ)),(λ(g:Nat) (args:List (Value×Pr)) (K:List (Chunk σ))=>
   bif I.any (iJ g)&&lZ g 1000000 then match P.funcs[g]? with
    |some fn=>match fn.body with
     |some B'=>bif jS args.length fn.ntmps then some (Dp P T Y I fuel B' fn.results.toList fn.ntmps [.code []] (Di 0 args) K) else none
     |none=>none
    |none=>none
   else bif iJ g L9&&hooked I then Y args K else none) g args K=none:= λhall g args K=>by
   dsimp only
   simp only [iG,lC] at hall
   have hall1:=hall.1
   have:(I.any (iJ g)&&lZ g 1000000)=false:=by
    cases hb:(I.any (iJ g)&&lZ g 1000000) with
    |false=>rfl
    |true=>
     simp only [iG] at hb
     obtain ⟨x,hx,e⟩:=lA.1 hb.1
     have h1:=iP (jN.1 hall1 x hx)
     have h2:=iF e
     have h3:g+1≤1000000:=iP hb.2
     omega
   rw [this,hall.2,oB];rfl
  cases td with
  |nil=>simp only [Dp] at h;exact fin [] (.inl rfl) rfl h
  |cons x k=>
   cases x with
   |code p=>
    simp only [Dp] at h
    simp only [iC,item]
    split at h
    ·rename_i hc
     rw [hc]
     exact WT.step (λcs=>stepR_skip) (ih k L K hQK h a w hF hS)
    ·rename_i c1 c2 hc
     have:=ih _ L K hQK h a w hF hS
     simp only [iC,item,sub,hc] at this
     rw [hc]
     exact WT.step (λcs=>stepR_seq) this
    ·rename_i c c1 c2 hc
     split at h
     ·rename_i t hv
      have hev:=Au (g:=none) hF trivial hv
      rw [hc]
      refine WT.step (λcs=>stepR_cond hev) ?_
      split at h
      ·cases t with
       |true=>
        have:=ih _ L K hQK h a w hF hS
        simp only [iC,item,sub,hc] at this
        exact this
       |false=>
        have:=ih _ L K hQK h a w hF hS
        simp only [iC,item,sub,hc] at this
        exact this
      ·cases t with
       |true=>
        have:=ih _ L K hQK (h.1 rfl) a w hF hS
        simp only [iC,item,sub,hc] at this
        exact this
       |false=>
        have:=ih _ L K hQK (h.2 rfl) a w hF hS
        simp only [iC,item,sub,hc] at this
        exact this
     ·exact h a w hF hS
    ·rename_i id c hc
     have:=ih _ L K hQK h a w hF hS
     simp only [iC,item,sub,hc] at this
     rw [hc]
     exact WT.step (λcs=>stepR_block) this
    ·rename_i id hc
     split at h
     ·rename_i k' hk
      rw [hc]
      exact WT.step (λcs=>stepR_exit (Gv hk)) (ih k' L K hQK h a w hF hS)
     ·exact h a w hF hS
    ·rename_i hc
     exact fin (.code .ret::k.map (item B)) (.inr ⟨_,rfl⟩) (by simp only [iC,item,hc]) h
    ·rename_i id ops hc
     have:=ih _ L K hQK h a w hF hS
     simp only [iC,item,hc,opsOf,Nat.sub_zero] at this
     rw [hc]
     refine WT.step (λcs=>stepR_region) ?_
     rw [List.range_eq_range']
     exact this
    ·rename_i id ops hc
     refine (Bool.eq_false_or_eq_true (I.any (iJ (Ach p 900)))).elim (λhst=>by rw [hst] at h;exact h a w hF hS) λhst=>?_
     rw [hst] at h
     dsimp only at h
     have hwide:∀ext,(((I.all λx=>jS 1000000 x)&&!(hooked I))=true→∀g a K,ext g a K=none)→(∀g args prs K t,ext g (lI args prs) K=some t→∀w,Aw K args prs→CP K→Ae D E G w K→∀Q:Value→Pr→List (Chunk σ)→Prop,t.holds Q (λ_ _ _=>False)→
      QG P g args.toArray w λen w'=>∃v p K',en= .returned v∧Q v p K'∧AY K K'∧CP K'∧Bl K' v p∧Ae D E G w' K')→
      Tree.holds R' (SW D P f R B n E G) (bif QB ops then wide P T ext n ops ((I.all λx=>jS 1000000 x)&&!(hooked I)) (λQ L K=> .need False (.stuck (.lst p Q::List.drop 1 (.code p::k)) L K)) (λL' K'=>Dp P T Y I fuel B rs n (List.drop 1 (.code p::k)) L' K') (ops.size+1) (jX ops.size) L K else .stuck (.code p::k) L K)→
      WT P f R (.code (sub B p)::k.map (item B)) a w:= λext hnx hext hh=>by
      cases hb:QB ops with
      |false=>rw [hb] at hh;exact hh a w hF hS
      |true=>
       rw [hb] at hh
       simp only [cond_true] at hh
       rw [hc]
       refine WT.step (λcs=>stepR_region_draw) ?_
       simp only [Region.schedule,hmix,lV,if_true]
       refine Agf D hT (AjQ hb) hnx hext (st:= λQ L K=> .need False (.stuck (.lst p Q::List.drop 1 (.code p::k)) L K)) (λ_ _ _ h=>And.left h) (λL' K' hx hko a' w' hF' hS'=>WT.step (λcs=>stepR_region_end) (ih k L' K' (hQ _ _ hQK hx) hko a' w' hF' hS')) ops.size _ _ _ _ _ K a a _ (Ahn _) (FO.start D hF (Sat.drawn hS _)) hh
     split at h
     ·rename_i L' ps hq0
      cases hB0:(nV .any ops&&!(rounds I)) with
      |false=>rw [hB0] at hq0;cases hq0
      |true=>
       rw [hB0] at hq0
       simp only [cond_true] at hq0
       simp only [iG,lC] at hB0
       have hB:=hB0.1
       have hro:f.pl:=hfn.elim (·.1) λh2=>by rw [h2.1] at hB0;cases hB0.2
       obtain ⟨hps,ht⟩:=Eu h
       rw [hc]
       refine WT.Al2 hro (wp_region_quiet (C:= λw'=>Ae D E G w' K) hmix hB (Sat.drawn hS _) ?_)
       exact Ji D hT _ L hF hS hq0 hps λa' hF' w' hS'=>⟨rfl,ih k L' K hQK ht a' w' hF' hS'⟩
     ·cases hB0:(lastB ops (ops.size-1)&&Aky (OJ P T n ops K 0 ops.toList L) (ops.size-1)) with
      |true=>
       rw [hB0] at h
       simp only [cond_true] at h
       have hB:lastB ops (ops.size-1)=true:=by
        simp only [iG] at hB0
        exact hB0.1
       simp only [hB,cond_true] at h
       split at h
       ·rename_i om hom
        split at h
        ·rename_i hgs
         split at h
         ·rename_i L' ps hq
          split at h
          ·rename_i t he
           obtain ⟨hps,ht⟩:=Eu h
           obtain ⟨g1,g2,_⟩:=Gf hgs
           rw [hc]
           refine WT.Ae9 (C:= λw'=>Ae D E G w' K) (Q0:= λa'=>Fr n L' K a') hmix hB (Sat.drawn hS _) (λa' w' hF' hS'=>?_) (Ji D hT _ L hF hS hq hps λa' hF'=>hF')
           exact H5 D hT hext hom ((Df g1).2 trivial) g2 hF' hS' he ht λv pr K' hK' hx _ a2 w2 _ hF2 hS2=>WT.step (λcs=>stepR_region_end) (ih k _ K' (hQ _ _ hQK hx) hK' a2 w2 hF2 hS2)
          ·exact h a w hF hS
         ·exact h a w hF hS
        ·exact h a w hF hS
       ·exact h a w hF hS
      |false=>
       rw [hB0] at h
       simp only [cond_false] at h
       split at h
       ·rename_i m hm
        cases hTo:WC ops (JY ops m) m with
        |false=>rw [hTo] at h;exact hwide _ hnx hext h
        |true=>
         rw [hTo] at h
         simp only [cond_true] at h
         have hT':=AjF hTo
         split at h
         ·rename_i L' ps hq
          have hQ0:∀ps',(∀p∈ps',p)→ps'=ps→wpQuiet P (Dw ops m) (λw'=>Ae D E G w' K) (λa'=>Fr n L' K a') (Dw ops m).toList a:= λps' hps' e=>by
           subst e
           exact Ji D hT _ L hF hS hq hps' λa' hF'=>hF'
          have hop:∀is,(item B (.lst p is))= .inRegion ops is:= λis=>by simp only [item,hc,opsOf]
          cases hu:iJ (JY ops m) ops.size with
          |true=>
           rw [hu] at h
           simp only [cond_true] at h
           obtain ⟨hps,ht⟩:=Eu h
           rw [hc]
           refine WT.Uj (C:= λw'=>Ae D E G w' K) (Q0:= λa'=>Fr n L' K a') (u:=JY ops m) (m:=m) hmix hT' (Sat.drawn hS _) (λa' w' hF' hS'=>?_) (λo ho=>?_) (hQ0 ps hps rfl)
           ·have:=ih _ L' K hQK ht a' w' hF' hS'
            simpa only [iC,hop,mQ,mT] using this
           ·exfalso
            rw [iF hu,kA (kC _)] at ho
            cases ho
          |false=>
           rw [hu] at h
           simp only [cond_false] at h
           split at h
           ·rename_i d hd
            obtain ⟨hps,ht⟩:=Eu h
            obtain ⟨htA,htB⟩:=ht
            rw [hc]
            refine WT.Uj (C:= λw'=>Ae D E G w' K) (Q0:= λa'=>Fr n L' K a') (u:=JY ops m) (m:=m) hmix hT' (Sat.drawn hS _) (λa' w' hF' hS'=>?_) (λo ho a' w' v hF' hS'=>?_) (hQ0 ps hps rfl)
            ·have:=ih _ L' K hQK htA a' w' hF' hS'
             simpa only [iC,hop,mQ,mT] using this
            ·rw [ho] at hd
             have hd':o.dst=some d:=hd
             rw [hd'] at hF'
             have:=ih _ (del d L') K hQK htB a' w' hF'.unput hS'
             simpa only [iC,hop,mQ,mT] using this
           ·exact h a w hF hS
         ·exact hwide _ hnx hext h
       ·exact hwide _ hnx hext h
    ·rename_i c hc
     have:=ih _ L K hQK h a w hF hS
     simp only [iC,item,sub,hc] at this
     rw [hc]
     exact WT.step (λcs=>Ae8) this
    ·rename_i l hc
     rw [hc]
     exact WT.step (λcs=>stepR_label) (ih k L K hQK h a w hF hS)
    ·rename_i c hc
     split at h
     ·have:=ih _ L K hQK h a w hF hS
      simp only [iC,item,sub,hc] at this
      rw [hc]
      exact WT.step (λcs=>stepR_loop) this
     ·exact h a w (hF.sub λ_ he=>Aho he) hS
    ·exact h a w hF hS
   |blk id=>
    simp only [Dp] at h
    exact WT.step (λcs=>stepR_inBlock) (ih k L K hQK h a w hF hS)
   |scp p=>
    simp only [Dp] at h
    simp only [iC,item]
    exact WT.step (λcs=>Abu) (ih k L K hQK h a w hF hS)
   |raw i=>simp only [Dp] at h;exact h a w hF hS
   |again p=>
    simp only [Dp] at h
    split at h
    ·have:=ih _ L K hQK h a w hF hS
     simp only [iC,item] at this ⊢
     exact WT.step (λcs=>stepR_inLoop) this
    ·exact h a w hF hS
   |lst p is=>
    cases is with
    |nil=>
     simp only [Dp] at h
     simp only [iC,item]
     exact WT.step (λcs=>stepR_region_end) (ih k L K hQK h a w hF hS)
    |cons i is=>
     simp only [Dp] at h
     simp only [iC,item]
     split at h
     ·have:=h a w hF hS
      simpa only [iC,item] using this
     ·rename_i o ho
      split at h
      ·have:=h a w hF hS
       simpa only [iC,item] using this
      ·rename_i g hgs
       split at h
       ·rename_i v pr ps hq
        obtain ⟨hps,ht⟩:=Eu h
        have next:=ih (.lst p is::k) _ K hQK ht
        rcases quiet_step D hT hF hS hgs hq hps with ⟨hw,hqq,hF'⟩|⟨hw,hF'⟩
        ·exact WT.op ho hw (hqq w hS) hS λw' hS'=>next _ w' (hF'.fixMark o L) hS'
        ·exact WT.Ir ho hw (next _ w (hF'.fixMark o L) hS)
       ·split at h
        ·have:=h a w hF hS
         simpa only [iC,item] using this
        ·split at h
         ·rename_i t he
          obtain ⟨g1,g2,_⟩:=Gf hgs
          exact H5 D hT hext ho ((Df g1).2 trivial) g2 hF hS he h λv pr K' hK' hx _ a' w' _ hF' hS'=>ih (.lst p is::k) _ K' (hQ _ _ hQK hx) hK' a' w' (hF'.unmark o) hS'
         ·have:=h a w hF hS
          simpa only [iC,item] using this
   |ops p i=>
    simp only [Dp] at h
    simp only [iC,item]
    split at h
    ·have:=h a w hF hS
     simpa only [iC,item] using this
    ·split at h
     ·rename_i hi
      have hge:(opsOf (sub B p)).size≤i:=by
       rcases jC i (opsOf (sub B p)).size with h'|h'
       ·simp [h'] at hi
       ·exact h'
      rw [Nat.sub_eq_zero_of_le hge]
      exact WT.step (λcs=>stepR_region_end) (ih k L K hQK h a w hF hS)
     ·rename_i o ho
      have hlt:i<(opsOf (sub B p)).size:=by
       rcases jC i (opsOf (sub B p)).size with h'|h'
       ·exact h'
       ·rw [kA h'] at ho;cases ho
      split at h
      ·have:=h a w hF hS
       simpa only [iC,item] using this
      ·rename_i g hgs
       split at h
       ·rename_i v pr ps hq
        have hq:=AjA hq
        obtain ⟨hps,ht⟩:=Eu h
        rw [Gw hlt]
        have next:=ih (.ops p (i+1)::k) _ K hQK ht
        rcases quiet_step D hT hF hS hgs hq hps with ⟨hw,hqq,hF'⟩|⟨hw,hF'⟩
        ·exact WT.op ho hw (hqq w hS) hS λw' hS'=>next _ w' (hF'.fixMark o L) hS'
        ·exact WT.Ir ho hw (next _ w (hF'.fixMark o L) hS)
       ·split at h
        ·rename_i c b _
         split at h
         ·rename_i s t pe hl
          cases hnb:jS n 1000000 with
          |false=>
           rw [hnb] at h
           simp only [cond_false] at h
           have:=h a w hF hS
           simpa only [iC,item] using this
          |true=>
           rw [hnb] at h
           simp only [cond_true] at h
           have hnn:=iP hnb
           obtain ⟨hA,hSk⟩:=Jl h
           obtain ⟨g1,g2,g3⟩:=Gf hgs
           obtain ⟨hm,hs⟩:=BV hl
           have ht:=(hF.ents _ hm trivial).1
           simp only at hs
           subst hs
           simp only at ht
           by_cases htb:t=b
           ·subst htb
            have hw:iZ o (yielded (opsOf (sub B p)) a.tmps)=true:=(Df g1).2 ht
            have hA:=hA rfl
            split at hA
            ·rename_i A he
             rw [Gw hlt]
             exact H5 D hT hext ho hw g2 (hF.known hnn ht) hS he hA λv pr K' hK' hx _ a' w' _ hF' hS'=>ih (.ops p (i+1)::k) _ K' (hQ _ _ hQK hx) hK' a' w' (hF'.unmark o) hS'
            ·have:=hA a w hF hS
             simpa only [iC,item] using this
           ·have htn:t=!b:=by cases t<;>cases b<;>simp at htb ⊢
            have hw:iZ o (yielded (opsOf (sub B p)) a.tmps)=false:=by
             cases hw:iZ o (yielded (opsOf (sub B p)) a.tmps) with
             |false=>rfl
             |true=>
              have:=(Df g1).1 hw
              simp only [GV] at this
              rw [ht] at this
              injection this with this
              exact absurd this htb
            rw [htn] at ht
            rw [Gw hlt]
            exact WT.Ir ho hw (ih (.ops p (i+1)::k) _ K hQK (hSk htn) _ w ((hF.known hnn ht).put g2 (λ_ _ _ _ h=>by cases h) λ_=>⟨rfl,Ar⟩) hS)
         ·have:=h a w hF hS
          simpa only [iC,item] using this
        ·split at h
         ·rename_i t he
          rw [Gw hlt]
          obtain ⟨g1,g2,_⟩:=Gf hgs
          exact H5 D hT hext ho ((Df g1).2 trivial) g2 hF hS he h λv pr K' hK' hx _ a' w' _ hF' hS'=>ih (.ops p (i+1)::k) _ K' (hQ _ _ hQK hx) hK' a' w' (hF'.unmark o) hS'
         ·have:=h a w hF hS
          simpa only [iC,item] using this
theorem MX {P:Program} {T:List (Nat×Entry σ)} (hT:BD D P T) {I:List Nat} (hmix:P.follows .mixedOrders=true) (fuel:Nat) {f:Fq} {rs:List ResultVar} {B:Code} {R:Ending→World→Prop} {n:Nat} {E:Ev} {G:Hp}
 (hf:(f.pl∧∃fn,P.funcs[f.id]? =some fn∧rs=fn.results.toList)∨(rounds I=true∧∀(L:List Af) (K:List (Chunk σ)),ES P L K rs=none)) {Q:List (Chunk σ)→Prop} (hQ:Aju Q)
 {R':Value→Pr→List (Chunk σ)→Prop} (hR:∀v p K w,R' v p K→Q K→CP K→Bl K v p→Ae D E G w K→R (.returned v) w)
 (td:List Ab) (L:List Af) (K:List (Chunk σ)) (hK:Q K) (h:(run P T I fuel B rs n td L K).holds R' (SW D P f R B n E G)):SW D P f R B n E G td L K:=
 Lc D hT (Y:= λ_ _=>none) hmix fuel (λ_ _ _ _ h=>by cases h) hf hQ hR td L K hK h
end
section
open Go.RowKit
variable {σ:Type} (D:Addr→σ→BN)
theorem Agg {mk:List Nat} {P:Program} {T:List (Nat×Entry σ)} (hT:BD D P T) {I:List Nat} {f:FuncId} {fn:Func} {B:Code} {n:Nat} {R:Ending→World→Prop} {E:Ev} {G:Hp} {w:World} (hfn:P.funcs[f]? =some fn) (hmix:P.follows .mixedOrders=true)
 (hB:fn.body=some B) (hn:fn.ntmps=n) (args:List (Value×Pr)) (hlen:jS args.length n=true) {K:List (Chunk σ)} (hp:∀x∈args,Bl K x.1 x.2) (hk:CP K) (hS:Ae D E G w K)
 {R':Value→Pr→List (Chunk σ)→Prop} (hR:∀v p K w,R' v p K→Ae D E G w K→R (.returned v) w) (fuel:Nat) {t:Tree σ} (hrun:run P T I fuel B fn.results.toList n [.code []] (markL n mk (Di 0 args)) K=t)
 (ht:t.holds R' (SW D P f R B n E G)):Calls P f (args.map (·.1)).toArray w R:=by
 refine Hy hfn hB ?_
 have hgo:=MX D hT (I:=I) hmix fuel (f:=(f:Fq)) (rs:=fn.results.toList) (B:=B) (R:=R) (n:=n) (E:=E) (G:=G) (.inl ⟨rfl,fn,hfn,rfl⟩) (Q:= λ_=>True) (λ_ _ _ _=>trivial) (R':=R') (λv p K w h1 _ _ _ h2=>hR v p K w h1 h2) [.code []] (markL n mk (Di 0 args)) K trivial (by rw [hrun];exact ht)
 have hst:=(Fr.start (n:=n) args (iP hlen) hp hk).markL mk
 subst hn
 exact hgo _ w hst hS
theorem WY {R:Value→Pr→List (Chunk σ)→Prop} {S:List Ab→List Af→List (Chunk σ)→Prop} {v:Value} {p:Pr} {K:List (Chunk σ)} (h:R v p K):(Tree.ret v p K).holds R S:=h
def Bg (f:Func):Code:=f.body.getD .skip
theorem SW.loop {P:Program} {f:Fq} {R:Ending→World→Prop} {B:Code} {n:Nat} {E:Ev} {G:Hp} {α:Type} {td:List Ab} (Lf:α→List Af) (Kf:α→List (Chunk σ)) (m:α→Nat) (I:α→Prop)
 (H:∀s,I s→(∀s',I s'→m s'<m s→SW D P f R B n E G td (Lf s') (Kf s'))→SW D P f R B n E G td (Lf s) (Kf s)):∀s,I s→SW D P f R B n E G td (Lf s) (Kf s):=by
 have key:∀k s,m s=k→I s→SW D P f R B n E G td (Lf s) (Kf s):=by
  intro k
  induction k using nT with
  |_ k ih=>exact λs hs hI=>H s hI λs' hI' hlt=>ih (m s') (by omega) s' rfl hI'
 exact λs hI=>key _ s rfl hI
theorem SW.enter {P:Program} {f:Fq} {R:Ending→World→Prop} {B:Code} {n:Nat} {E:Ev} {G:Hp} {p:List Nat} {td:List Ab} {L:List Af} {K:List (Chunk σ)} (hc:Code.loop (Sl.sub B (0::p))=Sl.sub B p) (h:SW D P f R B n E G (.code (0::p):: .again p::td) L K):SW D P f R B n E G (.code p::td) L K:=by
 intro a w hF hS
 have:=h a w hF hS
 simp only [iC,item] at this ⊢
 rw [←hc]
 exact WT.step (λcs=>stepR_loop) this
theorem SW.again {P:Program} {f:Fq} {R:Ending→World→Prop} {B:Code} {n:Nat} {E:Ev} {G:Hp} {p:List Nat} {td:List Ab} {L:List Af} {K:List (Chunk σ)} (h:SW D P f R B n E G (.code (0::p):: .again p::td) L K):SW D P f R B n E G (.again p::td) L K:=by
 intro a w hF hS
 exact WT.step (λcs=>stepR_inLoop) (h a w hF hS)
theorem SW.sub {P:Program} {f:Fq} {R:Ending→World→Prop} {B:Code} {n:Nat} {E:Ev} {G:Hp} {td:List Ab} {L L':List Af} {K:List (Chunk σ)} (h:SW D P f R B n E G td L' K) (hs:∀e∈L',e∈L):SW D P f R B n E G td L K:=
 λa w hF hS=>h a w (hF.sub hs) hS
theorem Ahq {ks:List Nat} {L:List Af} {e:Af} (h:e∈TA ks L):e∈L:=by
 induction L with
 |nil=>simp [TA] at h
 |cons x r ih=>
  simp only [TA] at h
  cases hb:ks.any (iJ x.s) with
  |true=>rw [hb] at h;simp only [cond_true,iE] at h;rcases h with rfl|h; · simp
         ·simp [ih h]
  |false=>rw [hb] at h;simp only [cond_false] at h;simp [ih h]
theorem SW.keep {P:Program} {f:Fq} {R:Ending→World→Prop} {B:Code} {n:Nat} {E:Ev} {G:Hp} {td:List Ab} {L L':List Af} {K:List (Chunk σ)} (ks:List Nat) (hk:TA ks L=L') (h:SW D P f R B n E G td L' K):SW D P f R B n E G td L K:=
 SW.sub D h λe he=>Ahq (ks:=ks) (by rw [hk];exact he)
theorem SW.run {P:Program} {T:List (Nat×Entry σ)} (hT:BD D P T) {I:List Nat} {f:FuncId} {fn:Func} {B:Code} {R:Ending→World→Prop} {n:Nat} {E:Ev} {G:Hp} (hfn:P.funcs[f]? =some fn) (hmix:P.follows .mixedOrders=true)
 {R':Value→Pr→List (Chunk σ)→Prop} (hR:∀v p K w,R' v p K→Ae D E G w K→R (.returned v) w) (fuel:Nat) {td:List Ab} {L:List Af} {K:List (Chunk σ)} {t:Tree σ} (hrun:Sl.run P T I fuel B fn.results.toList n td L K=t)
 (ht:t.holds R' (SW D P f R B n E G)):SW D P f R B n E G td L K:=
 MX D hT (I:=I) hmix fuel (f:=(f:Fq)) (.inl ⟨rfl,fn,hfn,rfl⟩) (Q:= λ_=>True) (λ_ _ _ _=>trivial) (λv p K w h1 _ _ _ h2=>hR v p K w h1 h2) td L K trivial (by rw [hrun];exact ht)
end
section
open Go.RowKit
theorem cT {α:Type} {c:Bool} {a b:α} (h:c=true):(bif c then a else b)=a:=by rw [h];rfl
theorem cF {α:Type} {c:Bool} {a b:α} (h:c=false):(bif c then a else b)=b:=by rw [h];rfl
variable {σ:Type} (D:Addr→σ→BN)
theorem BP.pick {E:World} {G:Hp} {w:World} {As Bs:List Dn} (h:BP E G w As) (is:List Nat) (hn:is.Nodup) (hB:∀(i:Nat) (B:Dn),Bs[i]? =some B→(∃j,is[i]? =some j∧As[j]? =some B)∨∀k,B k):BP E G w Bs:=by
 obtain ⟨h1,h2,o,h3,h4⟩:=h
 refine ⟨h1,h2,ownIn o is, λb i hb=>?_, λi B hi=>?_⟩
 ·unfold ownIn at hb
  split at hb
  ·rename_i j ho;exact h3 b j ho
  ·cases hb
 ·rcases hB i B hi with ⟨j,hj,hA⟩|hk
  ·rw [←DC (w:=w) (o:=o) (i:=j)]
   ·exact h4 j B hA
   ·intro b
    refine ⟨⟨λhb=>?_, λhb=>?_⟩, λ_=>rfl⟩
    ·unfold ownIn;rw [hb];exact (I9 hn).2 hj
    ·unfold ownIn at hb
     split at hb
     ·rename_i j' ho
      have:=(I9 hn).1 hb
      rw [hj] at this;injection this with this;subst this;exact ho
     ·cases hb
  ·exact hk _
theorem Sat.pick {E:Ev} {G:Hp} {w:World} {As Bs:List BN} (h:Sat E G w As) (is:List Nat) (hn:is.Nodup) (hB:∀(i:Nat) (B:BN),Bs[i]? =some B→(∃j,is[i]? =some j∧As[j]? =some B)∨∀Y k,E.z.le Y→B Y k):Sat E G w Bs:=by
 obtain ⟨Z,hz,hw,h0⟩:=h
 exact ⟨Z,hz,hw,h0.pick is hn λi B hi=>by
  obtain ⟨C,h1,rfl⟩:=Hu hi
  rcases hB i C h1 with ⟨j,h2,h3⟩|h2
  ·exact .inl ⟨j,h2,Dv h3⟩
  ·exact .inr λk Y hY=>h2 Y k (hz.low.trans hY)⟩
def nilRow:Chunk σ→Bool
 | .row none _ 0 0 cols=>!cols.isEmpty&&cols.all λc=>iJ c.len 0
 | .ro none 0 0 cols=>D8 cols&&cols.all λc=>iJ c.len 0
 |_=>false
def TJ:List (Value×Pr)→List (Value×Pr)
 |[]=>[]
 |x::r=>(x.1, .no)::TJ r
def Jn:Chunk σ→Chunk σ
 | .cells b t cs=> .cells b t (TJ cs)
 |c=>c
theorem Uu:∀cs:List (Value×Pr),(TJ cs).map (·.1)=cs.map (·.1)
 |[]=>rfl
 |x::r=>by simp [TJ,Uu r]
theorem MZ {G:Hp} (c:Chunk σ):den D G (Jn c)=den D G c:=by
 cases c<;>simp [Jn,den,Uu]
def QQ:Chunk σ→Chunk σ
 | .row a _ n cap [.ints .i64 xs]=> .ro (a.map λb=>⟨b,0,none⟩) n cap [.fz xs]
 | .bm b l _=> .bm b l none
 |c=>Jn c
def WZ:Chunk σ→Bool
 | .ro _ _ _ cols=>D8 cols
 | .bm _ _ none=>true
 |_=>false
def Acj (c d:Chunk σ):Chunk σ:=bif WZ c then QQ d else Jn d
def got (K:List (Chunk σ)):List Nat→List (Chunk σ)→Prop
 |[],[]=>True
 |i::is,c::cs=>((K[i]?).map (Acj c)=some (Jn c)∨nilRow c=true)∧got K is cs
 |_,_=>False
theorem Ld {G:Hp} {c:Chunk σ} (h:nilRow c=true) (Y k:Hp):den D G c Y k:=by
 unfold nilRow at h
 split at h
 ·rename_i t cols
  simp only [iG,lC,List.isEmpty_eq_false_iff,jN] at h
  refine ⟨λc hc=>iF (h.2 c hc),?_,rfl,rfl⟩
  exact List.length_pos_iff.2 h.1
 ·rename_i cols
  simp only [iG,jN] at h
  exact ⟨⟨λc hc=>iF (h.2 c hc), λi hi=>by omega,nU _⟩,kC _, λc _ i hi=>absurd hi (kX i)⟩
 ·cases h
theorem Afx {K:List (Chunk σ)}:∀{is:List Nat} {cs:List (Chunk σ)},got K is cs→∀(i:Nat) c,cs[i]? =some c→(∃j d,is[i]? =some j∧K[j]? =some d∧Acj c d=Jn c)∨nilRow c=true
 |[],[],_,i,c,hi=>by simp at hi
 |[],_::_,h,_,_,_=>by simp [got] at h
 |_::_,[],h,_,_,_=>by simp [got] at h
 |j::is,c0::cs,h,i,c,hi=>by
  simp only [got] at h
  cases i with
  |zero=>
   simp at hi;subst hi
   rcases h.1 with h|h
   ·rw [Option.map_eq_some_iff] at h
    obtain ⟨d,h1,h2⟩:=h
    exact .inl ⟨j,d,by simp,h1,h2⟩
   ·exact .inr h
  |succ i=>simpa using Afx h.2 i c (by simpa using hi)
theorem Ahr {h:Hp} {b:Nat} {t:TypeId} {n cap:Nat} {xs:LI} {cs:Array Value} (hb:h b=some (.cells cs t (0,0))) (hn:n≤cap) (hm:cap≤maxLen) (hl:xs.length=n) (hf:cs.toList.take (n*1)=flat [.ints .i64 xs] n):Dl h (some ⟨b,0,none⟩) n [.fz xs]:=by
 refine ⟨λc hc=>by rw [jM] at hc;subst hc;exact hl, λi hi=>⟨⟨b,0,none⟩,rfl, λj c hj=>?_⟩,nX hn hm⟩
 cases j with
 |succ j=>simp at hj
 |zero=>
  simp at hj;subst hj
  have hg:=flat_get (cols:=[.ints .i64 xs]) (n:=n) (i:=i) (j:=0) (c:= .ints .i64 xs) hi rfl
  rw [←hf,kJ] at hg
  simp only [jI,mI,lH,Nat.mul_one,nY] at hg
  rw [if_pos hi] at hg
  have hadd:(⟨b,0,none⟩:Addr).add (i*[Ak.fz xs].length+0)=⟨b,i,none⟩:=by
   unfold Addr.add
   split
   ·rename_i e;simp at e;subst e;rfl
   ·simp
  rw [hadd]
  simp only [cellOf,hb,Option.isSome_none,kK,if_false]
  have hg':cs[i]? =some ((Ak.ints .i64 xs).at i):=by simpa using hg
  exact hg'
theorem Ahs {h:Hp} {xs:LI} (hl:xs.length=0):Dl h none 0 [.fz xs]:=
 ⟨λc hc=>by rw [jM] at hc;subst hc;exact hl, λi hi=>by omega,nU _⟩
theorem Ae.fz {E:Ev} {G:Hp} {w:World} {K:List (Chunk σ)} (h:Ae D E G w K) {i:Nat} {d:Chunk σ} (hi:K[i]? =some d):Ae D E G w (K.set i (QQ d)):=by
 have easy:∀c':Chunk σ,den D G c'=den D G d→Ae D E G w (K.set i c'):= λc' e=>by
  unfold Ae
  rw [jR,e]
  have:(K.map (den D G)).set i (den D G d)=K.map (den D G):=by
   refine kV λj=>?_
   by_cases hij:i=j
   ·subst hij
    rw [iS (by simpa using Bv hi),BJ D hi]
   ·rw [iW hij]
  rw [this];exact h
 unfold QQ
 split
 ·rename_i a t n cap xs
  cases a with
  |some b=>
  unfold Ae
  rw [jR]
  refine Sat.freeze h (b:=b) (BJ D hi) λY k hk=>?_
  obtain ⟨h1,h2,cs,h4,h5,h6,h7,h8⟩:=hk
  exact ⟨_,h4, λY' k' hy=>⟨Ahr hy h5 h6 (h1 (.ints .i64 xs) (by simp)) (by simpa using h8),h5,YV⟩⟩
  |none=>
  unfold Ae
  rw [jR]
  refine Sat.imp h λj B hB=>?_
  by_cases hij:i=j
  ·subst hij
   rw [iS (by simpa using Bv hi)] at hB
   injection hB with hB;subst hB
   refine ⟨_,BJ D hi, λY k hk=>?_⟩
   obtain ⟨h1,h2,h3⟩:=hk
   obtain ⟨rfl,rfl⟩:n=0∧cap=0:=h3
   exact ⟨Ahs (h1 (.ints .i64 xs) (by simp)),kC _,YV⟩
  ·rw [iW hij] at hB
   exact ⟨B,hB, λ_ _ h=>h⟩
 ·rename_i b l it
  unfold Ae
  rw [jR]
  refine Sat.imp h λj B hB=>?_
  by_cases hij:i=j
  ·subst hij
   rw [iS (by simpa using Bv hi)] at hB
   injection hB with hB;subst hB
   refine ⟨_,BJ D hi, λY k hk=>?_⟩
   obtain ⟨es,clock,h1,h2,_⟩:=hk
   exact ⟨es,clock,h1,h2,trivial⟩
  ·rw [iW hij] at hB
   exact ⟨B,hB, λ_ _ h=>h⟩
 ·exact easy _ (MZ D d)
theorem Ae.fzs {E:Ev} {G:Hp} {w:World} {f:Nat→Bool}:∀(n:Nat) {K:List (Chunk σ)},Ae D E G w K→∃K',Ae D E G w K'∧K'.length=K.length∧∀(i:Nat) d,K[i]? =some d→K'[i]? =some (bif decide (i<n)&&f i then QQ d else d)
 |0,K,h=>⟨K,h,rfl, λi d hi=>by rw [hi];simp⟩
 |n+1,K,h=>by
  obtain ⟨K1,h1,hl,h2⟩:=Ae.fzs (f:=f) n h
  have other:∀i,i≠n→decide (i<n+1)=decide (i<n):= λi hi=>by rw [decide_eq_decide];omega
  cases hd:K[n]? with
  |none=>
   refine ⟨K1,h1,hl, λi d hi=>?_⟩
   rw [h2 i d hi,other i (λe=>by subst e;rw [hd] at hi;cases hi)]
  |some d=>
   have hdn:K1[n]? =some d:=by rw [h2 n d hd];simp
   cases hf:f n with
   |false=>
    refine ⟨K1,h1,hl, λi d' hi=>?_⟩
    by_cases hin:i=n
    ·subst hin
     rw [hd] at hi;injection hi with hi;subst hi
     rw [hdn,hf,oB];rfl
    ·rw [h2 i d' hi,other i hin]
   |true=>
    refine ⟨K1.set n (QQ d),Ae.fz D h1 hdn,by simpa using hl, λi d' hi=>?_⟩
    by_cases hin:i=n
    ·subst hin
     rw [hd] at hi;injection hi with hi;subst hi
     rw [iS (Bv hdn),hf]
     simp
    ·rw [iW (λe=>hin e.symm),h2 i d' hi,other i hin]
theorem Ae.got {E:Ev} {G:Hp} {w:World} {K cs:List (Chunk σ)} (h:Ae D E G w K) {is:List Nat} (hn:is.Nodup) (hg:got K is cs):Ae D E G w cs:=by
 obtain ⟨K1,h1,hl,h2⟩:=Ae.fzs D (f:= λj=>(jX cs.length).any λi=>(is[i]? ==some j)&&(match cs[i]? with|some c=>WZ c|none=>false)) K.length h
 refine Sat.pick h1 is hn λi B hi=>?_
 rw [iK] at hi
 cases hc:cs[i]? with
 |none=>rw [hc] at hi;cases hi
 |some c=>
  rw [hc] at hi;injection hi with hi;subst hi
  rcases Afx hg i c hc with ⟨j,d,g1,g2,g3⟩|h
  ·left
   refine ⟨j,g1,?_⟩
   have hil:=Bv hc
   have hjl:decide (j<K.length)=true:=decide_eq_true (Bv g2)
   rw [iK,h2 j d g2,hjl,oG]
   have hfj:((jX cs.length).any λi=>(is[i]? ==some j)&&(match cs[i]? with|some c=>WZ c|none=>false))=WZ c:=by
    rw [mJ,lA]
    constructor
    ·rintro ⟨i',_,hx⟩
     simp only [iG,beq_iff_eq] at hx
     obtain ⟨e1,e2⟩:=hx
     have hii:i'=i:=by
      have a:=(I9 hn).2 e1
      have b:=(I9 hn).2 g1
      rw [a] at b;injection b
     subst hii
     rw [hc] at e2;exact e2
    ·intro hx
     exact ⟨i,by simpa using hil,by simp [g1,hc,hx]⟩
   rw [hfj]
   unfold Acj at g3
   cases hz:WZ c with
   |true=>
    rw [hz] at g3
    simp only [cond_true,iR] at g3 ⊢
    rw [g3,MZ D c]
   |false=>
    rw [hz] at g3
    simp only [cond_false,iR] at g3 ⊢
    rw [←MZ D c,←g3,MZ D d]
  ·exact .inr λY k _=>Ld D h Y k
abbrev Anc:=Option Nat×Nat×Nat×Option Addr
def Zb (m:Mk σ) (x:Anc):Value:=
 match m with
 | .row _ cols=>bif D8 cols then .slice x.2.2.2 x.2.1 x.2.2.1 else Ba x.1 x.2.1 x.2.2.1
 | .obj _=> .pointer (x.1.map λb=>⟨b,0,none⟩)
def V5 (m:Mk σ) (x:Anc):Chunk σ:=
 match m with
 | .row t cols=>bif D8 cols then .ro x.2.2.2 x.2.1 x.2.2.1 cols else .row x.1 t x.2.1 x.2.2.1 cols
 | .obj s=>match x.1 with
   |some b=> .obj ⟨b,0,none⟩ s
   |none=> .dead
def JP:List (Mk σ)→List Anc→Bool
 |[],[]=>true
 | .row _ _::rs,_::xs=>JP rs xs
 | .obj _::rs,(some _,0,0,_)::xs=>JP rs xs
 |_,_=>false
def CO (out:List Value→Value) (nw:List (Chunk σ)) (rows:List (Mk σ)) (v:Value) (_p:Pr) (K:List (Chunk σ)):Prop:=
 ∃(anc:List Anc) (is:List Nat),is.Nodup∧JP rows anc=true∧v=out (jA Zb rows anc)∧
  got K is (nw++jA V5 rows anc)
def Post (E:Ev) (G:Hp) (out:List Value→Value) (nw:List (Chunk σ)) (rows:List (Mk σ)):Ending→World→Prop:= λen w'=>
 ∃acs:List (Option Nat×Nat),Fe rows acs∧en= .returned (out (jA EJ rows acs))∧Sat E G w' (nw.map (den D G)++(jA Dq rows acs).map (den D G))
def QR (m:Mk σ) (x:Anc):Option Nat×Nat:=
 match m with
 | .row _ cols=>(bif D8 cols then x.2.2.2.map AfK else x.1,x.2.2.1)
 | .obj _=>(x.1,x.2.2.1)
theorem Afy (a:Option Addr):(a.map AfK).map YQ=a:=by cases a<;>simp [Ais]
theorem V6:∀(rows:List (Mk σ)) (anc:List Anc),JP rows anc=true→(∀(j:Nat) t cols x,rows[j]? =some (.row t cols)→anc[j]? =some x→x.2.1=lenC cols)→
 jA EJ rows (jA QR rows anc)=jA Zb rows anc∧jA Dq rows (jA QR rows anc)=jA V5 rows anc∧Fe rows (jA QR rows anc)
 |[],[],_,_=>by simp [Fe]
 |[],_::_,h,_=>by simp [JP] at h
 |r::_,[],h,_=>by cases r<;>simp [JP] at h
 | .row t cols::rows,x::anc,h,hl=>by
   have h0:=hl 0 t cols x rfl rfl
   obtain ⟨h1,h2,h3⟩:=V6 rows anc (by simpa [JP] using h) λj t' c' x' hr hx=>hl (j+1) t' c' x' (by simpa using hr) (by simpa using hx)
   refine ⟨?_,?_,trivial,h3⟩
   ·simp only [kF,h1,EJ,Zb,QR]
    cases hf:D8 cols with
    |true=>simp only [cond_true,Afy,h0]
    |false=>simp only [cond_false,h0]
   ·simp only [kF,h2,Dq,V5,QR]
    cases hf:D8 cols with
    |true=>simp only [cond_true,Afy,h0]
    |false=>simp only [cond_false,h0]
 | .obj s::rows,x::anc,h,hl=>by
   obtain ⟨a,n,c,d⟩:=x
   match a,n,c,h with
   |some b,0,0,h=>
    obtain ⟨h1,h2,h3⟩:=V6 rows anc (by simpa [JP] using h) λj t' c' x' hr hx=>hl (j+1) t' c' x' (by simpa using hr) (by simpa using hx)
    refine ⟨?_,?_,⟨b,rfl⟩,h3⟩
    ·simp only [kF,h1,EJ,Zb,QR]
    ·simp only [kF,h2,Dq,V5,QR]
theorem CO.post {E:Ev} {G:Hp} {w:World} {out:List Value→Value} {nw:List (Chunk σ)} {rows:List (Mk σ)} {v:Value} {p:Pr} {K:List (Chunk σ)} (h:CO out nw rows v p K) (hS:Ae D E G w K):Post D E G out nw rows (.returned v) w:=by
 obtain ⟨anc,is,hn,hl,rfl,hg⟩:=h
 have hS':=hS.got D hn hg
 have hk:∀(j:Nat) t cols x,rows[j]? =some (.row t cols)→anc[j]? =some x→x.2.1=lenC cols:= λj t cols x hr hx=>by
  have hj:(nw++jA V5 rows anc)[nw.length+j]? =some (bif D8 cols then Chunk.ro x.2.2.2 x.2.1 x.2.2.1 cols else kU x.1 t x.2.1 x.2.2.1 cols):=by
   rw [iI (by omega),show nw.length+j-nw.length=j by omega,List.getElem?_zipWith,hr,hx];rfl
  cases hf:D8 cols with
  |true=>
   rw [hf] at hj
   obtain ⟨_,p,_,⟨g1,_⟩,_⟩:=hS'.get D hj
   cases hc:cols with
   |nil=>rw [hc] at hf;cases hf
   |cons c cs=>rw [hc] at g1;exact (g1.1 c (by simp)).symm
  |false=>
   rw [hf] at hj
   obtain ⟨_,p,_,⟨g1,g2,_⟩,_⟩:=hS'.get D hj
   cases hc:cols with
   |nil=>rw [hc] at g2;simp at g2
   |cons c cs=>rw [hc] at g1;exact (g1 c (by simp)).symm
 obtain ⟨h1,h2,h3⟩:=V6 rows anc hl hk
 refine ⟨jA QR rows anc,h3,by rw [h1],?_⟩
 rw [h2,←jE]
 exact hS'
def Chunk.roOk (G Z:Hp):Chunk σ→Prop
 | .ro a n cap cols=>Dl (bif D8 cols then Z else G) a n cols∧(bif D8 cols then n≤cap∧subs Z n cols else n≤cap)
 | .roc b t vs=>G b=some (.cells vs.toArray t (0,0))
 |_=>False
def JQ (G Z:Hp):List (Chunk σ)→Prop
 |[]=>True
 |c::cs=>c.roOk G Z∧JQ G Z cs
theorem Aa7 {G Z:Hp}:∀{cs:List (Chunk σ)},JQ G Z cs→∀c∈cs,c.roOk G Z
 |[],_,c,hc=>by simp at hc
 |c0::cs,h,c,hc=>by
  simp only [iE] at hc
  rcases hc with rfl|hc
  ·exact h.1
  ·exact Aa7 h.2 c hc
theorem Ae.ros {E:Ev} {G:Hp} {w:World} {K ros:List (Chunk σ)} (h:Ae D E G w K) (hr:JQ G E.z ros):Ae D E G w (K++ros):=by
 refine Sat.pick h (jX K.length) mR λi B hi=>?_
 rw [iK] at hi
 cases hc:(K++ros)[i]? with
 |none=>rw [hc] at hi;cases hi
 |some c=>
  rw [hc] at hi;injection hi with hi;subst hi
  rcases jC i K.length with hl|hl
  ·rw [iH hl] at hc
   exact .inl ⟨i,by simp [hl],by rw [iK,hc];rfl⟩
  ·rw [iI hl] at hc
   have:=Aa7 hr c (iU hc)
   refine .inr λY k hY=>?_
   cases c with
   |ro a n cap cols=>
    have h1:=this.1
    have h2:=this.2
    cases hf:D8 cols with
    |true=>
     rw [hf] at h1 h2
     refine ⟨?_,h2.1,AgW hY h2.2⟩
     rw [hf]
     exact Dl.mono hY h1
    |false=>
     rw [hf] at h1 h2
     refine ⟨?_,h2,YU hf⟩
     rw [hf]
     exact h1
   |roc b t vs=>exact this
   |_=>exact this.elim
def Es:List (Chunk σ)→Bool
 |[]=>true
 | .cells _ _ _::_=>false
 |_::cs=>Es cs
theorem AkB:∀{K:List (Chunk σ)},Es K=true→CP K:=by
 intro K h k b t cs hk
 exfalso
 have:jG b t cs∈K:=iU hk
 clear hk
 induction K with
 |nil=>simp at this
 |cons c cs' ih=>
  simp only [iE] at this
  rcases this with rfl|this
  ·simp [Es] at h
  ·refine ih ?_ this
   cases c<;>simp only [Es] at h<;>first|exact h|cases h
theorem AcN {K:List (Chunk σ)}:∀{vs:List Value} {ps:List Pr},Aw K vs ps→∀x∈lI vs ps,Bl K x.1 x.2
 |[],[],_,x,hx=>by simp at hx
 |[],_::_,h,_,_=>by simp [Aw] at h
 |_::_,[],h,_,_=>by simp [Aw] at h
 |v::vs,p::ps,h,x,hx=>by
  simp only [Aw] at h
  simp only [mX,iE] at hx
  rcases hx with rfl|hx
  ·exact h.1
  ·exact AcN h.2 x hx
theorem AcO {K:List (Chunk σ)}:∀{vs:List Value} {ps:List Pr},Aw K vs ps→vs.length=ps.length
 |[],[],_=>rfl
 |[],_::_,h=>by simp [Aw] at h
 |_::_,[],h=>by simp [Aw] at h
 |v::vs,p::ps,h=>by simp [Aw] at h;simp [AcO h.2]
theorem NI {mk:List Nat} {P:Program} {T:List (Nat×Entry σ)} (hT:BD D P T) {I:List Nat} {f:FuncId} {fn:Func} {B:Code} {E:Ev} {G:Hp} {w:World} (hfn:P.funcs[f]? =some fn) (hmix:P.follows .mixedOrders=true)
 (hB:fn.body=some B) (vs:List Value) (ps:List Pr) (hlen:jS vs.length fn.ntmps=true) {objs ros:List (Chunk σ)} (hp:Aw (objs++ros) vs ps) (hk:Es (objs++ros)=true) (hr:JQ G E.z ros) (hS:Ae D E G w objs)
 {out:List Value→Value} {nw:List (Chunk σ)} {rows:List (Mk σ)} (fuel:Nat) {t:Tree σ}
 (hrun:run P T I fuel B fn.results.toList fn.ntmps [.code []] (markL fn.ntmps mk (Di 0 (lI vs ps))) (objs++ros)=t)
 (ht:t.holds (CO out nw rows) (SW D P f (Post D E G out nw rows) B fn.ntmps E G)):Calls P f vs.toArray w (Post D E G out nw rows):=by
 have hl:=AcO hp
 have:=Agg D (mk:=mk) hT hfn hmix hB rfl (lI vs ps) (by simpa [hl] using hlen) (K:=objs++ros) (AcN hp) (AkB hk) (hS.ros D hr) (R':=CO out nw rows) (λv p K w' h hS'=>h.post D hS') fuel hrun ht
 simpa [List.map_fst_zip,hl] using this
theorem DJ {P:Program} {T:List (Nat×Entry σ)} (hT:BD D P T) {I:List Nat} {f:FuncId} {fn:Func} {B:Code} {E:Ev} {G:Hp} {w:World} (hfn:P.funcs[f]? =some fn) (hmix:P.follows .mixedOrders=true)
 (hB:fn.body=some B) (vs:List Value) (ps:List Pr) (hlen:jS vs.length fn.ntmps=true) {objs ros:List (Chunk σ)} (hp:Aw (objs++ros) vs ps) (hk:Es (objs++ros)=true) (hr:JQ G E.z ros) (hS:Ae D E G w objs)
 {out:List Value→Value} {nw:List (Chunk σ)} {rows:List (Mk σ)} (fuel:Nat) {t:Tree σ}
 (hrun:run P T I fuel B fn.results.toList fn.ntmps [.code []] (Di 0 (lI vs ps)) (objs++ros)=t)
 (ht:t.holds (CO out nw rows) (SW D P f (Post D E G out nw rows) B fn.ntmps E G)):Calls P f vs.toArray w (Post D E G out nw rows):=
 NI D (mk:=[]) hT hfn hmix hB vs ps hlen hp hk hr hS fuel hrun ht
theorem SW.go {P:Program} {T:List (Nat×Entry σ)} (hT:BD D P T) {I:List Nat} {f:FuncId} {fn:Func} {B:Code} {E:Ev} {G:Hp} (hfn:P.funcs[f]? =some fn) (hmix:P.follows .mixedOrders=true)
 {out:List Value→Value} {nw:List (Chunk σ)} {rows:List (Mk σ)} (fuel:Nat) {td:List Ab} {L:List Af} {K:List (Chunk σ)} {t:Tree σ} (hrun:Sl.run P T I fuel B fn.results.toList fn.ntmps td L K=t)
 (ht:t.holds (CO out nw rows) (SW D P f (Post D E G out nw rows) B fn.ntmps E G)):SW D P f (Post D E G out nw rows) B fn.ntmps E G td L K:=
 SW.run D hT hfn hmix (λ_ _ _ _ h hS=>h.post D hS) fuel hrun ht
theorem CO.at {α:Type} {outf:α→List Value→Value} {nwf:α→List (Chunk σ)} {rowsf:α→List (Mk σ)} {r r0:α} {v:Value} {p:Pr} {K:List (Chunk σ)} (h:r=r0) (x:CO (outf r) (nwf r) (rowsf r) v p K):CO (outf r0) (nwf r0) (rowsf r0) v p K:=h▸x
def Na:List Nat→List Af→List Af
 |[],_=>[]
 |k::ks,L=>match look L k with
  |some e=>e::Na ks L
  |none=>Na ks L
theorem Kq {L:List Af}:∀{ks:List Nat} {e:Af},e∈Na ks L→e∈L
 |[],e,h=>by simp [Na] at h
 |k::ks,e,h=>by
  simp only [Na] at h
  split at h
  ·rename_i e' he
   simp only [iE] at h
   rcases h with rfl|h
   ·exact (BV he).1
   ·exact Kq h
  ·exact Kq h
theorem SW.pick {P:Program} {f:FuncId} {R:Ending→World→Prop} {B:Code} {n:Nat} {E:Ev} {G:Hp} {td:List Ab} {L L':List Af} {K:List (Chunk σ)} (ks:List Nat) (hk:Na ks L=L') (h:SW D P f R B n E G td L' K):SW D P f R B n E G td L K:=
 SW.sub D h λe he=>Kq (ks:=ks) (by rw [hk];exact he)
def Zd (k:Nat):List Nat→Nat→Option Nat
 |[],_=>none
 |i::is,j=>bif iJ i k then some j else Zd k is (j+1)
theorem AcP {k:Nat}:∀{is:List Nat} {m j:Nat},Zd k is m=some j→∃i,j=m+i∧is[i]? =some k
 |[],_,_,h=>by simp [Zd] at h
 |i::is,m,j,h=>by
  simp only [Zd] at h
  cases hb:iJ i k with
  |true=>rw [hb] at h;simp at h;exact ⟨0,by omega,by simp [iF hb]⟩
  |false=>
   rw [hb] at h
   obtain ⟨i',h1,h2⟩:=AcP (by simpa using h)
   exact ⟨i'+1,by omega,by simpa using h2⟩
mutual
def LW (is:List Nat):Pr→Pr
 | .no=> .no
 | .pt k pk=>match Zd k is 0 with
   |some j=> .pt j pk
   |none=> .no
 | .many ps=> .many (Xa is ps)
 | .box p=> .box (LW is p)
def Xa (is:List Nat):List Pr→List Pr
 |[]=>[]
 |p::ps=>LW is p::Xa is ps
end
def OZ (is:List Nat):List (Value×Pr)→List (Value×Pr)
 |[]=>[]
 |x::r=>(x.1,LW is x.2)::OZ is r
def V7 (is:List Nat):Chunk σ→Chunk σ
 | .cells b t cs=> .cells b t (OZ is cs)
 |c=>c
def Lh (is:List Nat) (K:List (Chunk σ)):List Nat→List (Chunk σ)
 |[]=>[]
 |i::r=>(match K[i]? with
  |some c=>V7 is c
  |none=> .dead)::Lh is K r
def V8 (is:List Nat) (K:List (Chunk σ)):List (Chunk σ):=Lh is K is
def Ze (is:List Nat):List Af→List Af
 |[]=>[]
 |e::r=>⟨e.s,e.g,e.v,LW is e.p⟩::Ze is r
theorem Aa8 {is:List Nat} {K:List (Chunk σ)}:∀{js:List Nat} {j i:Nat} {c:Chunk σ},js[j]? =some i→K[i]? =some c→(Lh is K js)[j]? =some (V7 is c)
 |[],_,_,_,h,_=>by simp at h
 |i0::r,0,i,c,h,hk=>by simp at h;subst h;simp [Lh,hk]
 |i0::r,j+1,i,c,h,hk=>by simp only [Lh,kH] at h ⊢;exact Aa8 h hk
theorem V9 {is:List Nat} {K:List (Chunk σ)}:∀{js:List Nat} {j:Nat} {c:Chunk σ},(Lh is K js)[j]? =some c→∃i,js[j]? =some i∧((∃d,K[i]? =some d∧c=V7 is d)∨c= .dead)
 |[],_,_,h=>by simp [Lh] at h
 |i0::r,0,c,h=>by
  simp [Lh] at h
  refine ⟨i0,by simp,?_⟩
  cases hk:K[i0]? with
  |none=>rw [hk] at h;exact .inr h.symm
  |some d=>rw [hk] at h;exact .inl ⟨d,rfl,h.symm⟩
 |i0::r,j+1,c,h=>by
  simp only [Lh,kH] at h ⊢;exact V9 h
theorem AiC {is:List Nat} {c:Chunk σ} {v:Value} {pk:PK} (h:CE c v pk):CE (V7 is c) v pk:=by
 cases c<;>first|exact h|(cases pk<;>first|exact h|exact h.elim)
theorem Aa9 {is:List Nat}:∀cs:List (Value×Pr),(OZ is cs).map (·.1)=cs.map (·.1)
 |[]=>rfl
 |x::r=>by simp [OZ,Aa9 r]
theorem AiD {is:List Nat} {G:Hp} {c:Chunk σ}:den D G (V7 is c)=den D G c:=by
 cases c<;>simp [V7,den,Aa9]
mutual
theorem Oq {K:List (Chunk σ)} {is:List Nat}:∀(v:Value) (p:Pr),Bl K v p→Bl (V8 is K) v (LW is p)
 |_, .no,_=>by simp [Bl,LW]
 |v, .pt k pk,h=>by
  simp only [Bl] at h
  obtain ⟨c,h1,h2⟩:=h
  simp only [LW]
  cases hp:Zd k is 0 with
  |none=>simp [Bl]
  |some j=>
   obtain ⟨i,h3,h4⟩:=AcP hp
   have:j=i:=by omega
   subst this
   exact Bf.2 ⟨_,Aa8 h4 h1,AiC h2⟩
 |v, .many ps,h=>by
  cases v<;>simp only [Bl,LW] at h ⊢
  all_goals exact AcQ _ ps h
 |v, .box p,h=>by
  cases v<;>simp only [Bl,LW] at h ⊢
  ·obtain ⟨v,h1,h2⟩:=h
   exact ⟨v,h1,Oq _ p h2⟩
  ·exact Oq _ p h
theorem AcQ {K:List (Chunk σ)} {is:List Nat}:∀(vs:List Value) (ps:List Pr),Aw K vs ps→Aw (V8 is K) vs (Xa is ps)
 |[],[],_=>by simp [Aw,Xa]
 |[],_::_,h=>by simp [Aw] at h
 |_::_,[],h=>by simp [Aw] at h
 |v::vs,p::ps,h=>by
  simp only [Aw,Xa] at h ⊢
  exact ⟨Oq v p h.1,AcQ vs ps h.2⟩
end
theorem AaA {is:List Nat}:∀{cs:List (Value×Pr)} {x:Value×Pr},x∈OZ is cs→∃y∈cs,x=(y.1,LW is y.2)
 |[],x,h=>by simp [OZ] at h
 |y::r,x,h=>by
  simp only [OZ,iE] at h
  rcases h with rfl|h
  ·exact ⟨y,by simp,rfl⟩
  ·obtain ⟨z,h1,h2⟩:=AaA h
   exact ⟨z,by simp [h1],h2⟩
theorem VA {is:List Nat}:∀{L:List Af} {e:Af},e∈Ze is L→∃y∈L,e=⟨y.s,y.g,y.v,LW is y.p⟩
 |[],x,h=>by simp [Ze] at h
 |y::r,x,h=>by
  simp only [Ze,iE] at h
  rcases h with rfl|h
  ·exact ⟨y,by simp,rfl⟩
  ·obtain ⟨z,h1,h2⟩:=VA h
   exact ⟨z,by simp [h1],h2⟩
theorem AiE {K:List (Chunk σ)} {is:List Nat} (h:CP K):CP (V8 is K):= λk b t cs hk x hx=>by
 obtain ⟨i,_,⟨d,h1,h2⟩|h2⟩:=V9 hk
 ·cases d<;>simp only [V7] at h2<;>first|cases h2|skip
  obtain ⟨y,hy,rfl⟩:=AaA hx
  exact Oq _ _ (h _ _ _ _ h1 y hy)
 ·cases h2
theorem SW.move {P:Program} {f:FuncId} {R:Ending→World→Prop} {B:Code} {n:Nat} {E:Ev} {G:Hp} {td:List Ab} {L L':List Af} {K K':List (Chunk σ)} (ks is:List Nat) (hn:is.Nodup) (hk:Ze is (Na ks L)=L') (hK:V8 is K=K')
 (h:SW D P f R B n E G td L' K'):SW D P f R B n E G td L K:=by
 subst hk;subst hK
 intro a w hF hS
 refine h a w ⟨AiE hF.kok,hF.defers,hF.size, λe he=>?_, λe he=>?_⟩ ?_
 rotate_left
 ·obtain ⟨y,hy,rfl⟩:=VA he
  exact hF.skipd y (Kq hy)
 rotate_right
 ·obtain ⟨y,hy,rfl⟩:=VA he
  intro hg
  obtain ⟨h1,h2⟩:=hF.ents y (Kq hy) hg
  exact ⟨h1,Oq _ _ h2⟩
 ·refine Sat.pick hS is hn λi B hi=>?_
  rw [iK] at hi
  cases hc:(V8 is K)[i]? with
  |none=>rw [hc] at hi;cases hi
  |some c=>
   rw [hc] at hi;injection hi with hi;subst hi
   obtain ⟨j,h1,⟨d,h2,h3⟩|h3⟩:=V9 hc
   ·exact .inl ⟨j,h1,by rw [iK,h2,h3,AiD D];rfl⟩
   ·subst h3;exact .inr λ_ _ _=>trivial
theorem AcR {K:List (Chunk σ)} {v:Value} {k:Nat} {pk:PK} {c:Chunk σ} (h1:K[k]? =some c) (h2:CE c v pk):Bl K v (.pt k pk):=Bf.2 ⟨c,h1,h2⟩
theorem Em {K:List (Chunk σ)}:Aw K [] []:=by simp [Aw]
theorem Dj {K:List (Chunk σ)} {v:Value} {p:Pr} {vs:List Value} {ps:List Pr} (h:Bl K v p) (hs:Aw K vs ps):Aw K (v::vs) (p::ps):=by
 unfold Aw;exact ⟨h,hs⟩
theorem AiF {K:List (Chunk σ)} {fn:Fn} {first caps:Array Value} {ps:List Pr} (h:Aw K caps.toList ps):Bl K (.func fn first caps) (.many ps):=by
 unfold Bl;exact h
theorem Ha {P:Program} {f:FuncId} {args:List (Value×DR σ)} {pre:List Prop} {new:Option σ} {rows:List (Mk σ)} {out:List Value→Value} {outp:Nat→Pr} {E:Ev} {G:Hp} {w:World} {nw:List (Chunk σ)}
 (hn:nw.map (den D G)=JO D args new) (h:Calls P f (args.map (·.1)).toArray w (Post D E G out nw rows)):
 Calls P f (args.map (·.1)).toArray w λen w'=>∃acs:List (Option Nat×Nat),Fe (Res.rows ⟨pre,new,rows,out,outp⟩) acs∧
  en= .returned ((Res.out ⟨pre,new,rows,out,outp⟩) (jA EJ (Res.rows ⟨pre,new,rows,out,outp⟩) acs))∧Sat E G w' (JO D args (Res.new ⟨pre,new,rows,out,outp⟩)++(jA Dq (Res.rows ⟨pre,new,rows,out,outp⟩) acs).map (den D G)):=by
 rw [←hn];exact h
theorem Dl.bound {G:Hp} {a:Option Addr} {n:Nat} {cols:List Ak} (h:Dl G a n cols):n≤9223372036854775807:=h.2.2
theorem Dl.len {G:Hp} {a:Option Addr} {n:Nat} {c:Ak} {cols:List Ak} (h:Dl G a n (c::cols)):c.len=n:=h.1 c (by simp)
abbrev Aj:Pr:= .no
abbrev pc_ (k j:Nat):Pr:= .pt k (.cell j)
abbrev ps_ (k:Nat):Pr:= .pt k .slice
abbrev Ah (x:Int):Value:= .int .i64 x
abbrev vp_ (b:Nat):Value:= .pointer (some {block:=b,off:=0})
abbrev ci_ (xs:LI):Ak:= .ints .i64 xs
abbrev FY (s:Nat) (v:Value) (p:Pr):Af:=⟨s,none,v,p⟩
abbrev eg_ (s:Nat) (g:Nat×Bool) (v:Value) (p:Pr):Af:=⟨s,some g,v,p⟩
abbrev IE {σ:Type} (b:Nat) (t:TypeId) (cs:List (Value×Pr)):Chunk σ:= .cells b t cs
end
section
open Go.RowKit
def star0 (As:List Dn):Dn:= λh=>∃o:Nat→Option Nat,∀(i:Nat) (A:Dn),As[i]? =some A→A (λb=>if o b=some i then h b else none)
theorem BP.star {E:World} {G:Hp} {w:World} {As:List Dn} (h:BP E G w As):BP E G w [Sl.star0 As]:=by
 obtain ⟨h1,h2,o,h3,h4⟩:=h
 refine ⟨h1,h2, λb=>match o b with|some _=>some 0|none=>none, λb i hb=>?_, λi A hi=>?_⟩
 ·dsimp only at hb
  cases ho:o b with
  |none=>simp [ho] at hb
  |some j=>exact h3 b j ho
 ·have hi0:i=0:=by
   rcases mD i with h0|h0
   ·exact h0
   ·rw [jF (by simp;omega)] at hi;cases hi
  subst hi0
  simp only [jH,iA] at hi
  subst hi
  refine ⟨o, λi A hA=>?_⟩
  have:=h4 i A hA
  have e:(λb=>if o b=some i then part w (λb=>match o b with|some _=>some 0|none=>none) 0 b else none)=part w o i:=by
   funext b
   unfold part
   cases ho:o b with
   |none=>simp
   |some j=>by_cases hj:j=i<;>simp [hj,ho]
  rw [e];exact this
theorem BP.star_append {E:World} {G:Hp} {w:World} {As Bs:List Dn} (h:BP E G w (As++Bs)):BP E G w (Sl.star0 As::Bs):=by
 obtain ⟨h1,h2,o,h3,h4⟩:=h
 let o':Nat→Option Nat:= λb=>match o b with|some i=>if i<As.length then some 0 else some (i-As.length+1)|none=>none
 refine ⟨h1,h2,o', λb i hb=>?_, λi A hi=>?_⟩
 ·simp only [o'] at hb
  cases ho:o b with
  |none=>simp [ho] at hb
  |some j=>exact h3 b j ho
 ·cases i with
  |zero=>
   simp only [jH,iA] at hi
   subst hi
   refine ⟨o, λi A hA=>?_⟩
   have hil:i<As.length:=by
    rcases jC i As.length with h'|h'
    ·exact h'
    ·rw [jF h'] at hA;cases hA
   have:=h4 i A (by rw [iH hil];exact hA)
   have e:(λb=>if o b=some i then part w o' 0 b else none)=part w o i:=by
    funext b
    unfold part
    by_cases ho:o b=some i
    ·simp [o',ho,hil]
    ·simp [ho]
   rw [e];exact this
  |succ i=>
   simp only [kH] at hi
   have:=h4 (As.length+i) A (by rw [iI (by omega)];simpa using hi)
   rw [DC (w':=w) (o':=o') (j:=i+1)] at this
   ·exact this
   ·intro b
    refine ⟨⟨λhb=>?_, λhb=>?_⟩, λ_=>rfl⟩
    ·have:¬(As.length+i<As.length):=by omega
     simp only [o',hb,this,if_false]
     congr 1;omega
    ·simp only [o'] at hb
     cases ho:o b with
     |none=>simp [ho] at hb
     |some j=>
      rw [ho] at hb
      dsimp only at hb
      split at hb
      ·cases hb
      ·injection hb with hb;congr 1;omega
def star (As:List BN):BN:= λY h=>∃o:Nat→Option Nat,∀(i:Nat) (A:BN),As[i]? =some A→∀Y2,Y.le Y2→A Y2 (λb=>if o b=some i then h b else none)
theorem Pg {Z:Hp} {As:List BN}:G8 Z (star As)=star0 (As.map (G8 Z)):=by
 funext k
 apply propext
 constructor
 ·intro h
  obtain ⟨o,ho⟩:=h Z (Hp.le_refl Z)
  refine ⟨o, λi A hi=>?_⟩
  obtain ⟨C,h1,rfl⟩:=Hu hi
  exact λY hY=>ho i C h1 Y hY
 ·rintro ⟨o,ho⟩ Y hY
  exact ⟨o, λi A hi Y2 h2=>ho i _ (Dv hi) Y2 (hY.trans h2)⟩
theorem AjR {As:List BN} {Y Y2 h:Hp} (hY:Y.le Y2) (hs:star As Y h):star As Y2 h:=by
 obtain ⟨o,ho⟩:=hs
 exact ⟨o, λi A hi Y3 h3=>ho i A hi Y3 (hY.trans h3)⟩
section
variable {E:Ev} {G:Hp} {w:World} {As Bs:List BN}
theorem Sat.star (h:Sat E G w As):Sat E G w [Sl.star As]:=by
 obtain ⟨Z,hz,hw,h0⟩:=h
 refine ⟨Z,hz,hw,?_⟩
 simp only [iC,jZ,Pg]
 exact h0.star
theorem Sat.star_append (h:Sat E G w (As++Bs)):Sat E G w (Sl.star As::Bs):=by
 obtain ⟨Z,hz,hw,h0⟩:=h
 refine ⟨Z,hz,hw,?_⟩
 rw [jE] at h0
 simp only [iC,Pg]
 exact h0.star_append
theorem Sat.Zf {α:Type} {p:α→Prop} {A:α→BN} (x:α) (hp:p x) (h:Sat E G w (A x::Bs)):Sat E G w ((λY k=>∃x,p x∧A x Y k)::Bs):=by
 refine h.imp λi B hB=>?_
 cases i with
 |zero=>
  simp only [jH,iA] at hB
  subst hB
  exact ⟨A x,rfl, λY k hk=>⟨x,hp,hk⟩⟩
 |succ i=>exact ⟨B,by simpa using hB, λ_ _ h=>h⟩
end
variable {σ:Type} (D:Addr→σ→BN)
def Ho (s k:Nat):List Af→List Af
 |[]=>[]
 |e::r=>bif iJ e.s s then (match e.v with
  | .slice none 0 0=>⟨e.s,e.g,e.v, .pt k .slice⟩::Ho s k r
  |_=>e::Ho s k r) else e::Ho s k r
theorem AaB {K:List (Chunk σ)} {t:TypeId} {cols:List Ak} {tm:Array Value} {s:Nat}:∀{L:List Af},(∀e∈L,e.ok K tm)→∀e∈Ho s K.length L,e.ok (K++[.row none t 0 0 cols]) tm
 |[],_,e,he=>by simp [Ho] at he
 |x::r,hL,e,he=>by
  have ih:=AaB (t:=t) (cols:=cols) (s:=s) (L:=r) (λe he=>hL e (by simp [he]))
  have hx:x.ok (K++[.row none t 0 0 cols]) tm:= λhg=>let ⟨h1,h2⟩:=hL x (by simp) hg;⟨h1,h2.ext (AY.append K _)⟩
  simp only [Ho] at he
  cases hb:iJ x.s s with
  |false=>
   rw [hb] at he
   simp only [cond_false,iE] at he
   rcases he with rfl|he
   ·exact hx
   ·exact ih e he
  |true=>
   rw [hb] at he
   simp only [cond_true] at he
   split at he
   ·rename_i hv
    simp only [iE] at he
    rcases he with rfl|he
    ·intro hg
     refine ⟨(hx hg).1,?_⟩
     simp only [hv]
     exact Bf.2 ⟨_,jQ,rfl⟩
    ·exact ih e he
   ·simp only [iE] at he
    rcases he with rfl|he
    ·exact hx
    ·exact ih e he
theorem Uw {k s:Nat} {tm:Array Value}:∀{L:List Af},(∀e∈L,¬GV tm e.g→tm.getD e.s undef=undef)→∀e∈Ho s k L,¬GV tm e.g→tm.getD e.s undef=undef
 |[],_,e,he=>by simp [Ho] at he
 |x::r,hL,e,he=>by
  have ih:=Uw (k:=k) (s:=s) (L:=r) (λe he=>hL e (by simp [he]))
  have hx:=hL x (by simp)
  simp only [Ho] at he
  cases hb:iJ x.s s with
  |false=>
   rw [hb] at he
   simp only [cond_false,iE] at he
   rcases he with rfl|he
   ·exact hx
   ·exact ih e he
  |true=>
   rw [hb] at he
   simp only [cond_true] at he
   split at he
   ·simp only [iE] at he
    rcases he with rfl|he
    ·exact hx
    ·exact ih e he
   ·simp only [iE] at he
    rcases he with rfl|he
    ·exact hx
    ·exact ih e he
theorem SW.nil {P:Program} {f:FuncId} {R:Ending→World→Prop} {B:Code} {n:Nat} {E:Ev} {G:Hp} {td:List Ab} {L:List Af} {K:List (Chunk σ)} (s:Nat) (t:TypeId) (cols:List Ak) (hc:nilRow (kU (σ:=σ) none t 0 0 cols)=true)
 (h:SW D P f R B n E G td (Ho s K.length L) (K++[.row none t 0 0 cols])):SW D P f R B n E G td L K:=by
 intro a w hF hS
 refine h a w ⟨hF.kok.row,hF.defers,hF.size,AaB hF.ents,Uw hF.skipd⟩ ?_
 refine Sat.pick hS (jX K.length) mR λi B hi=>?_
 rw [iK] at hi
 cases hq:(K++[kU (σ:=σ) none t 0 0 cols])[i]? with
 |none=>rw [hq] at hi;cases hi
 |some c=>
  rw [hq] at hi;injection hi with hi;subst hi
  rcases jC i K.length with hl|hl
  ·rw [iH hl] at hq
   exact .inl ⟨i,by simp [hl],by rw [iK,hq];rfl⟩
  ·rw [iI hl] at hq
   have:c= .row none t 0 0 cols:=by
    have:=iU hq
    simpa using this
   subst this
   exact .inr (λY k _=>Ld D hc Y k)
def Ot (K:List (Chunk σ)) (k off:Nat):List (Chunk σ):=
 match K[k]? with
 |some (.cells b t cs)=>match cs[off]? with
  |some (.slice none 0 0,_)=>K.set k (.cells b t (cs.set off (.slice none 0 0, .pt K.length .slice)))
  |_=>K
 |_=>K
theorem SW.AkD {P:Program} {f:FuncId} {R:Ending→World→Prop} {B:Code} {n:Nat} {E:Ev} {G:Hp} {td:List Ab} {L:List Af} {K:List (Chunk σ)} (k off:Nat) (t:TypeId) (cols:List Ak) (hc:nilRow (kU (σ:=σ) none t 0 0 cols)=true)
 (h:SW D P f R B n E G td L (Ot K k off++[.row none t 0 0 cols])):SW D P f R B n E G td L K:=by
 have h1:SW D P f R B n E G td L (K++[.row none t 0 0 cols]):=by
  unfold Ot at h
  split at h
  ·rename_i b t0 cs hk
   split at h
   ·rename_i p0 ho
    intro a w hF hS
    have hkl:=Bv hk
    have hk':(K++[kU (σ:=σ) none t 0 0 cols])[k]? =some (.cells b t0 cs):=by rw [iH hkl];exact hk
    have hset:K.set k (.cells b t0 (cs.set off (.slice none 0 0, .pt K.length .slice)))++[kU (σ:=σ) none t 0 0 cols]=(K++[kU (σ:=σ) none t 0 0 cols]).set k (.cells b t0 (cs.set off (.slice none 0 0, .pt K.length .slice))):=by
     rw [List.set_append_left _ _ hkl]
    rw [hset] at h
    have hcmp:∀v pk,CE (jG (σ:=σ) b t0 cs) v pk→CE (jG (σ:=σ) b t0 (cs.set off (.slice none 0 0, .pt K.length .slice))) v pk:= λv pk hv=>by cases pk<;>exact hv
    refine h a w (hF.ext (AY.set hk' hcmp) (hF.kok.set hk' hcmp λb' t' cs' e x hx=>?_)) ?_
    ·injection e with _ _ e;subst e
     rcases List.mem_or_eq_of_mem_set hx with hx|hx
     ·exact hF.kok _ _ _ _ hk' x hx
     ·subst hx
      exact Bf.2 ⟨_,jQ,rfl⟩
    ·unfold Ae at hS ⊢
     have e:(cs.set off (.slice none 0 0,kZ K.length .slice)).map (·.1)=cs.map (·.1):=by
      apply kV
      intro j
      simp only [iK,List.getElem?_set]
      by_cases hj:off=j
      ·subst hj
       rw [ho]
       simp [Bv ho]
      ·simp [hj]
     have:((K++[kU (σ:=σ) none t 0 0 cols]).set k (.cells b t0 (cs.set off (.slice none 0 0, .pt K.length .slice)))).map (den D G)=(K++[kU (σ:=σ) none t 0 0 cols]).map (den D G):=by
      apply kV
      intro j
      simp only [iK,List.getElem?_set]
      by_cases hj:k=j
      ·subst hj
       rw [hk']
       simp [den,e]
       omega
      ·simp [hj]
     rw [this];exact hS
   ·exact h
  ·exact h
 intro a w hF hS
 refine h1 a w (hF.ext (AY.append K _) hF.kok.row) ?_
 refine Sat.pick hS (jX K.length) mR λi B hi=>?_
 rw [iK] at hi
 cases hq:(K++[kU (σ:=σ) none t 0 0 cols])[i]? with
 |none=>rw [hq] at hi;cases hi
 |some c=>
  rw [hq] at hi;injection hi with hi;subst hi
  rcases jC i K.length with hl|hl
  ·rw [iH hl] at hq
   exact .inl ⟨i,by simp [hl],by rw [iK,hq];rfl⟩
  ·rw [iI hl] at hq
   have:c= .row none t 0 0 cols:=by
    have:=iU hq
    simpa using this
   subst this
   exact .inr (λY k _=>Ld D hc Y k)
def cellsAll (K:List (Chunk σ)):List (Chunk σ)→Prop
 |[]=>True
 | .cells _ _ cs::r=>Aw K (cs.map (·.1)) (cs.map (·.2))∧cellsAll K r
 |_::r=>cellsAll K r
theorem Xb {K:List (Chunk σ)}:∀{cs:List (Value×Pr)},Aw K (cs.map (·.1)) (cs.map (·.2))→∀x∈cs,Bl K x.1 x.2
 |[],_,x,hx=>by simp at hx
 |y::r,h,x,hx=>by
  simp only [iC,Aw] at h
  simp only [iE] at hx
  rcases hx with rfl|hx
  ·exact h.1
  ·exact Xb h.2 x hx
theorem Ou {K:List (Chunk σ)} (h:cellsAll K K):CP K:=by
 intro k b t cs hk
 have key:∀(l:List (Chunk σ)),cellsAll K l→jG b t cs∈l→Aw K (cs.map (·.1)) (cs.map (·.2)):=by
  intro l
  induction l with
  |nil=>intro _ hm;simp at hm
  |cons c r ih=>
   intro hl hm
   simp only [iE] at hm
   rcases hm with rfl|hm
   ·exact hl.1
   ·refine ih ?_ hm
    cases c<;>first|exact hl.2|exact hl
 exact Xb (key K h (iU hk))
def fzAt (K:List (Chunk σ)) (k:Nat):List (Chunk σ):=
 match K[k]? with
 |some (.row a t n c cols)=>K.set k (QQ (.row a t n c cols))
 |_=>K
theorem AcS {a:Option Nat} {t:TypeId} {n cap:Nat} {cols:List Ak} (v:Value) (pk:PK) (h:CE (kU (σ:=σ) a t n cap cols) v pk):CE (QQ (kU (σ:=σ) a t n cap cols)) v pk:=by
 have h0:CE (Jn (kU (σ:=σ) a t n cap cols)) v pk:=h
 cases cols with
 |nil=>exact h0
 |cons c cs=>cases c with
  |ints k xs=>cases k with
   |i64=>cases cs with
    |nil=>
     cases pk<;>first|exact h|exact h.elim|skip
     obtain ⟨h1,b,h2,h3⟩:=h
     subst h2
     exact ⟨h1,_,rfl,h3⟩
    |cons _ _=>exact h0
   |_=>exact h0
  |_=>exact h0
theorem AeH {a:Option Nat} {t:TypeId} {n cap:Nat} {cols:List Ak} {b:Nat} {t':TypeId} {cs':List (Value×Pr)} (e:QQ (kU (σ:=σ) a t n cap cols)= .cells b t' cs'):False:=by
 cases cols with
 |nil=>cases e
 |cons c cs=>cases c with
  |ints k xs=>cases k with
   |i64=>cases cs with
    |nil=>cases e
    |cons _ _=>cases e
   |_=>cases e
  |_=>cases e
theorem SW.fzAt {P:Program} {f:FuncId} {R:Ending→World→Prop} {B:Code} {n:Nat} {E:Ev} {G:Hp} {td:List Ab} {L:List Af} {K:List (Chunk σ)} (k:Nat)
 (h:SW D P f R B n E G td L (Sl.fzAt K k)):SW D P f R B n E G td L K:=by
 intro a w hF hS
 unfold Sl.fzAt at h
 split at h
 ·rename_i a0 t0 n0 c0 cols0 hk
  refine h a w (hF.ext (AY.set hk AcS) (hF.kok.set hk AcS λb t cs e=>?_)) (Ae.fz D hS hk)
  exact (AeH e).elim
 ·exact h a w hF hS
end
section
open Go.RowKit Go.ChangeShapes Go.WideShapes Go.ChangeAt
def AkE (W:World):Ev:=⟨W, λb=>W.heap[b]?⟩
theorem Sat.start (W:World):Sat (AkE W) (λb=>W.heap[b]?) W []:=
 ⟨λb=>W.heap[b]?,⟨Hp.le_refl _, λb hb=> .inr hb⟩, λ_ _ h=>h,⟨rfl,rfl,rfl,kC _⟩,Hp.AgQ (λ_ _ h=>h) (λ_ _ h=>h), λ_=>none,⟨λ_ _ h=>(by cases h), λi A h=>(by simp at h)⟩⟩
theorem Sat.below {W W':World} {As:List BN} (h:Sat (AkE W) (λb=>W.heap[b]?) W' As):Below W.heap.size W W':=
 ⟨h.env.os,h.env.tape,h.env.output,h.env.size, λk hk=>by
   have h1:(λb=>W.heap[b]?) k=some W.heap[k]:=by simp [hk]
   rw [h.sub k _ h1];simp [hk]⟩
section
variable {H:Type} {enc:TypeId×Value→H} {P:Program}
theorem PM (hl:laidOutB P=true) {W W':World} (hb:Below W.heap.size W W') {sp:Nat→Bool}:∀(ts:List TypeId) (vs:List Value) (ds:List (DataW H)) (ps:List MemPlace),(∀t∈ts,P.readableRec t=true∧t<P.types.size)→
 DataW.TrodAll enc P W 0 (λ_=>true) true ts vs ds ps→(∀x∈ps,x.block<W.heap.size)→(∀x∈ps,sp x.block=true)→DataW.TrodAll enc P W' 0 sp true ts vs ds ps
 |[],vs,ds,ps,_,h,_,_=>by
  obtain ⟨rfl,rfl,rfl⟩:=trodAll_nil h
  exact trodAll_mk0
 |t::ts,vs,ds,ps,hr,h,hlt,hsp=>by
  obtain ⟨v,vs',d,ds',p,q,rfl,rfl,rfl,hd,hrest⟩:=trodAll_cons h
  obtain ⟨hr1,hr2⟩:=hr t (by simp)
  exact ⟨p,q,WideElems.Trod_stays hl hr1 hr2 hd (λx hx=>hb.same (hlt x (by simp [hx]))) (λx hx=>hsp x (by simp [hx])),
   PM hl hb ts vs' ds' q (λt ht=>hr t (by simp [ht])) hrest (λx hx=>hlt x (by simp [hx])) (λx hx=>hsp x (by simp [hx])),rfl⟩
theorem AiG {f:Func} {s:ChangeSpec} {apart fresh handsOn:Bool} {W W':World} {args:Array Value} {ds gs:List (DataW H)} {before:List MemPlace} (tb:TypeId) (hl:laidOutB P=true)
 (hW:DataW.Whole enc P f.params.toList s.vars apart W args.toList ds gs before) (hv:s.vars=[]) (hres:f.resultTypes= #[tb]) (hb:P.underlying tb=some .bool)
 (hp:f.params.toList.all (λt=>P.readableRec t&&lZ t P.types.size)=true) (hfn:(s.fn H ds).results=[.lit (.bool true)]∧(s.fn H ds).args=ds∧(s.fn H ds).vars=[])
 (hbel:Below W.heap.size W W'):s.post enc P f apart fresh handsOn false W args (.bool true) W':=by
 have hW2:=hW
 have hlt:∀x∈before,x.block<W.heap.size:= λx hx=>hW.lt x hx
 obtain ⟨p,q,hA,hV,hpq,_,_⟩:=hW
 rw [hv] at hV
 obtain ⟨hgs,hq⟩:=trodVars_none hV
 subst hgs;subst hq
 have hpp:before=p:=by rw [hpq];simp
 subst hpp
 have hr:∀t∈f.params.toList,P.readableRec t=true∧t<P.types.size:= λt ht=>by
  rw [jN] at hp
  have:=hp t ht
  simp only [iG] at this
  exact ⟨this.1,Nat.lt_of_lt_of_le (Nat.lt_succ_self t) (iP this.2)⟩
 refine ⟨ds,[],before,[],before,[],by rw [hv] at hW2 ⊢;exact hW2,?_,?_,?_,World.keptBut_mono (λx hx=>⟨hx, .inr (.inl hx)⟩) (hbel.frame (· ∈before)), λh=>by cases h⟩
 ·rw [lF,hfn.1,hres]
  exact trodAll_mk1 (shut_bool hb true)
 ·rw [lF,hfn.2.1]
  exact PM hl hbel _ _ _ _ hr hA hlt (λx hx=>by simpa using hlt x hx)
 ·rw [lF,hfn.2.2,hv]
  rfl
end
theorem AcT {x:Int} (h:(Lit.int .i64 x).wf=true): -9223372036854775808≤x∧x<9223372036854775808:=by
 simp [Lit.wf,IntKind.min,IntKind.max,IntKind.signed,IntKind.bits] at h;omega
end
section
open Go.RowKit Go.ChangeShapes Go.WideShapes Go.ChangeAt
inductive IG where
 |int (k:IntKind)
 |bool
def vIs:IG→Value→Prop
 | .int k,v=>∃x,v= .int k x∧(Lit.int k x).wf=true
 | .bool,v=>∃b,v= .bool b
def FH:List IG→List Value→Prop
 |[],vs=>vs=[]
 |s::r,vs=>∃v vs',vs=v::vs'∧vIs s v∧FH r vs'
def Ajz (n:Nat):IG→Ak→Prop
 | .int k,c=>∃xs,c= .ints k xs∧xs.length=n∧∀x∈xs,(Lit.int k x).wf=true
 | .bool,c=>∃xs,c= .bools xs∧xs.length=n
def AcU (n:Nat):List IG→List Ak→Prop
 |[],cs=>cs=[]
 |s::r,cs=>∃c cs',cs=c::cs'∧Ajz n s c∧AcU n r cs'
theorem J8:∀{a b:List IG} {u v:List Value},FH a u→FH b v→FH (a++b) (u++v)
 |[],b,u,v,h,h'=>by rw [h];exact h'
 |s::r,b,u,v,⟨x,u',e,hx,h⟩,h'=>⟨x,u'++v,by rw [e];rfl,hx,J8 h h'⟩
theorem Ux:∀{sh:List IG} {vs:List Value},FH sh vs→∀(j:Nat) s,sh[j]? =some s→∃v,vs[j]? =some v∧vIs s v
 |[],_,_,j,s,hs=>by simp at hs
 |s0::r,_,⟨x,u',e,hx,h⟩,j,s,hs=>by
  subst e
  cases j with
  |zero=>simp at hs;subst hs;exact ⟨x,rfl,hx⟩
  |succ j=>exact Ux h j s (by simpa using hs)
section
variable (P:Program)
def Xc (f:TypeId→Option (List IG)):Nat→List Field→Option (List IG)
 |_,[]=>some []
 |o,fd::fs=>bif iJ fd.offset o then match f fd.type,Xc f (o+P.cellsOf fd.type) fs with
   |some a,some b=>bif iJ a.length (P.cellsOf fd.type) then some (a++b) else none
   |_,_=>none
  else none
def Agh (s:List IG):Nat→List IG
 |0=>[]
 |n+1=>s++Agh s n
def VB:Nat→TypeId→Option (List IG)
 |0,_=>none
 |d+1,t=>match P.underlying t with
  |some (.int k)=>some [.int k]
  |some .bool=>some [.bool]
  |some (.struct fs)=>match Xc P (VB d) 0 fs.toList with
   |some s=>bif iJ s.length (P.cellsOf t) then some s else none
   |none=>none
  |some (.array n e)=>match VB d e with
   |some s=>bif iJ s.length (P.cellsOf e)&&iJ (n*P.cellsOf e) (P.cellsOf t) then some (Agh s n) else none
   |none=>none
  |_=>none
end
section
variable {H:Type} {enc:TypeId×Value→H} {P:Program} {w:World} {base:Nat} {sp:Nat→Bool} {held:Bool}
theorem AcV {f:TypeId→Option (List IG)} {n:Nat} (hf:∀t sh cs x,f t=some sh→DataW.trod enc P w base sp held n t cs=some x→FH sh cs) {cs:List Value}:
 ∀(fs:List Field) (o:Nat) (s:List IG),Xc P f o fs=some s→(∀fd∈fs,∃y,DataW.trod enc P w base sp held n fd.type ((cs.drop fd.offset).take (P.cellsOf fd.type))=some y)→FH s ((cs.drop o).take s.length)
 |[],o,s,h,_=>by simp only [Xc,iA] at h;subst h;simp [FH]
 |fd::fs,o,s,h,hall=>by
  simp only [Xc] at h
  cases ho:iJ fd.offset o with
  |false=>rw [ho] at h;cases h
  |true=>
   rw [ho] at h
   have ho:=iF ho
   simp only [cond_true] at h
   split at h
   ·rename_i a b ha hb
    cases hl:iJ a.length (P.cellsOf fd.type) with
    |false=>rw [hl] at h;cases h
    |true=>
     rw [hl] at h
     have hl:=iF hl
     simp only [cond_true,iA] at h
     subst h
     obtain ⟨y,hy⟩:=hall fd (by simp)
     have h1:=hf _ _ _ _ ha hy
     have h2:=AcV hf fs _ _ hb λfd' hfd=>hall fd' (by simp [hfd])
     have e:(cs.drop o).take (a++b).length=(cs.drop fd.offset).take (P.cellsOf fd.type)++(cs.drop (o+P.cellsOf fd.type)).take b.length:=by
      rw [jP,List.take_add,List.drop_drop,ho,hl]
     rw [e]
     exact J8 h1 h2
   ·cases h
theorem TK:∀(d:Nat) (t:TypeId) (sh:List IG) (n:Nat) (cs:List Value) (x:DataW H×List MemPlace),VB P d t=some sh→DataW.trod enc P w base sp held n t cs=some x→FH sh cs
 |0,t,sh,n,cs,x,h,_=>by simp [VB] at h
 |d+1,t,sh,n,cs,x,h,hx=>by
  simp only [VB] at h
  split at h
  ·rename_i k hk
   injection h with h;subst h
   obtain ⟨m,rfl,_,hw⟩:=DataW.trod_int hk hx
   exact ⟨_,_,rfl,⟨m,rfl,hw⟩,rfl⟩
  ·rename_i hk
   injection h with h;subst h
   obtain ⟨b,rfl,_⟩:=DataW.trod_bool hk hx
   exact ⟨_,_,rfl,⟨b,rfl⟩,rfl⟩
  ·rename_i fs hk
   split at h
   ·rename_i s hs
    cases hl:iJ s.length (P.cellsOf t) with
    |false=>rw [hl] at h;cases h
    |true=>
     rw [hl] at h
     have hl:=iF hl
     simp only [cond_true,iA] at h
     subst h
     obtain ⟨xs,m,_,_,hlen,hxl,hf⟩:=DataW.trod_struct hk hx
     have:=AcV (n:=m) (cs:=cs) (λt' sh' cs' x' h1 h2=>TK d t' sh' m cs' x' h1 h2) fs.toList 0 s hs λfd hfd=>by
      obtain ⟨i,hi⟩:=kP hfd
      have hi':fs[i]? =some fd:=by simpa using hi
      have h1:=hf i fd hi'
      have hlt:i<xs.length:=by
       rw [hxl]
       rcases jC i fs.size with h'|h'
       ·exact h'
       ·rw [kA h'] at hi';cases hi'
      rw [iO hlt] at h1
      exact ⟨_,h1⟩
     rw [mT,hl,←hlen,List.take_length] at this
     exact this
   ·cases h
  ·rename_i m e hk
   split at h
   ·rename_i s hs
    cases hl:(iJ s.length (P.cellsOf e)&&iJ (m*P.cellsOf e) (P.cellsOf t)) with
    |false=>rw [hl] at h;cases h
    |true=>
     rw [hl] at h
     simp only [iG] at hl
     have hl1:=iF hl.1
     have hl2:=iF hl.2
     simp only [cond_true,iA] at h
     subst h
     obtain ⟨xs,q,_,_,hlen,hxl,hf⟩:=DataW.trod_array hk hx
     have key:∀(j i:Nat),i+j=m→FH (Agh s j) ((cs.drop (i*P.cellsOf e)).take (j*P.cellsOf e)):=by
      intro j
      induction j with
      |zero=>intro i _;simp [Agh,FH]
      |succ j ih=>
       intro i hij
       have h1:=hf i (by omega)
       rw [iO (by omega)] at h1
       have h2:=TK d e s q _ _ hs h1
       have h3:=ih (i+1) (by omega)
       have e1:(cs.drop (i*P.cellsOf e)).take ((j+1)*P.cellsOf e)=(cs.drop (i*P.cellsOf e)).take (P.cellsOf e)++(cs.drop ((i+1)*P.cellsOf e)).take (j*P.cellsOf e):=by
        rw [show (j+1)*P.cellsOf e=P.cellsOf e+j*P.cellsOf e by rw [mL];omega,List.take_add,List.drop_drop,show i*P.cellsOf e+P.cellsOf e=(i+1)*P.cellsOf e by rw [mL]]
       rw [e1]
       exact J8 h2 h3
     have:=key m 0 (by omega)
     rw [Nat.zero_mul,mT,hl2,←hlen,List.take_length] at this
     exact this
   ·cases h
  ·cases h
theorem Aht {r:Reach} {b0:Nat} {t:TypeId} {v:Value} {dt:DataW H} {ps:List MemPlace} (d:Nat) (hs:(P.underlying t).any (λ | .struct _=>true| .array _ _=>true|_=>false)=true) {sh:List IG} (hsh:VB P d t=some sh)
 (hv:Value.okWide P w r b0 t v) (h:DataW.Trod enc P w base sp held t v dt ps):∃vs:List Value,v= .agg vs.toArray∧FH sh vs:=by
 obtain ⟨fuel,hf⟩:=h
 have hc:=TK d t sh fuel _ _ hsh hf
 unfold Value.okWide at hv
 cases hu:P.underlying t with
 |none=>rw [hu] at hs;simp at hs
 |some ty=>
  rw [hu] at hs hv
  cases ty<;>simp at hs<;>(obtain ⟨cs,rfl,_,_⟩:=hv;exact ⟨cs.toList,by simp,hc⟩)
def Nb:IG→(Nat→Value)→Nat→Ak
 | .int k,V,n=> .ints k ((jX n).map λi=>match V i with| .int _ x=>x|_=>0)
 | .bool,V,n=> .bools ((jX n).map λi=>match V i with| .bool b=>b|_=>false)
theorem AiH {s:IG} {V:Nat→Value} {n:Nat} (h:∀i,i<n→vIs s (V i)):Ajz n s (Nb s V n)∧(Nb s V n).len=n∧∀i,i<n→(Nb s V n).at i=V i:=by
 cases s with
 |int k=>
  refine ⟨⟨_,rfl,by simp, λx hx=>?_⟩,by simp [Nb,Ak.len], λi hi=>?_⟩
  ·obtain ⟨i,hi,rfl⟩:=kG.1 hx
   obtain ⟨y,hy,hw⟩:=h i (kT.1 hi)
   rw [hy];exact hw
  ·obtain ⟨y,hy,hw⟩:=h i hi
   simp [Nb,Ak.at,hi,hy]
 |bool=>
  refine ⟨⟨_,rfl,by simp⟩,by simp [Nb,Ak.len], λi hi=>?_⟩
  obtain ⟨y,hy⟩:=h i hi
  simp [Nb,Ak.at,hi,hy]
def Kr:List IG→Nat→(Nat→List Value)→Nat→List Ak
 |[],_,_,_=>[]
 |s::r,j,cs,n=>Nb s (λi=>(cs i).getD j undef) n::Kr r (j+1) cs n
theorem Ph:∀(sh:List IG) (j:Nat) (cs:Nat→List Value) (n:Nat),(Kr sh j cs n).length=sh.length
 |[],_,_,_=>rfl
 |_::r,j,cs,n=>by simp only [Kr,jI,Ph r]
theorem QT {cs:Nat→List Value} {n:Nat}:∀(sh:List IG) (j:Nat),(∀i,i<n→∀(m:Nat) s,sh[m]? =some s→vIs s ((cs i).getD (j+m) undef))→
 AcU n sh (Kr sh j cs n)∧∀(m:Nat) c,(Kr sh j cs n)[m]? =some c→c.len=n∧∀i,i<n→c.at i=(cs i).getD (j+m) undef
 |[],j,_=>⟨rfl, λm c h=>by simp [Kr] at h⟩
 |s::r,j,h=>by
  have h0:=AiH (s:=s) (V:= λi=>(cs i).getD j undef) (n:=n) λi hi=>h i hi 0 s rfl
  obtain ⟨h1,h2⟩:=QT (cs:=cs) (n:=n) r (j+1) λi hi m s' hm=>by
   have:=h i hi (m+1) s' (by simpa using hm)
   rwa [show j+(m+1)=j+1+m by omega] at this
  refine ⟨⟨_,_,rfl,h0.1,h1⟩, λm c hm=>?_⟩
  cases m with
  |zero=>simp only [Kr,jH,iA] at hm;subst hm;exact ⟨h0.2.1,h0.2.2⟩
  |succ m=>
   have:=h2 m c (by simpa [Kr] using hm)
   rwa [show j+1+m=j+(m+1) by omega] at this
theorem AcW (W:World) (a:Addr):cellOf (λb=>W.heap[b]?) a=W.cell? a:=rfl
theorem Ahu {r:Reach} {b0:Nat} {t e:TypeId} {v:Value} {dt:DataW H} {ps:List MemPlace} (d:Nat) (ht:P.underlying t=some (.slice e)) {sh:List IG} (hsh:VB P d e=some sh) (hce:P.cellsOf e=sh.length)
 (hv:Value.okWide P w r b0 t v) (h:DataW.Trod enc P w base sp held t v dt ps):
 ∃(a:Option Addr) (len cap:Nat) (cols:List Ak),v= .slice a len cap∧AcU len sh cols∧(Dl (λb=>w.heap[b]?) a len cols∧len≤cap):=by
 obtain ⟨a0,len0,cap0,rfl⟩:=okWide_slice ht hv
 obtain ⟨fuel,hf⟩:=h
 rcases Go.Deep.open_slice ht hf with ⟨hcs,_⟩|⟨a,len,cap,m,n,Dt,Pl,hcs,hb,hl,hm,hmm,_,hx⟩
 ·simp only [Value.cells,jV,and_true] at hcs
  injection hcs with e1 e2 e3
  subst e1;subst e2;subst e3
  obtain ⟨h1,h2⟩:=QT (cs:= λ_=>[]) (n:=0) sh 0 λi hi=>absurd hi (kX _)
  refine ⟨none,0,0,_,rfl,h1,⟨λc hc=>?_, λi hi=>absurd hi (kX _),nU _⟩,kC _⟩
  obtain ⟨k,hk⟩:=kP hc
  exact (h2 k c hk).1
 ·simp only [Value.cells,jV,and_true] at hcs
  injection hcs with e1 e2 e3
  subst e1;subst e2;subst e3
  have hml:len0≤m:=by rw [hmm];split<;>omega
  obtain ⟨cs,hcs⟩:=Go.Deep.choose_lt (α:=List Value) (p:= λi cs'=>w.cells? base (a.add (i*P.cellsOf e)) (P.cellsOf e)=some cs'∧DataW.trod enc P w base sp held n e cs'=some (Dt i,Pl i)) (n:=len0) λi hi=>hx i (by omega)
  have hcells:∀i,i<len0→FH sh (cs i):= λi hi=>TK d e sh n _ _ hsh (hcs i hi).2
  obtain ⟨h1,h2⟩:=QT (cs:=cs) (n:=len0) sh 0 λi hi k s hk=>by
   obtain ⟨x,hx1,hx2⟩:=Ux (hcells i hi) k s hk
   rw [lH,iD,hx1]
   exact hx2
  refine ⟨some a,len0,cap0,_,rfl,h1,⟨λc hc=>?_, λi hi=>⟨a,rfl, λj c hj=>?_⟩,by omega⟩,by omega⟩
  ·obtain ⟨k,hk⟩:=kP hc
   exact (h2 k c hk).1
  ·obtain ⟨_,hlen,hget⟩:=World.cells?_some (hcs i hi).1
   have hj':j<sh.length:=by
    have:=Bv hj
    rwa [Ph] at this
   rw [AcW,Ph,←hce,←Go.Deep.add_add,hget j (by omega),(h2 j c hj).2 i hi,lH,iD]
   rw [iO (by omega)]
   rfl
end
end
end Go.Sl
namespace Go.Proofs
section
open Go.Shelf
def Try.AeI:Go.Shelf.Ren:=⟨λ |6=>68|15=>84|14=>83|28=>95|29=>96|20=>87|21=>88|22=>89|23=>90|24=>91|25=>92|26=>93|27=>94|46=>97|47=>98|48=>99|49=>100|50=>101|57=>102|n=>n, λ |22=>24|24=>55|25=>73|3=>3|39=>53|0=>0|53=>119|55=>121|4=>4|46=>113|45=>112|50=>74|5=>5|9=>9|66=>122|70=>126|76=>128|77=>129|n=>n, λ |n=>n⟩
theorem Try.Afz:Go.Proofs.SlLaysF0.n6 Try.prog Try.AeI:={
 mixed:=by kernel_rfl
 f6:=⟨Try.f68.name,by decide,Try.func68.trans (congrArg some (by kernel_rfl))⟩
 f14:=⟨Try.f83.name,by decide,Try.func83.trans (congrArg some (by kernel_rfl))⟩
 f15:=Try.func84.trans (congrArg some (by kernel_rfl))
 f20:=⟨Try.f87.name,by decide,Try.func87.trans (congrArg some (by kernel_rfl))⟩
 f21:=⟨Try.f88.name,by decide,Try.func88.trans (congrArg some (by kernel_rfl))⟩
 f22:=⟨Try.f89.name,by decide,Try.func89.trans (congrArg some (by kernel_rfl))⟩
 f23:=⟨Try.f90.name,by decide,Try.func90.trans (congrArg some (by kernel_rfl))⟩
 f24:=⟨Try.f91.name,by decide,Try.func91.trans (congrArg some (by kernel_rfl))⟩
 f25:=⟨Try.f92.name,by decide,Try.func92.trans (congrArg some (by kernel_rfl))⟩
 f26:=⟨Try.f93.name,by decide,Try.func93.trans (congrArg some (by kernel_rfl))⟩
 f27:=⟨Try.f94.name,by decide,Try.func94.trans (congrArg some (by kernel_rfl))⟩
 f28:=Try.func95.trans (congrArg some (by kernel_rfl))
 f29:=Try.func96.trans (congrArg some (by kernel_rfl))
 f46:=⟨Try.f97.name,by decide,Try.func97.trans (congrArg some (by kernel_rfl))⟩
 f47:=Try.func98.trans (congrArg some (by kernel_rfl))
 f48:=Try.func99.trans (congrArg some (by kernel_rfl))
 f49:=⟨Try.f100.name,by decide,Try.func100.trans (congrArg some (by kernel_rfl))⟩
 f50:=⟨Try.f101.name,by decide,Try.func101.trans (congrArg some (by kernel_rfl))⟩
 f57:=⟨Try.f102.name,by decide,Try.func102.trans (congrArg some (by kernel_rfl))⟩
 t0:=Try.underlying0
 a0:=Try.isAgg0
 z0:=Try.sizeOf0
 v0:=Try.zeroValue0
 t3:=Try.underlying3
 a3:=Try.isAgg3
 z3:=Try.sizeOf3
 v3:=Try.zeroValue3
 t4:=Try.underlying4
 a4:=Try.isAgg4
 z4:=Try.sizeOf4
 v4:=Try.zeroValue4
 t5:=Try.underlying5
 a5:=Try.isAgg5
 z5:=Try.sizeOf5
 v5:=Try.zeroValue5
 t9:=Try.underlying9
 a9:=Try.isAgg9
 z9:=Try.sizeOf9
 v9:=Try.zeroValue9
 t22:=Try.underlying24
 a22:=Try.isAgg24
 z22:=Try.sizeOf24
 v22:=Try.zeroValue24
 t25:=Try.underlying73
 a25:=Try.isAgg73
 z25:=Try.sizeOf73
 v25:=Try.zeroValue73
 t39:=Try.underlying53
 a39:=Try.isAgg53
 z39:=Try.sizeOf53
 v39:=Try.zeroValue53
 t45:=Try.underlying112
 a45:=Try.isAgg112
 z45:=Try.sizeOf112
 v45:=Try.zeroValue112
 t46:=Try.underlying113
 a46:=Try.isAgg113
 z46:=Try.sizeOf113
 v46:=Try.zeroValue113
 t50:=Try.underlying74
 a50:=Try.isAgg74
 z50:=Try.sizeOf74
 v50:=Try.zeroValue74
 t53:=Try.underlying119
 a53:=Try.isAgg119
 z53:=Try.sizeOf119
 v53:=Try.zeroValue119
 t55:=Try.underlying121
 a55:=Try.isAgg121
 z55:=Try.sizeOf121
 v55:=Try.zeroValue121
 t66:=Try.underlying122
 a66:=Try.isAgg122
 z66:=Try.sizeOf122
 v66:=Try.zeroValue122
 t70:=Try.underlying126
 a70:=Try.isAgg126
 z70:=Try.sizeOf126
 v70:=Try.zeroValue126
 t76:=Try.underlying128
 a76:=Try.isAgg128
 z76:=Try.sizeOf128
 v76:=Try.zeroValue128
 t77:=Try.underlying129
 a77:=Try.isAgg129
 z77:=Try.sizeOf129
 v77:=Try.zeroValue129}
end
end Go.Proofs
namespace Go.Sl
section
open Go.RowKit
structure Wr (σ:Type) where
 τ:Type
 inj:τ→σ
 prj:σ→τ
 is:σ→Bool
 d:τ
 ok:∀s,is s=true→inj (prj s)=s
inductive Cm (σ:Type) where
 |i (x:Int)
 |b (x:Bool)
 |n (x:Nat)
 |li (x:LI)
 |lb (x:List Bool)
 |mp (x:Int→Option Int)
 |bl (x:List (Int×Int))
 |st (x:σ)
inductive Kd (σ:Type):Type 1 where
 |i
 |b
 |n
 |li
 |lb
 |mp
 |bl
 |st (w:Wr σ)
variable {σ:Type}
abbrev AkF:=Int→Option Int
@[reducible] def Kd.T:Kd σ→Type
  | .i=>Int
  | .b=>Bool
  | .n=>Nat
  | .li=>LI
  | .lb=>List Bool
  | .mp=>AkF
  | .bl=>List (Int×Int)
  | .st w=>w.τ
def Cm.iOf:Cm σ→Int
 | .i x=>x
 |_=>0
def Cm.bOf:Cm σ→Bool
 | .b x=>x
 |_=>false
def Cm.nOf:Cm σ→Nat
 | .n x=>x
 |_=>0
def Cm.liOf:Cm σ→LI
 | .li x=>x
 |_=>[]
def Cm.lbOf:Cm σ→List Bool
 | .lb x=>x
 |_=>[]
def Cm.mpOf:Cm σ→AkF
 | .mp x=>x
 |_=> λ_=>none
def Cm.blOf:Cm σ→List (Int×Int)
 | .bl x=>x
 |_=>[]
def Cm.stOf (w:Wr σ):Cm σ→w.τ
 | .st x=>w.prj x
 |_=>w.d
def Kd.of:(k:Kd σ)→Cm σ→k.T
 | .i,c=>c.iOf
 | .b,c=>c.bOf
 | .n,c=>c.nOf
 | .li,c=>c.liOf
 | .lb,c=>c.lbOf
 | .mp,c=>c.mpOf
 | .bl,c=>c.blOf
 | .st w,c=>c.stOf w
def Kd.to:(k:Kd σ)→k.T→Cm σ
 | .i,x=> .i x
 | .b,x=> .b x
 | .n,x=> .n x
 | .li,x=> .li x
 | .lb,x=> .lb x
 | .mp,x=> .mp x
 | .bl,x=> .bl x
 | .st w,x=> .st (w.inj x)
def Kd.fits:Kd σ→Cm σ→Bool
 | .i, .i _=>true
 | .b, .b _=>true
 | .n, .n _=>true
 | .li, .li _=>true
 | .lb, .lb _=>true
 | .mp, .mp _=>true
 | .bl, .bl _=>true
 | .st w, .st x=>w.is x
 |_,_=>false
theorem Kd.Al3 {k:Kd σ} {c:Cm σ} (h:k.fits c=true):k.to (k.of c)=c:=by
 cases k<;>cases c<;>simp only [Kd.fits] at h<;>first|rfl|cases h|skip
 rename_i w x
 show Cm.st (w.inj (w.prj x))=Cm.st x
 rw [w.ok x h]
abbrev Gn (cs:List (Cm σ)):Cm σ:=cs.headD (.b false)
@[reducible] def Ty:List (Kd σ)→Type
  |[]=>Unit
  |[k]=>k.T
  |k::k'::ks=>k.T×Ty (k'::ks)
def Jo:(ks:List (Kd σ))→Ty ks→List (Cm σ)
 |[],_=>[]
 |[k],x=>[k.to x]
 |k::k'::ks,x=>k.to x.1::Jo (k'::ks) x.2
def VC:(ks:List (Kd σ))→List (Cm σ)→Ty ks
 |[],_=>()
 |[k],cs=>k.of (Gn cs)
 |k::k'::ks,cs=>(k.of (Gn cs),VC (k'::ks) cs.tail)
@[reducible] def Jt:List (Kd σ)→Type→Type
  |[],α=>α
  |k::ks,α=>k.T→Jt ks α
def AA {α:Type}:(ks:List (Kd σ))→Jt ks α→List (Cm σ)→α
 |[],f,_=>f
 |k::ks,f,cs=>AA ks (f (k.of (Gn cs))) cs.tail
@[reducible] def Eh:(ks:List (Kd σ))→(List (Cm σ)→Prop)→Prop
  |[],p=>p []
  |k::ks,p=>∀a:k.T,Eh ks λcs=>p (k.to a::cs)
def CB:List (Kd σ)→List (Cm σ)→Bool
 |[],[]=>true
 |k::ks,c::cs=>k.fits c&&CB ks cs
 |_,_=>false
theorem Eh.at:∀{ks:List (Kd σ)} {p:List (Cm σ)→Prop},Eh ks p→∀cs,CB ks cs=true→p cs
 |[],_,h,[],_=>h
 |[],_,_,_::_,hf=>by simp [CB] at hf
 |_::_,_,_,[],hf=>by simp [CB] at hf
 |k::ks,p,h,c::cs,hf=>by
  simp only [CB,iG] at hf
  have:=Eh.at (h (k.of c)) cs hf.2
  rw [Kd.Al3 hf.1] at this
  exact this
inductive Sh (σ:Type):Type 1 where
 |i (k:IntKind)
 |b
 |skip
 |ic (k:IntKind) (x:Int)
 |bc (x:Bool)
 |agg (l:List (Sh σ))
 |tup (l:List (Sh σ))
 |ro (ks:List (Option IntKind))
 |roc (cols:List Ak)
 |own (t:TypeId) (ks:List (Option IntKind))
 |new (t:TypeId) (ks:List (Option IntKind))
 |obj (w:Wr σ)
 |nobj (w:Wr σ)
 |objc (w:Wr σ) (p:Addr)
 |objk (w:Wr σ) (p:Addr) (s:w.τ)
 |vc (v:Value)
 |box (t:TypeId) (l:List (Sh σ))
 |boxc (b:Nat) (t:TypeId) (l:List (Sh σ))
 |objb (w:Wr σ)
 |nxt (t:TypeId)
 |agn (i:Nat)
 |mp (kk vk:IntKind)
 |bm
 |bmi
 |agi (i:Nat)
 |ago (j:Nat)
 |agc (j off:Nat)
 |ags (j n:Nat)
 |fn (f:Nat)
def KC:Option IntKind→Kd σ
 |some _=> .li
 |none=> .lb
mutual
def Sh.kd:Sh σ→List (Kd σ)
 | .i _=>[.i]
 | .b=>[.b]
 | .agg l=>Hq l
 | .tup l=>Hq l
 | .ro ks=>ks.map KC
 | .own _ ks=> .n::ks.map KC
 | .new _ ks=>ks.map KC
 | .obj w=>[.st w]
 | .nobj w=>[.st w]
 | .objc w _=>[.st w]
 | .box _ l=>Hq l
 | .boxc _ _ l=>Hq l
 | .objb w=>[.st w]
 | .agn _=>[.n]
 | .mp _ _=>[.mp]
 | .bm=>[.bl]
 | .bmi=>[.bl, .bl, .bl]
 |_=>[]
def Hq:List (Sh σ)→List (Kd σ)
 |[]=>[]
 |s::l=>s.kd++Hq l
end
mutual
def Sh.nC:Sh σ→Nat
 | .i _=>1
 | .b=>1
 | .agg l=>Nc l
 | .tup l=>Nc l
 | .ro ks=>ks.length
 | .own _ ks=>1+ks.length
 | .new _ ks=>ks.length
 | .obj _=>1
 | .nobj _=>1
 | .objc _ _=>1
 | .box _ l=>Nc l
 | .boxc _ _ l=>Nc l
 | .objb _=>1
 | .agn _=>1
 | .mp _ _=>1
 | .bm=>1
 | .bmi=>3
 |_=>0
def Nc:List (Sh σ)→Nat
 |[]=>0
 |s::l=>s.nC+Nc l
end
mutual
def Sh.nA:Sh σ→Nat
 | .agg l=>nAs l
 | .tup l=>nAs l
 | .ro _=>1
 | .roc _=>1
 | .own _ _=>1
 | .new _ _=>1
 | .obj _=>1
 | .nobj _=>1
 | .box _ l=>1+nAs l
 | .boxc _ _ l=>nAs l
 | .objb _=>1
 | .agn _=>1
 | .mp _ _=>1
 | .bm=>1
 | .bmi=>1
 | .agi _=>1
 | .ago _=>1
 | .agc _ _=>1
 | .ags _ _=>1
 |_=>0
def nAs:List (Sh σ)→Nat
 |[]=>0
 |s::l=>s.nA+nAs l
end
mutual
def Sh.nK:Sh σ→Nat
 | .agg l=>ER l
 | .tup l=>ER l
 | .ro _=>1
 | .roc _=>1
 | .own _ _=>1
 | .obj _=>1
 | .objc _ _=>1
 | .objk _ _ _=>1
 | .box _ l=>1+ER l
 | .boxc _ _ l=>1+ER l
 | .objb _=>1
 | .mp _ _=>1
 | .bm=>1
 | .bmi=>1
 |_=>0
def ER:List (Sh σ)→Nat
 |[]=>0
 |s::l=>s.nK+ER l
end
mutual
def Sh.nS:Sh σ→Nat
 | .agg l=>nSs l
 | .tup l=>nSs l
 | .new _ _=>1
 | .nobj _=>1
 |_=>0
def nSs:List (Sh σ)→Nat
 |[]=>0
 |s::l=>s.nS+nSs l
end
structure Ad where
 o:Option Nat
 b:Nat
 c:Nat
 a:Option Addr
 p:Addr
def Ad.z:Ad:=⟨none,0,0,none,⟨0,0,none⟩⟩
def AkG:IntKind→LI→Ak
 | .i8,xs=> .fz xs
 | .i16,xs=> .sls xs
 |k,xs=> .ints k xs
def Cf:List (Option IntKind)→List (Cm σ)→List Ak
 |[],_=>[]
 |some k::ks,cs=>AkG k (Gn cs).liOf::Cf ks cs.tail
 |none::ks,cs=> .bools (Gn cs).lbOf::Cf ks cs.tail
def BO:List (Option IntKind)→List Ak→List (Cm σ)
 |[],_=>[]
 |some _::ks,cols=>(match cols.headD (.vals []) with| .ints _ xs=> .li xs| .fz xs=> .li xs| .sls xs=> .li xs|_=> .li [])::BO ks cols.tail
 |none::ks,cols=>(match cols.headD (.vals []) with| .bools xs=> .lb xs|_=> .lb [])::BO ks cols.tail
def Ack:List (Option IntKind)→Bool
 |some .i8::_=>true
 |_=>false
structure Tp (σ:Type) where
 v:Value
 p:Pr
 K:List (Chunk σ)
def EZ:List (Tp σ)→List (Chunk σ)
 |[]=>[]
 |t::r=>t.K++EZ r
def Ov:List (Tp σ)→List Value
 |[]=>[]
 |t::r=>t.v::Ov r
def Xd:List (Tp σ)→List Pr
 |[]=>[]
 |t::r=>t.p::Xd r
def I7:List (Tp σ)→List (Value×Pr)
 |[]=>[]
 |t::r=>(t.v,t.p)::I7 r
mutual
def Sh.tp (ad:Nat→Ad):Sh σ→Nat→Nat→List (Cm σ)→Tp σ
 | .i kd,_,_,cs=>⟨.int kd (Gn cs).iOf, .no,[]⟩
 | .b,_,_,cs=>⟨.bool (Gn cs).bOf, .no,[]⟩
 | .skip,_,_,_=>⟨undef, .no,[]⟩
 | .ic kd x,_,_,_=>⟨.int kd x, .no,[]⟩
 | .bc x,_,_,_=>⟨.bool x, .no,[]⟩
 | .agg l,k,j,cs=>⟨.agg (Ov (CU ad l k j cs)).toArray,EH (Xd (CU ad l k j cs)),EZ (CU ad l k j cs)⟩
 | .tup l,k,j,cs=>⟨.tuple (Ov (CU ad l k j cs)).toArray,EH (Xd (CU ad l k j cs)),EZ (CU ad l k j cs)⟩
 | .ro ks,k,j,cs=>⟨.slice (ad j).a (lenC (Cf ks cs)) (ad j).c, .pt k .slice,[.ro (ad j).a (lenC (Cf ks cs)) (ad j).c (Cf ks cs)]⟩
 | .roc cols,k,j,_=>⟨.slice (ad j).a (lenC cols) (ad j).c, .pt k .slice,[.ro (ad j).a (lenC cols) (ad j).c cols]⟩
 | .own t ks,k,j,cs=>⟨Ba (ad j).o (Gn cs).nOf (ad j).c, .pt k .slice,[.row (ad j).o t (Gn cs).nOf (ad j).c (Cf ks cs.tail)]⟩
 | .new _ _,_,_,_=>⟨undef, .no,[]⟩
 | .obj w,k,j,cs=>⟨.pointer (some (ad j).p), .pt k .obj,[.obj (ad j).p (w.inj ((Gn cs).stOf w))]⟩
 | .nobj _,_,_,_=>⟨undef, .no,[]⟩
 | .objc w p,k,_,cs=>⟨.pointer (some p), .pt k .obj,[.obj p (w.inj ((Gn cs).stOf w))]⟩
 | .objk w p s,k,_,_=>⟨.pointer (some p), .pt k .obj,[.obj p (w.inj s)]⟩
 | .vc v,_,_,_=>⟨v, .no,[]⟩
 | .box t l,k,j,cs=>⟨.pointer (some ⟨(ad j).b,0,none⟩), .pt k (.cell 0), .cells (ad j).b t (I7 (CU ad l (k+1) (j+1) cs))::EZ (CU ad l (k+1) (j+1) cs)⟩
 | .boxc b t l,k,j,cs=>⟨.pointer (some ⟨b,0,none⟩), .pt k (.cell 0), .cells b t (I7 (CU ad l (k+1) j cs))::EZ (CU ad l (k+1) j cs)⟩
 | .objb w,k,j,cs=>⟨.pointer (some ⟨(ad j).b,0,none⟩), .pt k .obj,[.obj ⟨(ad j).b,0,none⟩ (w.inj ((Gn cs).stOf w))]⟩
 | .agn i,_,j,cs=>⟨.slice (ad j).a (Gn cs).nOf (ad j).c, .pt i .slice,[]⟩
 | .nxt t,k,j,cs=>⟨.iface t (Ba (ad j).o (Gn cs).nOf (ad j).c), .box (.pt k .slice),[]⟩
 | .mp kk vk,k,j,cs=>⟨.map (some (ad j).b), .pt k .map,[.map (ad j).b kk vk (Gn cs).mpOf]⟩
 | .bm,k,j,cs=>⟨.map (some (ad j).b), .pt k .map,[.bm (ad j).b (Gn cs).blOf none]⟩
 | .bmi,k,j,cs=>⟨.map (some (ad j).b), .pt k .map,[.bm (ad j).b (Gn cs).blOf (some ((ad j).c,(Gn cs.tail).blOf,(Gn cs.tail.tail).blOf))]⟩
 | .agi i,_,j,_=>⟨.pointer (some ⟨(ad j).b,0,none⟩), .pt i .iter,[]⟩
 | .ago i,_,j,_=>⟨.pointer (some (ad j).p), .pt i .obj,[]⟩
 | .agc i off,_,j,_=>⟨.pointer (some ⟨(ad j).b,off,none⟩), .pt i (.cell off),[]⟩
 | .ags i n,_,j,_=>⟨.slice (ad j).a n (ad j).c, .pt i .slice,[]⟩
 | .fn f,_,_,_=>⟨.func (.func f) #[] #[], .no,[]⟩
def CU (ad:Nat→Ad):List (Sh σ)→Nat→Nat→List (Cm σ)→List (Tp σ)
 |[],_,_,_=>[]
 |s::l,k,j,cs=>s.tp ad k j cs::CU ad l (k+s.nK) (j+s.nA) (cs.drop s.nC)
end
structure Dc (σ:Type) where
 cs:List (Cm σ)
 ad:List Ad
 is:List (Option Nat)
mutual
def Sh.dc (K:List (Chunk σ)):Sh σ→Value→Pr→Dc σ
 | .i _, .int _ x,_=>⟨[.i x],[],[]⟩
 | .b, .bool x,_=>⟨[.b x],[],[]⟩
 | .agg l, .agg vs,p=>dcs K l vs.toList (Jv (.agg vs) p)
 | .tup l, .tuple vs,p=>dcs K l vs.toList (match p with| .many ps=>ps|_=>NW vs.size)
 | .ro ks, .slice a _ c, .pt k .slice=>match K[k]? with
   |some (.ro _ _ _ cols)=>⟨BO ks cols,[{Ad.z with a:=a,c:=c}],[some k]⟩
   |_=>⟨[],[],[]⟩
 | .roc _, .slice a _ c, .pt k .slice=>⟨[],[{Ad.z with a:=a,c:=c}],[some k]⟩
 | .own _ ks, .slice _ _ _, .pt k .slice=>match K[k]? with
   |some (.row o _ n c cols)=>⟨.n n::BO ks cols,[{Ad.z with o:=o,c:=c}],[some k]⟩
   |_=>⟨[],[],[]⟩
 | .own _ ks, .slice _ _ _, .no=>⟨.n 0::BO ks (Cf (σ:=σ) ks []),[Ad.z],[none]⟩
 | .new _ ks, .slice a _ _, .pt k .slice=>match K[k]? with
   |some (.row o _ n c cols)=>⟨BO ks cols,[{Ad.z with o:=o,b:=n,c:=c,a:=a}],[some k]⟩
   |some (.ro _ n c cols)=>⟨BO ks cols,[{Ad.z with b:=n,c:=c,a:=a}],[some k]⟩
   |_=>⟨[],[],[]⟩
 | .new _ ks, .slice _ _ _, .no=>⟨BO ks (Cf (σ:=σ) ks []),[Ad.z],[none]⟩
 | .obj _, .pointer (some p), .pt k .obj=>match K[k]? with
   |some (.obj _ s)=>⟨[.st s],[{Ad.z with p:=p}],[some k]⟩
   |_=>⟨[],[],[]⟩
 | .objk _ _ _, .pointer (some _), .pt k .obj=>⟨[],[],[some k]⟩
 | .objc _ _, .pointer (some _), .pt k .obj=>match K[k]? with
   |some (.obj _ s)=>⟨[.st s],[],[some k]⟩
   |_=>⟨[],[],[]⟩
 | .nobj _, .pointer (some p), .pt k .obj=>match K[k]? with
   |some (.obj _ s)=>⟨[.st s],[{Ad.z with o:=some p.block}],[some k]⟩
   |_=>⟨[],[],[]⟩
 | .box _ l, .pointer (some p), .pt k (.cell _)=>match K[k]? with
   |some (.cells _ _ cs)=>match dcs K l (cs.map (·.1)) (cs.map (·.2)) with
    |⟨a,b,c⟩=>⟨a,{Ad.z with b:=p.block}::b,some k::c⟩
   |_=>⟨[],[],[]⟩
 | .boxc _ _ l, .pointer (some _), .pt k (.cell _)=>match K[k]? with
   |some (.cells _ _ cs)=>match dcs K l (cs.map (·.1)) (cs.map (·.2)) with
    |⟨a,b,c⟩=>⟨a,b,some k::c⟩
   |_=>⟨[],[],[]⟩
 | .objb _, .pointer (some p), .pt k .obj=>match K[k]? with
   |some (.obj _ s)=>⟨[.st s],[{Ad.z with b:=p.block}],[some k]⟩
   |_=>⟨[],[],[]⟩
 | .mp _ _, .map (some b), .pt k .map=>match K[k]? with
   |some (.map _ _ _ f)=>⟨[.mp f],[{Ad.z with b:=b}],[some k]⟩
   |_=>⟨[],[],[]⟩
 | .bm, .map (some b), .pt k .map=>match K[k]? with
   |some (.bm _ l _)=>⟨[.bl l],[{Ad.z with b:=b}],[some k]⟩
   |_=>⟨[],[],[]⟩
 | .bmi, .map (some b), .pt k .map=>match K[k]? with
   |some (.bm _ l (some (i,c,r)))=>⟨[.bl l, .bl c, .bl r],[{Ad.z with b:=b,c:=i}],[some k]⟩
   |_=>⟨[],[],[]⟩
 | .agi _, .pointer (some p),_=>⟨[],[{Ad.z with b:=p.block}],[]⟩
 | .ago _, .pointer (some p),_=>⟨[],[{Ad.z with p:=p}],[]⟩
 | .agc _ _, .pointer (some p),_=>⟨[],[{Ad.z with b:=p.block}],[]⟩
 | .agn _, .slice a n c,_=>⟨[.n n],[{Ad.z with a:=a,c:=c}],[]⟩
 | .ags _ _, .slice a _ c,_=>⟨[],[{Ad.z with a:=a,c:=c}],[]⟩
 |_,_,_=>⟨[],[],[]⟩
def dcs (K:List (Chunk σ)):List (Sh σ)→List Value→List Pr→Dc σ
 |s::l,v::vs,p::ps=>match s.dc K v p,dcs K l vs ps with
  |⟨a,b,c⟩,⟨a',b',c'⟩=>⟨a++a',b++b',c++c'⟩
 |_,_,_=>⟨[],[],[]⟩
end
def Fp (l:List Ad):Nat→Ad:= λj=>l.getD j Ad.z
def Iw:Nat→List (Option Nat)→List Nat
 |_,[]=>[]
 |j,some i::r=>i::Iw (j+1) r
 |j,none::r=>(1000000+j)::Iw (j+1) r
def nodupB:List Nat→Bool
 |[]=>true
 |i::r=>!(r.any (iJ i))&&nodupB r
theorem Ij:∀{l:List Nat},nodupB l=true→l.Nodup
 |[],_=>by simp
 |i::r,h=>by
  simp only [nodupB,iG,lC,List.any_eq_false,Bool.not_eq_true] at h
  refine lJ.2 ⟨λhm=>?_,Ij h.2⟩
  have:=h.1 i hm
  rw [nH] at this;cases this
mutual
def Sh.out:Sh σ→List (Cm σ)→List Value→Value
 | .i kd,cs,_=> .int kd (Gn cs).iOf
 | .b,cs,_=> .bool (Gn cs).bOf
 | .agg l,cs,ss=> .agg (outs l cs ss).toArray
 | .tup l,cs,ss=> .tuple (outs l cs ss).toArray
 | .new _ _,_,ss=>ss.headD undef
 | .nobj _,_,ss=>ss.headD undef
 | .ic kd x,_,_=> .int kd x
 | .bc x,_,_=> .bool x
 | .vc v,_,_=>v
 |_,_,_=>undef
def outs:List (Sh σ)→List (Cm σ)→List Value→List Value
 |[],_,_=>[]
 |s::l,cs,ss=>s.out cs ss::outs l (cs.drop s.nC) (ss.drop s.nS)
end
mutual
def Sh.mks:Sh σ→List (Cm σ)→List (Mk σ)
 | .agg l,cs=>J9 l cs
 | .tup l,cs=>J9 l cs
 | .new t ks,cs=>[.row t (Cf ks cs)]
 | .nobj w,cs=>[.obj (w.inj ((Gn cs).stOf w))]
 |_,_=>[]
def J9:List (Sh σ)→List (Cm σ)→List (Mk σ)
 |[],_=>[]
 |s::l,cs=>s.mks cs++J9 l (cs.drop s.nC)
end
mutual
def Sh.outp:Sh σ→Nat→Pr
 | .agg l,k=>EH (Xe l k)
 | .tup l,k=>EH (Xe l k)
 | .new _ _,k=> .pt k .slice
 | .nobj _,k=> .pt k .obj
 |_,_=> .no
def Xe:List (Sh σ)→Nat→List Pr
 |[],_=>[]
 |s::l,k=>s.outp k::Xe l (k+s.nS)
end
mutual
theorem Sh.mks_len:∀(s:Sh σ) (cs:List (Cm σ)),(s.mks cs).length=s.nS
 | .agg l,cs=>by simp only [Sh.mks,Sh.nS];exact VD l cs
 | .tup l,cs=>by simp only [Sh.mks,Sh.nS];exact VD l cs
 | .new _ _,_=>rfl
 | .nobj _,_=>rfl
 | .i _,_=>rfl
 | .b,_=>rfl
 | .skip,_=>rfl
 | .ic _ _,_=>rfl
 | .bc _,_=>rfl
 | .ro _,_=>rfl
 | .roc _,_=>rfl
 | .own _ _,_=>rfl
 | .obj _,_=>rfl
 | .objc _ _,_=>rfl
 | .objk _ _ _,_=>rfl
 | .vc _,_=>rfl
 | .box _ _,_=>rfl
 | .boxc _ _ _,_=>rfl
 | .objb _,_=>rfl
 | .nxt _,_=>rfl
 | .agn _,_=>rfl
 | .mp _ _,_=>rfl
 | .bm,_=>rfl
 | .bmi,_=>rfl
 | .agi _,_=>rfl
 | .ago _,_=>rfl
 | .agc _ _,_=>rfl
 | .ags _ _,_=>rfl
 | .fn _,_=>rfl
theorem VD:∀(l:List (Sh σ)) (cs:List (Cm σ)),(J9 l cs).length=nSs l
 |[],_=>rfl
 |s::l,cs=>by simp only [J9,nSs,jP,s.mks_len cs,VD l]
end
theorem AaC:∀{R1 R2:List (Mk σ)} {acs:List (Option Nat×Nat)},Fe (R1++R2) acs→∃a1 a2,acs=a1++a2∧a1.length=R1.length∧Fe R1 a1∧Fe R2 a2
 |[],R2,acs,h=>⟨[],acs,rfl,rfl,trivial,h⟩
 |r::R1,R2,[],h=>by simp [Fe] at h
 |r::R1,R2,a::acs,h=>by
  simp only [jU,Fe] at h
  obtain ⟨a1,a2,rfl,h1,h2,h3⟩:=AaC h.2
  exact ⟨a::a1,a2,rfl,by simp [h1],⟨h.1,h2⟩,h3⟩
theorem Zg {α β γ:Type} (f:α→β→γ):∀{l1 l2:List α} {m1 m2:List β},m1.length=l1.length→jA f (l1++l2) (m1++m2)=jA f l1 m1++jA f l2 m2
 |[],_,[],_,_=>rfl
 |[],_,_::_,_,h=>by simp at h
 |_::_,_,[],_,h=>by simp at h
 |a::l1,l2,b::m1,m2,h=>by simp only [jU,kF,Zg f (l1:=l1) (by simpa using h)]
theorem Agi {K:List (Chunk σ)} {vs:List Value} {ps:List Pr} (h:Aw K vs ps):Bl K (.tuple vs.toArray) (EH ps):=by
 unfold EH
 cases hb:ps.all Pr.Acp with
 |true=>simp [Bl]
 |false=>simp only [cond_false];unfold Bl;exact h
mutual
theorem Sh.Af1:∀(s:Sh σ) (cs:List (Cm σ)) (K K2:List (Chunk σ)) (S2:List Value) (acs:List (Option Nat×Nat)),Fe (s.mks cs) acs→
 Bl (K++jA Dq (s.mks cs) acs++K2) (s.out cs (jA EJ (s.mks cs) acs++S2)) (s.outp K.length)
 | .agg l,cs,K,K2,S2,acs,h=>by simp only [Sh.mks,Sh.out,Sh.outp] at h ⊢;exact Ip (VE l cs K K2 S2 acs h)
 | .tup l,cs,K,K2,S2,acs,h=>by simp only [Sh.mks,Sh.out,Sh.outp] at h ⊢;exact Agi (VE l cs K K2 S2 acs h)
 | .new t ks,cs,K,K2,S2,acs,h=>by
   simp only [Sh.mks] at h ⊢
   match acs,h with
   |[ac],_=>
    simp only [kF,List.zipWith_nil_right,Sh.out,Sh.outp,jU,kI]
    exact Bf.2 ⟨Dq (.row t (Cf ks cs)) ac,by rw [jO,iI (kC _)];simp,by simp only [Dq,EJ];cases D8 (Cf ks cs)<;>rfl⟩
   |_::_::_,h=>exact absurd h.2 (by simp [Fe])
   |[],h=>exact h.elim
 | .nobj w,cs,K,K2,S2,acs,h=>by
   simp only [Sh.mks] at h ⊢
   match acs,h with
   |[ac],h=>
    obtain ⟨b,rfl⟩:=h.1
    simp only [kF,List.zipWith_nil_right,Sh.out,Sh.outp,jU,kI]
    exact Bf.2 ⟨Dq (.obj (w.inj ((Gn cs).stOf w))) (some b,0),by rw [jO,iI (kC _)];simp,rfl⟩
   |_::_::_,h=>exact absurd h.2 (by simp [Fe])
   |[],h=>exact h.elim
 | .i _,_,_,_,_,_,_=>Ar
 | .b,_,_,_,_,_,_=>Ar
 | .skip,_,_,_,_,_,_=>Ar
 | .ic _ _,_,_,_,_,_,_=>Ar
 | .bc _,_,_,_,_,_,_=>Ar
 | .ro _,_,_,_,_,_,_=>Ar
 | .roc _,_,_,_,_,_,_=>Ar
 | .own _ _,_,_,_,_,_,_=>Ar
 | .obj _,_,_,_,_,_,_=>Ar
 | .objc _ _,_,_,_,_,_,_=>Ar
 | .objk _ _ _,_,_,_,_,_,_=>Ar
 | .vc _,_,_,_,_,_,_=>Ar
 | .box _ _,_,_,_,_,_,_=>Ar
 | .boxc _ _ _,_,_,_,_,_,_=>Ar
 | .objb _,_,_,_,_,_,_=>Ar
 | .nxt _,_,_,_,_,_,_=>Ar
 | .agn _,_,_,_,_,_,_=>Ar
 | .mp _ _,_,_,_,_,_,_=>Ar
 | .bm,_,_,_,_,_,_=>Ar
 | .bmi,_,_,_,_,_,_=>Ar
 | .agi _,_,_,_,_,_,_=>Ar
 | .ago _,_,_,_,_,_,_=>Ar
 | .agc _ _,_,_,_,_,_,_=>Ar
 | .ags _ _,_,_,_,_,_,_=>Ar
 | .fn _,_,_,_,_,_,_=>Ar
theorem VE:∀(l:List (Sh σ)) (cs:List (Cm σ)) (K K2:List (Chunk σ)) (S2:List Value) (acs:List (Option Nat×Nat)),Fe (J9 l cs) acs→
 Aw (K++jA Dq (J9 l cs) acs++K2) (outs l cs (jA EJ (J9 l cs) acs++S2)) (Xe l K.length)
 |[],_,_,_,_,_,_=>by simp [outs,Xe,Aw]
 |s::l,cs,K,K2,S2,acs,h=>by
  simp only [J9] at h ⊢
  obtain ⟨a1,a2,rfl,h1,h2,h3⟩:=AaC h
  rw [Zg _ h1,Zg _ h1]
  have e1:(jA EJ (s.mks cs) a1).length=s.nS:=by rw [List.length_zipWith,h1,s.mks_len];simp
  have e2:(jA Dq (s.mks cs) a1).length=s.nS:=by rw [List.length_zipWith,h1,s.mks_len];simp
  refine Dj ?_ ?_
  ·have:=Sh.Af1 s cs K (jA Dq (J9 l (cs.drop s.nC)) a2++K2) (jA EJ (J9 l (cs.drop s.nC)) a2++S2) a1 h2
   simpa [jO] using this
  ·have:=VE l (cs.drop s.nC) (K++jA Dq (s.mks cs) a1) K2 S2 a2 h3
   simp only [jP,e2] at this
   have e3:(jA EJ (s.mks cs) a1++jA EJ (J9 l (cs.drop s.nC)) a2++S2).drop s.nS=jA EJ (J9 l (cs.drop s.nC)) a2++S2:=by
    rw [jO,←e1];exact List.drop_left
   rw [e3]
   simpa [jO] using this
end
end
section
open Go.RowKit
variable {σ:Type}
inductive NT:Type 1 where
 |t
 |need (p:Prop) (n:NT)
 |br (c:Bool) (a b:NT)
 |bind {α:Type} (x:α) (k:α→NT)
 |and (a b:NT)
def NT.holds:NT→Prop
 | .t=>True
 | .need p n=>p∧(p→n.holds)
 | .br c a b=>(c=true→a.holds)∧(c=false→b.holds)
 | .bind x k=>∀a,a=x→(k a).holds
 | .and a b=>a.holds∧b.holds
def NT.sand (a b:NT):NT:=
 match a,b with
 | .t,b=>b
 |a, .t=>a
 |a,b=> .and a b
theorem NT.Xf {a b:NT} (h:(NT.sand a b).holds):a.holds∧b.holds:=by
 unfold NT.sand at h
 split at h
 ·exact ⟨trivial,h⟩
 ·exact ⟨h,trivial⟩
 ·exact h
def NT.sbr (c:Bool) (a b:NT):NT:=
 match a,b with
 | .t, .t=> .t
 |a,b=> .br c a b
def NT.sbind {α:Type} (x:α) (k:α→NT):NT:=
 match k x with
 | .t=> .t
 |_=> .bind x k
theorem NT.AaD {c:Bool} {a b:NT} (h:(NT.sbr c a b).holds):(c=true→a.holds)∧(c=false→b.holds):=by
 unfold NT.sbr at h
 split at h
 ·exact ⟨λ_=>trivial, λ_=>trivial⟩
 ·exact h
theorem NT.AeJ {α:Type} {x:α} {k:α→NT} (h:(NT.sbind x k).holds):(k x).holds:=by
 unfold NT.sbind at h
 split at h
 ·rename_i e;rw [e];trivial
 ·exact h x rfl
structure Ob (σ:Type) where
 td:List Ab
 v:Value
 L:List Af
 K:List (Option (Chunk σ))
abbrev BF:=Nat→Nat
abbrev GF:=Nat→Option Nat
abbrev tl {α:Type} (f:Nat→α):Nat→α:= λi=>f (i+1)
def cn {α:Type} (a:α) (f:Nat→α):Nat→α
 |0=>a
 |i+1=>f i
section
variable {α:Type}
def Tree.val (lf:Value→Pr→List (Chunk σ)→α) (d:α):Tree σ→BF→GF→α
 | .ret v p K,_,_=>lf v p K
 | .br c a b,β,γ=>bif c then a.val lf d β γ else b.val lf d β γ
 | .need _ t,β,γ=>t.val lf d β γ
 | .bind x t,β,γ=>(t x).val lf d β γ
 | .fresh t,β,γ=>(t (β 0)).val lf d (tl β) γ
 | .freshS t,β,γ=>(t (γ 0) (β 0)).val lf d (tl β) (tl γ)
 | .pick t,β,γ=>(t (β 0)).val lf d (tl β) γ
 | .two a _,β,γ=>a.val lf d β γ
 | .stuck _ _ _,_,_=>d
def Tree.eqv (lf:Value→Pr→List (Chunk σ)→α) (d:α) (left:Bool):Tree σ→BF→GF→List α
 | .ret _ _ _,_,_=>[]
 | .br _ a b,β,γ=>a.eqv lf d left β γ++b.eqv lf d left β γ
 | .need _ t,β,γ=>t.eqv lf d left β γ
 | .bind x t,β,γ=>(t x).eqv lf d left β γ
 | .fresh t,β,γ=>(t (β 0)).eqv lf d left (tl β) γ
 | .freshS t,β,γ=>(t (γ 0) (β 0)).eqv lf d left (tl β) (tl γ)
 | .pick t,β,γ=>(t (β 0)).eqv lf d left (tl β) γ
 | .two a b,β,γ=>(bif left then a.val lf d β γ else b.val lf d β γ)::(a.eqv lf d left β γ++b.eqv lf d left β γ)
 | .stuck _ _ _,_,_=>[]
end
def Tree.obl (ro:Value→Pr→List (Chunk σ)→Ob σ) (so:List Ab→List Af→List (Chunk σ)→Ob σ):Tree σ→BF→GF→List (Ob σ)
 | .ret v p K,_,_=>[ro v p K]
 | .br _ a b,β,γ=>a.obl ro so β γ++b.obl ro so β γ
 | .need _ t,β,γ=>t.obl ro so β γ
 | .bind x t,β,γ=>(t x).obl ro so β γ
 | .fresh t,β,γ=>(t (β 0)).obl ro so (tl β) γ
 | .freshS t,β,γ=>(t (γ 0) (β 0)).obl ro so (tl β) (tl γ)
 | .pick t,β,γ=>(t (β 0)).obl ro so (tl β) γ
 | .two a b,β,γ=>a.obl ro so β γ++b.obl ro so β γ
 | .stuck td L K,_,_=>[so td L K]
def Tree.okb (ro:Value→Pr→List (Chunk σ)→Bool) (so:List Ab→List Af→List (Chunk σ)→Bool):Tree σ→BF→GF→Bool
 | .ret v p K,_,_=>ro v p K
 | .br _ a b,β,γ=>a.okb ro so β γ&&b.okb ro so β γ
 | .need _ t,β,γ=>t.okb ro so β γ
 | .bind x t,β,γ=>(t x).okb ro so β γ
 | .fresh t,β,γ=>(t (β 0)).okb ro so (tl β) γ
 | .freshS t,β,γ=>(t (γ 0) (β 0)).okb ro so (tl β) (tl γ)
 | .pick t,β,γ=>(t (β 0)).okb ro so (tl β) γ
 | .two a b,β,γ=>a.okb ro so β γ&&b.okb ro so β γ
 | .stuck td L K,_,_=>so td L K
def Tree.nds:Tree σ→BF→GF→NT
 | .ret _ _ _,_,_=> .t
 | .br c a b,β,γ=> .sbr c (a.nds β γ) (b.nds β γ)
 | .need p t,β,γ=> .need p (t.nds β γ)
 | .bind x t,β,γ=> .sbind x λa=>(t a).nds β γ
 | .fresh t,β,γ=>(t (β 0)).nds (tl β) γ
 | .freshS t,β,γ=>(t (γ 0) (β 0)).nds (tl β) (tl γ)
 | .pick t,β,γ=>(t (β 0)).nds (tl β) γ
 | .two a b,β,γ=> .sand (a.nds β γ) (b.nds β γ)
 | .stuck _ _ _,_,_=> .need False .t
def Tree.wp (RQ:Value→Pr→List (Chunk σ)→Prop) (SQ:List Ab→List Af→List (Chunk σ)→Prop):Tree σ→BF→GF→Prop
 | .ret v p K,_,_=>RQ v p K
 | .br c a b,β,γ=>(c=true→a.wp RQ SQ β γ)∧(c=false→b.wp RQ SQ β γ)
 | .need p t,β,γ=>p∧(p→t.wp RQ SQ β γ)
 | .bind x t,β,γ=>∀a,a=x→(t a).wp RQ SQ β γ
 | .fresh t,β,γ=>(t (β 0)).wp RQ SQ (tl β) γ
 | .freshS t,β,γ=>(t (γ 0) (β 0)).wp RQ SQ (tl β) (tl γ)
 | .pick t,β,γ=>∀b,(t b).wp RQ SQ (tl β) γ
 | .two a b,β,γ=>a.wp RQ SQ β γ∧b.wp RQ SQ β γ
 | .stuck td L K,_,_=>SQ td L K
section
variable {α:Type} {lf:Value→Pr→List (Chunk σ)→α} {d:α} {roL roR:Value→Pr→List (Chunk σ)→Ob σ} {Kt Ku:List Ab→List Af→List (Chunk σ)→Ob σ} {rb:Value→Pr→List (Chunk σ)→Bool} {sb:List Ab→List Af→List (Chunk σ)→Bool}
theorem EC {ro:Value→Pr→List (Chunk σ)→Ob σ} {so:List Ab→List Af→List (Chunk σ)→Ob σ} {ro':Value→Pr→List (Chunk σ)→Ob σ} {so':List Ab→List Af→List (Chunk σ)→Ob σ}:∀(t:Tree σ) (β:BF) (γ:GF),(t.obl ro so β γ).length=(t.obl ro' so' β γ).length
 | .ret _ _ _,_,_=>rfl
 | .br _ a b,β,γ=>by simp only [Tree.obl,jP,EC a β γ (ro:=ro) (so:=so) (ro':=ro') (so':=so'),EC b β γ (ro:=ro) (so:=so) (ro':=ro') (so':=so')]
 | .need _ t,β,γ=>by simp only [Tree.obl];exact EC t β γ
 | .bind x t,β,γ=>by simp only [Tree.obl];exact EC (t x) β γ
 | .fresh t,β,γ=>by simp only [Tree.obl];exact EC (t (β 0)) _ γ
 | .freshS t,β,γ=>by simp only [Tree.obl];exact EC (t (γ 0) (β 0)) _ _
 | .pick t,β,γ=>by simp only [Tree.obl];exact EC (t (β 0)) _ γ
 | .two a b,β,γ=>by simp only [Tree.obl,jP,EC a β γ (ro:=ro) (so:=so) (ro':=ro') (so':=so'),EC b β γ (ro:=ro) (so:=so) (ro':=ro') (so':=so')]
 | .stuck _ _ _,_,_=>rfl
theorem FI:∀(t:Tree σ) (β:BF) (γ:GF),(t.eqv lf d true β γ).length=(t.eqv lf d false β γ).length
 | .ret _ _ _,_,_=>rfl
 | .br _ a b,β,γ=>by simp only [Tree.eqv,jP,FI a β γ,FI b β γ]
 | .need _ t,β,γ=>by simp only [Tree.eqv];exact FI t β γ
 | .bind x t,β,γ=>by simp only [Tree.eqv];exact FI (t x) β γ
 | .fresh t,β,γ=>by simp only [Tree.eqv];exact FI (t (β 0)) _ γ
 | .freshS t,β,γ=>by simp only [Tree.eqv];exact FI (t (γ 0) (β 0)) _ _
 | .pick t,β,γ=>by simp only [Tree.eqv];exact FI (t (β 0)) _ γ
 | .two a b,β,γ=>by simp only [Tree.eqv,jI,jP,FI a β γ,FI b β γ]
 | .stuck _ _ _,_,_=>rfl
theorem Gh {α:Type} {a b c d:List α} (h:a++b=c++d) (hl:a.length=c.length):a=c∧b=d:=List.append_inj h hl
theorem Tree.F9 {R:α→Value→Pr→List (Chunk σ)→Prop} {S:List Ab→List Af→List (Chunk σ)→Prop} (hR:∀v p K,roL v p K=roR v p K→rb v p K=true→R (lf v p K) v p K):
 ∀(t:Tree σ) (r:α),(∀β γ,t.val lf d β γ=r)→(∀β γ,t.eqv lf d true β γ=t.eqv lf d false β γ)→(∀β γ,t.obl roL Kt β γ=t.obl roR Ku β γ)→(∀β γ,t.okb rb sb β γ=true)→(∀β γ,(t.nds β γ).holds)→t.holds (R r) S
 | .ret v p K,r,hv,_,ho,hb,_=>by
   have:=hv (λ_=>0) (λ_=>none)
   simp only [Tree.val] at this
   subst this
   have ho':=ho (λ_=>0) (λ_=>none)
   simp only [Tree.obl,jV,and_true] at ho'
   exact hR v p K ho' (hb (λ_=>0) (λ_=>none))
 | .br c a b,r,hv,he,ho,hb,hn=>by
   simp only [Tree.val] at hv
   simp only [Tree.eqv] at he
   simp only [Tree.obl] at ho
   simp only [Tree.okb,iG] at hb
   simp only [Tree.nds] at hn
   refine ⟨λhc=>Tree.F9 hR a r (λβ γ=>?_) (λβ γ=>(Gh (he β γ) (FI a β γ)).1) (λβ γ=>(Gh (ho β γ) (EC a β γ)).1) (λβ γ=>(hb β γ).1) (λβ γ=>(NT.AaD (hn β γ)).1 hc),
    λhc=>Tree.F9 hR b r (λβ γ=>?_) (λβ γ=>(Gh (he β γ) (FI a β γ)).2) (λβ γ=>(Gh (ho β γ) (EC a β γ)).2) (λβ γ=>(hb β γ).2) (λβ γ=>(NT.AaD (hn β γ)).2 hc)⟩
   ·have:=hv β γ;rw [hc] at this;exact this
   ·have:=hv β γ;rw [hc] at this;exact this
 | .need p t,r,hv,he,ho,hb,hn=>by
   have hp:p:=(hn (λ_=>0) (λ_=>none)).1
   exact ⟨hp, λ_=>Tree.F9 hR t r hv he ho hb λβ γ=>(hn β γ).2 hp⟩
 | .bind x t,r,hv,he,ho,hb,hn=>by
   intro a ha
   subst ha
   exact Tree.F9 hR (t a) r hv he ho hb λβ γ=>NT.AeJ (k:= λx=>(t x).nds β γ) (hn β γ)
 | .fresh t,r,hv,he,ho,hb,hn=> λb=>Tree.F9 hR (t b) r (λβ γ=>hv (cn b β) γ) (λβ γ=>he (cn b β) γ) (λβ γ=>ho (cn b β) γ) (λβ γ=>hb (cn b β) γ) (λβ γ=>hn (cn b β) γ)
 | .freshS t,r,hv,he,ho,hb,hn=> λa c=>Tree.F9 hR (t a c) r (λβ γ=>hv (cn c β) (cn a γ)) (λβ γ=>he (cn c β) (cn a γ)) (λβ γ=>ho (cn c β) (cn a γ)) (λβ γ=>hb (cn c β) (cn a γ)) (λβ γ=>hn (cn c β) (cn a γ))
 | .pick t,r,hv,he,ho,hb,hn=> λb=>Tree.F9 hR (t b) r (λβ γ=>hv (cn b β) γ) (λβ γ=>he (cn b β) γ) (λβ γ=>ho (cn b β) γ) (λβ γ=>hb (cn b β) γ) (λβ γ=>hn (cn b β) γ)
 | .two a b,r,hv,he,ho,hb,hn=>by
   simp only [Tree.val] at hv
   simp only [Tree.eqv,cond_true,cond_false,jV] at he
   simp only [Tree.obl] at ho
   simp only [Tree.okb,iG] at hb
   simp only [Tree.nds] at hn
   exact ⟨Tree.F9 hR a r hv (λβ γ=>(Gh (he β γ).2 (FI a β γ)).1) (λβ γ=>(Gh (ho β γ) (EC a β γ)).1) (λβ γ=>(hb β γ).1) (λβ γ=>(NT.Xf (hn β γ)).1),
    Tree.F9 hR b r (λβ γ=>((he β γ).1.symm.trans (hv β γ))) (λβ γ=>(Gh (he β γ).2 (FI a β γ)).2) (λβ γ=>(Gh (ho β γ) (EC a β γ)).2) (λβ γ=>(hb β γ).2) (λβ γ=>(NT.Xf (hn β γ)).2)⟩
 | .stuck td L K,r,_,_,_,_,hn=>(hn (λ_=>0) (λ_=>none)).1.elim
theorem Tree.FP {RQ:Value→Pr→List (Chunk σ)→Prop} {SQ:List Ab→List Af→List (Chunk σ)→Prop} {R:Value→Pr→List (Chunk σ)→Prop} {S:List Ab→List Af→List (Chunk σ)→Prop}
 (hR:∀v p K,roL v p K=roR v p K→rb v p K=true→RQ v p K→R v p K) (hS:∀td L K,Kt td L K=Ku td L K→sb td L K=true→SQ td L K→S td L K):
 ∀(t:Tree σ),(∀β γ,t.wp RQ SQ β γ)→(∀β γ,t.obl roL Kt β γ=t.obl roR Ku β γ)→(∀β γ,t.okb rb sb β γ=true)→t.holds R S
 | .ret v p K,hw,ho,hb=>by
   have ho':=ho (λ_=>0) (λ_=>none)
   simp only [Tree.obl,jV,and_true] at ho'
   exact hR v p K ho' (hb (λ_=>0) (λ_=>none)) (hw (λ_=>0) (λ_=>none))
 | .br c a b,hw,ho,hb=>by
   simp only [Tree.obl] at ho
   simp only [Tree.okb,iG] at hb
   exact ⟨λhc=>Tree.FP hR hS a (λβ γ=>(hw β γ).1 hc) (λβ γ=>(Gh (ho β γ) (EC a β γ)).1) (λβ γ=>(hb β γ).1),
    λhc=>Tree.FP hR hS b (λβ γ=>(hw β γ).2 hc) (λβ γ=>(Gh (ho β γ) (EC a β γ)).2) (λβ γ=>(hb β γ).2)⟩
 | .need p t,hw,ho,hb=>by
   have hp:p:=(hw (λ_=>0) (λ_=>none)).1
   exact ⟨hp, λ_=>Tree.FP hR hS t (λβ γ=>(hw β γ).2 hp) ho hb⟩
 | .bind x t,hw,ho,hb=>by
   intro a ha
   subst ha
   exact Tree.FP hR hS (t a) (λβ γ=>hw β γ a rfl) ho hb
 | .fresh t,hw,ho,hb=> λb=>Tree.FP hR hS (t b) (λβ γ=>hw (cn b β) γ) (λβ γ=>ho (cn b β) γ) (λβ γ=>hb (cn b β) γ)
 | .freshS t,hw,ho,hb=> λa c=>Tree.FP hR hS (t a c) (λβ γ=>hw (cn c β) (cn a γ)) (λβ γ=>ho (cn c β) (cn a γ)) (λβ γ=>hb (cn c β) (cn a γ))
 | .pick t,hw,ho,hb=> λb=>Tree.FP hR hS (t b) (λβ γ=>hw (cn b β) γ b) (λβ γ=>ho (cn b β) γ) (λβ γ=>hb (cn b β) γ)
 | .two a b,hw,ho,hb=>by
   simp only [Tree.obl] at ho
   simp only [Tree.okb,iG] at hb
   exact ⟨Tree.FP hR hS a (λβ γ=>(hw β γ).1) (λβ γ=>(Gh (ho β γ) (EC a β γ)).1) (λβ γ=>(hb β γ).1),
    Tree.FP hR hS b (λβ γ=>(hw β γ).2) (λβ γ=>(Gh (ho β γ) (EC a β γ)).2) (λβ γ=>(hb β γ).2)⟩
 | .stuck td L K,hw,ho,hb=>by
   have ho':=ho (λ_=>0) (λ_=>none)
   simp only [Tree.obl,jV,and_true] at ho'
   exact hS td L K ho' (hb (λ_=>0) (λ_=>none)) (hw (λ_=>0) (λ_=>none))
end
end
section
open Go.RowKit
variable {σ:Type}
mutual
def Sh.isArg:Sh σ→Bool
 | .i _=>true
 | .b=>true
 | .ro ks=>!ks.isEmpty
 | .fn _=>true
 | .agg l=>Hr l
 |_=>false
def Hr:List (Sh σ)→Bool
 |[]=>true
 |s::l=>s.isArg&&Hr l
end
def Dk:List (Option IntKind)→List Ak→Bool
 |[],[]=>true
 |some .i8::ks, .fz _::cols=>Dk ks cols
 |some .i64::ks, .fz _::cols=>Dk ks cols
 |some .i16::ks, .sls _::cols=>Dk ks cols
 |some k::ks, .ints k' _::cols=>(match decEq k k' with| .isTrue _=>true| .isFalse _=>false)&&((match decEq k .i8 with| .isTrue _=>false| .isFalse _=>true)&&(match decEq k .i16 with| .isTrue _=>false| .isFalse _=>true))&&Dk ks cols
 |none::ks, .bools _::cols=>Dk ks cols
 |_,_=>false
def Xg:List Value→List (DR σ)
 |[]=>[]
 |_::r=> .none::Xg r
mutual
def Sh.dA:Sh σ→Value→DR σ→Option (List (Cm σ))
 | .i k, .int k' x,_=>match decEq k k' with
   | .isTrue _=>some [.i x]
   | .isFalse _=>none
 | .b, .bool x,_=>some [.b x]
 | .ro ks,_, .row _ cols=>bif Dk ks cols then some (BO ks cols) else none
 | .ro ks, .slice none 0 0, .none=>some (BO ks [])
 | .fn f, .func (.func g) ⟨[]⟩ ⟨[]⟩,_=>bif iJ f g then some [] else none
 | .agg l, .agg vs, .none=>Ox l vs.toList (Xg vs.toList)
 | .agg l, .agg vs, .many is=>Ox l vs.toList is
 |_,_,_=>none
def Ox:List (Sh σ)→List Value→List (DR σ)→Option (List (Cm σ))
 |[],[],[]=>some []
 |s::l,v::vs,i::is=>match s.dA v i,Ox l vs is with
  |some a,some b=>some (a++b)
  |_,_=>none
 |_,_,_=>none
end
mutual
def Sh.bd:Sh σ→List (Cm σ)→Prop
 | .ro ks,cs=>lenC (Cf ks cs)≤9223372036854775807
 | .agg l,cs=>Xh l cs
 |_,_=>True
def Xh:List (Sh σ)→List (Cm σ)→Prop
 |[],_=>True
 |s::l,cs=>s.bd cs∧Xh l (cs.drop s.nC)
end
theorem AaE:∀{ks ks':List (Kd σ)} {cs cs':List (Cm σ)},CB ks cs=true→CB ks' cs'=true→CB (ks++ks') (cs++cs')=true
 |[],_,[],_,_,h=>h
 |[],_,_::_,_,h,_=>by simp [CB] at h
 |_::_,_,[],_,h,_=>by simp [CB] at h
 |k::ks,ks',c::cs,cs',h,h'=>by
  simp only [CB,iG,jU] at h ⊢
  exact ⟨h.1,AaE h.2 h'⟩
def AiI (c' c:Ak):Prop:=c'.len=c.len∧(∀i,c'.at i=c.at i)∧(c'.isFz=true→c.isFz=true)∧∀(Y:Hp) i,c.sub Y i→c'.sub Y i
def Fg:List Ak→List Ak→Prop
 |[],[]=>True
 |c'::cs',c::cs=>AiI c' c∧Fg cs' cs
 |_,_=>False
theorem Fg.get:∀{cs' cs:List Ak},Fg cs' cs→∀{j:Nat} {c':Ak},cs'[j]? =some c'→∃c,cs[j]? =some c∧AiI c' c
 |[],_,_,j,c',h=>by simp at h
 |_::_,[],h,_,_,_=>h.elim
 |d'::cs',d::cs,h,0,c',hj=>by simp at hj;subst hj;exact ⟨d,rfl,h.1⟩
 |d'::cs',d::cs,h,j+1,c',hj=>by simpa using Fg.get h.2 (j:=j) (by simpa using hj)
theorem Fg.len:∀{cs' cs:List Ak},Fg cs' cs→cs'.length=cs.length
 |[],[],_=>rfl
 |[],_::_,h=>h.elim
 |_::_,[],h=>h.elim
 |_::_,_::_,h=>by simp [Fg.len h.2]
theorem Fg.lenC:∀{cs' cs:List Ak},Fg cs' cs→lenC cs'=Sl.lenC cs
 |[],[],_=>rfl
 |[],_::_,h=>h.elim
 |_::_,[],h=>h.elim
 |_::_,_::_,h=>h.1.1
theorem Fg.fz:∀{cs' cs:List Ak},Fg cs' cs→D8 cs'=true→D8 cs=true
 |[],[],_,h=>h
 |[],_::_,h,_=>h.elim
 |_::_,[],h,_=>h.elim
 |c'::_,c::_,h,hf=>by
  unfold D8 at hf ⊢
  cases hc:c.isFz with
  |true=>rfl
  |false=>
   cases hc':c'.isFz with
   |true=>rw [h.1.2.2.1 hc'] at hc;cases hc
   |false=>rw [hc'] at hf;exact Fg.fz h.2 hf
theorem Agj {Y:Hp} {n:Nat} {cs' cs:List Ak} (hr:Fg cs' cs) (H:subs Y n cs):subs Y n cs':= λc hc i hi=>by
 obtain ⟨j,hj⟩:=kP hc
 obtain ⟨d,hd,hcd⟩:=hr.get hj
 exact hcd.2.2.2 Y i (H d (iU hd) i hi)
theorem Dl.congr {h:Hp} {a:Option Addr} {n:Nat} {cs' cs:List Ak} (hr:Fg cs' cs) (H:Dl h a n cs):Dl h a n cs':=by
 refine ⟨λc hc=>?_, λi hi=>?_,H.2.2⟩
 ·obtain ⟨j,hj⟩:=kP hc
  obtain ⟨d,hd,hcd⟩:=hr.get hj
  rw [hcd.1];exact H.1 d (iU hd)
 ·obtain ⟨b,hb,hc⟩:=H.2.1 i hi
  refine ⟨b,hb, λj c hj=>?_⟩
  obtain ⟨d,hd,hcd⟩:=hr.get hj
  rw [hr.len,hcd.2.1 i]
  exact hc j d hd
theorem AkH (k:IntKind) (xs:LI) (hk:k≠ .i8∧k≠ .i16):AiI (AkG k xs) (.ints k xs):=by
 cases k<;>first|exact ⟨rfl, λ_=>rfl, λh=>h, λ_ _ h=>h⟩|exact absurd rfl hk.1|exact absurd rfl hk.2
theorem Jp:∀{ks:List (Option IntKind)} {cols:List Ak},Dk ks cols=true→(∀rest:List (Cm σ),Fg (Cf ks (BO ks cols++rest)) cols)∧CB (σ:=σ) (ks.map KC) (BO ks cols)=true∧(BO (σ:=σ) ks cols).length=ks.length
 |[],[],_=>⟨λ_=>trivial,rfl,rfl⟩
 |[],_::_,h=>by simp [Dk] at h
 |some k::ks,[],h=>by cases k<;>simp [Dk] at h
 |none::ks,[],h=>by simp [Dk] at h
 |some k::ks, .fz xs::cols,h=>by
  have key:∀k:IntKind,(k= .i8∨k= .i64)→Dk ks cols=true→(∀rest:List (Cm σ),Fg (Cf (some k::ks) (BO (some k::ks) (.fz xs::cols)++rest)) (.fz xs::cols))∧CB (σ:=σ) ((some k::ks).map KC) (BO (some k::ks) (.fz xs::cols))=true∧(BO (σ:=σ) (some k::ks) (.fz xs::cols)).length=(some k::ks).length:= λk hk h=>by
   obtain ⟨h1,h2,h3⟩:=Jp h
   refine ⟨λrest=>?_,?_,?_⟩
   ·simp only [BO,kI,kY,jU,Cf,Fg]
    refine ⟨?_,h1 rest⟩
    rcases hk with rfl|rfl
    ·exact ⟨rfl, λ_=>rfl, λh=>h, λ_ _ _=>trivial⟩
    ·exact ⟨rfl, λ_=>rfl, λh=>(by cases h), λ_ _ _=>trivial⟩
   ·simp only [BO,kI,kY,iC,CB,KC,Kd.fits,h2,nR]
   ·simp only [BO,kI,kY,jI,h3]
  cases k<;>simp only [Dk] at h<;>first|exact key _ (.inl rfl) h|exact key _ (.inr rfl) h|cases h
 |some k::ks, .ints k' xs::cols,h=>by
  have h':((match decEq k k' with| .isTrue _=>true| .isFalse _=>false)&&((match decEq k .i8 with| .isTrue _=>false| .isFalse _=>true)&&(match decEq k .i16 with| .isTrue _=>false| .isFalse _=>true))&&Dk ks cols)=true:=by
   cases k<;>exact h
  simp only [iG] at h'
  obtain ⟨⟨h0,h8,h16⟩,hq⟩:=h'
  split at h0
  ·rename_i e _;subst e
   have hk:k≠ .i8∧k≠ .i16:=by
    refine ⟨?_,?_⟩
    ·split at h8
     ·cases h8
     ·rename_i e _;exact e
    ·split at h16
     ·cases h16
     ·rename_i e _;exact e
   obtain ⟨h1,h2,h3⟩:=Jp hq
   refine ⟨λrest=>?_,?_,?_⟩
   ·simp only [BO,kI,kY,jU,Cf,Fg]
    exact ⟨AkH k _ hk,h1 rest⟩
   ·simp only [BO,kI,kY,iC,CB,KC,Kd.fits,h2,nR]
   ·simp only [BO,kI,kY,jI,h3]
  ·cases h0
 |some k::ks, .bools _::_,h=>by cases k<;>simp [Dk] at h
 |none::ks, .sls _::_,h=>by simp [Dk] at h
 |some k::ks, .sls xs::cols,h=>by
  have key:k= .i16∧Dk ks cols=true:=by
   cases k<;>simp only [Dk] at h<;>first|exact ⟨rfl,h⟩|cases h
  obtain ⟨rfl,hq⟩:=key
  obtain ⟨h1,h2,h3⟩:=Jp hq
  refine ⟨λrest=>?_,?_,?_⟩
  ·simp only [BO,kI,kY,jU,Cf,Fg]
   exact ⟨⟨rfl, λ_=>rfl, λh=>h, λ_ _ h=>h⟩,h1 rest⟩
  ·simp only [BO,kI,kY,iC,CB,KC,Kd.fits,h2,nR]
  ·simp only [BO,kI,kY,jI,h3]
 |some k::ks, .vals _::_,h=>by cases k<;>simp [Dk] at h
 |none::ks, .bools xs::cols,h=>by
  simp only [Dk] at h
  obtain ⟨h1,h2,h3⟩:=Jp h
  refine ⟨λrest=>?_,?_,?_⟩
  ·simp only [BO,kI,kY,jU,Cf,Fg]
   exact ⟨⟨rfl, λ_=>rfl, λh=>h, λ_ _ h=>h⟩,h1 rest⟩
  ·simp only [BO,kI,kY,iC,CB,KC,Kd.fits,h2,nR]
  ·simp only [BO,kI,kY,jI,h3]
 |none::ks, .ints _ _::_,h=>by simp [Dk] at h
 |none::ks, .vals _::_,h=>by simp [Dk] at h
 |none::ks, .fz _::_,h=>by simp [Dk] at h
theorem AaF {G Z:Hp}:∀{a b:List (Chunk σ)},JQ G Z a→JQ G Z b→JQ G Z (a++b)
 |[],_,_,h=>h
 |c::cs,b,h,h'=>⟨h.1,AaF h.2 h'⟩
theorem JR:∀{a b:List (Chunk σ)},Es a=true→Es b=true→Es (a++b)=true
 |[],_,_,h=>h
 |c::cs,b,h,h'=>by
  cases c<;>simp only [Es,jU] at h ⊢ <;>first|exact JR h h'|cases h
def II:Value→DR σ→Bool
 | .pointer (some _), .obj _=>true
 |_,_=>false
theorem Xi:∀{vs:List Value} {is:List (DR σ)},(jA II vs is).all (!·)=true→BK.go vs is=[]
 |[],[],_=>by simp [BK.go]
 |[],_::_,_=>by simp [BK.go]
 |_::_,[],_=>by simp [BK.go]
 |v::vs,i::is,h=>by
  simp only [kF,List.all_cons,iG] at h
  have ih:=Xi h.2
  unfold BK.go
  split
  ·rename_i e1 e2
   simp only [jV] at e1 e2
   obtain ⟨rfl,rfl⟩:=e1
   obtain ⟨rfl,rfl⟩:=e2
   simp [II] at h
  ·rename_i e1 e2
   simp only [jV] at e1 e2
   obtain ⟨rfl,rfl⟩:=e1
   obtain ⟨rfl,rfl⟩:=e2
   exact ih
  ·rfl
mutual
theorem Sh.Al4 (ad:Nat→Ad):∀(s:Sh σ) (k j:Nat) (cs:List (Cm σ)),s.isArg=true→(s.tp ad k j cs).K.length=s.nK∧Es (s.tp ad k j cs).K=true∧∀K0 K2:List (Chunk σ),K0.length=k→Bl (K0++(s.tp ad k j cs).K++K2) (s.tp ad k j cs).v (s.tp ad k j cs).p
 | .i _,k,j,cs,_=>⟨rfl,rfl, λ_ _ _=>Ar⟩
 | .b,k,j,cs,_=>⟨rfl,rfl, λ_ _ _=>Ar⟩
 | .fn _,k,j,cs,_=>⟨rfl,rfl, λ_ _ _=>Ar⟩
 | .ro ks,k,j,cs,_=>⟨rfl,rfl, λK0 K2 hk=>Bf.2 ⟨.ro (ad j).a (lenC (Cf ks cs)) (ad j).c (Cf ks cs),by subst hk;rw [jO,iI (kC _),nW];rfl,rfl⟩⟩
 | .agg l,k,j,cs,h=>by
   obtain ⟨h1,h2,h3⟩:=Xj ad l k j cs h
   refine ⟨h1,h2, λK0 K2 hk=>?_⟩
   simp only [Sh.tp]
   exact Ip (h3 K0 K2 hk)
 | .skip,_,_,_,h=>by simp [Sh.isArg] at h
 | .ic _ _,_,_,_,h=>by simp [Sh.isArg] at h
 | .bc _,_,_,_,h=>by simp [Sh.isArg] at h
 | .tup _,_,_,_,h=>by simp [Sh.isArg] at h
 | .roc _,_,_,_,h=>by simp [Sh.isArg] at h
 | .own _ _,_,_,_,h=>by simp [Sh.isArg] at h
 | .new _ _,_,_,_,h=>by simp [Sh.isArg] at h
 | .obj _,_,_,_,h=>by simp [Sh.isArg] at h
 | .objc _ _,_,_,_,h=>by simp [Sh.isArg] at h
 | .objk _ _ _,_,_,_,h=>by simp [Sh.isArg] at h
 | .vc _,_,_,_,h=>by simp [Sh.isArg] at h
 | .nobj _,_,_,_,h=>by simp [Sh.isArg] at h
 | .box _ _,_,_,_,h=>by simp [Sh.isArg] at h
 | .boxc _ _ _,_,_,_,h=>by simp [Sh.isArg] at h
 | .objb _,_,_,_,h=>by simp [Sh.isArg] at h
 | .nxt _,_,_,_,h=>by simp [Sh.isArg] at h
 | .agn _,_,_,_,h=>by simp [Sh.isArg] at h
 | .mp _ _,_,_,_,h=>by simp [Sh.isArg] at h
 | .bm,_,_,_,h=>by simp [Sh.isArg] at h
 | .bmi,_,_,_,h=>by simp [Sh.isArg] at h
 | .agi _,_,_,_,h=>by simp [Sh.isArg] at h
 | .ago _,_,_,_,h=>by simp [Sh.isArg] at h
 | .agc _ _,_,_,_,h=>by simp [Sh.isArg] at h
 | .ags _ _,_,_,_,h=>by simp [Sh.isArg] at h
theorem Xj (ad:Nat→Ad):∀(l:List (Sh σ)) (k j:Nat) (cs:List (Cm σ)),Hr l=true→(EZ (CU ad l k j cs)).length=ER l∧Es (EZ (CU ad l k j cs))=true∧∀K0 K2:List (Chunk σ),K0.length=k→Aw (K0++EZ (CU ad l k j cs)++K2) (Ov (CU ad l k j cs)) (Xd (CU ad l k j cs))
 |[],_,_,_,_=>⟨rfl,rfl, λ_ _ _=>Em⟩
 |s::l,k,j,cs,h=>by
  simp only [Hr,iG] at h
  obtain ⟨h1,h2,h3⟩:=Sh.Al4 ad s k j cs h.1
  obtain ⟨g1,g2,g3⟩:=Xj ad l (k+s.nK) (j+s.nA) (cs.drop s.nC) h.2
  simp only [CU,EZ,Ov,Xd,ER]
  refine ⟨by rw [jP,h1,g1],JR h2 g2, λK0 K2 hk=>Dj ?_ ?_⟩
  ·have:=h3 K0 (EZ (CU ad l (k+s.nK) (j+s.nA) (cs.drop s.nC))++K2) hk
   simpa [jO] using this
  ·have:=g3 (K0++(s.tp ad k j cs).K) K2 (by rw [jP,hk,h1])
   simpa [jO] using this
end
theorem AaG {G Z:Hp}:∀vs:List Value,Ej (σ:=σ) G Z vs (Xg vs)
 |[]=>by simp [Xg,Ej]
 |v::vs=>by simp only [Xg,Ej];exact ⟨by simp [Ei],AaG vs⟩
theorem AjS {a b:List Ad} {ad:Nat→Ad} {j:Nat} (h:∀(m:Nat) x,(a++b)[m]? =some x→ad (j+m)=x):(∀(m:Nat) x,a[m]? =some x→ad (j+m)=x)∧∀(m:Nat) x,b[m]? =some x→ad (j+a.length+m)=x:=by
 refine ⟨λm x hm=>h m x ?_, λm x hm=>?_⟩
 ·rw [iH (Bv hm)];exact hm
 ·rw [mP];exact h _ x (by rw [iI (by omega)];simpa using hm)
def Acl (G Z:Hp) (s:Sh σ) (v:Value) (i:DR σ) (cs:List (Cm σ)):Prop:=
 CB s.kd cs=true∧cs.length=s.nC∧II v i=false∧BK v i=[]∧(∀rest,s.bd (cs++rest))∧∃adl:List Ad,adl.length=s.nA∧∀(ad:Nat→Ad) (k j:Nat) (rest:List (Cm σ)),(∀(m:Nat) a,adl[m]? =some a→ad (j+m)=a)→(s.tp ad k j (cs++rest)).v=v∧JQ G Z (s.tp ad k j (cs++rest)).K
def Nh (G Z:Hp) (s:Sh σ):Prop:=∀(v:Value) (i:DR σ) (cs:List (Cm σ)),s.isArg=true→s.dA v i=some cs→Ei G Z v i→Acl G Z s v i cs
theorem Xk {G Z:Hp}:∀(l:List (Sh σ)),(∀s∈l,Nh G Z s)→∀(vs:List Value) (is:List (DR σ)) (cs:List (Cm σ)),Hr l=true→Ox l vs is=some cs→Ej G Z vs is→
 CB (Hq l) cs=true∧cs.length=Nc l∧(jA II vs is).all (!·)=true∧Ia (lI vs is)=[]∧(∀rest,Xh l (cs++rest))∧∃adl:List Ad,adl.length=nAs l∧∀(ad:Nat→Ad) (k j:Nat) (rest:List (Cm σ)),(∀(m:Nat) a,adl[m]? =some a→ad (j+m)=a)→Ov (CU ad l k j (cs++rest))=vs∧JQ G Z (EZ (CU ad l k j (cs++rest)))
 |[],_,[],[],cs,_,h,_=>by
  simp only [Ox,iA] at h;subst h
  exact ⟨rfl,rfl,rfl,rfl, λ_=>trivial,[],rfl, λ_ _ _ _ _=>⟨rfl,trivial⟩⟩
 |[],_,_::_,_,_,_,h,_=>by simp [Ox] at h
 |[],_,[],_::_,_,_,h,_=>by simp [Ox] at h
 |_::_,_,[],_,_,_,h,_=>by simp [Ox] at h
 |_::_,_,_::_,[],_,_,h,_=>by simp [Ox] at h
 |s::l,H,v::vs,i::is,cs,ha,h,hi=>by
  simp only [Hr,iG] at ha
  simp only [Ej] at hi
  simp only [Ox] at h
  split at h
  ·rename_i a b e1 e2
   injection h with h;subst h
   obtain ⟨h1,h2,h3,h4,h5,adl,h6,h7⟩:=H s (by simp) v i a ha.1 e1 hi.1
   obtain ⟨g1,g2,g3,g4,g5,adl',g6,g7⟩:=Xk l (λs hs=>H s (by simp [hs])) vs is b ha.2 e2 hi.2
   have ed:∀rest:List (Cm σ),(a++b++rest).drop s.nC=b++rest:= λrest=>by
    rw [jO,←h2];exact List.drop_left
   refine ⟨AaE h1 g1,by rw [jP,h2,g2,Nc],by simp only [kF,List.all_cons,h3,g3];rfl,by simp only [mX,Ia,h4,g4];rfl, λrest=>⟨by rw [jO];exact h5 _,by rw [ed];exact g5 rest⟩,adl++adl',by rw [jP,h6,g6,nAs], λad k j rest hm=>?_⟩
   obtain ⟨m1,m2⟩:=AjS hm
   rw [h6] at m2
   obtain ⟨x1,x2⟩:=h7 ad k j (b++rest) m1
   obtain ⟨y1,y2⟩:=g7 ad (k+s.nK) (j+s.nA) rest m2
   simp only [CU,Ov,EZ,ed]
   rw [jO]
   exact ⟨by rw [x1,y1],AaF x2 y2⟩
  ·cases h
theorem AkI {G Z:Hp} {l:List (Sh σ)} (H:∀s∈l,Nh G Z s):Nh G Z (.agg l):=by
 intro v i cs ha h hi
 have key:∀(vs:Array Value) is,v= .agg vs→Ox l vs.toList is=some cs→Ej G Z vs.toList is→(BK v i=BK.go vs.toList is∨BK v i=[])→Acl G Z (.agg l) v i cs:= λvs is hv hq hj ho=>by
  subst hv
  obtain ⟨h1,h2,h3,_,h5,adl,h6,h7⟩:=Xk l H vs.toList is cs ha hq hj
  refine ⟨h1,h2,by simp [II],?_,h5,adl,h6, λad k j rest hm=>?_⟩
  ·rcases ho with ho|ho
   ·rw [ho];exact Xi h3
   ·exact ho
  ·obtain ⟨g1,g2⟩:=h7 ad k j rest hm
   refine ⟨?_,g2⟩
   simp only [Sh.tp,g1]
 cases v with
 |agg vs=>cases i with
  |none=>exact key vs _ rfl (by simpa [Sh.dA] using h) (AaG _) (.inr (by simp [BK]))
  |many is=>exact key vs is rfl (by simpa [Sh.dA] using h) (by simpa [Ei] using hi) (.inl (by simp [BK]))
  |_=>simp [Sh.dA] at h
 |_=>simp [Sh.dA] at h
theorem AlZ {G Z:Hp} {k:IntKind}:Nh (σ:=σ) G Z (.i k):=by
 intro v i cs _ h _
 cases v<;>simp only [Sh.dA] at h<;>first|cases h|skip
 rename_i k' x
 split at h
 ·rename_i e _;subst e
  injection h with h;subst h
  exact ⟨rfl,rfl,by simp [II],by simp [BK], λ_=>trivial,[],rfl, λ_ _ _ _ _=>⟨rfl,trivial⟩⟩
 ·cases h
theorem Ama {G Z:Hp}:Nh (σ:=σ) G Z .b:=by
 intro v i cs _ h _
 cases v<;>simp only [Sh.dA] at h<;>first|cases h|skip
 exact ⟨rfl,rfl,by simp [II],by simp [BK], λ_=>trivial,[],rfl, λ_ _ _ _ _=>⟨rfl,trivial⟩⟩
theorem JA:∀(ks:List (Option IntKind)) (rest:List (Cm σ)),(∀c∈Cf ks (BO ks []++rest),c.len=0)∧CB (σ:=σ) (ks.map KC) (BO ks [])=true∧(BO (σ:=σ) ks []).length=ks.length
 |[],_=>⟨λc hc=>by simp [Cf] at hc,rfl,rfl⟩
 |some k::ks,rest=>by
  obtain ⟨h1,h2,h3⟩:=JA ks rest
  refine ⟨λc hc=>?_,?_,?_⟩
  ·simp only [BO,nF,nQ,jU,Cf,iE] at hc
   rcases hc with rfl|hc
   ·cases k<;>rfl
   ·exact h1 c hc
  ·simp only [BO,nF,nQ,iC,CB,KC,Kd.fits,h2,nR]
  ·simp only [BO,nF,nQ,jI,h3]
 |none::ks,rest=>by
  obtain ⟨h1,h2,h3⟩:=JA ks rest
  refine ⟨λc hc=>?_,?_,?_⟩
  ·simp only [BO,nF,nQ,jU,Cf,iE] at hc
   rcases hc with rfl|hc
   ·rfl
   ·exact h1 c hc
  ·simp only [BO,nF,nQ,iC,CB,KC,Kd.fits,h2,nR]
  ·simp only [BO,nF,nQ,jI,h3]
theorem AaH:∀{cols:List Ak},(∀c∈cols,c.len=0)→lenC cols=0
 |[],_=>rfl
 |c::_,h=>h c (by simp)
theorem AjT {G Z:Hp} {ks:List (Option IntKind)} {v:Value} {cs:List (Cm σ)} (h:(Sh.ro (σ:=σ) ks).dA v .none=some cs):Acl (σ:=σ) G Z (.ro ks) v .none cs:=by
 have no:∀{o:Option (List (Cm σ))},o=none→o=some cs→False:= λh1 h2=>by rw [h1] at h2;cases h2
 have key:v= .slice none 0 0∧cs=BO ks []:=by
  cases v with
  |slice a m c=>
   cases a with
   |some x=>exact (no rfl h).elim
   |none=>
    cases m with
    |succ m=>exact (no rfl h).elim
    |zero=>
     cases c with
     |succ c=>exact (no rfl h).elim
     |zero=>exact ⟨rfl,(Option.some.inj (show some (BO ks [])=some cs from h)).symm⟩
  |_=>exact (no rfl h).elim
 obtain ⟨rfl,rfl⟩:=key
 refine ⟨(JA ks []).2.1,by rw [(JA ks []).2.2];rfl,by simp [II],by simp [BK], λrest=>?_,[Ad.z],rfl, λad k j rest hm=>?_⟩
 ·show lenC (Cf ks _)≤_
  rw [AaH (JA ks rest).1];decide
 ·have:=hm 0 _ rfl
  rw [nY] at this
  simp only [Sh.tp,this,AaH (JA ks rest).1]
  exact ⟨rfl,⟨⟨λc hc=>(JA ks rest).1 c hc, λi hi=>absurd hi (kX i),nU _⟩,(by cases D8 (Cf ks (BO ks []++rest))<;>first|exact kC _|exact ⟨kC _, λc _ i hi=>absurd hi (kX i)⟩)⟩,trivial⟩
theorem AkJ {G Z:Hp} {ks:List (Option IntKind)} {v:Value} {n:Nat} {cols:List Ak} {cs:List (Cm σ)} (hks:(Sh.ro (σ:=σ) ks).isArg=true) (h:(Sh.ro (σ:=σ) ks).dA v (.row n cols)=some cs) (hi:Ei (σ:=σ) G Z v (.row n cols)):Acl (σ:=σ) G Z (.ro ks) v (.row n cols) cs:=by
 have h:(bif Dk ks cols then some (BO ks cols) else none)=some cs:=by
  cases v<;>exact h
 cases hb:Dk ks cols with
 |false=>rw [hb] at h;cases h
 |true=>
  rw [hb] at h
  simp only [cond_true] at h
  injection h with h;subst h
  obtain ⟨h1,h2,h3⟩:=Jp (σ:=σ) hb
  simp only [Ei] at hi
  obtain ⟨a,c,rfl,hr,hcap,hfz⟩:=hi
  have hl:lenC cols=n:=by
   cases cols with
   |nil=>cases ks<;>first|(simp [Sh.isArg] at hks;done)|(rename_i q _;cases q<;>first|(simp [Dk] at hb;done)|(rename_i k;cases k<;>simp [Dk] at hb))
   |cons c0 cr=>exact hr.1 c0 (by simp)
  refine ⟨h2,by rw [h3];rfl,by cases a<;>simp [II],by cases a<;>simp [BK], λrest=>?_,[{Ad.z with a:=a,c:=c}],rfl, λad k j rest hm=>?_⟩
  ·show lenC (Cf ks _)≤_
   rw [(h1 rest).lenC,hl];exact hr.2.2
  ·have:=hm 0 _ rfl
   rw [nY] at this
   simp only [Sh.tp,this,(h1 rest).lenC,hl]
   have key:∀b,D8 (Cf ks (BO ks cols++rest))=b→Dl (bif b then Z else G) a n (Cf ks (BO ks cols++rest))∧(bif b then n≤c∧subs Z n (Cf ks (BO ks cols++rest)) else n≤c):= λb hf=>by
    cases b with
    |true=>exact ⟨Dl.congr (h1 rest) (hfz ((h1 rest).fz hf)).1,hcap,Agj (h1 rest) (hfz ((h1 rest).fz hf)).2⟩
    |false=>exact ⟨Dl.congr (h1 rest) hr,hcap⟩
   exact ⟨trivial,key _ rfl,trivial⟩
theorem Al5 {G Z:Hp} {ks:List (Option IntKind)}:Nh (σ:=σ) G Z (.ro ks):=by
 intro v i cs hks h hi
 cases i with
 |none=>exact AjT h
 |row n cols=>exact AkJ hks h hi
 |_=>cases v<;>simp [Sh.dA] at h
theorem Al6 {G Z:Hp} {f:Nat}:Nh (σ:=σ) G Z (.fn f):=by
 intro v i cs _ h _
 cases v with
 |func fn a b=>cases fn with
  |func g=>
   obtain ⟨a⟩:=a
   obtain ⟨b⟩:=b
   cases a<;>cases b<;>simp only [Sh.dA] at h<;>try (cases h;done)
   cases hb:iJ f g with
   |false=>rw [hb] at h;cases h
   |true=>
    rw [hb] at h
    simp only [cond_true] at h
    injection h with h;subst h
    have:=iF hb
    subst this
    exact ⟨rfl,rfl,by simp [II],by simp [BK], λ_=>trivial,[],rfl, λ_ _ _ _ _=>⟨rfl,trivial⟩⟩
  |_=>simp [Sh.dA] at h
 |_=>simp [Sh.dA] at h
theorem Sh.Agk {G Z:Hp}:∀(s:Sh σ),Nh G Z s
 | .i k=>AlZ
 | .b=>Ama
 | .fn f=>Al6
 | .ro ks=>Al5
 | .agg l=>AkI λs _=>Sh.Agk s
 | .skip=> λ_ _ _ h=>by simp [Sh.isArg] at h
 | .ic _ _=> λ_ _ _ h=>by simp [Sh.isArg] at h
 | .bc _=> λ_ _ _ h=>by simp [Sh.isArg] at h
 | .tup _=> λ_ _ _ h=>by simp [Sh.isArg] at h
 | .roc _=> λ_ _ _ h=>by simp [Sh.isArg] at h
 | .own _ _=> λ_ _ _ h=>by simp [Sh.isArg] at h
 | .new _ _=> λ_ _ _ h=>by simp [Sh.isArg] at h
 | .obj _=> λ_ _ _ h=>by simp [Sh.isArg] at h
 | .objc _ _=> λ_ _ _ h=>by simp [Sh.isArg] at h
 | .objk _ _ _=> λ_ _ _ h=>by simp [Sh.isArg] at h
 | .vc _=> λ_ _ _ h=>by simp [Sh.isArg] at h
 | .nobj _=> λ_ _ _ h=>by simp [Sh.isArg] at h
 | .box _ _=> λ_ _ _ h=>by simp [Sh.isArg] at h
 | .boxc _ _ _=> λ_ _ _ h=>by simp [Sh.isArg] at h
 | .objb _=> λ_ _ _ h=>by simp [Sh.isArg] at h
 | .nxt _=> λ_ _ _ h=>by simp [Sh.isArg] at h
 | .agn _=> λ_ _ _ h=>by simp [Sh.isArg] at h
 | .mp _ _=> λ_ _ _ h=>by simp [Sh.isArg] at h
 | .bm=> λ_ _ _ h=>by simp [Sh.isArg] at h
 | .bmi=> λ_ _ _ h=>by simp [Sh.isArg] at h
 | .agi _=> λ_ _ _ h=>by simp [Sh.isArg] at h
 | .ago _=> λ_ _ _ h=>by simp [Sh.isArg] at h
 | .agc _ _=> λ_ _ _ h=>by simp [Sh.isArg] at h
 | .ags _ _=> λ_ _ _ h=>by simp [Sh.isArg] at h
end
section
open Go.RowKit
variable {σ:Type}
structure Ct (σ:Type) where
 ob:Option (Wr σ)
 pu:Bool
 ash:List (Sh σ)
 rs:Sh σ
def okd:Option (Wr σ)→List (Kd σ)
 |none=>[]
 |some w=>[.st w]
def Amb:Option (Wr σ)→List (Sh σ)
 |none=>[]
 |some w=>[.obj w]
@[reducible] def Ct.full (c:Ct σ):List (Sh σ):=Amb c.ob++c.ash
@[reducible] def Ct.AK (c:Ct σ):List (Kd σ):=Hq c.full
@[reducible] def Ct.rob (c:Ct σ):Option (Wr σ):=bif c.pu then none else c.ob
@[reducible] def Ct.RK (c:Ct σ):List (Kd σ):=okd c.rob++c.rs.kd
def Agl (ob:Option (Wr σ)) (ash:List (Sh σ)) (args:List (Value×DR σ)):Option (List (Cm σ)):=
 match ob with
 |none=>Ox ash (args.map (·.1)) (args.map (·.2))
 |some w=>match args with
  |(.pointer (some _), .obj s)::r=>bif w.is s then (match Ox ash (r.map (·.1)) (r.map (·.2)) with
   |some cs=>some (.st s::cs)
   |none=>none) else none
  |_=>none
def AcY:Option (Wr σ)→List (Cm σ)→Option σ
 |none,_=>none
 |some w,cs=>some (w.inj ((Gn cs).stOf w))
def Agm:Option (Wr σ)→List (Cm σ)→List (Cm σ)
 |none,cs=>cs
 |some _,cs=>cs.tail
def Ct.outC (c:Ct σ) (r:Ty c.RK):List Value→Value:=c.rs.out (Agm c.rob (Jo c.RK r))
def Ct.mksC (c:Ct σ) (r:Ty c.RK):List (Mk σ):=c.rs.mks (Agm c.rob (Jo c.RK r))
def Ct.nwC (c:Ct σ) (p:Addr) (cs:List (Cm σ)) (r:Ty c.RK):List (Chunk σ):=
 match c.ob with
 |none=>[]
 |some w=>[.obj p (w.inj ((Gn (bif c.pu then cs else Jo c.RK r)).stOf w))]
def CW (c:Ct σ) (F:Jt c.AK (Ty c.RK)) (pre:Jt c.AK (List Prop)):Entry σ:= λargs=>
 match Agl c.ob c.ash args with
 |some cs=>some ⟨AA c.AK F cs, λr=>⟨AA c.AK pre cs,AcY c.rob (Jo c.RK r),c.mksC r,c.outC r,c.rs.outp⟩⟩
 |none=>none
def Al7 (c:Ct σ) (K:List (Chunk σ)):List (Cm σ):=
 match c.rob,K with
 |some _, .obj _ s::_=>[.st s]
 |some _,_=>[.b false]
 |none,_=>[]
def Ct.retR (c:Ct σ) (v:Value) (p:Pr) (K:List (Chunk σ)):Ty c.RK:=VC c.RK (Al7 c K++(c.rs.dc K v p).cs)
def Amc:Option (Wr σ)→List Nat
 |none=>[]
 |some _=>[0]
def Ct.retIs (c:Ct σ) (v:Value) (p:Pr) (K:List (Chunk σ)):List Nat:=Amc c.ob++Iw 0 (c.rs.dc K v p).is
def Ct.retAnc (c:Ct σ) (v:Value) (p:Pr) (K:List (Chunk σ)):List Anc:=(c.rs.dc K v p).ad.map λa=>(a.o,a.b,a.c,a.a)
def Ct.retTm (c:Ct σ) (p0:Addr) (cs:List (Cm σ)) (v:Value) (p:Pr) (K:List (Chunk σ)):List (Chunk σ):=c.nwC p0 cs (c.retR v p K)++jA V5 (c.mksC (c.retR v p K)) (c.retAnc v p K)
def Zh (K:List (Chunk σ)):List Nat→List (Chunk σ)→List (Option (Chunk σ))
 |i::is,c::cs=>(match K[i]? with
  |some d=>some (Acj c d)
  |none=>bif nilRow c then some (Jn c) else none)::Zh K is cs
 |_,_=>[]
def Zi:List (Chunk σ)→List (Option (Chunk σ))
 |[]=>[]
 |c::cs=>some (Jn c)::Zi cs
theorem Xl {K:List (Chunk σ)}:∀{is:List Nat} {cs:List (Chunk σ)},Zh K is cs=Zi cs→iJ is.length cs.length=true→got K is cs
 |[],[],_,_=>trivial
 |[],_::_,_,h=>by simp at h
 |_::_,[],_,h=>by simp at h
 |i::is,c::cs,h,hl=>by
  simp only [Zh,Zi,jV] at h
  refine ⟨?_,Xl h.2 (by simpa using hl)⟩
  cases hk:K[i]? with
  |none=>
   rw [hk] at h
   cases hn:nilRow c with
   |true=>exact .inr rfl
   |false=>rw [hn] at h;simp at h
  |some d=>rw [hk] at h;exact .inl (by simpa using h.1)
def Ct.roL (c:Ct σ) (p0:Addr) (cs:List (Cm σ)) (v:Value) (p:Pr) (K:List (Chunk σ)):Ob σ:=⟨[],v,[],Zh K (c.retIs v p K) (c.retTm p0 cs v p K)⟩
def Ct.roR (c:Ct σ) (p0:Addr) (cs:List (Cm σ)) (v:Value) (p:Pr) (K:List (Chunk σ)):Ob σ:=⟨[],c.outC (c.retR v p K) (jA Zb (c.mksC (c.retR v p K)) (c.retAnc v p K)),[],Zi (c.retTm p0 cs v p K)⟩
def Ct.rob_ (c:Ct σ) (p0:Addr) (cs:List (Cm σ)) (v:Value) (p:Pr) (K:List (Chunk σ)):Bool:=nodupB (c.retIs v p K)&&JP (c.mksC (c.retR v p K)) (c.retAnc v p K)&&iJ (c.retIs v p K).length (c.retTm p0 cs v p K).length
theorem Ct.WY {c:Ct σ} {p0:Addr} {cs:List (Cm σ)} {v:Value} {p:Pr} {K:List (Chunk σ)} (h:c.roL p0 cs v p K=c.roR p0 cs v p K) (hb:c.rob_ p0 cs v p K=true):
 CO (c.outC (c.retR v p K)) (c.nwC p0 cs (c.retR v p K)) (c.mksC (c.retR v p K)) v p K:=by
 simp only [Ct.rob_,iG] at hb
 simp only [Ct.roL,Ct.roR,Ob.mk.injEq] at h
 exact ⟨c.retAnc v p K,c.retIs v p K,Ij hb.1.1,hb.1.2,h.2.1,Xl h.2.2.2 hb.2⟩
def Nj (p:Addr) (ad:Nat→Ad):Nat→Ad
 |0=>{ad 0 with p:=p}
 |j+1=>ad (j+1)
def soN:List Ab→List Af→List (Chunk σ)→Ob σ:= λ_ _ _=>⟨[],undef,[],[]⟩
def Ct.treeM (c:Ct σ) (mk:List Nat) (P:Program) (T:List (Nat×Entry σ)) (I:List Nat) (fuel:Nat) (fn:Func) (B:Code) (p0:Addr) (cs:List (Cm σ)) (ad:Nat→Ad):Tree σ:=
 run P T I fuel B fn.results.toList fn.ntmps [.code []] (markL fn.ntmps mk (Di 0 (I7 (CU (Nj p0 ad) c.full 0 0 cs)))) (EZ (CU (Nj p0 ad) c.full 0 0 cs))
abbrev Ct.tree (c:Ct σ) (P:Program) (T:List (Nat×Entry σ)) (I:List Nat) (fuel:Nat) (fn:Func) (B:Code) (p0:Addr) (cs:List (Cm σ)) (ad:Nat→Ad):Tree σ:=c.treeM [] P T I fuel fn B p0 cs ad
abbrev SmT (c:Ct σ):=Ty c.RK×List (Ty c.RK)×List (Ob σ)×Bool×NT
def Ct.lhs (c:Ct σ) (p0:Addr) (cs:List (Cm σ)) (t:Tree σ) (β:BF) (γ:GF):SmT c:=
 (t.val c.retR (VC c.RK []) β γ,t.eqv c.retR (VC c.RK []) true β γ,t.obl (c.roL p0 cs) soN β γ,t.okb (c.rob_ p0 cs) (λ_ _ _=>true) β γ,t.nds β γ)
def Ct.rhs (c:Ct σ) (p0:Addr) (cs:List (Cm σ)) (t:Tree σ) (r:Ty c.RK) (N:NT) (β:BF) (γ:GF):SmT c:=
 (r,t.eqv c.retR (VC c.RK []) false β γ,t.obl (c.roR p0 cs) soN β γ,true,N)
theorem Zj:∀l:List (Tp σ),I7 l=lI (Ov l) (Xd l)
 |[]=>rfl
 |t::r=>by simp only [I7,Ov,Xd,mX,Zj r]
theorem Zk (ad:Nat→Ad):∀(l:List (Sh σ)) (k j:Nat) (cs:List (Cm σ)),(Ov (CU ad l k j cs)).length=l.length
 |[],_,_,_=>rfl
 |s::l,k,j,cs=>by simp only [CU,Ov,jI,Zk ad l]
variable (D:Addr→σ→BN)
theorem QU {c:Ct σ} {mk:List Nat} {P:Program} {T:List (Nat×Entry σ)} (hT:BD D P T) {I:List Nat} {f:FuncId} {fn:Func} {B:Code} (hfn:P.funcs[f]? =some fn) (hmix:P.follows .mixedOrders=true) (hB:fn.body=some B)
 (ha:Hr c.ash=true) (hl:jS c.full.length fn.ntmps=true) {F:Jt c.AK (Ty c.RK)} {pre:Jt c.AK (List Prop)} (fuel:Nat)
 (H:∀p0,Eh c.AK λcs=>Xh c.full cs→(∀p∈AA c.AK pre cs,p)→∀ad E G,(c.treeM mk P T I fuel fn B p0 cs ad).holds (CO (c.outC (AA c.AK F cs)) (c.nwC p0 cs (AA c.AK F cs)) (c.mksC (AA c.AK F cs)))
   (SW D P f (Post D E G (c.outC (AA c.AK F cs)) (c.nwC p0 cs (AA c.AK F cs)) (c.mksC (AA c.AK F cs))) B fn.ntmps E G)):Ep D P f (CW c F pre):=by
 intro args d r hd hr
 unfold CW at hd
 split at hd
 rotate_left
 ·cases hd
 rename_i cs hcs
 injection hd with hd;subst hd;subst hr
 refine ⟨λK acs hacs=>?_, λhpre E G w hi hS=>?_⟩
 ·have:=Sh.Af1 c.rs (Agm c.rob (Jo c.RK (AA c.AK F cs))) K [] [] acs hacs
  simp only [lF] at this
  exact this
 dsimp only at hpre hS ⊢
 unfold Agl at hcs
 cases hob:c.ob with
 |none=>
  rw [hob] at hcs
  dsimp only at hcs
  have hfull:c.full=c.ash:=by unfold Ct.full;rw [hob];rfl
  have hiv:Ej G E.z (args.map (·.1)) (args.map (·.2)):=by
   clear hcs hpre hS
   induction args with
   |nil=>simp [Ej]
   |cons x xs ih=>simp only [iC,Ej];exact ⟨hi x (by simp),ih λy hy=>hi y (by simp [hy])⟩
  obtain ⟨h1,h2,h3,h4,h5,adl,h6,h7⟩:=Xk (G:=G) (Z:=E.z) c.ash (λs _=>Sh.Agk s) _ _ _ ha hcs hiv
  have hH:=(H (Fp adl 0).p).at cs (by unfold Ct.AK;rw [hfull];exact h1) (by rw [hfull];have:=h5 [];simpa using this) hpre (Fp adl) E G
  have hadP:Nj (Fp adl 0).p (Fp adl)=Fp adl:=by funext j;cases j<;>rfl
  obtain ⟨g1,g2⟩:=h7 (Fp adl) 0 0 [] (λm a hm=>by simp [Fp,iD,hm])
  simp only [lF] at g1 g2
  obtain ⟨k1,k2,k3⟩:=Xj (Fp adl) c.ash 0 0 cs ha
  have hobjs:Ia args=[]:=by
   have:lI (args.map (·.1)) (args.map (·.2))=args:=by rw [List.zip_map'];simp
   rw [this] at h4;exact h4
  have hS0:Ae D E G w ([]:List (Chunk σ)):=by have:=hS;simp only [OO,IL,hobjs] at this;exact this
  unfold Ct.treeM at hH
  rw [hadP,hfull] at hH
  have hn:c.nwC (Fp adl 0).p cs (AA c.AK F cs)=[]:=by unfold Ct.nwC;rw [hob]
  rw [hn] at hH
  have:=NI D (mk:=mk) hT (I:=I) hfn hmix hB (Ov (CU (Fp adl) c.ash 0 0 cs)) (Xd (CU (Fp adl) c.ash 0 0 cs)) (by rw [Zk];rw [hfull] at hl;exact hl) (objs:=[]) (ros:=EZ (CU (Fp adl) c.ash 0 0 cs)) (by simpa using k3 [] [] rfl) (by simpa using k2) g2 hS0
   (out:=c.outC (AA c.AK F cs)) (nw:=[]) (rows:=c.mksC (AA c.AK F cs)) fuel rfl (by rw [←Zj];simpa using hH)
  rw [g1] at this
  exact Ha D (pre:=AA c.AK pre cs) (outp:=c.rs.outp) (by simp [JO,IL,hobjs]) this
 |some wr=>
  rw [hob] at hcs
  dsimp only at hcs
  split at hcs
  rotate_left
  ·cases hcs
  rename_i p s rs
  cases his:wr.is s with
  |false=>rw [his] at hcs;cases hcs
  |true=>
   rw [his] at hcs
   simp only [cond_true] at hcs
   split at hcs
   rotate_left
   ·cases hcs
   rename_i cs' hcs'
   injection hcs with hcs;subst hcs
   have hfull:c.full= .obj wr::c.ash:=by unfold Ct.full;rw [hob];rfl
   have hiv:Ej G E.z (rs.map (·.1)) (rs.map (·.2)):=by
    have hi':∀x∈rs,Ei G E.z x.1 x.2:= λx hx=>hi x (by simp [hx])
    clear hcs' hpre hS hi
    induction rs with
    |nil=>simp [Ej]
    |cons x xs ih=>simp only [iC,Ej];exact ⟨hi' x (by simp),ih λy hy=>hi' y (by simp [hy])⟩
   obtain ⟨h1,h2,h3,h4,h5,adl,h6,h7⟩:=Xk (G:=G) (Z:=E.z) c.ash (λs _=>Sh.Agk s) _ _ _ ha hcs' hiv
   have hH:=(H p).at (.st s::cs') (by unfold Ct.AK;rw [hfull];simp only [Hq,Sh.kd,jU,nB,CB,Kd.fits,his,h1];rfl) (by
    rw [hfull]
    refine ⟨trivial,?_⟩
    have:=h5 []
    simpa [Sh.nC] using this) hpre (λj=>Fp adl (j-1)) E G
   have had:∀(m:Nat) a,adl[m]? =some a→Nj p (λj=>Fp adl (j-1)) (1+m)=a:= λm a hm=>by
    rw [Nat.add_comm];simp [Nj,Fp,iD,hm]
   obtain ⟨g1,g2⟩:=h7 (Nj p (λj=>Fp adl (j-1))) 1 1 [] had
   simp only [lF] at g1 g2
   obtain ⟨k1,k2,k3⟩:=Xj (Nj p (λj=>Fp adl (j-1))) c.ash 1 1 cs' ha
   have hinj:wr.inj (wr.prj s)=s:=wr.ok s his
   have htp:CU (Nj p (λj=>Fp adl (j-1))) c.full 0 0 (.st s::cs')=⟨.pointer (some p), .pt 0 .obj,[.obj p s]⟩::CU (Nj p (λj=>Fp adl (j-1))) c.ash 1 1 cs':=by
    rw [hfull]
    simp only [CU,Sh.tp,Sh.nK,Sh.nA,Sh.nC,kI,Cm.stOf,hinj,mQ,mT,lH]
    rfl
   have hobjs:Ia ((kB (some p),DR.obj s)::rs)=[(p,s)]:=by
    have:lI (rs.map (·.1)) (rs.map (·.2))=rs:=by rw [List.zip_map'];simp
    rw [this] at h4;simp [Ia,BK,h4]
   have hS0:Ae D E G w [kL p s]:=by simpa [OO,IL,hobjs,Ae,den] using hS
   unfold Ct.treeM at hH
   rw [htp] at hH
   have:=NI D (mk:=mk) hT (I:=I) hfn hmix hB (.pointer (some p)::Ov (CU (Nj p (λj=>Fp adl (j-1))) c.ash 1 1 cs')) (.pt 0 .obj::Xd (CU (Nj p (λj=>Fp adl (j-1))) c.ash 1 1 cs')) (by simp only [jI,Zk];rw [hfull] at hl;exact hl) (objs:=[.obj p s]) (ros:=EZ (CU (Nj p (λj=>Fp adl (j-1))) c.ash 1 1 cs'))
    (Dj (Bf.2 ⟨.obj p s,rfl,rfl⟩) (by simpa using k3 [.obj p s] [] rfl)) (JR (a:=[.obj p s]) rfl k2) g2 hS0
    (out:=c.outC (AA c.AK F (.st s::cs'))) (nw:=c.nwC p (.st s::cs') (AA c.AK F (.st s::cs'))) (rows:=c.mksC (AA c.AK F (.st s::cs'))) fuel rfl (by
      simp only [I7,EZ,jU,nB] at hH
      rw [Zj] at hH
      exact hH)
   rw [g1] at this
   have hn:(c.nwC p (.st s::cs') (AA c.AK F (.st s::cs'))).map (den D G)=JO D ((kB (some p),DR.obj s)::rs) (AcY c.rob (Jo c.RK (AA c.AK F (.st s::cs')))):=by
    unfold JO IL
    rw [hobjs]
    unfold Ct.nwC
    rw [hob]
    dsimp only
    cases hpu:c.pu with
    |true=>
     have:c.rob=none:=by unfold Ct.rob;rw [hpu];rfl
     rw [this]
     simp only [cond_true,kI,Cm.stOf,hinj,iC,jZ,den,AcY,Option.getD_none]
    |false=>
     have:c.rob=some wr:=by unfold Ct.rob;rw [hpu,hob];rfl
     rw [this]
     simp only [cond_false,iC,jZ,den,AcY,lG]
   exact Ha D (pre:=AA c.AK pre (.st s::cs')) (outp:=c.rs.outp) hn this
theorem Fv {c:Ct σ} {P:Program} {T:List (Nat×Entry σ)} (hT:BD D P T) {I:List Nat} {f:FuncId} {fn:Func} {B:Code} (hfn:P.funcs[f]? =some fn) (hmix:P.follows .mixedOrders=true) (hB:fn.body=some B)
 (ha:Hr c.ash=true) (hl:jS c.full.length fn.ntmps=true) {F:Jt c.AK (Ty c.RK)} {pre:Jt c.AK (List Prop)} (fuel:Nat)
 (H:∀p0,Eh c.AK λcs=>Xh c.full cs→(∀p∈AA c.AK pre cs,p)→∃(r:Ty c.RK) (N:NT),(∀ad β γ,c.lhs p0 cs (c.tree P T I fuel fn B p0 cs ad) β γ=c.rhs p0 cs (c.tree P T I fuel fn B p0 cs ad) r N β γ)∧N.holds∧r=AA c.AK F cs):Ep D P f (CW c F pre):=by
 refine QU D (mk:=[]) hT (I:=I) hfn hmix hB ha hl fuel λp0=>?_
 have key:∀{ks:List (Kd σ)} {p q:List (Cm σ)→Prop},(∀cs,p cs→q cs)→Eh ks p→Eh ks q:=by
  intro ks
  induction ks with
  |nil=>exact λh hp=>h [] hp
  |cons k ks ih=>exact λh hp a=>ih (λcs=>h _) (hp a)
 refine key (λcs hH hb hp ad E G=>?_) (H p0)
 obtain ⟨r,N,h1,h2,rfl⟩:=hH hb hp
 refine Tree.F9 (R:= λr v p K=>CO (c.outC r) (c.nwC p0 cs r) (c.mksC r) v p K) (lf:=c.retR) (d:=VC c.RK []) (roL:=c.roL p0 cs) (roR:=c.roR p0 cs) (Kt:=soN) (Ku:=soN) (rb:=c.rob_ p0 cs) (sb:= λ_ _ _=>true) (λv p K=>Ct.WY) _ _
  (λβ γ=>congrArg (·.1) (h1 ad β γ)) (λβ γ=>congrArg (·.2.1) (h1 ad β γ)) (λβ γ=>congrArg (·.2.2.1) (h1 ad β γ)) (λβ γ=>congrArg (·.2.2.2.1) (h1 ad β γ)) (λβ γ=>?_)
 have:NT.holds _=NT.holds _:=congrArg (λx=>NT.holds x.2.2.2.2) (h1 ad β γ)
 dsimp only [Ct.lhs,Ct.rhs] at this
 rw [this];exact h2
end
section
open Go.RowKit
variable {σ:Type}
structure Hd (σ:Type) where
 ops:Option Nat
 p:List Nat
 td:List Ab
 slots:List Nat
 shs:List (Sh σ)
def Hd.tds (h:Hd σ):List Ab:=
 match h.ops with
 |none=> .code (0::h.p):: .again h.p::h.td
 |some i=>bif iJ i 900 then .code h.p::h.td else .ops h.p i::h.td
def Hd.stp (h:Hd σ) (I:List Nat):List Nat:=
 match h.ops with
 |none=>I
 |some i=>I.filter λx=>!(iJ x (Ach h.p i))
def Ahw:List Nat→List (Tp σ)→List Af
 |s::ss,t::ts=>⟨s,none,t.v,t.p⟩::Ahw ss ts
 |_,_=>[]
def Hd.L (h:Hd σ) (ad:Nat→Ad) (cs:List (Cm σ)):List Af:=Ahw h.slots (CU ad h.shs 0 0 cs)
def Hd.K (h:Hd σ) (ad:Nat→Ad) (cs:List (Cm σ)):List (Chunk σ):=EZ (CU ad h.shs 0 0 cs)
@[reducible] def Hd.kd (h:Hd σ):List (Kd σ):=Hq h.shs
def isNil (v:Value) (p:Pr):Bool:=
 match p with
 | .no=>match v with
   | .slice none 0 0=>true
   |_=>false
 |_=>false
def DU (k:Nat):Nat→List (Sh σ)→List (Chunk σ)→List (Chunk σ)
 |off, .own t ks::l,K=>match K[k]? with
  |some (.cells _ _ cs)=>match cs[off]? with
   |some x=>bif isNil x.1 x.2&&nilRow (σ:=σ) (.row none t 0 0 (Cf (σ:=σ) ks [])) then DU k (off+1) l (Ot K k off++[.row none t 0 0 (Cf (σ:=σ) ks [])]) else DU k (off+1) l K
   |_=>DU k (off+1) l K
  |_=>DU k (off+1) l K
 |off, .ro ks::l,K=>bif Ack ks then (match K[k]? with
  |some (.cells _ _ cs)=>match cs[off]? with
   |some x=>match x.2 with
    | .pt k' .slice=>DU k (off+1) l (fzAt K k')
    |_=>bif isNil x.1 x.2 then DU k (off+1) l (fzAt (Ot K k off++[.row none 0 0 0 [.ints .i64 []]]) (Ot K k off).length) else DU k (off+1) l K
   |_=>DU k (off+1) l K
  |_=>DU k (off+1) l K) else DU k (off+1) l K
 |off,_::l,K=>DU k (off+1) l K
 |_,[],K=>K
def Agn (s:Nat) (sh:Sh σ) (L:List Af) (K:List (Chunk σ)):List Af×List (Chunk σ):=
 match sh with
 | .own t ks=>match look L s with
   |some e=>bif isNil e.v e.p&&nilRow (σ:=σ) (.row none t 0 0 (Cf (σ:=σ) ks [])) then (Ho s K.length L,K++[.row none t 0 0 (Cf (σ:=σ) ks [])]) else (L,K)
   |_=>(L,K)
 | .ro ks=>bif Ack ks then (match look L s with
   |some e=>match e.p with
    | .pt k .slice=>(L,fzAt K k)
    |_=>bif isNil e.v e.p then (Ho s K.length L,fzAt (K++[.row none 0 0 0 [.ints .i64 []]]) K.length) else (L,K)
   |_=>(L,K)) else (L,K)
 | .box _ l=>match look L s with
   |some e=>match e.p with
    | .pt k (.cell 0)=>(L,DU k 0 l K)
    |_=>(L,K)
   |_=>(L,K)
 |_=>(L,K)
def NJ:List Nat→List (Sh σ)→List Af→List (Chunk σ)→List Af×List (Chunk σ)
 |s::ss,sh::shs,L,K=>match Agn s sh L K with
  |(L',K')=>NJ ss shs L' K'
 |_,_,L,K=>(L,K)
def AkK (L:List Af):List Nat→List Value
 |[]=>[]
 |s::r=>(match look L s with|some e=>e.v|none=>undef)::AkK L r
def AkL (L:List Af):List Nat→List Pr
 |[]=>[]
 |s::r=>(match look L s with|some e=>e.p|none=> .no)::AkL L r
def AcZ:List Nat→List Nat→Bool
 |[],[]=>true
 |a::r,b::s=>iJ a b&&AcZ r s
 |_,_=>false
def Hd.at (h:Hd σ) (td:List Ab):Bool:=
 match h.ops,td with
 |none, .code q::_=>AcZ h.p q
 |none, .again q::_=>AcZ h.p q
 |some i, .ops q k::_=>AcZ h.p q&&iJ i k
 |some i, .code q::_=>iJ i 900&&AcZ h.p q
 |_,_=>false
def Hd.leafTd (h:Hd σ) (td:List Ab):List Ab:=
 match h.ops,td with
 |some i,_=>bif iJ i 900 then .code h.p::h.td else .ops h.p i::h.td
 |none, .again _::_=> .again h.p::h.td
 |none,_=> .code h.p::h.td
def Lj:List (Hd σ)→Nat→List Ab→Option (Nat×Hd σ)
 |[],_,_=>none
 |h::r,j,td=>bif h.at td then some (j,h) else Lj r (j+1) td
theorem AaI:∀{hs:List (Hd σ)} {m:Nat} {td:List Ab} {j:Nat} {h:Hd σ},Lj hs m td=some (j,h)→∃i,j=m+i∧hs[i]? =some h
 |[],_,_,_,_,h=>by simp [Lj] at h
 |h0::r,m,td,j,h,he=>by
  simp only [Lj] at he
  cases hb:h0.at td with
  |true=>rw [hb] at he;simp at he;exact ⟨0,by omega,by simp [he.2]⟩
  |false=>
   rw [hb] at he
   obtain ⟨i,h1,h2⟩:=AaI (by simpa using he)
   exact ⟨i+1,by omega,by simpa using h2⟩
def Hd.dec (h:Hd σ) (L:List Af) (K:List (Chunk σ)):Dc σ:=dcs K h.shs (AkK L h.slots) (AkL L h.slots)
def hdL (h:Hd σ) (td:List Ab) (L:List Af) (K:List (Chunk σ)):Ob σ:=
 ⟨td,undef,Ze (Iw 0 (h.dec L K).is) (Na h.slots L),(V8 (Iw 0 (h.dec L K).is) K).map some⟩
def hdR (h:Hd σ) (td:List Ab) (L:List Af) (K:List (Chunk σ)):Ob σ:=
 ⟨h.leafTd td,undef,h.L (Fp (h.dec L K).ad) (h.dec L K).cs,(h.K (Fp (h.dec L K).ad) (h.dec L K).cs).map some⟩
def Kt (hs:List (Hd σ)) (td:List Ab) (L:List Af) (K:List (Chunk σ)):Ob σ:=
 match Lj hs 0 td with
 |none=>⟨[],undef,[],[]⟩
 |some (_,h)=>match NJ h.slots h.shs L K with
  |(L',K')=>hdL h td L' K'
def Ku (hs:List (Hd σ)) (td:List Ab) (L:List Af) (K:List (Chunk σ)):Ob σ:=
 match Lj hs 0 td with
 |none=>⟨[],undef,[],[]⟩
 |some (_,h)=>match NJ h.slots h.shs L K with
  |(L',K')=>hdR h td L' K'
def Oy (hs:List (Hd σ)) (td:List Ab) (L:List Af) (K:List (Chunk σ)):Bool:=
 match Lj hs 0 td with
 |none=>true
 |some (_,h)=>match NJ h.slots h.shs L K with
  |(L',K')=>nodupB (Iw 0 (h.dec L' K').is)&&CB h.kd (h.dec L' K').cs
def PN (hs:List (Hd σ)) (Q:Nat→List (Cm σ)→Prop) (td:List Ab) (L:List Af) (K:List (Chunk σ)):Prop:=
 match Lj hs 0 td with
 |none=>False
 |some (j,h)=>match NJ h.slots h.shs L K with
  |(L',K')=>Q j (h.dec L' K').cs
def hcode (B:Code):List (Hd σ)→List Code
 |[]=>[]
 |h::r=>(match h.ops with
  |none=>sub B h.p
  |some _=> .skip)::hcode B r
def Gp (B:Code):List (Hd σ)→List Code
 |[]=>[]
 |h::r=>(match h.ops with
  |none=> .loop (sub B (0::h.p))
  |some _=> .skip)::Gp B r
theorem QV {B:Code}:∀{hs:List (Hd σ)} {j:Nat} {h:Hd σ},hcode B hs=Gp B hs→hs[j]? =some h→h.ops=none→Code.loop (sub B (0::h.p))=sub B h.p
 |[],_,_,_,h,_=>by simp at h
 |h0::r,0,h,he,hg,ho=>by
  simp at hg;subst hg
  simp only [hcode,Gp,jV] at he
  rw [ho] at he
  exact he.1.symm
 |h0::r,j+1,h,he,hg,ho=>by
  simp only [hcode,Gp,jV] at he
  exact QV he.2 (by simpa using hg) ho
variable (D:Addr→σ→BN)
section
variable {P:Program} {f:FuncId} {R:Ending→World→Prop} {B:Code} {n:Nat} {E:Ev} {G:Hp} {td:List Ab}
theorem Ee {k:Nat} {L:List Af}:∀(l:List (Sh σ)) (off:Nat) (K:List (Chunk σ)),SW D P f R B n E G td L (DU k off l K)→SW D P f R B n E G td L K
 |[],_,_,h=>by simpa [DU] using h
 |s::l,off,K,h=>by
  cases s with
  |own t ks=>
   simp only [DU] at h
   split at h
   ·split at h
    ·rename_i x _
     cases hn:(isNil x.1 x.2&&nilRow (σ:=σ) (.row none t 0 0 (Cf (σ:=σ) ks []))) with
     |true=>rw [hn] at h;simp only [iG] at hn;exact SW.AkD D k off t _ hn.2 (Ee l _ _ h)
     |false=>rw [hn] at h;exact Ee l _ _ h
    ·exact Ee l _ _ h
   ·exact Ee l _ _ h
  |ro ks=>
   simp only [DU] at h
   cases hz:Ack ks with
   |false=>rw [hz] at h;exact Ee l _ _ h
   |true=>
    rw [hz] at h
    simp only [cond_true] at h
    split at h
    ·split at h
     ·rename_i x _
      split at h
      ·exact SW.fzAt D _ (Ee l _ _ h)
      ·cases hn:isNil x.1 x.2 with
       |true=>rw [hn] at h;exact SW.AkD D k off 0 [.ints .i64 []] rfl (SW.fzAt D _ (Ee l _ _ h))
       |false=>rw [hn] at h;exact Ee l _ _ h
     ·exact Ee l _ _ h
    ·exact Ee l _ _ h
  |_=>simp only [DU] at h;exact Ee l _ _ h
theorem AjU {s:Nat} {sh:Sh σ} {L L':List Af} {K K':List (Chunk σ)} (he:Agn s sh L K=(L',K')) (h:SW D P f R B n E G td L' K'):SW D P f R B n E G td L K:=by
 unfold Agn at he
 split at he
 ·rename_i t ks
  split at he
  ·rename_i e _
   cases hn:(isNil e.v e.p&&nilRow (σ:=σ) (.row none t 0 0 (Cf (σ:=σ) ks []))) with
   |true=>rw [hn] at he;simp at he;rw [←he.1,←he.2] at h;simp only [iG] at hn;exact SW.nil D s t _ hn.2 h
   |false=>rw [hn] at he;simp at he;rw [←he.1,←he.2] at h;exact h
  ·simp at he;rw [←he.1,←he.2] at h;exact h
 ·rename_i ks
  cases hz:Ack ks with
  |false=>rw [hz] at he;simp at he;rw [←he.1,←he.2] at h;exact h
  |true=>
   rw [hz] at he
   simp only [cond_true] at he
   split at he
   ·rename_i e _
    split at he
    ·simp at he;rw [←he.1,←he.2] at h;exact SW.fzAt D _ h
    ·cases hn:isNil e.v e.p with
     |true=>rw [hn] at he;simp at he;rw [←he.1,←he.2] at h;exact SW.nil D s 0 [.ints .i64 []] rfl (SW.fzAt D _ h)
     |false=>rw [hn] at he;simp at he;rw [←he.1,←he.2] at h;exact h
   ·simp at he;rw [←he.1,←he.2] at h;exact h
 ·split at he
  ·split at he
   ·simp at he;rw [←he.1,←he.2] at h;exact Ee D _ _ _ h
   ·simp at he;rw [←he.1,←he.2] at h;exact h
  ·simp at he;rw [←he.1,←he.2] at h;exact h
 ·simp at he;rw [←he.1,←he.2] at h;exact h
theorem Af2:∀{ss:List Nat} {shs:List (Sh σ)} {L L':List Af} {K K':List (Chunk σ)},NJ ss shs L K=(L',K')→SW D P f R B n E G td L' K'→SW D P f R B n E G td L K
 |[],_,L,L',K,K',he,h=>by simp only [NJ,iM] at he;rw [←he.1,←he.2] at h;exact h
 |_::_,[],L,L',K,K',he,h=>by simp only [NJ,iM] at he;rw [←he.1,←he.2] at h;exact h
 |s::ss,sh::shs,L,L',K,K',he,h=>by
  simp only [NJ] at he
  cases e:Agn s sh L K with
  |mk L1 K1=>rw [e] at he;exact AjU D e (Af2 he h)
theorem Xm {hs:List (Hd σ)} {Q:Nat→List (Cm σ)→Prop} {L:List Af} {K:List (Chunk σ)} (hc:hcode B hs=Gp B hs) (he:Kt hs td L K=Ku hs td L K) (hb:Oy hs td L K=true) (hq:PN hs Q td L K)
 (H:∀j h,hs[j]? =some h→∀cs,CB h.kd cs=true→Q j cs→∀ad,SW D P f R B n E G h.tds (h.L ad cs) (h.K ad cs)):SW D P f R B n E G td L K:=by
 unfold Kt Ku at he
 unfold Oy at hb
 unfold PN at hq
 cases hf:Lj hs 0 td with
 |none=>rw [hf] at hq;exact hq.elim
 |some x=>
  obtain ⟨j,h⟩:=x
  rw [hf] at he hb hq
  dsimp only at he hb hq
  obtain ⟨i,hi,hg⟩:=AaI hf
  rw [lH] at hi
  subst hi
  cases en:NJ h.slots h.shs L K with
  |mk L1 K1=>
   rw [en] at he hb hq
   dsimp only at he hb hq
   simp only [iG] at hb
   simp only [hdL,hdR,Ob.mk.injEq] at he
   have hK:V8 (Iw 0 (h.dec L1 K1).is) K1=h.K (Fp (h.dec L1 K1).ad) (h.dec L1 K1).cs:=by
    have:=he.2.2.2
    exact (List.map_inj_right (λ_ _ h=>Option.some.inj h)).1 this
   have hsw:=H _ h hg (h.dec L1 K1).cs hb.2 hq (Fp (h.dec L1 K1).ad)
   refine Af2 D en (SW.move D h.slots (Iw 0 (h.dec L1 K1).is) (Ij hb.1) he.2.2.1 hK ?_)
   rw [he.1]
   unfold Hd.leafTd
   unfold Hd.tds at hsw
   cases ho:h.ops with
   |some i=>rw [ho] at hsw;exact hsw
   |none=>
    rw [ho] at hsw
    have hcd:=QV hc hg ho
    split
    ·rename_i e;cases e
    ·exact SW.again D hsw
    ·exact SW.enter D hcd hsw
end
def lx (x y:Nat×Nat×Nat):Prop:=x.1<y.1∨(x.1=y.1∧(x.2.1<y.2.1∨(x.2.1=y.2.1∧x.2.2<y.2.2)))
theorem Ahx {C:Nat×Nat×Nat→Prop} (h:∀x,(∀y,lx y x→C y)→C x):∀x,C x:=by
 have h3:∀a,(∀a',a'<a→∀b c,C (a',b,c))→∀b,(∀b',b'<b→∀c,C (a,b',c))→∀c,C (a,b,c):=by
  intro a ha b hb c
  induction c using nT with
  |_ c ih=>
   refine h _ λy hy=>?_
   obtain ⟨y1,y2,y3⟩:=y
   rcases hy with hy|⟨e,hy|⟨e2,hy⟩⟩
   ·exact ha _ hy _ _
   ·simp only at e hy;subst e;exact hb _ hy _
   ·simp only at e e2 hy;subst e;subst e2;exact ih _ hy
 have h2:∀a,(∀a',a'<a→∀b c,C (a',b,c))→∀b c,C (a,b,c):=by
  intro a ha b
  induction b using nT with
  |_ b ih=>exact h3 a ha b ih
 have h1:∀a b c,C (a,b,c):=by
  intro a
  induction a using nT with
  |_ a ih=>exact h2 a ih
 exact λx=>h1 x.1 x.2.1 x.2.2
abbrev SmW (σ:Type):=Prop×List (Ob σ)×Bool
def Ct.lhsW (c:Ct σ) (p0:Addr) (cs:List (Cm σ)) (hs:List (Hd σ)) (R:Ty c.RK→Prop) (Q:Nat→List (Cm σ)→Prop) (t:Tree σ) (β:BF) (γ:GF):SmW σ:=
 (t.wp (λv p K=>R (c.retR v p K)) (PN hs Q) β γ,t.obl (c.roL p0 cs) (Kt hs) β γ,t.okb (c.rob_ p0 cs) (Oy hs) β γ)
def Ct.rhsW (c:Ct σ) (p0:Addr) (cs:List (Cm σ)) (hs:List (Hd σ)) (t:Tree σ) (W:Prop) (β:BF) (γ:GF):SmW σ:=
 (W,t.obl (c.roR p0 cs) (Ku hs) β γ,true)
theorem Af3 {c:Ct σ} {p0:Addr} {cs:List (Cm σ)} {hs:List (Hd σ)} {r0:Ty c.RK} {Q:Nat→List (Cm σ)→Prop} {t:Tree σ} {W:Prop} (h:∀β γ,c.lhsW p0 cs hs (λr=>r=r0) Q t β γ=c.rhsW p0 cs hs t W β γ) (hW:W)
 {P:Program} {f:FuncId} {R:Ending→World→Prop} {B:Code} {n:Nat} {E:Ev} {G:Hp} (hc:hcode B hs=Gp B hs) (H:∀j h,hs[j]? =some h→∀x,CB h.kd x=true→Q j x→∀ad,SW D P f R B n E G h.tds (h.L ad x) (h.K ad x)):
 t.holds (CO (c.outC r0) (c.nwC p0 cs r0) (c.mksC r0)) (SW D P f R B n E G):=by
 refine Tree.FP (RQ:= λv p K=>c.retR v p K=r0) (SQ:=PN hs Q) (roL:=c.roL p0 cs) (roR:=c.roR p0 cs) (Kt:=Kt hs) (Ku:=Ku hs) (rb:=c.rob_ p0 cs) (sb:=Oy hs)
  (λv p K h1 h2 h3=>by have:=Ct.WY h1 h2;rw [h3] at this;exact this) (λtd L K h1 h2 h3=>Xm D hc h1 h2 h3 H) t (λβ γ=>?_) (λβ γ=>congrArg (·.2.1) (h β γ)) (λβ γ=>congrArg (·.2.2) (h β γ))
 have:t.wp (λv p K=>c.retR v p K=r0) (PN hs Q) β γ=W:=congrArg (·.1) (h β γ)
 rw [this];exact hW
def Ada (c:Ct σ) (P:Program) (T:List (Nat×Entry σ)) (I:List Nat) (fuel:Nat) (fn:Func) (B:Code) (p0:Addr) (cs:List (Cm σ)) (hs:List (Hd σ)) (r0:Ty c.RK) (Inv:Nat→List (Cm σ)→Prop) (ms:Nat→List (Cm σ)→Nat×Nat×Nat):List (Hd σ)→Nat→Prop
 |[],_=>True
 |h::r,j=>(Eh h.kd λx=>Inv j x→∃W:Prop,(∀ad β γ,c.lhsW p0 cs hs (λr=>r=r0) (λj' x'=>Inv j' x'∧lx (ms j' x') (ms j x)) (run P T (h.stp I) fuel B fn.results.toList fn.ntmps h.tds (h.L ad x) (h.K ad x)) β γ=
   c.rhsW p0 cs hs (run P T (h.stp I) fuel B fn.results.toList fn.ntmps h.tds (h.L ad x) (h.K ad x)) W β γ)∧W)∧Ada c P T I fuel fn B p0 cs hs r0 Inv ms r (j+1)
theorem Xn {c:Ct σ} {P:Program} {T:List (Nat×Entry σ)} {I:List Nat} {fuel:Nat} {fn:Func} {B:Code} {p0:Addr} {cs:List (Cm σ)} {hs:List (Hd σ)} {r0:Ty c.RK} {Inv:Nat→List (Cm σ)→Prop} {ms:Nat→List (Cm σ)→Nat×Nat×Nat}:∀{l:List (Hd σ)} {m:Nat} {i:Nat} {h:Hd σ},Ada c P T I fuel fn B p0 cs hs r0 Inv ms l m→l[i]? =some h→
 Eh h.kd λx=>Inv (m+i) x→∃W:Prop,(∀ad β γ,c.lhsW p0 cs hs (λr=>r=r0) (λj' x'=>Inv j' x'∧lx (ms j' x') (ms (m+i) x)) (run P T (h.stp I) fuel B fn.results.toList fn.ntmps h.tds (h.L ad x) (h.K ad x)) β γ=
  c.rhsW p0 cs hs (run P T (h.stp I) fuel B fn.results.toList fn.ntmps h.tds (h.L ad x) (h.K ad x)) W β γ)∧W
 |[],_,_,_,_,h=>by simp at h
 |h0::r,m,0,h,hs,hg=>by simp at hg;subst hg;exact hs.1
 |h0::r,m,i+1,h,hs,hg=>by
  have:=Xn hs.2 (i:=i) (by simpa using hg)
  rw [show m+1+i=m+(i+1) by omega] at this
  exact this
theorem Kv {c:Ct σ} {P:Program} {T:List (Nat×Entry σ)} (hT:BD D P T) {I:List Nat} {f:FuncId} {fn:Func} {B:Code} (hfn:P.funcs[f]? =some fn) (hmix:P.follows .mixedOrders=true) (hB:fn.body=some B)
 (ha:Hr c.ash=true) (hl:jS c.full.length fn.ntmps=true) {F:Jt c.AK (Ty c.RK)} {pre:Jt c.AK (List Prop)} (fuel:Nat)
 (H:∀p0,Eh c.AK λcs=>Xh c.full cs→(∀p∈AA c.AK pre cs,p)→∃(hs:List (Hd σ)) (Inv:Nat→List (Cm σ)→Prop) (ms:Nat→List (Cm σ)→Nat×Nat×Nat),hcode B hs=Gp B hs∧
   (∃W:Prop,(∀ad β γ,c.lhsW p0 cs hs (λr=>r=AA c.AK F cs) Inv (c.tree P T I fuel fn B p0 cs ad) β γ=c.rhsW p0 cs hs (c.tree P T I fuel fn B p0 cs ad) W β γ)∧W)∧
   Ada c P T I fuel fn B p0 cs hs (AA c.AK F cs) Inv ms hs 0):Ep D P f (CW c F pre):=by
 refine QU D (mk:=[]) hT (I:=I) hfn hmix hB ha hl fuel λp0=>?_
 have key:∀{ks:List (Kd σ)} {p q:List (Cm σ)→Prop},(∀cs,p cs→q cs)→Eh ks p→Eh ks q:=by
  intro ks
  induction ks with
  |nil=>exact λh hp=>h [] hp
  |cons k ks ih=>exact λh hp a=>ih (λcs=>h _) (hp a)
 refine key (λcs hH hb hp ad E G=>?_) (H p0)
 obtain ⟨hs,Inv,ms,hc,⟨W,hW,hW'⟩,hst⟩:=hH hb hp
 have loop:∀x:Nat×Nat×Nat,∀j h,hs[j]? =some h→∀s,CB h.kd s=true→Inv j s→ms j s=x→∀ad,SW D P f (Post D E G (c.outC (AA c.AK F cs)) (c.nwC p0 cs (AA c.AK F cs)) (c.mksC (AA c.AK F cs))) B fn.ntmps E G h.tds (h.L ad s) (h.K ad s):=by
  refine Ahx λx ih j h hg s hf hI hm ad=>?_
  have hq:=Xn hst hg
  rw [lH] at hq
  obtain ⟨W1,hW1,hW2⟩:=hq.at s hf hI
  exact SW.go D hT (I:=h.stp I) hfn hmix fuel rfl (Af3 D (hW1 ad) hW2 hc λj' h' hg' s' hf' hI' ad'=>ih _ (by rw [←hm];exact hI'.2) j' h' hg' s' hf' hI'.1 rfl ad')
 exact Af3 D (hW ad) hW' hc λj h hg s hf hI ad=>loop _ j h hg s hf hI rfl ad
theorem Ahy {c:Ct σ} {P:Program} {f:FuncId} {F:Jt c.AK (Ty c.RK)} {pre:Jt c.AK (List Prop)} (h:Ep D P f (CW c F pre)) (args:List (Value×DR σ)) (cs:List (Cm σ)) (hc:Agl c.ob c.ash args=some cs) (v:Value) (hv:c.outC (AA c.AK F cs) []=v) (hm:c.mksC (AA c.AK F cs)=[]) (ho:IL args=none)
 (hpre:∀p∈AA c.AK pre cs,p) {E:Ev} {G:Hp} {w:World} (hi:∀x∈args,Ei G E.z x.1 x.2) (hS:Sat E G w []):Calls P f (args.map (·.1)).toArray w (λen w'=>en= .returned v∧Sat E G w' []):=by
 have he:CW c F pre args=some ⟨AA c.AK F cs, λr=>⟨AA c.AK pre cs,AcY c.rob (Jo c.RK r),c.mksC r,c.outC r,c.rs.outp⟩⟩:=by unfold CW;rw [hc]
 have:=(h args _ _ he rfl).2 hpre E G w hi (by simpa [OO,ho] using hS)
 refine this.mono λen w' ⟨acs,h1,h2,h3⟩=>?_
 dsimp only at h1 h2 h3
 rw [hm] at h1 h2 h3
 cases acs with
 |nil=>exact ⟨by rw [h2,←hv];rfl,by simpa [JO,ho] using h3⟩
 |cons _ _=>exact h1.elim
abbrev tw_ (A:Prop):Prop:=A∧A
abbrev A8 (p A:Prop):Prop:=p∧(p→A)
abbrev Bo (c:Bool) (A B:Prop):Prop:=(c=true→A)∧(c=false→B)
theorem nd_ {p:Prop} (h:p:=by first|assumption|omega|trivial|rfl|decide):p:=h
theorem Cb {x y:Nat×Nat×Nat} (h:lx x y:=by first|exact Or.inl (by omega)|exact Or.inr ⟨by omega,Or.inl (by omega)⟩|exact Or.inr ⟨by omega,Or.inr ⟨by omega,by omega⟩⟩|(unfold lx;dsimp only;omega)):lx x y:=h
end
end Go.Sl
