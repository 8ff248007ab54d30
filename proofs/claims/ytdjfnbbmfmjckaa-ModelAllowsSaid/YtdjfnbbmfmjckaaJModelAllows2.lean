/-
  DERIVED. Part 2 of the texts of this claim.
-/
import Derived.Test.YtdjfnbbmfmjckaaJModelAllows1
import Derived.Maps.AppendAt
import Derived.ProofKit
import Derived.Lib.SmallJoins
import Derived.Deep.Slices
import Derived.OpenShut
import Derived.Shelf.SlSortCmp.WholeK
import Derived.Test.YtdjfnbbmfmjckaaProg
set_option linter.unusedSimpArgs false
set_option linter.unusedVariables false
open Option.some renaming injEq → iA
open List renaming getD_eq_getElem?_getD → iC, map_cons → iD, mem_cons → iG, length → iH, getElem?_append_left → iI, getElem?_append_right → iJ, getElem?_eq_getElem → iK, getElem?_map → iM, getElem?_set_self → iT, mem_of_getElem? → iV, getElem?_set_ne → iW, zipWith → jA, map_append → jD, getElem?_eq_none → jE, getElem?_cons_zero → jH, length_cons → jJ, length_append → jL, all_eq_true → jN, append_assoc → jP, range → jQ, mem_singleton → jR, getElem?_concat_length → jT, map_set → jU, length_map → jV, cons_append → jX, map_nil → kD, getElem?_take → kJ, zipWith_cons_cons → kK, mem_map → kN, getElem?_cons_succ → kO, headD_cons → kP, getElem?_of_mem → kT, mem_range → kV, append_nil → kZ, ext_getElem? → lB, tail_cons → lE, nodup_cons → lF, any_eq_true → lH, zip → lI, map_map → lJ, getElem?_drop → lN, map_congr_left → lR, length_singleton → lV, length_take → lW, mem_filter → mD, length_nil → mE, take_length → mH, zip_cons_cons → mL, drop_zero → mN, singleton_append → mO, drop_succ_cons → mY, nodup_range → mZ, reverse_singleton → nG, nil_append → nI, getElem?_toArray → nL, headD_nil → nP, map_toArray → nU, getElem?_range → nZ, tail_nil → oB
open Bool renaming and_eq_true → iE, false_or → jW, not_true → kL, false_eq_true → kQ, true_or → kS, not_eq_true' → kU, eq_iff_iff → mS, and_self → oC, and_false → oJ, true_and → oO
open Nat renaming eq_of_beq_eq_true → iF, beq → iL, le_of_ble_eq_true → iQ, lt_or_ge → jB, ble → jS, le_refl → jY, not_lt_zero → kB, mul_le_mul_right → kF, zero_add → lD, le_trans → lZ, mod_lt → mB, blt → mF, eq_zero_or_pos → mK, succ_mul → mU, add_assoc → mX, sub_self → nF, mul_comm → nQ, beq_refl → nT, strongRecOn → oD, zero_le → oE, add_zero → oG
open Prod.mk renaming injEq → iP
open Go.Sem renaming run_bind → iR, run_pure → iY
open Option renaming map_some → iS, getD_some → lM, map_none → nH
open Go.Region renaming ready → iU, wanted → iZ, lexB → oF
open Go.Value renaming pointer → kA
open Array renaming getD_eq_getD_getElem? → jC, getElem?_eq_getElem → jM, getElem?_eq_none → kE, getElem?_setIfInBounds → kW, length_toList → lS, toList_map → lY, replicate → mT, toArray_toList → mW
open Go.Sl.Chunk renaming cells → jG, obj → kR, bm → kX, row → lA
open Go.Region.linearise renaming go → jO
open List.cons renaming injEq → jZ
open Go.Sl.Pr renaming pt → lG
namespace Go.Sl
section
open Go.RowKit
variable {σ:Type} (D:Addr→σ→CZ)
section
variable {P:Program} {f:Fq} {R:Ending→World→Prop} {n:Nat} {E:Ev} {G:Hp} {L:List Ak} {K:List (Chunk σ)} {o:Oper} {a:Act} {w:World}
theorem Xk (hF:Fr n L K a):∀(parts:List (Nat×Operand)) (vals:List (Nat×Value)),Ox L parts=some vals→(parts.map λx=>(x.1,a.eval x.2))=vals
 |[],vals,h=>by simp only [Ox,iA] at h;subst h;rfl
 |(i,x)::r,vals,h=>by
  simp only [Ox] at h
  split at h
  ·rename_i v vs hv hr
   injection h with h;subst h
   simp only [iD]
   rw [AU (g:=none) hF trivial hv,Xk hF r vs hr]
  ·cases h
theorem Ac3 {t e:TypeId} {len sz:Nat} {parts:Array (Nat×Value)} {ei:TypeInfo} {z:Value} {cells:Array Value} (hu:P.underlying t=some (.slice e)) (hs:EP P e=some sz) (hi:P.info? e=some ei) (hz:ei.zero=some z) (hb:len*sz≤16777216)
 (hf:Instr.fill (λi=>some (i*sz,sz)) ((Array.range (len*sz)).map ((bif iL (len*sz) 0 then #[] else z.cells)[· %(bif iL (len*sz) 0 then #[] else z.cells).size]!)) parts.toList=some cells):
 (Instr.buildSlice t len parts).run P w= .ok (.slice (some ⟨w.heap.size,0,none⟩) len len) (w.alloc (.cells cells e)):=by
 unfold Instr.buildSlice
 have n1:¬(len*sz>2^24):=by omega
 simp only [iR,run_underlying hu,Result.andThen_ok,Gp hs,n1,if_false]
 cases hq:iL (len*sz) 0 with
 |true=>
  rw [hq] at hf
  rw [if_pos (iF hq)]
  simp only [iR,iY,Result.andThen_ok]
  simp only [cond_true] at hf
  rw [hf]
  simp [newRow]
 |false=>
  rw [hq] at hf
  rw [if_neg (λh=>by rw [h] at hq;simp at hq)]
  simp only [iR,zeroValue,typeInfo,run_program,Result.andThen_ok,hi,hz,iY]
  simp only [cond_false] at hf
  rw [hf]
  simp [newRow]
theorem Ao2 {cols cols':List Au} {len i off m:Nat} {vs cur:List Value} (hi:i<len) (hl:cols'.length=cols.length) (hm:vs.length=m) (hfit:off+m≤cols.length) (hcl:len*cols.length≤cur.length) (hcur:cur.take (len*cols.length)=flat cols len)
 (hset:∀(j:Nat) (c':Au),cols'[j]? =some c'→∃c,cols[j]? =some c∧∀m',c'.at m'=if m'=i∧off≤j∧j<off+vs.length then vs.getD (j-off) undef else c.at m'):
 (cur.take (i*cols.length+off)++vs++cur.drop (i*cols.length+off+m)).take (len*cols.length)=flat cols' len:=by
 have hi1:i*cols.length+cols.length≤len*cols.length:=by
  have:(i+1)*cols.length≤len*cols.length:=kF _ hi
  rw [mU] at this;exact this
 apply lB
 intro k
 by_cases hk:k<len*cols.length
 ·have hs:0<cols.length:=by
   rcases mK cols.length with h|h
   ·rw [h] at hk;simp at hk
   ·exact h
  have hkd:k=k/cols.length*cols.length+k%cols.length:=by rw [nQ];exact (Nat.div_add_mod k cols.length).symm
  have hj:k%cols.length<cols.length:=mB _ hs
  have hi':k/cols.length<len:=Nat.div_lt_of_lt_mul (by rw [nQ];exact hk)
  generalize k/cols.length=i' at*
  generalize k%cols.length=j at*
  subst hkd
  obtain ⟨c2,hc'⟩:∃c2,cols'[j]? =some c2:=⟨_,iK (by omega)⟩
  obtain ⟨c,hc,hat⟩:=hset j _ hc'
  have hold:=flat_get hi' hc
  rw [←hcur,kJ,if_pos hk] at hold
  have hnew:=flat_get hi' hc'
  rw [hl] at hnew
  rw [hnew,hat i',kJ,if_pos hk]
  rcases Nat.lt_trichotomy i' i with h|h|h
  ·have:(i'+1)*cols.length≤i*cols.length:=kF _ h
   rw [mU] at this
   rw [if_neg (by omega),jP,iI (by simp;omega),kJ,if_pos (by omega)]
   exact hold
  ·subst h
   by_cases hin:off≤j∧j<off+m
   ·rw [if_pos ⟨rfl,hin.1,by omega⟩,jP,iJ (by simp;omega),iI (by simp;omega)]
    simp only [lW]
    rw [show i'*cols.length+j-min (i'*cols.length+off) cur.length=j-off by omega,iC,iK (by omega:j-off<vs.length)]
    rfl
   ·rw [if_neg (by intro h;exact hin ⟨h.2.1,by omega⟩)]
    by_cases hlt:j<off
    ·rw [jP,iI (by simp;omega),kJ,if_pos (by omega)]
     exact hold
    ·rw [iJ (by simp;omega),lN]
     simp only [jL,lW]
     rw [show i'*cols.length+off+m+(i'*cols.length+j-(min (i'*cols.length+off) cur.length+vs.length))=i'*cols.length+j by omega]
     exact hold
  ·have:(i+1)*cols.length≤i'*cols.length:=kF _ h
   rw [mU] at this
   rw [if_neg (by omega),iJ (by simp;omega),lN]
   simp only [jL,lW]
   rw [show i*cols.length+off+m+(i'*cols.length+j-(min (i*cols.length+off) cur.length+vs.length))=i'*cols.length+j by omega]
   exact hold
 ·rw [jE (by simp;omega),jE (by rw [GN,hl];omega)]
theorem Ao3 {G Y h:Hp} {b:Nat} {t:TypeId} {m cap:Nat} {cols:List Au} {cells:Array Value} (hh:h b=some (.cells cells t (0,0))) (h1:∀c∈cols,c.len=m) (h2:0<cols.length) (h3:m≤cap) (h4:cap≤maxLen) (h5:cells.size=cap*cols.length)
 (h6:cells.toList.take (m*cols.length)=flat cols m):den D G (.row (some b) t m cap cols) Y h:=⟨h1,h2,cells,hh,h3,h4,h5,h6⟩
theorem Af.Aee {b:Nat} {t:TypeId} {m cap:Nat} {cols:List Au} {cells:Array Value} (hS:Af D E G w K) (hb:b=w.heap.size) (h1:∀c∈cols,c.len=m) (h2:0<cols.length) (h3:m≤cap) (h4:cap≤maxLen) (h5:cells.size=cap*cols.length)
 (h6:cells.toList.take (m*cols.length)=flat cols m):Af D E G (w.alloc (.cells cells t)) (K++[.row (some b) t m cap cols]):=by
 have:=Sat.alloc hS (.cells cells t)
 unfold Af
 rw [jD]
 refine this.imp λi B hB=>?_
 rcases jB i (K.map (den D G)).length with hl|hl
 ·rw [iI hl] at hB
  exact ⟨B,by rw [iI hl];exact hB, λ_ _ h=>h⟩
 ·rw [iJ hl] at hB
  have hz:i-(K.map (den D G)).length=0:=by have:=BD hB;simp only [iD,kD,lV] at this;omega
  rw [hz] at hB
  simp only [iD,kD,jH,iA] at hB
  refine ⟨pt w.heap.size (.cells cells t),?_,?_⟩
  ·rw [iJ hl,hz];rfl
  ·subst hB
   intro Y p hp
   subst hb
   exact Ao3 D hp h1 h2 h3 h4 h5 h6
theorem Dz.row {b:Option Nat} {t:TypeId} {m cap:Nat} {cols:List Au} (h:Dz K):Dz (K++[.row b t m cap cols]):=
 h.append λb t cs hm=>by simp at hm
theorem J4 {R':Value→Pr→List (Chunk σ)→Prop} {S':List Ab→List Ak→List (Chunk σ)→Prop}:∀{rows:List (Mk σ)} {k:List (Option Nat×Nat)→Tree σ},(Np rows k).holds R' S'→∀acs,Ha rows acs→(k acs).holds R' S'
 |[],k,h,[],_=>h
 |[],k,h,_::_,hl=>hl.elim
 |_::_,k,h,[],hl=>by simp [Ha] at hl
 | .row _ _::rs,k,h,(x,y)::acs,hl=>J4 (h x y) acs hl.2
 | .obj _::rs,k,h,(x,y)::acs,hl=>by
   obtain ⟨⟨b,hb⟩,hl2⟩:=hl
   injection hb with h1 h2
   subst h1;subst h2
   exact J4 (h b) acs hl2
theorem TA (rows:List (Mk σ)) (acs:List (Option Nat×Nat)):∀b t cs,jG (σ:=σ) b t cs ∉ jA ED rows acs:= λb t cs hm=>by
 obtain ⟨i,hi⟩:=kT hm
 rw [List.getElem?_zipWith] at hi
 cases h1:rows[i]? with
 |none=>simp [h1] at hi
 |some r=>
  cases h2:acs[i]? with
  |none=>simp [h1,h2] at hi
  |some ac=>
   obtain ⟨x,y⟩:=ac
   cases r with
   |row t cols=>cases hf:EY cols<;>simp [h1,h2,ED,hf] at hi
   |obj s=>cases x<;>simp [h1,h2,ED] at hi
theorem Aal (t ty e:TypeId) (i:TypeInfo) (ht:P.underlying t=some (.slice e)) (hi:P.info? e=some i) (base:Option Addr) (n cap c:Nat) (hn:n≤cap):
 (Builtin.append_ #[t,t] ty #[.slice base n cap, .slice none 0 c]).run P w= .ok (.slice base n cap) w:=by
 cases base<;>simp [Builtin.append_,run_underlying ht,sizeOf,typeInfo,hi,Builtin.lenOf,Builtin.firstCells,hn,storeCells]
theorem Aqh {h:Hp} {a:Option Addr} {m:Nat} {cols:List Au} (hR:Ef h a m cols) {b:Addr} (ha:a=some b):∀(j:Nat) u,(flat cols m)[j]? =some u→cellOf h (b.add j)=some u:=by
 intro j u hj
 have hjl:=BD hj
 rw [GN] at hjl
 have hs:0<cols.length:=by
  rcases mK cols.length with h0|h0
  ·rw [h0] at hjl;simp at hjl
  ·exact h0
 have hkd:j=j/cols.length*cols.length+j%cols.length:=by rw [nQ];exact (Nat.div_add_mod j cols.length).symm
 have hjm:j%cols.length<cols.length:=mB _ hs
 have hi':j/cols.length<m:=Nat.div_lt_of_lt_mul (by rw [nQ];exact hjl)
 obtain ⟨c2,hc2⟩:∃c2,cols[j%cols.length]? =some c2:=⟨_,iK hjm⟩
 have hg:=flat_get hi' hc2
 rw [←hkd,hj] at hg
 injection hg with hg
 obtain ⟨b',hb',hcell⟩:=hR.2.1 _ hi'
 rw [ha] at hb';injection hb' with hb';subst hb'
 have:=hcell _ _ hc2
 rw [←hkd] at this
 rw [this,hg]
theorem AiY (hF:Fr n L K a) (hS:Af D E G w K) {s x:Operand} {t e ty:TypeId} {ei:TypeInfo} {z:Value} {kd:Option Nat} {len m ks:Nat} {cols cols2 cols':List Au} (hu:P.underlying t=some (.slice e)) (hei:P.info? e=some ei) (hz:ei.zero=some z)
 (hd:Qq P L K e s=some (kd,len,cols)) (hs:Agk L K x=some (ks,m,cols2)) (hne:neK kd ks=true) (happ:KR cols cols2=some cols') (q1:ei.size=cols.length) (q1':ei.size=cols2.length) (q2:1≤ei.size) (q3:1≤ei.bytes) (q4:z.cells.size=ei.size) (q5:cols2.all Agj=true)
 (hbytes:(len+m)*ei.bytes≤140737488355328):
 ∃a' cap w',(Builtin.append_ #[t,t] ty #[a.eval s,a.eval x]).run P w= .ok (Be a' (len+m) cap) w'∧Af D E G w' (KH K kd++[.row a' e (len+m) cap cols']):=by
 have hpx:=Bv (x:=x) (g:=none) hF trivial
 have hps:=Bv (x:=s) (g:=none) hF trivial
 have hlm:len+m≤maxLen:=by
  have:(len+m)*1≤(len+m)*ei.bytes:=Nat.mul_le_mul_left _ q3
  unfold maxLen;omega
 obtain ⟨ad,c,hex,hR⟩:∃ad c,a.eval x= .slice ad m c∧(∃p:Hp,p.sub w∧Ef p ad m cols2):=by
  unfold Agk at hs
  split at hs
  ·rename_i b0 n0 c0 k hv hp
   rw [hp,Bg] at hpx
   obtain ⟨ch,hk,hc⟩:=hpx
   split at hs
   ·rename_i a1 t1 n1 cap1 cols1 hk'
    rw [hk'] at hk;injection hk with hk;subst hk
    simp only [iA,iP] at hs
    obtain ⟨rfl,rfl,rfl⟩:=hs
    obtain ⟨_,p,_,hp,hsub⟩:=hS.get D hk'
    exact ⟨_,_,hc,p,hsub,WA D hp⟩
   ·rename_i a1 n1 cap1 cols1 hk'
    rw [hk'] at hk;injection hk with hk;subst hk
    simp only [iA,iP] at hs
    obtain ⟨rfl,rfl,rfl⟩:=hs
    obtain ⟨Y,p,hy,hp,_⟩:=hS.get D hk'
    exact ⟨_,_,hc,_,AmD hy hS.G,hp.1⟩
   ·cases hs
  ·cases hs
 obtain ⟨p2,hsub2,hR2⟩:=hR
 have hnews:∀b,ad=some b→∀(j:Nat) u,(flat cols2 m)[j]? =some u→w.cell? (b.add j)=some u:= λb hb j u hj=>PX hsub2 (Aqh hR2 hb j u hj)
 obtain ⟨a1,cap1,hes,hcl,hc0,hown,hkk,hrow⟩:∃a1 cap1,a.eval s=Be a1 len cap1∧(∀c∈cols,c.len=len)∧len≤cap1∧w.ownsRow 0 e ei.size (Be a1 len cap1) len (flat cols len)∧
  (∀k,kd=some k→∃t1,K[k]? =some (.row a1 t1 len cap1 cols))∧(∀g,a1=some g→∃k,kd=some k):=by
  unfold Qq at hd
  split at hd
  ·rename_i hp hv
   split at hd
   ·rename_i cols0 hcols
    simp only [iA,iP] at hd
    obtain ⟨rfl,rfl,rfl⟩:=hd
    refine ⟨none,0,AU (g:=none) hF trivial hv,Ns 4 e _ hcols,jY _,?_,(λk hk=>by cases hk),(λg hg=>by cases hg)⟩
    exact World.ownsRow_nil w 0 e ei.size
   ·cases hd
  ·rename_i k b0 n0 c0 hp hv
   rw [hp,Bg] at hps
   obtain ⟨ch,hk,hc⟩:=hps
   split at hd
   ·rename_i a1 t1 n1 cap1 cols1 hk'
    rw [hk'] at hk;injection hk with hk;subst hk
    cases hte:iL t1 e with
    |false=>rw [hte] at hd;simp at hd
    |true=>
     rw [hte] at hd
     simp only [cond_true,iA,iP] at hd
     obtain ⟨rfl,rfl,rfl⟩:=hd
     have hte':=iF hte
     subst hte'
     obtain ⟨_,p,_,hp,hsub⟩:=hS.get D hk'
     obtain ⟨d1,d2,d3⟩:=hp
     refine ⟨a1,cap1,hc,d1,?_,?_,(λk' hk''=>by injection hk'' with e';subst e';exact ⟨_,hk'⟩), λg _=>⟨_,rfl⟩⟩
     ·cases a1 with
      |none=>simp only at d3;omega
      |some g=>obtain ⟨_,_,h,_⟩:=d3;exact h
     ·cases a1 with
      |none=>
       obtain ⟨rfl,rfl⟩:=d3
       exact World.ownsRow_nil w 0 t1 ei.size
      |some g=>
       obtain ⟨cur,e1,e2,e3,e4,e5⟩:=d3
       exact ⟨by rw [GN,q1], .inr ⟨g,cap1,cur,rfl,oE _,hsub _ _ e1,e2,e3,by rw [q1];exact e4,by rw [q1];exact e5⟩⟩
   ·cases hd
  ·cases hd
 obtain ⟨f1,f2,f3,f4,f5⟩:=UI happ hcl hR2.1
 have hflat:flat cols' (len+m)=flat cols len++flat cols2 m:=Xi f4 f5
 have close:∀(a':Option Nat) (cap:Nat) (w':World),w'.ownsRow 0 e ei.size (Be a' (len+m) cap) (len+m) (flat cols' (len+m))→w.grownBy w' a1→(a'=a1∨a'=some w.heap.size)→(a'=none→len+m=0∧cap=0)→
  Af D E G w' (KH K kd++[.row a' e (len+m) cap cols']):=by
  intro a' cap w' ho hg hloc hnil
  have hcells:∀g,a'=some g→∃cur,w'.heap[g]? =some (.cells cur e (0,0))∧len+m≤cap∧cap≤maxLen∧cur.size=cap*ei.size∧cur.toList.take ((len+m)*ei.size)=flat cols' (len+m):= λg hg'=>by
   subst hg'
   rcases ho.2 with ⟨h0,_⟩|⟨g',cap',cur,h0,_,h1,h2,h3,h4,h5⟩
   ·simp [Be] at h0
   ·simp only [Be,iS,Value.slice.injEq,iA,Addr.mk.injEq] at h0
    obtain ⟨⟨rfl,_⟩,_,rfl⟩:=h0
    exact ⟨cur,h1,h2,h3,h4,h5⟩
  unfold Af
  rw [jD]
  refine Sat.grown hS kd a1 a' hg (λg hg'=>?_) hloc (λg hg'=>?_) _ (λY p hp=>?_) _ ?_ (λi A hA=>?_)
  ·obtain ⟨k,hk⟩:=hrow g hg'
   obtain ⟨t1,hk1⟩:=hkk k hk
   refine ⟨k,_,hk,C9 D hk1, λY p hp=>?_⟩
   subst hg'
   obtain ⟨_,_,cur,h1,_⟩:=hp
   rw [h1];simp
  ·obtain ⟨cur,h1,_⟩:=hcells g hg';exact lt_of_heap h1
  ·refine ⟨f3,by omega,?_⟩
   cases a' with
   |none=>exact hnil rfl
   |some g=>
    obtain ⟨cur,h1,h2,h3,h4,h5⟩:=hcells g rfl
    exact ⟨cur,by rw [hp g rfl,h1],h2,h3,by rw [f1,←q1];exact h4,by rw [f1,←q1];exact h5⟩
  ·cases kd<;>simp [KH]
  ·cases kd with
   |none=>exact .inr ⟨by simp,hA⟩
   |some k=>
    simp only [KH,jU] at hA
    by_cases hki:k=i
    ·subst hki
     have hlt:k<(K.map (den D G)).length:=by have:=BD hA;simpa using this
     rw [iT hlt] at hA
     injection hA with hA;subst hA
     exact .inl λ_ _=>trivial
    ·rw [iW hki] at hA
     exact .inr ⟨λe=>hki (by injection e with e;exact e.symm),hA⟩
 rw [hes,hex]
 cases ad with
 |none=>
  have hm0:m=0:=by
   rcases mK m with h0|h0
   ·exact h0
   ·obtain ⟨b,hb,_⟩:=hR2.2.1 0 h0;cases hb
  subst hm0
  refine ⟨a1,cap1,w,?_,close a1 cap1 w ?_ ⟨rfl,rfl,rfl,jY _, λ_ _ _=>rfl⟩ (.inl rfl) λh=>?_⟩
  ·exact Aal t ty e ei hu hei _ len cap1 c hc0
  ·rw [hflat];simpa [flat] using hown
  ·subst h
   rcases hown.2 with ⟨h1,h2⟩|⟨g,_,_,h1,_⟩
   ·simp only [Be,Value.slice.injEq] at h1;exact ⟨h2,h1.2.2⟩
   ·simp [Be] at h1
 |some b=>
  obtain ⟨v',w',hrun,hown',hgrow,hnil,hloc⟩:=run_append_own_at (P:=P) w 0 t ty e ei z ei.size ei.bytes hu hei hz rfl rfl q4 (by omega) (Be a1 len cap1) len (flat cols len) hown b m c (flat cols2 m) (by rw [GN,q1']) (hnews b rfl) (Aox q5) hlm hbytes (oE _)
  rw [←hflat] at hown'
  have hob:∀(a:Option Nat) n c,(Be a n c).ownBlock=a:= λa n c=>by cases a<;>rfl
  obtain ⟨a',cap,rfl,hnn⟩:∃a' cap,v'=Be a' (len+m) cap∧(a'=none→len+m=0∧cap=0):=by
   rcases hown'.2 with ⟨rfl,h0⟩|⟨g,cap,_,rfl,_⟩
   ·exact ⟨none,0,by rw [h0];rfl, λ_=>⟨h0,rfl⟩⟩
   ·exact ⟨some g,cap,rfl, λh=>by cases h⟩
  rw [hob,hob] at hloc
  rw [hob] at hgrow
  exact ⟨a',cap,w',hrun,close a' cap w' hown' hgrow hloc hnn⟩
theorem Di.moved {E:World} {G:Hp} {w:World} {As:List Ew} (h:Di E G w As) {i:Nat} {A B T:Ew} (hi:As[i]? =some A) (hB:∀k:Hp,A k→B k) (hT:∀k:Hp,T k):Di E G w (As.set i T++[B]):=by
 obtain ⟨h1,h2,o,h3,h4⟩:=h
 have hil:=BD hi
 refine ⟨h1,h2, λb=>if o b=some i then some As.length else if o b=some As.length then none else o b, λb j hb=>?_, λj C hj=>?_⟩
 ·dsimp only at hb
  split at hb
  ·rename_i e;exact h3 b i e
  ·split at hb
   ·cases hb
   ·exact h3 b j hb
 ·rcases jB j As.length with hlt|hge
  ·rw [iI (by simpa using hlt)] at hj
   by_cases hij:i=j
   ·subst hij
    rw [iT hlt] at hj
    injection hj with hj
    subst hj
    exact hT _
   ·rw [iW hij] at hj
    have:part w (λb=>if o b=some i then some As.length else if o b=some As.length then none else o b) j=part w o j:=Fb λb=>⟨⟨λhb=>by
     split at hb
     ·injection hb with hb;omega
     ·split at hb
      ·cases hb
      ·exact hb, λhb=>by
     rw [if_neg (λe=>by rw [hb] at e;injection e with e;omega),if_neg (λe=>by rw [hb] at e;injection e with e;omega)]
     exact hb⟩, λ_=>rfl⟩
    rw [this];exact h4 j C hj
  ·rw [iJ (by simpa using hge)] at hj
   have hj0:j=As.length:=by
    rcases Nat.eq_or_lt_of_le hge with h'|h'
    ·exact h'.symm
    ·rw [jE (by simp;omega)] at hj;cases hj
   subst hj0
   simp at hj
   subst hj
   have:part w (λb=>if o b=some i then some As.length else if o b=some As.length then none else o b) As.length=part w o i:=Fb λb=>⟨⟨λhb=>by
    split at hb
    ·assumption
    ·split at hb
     ·cases hb
     ·rename_i e;exact absurd hb e, λhb=>by rw [if_pos hb]⟩, λ_=>rfl⟩
   rw [this];exact hB _ (h4 i A hi)
theorem Sat.moved {E:Ev} {G:Hp} {w:World} {As:List CZ} (h:Sat E G w As) {i:Nat} {A B T:CZ} (hi:As[i]? =some A) (hB:∀Y k:Hp,A Y k→B Y k) (hT:∀Y k:Hp,T Y k):Sat E G w (As.set i T++[B]):=by
 obtain ⟨Z,hz,hw,h0⟩:=h
 refine Sat.of hz hw h0.2.1 ?_
 rw [jD,jU]
 exact h0.moved (EI hi) (λk hk Y hY=>hB Y k (hk Y hY)) λk Y _=>hT Y k
theorem Di.added {E:World} {G:Hp} {w:World} {As:List Ew} (h:Di E G w As) {B:Ew} (hB:∀k:Hp,B k):Di E G w (As++[B]):=by
 obtain ⟨h1,h2,o,h3,h4⟩:=h
 refine ⟨h1,h2,o,h3, λj C hj=>?_⟩
 rcases jB j As.length with hlt|hge
 ·rw [iI hlt] at hj
  exact h4 j C hj
 ·rw [iJ hge] at hj
  have:=jR.1 (iV hj)
  rw [this];exact hB _
theorem Sat.added {E:Ev} {G:Hp} {w:World} {As:List CZ} (h:Sat E G w As) {B:CZ} (hB:∀Y k:Hp,B Y k):Sat E G w (As++[B]):=by
 obtain ⟨Z,hz,hw,h0⟩:=h
 refine Sat.of hz hw h0.2.1 ?_
 rw [jD]
 exact h0.added λk Y _=>hB Y k
theorem Sat.Ag2 {E:Ev} {G:Hp} {w:World} {As:List CZ} (h:Sat E G w As) {i:Nat} {A B:CZ} (hi:As[i]? =some A) (hB:∀Y k k':Hp,A Y k→B Y k'):Sat E G w (As++[B]):=by
 obtain ⟨Z,hz,hw,h0⟩:=h
 refine Sat.of hz hw h0.2.1 ?_
 rw [jD]
 refine h0.added (B:=IW Z B) λk=>?_
 obtain ⟨_,_,o,_,hoA⟩:=h0
 exact λY hY=>hB Y _ k (hoA i _ (EI hi) Y hY)
theorem Ag3 (n:Nat):∀cols:List Au,EY (cols.map (Gn n))=EY cols
 |[]=>rfl
 |c::cs=>by
  have:=Ag3 n cs
  cases c<;>simp only [iD,Gn,EY,Au.isFz,cond_true,cond_false]<;>exact this
theorem Lm (n:Nat) (c:Au):(Gn n c).len=min n c.len∧∀i,i<n→(Gn n c).at i=c.at i:=by
 have key:∀{α:Type} (xs:List α) (d:α) (i:Nat),i<n→(xs.take n).getD i d=xs.getD i d:= λxs d i hi=>by
  rw [iC,iC,kJ,if_pos hi]
 cases c<;>exact ⟨by simp [Gn,Au.len], λi hi=>by simp only [Gn,Au.at];rw [key _ _ i hi]⟩
theorem Ag4 (n:Nat):∀cols:List Au,EY (cols.map (Iy n))=EY cols
 |[]=>rfl
 |c::cs=>by
  have:=Ag4 n cs
  cases c<;>simp only [iD,Iy,EY,Au.isFz,cond_true,cond_false]<;>exact this
theorem UN (n:Nat) (c:Au):(Iy n c).len=c.len-n∧∀i,(Iy n c).at i=c.at (n+i):=by
 have key:∀{α:Type} (xs:List α) (d:α) (i:Nat),(xs.drop n).getD i d=xs.getD (n+i) d:= λxs d i=>by
  rw [iC,iC,lN]
 cases c<;>exact ⟨by simp [Iy,Au.len], λi=>by simp only [Iy,Au.at];rw [key]⟩
theorem AmQ {Y:Hp} {m i:Nat} {cols:List Au} (h:subs Y m cols) (hi:i≤m):subs Y i (cols.map (Gn i)):=by
 intro c hc j hj
 obtain ⟨d,hd,rfl⟩:=kN.1 hc
 have hs:=h d hd j (by omega)
 cases d<;>first|trivial|skip
 rename_i xs
 have e:(xs.take i).getD j 0=xs.getD j 0:=by rw [iC,iC,kJ,if_pos hj]
 simp only [Gn,Au.sub,e]
 exact hs
theorem AmR {Y:Hp} {m i:Nat} {cols:List Au} (h:subs Y m cols):subs Y (m-i) (cols.map (Iy i)):=by
 intro c hc j hj
 obtain ⟨d,hd,rfl⟩:=kN.1 hc
 have hs:=h d hd (i+j) (by omega)
 cases d<;>first|trivial|skip
 rename_i xs
 have e:(xs.drop i).getD j 0=xs.getD (i+j) 0:=by rw [iC,iC,lN]
 simp only [Iy,Au.sub,e]
 exact hs
theorem O6 {G Y k':Hp} {n i:Nat} (hi:i<n):∀{cols:List Au} {chs:List (Chunk σ)},subs Y n cols→Wu i cols=some chs→(∀B∈chs.map (den D G),B Y k')∧(∀c∈chs,∃a n cp cl,c=Chunk.ro a n cp cl)∧chs.length=cols.length∧
 ∀(K0:List (Chunk σ)),AQ (K0++chs) (cols.map (·.at i)) (Wv K0.length cols)
 |[],_,_,h=>by
  simp only [Wu,iA] at h;subst h
  exact ⟨λB hB=>(by cases hB), λc hc=>(by cases hc),rfl, λ_=>(by simp [AQ,Wv])⟩
 |c::cs,chs,hs,h=>by
  cases c<;>simp only [Wu] at h<;>first|cases h|skip
  rename_i xs
  split at h
  ·rename_i l hl
   injection h with h;subst h
   obtain ⟨h1,h2,h3,h4⟩:=O6 (k':=k') (G:=G) hi (λd hd=>hs d (by simp [hd])) hl
   have hc:=hs (.sls xs) (by simp) i hi
   refine ⟨λB hB=>?_, λc hc=>?_,by simp [h3], λK0=>?_⟩
   rotate_left 2
   ·simp only [iD,Wv,AQ]
    refine ⟨Bg.2 ⟨.ro (slA (xs.getD i 0)) (U9 (xs.getD i 0)).length (slC (xs.getD i 0)) [.fz (U9 (xs.getD i 0))],by rw [iJ (jY _),nF];rfl,rfl⟩,?_⟩
    have:=h4 (K0++[.ro (slA (xs.getD i 0)) (U9 (xs.getD i 0)).length (slC (xs.getD i 0)) [.fz (U9 (xs.getD i 0))]])
    simpa [jP] using this
   ·simp only [iD,iG] at hB
    rcases hB with rfl|hB
    ·exact ⟨hc.1,hc.2,Acz⟩
    ·exact h1 B hB
   ·rcases iG.1 hc with rfl|hc
    ·exact ⟨_,_,_,_,rfl⟩
    ·exact h2 c hc
  ·cases h
theorem Sat.Akm {E:Ev} {G:Hp} {w:World}:∀{As Bs:List CZ} {i:Nat} {A:CZ},Sat E G w As→As[i]? =some A→(∀Y k k':Hp,A Y k→∀B∈Bs,B Y k')→Sat E G w (As++Bs)
 |As,[],_,_,h,_,_=>by rw [kZ];exact h
 |As,B::Bs,i,A,h,hi,hB=>by
  have h1:=Sat.Ag2 h hi λY k k' ha=>hB Y k k' ha B (by simp)
  have h2:=Sat.Akm (As:=As++[B]) (Bs:=Bs) h1 (by rw [iI (BD hi)];exact hi) λY k k' ha C hC=>hB Y k k' ha C (by simp [hC])
  rw [jP] at h2;exact h2
theorem AiZ {n:Nat} {cols:List Au} {i:Nat} (hi:i<n):(cols.map (Gn n)).map (·.at i)=cols.map (·.at i):=by
 rw [lJ]
 exact lR λc _=>(Lm n c).2 i hi
theorem Aef {cols:List Au} {i:Nat}:∀{m:Nat},i≤m→(flat cols m).take (i*cols.length)=flat cols i
 |0,h=>by
  have:i=0:=by omega
  subst this;simp [flat]
 |m+1,h=>by
  by_cases he:i=m+1
  ·subst he;rw [List.take_of_length_le];rw [GN];exact jY _
  ·rw [JA,List.take_append_of_le_length (by rw [GN];exact kF _ (by omega)),Aef (by omega)]
theorem Ao4 {G Y h:Hp} {ra:Option Nat} {te:TypeId} {m cap i:Nat} {cols:List Au} (hi:i≤m) (H:den D G (.row ra te m cap cols) Y h):den D G (.row ra te i cap (cols.map (Gn i))) Y h:=by
 obtain ⟨h1,h2,h3⟩:=H
 refine ⟨λc hc=>?_,by simpa using h2,?_⟩
 ·obtain ⟨d,hd,rfl⟩:=kN.1 hc
  rw [(Lm i d).1,h1 d hd];omega
 ·cases ra with
  |none=>simp only at h3 ⊢;omega
  |some b=>
   simp only at h3 ⊢
   obtain ⟨cs,h4,h5,h6,h7,h8⟩:=h3
   refine ⟨cs,h4,by omega,h6,by simpa using h7,?_⟩
   rw [jV,RJ (cols:=cols) λj hj=>AiZ hj,←Aef hi,←h8,List.take_take,Nat.min_eq_left (kF _ hi)]
theorem Als {h:Hp} {a:Option Addr} {m i:Nat} {cols:List Au} (hi:i≤m) (H:Ef h a m cols):Ef h a i (cols.map (Gn i)):=by
 obtain ⟨h1,h2,h3⟩:=H
 refine ⟨λc hc=>?_, λj hj=>?_,by omega⟩
 ·obtain ⟨d,hd,rfl⟩:=kN.1 hc
  rw [(Lm i d).1,h1 d hd];omega
 ·obtain ⟨b,hb,hc⟩:=h2 j (by omega)
  refine ⟨b,hb, λk c hk=>?_⟩
  rw [iM] at hk
  cases hck:cols[k]? with
  |none=>rw [hck] at hk;cases hk
  |some d=>
   rw [hck] at hk
   simp only [iS,iA] at hk
   subst hk
   rw [jV,(Lm i d).2 j hj]
   exact hc k d hck
theorem Alt {h:Hp} {a:Option Addr} {m cap i sz:Nat} {cols:List Au} (hm:m≤cap) (hs:sz=cols.length) (H:Ef h a m cols):Ef h (NR a cap i sz) (m-i) (cols.map (Iy i)):=by
 subst hs
 obtain ⟨h1,h2,h3⟩:=H
 refine ⟨λc hc=>?_, λj hj=>?_,by omega⟩
 ·obtain ⟨d,hd,rfl⟩:=kN.1 hc
  rw [(UN i d).1,h1 d hd]
 ·obtain ⟨b,hb,hc⟩:=h2 (i+j) (by omega)
  have he:iL cap i=false:=by
   cases hh:iL cap i with
   |false=>rfl
   |true=>have:=iF hh;omega
  refine ⟨b.add (i*cols.length),by unfold NR;rw [he,hb];rfl, λk c hk=>?_⟩
  rw [iM] at hk
  cases hck:cols[k]? with
  |none=>rw [hck] at hk;cases hk
  |some d=>
   rw [hck] at hk
   simp only [iS,iA] at hk
   subst hk
   rw [jV,(UN i d).2 j,Addr.add_add,show i*cols.length+(j*cols.length+k)=(i+j)*cols.length+k by rw [Nat.add_mul];omega]
   exact hc k d hck
theorem Alu {P:Program} {o:Oper} {a:Act} {w:World} {t e:TypeId} {x lx:Operand} {ad:Option Addr} {m cap sz:Nat} {k:IntKind} {i:Int} (hop:o.op= .slice t x (some lx) none none) (hu:P.underlying t=some (.slice e)) (hs:EP P e=some sz)
 (hv:a.eval x= .slice ad m cap) (hi:a.eval lx= .int k i) (h0:0≤i) (h1:i≤(m:Int)):(execOp a.eval o).run P w= .ok (.value (.slice (NR ad cap i.toNat sz) (m-i.toNat) (cap-i.toNat))) w:=by
 have hel:P.elem t=e:=by simp [Program.elem,hu]
 have hu':P.underlying t=some (.slice (P.elem t)):=by rw [hel];exact hu
 have hr:=run_slice_l (w:=w) t ad m cap hu' k i h0 h1
 have hsz:=Gp hs w
 rw [hel,hsz] at hr
 simp only [Result.andThen_ok] at hr
 have hadd:sliced ad i.toNat m cap sz= .slice (NR ad cap i.toNat sz) (m-i.toNat) (cap-i.toNat):=by
  unfold sliced NR
  by_cases he:cap=i.toNat
  ·have:iL cap i.toNat=true:=by rw [←he];simp
   rw [if_pos he,this];rfl
  ·have:iL cap i.toNat=false:=by
    cases hh:iL cap i.toNat with
    |false=>rfl
    |true=>exact absurd (iF hh) he
   rw [if_neg he,this];rfl
 rw [hadd] at hr
 simp only [execOp,hop,iR,nH,iS,hv,hi,run_sliceAt_slice w t _ _ _ _ hu',hr,Result.andThen_ok,iY]
theorem Aeg {P:Program} {o:Oper} {a:Act} {w:World} {t e:TypeId} {x hx:Operand} {ad:Option Addr} {m cap sz:Nat} {k:IntKind} {i:Int} (hop:o.op= .slice t x none (some hx) none) (hu:P.underlying t=some (.slice e)) (hs:EP P e=some sz)
 (hv:a.eval x= .slice ad m cap) (hi:a.eval hx= .int k i) (h0:0≤i) (h1:i≤(cap:Int)):(execOp a.eval o).run P w= .ok (.value (.slice ad i.toNat cap)) w:=by
 have hel:P.elem t=e:=by simp [Program.elem,hu]
 have hu':P.underlying t=some (.slice (P.elem t)):=by rw [hel];exact hu
 have hr:=run_slice_h (w:=w) t ad m cap hu' k i h0 h1
 have hsz:=Gp hs w
 rw [hel,hsz] at hr
 simp only [Result.andThen_ok] at hr
 have hadd:sliced ad 0 i.toNat cap sz= .slice ad i.toNat cap:=by
  unfold sliced
  cases ad with
  |none=>simp
  |some b=>simp [Addr.add]
 rw [hadd] at hr
 simp only [execOp,hop,iR,nH,iS,hv,hi,run_sliceAt_slice w t _ _ _ _ hu',hr,Result.andThen_ok,iY]
def DN (K K':List (Chunk σ)):Prop:=∀(k b:Nat) (t:TypeId) (cs:List (Value×Pr)),K[k]? =some (.cells b t cs)→K'[k]? =some (.cells b t cs)
theorem DN.append (K B:List (Chunk σ)):DN K (K++B):= λk b t cs h=>by rw [iI (BD h)];exact h
theorem DN.set {K:List (Chunk σ)} {i:Nat} {c c':Chunk σ} (h:K[i]? =some c) (hc:∀b t cs,c≠ .cells b t cs):DN K (K.set i c'):= λk b t cs hk=>by
 by_cases hik:i=k
 ·subst hik
  rw [h] at hk;injection hk with hk
  exact absurd hk (hc b t cs)
 ·rw [iW hik];exact hk
theorem DN.trans {K K' K'':List (Chunk σ)} (h:DN K K') (h':DN K' K''):DN K K'':= λk b t cs hk=>h' k b t cs (h k b t cs hk)
theorem Aja {P:Program} {L:List Ak} {K:List (Chunk σ)} {e:TypeId} {x:Operand} {k n:Nat} {cols:List Au} (h:Qq P L K e x=some (some k,n,cols)):∃a t m cap cs,K[k]? =some (.row a t m cap cs):=by
 unfold Qq at h
 split at h
 ·split at h
  ·simp at h
  ·cases h
 ·split at h
  ·rename_i a t n0 cap cols0 hk
   cases hb:iL t e with
   |false=>rw [hb] at h;cases h
   |true=>
    rw [hb] at h
    simp only [cond_true,iA,iP] at h
    obtain ⟨rfl,rfl,rfl⟩:=h
    exact ⟨_,_,_,_,_,hk⟩
  ·cases h
 ·cases h
theorem AmS {L:List Ak} {K:List (Chunk σ)} {o:Oper} {v:Value} (hF:Fr n L K a) (h:lenOf P L o=some v):(∀w,(execOp a.eval o).run P w= .ok (.value v) w)∧∃k x,v= .int k x:=by
 unfold lenOf at h
 split at h
 ·rename_i hop
  cases hb:o.op.operands.all (λx=>(val none L x).isSome) with
  |false=>rw [hb] at h;cases h
  |true=>
   rw [hb,cond_true] at h
   split at h
   ·rename_i k x he
    injection h with h;subst h
    exact ⟨λw=>Aac (g:=none) hF trivial (λcs b e=>by rw [hop] at e;cases e) hb he w,k,x,rfl⟩
   ·cases h
 ·cases h
theorem Ajb {ops:Array Oper} {i:Nat} {rest:List Nat} {td:List Item} {k:Value→Pr→List (Chunk σ)→Tree σ} {t:Tree σ} {R':Value→Pr→List (Chunk σ)→Prop} {S':List Ab→List Ak→List (Chunk σ)→Prop}
 (ho:ops[i]? =some o) (hw:iZ o (yielded ops a.tmps)=true) (g2:∀d,o.dst=some d→d<n) (hF:Fr n L K a) (hS:Af D E G w K) (h:AfR P L K o k=some t) (ht:t.holds R' S')
 (H:∀v pr K',(k v pr K').holds R' S'→Bf K K'→DN K K'→∀a' w',(∃u,a'=a.put o.dst u)→Fr n (Dw o.dst none v pr L) K' a'→Af D E G w' K'→WT P f R (.inRegion ops rest::td) a' w'):WT P f R (.inRegion ops (i::rest)::td) a w:=by
 have g3:∀(d c:Nat) (b:Bool),o.dst=some d→(none:Option (Nat×Bool))=some (c,b)→c≠d:= λ_ _ _ _ h=>by cases h
 unfold AfR at h
 split at h
 ·
  rename_i t0 hop
  cases hks:KI P t0 with
  |false=>rw [hks] at h;cases h
  |true=>
   rw [hks,cond_true] at h
   injection h with h;subst h
   have hrun:(execOp a.eval o).run P w= .ok (.value (.map (some w.heap.size))) (w.alloc (.map #[] 0)):=by
    simp only [execOp,hop,iR,nH]
    rfl
   refine WT.EE ho hw (.inl hrun) (H _ _ _ (ht w.heap.size) (Bf.append K _) (DN.append K _) _ _ ⟨_,rfl⟩ ?_ ?_)
   ·have hk:Dz (K++[kX w.heap.size [] none]):=hF.kok.append λb t cs hm=>by simp at hm
    exact (hF.ext (Bf.append K _) hk).put g2 g3 λ_=>⟨rfl,Bg.2 ⟨_,jT,rfl⟩⟩
   ·have:=Sat.alloc hS (.map #[] 0)
    unfold Af
    rw [jD]
    refine this.imp λi B hB=>?_
    rcases jB i (K.map (den D G)).length with hl|hl
    ·rw [iI hl] at hB
     exact ⟨B,by rw [iI hl];exact hB, λ_ _ h=>h⟩
    ·rw [iJ hl] at hB
     have hz:i-(K.map (den D G)).length=0:=by have:=BD hB;simp only [iD,kD,lV] at this;omega
     rw [hz] at hB
     simp only [iD,kD,jH,iA] at hB
     refine ⟨pt w.heap.size (.map #[] 0),?_,?_⟩
     ·rw [iJ hl,hz];rfl
     ·subst hB
      intro Y p hp
      exact ⟨#[],0,hp,Kt.nil,trivial⟩
 ·
  rename_i t0 m i0 x hop
  have hpx:=Bv (x:=m) (g:=none) hF trivial
  split at h
  ·rename_i c xa xs hp hi hx
   have hei:=AU (g:=none) hF trivial hi
   have hex:=AU (g:=none) hF trivial hx
   rw [hp,Bg] at hpx
   obtain ⟨ch,hk,hc⟩:=hpx
   split at h
   ·rename_i b l hk'
    rw [hk'] at hk;injection hk with hk;subst hk
    cases hks:KI P t0 with
    |false=>rw [hks] at h;cases h
    |true=>
     rw [hks,cond_true] at h
     injection h with h;subst h
     obtain ⟨kt,et,hu,hkt,_⟩:=NV hks
     obtain ⟨_,p,_,⟨es,clock,hes,hM,_⟩,hsub⟩:=hS.get D hk'
     obtain ⟨es',clock',hrun,hM'⟩:=Aoy (P:=P) (w:=w) (x:=(xa,xs)) hop hc hei hex hu hkt (hsub _ _ hes) hM
     have hcmp:∀v pk,DJ (kX (σ:=σ) b l none) v pk→DJ (kX (σ:=σ) b (He l (xa,xs)) none) v pk:= λv pk hv=>by cases pk<;>exact hv
     refine WT.EE ho hw (.inr ⟨hrun,rfl⟩) (H _ _ _ ht (Bf.set hk' hcmp) (DN.set hk' λb t cs e=>by cases e) _ _ ⟨_,rfl⟩ ?_ ?_)
     ·exact (hF.ext (Bf.set hk' hcmp) (hF.kok.set hk' hcmp λb' t' cs' e=>by cases e)).put g2 g3 λ_=>⟨rfl,A8⟩
     ·unfold Af
      rw [jU]
      have hb:=MapKept.heap_set (o':= .map es' clock') (hsub _ _ hes)
      refine Sat.write' hS (b:=b) (C9 D hk') (λY p hp=>?_) ⟨rfl,rfl,rfl⟩ (by simp) (λc hc=>hb.2 c hc) λY p p' hp hpo hpb=>?_
      ·obtain ⟨_,_,hh,_⟩:=hp;rw [hh];simp
      ·exact ⟨es',clock',by rw [hpb];exact hb.1,hM',trivial⟩
   ·cases h
  ·cases h
 ·
  rename_i m i0 t0 ts hop
  have hpx:=Bv (x:=m) (g:=none) hF trivial
  split at h
  ·rename_i c xa xs hp hi
   have hei:=AU (g:=none) hF trivial hi
   rw [hp,Bg] at hpx
   obtain ⟨ch,hk,hc⟩:=hpx
   split at h
   ·rename_i b l hk'
    rw [hk'] at hk;injection hk with hk;subst hk
    cases hks:KI P t0 with
    |false=>rw [hks] at h;cases h
    |true=>
     rw [hks,cond_true] at h
     injection h with h;subst h
     obtain ⟨kt,et,hu,hkt,_⟩:=NV hks
     obtain ⟨_,p,_,⟨es,clock,hes,hM,_⟩,hsub⟩:=hS.get D hk'
     obtain ⟨es',hrun,hM'⟩:=Aoz (P:=P) (w:=w) (x:=(xa,xs)) hop hc hei hu hkt (hsub _ _ hes) hM
     have hcmp:∀v pk,DJ (kX (σ:=σ) b l none) v pk→DJ (kX (σ:=σ) b (La l (xa,xs)) none) v pk:= λv pk hv=>by cases pk<;>exact hv
     refine WT.EE ho hw (.inl hrun) (H _ _ _ ht (Bf.set hk' hcmp) (DN.set hk' λb t cs e=>by cases e) _ _ ⟨_,rfl⟩ ?_ ?_)
     ·exact (hF.ext (Bf.set hk' hcmp) (hF.kok.set hk' hcmp λb' t' cs' e=>by cases e)).put g2 g3 λ_=>⟨rfl,A8⟩
     ·unfold Af
      rw [jU]
      have hb:=MapKept.heap_set (o':= .map es' clock) (hsub _ _ hes)
      refine Sat.write' hS (b:=b) (C9 D hk') (λY p hp=>?_) ⟨rfl,rfl,rfl⟩ (by simp) (λc hc=>hb.2 c hc) λY p p' hp hpo hpb=>?_
      ·obtain ⟨_,_,hh,_⟩:=hp;rw [hh];simp
      ·exact ⟨es',clock,by rw [hpb];exact hb.1,hM',trivial⟩
   ·cases h
  ·cases h
 ·
  rename_i m t0 hop
  have hpx:=Bv (x:=m) (g:=none) hF trivial
  split at h
  ·rename_i c hp
   rw [hp,Bg] at hpx
   obtain ⟨ch,hk,hc⟩:=hpx
   split at h
   ·rename_i b l it hk'
    rw [hk'] at hk;injection hk with hk;subst hk
    cases hks:KI P t0 with
    |false=>rw [hks] at h;cases h
    |true=>
     rw [hks,cond_true] at h
     injection h with h;subst h
     obtain ⟨kt,et,hu,hkt,_⟩:=NV hks
     obtain ⟨_,p,_,⟨es,clock,hes,hM,_⟩,hsub⟩:=hS.get D hk'
     refine WT.EE ho hw (.inl (Ao0 hop hc hu (hsub _ _ hes) hM)) (H _ _ _ ht (Bf.refl K) (λ_ _ _ _ h=>h) _ _ ⟨_,rfl⟩ ?_ hS)
     exact hF.put g2 g3 λ_=>⟨rfl,A8⟩
   ·cases h
  ·cases h
 ·
  rename_i t0 m hop
  have hpx:=Bv (x:=m) (g:=none) hF trivial
  split at h
  ·rename_i c hp
   rw [hp,Bg] at hpx
   obtain ⟨ch,hk,hc⟩:=hpx
   split at h
   ·rename_i b l hk'
    rw [hk'] at hk;injection hk with hk;subst hk
    cases hks:KI P t0 with
    |false=>rw [hks] at h;cases h
    |true=>
     rw [hks,cond_true] at h
     injection h with h;subst h
     obtain ⟨kt,et,hu,hkt,_⟩:=NV hks
     obtain ⟨_,p,_,⟨es,clock,hes,hM,_⟩,hsub⟩:=hS.get D hk'
     have hcmp:∀v pk,DJ (kX (σ:=σ) b l none) v pk→DJ (kX (σ:=σ) b l (some (w.heap.size,[],l))) v pk:= λv pk hv=>by cases pk<;>first|exact hv|exact hv.elim
     refine WT.EE ho hw (.inl (Alq hop hc hu (hsub _ _ hes))) (H _ _ _ (ht w.heap.size) (Bf.set hk' hcmp) (DN.set hk' λb t cs e=>by cases e) _ _ ⟨_,rfl⟩ ?_ ?_)
     ·exact (hF.ext (Bf.set hk' hcmp) (hF.kok.set hk' hcmp λb' t' cs' e=>by cases e)).put g2 g3 λ_=>⟨rfl,Bg.2 ⟨_,iT (BD hk'),rfl⟩⟩
     ·unfold Af
      rw [jU]
      refine Sat.grow hS (C9 D hk') _ λY p p' hp hs hno hpo hpb=>?_
      obtain ⟨es2,clock2,hh,hM2,_⟩:=hp
      have e:=hs _ _ hh
      rw [hsub _ _ hes] at e
      simp only [iA,Obj.map.injEq] at e
      obtain ⟨rfl,rfl⟩:=e
      have hne:b≠w.heap.size:= λe=>by rw [e,hno] at hh;cases hh
      exact ⟨es,clock,by rw [hpo b hne];exact hh,hM2, λe=>hne e.symm,_,hpb,Y1.start hM2⟩
   ·cases h
  ·cases h
 ·
  rename_i x hop
  have hpx:=Bv (x:=x) (g:=none) hF trivial
  split at h
  ·rename_i c hp
   rw [hp,Bg] at hpx
   obtain ⟨ch,hk,hc⟩:=hpx
   split at h
   ·rename_i b l i0 cur r hk'
    rw [hk'] at hk;injection hk with hk;subst hk
    injection h with h;subst h
    obtain ⟨_,p,_,⟨es,clock,hes,hM,hne,ob,hob,hI⟩,hsub⟩:=hS.get D hk'
    rcases AmO (P:=P) (w:=w) hop hc (hsub _ _ hes) (hsub _ _ hob) hM hI with ⟨rfl,hrun⟩|⟨hr,n0,ob',w1,g1,e1,e2,e3,hI',hrun⟩
    ·refine WT.EE ho hw (.inl hrun) (H _ _ _ (ht.1 rfl) (Bf.refl K) (λ_ _ _ _ h=>h) _ _ ⟨_,rfl⟩ ?_ hS)
     exact hF.put g2 g3 λ_=>⟨rfl,A8⟩
    ·have hnil:PV r=false:=by cases r with|nil=>exact absurd rfl hr|cons _ _=>rfl
     have hcmp:∀v pk,DJ (kX (σ:=σ) b l (some (i0,cur,r))) v pk→DJ (kX (σ:=σ) b l (some (i0,[Dq r n0],Hf r n0))) v pk:= λv pk hv=>by cases pk<;>exact hv
     refine WT.EE ho hw (.inl hrun) (H _ _ _ (ht.2 hnil n0) (Bf.set hk' hcmp) (DN.set hk' λb t cs e=>by cases e) _ _ ⟨_,rfl⟩ ?_ ?_)
     ·exact (hF.ext (Bf.set hk' hcmp) (hF.kok.set hk' hcmp λb' t' cs' e=>by cases e)).put g2 g3 λ_=>⟨rfl,A8⟩
     ·unfold Af
      rw [jU]
      have hob1:w1.heap[i0]? =some ob:=by rw [g1];exact hsub _ _ hob
      have hb:=MapKept.heap_set (o':=ob') hob1
      refine Sat.writeS hS (b:=i0) (C9 D hk') (λY p hp=>?_) ⟨e1,e2,e3⟩ (by simp [g1]) (λc hc=>by rw [hb.2 c hc,g1]) λY p p' hp hs hpo hpb=>?_
      ·obtain ⟨_,_,_,_,_,o2,ho2,_⟩:=hp;rw [ho2];simp
      ·obtain ⟨es2,clock2,hh,hM2,_,o2,ho2,_⟩:=hp
       have e:=hs _ _ hh
       rw [hsub _ _ hes] at e
       simp only [iA,Obj.map.injEq] at e
       obtain ⟨rfl,rfl⟩:=e
       exact ⟨es,clock,by rw [hpo b (λe=>hne e.symm)];exact hh,hM2,hne,ob',by rw [hpb];exact hb.1,hI'⟩
   ·cases h
  ·cases h
 ·
  rename_i x hop
  have hpx:=Bv (x:=x) (g:=none) hF trivial
  split at h
  ·rename_i c hp
   rw [hp,Bg] at hpx
   obtain ⟨ch,hk,hc⟩:=hpx
   split at h
   ·rename_i b l i0 cu r hk'
    rw [hk'] at hk;injection hk with hk;subst hk
    injection h with h;subst h
    obtain ⟨hone,ht⟩:=ht
    have ht:=ht hone
    obtain ⟨y,rfl⟩:∃y,cu=[y]:=by
     match cu,hone with
     |[y],_=>exact ⟨y,rfl⟩
    obtain ⟨_,p,_,⟨es,clock,hes,hM,hne,ob,hob,hI⟩,hsub⟩:=hS.get D hk'
    refine WT.EE ho hw (.inl (Alr hop hc (hsub _ _ hes) (hsub _ _ hob) hM hI)) (H _ _ _ ht (Bf.refl K) (λ_ _ _ _ h=>h) _ _ ⟨_,rfl⟩ ?_ hS)
    exact hF.put g2 g3 λ_=>⟨rfl,A8⟩
   ·cases h
  ·cases h
 ·cases h
theorem TB:∀{K:List (Chunk σ)} {m j:Nat} {q:Addr},Md m K=some (j,q)→m≤j∧∃s,K[j-m]? =some (.obj q s)
 |[],m,j,q,h=>by simp [Md] at h
 |c::K,m,j,q,h=>by
  by_cases hc:∃p s,c= .obj p s
  ·obtain ⟨p,s,rfl⟩:=hc
   simp only [Md,iA,iP] at h
   obtain ⟨rfl,rfl⟩:=h
   exact ⟨jY _,s,by simp⟩
  ·have:Md (m+1) K=some (j,q):=by
    cases c<;>first|exact h|exact absurd ⟨_,_,rfl⟩ hc
   obtain ⟨h1,s,h2⟩:=TB this
   refine ⟨by omega,s,?_⟩
   have e:j-m=(j-(m+1))+1:=by omega
   rw [e,kO];exact h2
theorem Ajc {ops:Array Oper} {i:Nat} {rest:List Nat} {td:List Item} {k:Value→Pr→List (Chunk σ)→Tree σ} {t:Tree σ} {R':Value→Pr→List (Chunk σ)→Prop} {S':List Ab→List Ak→List (Chunk σ)→Prop}
 (ho:ops[i]? =some o) (hw:iZ o (yielded ops a.tmps)=true) (g2:∀d,o.dst=some d→d<n) (hF:Fr n L K a) (hS:Af D E G w K) (h:AfS P L K o k=some t) (ht:t.holds R' S')
 (H:∀v pr K',(k v pr K').holds R' S'→Bf K K'→DN K K'→∀a' w',(∃u,a'=a.put o.dst u)→Fr n (Dw o.dst none v pr L) K' a'→Af D E G w' K'→WT P f R (.inRegion ops rest::td) a' w'):WT P f R (.inRegion ops (i::rest)::td) a w:=by
 have g3:∀(d c:Nat) (b:Bool),o.dst=some d→(none:Option (Nat×Bool))=some (c,b)→c≠d:= λ_ _ _ _ h=>by cases h
 unfold AfS at h
 split at h
 ·
  rename_i t0 hop
  cases hks:UB P t0 with
  |false=>rw [hks] at h;cases h
  |true=>
   rw [hks,cond_true] at h
   injection h with h;subst h
   have hrun:(execOp a.eval o).run P w= .ok (.value (.map (some w.heap.size))) (w.alloc (.map #[] 0)):=by
    simp only [execOp,hop,iR,nH]
    rfl
   refine WT.EE ho hw (.inl hrun) (H _ _ _ (ht w.heap.size) (Bf.append K _) (DN.append K _) _ _ ⟨_,rfl⟩ ?_ ?_)
   ·have hk:Dz (K++[Chunk.fm w.heap.size []]):=hF.kok.append λb t cs hm=>by simp at hm
    exact (hF.ext (Bf.append K _) hk).put g2 g3 λ_=>⟨rfl,Bg.2 ⟨_,jT,rfl⟩⟩
   ·have:=Sat.alloc hS (.map #[] 0)
    unfold Af
    rw [jD]
    refine this.imp λi B hB=>?_
    rcases jB i (K.map (den D G)).length with hl|hl
    ·rw [iI hl] at hB
     exact ⟨B,by rw [iI hl];exact hB, λ_ _ h=>h⟩
    ·rw [iJ hl] at hB
     have hz:i-(K.map (den D G)).length=0:=by have:=BD hB;simp only [iD,kD,lV] at this;omega
     rw [hz] at hB
     simp only [iD,kD,jH,iA] at hB
     refine ⟨pt w.heap.size (.map #[] 0),?_,?_⟩
     ·rw [iJ hl,hz];rfl
     ·subst hB
      intro Y p hp
      exact ⟨#[],0,hp,rfl⟩
 ·
  rename_i t0 m i0 x hop
  have hpx:=Bv (x:=m) (g:=none) hF trivial
  split at h
  ·rename_i c z f0 q hp hi hx
   have hei:=AU (g:=none) hF trivial hi
   have hex:=AU (g:=none) hF trivial hx
   rw [hp,Bg] at hpx
   obtain ⟨ch,hk,hc⟩:=hpx
   split at h
   ·rename_i b l hk'
    rw [hk'] at hk;injection hk with hk;subst hk
    cases hks:UB P t0&&(NU l z).isNone with
    |false=>rw [hks] at h;cases h
    |true=>
     rw [hks,cond_true] at h
     injection h with h;subst h
     simp only [iE,Option.isNone_iff_eq_none] at hks
     obtain ⟨kt,et,hu,hkt⟩:=Aed hks.1
     obtain ⟨_,p,_,⟨es,clock,hes,hM⟩,hsub⟩:=hS.get D hk'
     obtain ⟨es',clock',hrun,hM'⟩:=Ao1 (P:=P) (w:=w) (z:=z) (f:=f0) (q:=q) hop hc hei hex hu hkt (hsub _ _ hes) hM hks.2
     have hcmp:∀v pk,DJ (Chunk.fm (σ:=σ) b l) v pk→DJ (Chunk.fm (σ:=σ) b (l++[(z,f0,q)])) v pk:= λv pk hv=>by cases pk<;>exact hv
     refine WT.EE ho hw (.inr ⟨hrun,rfl⟩) (H _ _ _ ht (Bf.set hk' hcmp) (DN.set hk' λb t cs e=>by cases e) _ _ ⟨_,rfl⟩ ?_ ?_)
     ·exact (hF.ext (Bf.set hk' hcmp) (hF.kok.set hk' hcmp λb' t' cs' e=>by cases e)).put g2 g3 λ_=>⟨rfl,A8⟩
     ·unfold Af
      rw [jU]
      have hb:=MapKept.heap_set (o':= .map es' clock') (hsub _ _ hes)
      refine Sat.write' hS (b:=b) (C9 D hk') (λY p hp=>?_) ⟨rfl,rfl,rfl⟩ (by simp) (λc hc=>hb.2 c hc) λY p p' hp hpo hpb=>?_
      ·obtain ⟨_,_,hh,_⟩:=hp;rw [hh];simp
      ·exact ⟨es',clock',by rw [hpb];exact hb.1,hM'⟩
   ·cases h
  ·cases h
 ·
  rename_i t0 m i0 hop
  have hpx:=Bv (x:=m) (g:=none) hF trivial
  split at h
  ·rename_i c z hp hi
   have hei:=AU (g:=none) hF trivial hi
   rw [hp,Bg] at hpx
   obtain ⟨ch,hk,hc⟩:=hpx
   split at h
   ·rename_i b l hk'
    rw [hk'] at hk;injection hk with hk;subst hk
    split at h
    ·rename_i f0 q j q' hg hfo
     cases hks:UB P t0 with
     |false=>rw [hks] at h;cases h
     |true=>
      rw [hks,cond_true] at h
      injection h with h;subst h
      obtain ⟨rfl,ht⟩:=ht
      have ht:=ht rfl
      obtain ⟨kt,et,hu,hkt⟩:=Aed hks
      obtain ⟨_,p,_,⟨es,clock,hes,hM⟩,hsub⟩:=hS.get D hk'
      obtain ⟨_,s0,hs0⟩:=TB hfo
      refine WT.EE ho hw (.inl (AmP hop hc hei hu hkt (hsub _ _ hes) hM hg)) (H _ _ _ ht (Bf.refl K) (λ_ _ _ _ h=>h) _ _ ⟨_,rfl⟩ ?_ hS)
      refine hF.put g2 g3 λ_=>⟨rfl,?_⟩
      simp only [fnV,BH]
      exact ⟨_,rfl,_,hs0,rfl⟩
    ·cases h
   ·cases h
  ·cases h
 ·
  rename_i t0 x hop
  have hpx:=Bv (x:=x) (g:=none) hF trivial
  split at h
  ·rename_i m e c off q hu hp hx
   have hex:=AU (g:=none) hF trivial hx
   rw [hp,Bg] at hpx
   obtain ⟨ch,hk,hc⟩:=hpx
   split at h
   ·rename_i sz b t cs hsz hk'
    rw [hk'] at hk;injection hk with hk;subst hk
    injection h with h;subst h
    have hc:a.eval x= .pointer (some ⟨b,off,none⟩):=hc
    rw [hex] at hc;injection hc with hc;injection hc with hc;subst hc
    refine WT.EE ho hw (.inl (Aqe hop hex hu hsz)) (H _ _ _ ht (Bf.refl K) (λ_ _ _ _ h=>h) _ _ ⟨_,rfl⟩ ?_ hS)
    exact hF.put g2 g3 λ_=>⟨rfl,Bg.2 ⟨_,hk',_,_,rfl⟩⟩
   ·cases h
  ·cases h
 ·
  rename_i t0 x ix hop
  have hpx:=Bv (x:=x) (g:=none) hF trivial
  split at h
  ·rename_i e c off q m m2 kk z hu hp hx hi
   have hex:=AU (g:=none) hF trivial hx
   have hei:=AU (g:=none) hF trivial hi
   rw [hp,Bg] at hpx
   obtain ⟨ch,hk,hc⟩:=hpx
   split at h
   ·rename_i sz b t cs hsz hk'
    rw [hk'] at hk;injection hk with hk;subst hk
    injection h with h;subst h
    obtain ⟨hn,ht⟩:=ht
    have ht:=ht hn
    obtain ⟨_,_,hc⟩:∃n m,a.eval x= .slice (some ⟨b,off,none⟩) n m:=hc
    rw [hex] at hc;injection hc with hc _ _;injection hc with hc;subst hc
    refine WT.EE ho hw (.inl (Aqf hop hex hei hu hsz hn)) (H _ _ _ ht (Bf.refl K) (λ_ _ _ _ h=>h) _ _ ⟨_,rfl⟩ ?_ hS)
    exact hF.put g2 g3 λ_=>⟨rfl,Bg.2 ⟨_,hk',by simp [DJ,Addr.add]⟩⟩
   ·cases h
  ·cases h
 ·
  rename_i t0 x ix hop
  split at h
  ·rename_i m e cs kk z hu hx hi
   have hex:=AU (g:=none) hF trivial hx
   have hei:=AU (g:=none) hF trivial hi
   split at h
   ·rename_i xs hv hsz
    cases hb:NS P e&&iL m xs.length with
    |false=>rw [hb] at h;cases h
    |true=>
     rw [hb,cond_true] at h
     injection h with h;subst h
     simp only [iE] at hb
     obtain ⟨hn,ht⟩:=ht
     have ht:=ht hn
     refine WT.EE ho hw (.inl (Aqg hop hex hei hu hsz hb.1 hv (iF hb.2) hn)) (H _ _ _ ht (Bf.refl K) (λ_ _ _ _ h=>h) _ _ ⟨_,rfl⟩ ?_ hS)
     exact hF.put g2 g3 λ_=>⟨rfl,A8⟩
   ·cases h
  ·cases h
 ·cases h
theorem Ag5 {T:List (Nat×Entry σ)} (hT:BO D P T) {ops:Array Oper} {i:Nat} {rest:List Nat} {td:List Item} {k:Value→Pr→List (Chunk σ)→Tree σ} {t:Tree σ} {R':Value→Pr→List (Chunk σ)→Prop} {S':List Ab→List Ak→List (Chunk σ)→Prop}
 {ext:Nat→List (Value×Pr)→List (Chunk σ)→Option (Tree σ)}
 (hext:∀g args prs K t,ext g (lI args prs) K=some t→∀w,AQ K args prs→Dz K→Af D E G w K→∀Q:Value→Pr→List (Chunk σ)→Prop,t.holds Q (λ_ _ _=>False)→Qz P g args.toArray w λen w'=>∃v p K',en= .returned v∧Q v p K'∧Bf K K'∧Dz K'∧BH K' v p∧Af D E G w' K')
 (ho:ops[i]? =some o) (hw:iZ o (yielded ops a.tmps)=true) (g2:∀d,o.dst=some d→d<n) (hF:Fr n L K a) (hS:Af D E G w K) (h:ZY P T ext L K o k=some t) (ht:t.holds R' S')
 (H:∀v pr K',(k v pr K').holds R' S'→Bf K K'→(((∀t x y,o.op≠ .store t x y)∧∀g a K,ext g a K=none)→DN K K')→∀a' w',(∃u,a'=a.put o.dst u)→Fr n (Dw o.dst none v pr L) K' a'→Af D E G w' K'→WT P f R (.inRegion ops rest::td) a' w'):WT P f R (.inRegion ops (i::rest)::td) a w:=by
 have g3:∀(d c:Nat) (b:Bool),o.dst=some d→(none:Option (Nat×Bool))=some (c,b)→c≠d:= λ_ _ _ _ h=>by cases h
 unfold ZY at h
 split at h
 ·
  rename_i t0 hop
  split at h
  ·rename_i kk vk hks
   injection h with h;subst h
   have hrun:(execOp a.eval o).run P w= .ok (.value (.map (some w.heap.size))) (w.alloc (.map #[] 0)):=by
    simp only [execOp,hop,iR,nH]
    rfl
   refine WT.EE ho hw (.inl hrun) (H _ _ _ (ht w.heap.size) (Bf.append K _) (λ_=>DN.append K _) _ _ ⟨_,rfl⟩ ?_ ?_)
   ·have hk:Dz (K++[Chunk.map w.heap.size kk vk Alf]):=hF.kok.append λb t cs hm=>by simp at hm
    exact (hF.ext (Bf.append K _) hk).put g2 g3 λ_=>⟨rfl,Bg.2 ⟨_,jT,rfl⟩⟩
   ·have:=Sat.alloc hS (.map #[] 0)
    unfold Af
    rw [jD]
    refine this.imp λi B hB=>?_
    rcases jB i (K.map (den D G)).length with hl|hl
    ·rw [iI hl] at hB
     exact ⟨B,by rw [iI hl];exact hB, λ_ _ h=>h⟩
    ·rw [iJ hl] at hB
     have hz:i-(K.map (den D G)).length=0:=by have:=BD hB;simp only [iD,kD,lV] at this;omega
     rw [hz] at hB
     simp only [iD,kD,jH,iA] at hB
     refine ⟨pt w.heap.size (.map #[] 0),?_,?_⟩
     ·rw [iJ hl,hz];rfl
     ·subst hB
      intro Y p hp
      exact ⟨#[],0,hp,by simp, λx=>rfl⟩
  ·cases h
 ·
  rename_i t0 m i0 x hop
  have hpx:=Bv (x:=m) (g:=none) hF trivial
  split at h
  ·rename_i c ki iv kx xv kk0 vk0 hp hi hx hks
   have hei:=AU (g:=none) hF trivial hi
   have hex:=AU (g:=none) hF trivial hx
   rw [hp,Bg] at hpx
   obtain ⟨ch,hk,hc⟩:=hpx
   split at h
   ·rename_i b kk vk f hk'
    rw [hk'] at hk;injection hk with hk;subst hk
    split at h
    ·rename_i q1 q2 q3 _ _ _
     subst q1;subst q2;subst q3
     injection h with h;subst h
     obtain ⟨kt,et,hu,hkt⟩:=Aai hks
     obtain ⟨_,p,_,⟨es,clock,hes,hM⟩,hsub⟩:=hS.get D hk'
     obtain ⟨es',clock',hrun,hM'⟩:=Afl (P:=P) (w:=w) hop hc hei hex hu hkt (hsub _ _ hes) hM
     have hcmp:∀v pk,DJ (Chunk.map (σ:=σ) b kk0 kx f) v pk→DJ (Chunk.map (σ:=σ) b kk0 kx (Aon f iv xv)) v pk:= λv pk hv=>by cases pk<;>exact hv
     refine WT.EE ho hw (.inr ⟨hrun,rfl⟩) (H _ _ _ ht (Bf.set hk' hcmp) (λ_=>DN.set hk' λb t cs e=>by cases e) _ _ ⟨_,rfl⟩ ?_ ?_)
     ·exact (hF.ext (Bf.set hk' hcmp) (hF.kok.set hk' hcmp λb' t' cs' e=>by cases e)).put g2 g3 λ_=>⟨rfl,A8⟩
     ·unfold Af
      rw [jU]
      have hb:=MapKept.heap_set (o':= .map es' clock') (hsub _ _ hes)
      refine Sat.write' hS (b:=b) (C9 D hk') (λY p hp=>?_) ⟨rfl,rfl,rfl⟩ (by simp) (λc hc=>hb.2 c hc) λY p p' hp hpo hpb=>?_
      ·obtain ⟨_,_,hh,_⟩:=hp;rw [hh];simp
      ·exact ⟨es',clock',by rw [hpb];exact hb.1,hM'⟩
    ·cases h
   ·cases h
  ·cases h
 ·
  rename_i m t0 hop
  have hpx:=Bv (x:=m) (g:=none) hF trivial
  split at h
  ·rename_i c kv hp hks
   obtain ⟨kk0,vk0⟩:=kv
   rw [hp,Bg] at hpx
   obtain ⟨ch,hk,hc⟩:=hpx
   split at h
   ·rename_i b kk vk f hk'
    rw [hk'] at hk;injection hk with hk;subst hk
    injection h with h;subst h
    obtain ⟨kt,et,hu,hkt⟩:=Aai hks
    obtain ⟨_,p,_,⟨es,clock,hes,hM⟩,hsub⟩:=hS.get D hk'
    have hrun:(execOp a.eval o).run P w= .ok (.value (.tuple #[])) {w with heap:=w.heap.setIfInBounds b (.map #[] clock)}:=by
     simp only [execOp,hop,resolve,invoke,builtin,iR,iY,Result.andThen_ok,nU,iD,kD]
     rw [show a.eval m= .map (some b) from hc]
     simp only [Builtin.clear_,iR,nL,jH,run_underlying hu,Result.andThen_ok,MapKept.run_getObj_map (hsub _ _ hes),MapKept.run_setObj_map _ (hsub _ _ hes),iY]
    have hcmp:∀v pk,DJ (Chunk.map (σ:=σ) b kk vk f) v pk→DJ (Chunk.map (σ:=σ) b kk vk Alf) v pk:= λv pk hv=>by cases pk<;>exact hv
    refine WT.EE ho hw (.inl hrun) (H _ _ _ ht (Bf.set hk' hcmp) (λ_=>DN.set hk' λb t cs e=>by cases e) _ _ ⟨_,rfl⟩ ?_ ?_)
    ·exact (hF.ext (Bf.set hk' hcmp) (hF.kok.set hk' hcmp λb' t' cs' e=>by cases e)).put g2 g3 λ_=>⟨rfl,A8⟩
    ·unfold Af
     rw [jU]
     have hb:=MapKept.heap_set (o':= .map #[] clock) (hsub _ _ hes)
     refine Sat.write' hS (b:=b) (C9 D hk') (λY p hp=>?_) ⟨rfl,rfl,rfl⟩ (by simp) (λc hc=>hb.2 c hc) λY p p' hp hpo hpb=>?_
     ·obtain ⟨_,_,hh,_⟩:=hp;rw [hh];simp
     ·exact ⟨#[],clock,by rw [hpb];exact hb.1,by simp, λx=>rfl⟩
   ·cases h
  ·cases h
 ·
  rename_i t0 x hop
  split at h
  ·rename_i v hv
   have hev:=AU (g:=none) hF trivial hv
   cases h1:J8 v.cells.toList with
   |false=>rw [h1] at h;simp at h
   |true=>
    rw [h1] at h
    simp only [cond_true,iA] at h
    subst h
    have hpx:=Bv (x:=x) (g:=none) hF trivial
    rw [hev] at hpx
    refine WT.EE ho hw (.inl (ApZ hop)) (H _ _ _ (ht w.heap.size) (Bf.append K _) (λ_=>DN.append K _) _ _ ⟨_,rfl⟩ ?_ ?_)
    ·have hk:Dz (K++[jG w.heap.size t0 (Jg v (Dl none L x))]):=hF.kok.append λb t cs hm y hy=>by
      simp only [jR,Chunk.cells.injEq] at hm
      obtain ⟨_,_,rfl⟩:=hm
      exact (PW hpx y hy).ext (Bf.append K _)
     exact (hF.ext (Bf.append K _) hk).put g2 g3 λ_=>⟨rfl,Bg.2 ⟨_,jT,rfl⟩⟩
    ·have:=Sat.alloc hS (.cells (a.eval x).cells t0)
     rw [hev] at this ⊢
     unfold Af
     rw [jD]
     simp only [iD,kD,den,Lc,mW]
     exact this
  ·cases h
 ·
  rename_i t0 hop
  split at h
  ·rename_i ti hi
   split at h
   ·rename_i v hz
    cases h1:J8 v.cells.toList with
    |false=>rw [h1] at h;simp at h
    |true=>
     rw [h1] at h
     simp only [cond_true,iA] at h
     subst h
     refine WT.EE ho hw (.inl (AmJ hop hi hz)) (H _ _ _ (ht w.heap.size) (Bf.append K _) (λ_=>DN.append K _) _ _ ⟨_,rfl⟩ ?_ ?_)
     ·have hk:Dz (K++[jG w.heap.size t0 (Jg v .no)]):=hF.kok.append λb t cs hm y hy=>by
       simp only [jR,Chunk.cells.injEq] at hm
       obtain ⟨_,_,rfl⟩:=hm
       exact (PW (K:=K) A8 y hy).ext (Bf.append K _)
      exact (hF.ext (Bf.append K _) hk).put g2 g3 λ_=>⟨rfl,Bg.2 ⟨_,jT,rfl⟩⟩
     ·have:=Sat.alloc hS (.cells v.cells t0)
      unfold Af
      rw [jD]
      simp only [iD,kD,den,Lc,mW]
      exact this
   ·cases h
  ·cases h
 ·
  rename_i t0 x y hop
  have hpx:=Bv (x:=x) (g:=none) hF trivial
  have hpy:=Bv (x:=y) (g:=none) hF trivial
  split at h
  ·rename_i c off v m hp hv hm
   have hev:=AU (g:=none) hF trivial hv
   rw [hp,Bg] at hpx
   rw [hev] at hpy
   obtain ⟨ch,hk,hc⟩:=hpx
   split at h
   ·rename_i b tb cs hk'
    rw [hk'] at hk;injection hk with hk;subst hk
    cases hcond:iL v.cells.size m&&jS (off+m) cs.length&&J8 v.cells.toList with
    |false=>rw [hcond] at h;simp at h
    |true=>
     rw [hcond] at h
     simp only [cond_true,iA] at h
     subst h
     simp only [iE] at hcond
     obtain ⟨⟨hs1,hs2⟩,hs3⟩:=hcond
     have hsz:=iF hs1
     have hfit:=iQ hs2
     have hb:w.heap[b]? =some (.cells (cs.map (·.1)).toArray tb (0,0)):=Sat.pt hS (C9 D hk')
     have hrun:=Xj (P:=P) (o:=o) (a:=a) (w:=w) (cur:=(cs.map (·.1)).toArray) (t0:=tb) hop hc hm (by rw [hev];exact hsz) hb (by simpa using hfit) (by rw [hev];exact Afm hs3)
     have hcell:(Jg v (Dl none L y)).length=m:=by
      have:=congrArg iH (Lc v (Dl none L y))
      simpa [hsz] using this
     refine WT.EE ho hw (.inr ⟨hrun,rfl⟩) (H _ _ _ ht (Bf.set hk' λv pk hv=>by cases pk<;>exact hv) (λhn=>absurd hop (hn.1 _ _ _)) _ _ ⟨_,rfl⟩ ?_ ?_)
     ·have hkk:Dz (K.set c (.cells b tb (FP cs off (Jg v (Dl none L y))))):=hF.kok.set hk' (λv pk hv=>by cases pk<;>exact hv) λb' t' cs' e z hz=>by
       injection e with _ _ e;subst e
       rcases Xg _ _ _ z hz with hz|hz
       ·exact hF.kok _ _ _ _ hk' z hz
       ·exact PW hpy z hz
      exact (hF.ext (Bf.set hk' λv pk hv=>by cases pk<;>exact hv) hkk).put g2 g3 λ_=>⟨rfl,A8⟩
     ·unfold Af
      rw [jU]
      refine Sat.write hS (C9 D hk') ⟨rfl,rfl,rfl⟩ (by simp) (λc hc=>setRow_other _ _ _ _ hc) λY k hk=>?_
      rw [setRow_heap _ _ _ _ _ _ hb] at hk
      show k b=_
      rw [hk,Xf,Lc,Aag _ _ _ (by rw [lS,hsz];simpa using hfit),hev,lS,hsz]
   ·cases h
  ·rename_i c ei off v m hp hv hm
   have hev:=AU (g:=none) hF trivial hv
   rw [hp,Bg] at hpx
   obtain ⟨ch,hk,hc⟩:=hpx
   split at h
   ·rename_i ra tb len cap cols hk'
    rw [hk'] at hk;injection hk with hk;subst hk
    cases hcond:iL v.cells.size m&&jS 1 m with
    |false=>rw [hcond] at h;simp at h
    |true=>
     rw [hcond] at h
     simp only [cond_true] at h
     simp only [iE] at hcond
     have hm1:=iQ hcond.2
     split at h
     ·rename_i cols' hset
      injection h with h;subst h
      have hsz:=iF hcond.1
      obtain ⟨hin,b,rfl,hpv⟩:=hc
      obtain ⟨_,q,_,hq,hqs⟩:=hS.get D hk'
      obtain ⟨d1,d2,cur,d3,d4,d5,d6,d7⟩:=hq
      obtain ⟨s1,s2,s3,s4,s5⟩:=O4 hin hset d1
      have hb:=hqs _ _ d3
      rw [Addr.JB,lD] at hpv
      have hvl:v.cells.toList.length=m:=by simpa using hsz
      have hrow1:ei*cols.length+cols.length≤len*cols.length:=by
       have:(ei+1)*cols.length≤len*cols.length:=kF _ hin
       rw [mU] at this;exact this
      have hrow2:len*cols.length≤cap*cols.length:=kF _ d4
      have hoff:off+m≤cols.length:=by
       rcases s3 with s3|s3
       ·rw [s3] at hvl;simp at hvl;omega
       ·rw [hvl] at s3;exact s3
      have hfit:ei*cols.length+off+m≤cur.size:=by omega
      have hrun:=Xj (P:=P) (o:=o) (a:=a) (w:=w) (cur:=cur) (t0:=tb) hop hpv hm (by rw [hev];exact hsz) hb hfit (by rw [hev];exact s4)
      have hcmp:∀v pk,DJ (lA (σ:=σ) (some b) tb len cap cols) v pk→DJ (lA (σ:=σ) (some b) tb len cap cols') v pk:= λv pk hv=>by
       cases pk<;>simp only [DJ,s1] at hv ⊢ <;>exact hv
      refine WT.EE ho hw (.inr ⟨hrun,rfl⟩) (H _ _ _ ht (Bf.set hk' hcmp) (λhn=>absurd hop (hn.1 _ _ _)) _ _ ⟨_,rfl⟩ ?_ ?_)
      ·exact (hF.ext (Bf.set hk' hcmp) (hF.kok.set hk' hcmp λb' t' cs' e=>by cases e)).put g2 g3 λ_=>⟨rfl,A8⟩
      ·unfold Af
       rw [jU]
       refine Sat.write' hS (b:=b) (C9 D hk') (λY p hp=>?_) ⟨rfl,rfl,rfl⟩ (by simp) (λc hc=>setRow_other _ _ _ _ hc) λY p p' hp hpo hpb=>?_
       ·obtain ⟨_,_,cs,hh,_⟩:=hp;rw [hh];simp
       ·rw [setRow_heap _ _ _ _ _ _ hb] at hpb
        refine ⟨s2,by omega,_,hpb,d4,d5,?_,?_⟩
        ·rw [s1]
         simp only [List.size_toArray,jL,lW,List.length_drop,lS,hev,hsz]
         omega
        ·rw [s1,hev]
         exact Ao2 hin s1 hvl hoff (by simp;omega) d7 s5
     ·cases h
   ·cases h
  ·cases h
 ·
  rename_i t0 len parts hop
  split at h
  ·rename_i e hu
   split at h
   ·rename_i sz cols ei vals hsz hcols hei hvals
    split at h
    ·rename_i z hz
     split at h
     ·rename_i cells hf
      split at h
      ·rename_i cols' hto
       cases hcond:iL sz cols.length&&jS 1 sz&&jS (len*sz) 16777216 with
       |false=>rw [hcond] at h;simp at h
       |true=>
        rw [hcond] at h
        simp only [cond_true,iA] at h
        subst h
        simp only [iE] at hcond
        have q1:=iF hcond.1.1
        have q2:=iQ hcond.1.2
        have q3:=iQ hcond.2
        obtain ⟨r1,r2,r3⟩:=Xh hto (Ns 4 e cols hcols)
        rw [lD] at r2 r3
        have r3':flat cols' len=cells.toList:=by simpa [flat] using r3
        have hcs:cells.size=len*cols.length:=by
         have:=congrArg iH r3'
         rw [GN,r1] at this
         simpa using this.symm
        have hrun:(execOp a.eval o).run P w= .ok (.value (Be (some w.heap.size) len len)) (w.alloc (.cells cells e)):=by
         have hb:=Ac3 (w:=w) (len:=len) (parts:=(parts.map λx=>(x.1,a.eval x.2))) hu hsz hei hz q3 (by
          rw [lY,Xk hF _ _ hvals];exact hf)
         simp only [execOp,hop,iR]
         erw [hb]
         rfl
        have hlm:len≤maxLen:=by
         have:len*1≤len*sz:=Nat.mul_le_mul_left _ q2
         unfold maxLen;omega
        refine WT.EE ho hw (.inl hrun) (H _ _ _ (ht w.heap.size) (Bf.append K _) (λ_=>DN.append K _) _ _ ⟨_,rfl⟩ ?_ ?_)
        ·exact (hF.ext (Bf.append K _) hF.kok.row).put g2 g3 λ_=>⟨rfl,Bg.2 ⟨_,jT,rfl⟩⟩
        ·exact Af.Aee D hS rfl r2 (by omega) (jY _) hlm (by rw [r1];exact hcs) (by rw [r1,←hcs,r3',←lS,mH])
      ·cases h
     ·cases h
    ·cases h
   ·cases h
  ·cases h
 ·
  rename_i t0 l c hop
  split at h
  ·rename_i e kl li kc ci hu hl hc
   split at h
   ·rename_i ei cols hei hcols
    split at h
    ·rename_i z hz
     split at h
     ·rename_i cols1 hpr
      split at h
      ·rename_i cols' hrep
       cases hcond:iL ei.size cols.length&&jS 1 ei.size&&jS 1 ei.bytes&&iL z.cells.size ei.size with
       |false=>rw [hcond] at h;simp at h
       |true=>
        rw [hcond] at h
        simp only [cond_true,iA] at h
        subst h
        obtain ⟨⟨b1,b2,b3⟩,ht⟩:=ht
        have ht:=ht ⟨b1,b2,b3⟩
        simp only [iE] at hcond
        have q1:=iF hcond.1.1.1
        have q2:=iQ hcond.1.1.2
        have q3:=iQ hcond.1.2
        have q4:=iF hcond.2
        obtain ⟨p1,p2,p3,_,_⟩:=O3 hpr (Ns 4 e cols hcols)
        obtain ⟨r1,r2,r3⟩:=UJ hrep
        have hci:ci≤140737488355328:=by
         have:(1:Int)*ci≤ei.bytes*ci:=Int.mul_le_mul_of_nonneg_right (by omega) (by omega)
         omega
        have hel:=AU (g:=none) hF trivial hl
        have hec:=AU (g:=none) hF trivial hc
        have hmk:=run_make (P:=P) w t0 e ei z hu hei hz kl kc li ci b1 b2 (by omega) (by omega)
        have hrun:(execOp a.eval o).run P w= .ok (.value (Be (some w.heap.size) li.toNat ci.toNat)) (w.alloc (.cells (madeCells z.cells (ci.toNat*ei.size)) e)):=by
         simp only [execOp,hop,hel,hec,iR,hmk,Result.andThen_ok,iY]
         rfl
        refine WT.EE ho hw (.inl hrun) (H _ _ _ (ht w.heap.size) (Bf.append K _) (λ_=>DN.append K _) _ _ ⟨_,rfl⟩ ?_ ?_)
        ·exact (hF.ext (Bf.append K _) hF.kok.row).put g2 g3 λ_=>⟨rfl,Bg.2 ⟨_,jT,rfl⟩⟩
        ·refine Af.Aee D hS rfl r2 (by omega) (by omega) (by unfold maxLen;omega) (by rw [r1,p1,←q1,size_madeCells]) ?_
         rw [r1,p1]
         have hpl:cols1.length=cols.length:=p1
         apply lB
         intro k
         by_cases hk:k<li.toNat*cols.length
         ·have hs:0<cols.length:=by omega
          have hkd:k=k/cols.length*cols.length+k%cols.length:=by rw [nQ];exact (Nat.div_add_mod k cols.length).symm
          have hj:k%cols.length<cols.length:=mB _ hs
          have hi':k/cols.length<li.toNat:=Nat.div_lt_of_lt_mul (by rw [nQ];exact hk)
          have hle:li.toNat*cols.length≤ci.toNat*ei.size:=by rw [q1];exact kF _ (by omega)
          obtain ⟨c2,hc2⟩:∃c2,cols'[k%cols.length]? =some c2:=⟨_,iK (by omega)⟩
          have hg:=flat_get hi' hc2
          rw [r1,p1,←hkd] at hg
          rw [hg,kJ,if_pos hk]
          have hat:=congrArg (λl=>l[k%cols.length]?) (r3 _ hi')
          simp only [iM,hc2,iS] at hat
          have hzc:=congrArg (λl=>l[k%cols.length]?) p3
          simp only [kZ,iM] at hzc
          rw [←hat] at hzc
          have hsz:z.cells.size=cols.length:=by omega
          simp only [madeCells,lY,Array.toList_range,iM,nZ (by omega:k<ci.toNat*ei.size),iS]
          rw [hsz]
          have hz':z.cells[k%cols.length]? =some (c2.at (k/cols.length)):=by simpa using hzc
          rw [getElem!_def,hz']
         ·rw [jE (by simp;omega),jE (by rw [GN,r1,p1];omega)]
      ·cases h
     ·cases h
    ·cases h
   ·cases h
  ·cases h
 ·
  rename_i s x t1 t2 hop
  split at h
  ·rename_i e hu
   split at h
   ·rename_i ei kd len cols ks m cols2 hei hd hs
    split at h
    ·rename_i z cols' hz happ
     cases hcond:iL t1 t2&&neK kd ks&&iL ei.size cols.length&&iL ei.size cols2.length&&jS 1 ei.size&&jS 1 ei.bytes&&iL z.cells.size ei.size&&cols2.all Agj with
     |false=>rw [hcond] at h;simp at h
     |true=>
      rw [hcond] at h
      simp only [cond_true,iA] at h
      subst h
      obtain ⟨hbytes,ht⟩:=ht
      have ht:=ht hbytes
      simp only [iE] at hcond
      obtain ⟨⟨⟨⟨⟨⟨⟨c1,c2⟩,c3⟩,c4⟩,c5⟩,c6⟩,c7⟩,c8⟩:=hcond
      have e1:=iF c1
      subst e1
      obtain ⟨a',cap,w',hrun,hS'⟩:=AiY D (ty:=o.type) hF hS hu hei hz hd hs c2 happ (iF c3) (iF c4) (iQ c5) (iQ c6) (iF c7) c8 hbytes
      have hex:(execOp a.eval o).run P w= .ok (.value (Be a' (len+m) cap)) w':=by
       simp only [execOp,hop,resolve,invoke,builtin,iR,iY,Result.andThen_ok,nU,iD,kD]
       erw [hrun]
       rfl
      have hx:Bf K (KH K kd++[.row a' e (len+m) cap cols']):=by
       cases kd with
       |none=>exact Bf.append _ _
       |some k=>
        rcases hk:K[k]? with _|ch
        ·have:K.set k .dead=K:=List.set_eq_of_length_le (by
          rcases jB k K.length with h'|h'
          ·rw [iK h'] at hk;cases hk
          ·exact h')
         simp only [KH,this];exact Bf.append _ _
        ·exact (Bf.set hk λv pk _=>by cases pk<;>trivial).trans (Bf.append _ _)
      have hck:((∀t x y,o.op≠ .store t x y)∧∀g a K,ext g a K=none)→DN K (KH K kd++[.row a' e (len+m) cap cols']):= λ_=>by
       cases kd with
       |none=>exact DN.append _ _
       |some k=>
        obtain ⟨_,_,_,_,_,hk⟩:=Aja hd
        exact (DN.set hk λb t cs e=>by cases e).trans (DN.append _ _)
      refine WT.EE ho hw (.inl hex) (H _ _ _ (ht a' cap) hx hck _ _ ⟨_,rfl⟩ ?_ hS')
      have hkk:Dz (KH K kd++[.row a' e (len+m) cap cols']):=by
       refine Dz.row ?_
       cases kd with
       |none=>exact hF.kok
       |some k=>
        rcases hk:K[k]? with _|ch
        ·have:K.set k .dead=K:=List.set_eq_of_length_le (by
          rcases jB k K.length with h'|h'
          ·rw [iK h'] at hk;cases hk
          ·exact h')
         simp only [KH,this];exact hF.kok
        ·exact hF.kok.set hk (λv pk _=>by cases pk<;>trivial) λb t cs e=>by cases e
      refine (hF.ext hx hkk).put g2 g3 λ_=>⟨rfl,Bg.2 ⟨.row a' e (len+m) cap cols',?_,rfl⟩⟩
      have hl:(KH K kd).length=K.length:=by cases kd<;>simp [KH]
      rw [←hl];exact jT
    ·cases h
   ·cases h
  ·cases h
 ·
  rename_i t0 x hop
  have hpx:=Bv (x:=x) (g:=none) hF trivial
  split at h
  ·rename_i c0 i0 off hpr
   rw [hpr,Bg] at hpx
   obtain ⟨c,hk,hc⟩:=hpx
   split at h
   ·rename_i a0 m cap cols hk'
    rw [hk'] at hk;injection hk with hk;subst hk
    split at h
    ·rename_i v p chs hl
     injection h with h;subst h
     have hin:i0<m:=hc.1
     obtain ⟨Y0,q0,hy0,hq0,hs0⟩:=hS.get D hk'
     obtain ⟨hv,hno,hpv,hdn⟩:Om P t0 cols i0 off=some v∧(∀c∈chs,∃a n cp cl,c=Chunk.ro a n cp cl)∧BH (K++chs) v p∧∀Y k k':Hp,den D G (.ro a0 m cap cols) Y k→∀B∈chs.map (den D G),B Y k':=by
      unfold AmB at hl
      unfold Om
      split at hl
      ·rename_i n0 ha hn
       cases hb:jS (off+n0) cols.length with
       |false=>rw [hb] at hl;cases hl
       |true=>
        rw [hb,cond_true] at hl
        split at hl
        ·rename_i chs' hch
         simp only [iA,iP] at hl
         obtain ⟨rfl,rfl,rfl⟩:=hl
         have hsub:∀Y:Hp,subs Y m cols→subs Y m ((cols.drop off).take n0):= λY h c hc=>h c (List.mem_of_mem_drop (List.mem_of_mem_take hc))
         have h0:=O6 D (G:=G) (k':=q0) hin (hsub _ hq0.2.2) hch
         refine ⟨(by simp only [cond_true]),h0.2.1,JO (h0.2.2.2 K), λY k k' hd=>(O6 D (G:=G) (k':=k') hin (hsub _ hd.2.2) hch).1⟩
        ·cases hl
      ·rename_i ha
       split at hl
       ·rename_i c1 hc1
        split at hl
        ·rename_i chs' hch
         simp only [iA,iP] at hl
         obtain ⟨rfl,rfl,rfl⟩:=hl
         have hsub:∀Y:Hp,subs Y m cols→subs Y m [c1]:= λY h c hc=>h c (by rw [jR.1 hc];exact iV hc1)
         have h0:=O6 D (G:=G) (k':=q0) hin (hsub _ hq0.2.2) hch
         refine ⟨(by simp only [hc1,iS]),h0.2.1,(by have:=h0.2.2.2 K;simp only [iD,kD,Wv,AQ] at this;exact this.1), λY k k' hd=>(O6 D (G:=G) (k':=k') hin (hsub _ hd.2.2) hch).1⟩
        ·cases hl
       ·cases hl
      ·cases hl
     have hrun:(execOp a.eval o).run P w= .ok (.value v) w:=by
      rcases UE D hS hk' hc with ⟨_,_,_,_,_,b,e1,_⟩|⟨_,_,_,_,b,e1,e2,e3⟩|e1
      ·cases e1
      ·injection e1 with _ _ _ e1;subst e1
       exact Qv hop e2 (PY e3 hv)
      ·cases e1
     have hkk:Dz (K++chs):=hF.kok.append λb t cs hm=>by obtain ⟨_,_,_,_,e⟩:=hno _ hm;cases e
     refine WT.EE ho hw (.inl hrun) (H _ _ _ ht (Bf.append _ _) (λ_=>DN.append _ _) _ _ ⟨_,rfl⟩ ?_ ?_)
     ·exact (hF.ext (Bf.append _ _) hkk).put g2 g3 λ_=>⟨rfl,hpv⟩
     ·unfold Af
      rw [jD]
      exact Sat.Akm hS (C9 D hk') hdn
    ·cases h
   ·cases h
  ·cases h
 ·
  rename_i t0 x lo hi mx hop0
  split at h
  ·rename_i hx
   have hop:=hop0
   split at h
   ·rename_i e0 c0 ad m0 cap0 k0 i hu hpr hvx hvi
    have hpx:=Bv (x:=x) (g:=none) hF trivial
    have hex:=AU (g:=none) hF trivial hvx
    have hei:=AU (g:=none) hF trivial hvi
    rw [hpr,hex,Bg] at hpx
    obtain ⟨c,hk,hc⟩:=hpx
    split at h
    ·rename_i sz ra te m cap cols hsz hk'
     rw [hk'] at hk;injection hk with hk;subst hk
     injection h with h;subst h
     simp only [DJ] at hc
     obtain ⟨hb,ht⟩:=ht
     have ht2:=ht hb
     injection hc with hc1 hc2 hc3
     subst hc1;subst hc2;subst hc3
     have hin:i.toNat≤m0:=by omega
     obtain ⟨_,q,_,hq,_⟩:=hS.get D hk'
     have hmc:m0≤cap0:=by
      obtain ⟨_,_,h3⟩:=hq
      cases ra with
      |none=>simp only at h3;omega
      |some b=>obtain ⟨cs,_,h5,_⟩:=h3;exact h5
     have hx1:Bf K (K.set c0 .dead):=Bf.set hk' λv pk _=>by cases pk<;>trivial
     have hkk:Dz (K.set c0 .dead++[.row ra te i.toNat cap0 (cols.map (Gn i.toNat))]):=Dz.row (hF.kok.set hk' (λv pk _=>by cases pk<;>trivial) λb t cs e=>by cases e)
     refine WT.EE ho hw (.inl (Aeg hop hu hsz hex hei hb.1 (by omega))) (H _ _ _ ht2 (hx1.trans (Bf.append _ _)) (λ_=>(DN.set hk' λb t cs e=>by cases e).trans (DN.append _ _)) _ _ ⟨_,rfl⟩ ?_ ?_)
     ·refine (hF.ext (hx1.trans (Bf.append _ _)) hkk).put g2 g3 λ_=>⟨rfl,Bg.2 ⟨.row ra te i.toNat cap0 (cols.map (Gn i.toNat)),?_,rfl⟩⟩
      have hl:(K.set c0 (.dead:Chunk σ)).length=K.length:=by simp
      rw [←hl];exact jT
     ·unfold Af
      rw [jD,jU]
      exact Sat.moved hS (C9 D hk') (λY k hk=>Ao4 D hin hk) λ_ _=>trivial
    ·rename_i sz ra m cap cols hsz hk'
     rw [hk'] at hk;injection hk with hk;subst hk
     injection h with h;subst h
     simp only [DJ] at hc
     obtain ⟨hb,ht⟩:=ht
     have ht2:=ht hb
     injection hc with hc1 hc2 hc3
     subst hc1;subst hc2;subst hc3
     have hin:i.toNat≤m0:=by omega
     obtain ⟨_,q,_,hq,_⟩:=hS.get D hk'
     have hkk:Dz (K++[.ro ad i.toNat cap0 (cols.map (Gn i.toNat))]):=hF.kok.append λb t cs hm=>by simp at hm
     refine WT.EE ho hw (.inl (Aeg hop hu hsz hex hei hb.1 (by have:=hq.2.1;omega))) (H _ _ _ ht2 (Bf.append _ _) (λ_=>DN.append _ _) _ _ ⟨_,rfl⟩ ?_ ?_)
     ·exact (hF.ext (Bf.append _ _) hkk).put g2 g3 λ_=>⟨rfl,Bg.2 ⟨.ro ad i.toNat cap0 (cols.map (Gn i.toNat)),jT,rfl⟩⟩
     ·unfold Af
      rw [jD]
      refine Sat.Ag2 hS (C9 D hk') λY k k' hk=>⟨?_,by have:=hk.2.1;omega,AmQ hk.2.2 hin⟩
      rw [Ag3]
      exact Als hin hk.1
    ·cases h
   ·cases h
  ·rename_i lx
   have hop:=hop0
   split at h
   ·rename_i e0 c0 ad m0 cap0 k0 i hu hpr hvx hvi
    have hpx:=Bv (x:=x) (g:=none) hF trivial
    have hex:=AU (g:=none) hF trivial hvx
    have hei:=AU (g:=none) hF trivial hvi
    rw [hpr,hex,Bg] at hpx
    obtain ⟨c,hk,hc⟩:=hpx
    split at h
    ·rename_i sz ra m cap cols hsz hk'
     rw [hk'] at hk;injection hk with hk;subst hk
     cases hq:iL sz cols.length with
     |false=>rw [hq] at h;cases h
     |true=>
     rw [hq,cond_true] at h
     injection h with h;subst h
     simp only [DJ] at hc
     obtain ⟨hb,ht⟩:=ht
     have ht2:=ht hb
     injection hc with hc1 hc2 hc3
     subst hc1;subst hc2;subst hc3
     have hkk:Dz (K++[.ro (NR ad cap0 i.toNat sz) (m0-i.toNat) (cap0-i.toNat) (cols.map (Iy i.toNat))]):=hF.kok.append λb t cs hm=>by simp at hm
     refine WT.EE ho hw (.inl (Alu hop hu hsz hex hei hb.1 hb.2)) (H _ _ _ ht2 (Bf.append _ _) (λ_=>DN.append _ _) _ _ ⟨_,rfl⟩ ?_ ?_)
     ·exact (hF.ext (Bf.append _ _) hkk).put g2 g3 λ_=>⟨rfl,Bg.2 ⟨.ro (NR ad cap0 i.toNat sz) (m0-i.toNat) (cap0-i.toNat) (cols.map (Iy i.toNat)),jT,rfl⟩⟩
     ·unfold Af
      rw [jD]
      refine Sat.Ag2 hS (C9 D hk') λY k k' hk=>⟨?_,by have:=hk.2.1;omega,AmR hk.2.2⟩
      rw [Ag4]
      exact Alt hk.2.1 (iF hq) hk.1
    ·cases h
   ·cases h
  ·cases h
 ·
  rename_i h1 h2 h3 h4 h5 h6
  split at h
  ·rename_i g args prs hcall
   refine (Bool.eq_false_or_eq_true (iL g Ou)).elim (λhk=>by rw [hk] at h;cases h) λhk=>?_
   rw [hk] at h
   dsimp only [cond_false] at h
   have hgk:g≠Ou:= λe=>by rw [e,nT] at hk;cases hk
   split at h
   ·rename_i e he
    split at h
    ·rename_i cd hcd
     have hok:=Agp D hT he
     obtain ⟨hrun,hps1,hps2⟩:=Lh (g:=none) hF trivial hcall w
     obtain ⟨r,hr⟩:∃r,r=cd.r cd.x:=⟨_,rfl⟩
     have hout:=(hok args cd r hcd hr).1
     split at h
     ·rename_i q st j hob hkj
      injection h with h;subst h
      have ht:=ht _ rfl
      dsimp only at ht
      rw [←hr] at ht
      obtain ⟨hpre,ht⟩:=Gf ht
      obtain ⟨k',hkm,hk',hc⟩:=J3 D hok hps1 hps2 hcd hr hpre hS hob
      rw [hkj,jR] at hkm
      subst hkm
      have hcmp:∀v pk,DJ (kR (σ:=σ) q st) v pk→DJ (kR (σ:=σ) q (r.new.getD st)) v pk:= λv pk hv=>by cases pk<;>exact hv
      have hx:∀acs,Bf K (K.set k' (.obj q (r.new.getD st))++jA ED r.rows acs):= λacs=>(Bf.set hk' hcmp).trans (Bf.append _ _)
      refine WT.Qx ho hw hrun hc λen w' ⟨acs,e1,e2,e3⟩=>⟨_,e2,H _ _ _ (J4 ht acs e1) (hx acs) (λ_=>(DN.set hk' λb t cs e=>by cases e).trans (DN.append _ _)) _ _ ⟨_,rfl⟩ ?_ e3⟩
      have hx:=hx acs
      have hkk:Dz (K.set k' (.obj q (r.new.getD st))++jA ED r.rows acs):=
       (hF.kok.set hk' hcmp λb t cs e=>by cases e).append λb t cs hm=>absurd hm (TA r.rows acs b t cs)
      have hp:=hout (K.set k' (.obj q (r.new.getD st))) acs e1
      rw [List.length_set] at hp
      exact (hF.ext hx hkk).put g2 g3 λ_=>⟨rfl,hp⟩
     ·rename_i hob hkj
      injection h with h;subst h
      have ht:=ht _ rfl
      dsimp only at ht
      rw [←hr] at ht
      obtain ⟨hpre,ht⟩:=Gf ht
      refine WT.Qx ho hw hrun (Pn D hok hps1 hps2 hcd hr hpre hS hob) λen w' ⟨acs,e1,e2,e3⟩=>⟨_,e2,H _ _ _ (J4 ht acs e1) (Bf.append K _) (λ_=>DN.append K _) _ _ ⟨_,rfl⟩ ?_ e3⟩
      have hkk:Dz (K++jA ED r.rows acs):=hF.kok.append λb t cs hm=>absurd hm (TA r.rows acs b t cs)
      exact (hF.ext (Bf.append K _) hkk).put g2 g3 λ_=>⟨rfl,hout K acs e1⟩
     ·cases h
    ·
     split at h
     ·rename_i t0 he
      injection h with h;subst h
      obtain ⟨hrun,hps1,hps2⟩:=Lh (g:=none) hF trivial hcall w
      refine WT.Qx ho hw hrun ((hext _ _ _ _ _ he w hps1 hF.kok hS _ (FN ht)).1 hgk) λen w' ⟨v,p,K',e1,e2,e3,e4,e5,e6⟩=>⟨v,e1,H _ _ _ e2 e3 (λhn=>(by rw [hn.2] at he;cases he)) _ _ ⟨_,rfl⟩ ?_ e6⟩
      exact (hF.ext e3 e4).put g2 g3 λ_=>⟨rfl,e5⟩
     ·cases h
   ·
    split at h
    ·rename_i t0 he
     injection h with h;subst h
     obtain ⟨hrun,hps1,hps2⟩:=Lh (g:=none) hF trivial hcall w
     refine WT.Qx ho hw hrun ((hext _ _ _ _ _ he w hps1 hF.kok hS _ (FN ht)).1 hgk) λen w' ⟨v,p,K',e1,e2,e3,e4,e5,e6⟩=>⟨v,e1,H _ _ _ e2 e3 (λhn=>(by rw [hn.2] at he;cases he)) _ _ ⟨_,rfl⟩ ?_ e6⟩
     exact (hF.ext e3 e4).put g2 g3 λ_=>⟨rfl,e5⟩
    ·cases h
  ·
   split at h
   ·rename_i v hv
    injection h with h;subst h
    obtain ⟨hrun,k0,x0,rfl⟩:=AmS hF hv
    refine WT.EE ho hw (.inl (hrun w)) (H _ _ _ ht (Bf.refl K) (λ_ _ _ _ _ h=>h) _ _ ⟨_,rfl⟩ ?_ hS)
    exact hF.put g2 g3 λ_=>⟨rfl,trivial⟩
   ·
    split at h
    ·rename_i args prs hy
     split at h
     ·rename_i t0 he
      injection h with h;subst h
      obtain ⟨l,asv,rfl,hrun,hps⟩:=AiS (g:=none) hF trivial hy w
      have hx:=(hext _ _ _ _ _ he w hps hF.kok hS _ (FN ht)).2 rfl l asv.toArray (by simp)
      refine WT.Aow ho hw hrun hx λen w' ⟨v,p,K',e1,e2,e3,e4,e5,e6⟩=>⟨v,e1,H _ _ _ e2 e3 (λhn=>(by rw [hn.2] at he;cases he)) _ _ ⟨_,rfl⟩ ?_ e6⟩
      exact (hF.ext e3 e4).put g2 g3 λ_=>⟨rfl,e5⟩
     ·cases h
    ·cases h
theorem Jw {T:List (Nat×Entry σ)} (hT:BO D P T) {ops:Array Oper} {i:Nat} {rest:List Nat} {td:List Item} {k:Value→Pr→List (Chunk σ)→Tree σ} {t:Tree σ} {R':Value→Pr→List (Chunk σ)→Prop} {S':List Ab→List Ak→List (Chunk σ)→Prop}
 {ext:Nat→List (Value×Pr)→List (Chunk σ)→Option (Tree σ)}
 (hext:∀g args prs K t,ext g (lI args prs) K=some t→∀w,AQ K args prs→Dz K→Af D E G w K→∀Q:Value→Pr→List (Chunk σ)→Prop,t.holds Q (λ_ _ _=>False)→Qz P g args.toArray w λen w'=>∃v p K',en= .returned v∧Q v p K'∧Bf K K'∧Dz K'∧BH K' v p∧Af D E G w' K')
 (ho:ops[i]? =some o) (hw:iZ o (yielded ops a.tmps)=true) (g2:∀d,o.dst=some d→d<n) (hF:Fr n L K a) (hS:Af D E G w K) (h:Jh P T ext L K o k=some t) (ht:t.holds R' S')
 (H:∀v pr K',(k v pr K').holds R' S'→Bf K K'→(((∀t x y,o.op≠ .store t x y)∧∀g a K,ext g a K=none)→DN K K')→∀a' w',(∃u,a'=a.put o.dst u)→Fr n (Dw o.dst none v pr L) K' a'→Af D E G w' K'→WT P f R (.inRegion ops rest::td) a' w'):WT P f R (.inRegion ops (i::rest)::td) a w:=by
 unfold Jh at h
 split at h
 ·rename_i t' hm
  injection h with h;subst h
  exact Ajb D ho hw g2 hF hS hm ht λv pr K' h1 h2 h3=>H v pr K' h1 h2 λ_=>h3
 ·split at h
  ·rename_i t' hm
   injection h with h;subst h
   exact Ajc D ho hw g2 hF hS hm ht λv pr K' h1 h2 h3=>H v pr K' h1 h2 λ_=>h3
  ·exact Ag5 D hT hext ho hw g2 hF hS h ht H
end
theorem Aeh {c:Nat} {b:Bool} {K:List (Chunk σ)} {tm:Array Value} (h:tm.getD c undef= .bool b):∀{L:List Ak},(∀e∈L,e.ok K tm)→∀e∈known0 c b L,e.ok K tm
 |[],_,e,he=>by simp [known0] at he
 |x::r,hL,e,he=>by
  have ih:=Aeh h (L:=r) (λe he=>hL e (by simp [he]))
  have hx:=hL x (by simp)
  simp only [known0] at he
  split at he
  ·rename_i c' b' hg
   cases hc:iL c' c with
   |false=>
    rw [hc] at he
    simp only [cond_false,iG] at he
    rcases he with rfl|he
    ·exact hx
    ·exact ih e he
   |true=>
    rw [hc] at he
    have:=iF hc
    subst this
    cases hb:b'==b with
    |false=>rw [hb] at he;simp only [cond_true,cond_false] at he;exact ih e he
    |true=>
     rw [hb] at he
     have:=eq_of_beq hb
     subst this
     simp only [cond_true,iG] at he
     rcases he with rfl|he
     ·intro _
      exact hx (by rw [hg];exact h)
     ·exact ih e he
  ·rename_i hg
   cases hc:iL x.s c with
   |false=>
    rw [hc] at he
    simp only [cond_false,iG] at he
    rcases he with rfl|he
    ·exact hx
    ·exact ih e he
   |true=>
    rw [hc] at he
    simp only [cond_true,iG] at he
    rcases he with rfl|he
    ·intro _;exact ⟨h,A8⟩
    ·exact ih e he
theorem Xl {c:Nat} {b:Bool} {tm:Array Value}:∀{L:List Ak},(∀e∈L,¬GV tm e.g→tm.getD e.s undef=undef)→∀e∈known0 c b L,¬GV tm e.g→tm.getD e.s undef=undef
 |[],_,e,he=>by simp [known0] at he
 |x::r,hL,e,he=>by
  have ih:=Xl (c:=c) (b:=b) (L:=r) (λe he=>hL e (by simp [he]))
  have hx:=hL x (by simp)
  simp only [known0] at he
  split at he
  ·rename_i c' b' hg
   cases hc:iL c' c with
   |false=>
    rw [hc] at he
    simp only [cond_false,iG] at he
    rcases he with rfl|he
    ·exact hx
    ·exact ih e he
   |true=>
    rw [hc] at he
    cases hb:b'==b with
    |false=>rw [hb] at he;simp only [cond_true,cond_false] at he;exact ih e he
    |true=>
     rw [hb] at he
     simp only [cond_true,iG] at he
     rcases he with rfl|he
     ·intro hg;exact absurd trivial hg
     ·exact ih e he
  ·rename_i hg
   cases hc:iL x.s c with
   |false=>
    rw [hc] at he
    simp only [cond_false,iG] at he
    rcases he with rfl|he
    ·exact hx
    ·exact ih e he
   |true=>
    rw [hc] at he
    simp only [cond_true,iG] at he
    rcases he with rfl|he
    ·intro hg;exact absurd trivial hg
    ·exact ih e he
theorem Fr.known {n:Nat} {L:List Ak} {K:List (Chunk σ)} {a:Act} (hF:Fr n L K a) (hn:n≤1000000) {c:Nat} {b:Bool} (h:a.tmps.getD c undef= .bool b):Fr n (known c b L) K a:=by
 refine ⟨hF.kok,hF.defers,hF.size, λe he=>?_, λe he=>?_⟩
 rotate_left
 ·simp only [Sl.known,iG] at he
  rcases he with rfl|he
  ·intro hg;exact absurd trivial hg
  ·exact Xl hF.skipd e he
 simp only [Sl.known,iG] at he
 rcases he with rfl|he
 ·intro _
  refine ⟨?_,A8⟩
  have:=hF.size
  have hle:a.tmps.size≤1000000+c:=by omega
  show a.tmps.getD (1000000+c) undef=undef
  rw [jC,kE hle];rfl
 ·exact Aeh h hF.ents e he
theorem Fr.fixMark {n:Nat} {L':List Ak} {K:List (Chunk σ)} {a:Act} (hF:Fr n L' K a) (o:Oper) (L:List Ak):Fr n (Sl.fixMark n o L L') K a:=by
 unfold Sl.fixMark
 split
 ·rename_i d _ _
  cases hb:(jS n 1000000&&Agm L o) with
  |true=>
   simp only [cond_true]
   simp only [iE] at hb
   have hn:=iQ hb.1
   refine ⟨hF.kok,hF.defers,hF.size, λe he hg=>?_, λe he hg=>?_⟩
   ·simp only [iG] at he
    rcases he with rfl|he
    ·refine ⟨?_,A8⟩
     have:=hF.size
     have hle:a.tmps.size≤1000000+d:=by omega
     show a.tmps.getD (1000000+d) undef=undef
     rw [jC,kE hle];rfl
    ·exact hF.ents e he hg
   ·simp only [iG] at he
    rcases he with rfl|he
    ·exact absurd trivial hg
    ·exact hF.skipd e he hg
  |false=>
   simp only [cond_false]
   cases hm:marked d L' with
   |true=>simp only [cond_true];exact hF.sub λe he=>(Oq he).1
   |false=>exact hF
 ·exact hF
theorem Fr.markL {n:Nat} {L:List Ak} {K:List (Chunk σ)} {a:Act} (hF:Fr n L K a):∀mk:List Nat,Fr n (Sl.markL n mk L) K a
 |[]=>hF
 |x::r=>by
  have ih:=Fr.markL hF r
  unfold Sl.markL
  cases hb:jS n 1000000 with
  |false=>exact ih
  |true=>
   have hn:=iQ hb
   simp only [cond_true]
   refine ⟨ih.kok,ih.defers,ih.size, λe he hg=>?_, λe he hg=>?_⟩
   ·simp only [iG] at he
    rcases he with rfl|he
    ·refine ⟨?_,A8⟩
     have:=hF.size
     have hle:a.tmps.size≤1000000+x:=by omega
     rw [jC,kE hle];rfl
    ·exact ih.ents e he hg
   ·simp only [iG] at he
    rcases he with rfl|he
    ·exact absurd trivial hg
    ·exact ih.skipd e he hg
theorem Fr.unmark {n:Nat} {L:List Ak} {K:List (Chunk σ)} {a:Act} (hF:Fr n L K a) (o:Oper):Fr n (Sl.unmark o L) K a:=by
 unfold Sl.unmark
 split
 ·rename_i d _
  cases marked d L with
  |true=>simp only [cond_true];exact hF.sub λe he=>(Oq he).1
  |false=>exact hF
 ·exact hF
theorem Lp {R':Value→Pr→List (Chunk σ)→Prop} {S':List Ab→List Ak→List (Chunk σ)→Prop} {mk t b:Bool} {A S:Tree σ} (h:(Nq mk t b A S).holds R' S'):(t=b→A.holds R' S')∧(t=!b→S.holds R' S'):=by
 cases mk<;>cases t<;>cases b<;>simp [Nq,Tree.holds] at h ⊢ <;>exact h
end
section
open Go.RowKit
variable {σ:Type} (D:Addr→σ→CZ)
theorem JD {i:Nat} {l:List Nat}:Jy i l=true↔i∈l:=by
 unfold Jy
 rw [lH]
 exact ⟨λ⟨x,h,e⟩=>by rw [iF e];exact h, λh=>⟨i,h,nT i⟩⟩
theorem G8 {j x:Nat} {l:List Nat}:x∈J9 j l↔x∈l∧x≠j:=by
 unfold J9
 rw [mD]
 cases hb:iL x j with
 |true=>have:=iF hb;simp [this]
 |false=>simp [Nat.ne_of_beq_eq_false hb]
theorem Nu {rd:List Nat} {L:List Ak} {e:Ak} (h:e∈keepR rd L):e∈L∧e.s∈rd∧∀c b,e.g=some (c,b)→c∈rd:=by
 induction L with
 |nil=>simp [keepR] at h
 |cons x r ih=>
  simp only [keepR] at h
  cases hb:(Jy x.s rd&&gIn rd x.g) with
  |false=>rw [hb] at h;simp only [cond_false] at h;have:=ih h;exact ⟨by simp [this.1],this.2⟩
  |true=>
   rw [hb] at h
   simp only [cond_true,iG] at h
   rcases h with rfl|h
   ·simp only [iE] at hb
    refine ⟨by simp,JD.1 hb.1, λc b hg=>?_⟩
    rw [hg] at hb
    exact JD.1 hb.2
   ·have:=ih h;exact ⟨by simp [this.1],this.2⟩
def Agr (R:List Nat) (a b:Act):Prop:=∀x∈R,a.tmps.getD x undef=b.tmps.getD x undef
theorem Agr.gv {R:List Nat} {a b:Act} (h:Agr R a b) {g:Option (Nat×Bool)} (hg:∀c t,g=some (c,t)→c∈R):GV a.tmps g↔GV b.tmps g:=by
 cases g with
 |none=>exact Iff.rfl
 |some x=>
  obtain ⟨c,t⟩:=x
  simp only [GV]
  rw [h c (hg c t rfl)]
theorem Fr.agr {n:Nat} {L:List Ak} {K:List (Chunk σ)} {a b:Act} {R:List Nat} (h:Fr n L K a) (hL:∀e∈L,e.s∈R∧∀c t,e.g=some (c,t)→c∈R) (hab:Agr R a b) (hd:b.defers=[]) (hs:b.tmps.size=n):Fr n L K b:=by
 refine ⟨h.kok,hd,hs, λe he hg=>?_, λe he hg=>?_⟩
 ·obtain ⟨h1,h2⟩:=hL e he
  rw [←hab _ h1]
  exact h.ents e he ((hab.gv h2).2 hg)
 ·obtain ⟨h1,h2⟩:=hL e he
  rw [←hab _ h1]
  exact h.skipd e he λhg'=>hg ((hab.gv h2).1 hg')
theorem RN {n:Nat} {L:List Ak} {K:List (Chunk σ)} {a b:Act} {R:List Nat} (h:Fr n L K a) (hab:Agr R a b) (hd:b.defers=[]) (hs:b.tmps.size=n):Fr n (keepR R L) K b:=
 (h.sub λ_ he=>(Nu he).1).agr (λ_ he=>(Nu he).2) hab hd hs
theorem QA (K:List (Chunk σ)) (k:Nat):(Qr K)[k]? =(K[k]?).map Me:=by unfold Qr;rw [iM]
theorem Arj (K:List (Chunk σ)) (k:Nat):(Qr K)[k]? =K[k]? ∨((Qr K)[k]? =some .dead):=by
 rw [QA]
 cases K[k]? with
 |none=>exact .inl rfl
 |some c=>
  cases c with
  |ro a n cap cols=>simp only [iS,Me];cases EY cols with
   |true=>exact .inr rfl
   |false=>exact .inl rfl
  |_=>first|exact .inl rfl|exact .inr rfl
theorem Aam (b:Nat):∀(K:List (Chunk σ)) (k:Nat),FZ b k (Qr K)=FZ b k K
 |[],_=>rfl
 |c::r,k=>by
  have ih:=Aam b r (k+1)
  cases c with
  |ro a n cap cols=>
   show FZ b k ((bif EY cols then .dead else .ro a n cap cols)::Qr r)=_
   cases hf:EY cols with
   |true=>
    simp only [cond_true]
    match a with
    |none=>exact ih
    |some ⟨b',0,none⟩=>simp only [FZ,hf,kL,oJ,cond_false];exact ih
    |some ⟨b',0,some _⟩=>exact ih
    |some ⟨b',m+1,x⟩=>exact ih
   |false=>
    simp only [cond_false]
    match a with
    |none=>exact ih
    |some ⟨b',0,none⟩=>simp only [FZ];rw [ih]
    |some ⟨b',0,some _⟩=>exact ih
    |some ⟨b',m+1,x⟩=>exact ih
  |_=>exact ih
theorem Aqi (K:List (Chunk σ)):Bf K (Qr K):= λk c h=>⟨Me c,by rw [QA,h];rfl, λv pk hv=>by
 cases c with
 |ro a n cap cols=>simp only [Me];cases EY cols with
  |true=>trivial
  |false=>exact hv
 |_=>first|exact hv|(simp only [Me,DJ])⟩
theorem Aqj (K:List (Chunk σ)):Dz (Qr K):= λk b t cs hk=>by
 rw [QA] at hk
 cases hc:K[k]? with
 |none=>rw [hc] at hk;cases hk
 |some c=>
  rw [hc] at hk
  cases c with
  |ro a n cap cols=>simp only [iS,Me] at hk;cases hf:EY cols<;>rw [hf] at hk<;>simp at hk
  |_=>simp [Me] at hk
def Ag6 (G:Hp) (Kz:List (Chunk σ)):Prop:=∀c∈Kz,∀G':Hp,(∀b o,G b=some o→G' b=some o)→∀Y h:Hp,den D G' c Y h
theorem Af.Ark {E:Ev} {G:Hp} {w:World} {K:List (Chunk σ)} (h:Af D E G w K):Ag6 D G (Qr K):= λc hc G' hG Y hh=>by
 obtain ⟨k,hk⟩:=kT hc
 rw [QA] at hk
 cases hK:K[k]? with
 |none=>rw [hK] at hk;cases hk
 |some d=>
  rw [hK] at hk
  simp only [iS,iA] at hk
  subst hk
  obtain ⟨_,q,_,hq,_⟩:=h.get D hK
  cases d with
  |roc b t vs=>simp only [Me,den] at hq ⊢;exact hG _ _ hq
  |ro a n cap cols=>
   simp only [Me]
   cases hf:EY cols with
   |true=>trivial
   |false=>
    have h1:=hq.1
    rw [hf] at h1
    refine ⟨?_,hq.2.1,Acy hf⟩
    rw [hf]
    exact Ef.mono hG h1
  |_=>simp only [Me,den]
theorem Ag6.sat {G:Hp} {Kz:List (Chunk σ)} (h:Ag6 D G Kz) {w:World} (hG:G.sub w):Af D ⟨w, λb=>w.heap[b]?⟩ (λb=>w.heap[b]?) w Kz:=
 ⟨λb=>w.heap[b]?,⟨Hp.le_refl _, λb hb=> .inr hb⟩, λ_ _ h=>h,⟨rfl,rfl,rfl,jY _⟩,Hp.Am6 (λ_ _ h=>h) (λ_ _ h=>h), λ_=>none, λb i hb=>(by cases hb), λi A hi=>by
   obtain ⟨A',hi',rfl⟩:=Js hi
   clear hi;have hi:=hi'
   rw [iM] at hi
   cases hk:Kz[i]? with
   |none=>rw [hk] at hi;cases hi
   |some c=>
    rw [hk] at hi
    simp only [iS,iA] at hi
    subst hi
    exact λY _=>h c (iV hk) _ (λb o hb=>hG b o hb) Y _⟩
theorem Di.keeps {E:World} {G:Hp} {w w':World} {As:List Ew} (h:Di E G w As) (h':Env w w') (k2:Hp.sub (λb=>w.heap[b]?) w'):Di E G w' As:=by
 obtain ⟨⟨e1,e2,e3,e4⟩,h2,o,h3,h4⟩:=h
 obtain ⟨f1,f2,f3,f4⟩:=h'
 refine ⟨⟨f1.trans e1,f2.trans e2,f3.trans e3,lZ e4 f4⟩, λb x hb=>k2 b x (h2 b x hb),o, λb i hb=>⟨(h3 b i hb).1,Nat.lt_of_lt_of_le (h3 b i hb).2 f4⟩, λi A hi=>?_⟩
 have:part w' o i=part w o i:=by
  funext b
  unfold part
  by_cases hb:o b=some i
  ·rw [if_pos hb,if_pos hb]
   have hlt:=(h3 b i hb).2
   have he:w.heap[b]? =some w.heap[b]:=jM hlt
   rw [he]
   exact k2 b _ he
  ·rw [if_neg hb,if_neg hb]
 rw [this];exact h4 i A hi
theorem Sat.keeps {E:Ev} {G:Hp} {w w':World} {As Bs:List CZ} (h:Sat E G w As) (h':Sat ⟨w, λb=>w.heap[b]?⟩ (λb=>w.heap[b]?) w' Bs):Sat E G w' As:=by
 obtain ⟨Z,hz,hw,h0⟩:=h
 exact Sat.of hz hw h0.2.1 (h0.keeps h'.env h'.sub)
theorem Ag7 {P:Program} {o:Oper} {a:Act} {C C':World→Prop} {w:World} {v:Value} (h:o.quietAt P a C w v) (hC:∀w',C w'→C' w'):o.quietAt P a C' w v:=by
 unfold Oper.quietAt at h ⊢
 cases hr:(execOp a.eval o).run P w with
 |halt x w'=>rw [hr] at h;exact h.elim
 |ok nx w'=>
  rw [hr] at h
  cases nx with
  |value u=>exact h
  |skip=>exact h
  |enter g args=>
   obtain ⟨h1,h2⟩:=h
   refine ⟨h1, λcs=>?_⟩
   obtain ⟨e,w'',fr,⟨he,hc⟩,hrest⟩:=h2 cs
   exact ⟨e,w'',fr,⟨he,hC _ hc⟩,hrest⟩
  |_=>exact h.elim
theorem WB (K:List (Chunk σ)) (k:Nat):(frs K)[k]? =(K[k]?).map RD:=by unfold frs;rw [iM]
theorem Arl (K:List (Chunk σ)) (k:Nat):(frs K)[k]? =K[k]? ∨(frs K)[k]? =some .dead:=by
 rw [WB]
 cases K[k]? with
 |none=>exact .inl rfl
 |some c=>
  cases c with
  |ro a n cap cols=>simp only [iS,RD];cases EY cols with
   |true=>exact .inr rfl
   |false=>exact .inl rfl
  |_=>first|exact .inl rfl|exact .inr rfl
theorem Aan (b:Nat):∀(K:List (Chunk σ)) (k:Nat),FZ b k (frs K)=FZ b k K
 |[],_=>rfl
 |c::r,k=>by
  have ih:=Aan b r (k+1)
  cases c with
  |ro a n cap cols=>
   show FZ b k ((bif EY cols then .dead else .ro a n cap cols)::frs r)=_
   cases hf:EY cols with
   |true=>
    simp only [cond_true]
    match a with
    |none=>exact ih
    |some ⟨b',0,none⟩=>simp only [FZ,hf,kL,oJ,cond_false];exact ih
    |some ⟨b',0,some _⟩=>exact ih
    |some ⟨b',m+1,x⟩=>exact ih
   |false=>
    simp only [cond_false]
    match a with
    |none=>exact ih
    |some ⟨b',0,none⟩=>simp only [FZ];rw [ih]
    |some ⟨b',0,some _⟩=>exact ih
    |some ⟨b',m+1,x⟩=>exact ih
  |_=>exact ih
theorem Arm (K:List (Chunk σ)) (b:Nat):FZ b 0 (frs K)=FZ b 0 K:=Aan b K 0
theorem Akn (K:List (Chunk σ)):Bf K (frs K):= λk c h=>⟨RD c,by rw [WB,h];rfl, λv pk hv=>by
 cases c with
 |ro a n cap cols=>simp only [RD];cases EY cols with
  |true=>trivial
  |false=>exact hv
 |_=>first|exact hv|(simp only [RD,DJ])⟩
theorem Aqk {K:List (Chunk σ)} (h:Dz K):Dz (frs K):= λk b t cs hk x hx=>by
 rw [WB] at hk
 cases hc:K[k]? with
 |none=>rw [hc] at hk;cases hk
 |some c=>
  rw [hc] at hk
  cases c with
  |ro a n cap cols=>simp only [iS,RD] at hk;cases hf:EY cols<;>rw [hf] at hk<;>simp at hk
  |cells b' t' cs'=>
   simp [RD] at hk
   obtain ⟨rfl,rfl,rfl⟩:=hk
   exact (h k _ _ _ hc x hx).ext (Akn K)
  |_=>simp [RD] at hk
def YB (G:Hp) (Kz K:List (Chunk σ)):Prop:=∀(k:Nat) (c:Chunk σ),Kz[k]? =some c→(∀Y h:Hp,den D G c Y h)∨∃b t cs,c= .cells b t cs∧K[k]? =some c
theorem Af.AsD {E:Ev} {G:Hp} {w:World} {Kz K:List (Chunk σ)} (h:Af D E G w K) (hs:YB D G Kz K):Af D E G w Kz:=by
 obtain ⟨Z,hz,hw,h1,h2,o,h3,h4⟩:=h
 refine ⟨Z,hz,hw,h1,h2,o,h3, λi A0 hi0=>?_⟩
 obtain ⟨A,hi,rfl⟩:=Js hi0
 rw [iM] at hi
 cases hk:Kz[i]? with
 |none=>rw [hk] at hi;cases hi
 |some c=>
  rw [hk] at hi
  simp only [iS,iA] at hi
  subst hi
  rcases hs i c hk with hp|⟨b,t,cs,_,hK⟩
  ·exact λY _=>hp Y _
  ·exact h4 i _ (EI (C9 D hK))
theorem YB.keep {G:Hp} {Kz K K':List (Chunk σ)} (h:YB D G Kz K) (hk:DN K K'):YB D G Kz K':= λk c hc=>by
 rcases h k c hc with hp|⟨b,t,cs,e,hK⟩
 ·exact .inl hp
 ·subst e;exact .inr ⟨b,t,cs,rfl,hk k b t cs hK⟩
theorem Af.frs {E:Ev} {G:Hp} {w:World} {K:List (Chunk σ)} (h:Af D E G w K):YB D G (Sl.frs K) K:= λk c hc=>by
 have hpers:=Af.Ark D h
 rw [WB] at hc
 cases hK:K[k]? with
 |none=>rw [hK] at hc;cases hc
 |some d=>
  rw [hK] at hc
  simp only [iS,iA] at hc
  subst hc
  have hm:Me d∈Qr K:=iV (by rw [QA,hK];rfl:(Qr K)[k]? =some (Me d))
  have hp:=hpers _ hm G (λ_ _ e=>e)
  cases d with
  |cells b t cs=>exact .inr ⟨b,t,cs,rfl,rfl⟩
  |_=>exact .inl hp
theorem Aao {P:Program} {T:List (Nat×Entry σ)} {g:Option (Nat×Bool)} {L:List Ak} {K:List (Chunk σ)} {Kz:List (Chunk σ)} {o:Oper} {x:Value×Pr×List Prop} (hor:∀k:Nat,Kz[k]? =K[k]? ∨Kz[k]? =some .dead) (hro:∀b,FZ b 0 Kz=FZ b 0 K) (hc:∀c,o.op≠ .call c) (h:Hw P T g L Kz o=some x):Hw P T g L K o=some x:=by
 have hcall:∀K':List (Chunk σ),callOf P g L K' o=none:= λK'=>by
  unfold callOf
  split
  ·rename_i hop;exact absurd hop (hc _)
  ·rename_i hop;exact absurd hop (hc _)
  ·rfl
 unfold Hw at h ⊢
 split at h
 all_goals (first|(rename_i hop;simp only [hop])|skip)
 all_goals (first|exact h|skip)
 ·
  split at h
  ·rename_i k off hp
   rcases hor k with e|e
   ·rw [e] at h;exact h
   ·rw [e] at h;cases h
  ·rename_i k i off hp
   rcases hor k with e|e
   ·rw [e] at h;exact h
   ·rw [e] at h;cases h
  ·cases h
 ·
  split at h
  ·rename_i fields k pk hu hp
   split at h
   ·rename_i fd q hfd hv
    split at h
    ·rename_i nn hsz
     cases pk with
     |elem i off=>
      simp only at h ⊢
      rcases hor k with e|e
      ·rw [e] at h;exact h
      ·rw [e] at h;cases h
     |_=>exact h
    ·cases h
   ·cases h
  ·cases h
 ·
  split at h
  ·rename_i e0 k a m cap k1 i hu hp hv hi
   rcases hor k with e|e
   ·rw [e] at h;exact h
   ·rw [e] at h
    split at h
    ·rename_i h1;cases h1
    ·rename_i h1;cases h1
    ·cases h
  ·rename_i len e0 k off a k1 i hu hp hv hi
   exact h
  ·rename_i len e0 k j off q k1 i hu hp hv hi
   rcases hor k with e|e
   ·rw [e] at h;exact h
   ·rw [e] at h
    split at h
    ·rename_i h1;cases h1
    ·cases h
  ·simp only [hro] at h
   exact h
  ·cases h
 ·
  split at h
  ·rename_i k ki i kt et hp hi hu
   rcases hor k with e|e
   ·rw [e] at h;exact h
   ·rw [e] at h;cases h
  ·cases h
 ·rw [hcall] at h ⊢
  exact h
theorem Pq {o:Oper} (h:Acx o=false):∀c,o.op≠ .call c:= λc e=>by unfold Acx at h;rw [e] at h;cases h
structure Lr (ops:Array Oper):Prop where
 dep:(jQ ops.size).all (λi=>((ops[i]?).map (·.after.all λe=>!Region.binds .any e||mF e.on i)).getD false)=true
 rd:∀(i j:Nat) (o o':Oper) (d:Nat),ops[i]? =some o→ops[j]? =some o'→o.dst=some d→d∈Ii ops o'→i∈EZ ops j∧i≠j
 ds:∀(i j:Nat) (o o':Oper) (d:Nat),ops[i]? =some o→ops[j]? =some o'→o.dst=some d→o'.dst=some d→i=j
theorem QB {ops:Array Oper} {i:Nat} {o:Oper} (h:ops[i]? =some o):i<ops.size:=by
 rcases jB i ops.size with h'|h'
 ·exact h'
 ·rw [kE h'] at h;cases h
theorem Ako {ops:Array Oper} (h:Oy ops=true):Lr ops:=by
 unfold Oy at h
 simp only [iE] at h
 obtain ⟨h1,h2⟩:=h
 have row:∀(i j:Nat) (o o':Oper) (d:Nat),ops[i]? =some o→ops[j]? =some o'→o.dst=some d→
  ((!(Jy d (Ii ops o'))||(Jy i (EZ ops j)&&!(iL i j)))&&(iL i j||neD d o'.dst))=true:= λi j o o' d hi hj hd=>by
  have:=(jN.1 h2) i (kV.2 (QB hi))
  rw [hi] at this
  simp only [hd] at this
  unfold wideRow at this
  have:=(jN.1 this) j (kV.2 (QB hj))
  rw [hj] at this
  exact this
 refine ⟨h1, λi j o o' d hi hj hd hm=>?_, λi j o o' d hi hj hd hd'=>?_⟩
 ·have:=row i j o o' d hi hj hd
  rw [JD.2 hm] at this
  simp only [kL,jW,iE] at this
  obtain ⟨⟨h3,h4⟩,_⟩:=this
  exact ⟨JD.1 h3, λe=>by subst e;simp at h4⟩
 ·have:=row i j o o' d hi hj hd
  simp only [iE] at this
  have:=this.2
  rw [hd'] at this
  simp only [neD,nT,kL,Bool.or_false] at this
  exact iF this
theorem RP {n:Nat} {ops:Array Oper} {o:Oper} {g:Option (Nat×Bool)} (h:gs n ops o=some g):∀c t,g=some (c,t)→c∈Ii ops o:= λc t hg=>by
 have:=(Iz h).1
 unfold Ii Aoo
 rw [this,hg]
 simp
theorem O7 {a:Act} {dst:Option Nat} {u:Value} {x:Nat} (h:dst≠some x):(a.put dst u).tmps.getD x undef=a.tmps.getD x undef:=by
 cases dst with
 |none=>rfl
 |some d=>
  show (a.tmps.setIfInBounds d u).getD x undef=_
  have:d≠x:= λe=>h (by rw [e])
  rw [jC,kW,if_neg this,jC]
theorem put_eq {a:Act} {dst:Option Nat} {u:Value} {x:Nat} (h:dst=some x) (hx:x<a.tmps.size):(a.put dst u).tmps.getD x undef=u:=by
 subst h
 show (a.tmps.setIfInBounds x u).getD x undef=_
 rw [Ji u hx,if_pos rfl]
theorem RU {a:Act} {dst:Option Nat} {u:Value}:(a.put dst u).tmps.size=a.tmps.size:=by
 cases dst with
 |none=>rfl
 |some d=>show (a.tmps.setIfInBounds d u).size=_;simp
theorem put_defers {a:Act} {dst:Option Nat} {u:Value}:(a.put dst u).defers=a.defers:=by cases dst<;>rfl
section
variable (P:Program) (T:List (Nat×Entry σ)) (n:Nat) (ops:Array Oper) (nx:Bool)
def Ag8 (G:Hp) (Q:List Nat) (K:List (Chunk σ)) (s:Act) (i:Nat) (o:Oper):Prop:=
 ∃g,gs n ops o=some g∧(∀x∈EZ ops i,x ∉ Q)∧(¬GV s.tmps g→∀d,o.dst=some d→s.tmps.getD d undef=undef)∧
  (GV s.tmps g→∃Li Kz v p ps,Hw P T g Li Kz o=some (v,p,ps)∧(∀q∈ps,q)∧Fr n Li Kz s∧(∀e∈Li,e.s∈Ii ops o∧∀c t,e.g=some (c,t)→c∈Ii ops o)∧
    (∀d,o.dst=some d→s.tmps.getD d undef=v)∧(Ag6 D G Kz∨((∃B,K=Kz++B)∧(∀c,o.op≠ .call c)∧∀j∈Q,Pi ops j=true→i∈reached ops j)∨(YB D G Kz K∧(∀c,o.op≠ .call c)∧nx=true∧∀j∈Q,storeAt ops j=true→i∈reached ops j)))
structure H5 (E:Ev) (G:Hp) (K0:List (Chunk σ)) (listed:Array Bool) (Q:List Nat) (L:List Ak) (K:List (Chunk σ)) (s a:Act) (w:World):Prop where
 lsz:listed.size=ops.size
 cl:Closed ops listed
 qn:∀j∈Q,j<ops.size∧listed.getD j true=false
 fr:Fr n L K s
 sat:Af D E G w K
 ad:a.defers=[]
 asz:a.tmps.size=n
 agr:∀x,(∀(i:Nat) (o:Oper),ops[i]? =some o→o.dst=some x→listed.getD i true=true∨i∈Q)→a.tmps.getD x undef=s.tmps.getD x undef
 pend:∀(i:Nat) (o:Oper),ops[i]? =some o→listed.getD i true=false→i ∉ Q→Ag8 D P T n ops nx G Q K s i o
 kx:Bf K0 K
end
section
variable {P:Program} {T:List (Nat×Entry σ)} {n:Nat} {ops:Array Oper} {nx:Bool} {E:Ev} {G:Hp} {K0:List (Chunk σ)} {listed:Array Bool} {Q:List Nat} {L:List Ak} {K:List (Chunk σ)} {s a:Act} {w:World}
theorem H5.rd (hW:Lr ops) (h:H5 D P T n ops nx E G K0 listed Q L K s a w) {i:Nat} {o:Oper} (hi:i∈iU .any ops listed) (ho:ops[i]? =some o):Agr (Ii ops o) s a:= λx hx=>
 (h.agr x λj o' hj hd=> .inl (by
   have h1:=Hz hi (hW.rd j i o' o x hj ho hd hx).1
   rw [getD_both (by rw [h.lsz];exact QB hj) true false]
   exact h1)).symm
theorem H5.late (hT:BO D P T) (hW:Lr ops) (h:H5 D P T n ops nx E G K0 listed Q L K s a w) {i:Nat} {o:Oper} (hi:i∈iU .any ops listed) (hq:i ∉ Q) (ho:ops[i]? =some o):
 ∃u,((iZ o (yielded ops a.tmps)=true∧o.quietAt P a (λw'=>Af D E G w' K) w u)∨(iZ o (yielded ops a.tmps)=false∧u=undef))∧
  ∀w',Af D E G w' K→H5 D P T n ops nx E G K0 (listed.setIfInBounds i true) Q L K s (a.put o.dst u) w':=by
 obtain ⟨r1,r2,r3⟩:=FX.1 hi
 obtain ⟨g,hgs,hdq,hno,hyes⟩:=h.pend i o ho r2 hq
 have hA:=h.rd D hW hi ho
 have hGV:GV s.tmps g↔GV a.tmps g:=hA.gv (RP hgs)
 have hil:i<listed.size:=by rw [h.lsz];exact r1
 have key:∀u,(∀d,o.dst=some d→s.tmps.getD d undef=u)→∀w',Af D E G w' K→H5 D P T n ops nx E G K0 (listed.setIfInBounds i true) Q L K s (a.put o.dst u) w':= λu hu w' hS'=>by
  refine ⟨by simpa using h.lsz,h.cl.set hi h.lsz, λj hj=>?_,h.fr,hS',by rw [put_defers];exact h.ad,by rw [RU];exact h.asz, λx hx=>?_, λj o' hj hl hjq=>?_,h.kx⟩
  ·have:=h.qn j hj
   refine ⟨this.1,?_⟩
   rw [DI hil,if_neg (λe=>by subst e;exact hq hj)]
   exact this.2
  ·by_cases hd:o.dst=some x
   ·rw [put_eq hd (by rw [h.asz];exact (Iz hgs).2.1 x hd)]
    exact (hu x hd).symm
   ·rw [O7 hd]
    refine h.agr x λj o' hj hd'=>?_
    have:=hx j o' hj hd'
    rw [DI hil] at this
    by_cases hji:j=i
    ·subst hji
     rw [ho] at hj;injection hj with hj;subst hj
     exact absurd hd' hd
    ·rwa [if_neg hji] at this
  ·rw [DI hil] at hl
   by_cases hji:j=i
   ·rw [if_pos hji] at hl;cases hl
   ·rw [if_neg hji] at hl
    exact h.pend j o' hj hl hjq
 by_cases hg:GV s.tmps g
 ·obtain ⟨Li,Kz,v,p,ps,hst,hps,hF,hL,hv,hp⟩:=hyes hg
  have hFa:Fr n Li Kz a:=hF.agr hL hA h.ad h.asz
  refine ⟨v, .inl ⟨(Ej (Iz hgs).1).2 (hGV.1 hg),?_⟩,key v hv⟩
  rcases hp with hp|⟨⟨B,hB⟩,hnc,_⟩|⟨hs,hnc,_,_⟩
  ·have hS':=hp.sat D (w:=w) (Af.G D h.sat)
   exact Ag7 ((Jt D hT hFa (hGV.1 hg) hst hps hS').1 w hS').1 λw' hw'=>Sat.keeps h.sat hw'
  ·have hS':Af D E G w Kz:=Sat.drop h.sat λi A hi=>by
    rw [hB,jD,iI (BD hi)];exact hi
   exact Y4 (((Jt D hT hFa (hGV.1 hg) hst hps hS').1 w hS').2 hnc)
  ·have hS':=Af.AsD D h.sat hs
   exact Y4 (((Jt D hT hFa (hGV.1 hg) hst hps hS').1 w hS').2 hnc)
 ·refine ⟨undef, .inr ⟨?_,rfl⟩,key undef (hno hg)⟩
  cases hw:iZ o (yielded ops a.tmps) with
  |false=>rfl
  |true=>exact absurd (hGV.2 ((Ej (Iz hgs).1).1 hw)) hg
theorem Ag8.put (hW:Lr ops) {K':List (Chunk σ)} {i j:Nat} {o o':Oper} {u:Value} (h:Ag8 D P T n ops nx G Q K s i o') (ho:ops[j]? =some o) (ho':ops[i]? =some o') (hij:i≠j) (hq:j∈Q)
 (hK:K'=K∨(Pi ops j=true∧i ∉ reached ops j∧(storeAt ops j=false→nx=true→DN K K'))∨∃B,K'=K++B):Ag8 D P T n ops nx G (J9 j Q) K' (s.put o.dst u) i o':=by
 obtain ⟨g,hgs,hdq,hno,hyes⟩:=h
 have hA:Agr (Ii ops o') s (s.put o.dst u):= λx hx=>by
  rw [O7]
  intro hd
  exact hdq j (hW.rd j i o o' x ho ho' hd hx).1 hq
 have hdst:∀d,o'.dst=some d→(s.put o.dst u).tmps.getD d undef=s.tmps.getD d undef:= λd hd=>by
  rw [O7]
  intro hd'
  exact hij (hW.ds i j o' o d ho' ho hd hd')
 refine ⟨g,hgs, λx hx hm=>hdq x hx (G8.1 hm).1, λhg d hd=>?_, λhg=>?_⟩
 ·rw [hdst d hd]
  exact hno (λhg'=>hg ((hA.gv (RP hgs)).1 hg')) d hd
 ·obtain ⟨Li,Kz,v,p,ps,hst,hps,hF,hL,hv,hp⟩:=hyes ((hA.gv (RP hgs)).2 hg)
  refine ⟨Li,Kz,v,p,ps,hst,hps,hF.agr hL hA (by rw [put_defers];exact hF.defers) (by rw [RU];exact hF.size),hL, λd hd=>by rw [hdst d hd];exact hv d hd,?_⟩
  rcases hp with hp|⟨⟨B,hB⟩,hnc,hr⟩|⟨hs,hnc,hnx,hr⟩
  ·exact .inl hp
  ·rcases hK with rfl|⟨he,hn,_⟩|⟨B',hB'⟩
   ·exact .inr (.inl ⟨⟨B,hB⟩,hnc, λj' hj' e=>hr j' (G8.1 hj').1 e⟩)
   ·exact absurd (hr j hq he) hn
   ·exact .inr (.inl ⟨⟨B++B',by rw [hB',hB,jP]⟩,hnc, λj' hj' e=>hr j' (G8.1 hj').1 e⟩)
  ·refine .inr (.inr ⟨?_,hnc,hnx, λj' hj' e=>hr j' (G8.1 hj').1 e⟩)
   rcases hK with rfl|⟨_,hn,hck⟩|⟨B',rfl⟩
   ·exact hs
   rotate_left
   ·exact hs.keep D (DN.append K B')
   ·cases hst:storeAt ops j with
    |true=>exact absurd (hr j hq hst) hn
    |false=>exact hs.keep D (hck hst hnx)
theorem H5.now (hW:Lr ops) (h:H5 D P T n ops nx E G K0 listed Q L K s a w) {j:Nat} {o:Oper} (hj:j∈iU .any ops listed) (hq:j∈Q) (ho:ops[j]? =some o) {L':List Ak} {K':List (Chunk σ)} {u:Value} {w':World}
 (hd:∀d,o.dst=some d→d<n) (hF:Fr n L' K' (s.put o.dst u)) (hS:Af D E G w' K') (hx:Bf K K') (hK:K'=K∨(Pi ops j=true∧(storeAt ops j=false→nx=true→DN K K'))∨∃B,K'=K++B):
 H5 D P T n ops nx E G K0 (listed.setIfInBounds j true) (J9 j Q) L' K' (s.put o.dst u) (a.put o.dst u) w':=by
 obtain ⟨r1,r2,r3⟩:=FX.1 hj
 have hil:j<listed.size:=by rw [h.lsz];exact r1
 refine ⟨by simpa using h.lsz,h.cl.set hj h.lsz, λi hi=>?_,hF,hS,by rw [put_defers];exact h.ad,by rw [RU];exact h.asz, λx hx'=>?_, λi o' hi hl hiq=>?_,h.kx.trans hx⟩
 ·obtain ⟨h1,h2⟩:=G8.1 hi
  have:=h.qn i h1
  refine ⟨this.1,?_⟩
  rw [DI hil,if_neg h2]
  exact this.2
 ·by_cases hdx:o.dst=some x
  ·rw [put_eq hdx (by rw [h.asz];exact hd x hdx),put_eq hdx (by rw [h.fr.size];exact hd x hdx)]
  ·rw [O7 hdx,O7 hdx]
   refine h.agr x λi o' hi hd'=>?_
   have:=hx' i o' hi hd'
   rw [DI hil] at this
   by_cases hji:i=j
   ·subst hji
    rw [ho] at hi;injection hi with hi;subst hi
    exact absurd hd' hdx
   ·rw [if_neg hji] at this
    exact this.imp id λhm=>(G8.1 hm).1
 ·rw [DI hil] at hl
  by_cases hji:i=j
  ·rw [if_pos hji] at hl;cases hl
  ·rw [if_neg hji] at hl
   have hiq':i ∉ Q:= λhm=>hiq (G8.2 ⟨hm,hji⟩)
   refine (h.pend i o' hi hl hiq').put D hW ho hi hji hq (hK.imp id λe=>e.imp (λe=>⟨e.1, λhr=>?_,e.2⟩) id)
   have:=O1 h.cl j (EZ ops j) (λx hx=>Hz hj hx) i hr
   rw [getD_both (by rw [h.lsz];exact QB hi) true false,this] at hl
   cases hl
theorem H5.early (hW:Lr ops) (h:H5 D P T n ops nx E G K0 listed Q L K s a w) {i:Nat} {o:Oper} (hq:i∈Q) (ho:ops[i]? =some o) {L':List Ak} {u:Value}
 (hF:Fr n L' K (s.put o.dst u)) (hc:Ag8 D P T n ops nx G (J9 i Q) K (s.put o.dst u) i o):H5 D P T n ops nx E G K0 listed (J9 i Q) L' K (s.put o.dst u) a w:=by
 refine ⟨h.lsz,h.cl, λj hj=>h.qn j (G8.1 hj).1,hF,h.sat,h.ad,h.asz, λx hx=>?_, λj o' hj hl hjq=>?_,h.kx⟩
 ·have hdx:o.dst≠some x:= λhd=>by
   rcases hx i o ho hd with h1|h1
   ·rw [(h.qn i hq).2] at h1;cases h1
   ·exact (G8.1 h1).2 rfl
  rw [O7 hdx]
  exact h.agr x λj o' hj hd'=>(hx j o' hj hd').imp id λhm=>(G8.1 hm).1
 ·by_cases hji:j=i
  ·subst hji
   rw [ho] at hj;injection hj with hj;subst hj
   exact hc
  ·exact (h.pend j o' hj hl λhm=>hjq (G8.2 ⟨hm,hji⟩)).put D hW ho hj hji hq (.inl rfl)
theorem Xm:∀{l:List Nat} {i:Nat} {x:Oper×Option (Nat×Bool)×Value×Pr×List Prop},UC P T n ops nx Q L K l=some (i,x)→i∈l∧Alh P T n ops nx Q L K i=some x
 |[],i,x,h=>by simp [UC] at h
 |j::r,i,x,h=>by
  simp only [UC] at h
  split at h
  ·rename_i y hy
   simp only [iA,iP] at h
   obtain ⟨rfl,rfl⟩:=h
   exact ⟨by simp,hy⟩
  ·have:=Xm h
   exact ⟨by simp [this.1],this.2⟩
theorem Alv {L L':List Ak} {K:List (Chunk σ)} {g:Option (Nat×Bool)} {p:Prop} (hF:Fr n L K s) (hg:GV s.tmps g) (h:Wy g L L' p):p:=by
 unfold Wy at h
 split at h
 ·exact h
 ·rename_i c b
  split at h
  ·exact h
  ·split at h
   ·rename_i s0 g0 t pe hl
    obtain ⟨hm,hs⟩:=Dp hl
    simp only at hs
    subst hs
    refine h ?_
    simp only [GV] at hg
    by_cases hgg:GV s.tmps (some g0)
    ·have:=(hF.ents _ hm hgg).1
     simp only at this
     rw [hg] at this
     injection this with this
     exact this.symm
    ·have:=hF.skipd _ hm hgg
     simp only at this
     rw [hg] at this
     cases this
   ·exact h
theorem UO {L L':List Ak} {K:List (Chunk σ)} {g:Option (Nat×Bool)} {ps:List Prop} (hF:Fr n L K s) (hg:GV s.tmps g) (h:∀q∈ps.map (Wy g L L'),q):∀q∈ps,q:=
 λ_ hq=>Alv hF hg (h _ (List.mem_map_of_mem hq))
theorem H5.try (hT:BO D P T) (hW:Lr ops) (h:H5 D P T n ops nx E G K0 listed Q L K s a w) {i:Nat} {o:Oper} {g:Option (Nat×Bool)} {v:Value} {p:Pr} {ps:List Prop} (hq:i∈Q) (ht:Alh P T n ops nx Q L K i=some (o,g,v,p,ps)) (hps:∀q∈ps,q):
 ∃u,H5 D P T n ops nx E G K0 listed (J9 i Q) (fixMark n o L (Dw o.dst g v p L)) K (s.put o.dst u) a w:=by
 unfold Alh at ht
 split at ht
 ·cases ht
 ·rename_i o1 ho
  cases hd:(EZ ops i).any (λx=>Jy x Q) with
  |true=>rw [hd] at ht;cases ht
  |false=>
   rw [hd] at ht
   simp only [cond_false] at ht
   have hdq:∀x∈EZ ops i,x ∉ Q:= λx hx hm=>by
    have:(EZ ops i).any (λx=>Jy x Q)=true:=lH.2 ⟨x,hx,JD.2 hm⟩
    rw [hd] at this;cases this
   split at ht
   ·cases ht
   ·rename_i g1 hgs
    obtain ⟨q1,q2,q3⟩:=Iz hgs
    have hnd:∀(u:Value),Agr (Ii ops o1) s (s.put o1.dst u):= λu x hx=>by
     rw [O7]
     intro hd'
     exact (hW.rd i i o1 o1 x ho ho hd' hx).2 rfl
    cases hsk:Alg g1 L with
    |true=>
     rw [hsk] at ht
     simp only [cond_true,iA,iP] at ht
     obtain ⟨rfl,rfl,rfl,rfl,rfl⟩:=ht
     have hng:¬GV s.tmps g1:=by
      unfold Alg at hsk
      split at hsk
      ·rename_i c b
       split at hsk
       ·rename_i s0 t pe hl
        simp only [iE,beq_iff_eq] at hsk
        obtain ⟨hm,hs⟩:=Dp hl
        have:=(h.fr.ents _ hm trivial).1
        simp only at hs
        subst hs
        simp only at this
        intro hg
        simp only [GV] at hg
        rw [hg] at this
        injection this with this
        rw [hsk.2] at this
        cases b<;>cases this
       ·rename_i s0 x pe hl
        obtain ⟨hm,hs⟩:=Dp hl
        have:=(h.fr.ents _ hm trivial).1
        simp only at hs
        subst hs
        simp only at this
        intro hg
        simp only [GV] at hg
        rw [hg] at this
        cases this
       ·cases hsk
      ·cases hsk
     have hngu:∀u,¬GV (s.put o1.dst u).tmps g1:= λu hg=>hng (((hnd u).gv (RP hgs)).2 hg)
     refine ⟨undef,h.early D hW hq ho ((h.fr.put q2 (λ_ _ _ _ e=>by cases e) λ_=>⟨rfl,A8⟩).fixMark o1 L) ⟨g1,hgs, λx hx hm=>hdq x hx (G8.1 hm).1, λ_ d hd'=>put_eq hd' (by rw [h.fr.size];exact q2 d hd'), λhg=>absurd hg (hngu _)⟩⟩
    |false=>
     rw [hsk] at ht
     simp only [cond_false] at ht
     cases heb:Acx o1 with
     |true=>rw [heb] at ht;cases ht
     |false=>
      rw [heb] at ht
      simp only [cond_false] at ht
      have fin:∀(Kz:List (Chunk σ)) (v:Value) (p:Pr) (ps:List Prop),Bf K Kz→Dz Kz→Hw P T g1 (keepR (Ii ops o1) L) Kz o1=some (v,p,ps)→Hw P T g1 (keepR (Ii ops o1) L) K o1=some (v,p,ps)→(GV s.tmps g1→∀q∈ps,q)→
       (Ag6 D G Kz∨((∃B,K=Kz++B)∧(∀c,o1.op≠ .call c)∧∀j∈J9 i Q,Pi ops j=true→i∈reached ops j)∨(YB D G Kz K∧(∀c,o1.op≠ .call c)∧nx=true∧∀j∈J9 i Q,storeAt ops j=true→i∈reached ops j))→∃u,H5 D P T n ops nx E G K0 listed (J9 i Q) (fixMark n o1 L (Dw o1.dst g1 v p L)) K (s.put o1.dst u) a w:= λKz v p ps hx hk hz hK hps hp=>by
       have hFk:Fr n (keepR (Ii ops o1) L) K s:=h.fr.sub λe he=>(Nu he).1
       by_cases hg:GV s.tmps g1
       ·have hpk:=(Jt D hT hFk hg hK (hps hg) h.sat).2
        refine ⟨v,h.early D hW hq ho ((h.fr.put q2 q3 (λ_=>⟨rfl,hpk⟩) λhn=>absurd hg hn).fixMark o1 L) ⟨g1,hgs, λx hx hm=>hdq x hx (G8.1 hm).1, λhn=>absurd (((hnd v).gv (RP hgs)).1 hg) hn, λ_=>?_⟩⟩
        exact ⟨keepR (Ii ops o1) L,Kz,v,p,ps,hz,hps hg,RN (h.fr.ext hx hk) (hnd v) (by rw [put_defers];exact h.fr.defers) (by rw [RU];exact h.fr.size), λe he=>(Nu he).2, λd hd'=>put_eq hd' (by rw [h.fr.size];exact q2 d hd'),hp⟩
       ·refine ⟨undef,h.early D hW hq ho ((h.fr.put q2 q3 (λhg'=>absurd hg' hg) λ_=>rfl).fixMark o1 L) ⟨g1,hgs, λx hx hm=>hdq x hx (G8.1 hm).1, λ_ d hd'=>put_eq hd' (by rw [h.fr.size];exact q2 d hd'), λhg'=>absurd (((hnd undef).gv (RP hgs)).2 hg') hg⟩⟩
      split at ht
      ·rename_i v1 p1 ps1 hz
       simp only [iA,iP] at ht
       obtain ⟨rfl,rfl,rfl,rfl,rfl⟩:=ht
       exact fin (Qr K) _ _ _ (Aqi K) (Aqj K) hz (Aao (Arj K) (Aam · K 0) (Pq heb) hz) (λhg=>UO h.fr hg hps) (.inl (Af.Ark D h.sat))
      ·cases hall:Q.all (λj=>!(Pi ops j)||Jy i (reached ops j)) with
       |false=>
        rw [hall] at ht
        simp only [cond_false] at ht
        cases hns:(nx&&Q.all (λj=>!(storeAt ops j)||Jy i (reached ops j))) with
        |false=>rw [hns] at ht;cases ht
        |true=>
         rw [hns] at ht
         simp only [cond_true] at ht
         simp only [iE] at hns
         split at ht
         ·rename_i v1 p1 ps1 hz
          simp only [iA,iP] at ht
          obtain ⟨rfl,rfl,rfl,rfl,rfl⟩:=ht
          refine fin (frs K) _ _ _ (Akn K) (Aqk h.fr.kok) hz (Aao (Arl K) (Arm K) (Pq heb) hz) (λhg=>UO h.fr hg hps) (.inr (.inr ⟨Af.frs D h.sat,Pq heb,hns.1, λj hj he=>?_⟩))
          have:=(jN.1 hns.2) j (G8.1 hj).1
          rw [he] at this
          simp only [kL,jW] at this
          exact JD.1 this
         ·cases ht
       |true=>
        rw [hall] at ht
        simp only [cond_true] at ht
        split at ht
        ·rename_i v1 p1 ps1 hz
         simp only [iA,iP] at ht
         obtain ⟨rfl,rfl,rfl,rfl,rfl⟩:=ht
         refine fin K _ _ _ (Bf.refl K) h.fr.kok hz hz (λhg=>UO h.fr hg hps) (.inr (.inl ⟨⟨[],(kZ K).symm⟩,Pq heb, λj hj he=>?_⟩))
         have:=(jN.1 hall) j (G8.1 hj).1
         rw [he] at this
         simp only [kL,jW] at this
         exact JD.1 this
        ·cases ht
theorem Aly {T:List (Nat×Entry σ)} {ext:Nat→List (Value×Pr)→List (Chunk σ)→Option (Tree σ)} {L:List Ak} {K:List (Chunk σ)} {o:Oper} {t:TypeId} {x:Operand} (hop:o.op= .load t x) {k:Value→Pr→List (Chunk σ)→Tree σ} {tr:Tree σ}
 (h:Jh P T ext L K o k=some tr):∃v pr chs,tr=k v pr (K++chs)∧∀k2:Value→Pr→List (Chunk σ)→Tree σ,Jh P T ext L K o k2=some (k2 v pr (K++chs)):=by
 simp only [Jh,AfR,AfS,ZY,hop] at h ⊢
 split at h
 ·rename_i c i off hp
  split at h
  ·rename_i a n cap cols hk
   split at h
   ·rename_i v p chs hl
    injection h with h
    exact ⟨v,p,chs,h.symm, λk2=>by simp only [hp,hk,hl]⟩
   ·cases h
  ·cases h
 ·cases h
theorem Aap {R':Value→Pr→List (Chunk σ)→Prop} {S':List Ab→List Ak→List (Chunk σ)→Prop} {z:Tree σ}:∀{l:List (Tree σ)},(Aop z l).holds R' S'→(∀t∈l,t.holds R' S')∧(l=[]→z.holds R' S')
 |[],h=>⟨by simp, λ_=>h⟩
 |[t],h=>⟨λx hx=>by rw [jR.1 hx];exact h,by simp⟩
 |t::t'::r,h=>by
  obtain ⟨h1,h2⟩:=h
  have:=Aap (l:=t'::r) h2
  refine ⟨λx hx=>?_,by simp⟩
  rcases iG.1 hx with rfl|hx
  ·exact h1
  ·exact this.1 x hx
def Pv (listed:Array Bool):Nat→Nat
 |0=>0
 |k+1=>(if listed.getD k true=true then 0 else 1)+Pv listed k
theorem Aaq {i:Nat} (hi:i<listed.size):∀k,k≤i→Pv (listed.setIfInBounds i true) k=Pv listed k
 |0,_=>rfl
 |k+1,hk=>by
  have e:(listed.setIfInBounds i true).getD k true=listed.getD k true:=by rw [DI hi,if_neg (by omega)]
  simp only [Pv]
  rw [e,Aaq hi k (by omega)]
theorem Akp {i:Nat} (hi:i<listed.size) (hl:listed.getD i true=false):∀k,i<k→Pv (listed.setIfInBounds i true) k+1=Pv listed k
 |0,h=>by omega
 |k+1,h=>by
  by_cases hk:k=i
  ·subst hk
   have e:(listed.setIfInBounds k true).getD k true=true:=by rw [DI hi,if_pos rfl]
   simp only [Pv]
   rw [e,Aaq hi k (jY _),hl]
   simp
   omega
  ·have e:(listed.setIfInBounds i true).getD k true=listed.getD k true:=by rw [DI hi,if_neg hk]
   simp only [Pv]
   rw [e]
   have:=Akp hi hl k (by omega)
   omega
theorem Ag9:∀k,Pv listed k≤k
 |0=>jY _
 |k+1=>by
  simp only [Pv]
  have:=Ag9 k
  split<;>omega
theorem AgA:∀k,Pv listed k=0→∀i,i<k→listed.getD i true=true
 |0,_,i,h=>by omega
 |k+1,h,i,hi=>by
  simp only [Pv] at h
  by_cases hk:i=k
  ·subst hk
   cases hl:listed.getD i true with
   |true=>rfl
   |false=>rw [hl] at h;simp at h
  ·exact AgA k (by omega) i (by omega)
theorem H5.start (hF:Fr n L K a) (hS:Af D E G w K):H5 D P T n ops nx E G K (mT ops.size false) (jQ ops.size) L K a a w:=by
 have hl:∀i,(mT ops.size false).getD i false=false:= λi=>by
  rw [jC,Array.getElem?_replicate]
  split<;>rfl
 refine ⟨by simp, λi hi=>?_, λj hj=>⟨kV.1 hj,?_⟩,hF,hS,hF.defers,hF.size, λ_ _=>rfl, λi o ho _ hn=>absurd (kV.2 (QB ho)) hn,Bf.refl K⟩
 ·rw [hl] at hi;cases hi
 ·rw [getD_both (by simpa using kV.1 hj) true false,hl]
section
variable {f:Fq} {R:Ending→World→Prop} {td:List Item} {R':Value→Pr→List (Chunk σ)→Prop} {S':List Ab→List Ak→List (Chunk σ)→Prop} {ext:Nat→List (Value×Pr)→List (Chunk σ)→Option (Tree σ)}
 {st:List Nat→List Ak→List (Chunk σ)→Tree σ} {kont:List Ak→List (Chunk σ)→Tree σ}
theorem UQ (hT:BO D P T) (hW:Lr ops) (hst:∀Q L K,¬(st Q L K).holds R' S'):∀(m:Nat) (Q:List Nat) (L:List Ak) (s:Act),H5 D P T n ops nx E G K0 listed Q L K s a w→(wide P T ext n ops nx st kont m Q L K).holds R' S'→
 ∃m' Q' L' s',H5 D P T n ops nx E G K0 listed Q' L' K s' a w∧(wide P T ext n ops nx st kont (m'+1) Q' L' K).holds R' S'∧((Q'=[]∧(kont L' K).holds R' S')∨(Q'≠[]∧∀j∈Aaa ops Q',(Aoq P T ext n ops (st Q' L' K) (wide P T ext n ops nx st kont m') Q' L' K j).holds R' S'))
 |0,Q,L,s,hI,h=>absurd h (hst Q L K)
 |m+1,Q,L,s,hI,h=>by
  have h0:=h
  simp only [wide] at h
  split at h
  ·exact ⟨m,[],L,s,hI,h0, .inl ⟨rfl,h⟩⟩
  ·split at h
   ·rename_i q0 qr _ i o g v p ps hf
    obtain ⟨hps,ht⟩:=Gf h
    obtain ⟨h1,h2⟩:=Xm hf
    obtain ⟨u,hI'⟩:=hI.try D hT hW h1 h2 hps
    exact UQ hT hW hst m _ _ _ hI' ht
   ·rename_i q0 qr _ hf
    refine ⟨m,_,L,s,hI,h0, .inr ⟨by simp, λj hj=>(Aap h).1 _ (kN.2 ⟨j,hj,rfl⟩)⟩⟩
theorem Aar (hT:BO D P T) (hW:Lr ops) (hnx:nx=true→∀g a K,ext g a K=none)
 (hext:∀g args prs K t,ext g (lI args prs) K=some t→∀w,AQ K args prs→Dz K→Af D E G w K→∀Q:Value→Pr→List (Chunk σ)→Prop,t.holds Q (λ_ _ _=>False)→Qz P g args.toArray w λen w'=>∃v p K',en= .returned v∧Q v p K'∧Bf K K'∧Dz K'∧BH K' v p∧Af D E G w' K')
 (hst:∀Q L K,¬(st Q L K).holds R' S') (hk:∀L K,Bf K0 K→(kont L K).holds R' S'→∀a w,Fr n L K a→Af D E G w K→WT P f R (.inRegion ops []::td) a w):
 ∀(fuel t:Nat) (listed:Array Bool) (m:Nat) (Q:List Nat) (L:List Ak) (K:List (Chunk σ)) (s a:Act) (w:World),Pv listed ops.size≤fuel→H5 D P T n ops nx E G K0 listed Q L K s a w→(wide P T ext n ops nx st kont m Q L K).holds R' S'→
  WT P f R (.inRegion ops (jO .any ops fuel t listed [])::td) a w:=by
 have fin:∀(listed:Array Bool) (m:Nat) (Q:List Nat) (L:List Ak) (K:List (Chunk σ)) (s a:Act) (w:World),(∀i,i<ops.size→listed.getD i true=true)→H5 D P T n ops nx E G K0 listed Q L K s a w→(wide P T ext n ops nx st kont m Q L K).holds R' S'→
  WT P f R (.inRegion ops []::td) a w:= λlisted m Q L K s a w hall hI h=>by
  obtain ⟨m',Q',L',s',hI',hh,hc⟩:=UQ D hT hW hst m Q L s hI h
  have hQ:Q'=[]:=by
   cases Q' with
   |nil=>rfl
   |cons j r=>
    have:=hI'.qn j (by simp)
    rw [hall j this.1] at this
    cases this.2
  rcases hc with ⟨_,hko⟩|⟨hne,_⟩
  ·have hA:Agr (L'.map (·.s)++L'.filterMap (λe=>e.g.map (·.1))) s' a:= λx _=>(hI'.agr x λi o ho _=> .inl (hall i (QB ho))).symm
   refine hk L' K hI'.kx hko a w (hI'.fr.agr (λe he=>⟨?_, λc t hg=>?_⟩) hA hI'.ad hI'.asz) hI'.sat
   ·exact List.mem_append_left _ (kN.2 ⟨e,he,rfl⟩)
   ·exact List.mem_append_right _ (List.mem_filterMap.2 ⟨e,he,by rw [hg];rfl⟩)
  ·exact absurd hQ hne
 intro fuel
 induction fuel with
 |zero=>
  intro t listed m Q L K s a w hu hI h
  exact fin listed m Q L K s a w (AgA ops.size (by omega)) hI h
 |succ fuel ih=>
  intro t listed m Q L K s a w hu hI h
  simp only [jO]
  change WT P f R (.inRegion ops (match (iU .any ops listed)[t%(iU .any ops listed).length]? with
   |some i=>jO .any ops fuel (t/(iU .any ops listed).length) (listed.setIfInBounds i true) [i]
   |none=>[].reverse)::td) a w
  cases hi:(iU .any ops listed)[t%(iU .any ops listed).length]? with
  |none=>
   have hnil:iU .any ops listed=[]:=by
    cases hr:iU .any ops listed with
    |nil=>rfl
    |cons x xs=>
     rw [hr] at hi
     have hlt:t%(x::xs).length<(x::xs).length:=mB _ (by simp)
     rw [iK hlt] at hi;cases hi
   exact fin listed m Q L K s a w (ready_nil hW.dep hI.lsz hnil) hI h
  |some i=>
   have him:=iV hi
   dsimp only
   rw [linearise_go_acc,nG,mO]
   obtain ⟨r1,r2,r3⟩:=FX.1 him
   have ho:ops[i]? =some ops[i]:=jM r1
   generalize ops[i]=o at ho
   have hu':Pv (listed.setIfInBounds i true) ops.size≤fuel:=by
    have:=Akp (listed:=listed) (by rw [hI.lsz];exact r1) r2 ops.size r1
    omega
   obtain ⟨m',Q',L',s',hI',hh,hc⟩:=UQ D hT hW hst m Q L s hI h
   by_cases hq:i∈Q'
   ·rcases hc with ⟨hQ,_⟩|⟨_,hall⟩
    ·rw [hQ] at hq;cases hq
    ·have hrq:i∈Aaa ops Q':=by
      unfold Aaa
      rw [mD]
      refine ⟨hq,?_⟩
      cases hb:(EZ ops i).any (λx=>Jy x Q') with
      |false=>rfl
      |true=>
       exfalso
       rw [lH] at hb
       obtain ⟨x,hx,hxq⟩:=hb
       have h1:=Hz him hx
       have h2:=hI'.qn x (JD.1 hxq)
       rw [getD_both (by rw [hI.lsz];exact h2.1) true false,h1] at h2
       cases h2.2
     have hE:=hall i hrq
     have hA:=hI'.rd D hW him ho
     unfold Aoq at hE
     rw [ho] at hE
     simp only at hE
     split at hE
     ·exact absurd hE (hst _ _ _)
     ·rename_i g hgs
      obtain ⟨g1,g2,g3⟩:=Iz hgs
      have hGV:GV s'.tmps g↔GV a.tmps g:=hA.gv (RP hgs)
      have quiet:∀{v:Value} {p:Pr} {ps:List Prop},Hw P T g (keepR (Ii ops o) L') K o=some (v,p,ps)→(needs ps (wide P T ext n ops nx st kont m' (J9 i Q') (fixMark n o L' (Dw o.dst g v p L')) K)).holds R' S'→
       WT P f R (.inRegion ops (i::jO .any ops fuel (t/(iU .any ops listed).length) (listed.setIfInBounds i true) [])::td) a w:= λ{v p ps} hqs hE=>by
       obtain ⟨hps,ht⟩:=Gf hE
       have hFa:Fr n (keepR (Ii ops o) L') K a:=RN hI'.fr hA hI'.ad hI'.asz
       have hFs:Fr n (keepR (Ii ops o) L') K s':=hI'.fr.sub λe he=>(Nu he).1
       by_cases hg:GV s'.tmps g
       ·have hwt:iZ o (yielded ops a.tmps)=true:=(Ej g1).2 (hGV.1 hg)
        obtain ⟨hqq,hpk⟩:=Jt D hT hFa (hGV.1 hg) hqs hps hI'.sat
        refine WT.op ho hwt (hqq w hI'.sat).1 hI'.sat λw' hS'=>ih _ _ m' _ _ K _ _ w' hu' (hI'.now D hW him hq ho g2 ((hI'.fr.put g2 g3 (λ_=>⟨rfl,hpk⟩) λhn=>absurd hg hn).fixMark o L') hS' (Bf.refl K) (.inl rfl)) ht
       ·have hwf:iZ o (yielded ops a.tmps)=false:=by
         cases hw:iZ o (yielded ops a.tmps) with
         |false=>rfl
         |true=>exact absurd (hGV.2 ((Ej g1).1 hw)) hg
        exact WT.JQ ho hwf (ih _ _ m' _ _ K _ _ w hu' (hI'.now D hW him hq ho g2 ((hI'.fr.put g2 g3 (λhg'=>absurd hg' hg) λ_=>rfl).fixMark o L') hI'.sat (Bf.refl K) (.inl rfl)) ht)
      split at hE
      ·
       split at hE
       ·rename_i v p ps hqs
        exact quiet hqs hE
       ·have lstp:∀(L1:List Ak) (tr:Tree σ) (tl:TypeId) (xl:Operand),o.op= .load tl xl→Fr n L1 K s'→iZ o (yielded ops a.tmps)=true→Jh P T ext (keepR (Ii ops o) L1) K o (λv pr K'=>wide P T ext n ops nx st kont m' (J9 i Q') (unmark o (Dw o.dst none v pr L1)) K')=some tr→tr.holds R' S'→
         WT P f R (.inRegion ops (i::jO .any ops fuel (t/(iU .any ops listed).length) (listed.setIfInBounds i true) [])::td) a w:= λL1 tr tl xl hop hF1 hwt he hE=>by
         obtain ⟨v0,pr0,chs,rfl,hk2⟩:=Aly hop he
         refine Jw D hT hext ho hwt g2 (RN hF1 hA hI'.ad hI'.asz) hI'.sat (k:= λv' pr' K'=> .need (∃B,K'=K++B) (wide P T ext n ops nx st kont m' (J9 i Q') (unmark o (Dw o.dst none v' pr' L1)) K')) (hk2 _) ⟨⟨chs,rfl⟩, λ_=>hE⟩ λv pr K' hK0 hx hck a' w' ⟨u,ha'⟩ hF' hS'=>?_
         subst ha'
         obtain ⟨hB,hK1⟩:=hK0
         have hK':=hK1 hB
         refine ih _ _ m' _ _ K' _ _ w' hu' (hI'.now D hW him hq ho g2 (L':=unmark o (Dw o.dst none v pr L1)) (u:=u) (Fr.unmark ?_ o) hS' hx (.inr (.inr hB))) hK'
         have hk':Dz K':=hF'.kok
         cases hdst:o.dst with
         |none=>
          exact hF1.ext hx hk'
         |some d=>
          rw [hdst] at hF'
          have he':=hF'.ents ⟨d,none,v,pr⟩ (by simp [Dw]) trivial
          simp only at he'
          rw [put_eq rfl (by rw [hI'.asz];exact g2 d hdst)] at he'
          exact (hF1.ext hx hk').put (λd' hd'=>by injection hd' with hd';subst hd';exact g2 d hdst) (λ_ _ _ _ e=>by cases e) λ_=>he'
        split at hE
        ·rename_i tl xl hop hqn
         split at hE
         ·rename_i tr he
          exact lstp L' tr tl xl hop hI'.fr ((Ej g1).2 trivial) he hE
         ·exact absurd hE (hst _ _ _)
        ·rename_i c b tl xl hop hqn
         split at hE
         ·rename_i s0 t0 pe hl
          cases hnb:jS n 1000000 with
          |false=>rw [hnb] at hE;exact absurd hE (hst _ _ _)
          |true=>
           rw [hnb] at hE
           simp only [cond_true] at hE
           have hnn:=iQ hnb
           obtain ⟨hAy,hSk⟩:=Lp hE
           obtain ⟨hm,hs⟩:=Dp hl
           have ht:=(hI'.fr.ents _ hm trivial).1
           simp only at hs
           subst hs
           simp only at ht
           by_cases htb:t0=b
           ·subst htb
            have hAy:=hAy rfl
            split at hAy
            ·rename_i A he
             exact lstp _ A tl xl hop (hI'.fr.known hnn ht) ((Ej g1).2 (hGV.1 ht)) he hAy
            ·exact absurd hAy (hst _ _ _)
           ·have htn:t0=!b:=by cases t0<;>cases b<;>simp at htb ⊢
            have hng:¬GV s'.tmps (some (s0,b)):= λhg=>by
             simp only [GV] at hg
             rw [ht] at hg
             injection hg with hg
             exact htb hg
            have hwf:iZ o (yielded ops a.tmps)=false:=by
             cases hw:iZ o (yielded ops a.tmps) with
             |false=>rfl
             |true=>exact absurd (hGV.2 ((Ej g1).1 hw)) hng
            rw [htn] at ht
            exact WT.JQ ho hwf (ih _ _ m' _ _ K _ _ w hu' (hI'.now D hW him hq ho g2 ((hI'.fr.known hnn ht).put g2 (λ_ _ _ _ e=>by cases e) λ_=>⟨rfl,A8⟩) hI'.sat (Bf.refl K) (.inl rfl)) (hSk htn))
         ·exact absurd hE (hst _ _ _)
        ·exact absurd hE (hst _ _ _)
      ·
       rename_i heb
       have hea:Pi ops i=true:=by unfold Pi;rw [ho];exact heb
       have stp:∀(L1:List Ak) (tr:Tree σ),Fr n L1 K s'→iZ o (yielded ops a.tmps)=true→Jh P T ext (keepR (Ii ops o) L1) K o (λv pr K'=>wide P T ext n ops nx st kont m' (J9 i Q') (unmark o (Dw o.dst none v pr L1)) K')=some tr→tr.holds R' S'→
        WT P f R (.inRegion ops (i::jO .any ops fuel (t/(iU .any ops listed).length) (listed.setIfInBounds i true) [])::td) a w:= λL1 tr hF1 hwt he htr=>by
        refine Jw D hT hext ho hwt g2 (RN hF1 hA hI'.ad hI'.asz) hI'.sat he htr λv pr K' hK' hx hck a' w' ⟨u,ha'⟩ hF' hS'=>?_
        subst ha'
        refine ih _ _ m' _ _ K' _ _ w' hu' (hI'.now D hW him hq ho g2 (L':=unmark o (Dw o.dst none v pr L1)) (u:=u) (Fr.unmark ?_ o) hS' hx (.inr (.inl ⟨hea, λhns hn=>hck ⟨λt' x' y' hop=>(by unfold storeAt at hns;rw [ho] at hns;simp only [hop] at hns;cases hns),hnx hn⟩⟩))) hK'
        have hk':Dz K':=hF'.kok
        cases hdst:o.dst with
        |none=>
         exact hF1.ext hx hk'
        |some d=>
         rw [hdst] at hF'
         have he':=hF'.ents ⟨d,none,v,pr⟩ (by simp [Dw]) trivial
         simp only at he'
         rw [put_eq rfl (by rw [hI'.asz];exact g2 d hdst)] at he'
         exact (hF1.ext hx hk').put (λd' hd'=>by injection hd' with hd';subst hd';exact g2 d hdst) (λ_ _ _ _ e=>by cases e) λ_=>he'
       split at hE
       ·split at hE
        ·rename_i tr he
         exact stp L' tr hI'.fr ((Ej g1).2 trivial) he hE
        ·exact absurd hE (hst _ _ _)
       ·rename_i c b
        split at hE
        ·rename_i s0 t0 pe hl
         cases hnb:jS n 1000000 with
         |false=>rw [hnb] at hE;exact absurd hE (hst _ _ _)
         |true=>
          rw [hnb] at hE
          simp only [cond_true] at hE
          have hnn:=iQ hnb
          obtain ⟨hAy,hSk⟩:=Lp hE
          obtain ⟨hm,hs⟩:=Dp hl
          have ht:=(hI'.fr.ents _ hm trivial).1
          simp only at hs
          subst hs
          simp only at ht
          by_cases htb:t0=b
          ·subst htb
           have hAy:=hAy rfl
           split at hAy
           ·rename_i A he
            exact stp _ A (hI'.fr.known hnn ht) ((Ej g1).2 (hGV.1 ht)) he hAy
           ·exact absurd hAy (hst _ _ _)
          ·have htn:t0=!b:=by cases t0<;>cases b<;>simp at htb ⊢
           have hng:¬GV s'.tmps (some (s0,b)):= λhg=>by
            simp only [GV] at hg
            rw [ht] at hg
            injection hg with hg
            exact htb hg
           have hwf:iZ o (yielded ops a.tmps)=false:=by
            cases hw:iZ o (yielded ops a.tmps) with
            |false=>rfl
            |true=>exact absurd (hGV.2 ((Ej g1).1 hw)) hng
           rw [htn] at ht
           exact WT.JQ ho hwf (ih _ _ m' _ _ K _ _ w hu' (hI'.now D hW him hq ho g2 ((hI'.fr.known hnn ht).put g2 (λ_ _ _ _ e=>by cases e) λ_=>⟨rfl,A8⟩) hI'.sat (Bf.refl K) (.inl rfl)) (hSk htn))
        ·split at hE
         ·rename_i v p ps hqs
          exact quiet hqs hE
         ·exact absurd hE (hst _ _ _)
   ·obtain ⟨u,hu2,hnext⟩:=hI'.late D hT hW him hq ho
    rcases hu2 with ⟨hwt,hqa⟩|⟨hwf,rfl⟩
    ·exact WT.op ho hwt hqa hI'.sat λw' hS'=>ih _ _ (m'+1) Q' L' K s' _ w' hu' (hnext w' hS') hh
    ·exact WT.JQ ho hwf (ih _ _ (m'+1) Q' L' K s' _ w hu' (hnext w hI'.sat) hh)
end
end
end
section
open Go.RowKit
variable {σ:Type} (D:Addr→σ→CZ)
def Ap8 (Q:List (Chunk σ)→Prop):Prop:=∀K K',Q K→Bf K K'→Q K'
theorem Aas {K:List (Chunk σ)} {tm:Array Value}:∀(args:List (Value×Pr)) (i:Nat),(∀(j:Nat) v p,args[j]? =some (v,p)→tm.getD (i+j) undef=v∧BH K v p)→∀e∈En i args,e.ok K tm
 |[],_,_,e,he=>by simp [En] at he
 |(v,p)::r,i,h,e,he=>by
  simp only [En,iG] at he
  rcases he with rfl|he
  ·intro _;exact h 0 v p rfl
  ·refine Aas r (i+1) (λj v' p' hj=>?_) e he
   have:=h (j+1) v' p' (by simpa using hj)
   rw [show i+(j+1)=i+1+j by omega] at this
   exact this
theorem Aej:∀(args:List (Value×Pr)) (i:Nat) (e:Ak),e∈En i args→e.g=none
 |[],_,e,he=>by simp [En] at he
 |(v,p)::r,i,e,he=>by
  simp only [En,iG] at he
  rcases he with rfl|he
  ·rfl
  ·exact Aej r (i+1) e he
theorem Fr.start {n:Nat} {K:List (Chunk σ)} (args:List (Value×Pr)) (hlen:args.length≤n) (hp:∀x∈args,BH K x.1 x.2) (hk:Dz K):
 Fr n (En 0 args) K {tmps:=(args.map (·.1)).toArray++mT (n-(args.map (·.1)).toArray.size) undef,defers:=[]}:=by
 refine ⟨hk,rfl,?_,Aas args 0 λj v p hj=>⟨?_,hp (v,p) (iV hj)⟩, λe he hg=>absurd (by rw [Aej args 0 e he];trivial) hg⟩
 ·simp;omega
 ·have hjl:=BD hj
  rw [lD,jC,Array.getElem?_append_left (by simpa using hjl)]
  simp [hj]
theorem Ac4 {K:List (Chunk σ)}:∀{vs:List Value} {ps:List Pr},AQ K vs ps→(∀x∈lI vs ps,BH K x.1 x.2)∧(lI vs ps).map (·.1)=vs
 |[],[],_=>by simp
 |[],_::_,h=>by simp [AQ] at h
 |_::_,[],h=>by simp [AQ] at h
 |v::vs,p::ps,h=>by
  simp only [AQ] at h
  obtain ⟨h1,h2⟩:=Ac4 h.2
  refine ⟨λx hx=>?_,by simp [h2]⟩
  simp only [mL,iG] at hx
  rcases hx with rfl|hx
  ·exact h.1
  ·exact h1 x hx
theorem RV {I:List Nat} {b:Nat} {e:Ak}:∀{L:List Ak},e∈Qs I b L→e∈L
 |[],h=>by simp [Qs] at h
 |x::r,h=>by
  simp only [Qs] at h
  cases hb:I.any (iL (b+x.s)) with
  |true=>
   rw [hb] at h
   simp only [cond_true,iG] at h ⊢
   exact h.imp id RV
  |false=>
   rw [hb] at h
   exact List.mem_cons_of_mem _ (RV h)
theorem AmT {I p:List Nat} {L:List Ak} {e:Ak} (h:e∈Alj I p L):e∈L:=by
 unfold Alj at h
 cases hb:I.any (λx=>iL (x/1000000000) (1+Ali p%9973)) with
 |true=>rw [hb] at h;exact RV h
 |false=>rw [hb] at h;exact h
def AmU (P:Program) (Y:List (Value×Pr)→List (Chunk σ)→Option (Tree σ)) (E:Ev) (G:Hp):Prop:=
 ∀args prs K t,Y (lI args prs) K=some t→∀w,AQ K args prs→Dz K→Af D E G w K→∀Q:Value→Pr→List (Chunk σ)→Prop,t.holds Q (λ_ _ _=>False)→∀l asv,args.toArray= #[.func (.yield l) #[] #[]]++asv→
  Qy P l asv w λen w'=>∃v p K',en= .returned v∧Q v p K'∧Bf K K'∧Dz K'∧BH K' v p∧Af D E G w' K'
theorem NY {P:Program} {T:List (Nat×Entry σ)} (hT:BO D P T) {Y:List (Value×Pr)→List (Chunk σ)→Option (Tree σ)} {I:List Nat} (hmix:P.follows .mixedOrders=true):
 ∀(fuel:Nat) {f:Fq} {rs:List ResultVar} {B:Code} {R:Ending→World→Prop} {n:Nat} {E:Ev} {G:Hp} (_:AmU D P Y E G) (_:(f.pl∧∃fn,P.funcs[f.id]? =some fn∧rs=fn.results.toList)∨(rounds I=true∧∀(L:List Ak) (K:List (Chunk σ)),GM P L K rs=none)) {Q:List (Chunk σ)→Prop} (_:Ap8 Q)
 {R':Value→Pr→List (Chunk σ)→Prop} (_:∀v p K w,R' v p K→Q K→Dz K→BH K v p→Af D E G w K→R (.returned v) w)
 (td:List Ab) (L:List Ak) (K:List (Chunk σ)),Q K→(Ey P T Y I fuel B rs n td L K).holds R' (SW D P f R B n E G)→SW D P f R B n E G td L K:=by
 intro fuel
 induction fuel with
 |zero=>intro f rs B R n E G hY hfn Q hQ R' hR td L K _ h;exact h
 |succ fuel ih0=>
  intro f rs B R n E G hY hfn Q hQ R' hR td L K hQK h a w hF hS
  have ih:= λtd L K=>ih0 (f:=f) (rs:=rs) (B:=B) (R:=R) (n:=n) (E:=E) (G:=G) hY hfn hQ hR td L K
  have fin:∀(t:List Item),(t=[]∨∃k,t= .code .ret::k)→td.map (item B)=t→
   Tree.holds R' (SW D P f R B n E G) (match GM P L K rs with|some [(v,p)]=> .ret v p K|some vs=> .ret (.tuple (vs.map (·.1)).toArray) (Gy (vs.map (·.2))) K|none=> .stuck td L K)→WT P f R (td.map (item B)) a w:=by
   intro t ht htd h
   cases hr:GM P L K rs with
   |none=>rw [hr] at h;exact h a w hF hS
   |some vs=>
    rw [hr] at h
    rw [htd]
    obtain ⟨hro,fn,hfn1,rfl⟩:f.pl∧∃fn,P.funcs[f.id]? =some fn∧rs=fn.results.toList:=hfn.resolve_right λh2=>by rw [h2.2] at hr;cases hr
    have hps:=(KA D hF hS _ _ hr).2
    refine Agw D hro hfn1 ht hF hS hr ?_
    match vs,hps with
    |[],hps=>exact hR _ _ _ _ h hQK hF.kok (UG hps) hS
    |[(v,p)],hps=>exact hR _ _ _ _ h hQK hF.kok (hps (v,p) (by simp)) hS
    |_::_::_,hps=>exact hR _ _ _ _ h hQK hF.kok (UG hps) hS
  have hext:∀g args prs K t,(λ(g:Nat) (args:List (Value×Pr)) (K:List (Chunk σ))=>
   bif I.any (iL g)&&mF g 1000000 then match P.funcs[g]? with
    |some fn=>match fn.body with
     |some B'=>bif jS args.length fn.ntmps then some (Ey P T Y I fuel B' fn.results.toList fn.ntmps [.code []] (En 0 args) K) else none
     |none=>none
    |none=>none
   else bif iL g Ou&&hooked I then Y args K else none) g (lI args prs) K=some t→∀w,AQ K args prs→Dz K→Af D E G w K→∀Q:Value→Pr→List (Chunk σ)→Prop,t.holds Q (λ_ _ _=>False)→
   Qz P g args.toArray w λen w'=>∃v p K',en= .returned v∧Q v p K'∧Bf K K'∧Dz K'∧BH K' v p∧Af D E G w' K':=by
   intro g args prs K t ht w hps hk hS Q hQ
   dsimp only at ht
   cases hI:(I.any (iL g)&&mF g 1000000) with
   |false=>
    rw [hI] at ht
    simp only [cond_false] at ht
    cases hy:(iL g Ou&&hooked I) with
    |false=>rw [hy] at ht;cases ht
    |true=>
     rw [hy] at ht
     simp only [iE] at hy
     have e:=iF hy.1
     exact ⟨λhne=>absurd e hne, λ_ l asv has=>hY args prs K t ht w hps hk hS Q hQ l asv has⟩
   |true=>
    rw [hI] at ht
    simp only [cond_true] at ht
    split at ht
    ·rename_i fn' hfn'
     split at ht
     ·rename_i B' hB'
      cases hle:jS (lI args prs).length fn'.ntmps with
      |false=>rw [hle] at ht;cases ht
      |true=>
       rw [hle] at ht
       simp only [cond_true,iA] at ht
       subst ht
       obtain ⟨hp1,hp2⟩:=Ac4 hps
       refine ⟨λ_=>Ju hfn' hB' ?_, λe=>(by simp only [iE] at hI;have:=iQ (show jS (g+1) 1000000=true from hI.2);unfold Ou at e;omega)⟩
       have hgo:=ih0 (f:=(g:Fq)) (rs:=fn'.results.toList) (B:=B') (R:= λen w'=>∃v p K',en= .returned v∧Q v p K'∧Bf K K'∧Dz K'∧BH K' v p∧Af D E G w' K') (n:=fn'.ntmps) (E:=E) (G:=G) hY (.inl ⟨rfl,fn',hfn',rfl⟩) (Q:=Bf K) (λ_ _ h1 h2=>h1.trans h2)
        (R':=Q) (λv p K' w' h1 h2 h3 h4 h5=>⟨v,p,K',rfl,h1,h2,h3,h4,h5⟩) [.code []] (En 0 (lI args prs)) K (Bf.refl K) (Tree.Gq (λ_ _ _ h=>h) (λ_ _ _ h=>h.elim) hQ)
       have hst:=Fr.start (n:=fn'.ntmps) (lI args prs) (iQ hle) hp1 hk
       rw [hp2] at hst
       exact hgo _ w hst hS
     ·cases ht
    ·cases ht
  have hnx:((I.all λx=>jS 1000000 x)&&!(hooked I))=true→∀g (args:List (Value×Pr)) (K:List (Chunk σ)),(λ(g:Nat) (args:List (Value×Pr)) (K:List (Chunk σ))=>
   bif I.any (iL g)&&mF g 1000000 then match P.funcs[g]? with
    |some fn=>match fn.body with
     |some B'=>bif jS args.length fn.ntmps then some (Ey P T Y I fuel B' fn.results.toList fn.ntmps [.code []] (En 0 args) K) else none
     |none=>none
    |none=>none
   else bif iL g Ou&&hooked I then Y args K else none) g args K=none:= λhall g args K=>by
   dsimp only
   simp only [iE,kU] at hall
   have hall1:=hall.1
   have:(I.any (iL g)&&mF g 1000000)=false:=by
    cases hb:(I.any (iL g)&&mF g 1000000) with
    |false=>rfl
    |true=>
     simp only [iE] at hb
     obtain ⟨x,hx,e⟩:=lH.1 hb.1
     have h1:=iQ (jN.1 hall1 x hx)
     have h2:=iF e
     have h3:g+1≤1000000:=iQ hb.2
     omega
   rw [this,hall.2,oJ];rfl
  cases td with
  |nil=>simp only [Ey] at h;exact fin [] (.inl rfl) rfl h
  |cons x k=>
   cases x with
   |code p=>
    simp only [Ey] at h
    simp only [iD,item]
    split at h
    ·rename_i hc
     rw [hc]
     exact WT.step (λcs=>stepR_skip) (ih k L K hQK h a w hF hS)
    ·rename_i c1 c2 hc
     have:=ih _ L K hQK h a w hF hS
     simp only [iD,item,sub,hc] at this
     rw [hc]
     exact WT.step (λcs=>stepR_seq) this
    ·rename_i c c1 c2 hc
     split at h
     ·rename_i t hv
      have hev:=AU (g:=none) hF trivial hv
      rw [hc]
      refine WT.step (λcs=>stepR_cond hev) ?_
      split at h
      ·cases t with
       |true=>
        have:=ih _ L K hQK h a w hF hS
        simp only [iD,item,sub,hc] at this
        exact this
       |false=>
        have:=ih _ L K hQK h a w hF hS
        simp only [iD,item,sub,hc] at this
        exact this
      ·cases t with
       |true=>
        have:=ih _ L K hQK (h.1 rfl) a w hF hS
        simp only [iD,item,sub,hc] at this
        exact this
       |false=>
        have:=ih _ L K hQK (h.2 rfl) a w hF hS
        simp only [iD,item,sub,hc] at this
        exact this
     ·exact h a w hF hS
    ·rename_i id c hc
     have:=ih _ L K hQK h a w hF hS
     simp only [iD,item,sub,hc] at this
     rw [hc]
     exact WT.step (λcs=>stepR_block) this
    ·rename_i id hc
     split at h
     ·rename_i k' hk
      rw [hc]
      exact WT.step (λcs=>stepR_exit (IK hk)) (ih k' L K hQK h a w hF hS)
     ·exact h a w hF hS
    ·rename_i hc
     exact fin (.code .ret::k.map (item B)) (.inr ⟨_,rfl⟩) (by simp only [iD,item,hc]) h
    ·rename_i id ops hc
     have:=ih _ L K hQK h a w hF hS
     simp only [iD,item,hc,opsOf,Nat.sub_zero] at this
     rw [hc]
     refine WT.step (λcs=>stepR_region) ?_
     rw [List.range_eq_range']
     exact this
    ·rename_i id ops hc
     refine (Bool.eq_false_or_eq_true (I.any (iL (AfT p 900)))).elim (λhst=>by rw [hst] at h;exact h a w hF hS) λhst=>?_
     rw [hst] at h
     dsimp only at h
     have hwide:∀ext,(((I.all λx=>jS 1000000 x)&&!(hooked I))=true→∀g a K,ext g a K=none)→(∀g args prs K t,ext g (lI args prs) K=some t→∀w,AQ K args prs→Dz K→Af D E G w K→∀Q:Value→Pr→List (Chunk σ)→Prop,t.holds Q (λ_ _ _=>False)→
      Qz P g args.toArray w λen w'=>∃v p K',en= .returned v∧Q v p K'∧Bf K K'∧Dz K'∧BH K' v p∧Af D E G w' K')→
      Tree.holds R' (SW D P f R B n E G) (bif Oy ops then wide P T ext n ops ((I.all λx=>jS 1000000 x)&&!(hooked I)) (λQ L K=> .need False (.stuck (.lst p Q::List.drop 1 (.code p::k)) L K)) (λL' K'=>Ey P T Y I fuel B rs n (List.drop 1 (.code p::k)) L' K') (ops.size+1) (jQ ops.size) L K else .stuck (.code p::k) L K)→
      WT P f R (.code (sub B p)::k.map (item B)) a w:= λext hnx hext hh=>by
      cases hb:Oy ops with
      |false=>rw [hb] at hh;exact hh a w hF hS
      |true=>
       rw [hb] at hh
       simp only [cond_true] at hh
       rw [hc]
       refine WT.step (λcs=>stepR_region_draw) ?_
       simp only [Region.schedule,hmix,kS,if_true]
       refine Aar D hT (Ako hb) hnx hext (st:= λQ L K=> .need False (.stuck (.lst p Q::List.drop 1 (.code p::k)) L K)) (λ_ _ _ h=>And.left h) (λL' K' hx hko a' w' hF' hS'=>WT.step (λcs=>stepR_region_end) (ih k L' K' (hQ _ _ hQK hx) hko a' w' hF' hS')) ops.size _ _ _ _ _ K a a _ (Ag9 _) (H5.start D hF (Sat.drawn hS _)) hh
     split at h
     ·rename_i L' ps hq0
      cases hB0:(oF .any ops&&!(rounds I)) with
      |false=>rw [hB0] at hq0;cases hq0
      |true=>
       rw [hB0] at hq0
       simp only [cond_true] at hq0
       simp only [iE,kU] at hB0
       have hB:=hB0.1
       have hro:f.pl:=hfn.elim (·.1) λh2=>by rw [h2.1] at hB0;cases hB0.2
       obtain ⟨hps,ht⟩:=Gf h
       rw [hc]
       refine WT.Asf hro (wp_region_quiet (C:= λw'=>Af D E G w' K) hmix hB (Sat.drawn hS _) ?_)
       exact Lj D hT _ L hF hS hq0 hps λa' hF' w' hS'=>⟨rfl,ih k L' K hQK ht a' w' hF' hS'⟩
     ·cases hB0:(lastB ops (ops.size-1)&&AqY (Rz P T n ops K 0 ops.toList L) (ops.size-1)) with
      |true=>
       rw [hB0] at h
       simp only [cond_true] at h
       have hB:lastB ops (ops.size-1)=true:=by
        simp only [iE] at hB0
        exact hB0.1
       simp only [hB,cond_true] at h
       split at h
       ·rename_i om hom
        split at h
        ·rename_i hgs
         split at h
         ·rename_i L' ps hq
          split at h
          ·rename_i t he
           obtain ⟨hps,ht⟩:=Gf h
           obtain ⟨g1,g2,_⟩:=Iz hgs
           rw [hc]
           refine WT.AiV (C:= λw'=>Af D E G w' K) (Q0:= λa'=>Fr n L' K a') hmix hB (Sat.drawn hS _) (λa' w' hF' hS'=>?_) (Lj D hT _ L hF hS hq hps λa' hF'=>hF')
           exact Jw D hT hext hom ((Ej g1).2 trivial) g2 hF' hS' he ht λv pr K' hK' hx _ a2 w2 _ hF2 hS2=>WT.step (λcs=>stepR_region_end) (ih k _ K' (hQ _ _ hQK hx) hK' a2 w2 hF2 hS2)
          ·exact h a w hF hS
         ·exact h a w hF hS
        ·exact h a w hF hS
       ·exact h a w hF hS
      |false=>
       rw [hB0] at h
       simp only [cond_false] at h
       split at h
       ·rename_i m hm
        cases hTo:ZZ ops (Nr ops m) m with
        |false=>rw [hTo] at h;exact hwide _ hnx hext h
        |true=>
         rw [hTo] at h
         simp only [cond_true] at h
         have hT':=Aqb hTo
         split at h
         ·rename_i L' ps hq
          have hQ0:∀ps',(∀p∈ps',p)→ps'=ps→wpQuiet P (EJ ops m) (λw'=>Af D E G w' K) (λa'=>Fr n L' K a') (EJ ops m).toList a:= λps' hps' e=>by
           subst e
           exact Lj D hT _ L hF hS hq hps' λa' hF'=>hF'
          have hop:∀is,(item B (.lst p is))= .inRegion ops is:= λis=>by simp only [item,hc,opsOf]
          cases hu:iL (Nr ops m) ops.size with
          |true=>
           rw [hu] at h
           simp only [cond_true] at h
           obtain ⟨hps,ht⟩:=Gf h
           rw [hc]
           refine WT.Xe (C:= λw'=>Af D E G w' K) (Q0:= λa'=>Fr n L' K a') (u:=Nr ops m) (m:=m) hmix hT' (Sat.drawn hS _) (λa' w' hF' hS'=>?_) (λo ho=>?_) (hQ0 ps hps rfl)
           ·have:=ih _ L' K hQK ht a' w' hF' hS'
            simpa only [iD,hop,mY,mN] using this
           ·exfalso
            rw [iF hu,kE (jY _)] at ho
            cases ho
          |false=>
           rw [hu] at h
           simp only [cond_false] at h
           split at h
           ·rename_i d hd
            obtain ⟨hps,ht⟩:=Gf h
            obtain ⟨htA,htB⟩:=ht
            rw [hc]
            refine WT.Xe (C:= λw'=>Af D E G w' K) (Q0:= λa'=>Fr n L' K a') (u:=Nr ops m) (m:=m) hmix hT' (Sat.drawn hS _) (λa' w' hF' hS'=>?_) (λo ho a' w' v hF' hS'=>?_) (hQ0 ps hps rfl)
            ·have:=ih _ L' K hQK htA a' w' hF' hS'
             simpa only [iD,hop,mY,mN] using this
            ·rw [ho] at hd
             have hd':o.dst=some d:=hd
             rw [hd'] at hF'
             have:=ih _ (del d L') K hQK htB a' w' hF'.unput hS'
             simpa only [iD,hop,mY,mN] using this
           ·exact h a w hF hS
         ·exact hwide _ hnx hext h
       ·exact hwide _ hnx hext h
    ·rename_i c hc
     have:=ih _ L K hQK h a w hF hS
     simp only [iD,item,sub,hc] at this
     rw [hc]
     exact WT.step (λcs=>AiU) this
    ·rename_i l hc
     rw [hc]
     exact WT.step (λcs=>stepR_label) (ih k L K hQK h a w hF hS)
    ·rename_i c hc
     split at h
     ·have:=ih _ L K hQK h a w hF hS
      simp only [iD,item,sub,hc] at this
      rw [hc]
      exact WT.step (λcs=>stepR_loop) this
     ·exact h a w (hF.sub λ_ he=>AmT he) hS
    ·exact h a w hF hS
   |blk id=>
    simp only [Ey] at h
    exact WT.step (λcs=>stepR_inBlock) (ih k L K hQK h a w hF hS)
   |scp p=>
    simp only [Ey] at h
    simp only [iD,item]
    exact WT.step (λcs=>Afk) (ih k L K hQK h a w hF hS)
   |raw i=>simp only [Ey] at h;exact h a w hF hS
   |again p=>
    simp only [Ey] at h
    split at h
    ·have:=ih _ L K hQK h a w hF hS
     simp only [iD,item] at this ⊢
     exact WT.step (λcs=>stepR_inLoop) this
    ·exact h a w hF hS
   |lst p is=>
    cases is with
    |nil=>
     simp only [Ey] at h
     simp only [iD,item]
     exact WT.step (λcs=>stepR_region_end) (ih k L K hQK h a w hF hS)
    |cons i is=>
     simp only [Ey] at h
     simp only [iD,item]
     split at h
     ·have:=h a w hF hS
      simpa only [iD,item] using this
     ·rename_i o ho
      split at h
      ·have:=h a w hF hS
       simpa only [iD,item] using this
      ·rename_i g hgs
       split at h
       ·rename_i v pr ps hq
        obtain ⟨hps,ht⟩:=Gf h
        have next:=ih (.lst p is::k) _ K hQK ht
        rcases quiet_step D hT hF hS hgs hq hps with ⟨hw,hqq,hF'⟩|⟨hw,hF'⟩
        ·exact WT.op ho hw (hqq w hS) hS λw' hS'=>next _ w' (hF'.fixMark o L) hS'
        ·exact WT.JQ ho hw (next _ w (hF'.fixMark o L) hS)
       ·split at h
        ·have:=h a w hF hS
         simpa only [iD,item] using this
        ·split at h
         ·rename_i t he
          obtain ⟨g1,g2,_⟩:=Iz hgs
          exact Jw D hT hext ho ((Ej g1).2 trivial) g2 hF hS he h λv pr K' hK' hx _ a' w' _ hF' hS'=>ih (.lst p is::k) _ K' (hQ _ _ hQK hx) hK' a' w' (hF'.unmark o) hS'
         ·have:=h a w hF hS
          simpa only [iD,item] using this
   |ops p i=>
    simp only [Ey] at h
    simp only [iD,item]
    split at h
    ·have:=h a w hF hS
     simpa only [iD,item] using this
    ·split at h
     ·rename_i hi
      have hge:(opsOf (sub B p)).size≤i:=by
       rcases jB i (opsOf (sub B p)).size with h'|h'
       ·simp [h'] at hi
       ·exact h'
      rw [Nat.sub_eq_zero_of_le hge]
      exact WT.step (λcs=>stepR_region_end) (ih k L K hQK h a w hF hS)
     ·rename_i o ho
      have hlt:i<(opsOf (sub B p)).size:=by
       rcases jB i (opsOf (sub B p)).size with h'|h'
       ·exact h'
       ·rw [kE h'] at ho;cases ho
      split at h
      ·have:=h a w hF hS
       simpa only [iD,item] using this
      ·rename_i g hgs
       split at h
       ·rename_i v pr ps hq
        have hq:=ApW hq
        obtain ⟨hps,ht⟩:=Gf h
        rw [IL hlt]
        have next:=ih (.ops p (i+1)::k) _ K hQK ht
        rcases quiet_step D hT hF hS hgs hq hps with ⟨hw,hqq,hF'⟩|⟨hw,hF'⟩
        ·exact WT.op ho hw (hqq w hS) hS λw' hS'=>next _ w' (hF'.fixMark o L) hS'
        ·exact WT.JQ ho hw (next _ w (hF'.fixMark o L) hS)
       ·split at h
        ·rename_i c b _
         split at h
         ·rename_i s t pe hl
          cases hnb:jS n 1000000 with
          |false=>
           rw [hnb] at h
           simp only [cond_false] at h
           have:=h a w hF hS
           simpa only [iD,item] using this
          |true=>
           rw [hnb] at h
           simp only [cond_true] at h
           have hnn:=iQ hnb
           obtain ⟨hA,hSk⟩:=Lp h
           obtain ⟨g1,g2,g3⟩:=Iz hgs
           obtain ⟨hm,hs⟩:=Dp hl
           have ht:=(hF.ents _ hm trivial).1
           simp only at hs
           subst hs
           simp only at ht
           by_cases htb:t=b
           ·subst htb
            have hw:iZ o (yielded (opsOf (sub B p)) a.tmps)=true:=(Ej g1).2 ht
            have hA:=hA rfl
            split at hA
            ·rename_i A he
             rw [IL hlt]
             exact Jw D hT hext ho hw g2 (hF.known hnn ht) hS he hA λv pr K' hK' hx _ a' w' _ hF' hS'=>ih (.ops p (i+1)::k) _ K' (hQ _ _ hQK hx) hK' a' w' (hF'.unmark o) hS'
            ·have:=hA a w hF hS
             simpa only [iD,item] using this
           ·have htn:t=!b:=by cases t<;>cases b<;>simp at htb ⊢
            have hw:iZ o (yielded (opsOf (sub B p)) a.tmps)=false:=by
             cases hw:iZ o (yielded (opsOf (sub B p)) a.tmps) with
             |false=>rfl
             |true=>
              have:=(Ej g1).1 hw
              simp only [GV] at this
              rw [ht] at this
              injection this with this
              exact absurd this htb
            rw [htn] at ht
            rw [IL hlt]
            exact WT.JQ ho hw (ih (.ops p (i+1)::k) _ K hQK (hSk htn) _ w ((hF.known hnn ht).put g2 (λ_ _ _ _ h=>by cases h) λ_=>⟨rfl,A8⟩) hS)
         ·have:=h a w hF hS
          simpa only [iD,item] using this
        ·split at h
         ·rename_i t he
          rw [IL hlt]
          obtain ⟨g1,g2,_⟩:=Iz hgs
          exact Jw D hT hext ho ((Ej g1).2 trivial) g2 hF hS he h λv pr K' hK' hx _ a' w' _ hF' hS'=>ih (.ops p (i+1)::k) _ K' (hQ _ _ hQK hx) hK' a' w' (hF'.unmark o) hS'
         ·have:=h a w hF hS
          simpa only [iD,item] using this
theorem Px {P:Program} {T:List (Nat×Entry σ)} (hT:BO D P T) {I:List Nat} (hmix:P.follows .mixedOrders=true) (fuel:Nat) {f:Fq} {rs:List ResultVar} {B:Code} {R:Ending→World→Prop} {n:Nat} {E:Ev} {G:Hp}
 (hf:(f.pl∧∃fn,P.funcs[f.id]? =some fn∧rs=fn.results.toList)∨(rounds I=true∧∀(L:List Ak) (K:List (Chunk σ)),GM P L K rs=none)) {Q:List (Chunk σ)→Prop} (hQ:Ap8 Q)
 {R':Value→Pr→List (Chunk σ)→Prop} (hR:∀v p K w,R' v p K→Q K→Dz K→BH K v p→Af D E G w K→R (.returned v) w)
 (td:List Ab) (L:List Ak) (K:List (Chunk σ)) (hK:Q K) (h:(run P T I fuel B rs n td L K).holds R' (SW D P f R B n E G)):SW D P f R B n E G td L K:=
 NY D hT (Y:= λ_ _=>none) hmix fuel (λ_ _ _ _ h=>by cases h) hf hQ hR td L K hK h
end
section
open Go.RowKit
variable {σ:Type} (D:Addr→σ→CZ)
theorem Alz {mk:List Nat} {P:Program} {T:List (Nat×Entry σ)} (hT:BO D P T) {I:List Nat} {f:FuncId} {fn:Func} {B:Code} {n:Nat} {R:Ending→World→Prop} {E:Ev} {G:Hp} {w:World} (hfn:P.funcs[f]? =some fn) (hmix:P.follows .mixedOrders=true)
 (hB:fn.body=some B) (hn:fn.ntmps=n) (args:List (Value×Pr)) (hlen:jS args.length n=true) {K:List (Chunk σ)} (hp:∀x∈args,BH K x.1 x.2) (hk:Dz K) (hS:Af D E G w K)
 {R':Value→Pr→List (Chunk σ)→Prop} (hR:∀v p K w,R' v p K→Af D E G w K→R (.returned v) w) (fuel:Nat) {t:Tree σ} (hrun:run P T I fuel B fn.results.toList n [.code []] (markL n mk (En 0 args)) K=t)
 (ht:t.holds R' (SW D P f R B n E G)):Calls P f (args.map (·.1)).toArray w R:=by
 refine Ju hfn hB ?_
 have hgo:=Px D hT (I:=I) hmix fuel (f:=(f:Fq)) (rs:=fn.results.toList) (B:=B) (R:=R) (n:=n) (E:=E) (G:=G) (.inl ⟨rfl,fn,hfn,rfl⟩) (Q:= λ_=>True) (λ_ _ _ _=>trivial) (R':=R') (λv p K w h1 _ _ _ h2=>hR v p K w h1 h2) [.code []] (markL n mk (En 0 args)) K trivial (by rw [hrun];exact ht)
 have hst:=(Fr.start (n:=n) args (iQ hlen) hp hk).markL mk
 subst hn
 exact hgo _ w hst hS
theorem Aat {R:Value→Pr→List (Chunk σ)→Prop} {S:List Ab→List Ak→List (Chunk σ)→Prop} {v:Value} {p:Pr} {K:List (Chunk σ)} (h:R v p K):(Tree.ret v p K).holds R S:=h
def AP (f:Func):Code:=f.body.getD .skip
theorem SW.loop {P:Program} {f:Fq} {R:Ending→World→Prop} {B:Code} {n:Nat} {E:Ev} {G:Hp} {α:Type} {td:List Ab} (Lf:α→List Ak) (Kf:α→List (Chunk σ)) (m:α→Nat) (I:α→Prop)
 (H:∀s,I s→(∀s',I s'→m s'<m s→SW D P f R B n E G td (Lf s') (Kf s'))→SW D P f R B n E G td (Lf s) (Kf s)):∀s,I s→SW D P f R B n E G td (Lf s) (Kf s):=by
 have key:∀k s,m s=k→I s→SW D P f R B n E G td (Lf s) (Kf s):=by
  intro k
  induction k using oD with
  |_ k ih=>exact λs hs hI=>H s hI λs' hI' hlt=>ih (m s') (by omega) s' rfl hI'
 exact λs hI=>key _ s rfl hI
theorem SW.enter {P:Program} {f:Fq} {R:Ending→World→Prop} {B:Code} {n:Nat} {E:Ev} {G:Hp} {p:List Nat} {td:List Ab} {L:List Ak} {K:List (Chunk σ)} (hc:Code.loop (Sl.sub B (0::p))=Sl.sub B p) (h:SW D P f R B n E G (.code (0::p):: .again p::td) L K):SW D P f R B n E G (.code p::td) L K:=by
 intro a w hF hS
 have:=h a w hF hS
 simp only [iD,item] at this ⊢
 rw [←hc]
 exact WT.step (λcs=>stepR_loop) this
theorem SW.again {P:Program} {f:Fq} {R:Ending→World→Prop} {B:Code} {n:Nat} {E:Ev} {G:Hp} {p:List Nat} {td:List Ab} {L:List Ak} {K:List (Chunk σ)} (h:SW D P f R B n E G (.code (0::p):: .again p::td) L K):SW D P f R B n E G (.again p::td) L K:=by
 intro a w hF hS
 exact WT.step (λcs=>stepR_inLoop) (h a w hF hS)
theorem SW.sub {P:Program} {f:Fq} {R:Ending→World→Prop} {B:Code} {n:Nat} {E:Ev} {G:Hp} {td:List Ab} {L L':List Ak} {K:List (Chunk σ)} (h:SW D P f R B n E G td L' K) (hs:∀e∈L',e∈L):SW D P f R B n E G td L K:=
 λa w hF hS=>h a w (hF.sub hs) hS
theorem AmV {ks:List Nat} {L:List Ak} {e:Ak} (h:e∈Ws ks L):e∈L:=by
 induction L with
 |nil=>simp [Ws] at h
 |cons x r ih=>
  simp only [Ws] at h
  cases hb:ks.any (iL x.s) with
  |true=>rw [hb] at h;simp only [cond_true,iG] at h;rcases h with rfl|h; · simp
         ·simp [ih h]
  |false=>rw [hb] at h;simp only [cond_false] at h;simp [ih h]
theorem SW.keep {P:Program} {f:Fq} {R:Ending→World→Prop} {B:Code} {n:Nat} {E:Ev} {G:Hp} {td:List Ab} {L L':List Ak} {K:List (Chunk σ)} (ks:List Nat) (hk:Ws ks L=L') (h:SW D P f R B n E G td L' K):SW D P f R B n E G td L K:=
 SW.sub D h λe he=>AmV (ks:=ks) (by rw [hk];exact he)
theorem SW.run {P:Program} {T:List (Nat×Entry σ)} (hT:BO D P T) {I:List Nat} {f:FuncId} {fn:Func} {B:Code} {R:Ending→World→Prop} {n:Nat} {E:Ev} {G:Hp} (hfn:P.funcs[f]? =some fn) (hmix:P.follows .mixedOrders=true)
 {R':Value→Pr→List (Chunk σ)→Prop} (hR:∀v p K w,R' v p K→Af D E G w K→R (.returned v) w) (fuel:Nat) {td:List Ab} {L:List Ak} {K:List (Chunk σ)} {t:Tree σ} (hrun:Sl.run P T I fuel B fn.results.toList n td L K=t)
 (ht:t.holds R' (SW D P f R B n E G)):SW D P f R B n E G td L K:=
 Px D hT (I:=I) hmix fuel (f:=(f:Fq)) (.inl ⟨rfl,fn,hfn,rfl⟩) (Q:= λ_=>True) (λ_ _ _ _=>trivial) (λv p K w h1 _ _ _ h2=>hR v p K w h1 h2) td L K trivial (by rw [hrun];exact ht)
end
section
open Go.RowKit
theorem cT {α:Type} {c:Bool} {a b:α} (h:c=true):(bif c then a else b)=a:=by rw [h];rfl
theorem cF {α:Type} {c:Bool} {a b:α} (h:c=false):(bif c then a else b)=b:=by rw [h];rfl
variable {σ:Type} (D:Addr→σ→CZ)
theorem Di.pick {E:World} {G:Hp} {w:World} {As Bs:List Ew} (h:Di E G w As) (is:List Nat) (hn:is.Nodup) (hB:∀(i:Nat) (B:Ew),Bs[i]? =some B→(∃j,is[i]? =some j∧As[j]? =some B)∨∀k,B k):Di E G w Bs:=by
 obtain ⟨h1,h2,o,h3,h4⟩:=h
 refine ⟨h1,h2,ownIn o is, λb i hb=>?_, λi B hi=>?_⟩
 ·unfold ownIn at hb
  split at hb
  ·rename_i j ho;exact h3 b j ho
  ·cases hb
 ·rcases hB i B hi with ⟨j,hj,hA⟩|hk
  ·rw [←Fb (w:=w) (o:=o) (i:=j)]
   ·exact h4 j B hA
   ·intro b
    refine ⟨⟨λhb=>?_, λhb=>?_⟩, λ_=>rfl⟩
    ·unfold ownIn;rw [hb];exact (Kv hn).2 hj
    ·unfold ownIn at hb
     split at hb
     ·rename_i j' ho
      have:=(Kv hn).1 hb
      rw [hj] at this;injection this with this;subst this;exact ho
     ·cases hb
  ·exact hk _
theorem Sat.pick {E:Ev} {G:Hp} {w:World} {As Bs:List CZ} (h:Sat E G w As) (is:List Nat) (hn:is.Nodup) (hB:∀(i:Nat) (B:CZ),Bs[i]? =some B→(∃j,is[i]? =some j∧As[j]? =some B)∨∀Y k,E.z.le Y→B Y k):Sat E G w Bs:=by
 obtain ⟨Z,hz,hw,h0⟩:=h
 exact ⟨Z,hz,hw,h0.pick is hn λi B hi=>by
  obtain ⟨C,h1,rfl⟩:=Js hi
  rcases hB i C h1 with ⟨j,h2,h3⟩|h2
  ·exact .inl ⟨j,h2,EI h3⟩
  ·exact .inr λk Y hY=>h2 Y k (hz.low.trans hY)⟩
def nilRow:Chunk σ→Bool
 | .row none _ 0 0 cols=>!cols.isEmpty&&cols.all λc=>iL c.len 0
 | .ro none 0 0 cols=>EY cols&&cols.all λc=>iL c.len 0
 |_=>false
def WC:List (Value×Pr)→List (Value×Pr)
 |[]=>[]
 |x::r=>(x.1, .no)::WC r
def Ls:Chunk σ→Chunk σ
 | .cells b t cs=> .cells b t (WC cs)
 |c=>c
theorem Xn:∀cs:List (Value×Pr),(WC cs).map (·.1)=cs.map (·.1)
 |[]=>rfl
 |x::r=>by simp [WC,Xn r]
theorem Py {G:Hp} (c:Chunk σ):den D G (Ls c)=den D G c:=by
 cases c<;>simp [Ls,den,Xn]
def UR:Chunk σ→Chunk σ
 | .row a _ n cap [.ints .i64 xs]=> .ro (a.map λb=>⟨b,0,none⟩) n cap [.fz xs]
 | .bm b l _=> .bm b l none
 |c=>Ls c
def Aau:Chunk σ→Bool
 | .ro _ _ _ cols=>EY cols
 | .bm _ _ none=>true
 |_=>false
def AfV (c d:Chunk σ):Chunk σ:=bif Aau c then UR d else Ls d
def got (K:List (Chunk σ)):List Nat→List (Chunk σ)→Prop
 |[],[]=>True
 |i::is,c::cs=>((K[i]?).map (AfV c)=some (Ls c)∨nilRow c=true)∧got K is cs
 |_,_=>False
theorem NZ {G:Hp} {c:Chunk σ} (h:nilRow c=true) (Y k:Hp):den D G c Y k:=by
 unfold nilRow at h
 split at h
 ·rename_i t cols
  simp only [iE,kU,List.isEmpty_eq_false_iff,jN] at h
  refine ⟨λc hc=>iF (h.2 c hc),?_,rfl,rfl⟩
  exact List.length_pos_iff.2 h.1
 ·rename_i cols
  simp only [iE,jN] at h
  exact ⟨⟨λc hc=>iF (h.2 c hc), λi hi=>by omega,oE _⟩,jY _, λc _ i hi=>absurd hi (kB i)⟩
 ·cases h
theorem Akq {K:List (Chunk σ)}:∀{is:List Nat} {cs:List (Chunk σ)},got K is cs→∀(i:Nat) c,cs[i]? =some c→(∃j d,is[i]? =some j∧K[j]? =some d∧AfV c d=Ls c)∨nilRow c=true
 |[],[],_,i,c,hi=>by simp at hi
 |[],_::_,h,_,_,_=>by simp [got] at h
 |_::_,[],h,_,_,_=>by simp [got] at h
 |j::is,c0::cs,h,i,c,hi=>by
  simp only [got] at h
  cases i with
  |zero=>
   simp at hi;subst hi
   rcases h.1 with h|h
   ·rw [Option.map_eq_some_iff] at h
    obtain ⟨d,h1,h2⟩:=h
    exact .inl ⟨j,d,by simp,h1,h2⟩
   ·exact .inr h
  |succ i=>simpa using Akq h.2 i c (by simpa using hi)
theorem AmW {h:Hp} {b:Nat} {t:TypeId} {n cap:Nat} {xs:LI} {cs:Array Value} (hb:h b=some (.cells cs t (0,0))) (hn:n≤cap) (hm:cap≤maxLen) (hl:xs.length=n) (hf:cs.toList.take (n*1)=flat [.ints .i64 xs] n):Ef h (some ⟨b,0,none⟩) n [.fz xs]:=by
 refine ⟨λc hc=>by rw [jR] at hc;subst hc;exact hl, λi hi=>⟨⟨b,0,none⟩,rfl, λj c hj=>?_⟩,lZ hn hm⟩
 cases j with
 |succ j=>simp at hj
 |zero=>
  simp at hj;subst hj
  have hg:=flat_get (cols:=[.ints .i64 xs]) (n:=n) (i:=i) (j:=0) (c:= .ints .i64 xs) hi rfl
  rw [←hf,kJ] at hg
  simp only [jJ,mE,lD,Nat.mul_one,oG] at hg
  rw [if_pos hi] at hg
  have hadd:(⟨b,0,none⟩:Addr).add (i*[Au.fz xs].length+0)=⟨b,i,none⟩:=by
   unfold Addr.add
   split
   ·rename_i e;simp at e;subst e;rfl
   ·simp
  rw [hadd]
  simp only [cellOf,hb,Option.isSome_none,kQ,if_false]
  have hg':cs[i]? =some ((Au.ints .i64 xs).at i):=by simpa using hg
  exact hg'
theorem AmX {h:Hp} {xs:LI} (hl:xs.length=0):Ef h none 0 [.fz xs]:=
 ⟨λc hc=>by rw [jR] at hc;subst hc;exact hl, λi hi=>by omega,oE _⟩
theorem Af.fz {E:Ev} {G:Hp} {w:World} {K:List (Chunk σ)} (h:Af D E G w K) {i:Nat} {d:Chunk σ} (hi:K[i]? =some d):Af D E G w (K.set i (UR d)):=by
 have easy:∀c':Chunk σ,den D G c'=den D G d→Af D E G w (K.set i c'):= λc' e=>by
  unfold Af
  rw [jU,e]
  have:(K.map (den D G)).set i (den D G d)=K.map (den D G):=by
   refine lB λj=>?_
   by_cases hij:i=j
   ·subst hij
    rw [iT (by simpa using BD hi),C9 D hi]
   ·rw [iW hij]
  rw [this];exact h
 unfold UR
 split
 ·rename_i a t n cap xs
  cases a with
  |some b=>
  unfold Af
  rw [jU]
  refine Sat.freeze h (b:=b) (C9 D hi) λY k hk=>?_
  obtain ⟨h1,h2,cs,h4,h5,h6,h7,h8⟩:=hk
  exact ⟨_,h4, λY' k' hy=>⟨AmW hy h5 h6 (h1 (.ints .i64 xs) (by simp)) (by simpa using h8),h5,Acz⟩⟩
  |none=>
  unfold Af
  rw [jU]
  refine Sat.imp h λj B hB=>?_
  by_cases hij:i=j
  ·subst hij
   rw [iT (by simpa using BD hi)] at hB
   injection hB with hB;subst hB
   refine ⟨_,C9 D hi, λY k hk=>?_⟩
   obtain ⟨h1,h2,h3⟩:=hk
   obtain ⟨rfl,rfl⟩:n=0∧cap=0:=h3
   exact ⟨AmX (h1 (.ints .i64 xs) (by simp)),jY _,Acz⟩
  ·rw [iW hij] at hB
   exact ⟨B,hB, λ_ _ h=>h⟩
 ·rename_i b l it
  unfold Af
  rw [jU]
  refine Sat.imp h λj B hB=>?_
  by_cases hij:i=j
  ·subst hij
   rw [iT (by simpa using BD hi)] at hB
   injection hB with hB;subst hB
   refine ⟨_,C9 D hi, λY k hk=>?_⟩
   obtain ⟨es,clock,h1,h2,_⟩:=hk
   exact ⟨es,clock,h1,h2,trivial⟩
  ·rw [iW hij] at hB
   exact ⟨B,hB, λ_ _ h=>h⟩
 ·exact easy _ (Py D d)
theorem Af.fzs {E:Ev} {G:Hp} {w:World} {f:Nat→Bool}:∀(n:Nat) {K:List (Chunk σ)},Af D E G w K→∃K',Af D E G w K'∧K'.length=K.length∧∀(i:Nat) d,K[i]? =some d→K'[i]? =some (bif decide (i<n)&&f i then UR d else d)
 |0,K,h=>⟨K,h,rfl, λi d hi=>by rw [hi];simp⟩
 |n+1,K,h=>by
  obtain ⟨K1,h1,hl,h2⟩:=Af.fzs (f:=f) n h
  have other:∀i,i≠n→decide (i<n+1)=decide (i<n):= λi hi=>by rw [decide_eq_decide];omega
  cases hd:K[n]? with
  |none=>
   refine ⟨K1,h1,hl, λi d hi=>?_⟩
   rw [h2 i d hi,other i (λe=>by subst e;rw [hd] at hi;cases hi)]
  |some d=>
   have hdn:K1[n]? =some d:=by rw [h2 n d hd];simp
   cases hf:f n with
   |false=>
    refine ⟨K1,h1,hl, λi d' hi=>?_⟩
    by_cases hin:i=n
    ·subst hin
     rw [hd] at hi;injection hi with hi;subst hi
     rw [hdn,hf,oJ];rfl
    ·rw [h2 i d' hi,other i hin]
   |true=>
    refine ⟨K1.set n (UR d),Af.fz D h1 hdn,by simpa using hl, λi d' hi=>?_⟩
    by_cases hin:i=n
    ·subst hin
     rw [hd] at hi;injection hi with hi;subst hi
     rw [iT (BD hdn),hf]
     simp
    ·rw [iW (λe=>hin e.symm),h2 i d' hi,other i hin]
theorem Af.got {E:Ev} {G:Hp} {w:World} {K cs:List (Chunk σ)} (h:Af D E G w K) {is:List Nat} (hn:is.Nodup) (hg:got K is cs):Af D E G w cs:=by
 obtain ⟨K1,h1,hl,h2⟩:=Af.fzs D (f:= λj=>(jQ cs.length).any λi=>(is[i]? ==some j)&&(match cs[i]? with|some c=>Aau c|none=>false)) K.length h
 refine Sat.pick h1 is hn λi B hi=>?_
 rw [iM] at hi
 cases hc:cs[i]? with
 |none=>rw [hc] at hi;cases hi
 |some c=>
  rw [hc] at hi;injection hi with hi;subst hi
  rcases Akq hg i c hc with ⟨j,d,g1,g2,g3⟩|h
  ·left
   refine ⟨j,g1,?_⟩
   have hil:=BD hc
   have hjl:decide (j<K.length)=true:=decide_eq_true (BD g2)
   rw [iM,h2 j d g2,hjl,oO]
   have hfj:((jQ cs.length).any λi=>(is[i]? ==some j)&&(match cs[i]? with|some c=>Aau c|none=>false))=Aau c:=by
    rw [mS,lH]
    constructor
    ·rintro ⟨i',_,hx⟩
     simp only [iE,beq_iff_eq] at hx
     obtain ⟨e1,e2⟩:=hx
     have hii:i'=i:=by
      have a:=(Kv hn).2 e1
      have b:=(Kv hn).2 g1
      rw [a] at b;injection b
     subst hii
     rw [hc] at e2;exact e2
    ·intro hx
     exact ⟨i,by simpa using hil,by simp [g1,hc,hx]⟩
   rw [hfj]
   unfold AfV at g3
   cases hz:Aau c with
   |true=>
    rw [hz] at g3
    simp only [cond_true,iS] at g3 ⊢
    rw [g3,Py D c]
   |false=>
    rw [hz] at g3
    simp only [cond_false,iS] at g3 ⊢
    rw [←Py D c,←g3,Py D d]
  ·exact .inr λY k _=>NZ D h Y k
abbrev Anc:=Option Nat×Nat×Nat×Option Addr
def Ac5 (m:Mk σ) (x:Anc):Value:=
 match m with
 | .row _ cols=>bif EY cols then .slice x.2.2.2 x.2.1 x.2.2.1 else Be x.1 x.2.1 x.2.2.1
 | .obj _=> .pointer (x.1.map λb=>⟨b,0,none⟩)
def YC (m:Mk σ) (x:Anc):Chunk σ:=
 match m with
 | .row t cols=>bif EY cols then .ro x.2.2.2 x.2.1 x.2.2.1 cols else .row x.1 t x.2.1 x.2.2.1 cols
 | .obj s=>match x.1 with
   |some b=> .obj ⟨b,0,none⟩ s
   |none=> .dead
def Na:List (Mk σ)→List Anc→Bool
 |[],[]=>true
 | .row _ _::rs,_::xs=>Na rs xs
 | .obj _::rs,(some _,0,0,_)::xs=>Na rs xs
 |_,_=>false
def DR (out:List Value→Value) (nw:List (Chunk σ)) (rows:List (Mk σ)) (v:Value) (_p:Pr) (K:List (Chunk σ)):Prop:=
 ∃(anc:List Anc) (is:List Nat),is.Nodup∧Na rows anc=true∧v=out (jA Ac5 rows anc)∧
  got K is (nw++jA YC rows anc)
def Post (E:Ev) (G:Hp) (out:List Value→Value) (nw:List (Chunk σ)) (rows:List (Mk σ)):Ending→World→Prop:= λen w'=>
 ∃acs:List (Option Nat×Nat),Ha rows acs∧en= .returned (out (jA G5 rows acs))∧Sat E G w' (nw.map (den D G)++(jA ED rows acs).map (den D G))
def UT (m:Mk σ) (x:Anc):Option Nat×Nat:=
 match m with
 | .row _ cols=>(bif EY cols then x.2.2.2.map Alc else x.1,x.2.2.1)
 | .obj _=>(x.1,x.2.2.1)
theorem Akr (a:Option Addr):(a.map Alc).map Acu=a:=by cases a<;>simp [Aol]
theorem YD:∀(rows:List (Mk σ)) (anc:List Anc),Na rows anc=true→(∀(j:Nat) t cols x,rows[j]? =some (.row t cols)→anc[j]? =some x→x.2.1=lenC cols)→
 jA G5 rows (jA UT rows anc)=jA Ac5 rows anc∧jA ED rows (jA UT rows anc)=jA YC rows anc∧Ha rows (jA UT rows anc)
 |[],[],_,_=>by simp [Ha]
 |[],_::_,h,_=>by simp [Na] at h
 |r::_,[],h,_=>by cases r<;>simp [Na] at h
 | .row t cols::rows,x::anc,h,hl=>by
   have h0:=hl 0 t cols x rfl rfl
   obtain ⟨h1,h2,h3⟩:=YD rows anc (by simpa [Na] using h) λj t' c' x' hr hx=>hl (j+1) t' c' x' (by simpa using hr) (by simpa using hx)
   refine ⟨?_,?_,trivial,h3⟩
   ·simp only [kK,h1,G5,Ac5,UT]
    cases hf:EY cols with
    |true=>simp only [cond_true,Akr,h0]
    |false=>simp only [cond_false,h0]
   ·simp only [kK,h2,ED,YC,UT]
    cases hf:EY cols with
    |true=>simp only [cond_true,Akr,h0]
    |false=>simp only [cond_false,h0]
 | .obj s::rows,x::anc,h,hl=>by
   obtain ⟨a,n,c,d⟩:=x
   match a,n,c,h with
   |some b,0,0,h=>
    obtain ⟨h1,h2,h3⟩:=YD rows anc (by simpa [Na] using h) λj t' c' x' hr hx=>hl (j+1) t' c' x' (by simpa using hr) (by simpa using hx)
    refine ⟨?_,?_,⟨b,rfl⟩,h3⟩
    ·simp only [kK,h1,G5,Ac5,UT]
    ·simp only [kK,h2,ED,YC,UT]
theorem DR.post {E:Ev} {G:Hp} {w:World} {out:List Value→Value} {nw:List (Chunk σ)} {rows:List (Mk σ)} {v:Value} {p:Pr} {K:List (Chunk σ)} (h:DR out nw rows v p K) (hS:Af D E G w K):Post D E G out nw rows (.returned v) w:=by
 obtain ⟨anc,is,hn,hl,rfl,hg⟩:=h
 have hS':=hS.got D hn hg
 have hk:∀(j:Nat) t cols x,rows[j]? =some (.row t cols)→anc[j]? =some x→x.2.1=lenC cols:= λj t cols x hr hx=>by
  have hj:(nw++jA YC rows anc)[nw.length+j]? =some (bif EY cols then Chunk.ro x.2.2.2 x.2.1 x.2.2.1 cols else lA x.1 t x.2.1 x.2.2.1 cols):=by
   rw [iJ (by omega),show nw.length+j-nw.length=j by omega,List.getElem?_zipWith,hr,hx];rfl
  cases hf:EY cols with
  |true=>
   rw [hf] at hj
   obtain ⟨_,p,_,⟨g1,_⟩,_⟩:=hS'.get D hj
   cases hc:cols with
   |nil=>rw [hc] at hf;cases hf
   |cons c cs=>rw [hc] at g1;exact (g1.1 c (by simp)).symm
  |false=>
   rw [hf] at hj
   obtain ⟨_,p,_,⟨g1,g2,_⟩,_⟩:=hS'.get D hj
   cases hc:cols with
   |nil=>rw [hc] at g2;simp at g2
   |cons c cs=>rw [hc] at g1;exact (g1 c (by simp)).symm
 obtain ⟨h1,h2,h3⟩:=YD rows anc hl hk
 refine ⟨jA UT rows anc,h3,by rw [h1],?_⟩
 rw [h2,←jD]
 exact hS'
def Chunk.roOk (G Z:Hp):Chunk σ→Prop
 | .ro a n cap cols=>Ef (bif EY cols then Z else G) a n cols∧(bif EY cols then n≤cap∧subs Z n cols else n≤cap)
 | .roc b t vs=>G b=some (.cells vs.toArray t (0,0))
 |_=>False
def Nb (G Z:Hp):List (Chunk σ)→Prop
 |[]=>True
 |c::cs=>c.roOk G Z∧Nb G Z cs
theorem Aek {G Z:Hp}:∀{cs:List (Chunk σ)},Nb G Z cs→∀c∈cs,c.roOk G Z
 |[],_,c,hc=>by simp at hc
 |c0::cs,h,c,hc=>by
  simp only [iG] at hc
  rcases hc with rfl|hc
  ·exact h.1
  ·exact Aek h.2 c hc
theorem Af.ros {E:Ev} {G:Hp} {w:World} {K ros:List (Chunk σ)} (h:Af D E G w K) (hr:Nb G E.z ros):Af D E G w (K++ros):=by
 refine Sat.pick h (jQ K.length) mZ λi B hi=>?_
 rw [iM] at hi
 cases hc:(K++ros)[i]? with
 |none=>rw [hc] at hi;cases hi
 |some c=>
  rw [hc] at hi;injection hi with hi;subst hi
  rcases jB i K.length with hl|hl
  ·rw [iI hl] at hc
   exact .inl ⟨i,by simp [hl],by rw [iM,hc];rfl⟩
  ·rw [iJ hl] at hc
   have:=Aek hr c (iV hc)
   refine .inr λY k hY=>?_
   cases c with
   |ro a n cap cols=>
    have h1:=this.1
    have h2:=this.2
    cases hf:EY cols with
    |true=>
     rw [hf] at h1 h2
     refine ⟨?_,h2.1,AmC hY h2.2⟩
     rw [hf]
     exact Ef.mono hY h1
    |false=>
     rw [hf] at h1 h2
     refine ⟨?_,h2,Acy hf⟩
     rw [hf]
     exact h1
   |roc b t vs=>exact this
   |_=>exact this.elim
def FY:List (Chunk σ)→Bool
 |[]=>true
 | .cells _ _ _::_=>false
 |_::cs=>FY cs
theorem Arn:∀{K:List (Chunk σ)},FY K=true→Dz K:=by
 intro K h k b t cs hk
 exfalso
 have:jG b t cs∈K:=iV hk
 clear hk
 induction K with
 |nil=>simp at this
 |cons c cs' ih=>
  simp only [iG] at this
  rcases this with rfl|this
  ·simp [FY] at h
  ·refine ih ?_ this
   cases c<;>simp only [FY] at h<;>first|exact h|cases h
theorem AgC {K:List (Chunk σ)}:∀{vs:List Value} {ps:List Pr},AQ K vs ps→∀x∈lI vs ps,BH K x.1 x.2
 |[],[],_,x,hx=>by simp at hx
 |[],_::_,h,_,_=>by simp [AQ] at h
 |_::_,[],h,_,_=>by simp [AQ] at h
 |v::vs,p::ps,h,x,hx=>by
  simp only [AQ] at h
  simp only [mL,iG] at hx
  rcases hx with rfl|hx
  ·exact h.1
  ·exact AgC h.2 x hx
theorem AgD {K:List (Chunk σ)}:∀{vs:List Value} {ps:List Pr},AQ K vs ps→vs.length=ps.length
 |[],[],_=>rfl
 |[],_::_,h=>by simp [AQ] at h
 |_::_,[],h=>by simp [AQ] at h
 |v::vs,p::ps,h=>by simp [AQ] at h;simp [AgD h.2]
theorem Qb {mk:List Nat} {P:Program} {T:List (Nat×Entry σ)} (hT:BO D P T) {I:List Nat} {f:FuncId} {fn:Func} {B:Code} {E:Ev} {G:Hp} {w:World} (hfn:P.funcs[f]? =some fn) (hmix:P.follows .mixedOrders=true)
 (hB:fn.body=some B) (vs:List Value) (ps:List Pr) (hlen:jS vs.length fn.ntmps=true) {objs ros:List (Chunk σ)} (hp:AQ (objs++ros) vs ps) (hk:FY (objs++ros)=true) (hr:Nb G E.z ros) (hS:Af D E G w objs)
 {out:List Value→Value} {nw:List (Chunk σ)} {rows:List (Mk σ)} (fuel:Nat) {t:Tree σ}
 (hrun:run P T I fuel B fn.results.toList fn.ntmps [.code []] (markL fn.ntmps mk (En 0 (lI vs ps))) (objs++ros)=t)
 (ht:t.holds (DR out nw rows) (SW D P f (Post D E G out nw rows) B fn.ntmps E G)):Calls P f vs.toArray w (Post D E G out nw rows):=by
 have hl:=AgD hp
 have:=Alz D (mk:=mk) hT hfn hmix hB rfl (lI vs ps) (by simpa [hl] using hlen) (K:=objs++ros) (AgC hp) (Arn hk) (hS.ros D hr) (R':=DR out nw rows) (λv p K w' h hS'=>h.post D hS') fuel hrun ht
 simpa [List.map_fst_zip,hl] using this
theorem F6 {P:Program} {T:List (Nat×Entry σ)} (hT:BO D P T) {I:List Nat} {f:FuncId} {fn:Func} {B:Code} {E:Ev} {G:Hp} {w:World} (hfn:P.funcs[f]? =some fn) (hmix:P.follows .mixedOrders=true)
 (hB:fn.body=some B) (vs:List Value) (ps:List Pr) (hlen:jS vs.length fn.ntmps=true) {objs ros:List (Chunk σ)} (hp:AQ (objs++ros) vs ps) (hk:FY (objs++ros)=true) (hr:Nb G E.z ros) (hS:Af D E G w objs)
 {out:List Value→Value} {nw:List (Chunk σ)} {rows:List (Mk σ)} (fuel:Nat) {t:Tree σ}
 (hrun:run P T I fuel B fn.results.toList fn.ntmps [.code []] (En 0 (lI vs ps)) (objs++ros)=t)
 (ht:t.holds (DR out nw rows) (SW D P f (Post D E G out nw rows) B fn.ntmps E G)):Calls P f vs.toArray w (Post D E G out nw rows):=
 Qb D (mk:=[]) hT hfn hmix hB vs ps hlen hp hk hr hS fuel hrun ht
theorem SW.go {P:Program} {T:List (Nat×Entry σ)} (hT:BO D P T) {I:List Nat} {f:FuncId} {fn:Func} {B:Code} {E:Ev} {G:Hp} (hfn:P.funcs[f]? =some fn) (hmix:P.follows .mixedOrders=true)
 {out:List Value→Value} {nw:List (Chunk σ)} {rows:List (Mk σ)} (fuel:Nat) {td:List Ab} {L:List Ak} {K:List (Chunk σ)} {t:Tree σ} (hrun:Sl.run P T I fuel B fn.results.toList fn.ntmps td L K=t)
 (ht:t.holds (DR out nw rows) (SW D P f (Post D E G out nw rows) B fn.ntmps E G)):SW D P f (Post D E G out nw rows) B fn.ntmps E G td L K:=
 SW.run D hT hfn hmix (λ_ _ _ _ h hS=>h.post D hS) fuel hrun ht
theorem DR.at {α:Type} {outf:α→List Value→Value} {nwf:α→List (Chunk σ)} {rowsf:α→List (Mk σ)} {r r0:α} {v:Value} {p:Pr} {K:List (Chunk σ)} (h:r=r0) (x:DR (outf r) (nwf r) (rowsf r) v p K):DR (outf r0) (nwf r0) (rowsf r0) v p K:=h▸x
def Pz:List Nat→List Ak→List Ak
 |[],_=>[]
 |k::ks,L=>match look L k with
  |some e=>e::Pz ks L
  |none=>Pz ks L
theorem Nv {L:List Ak}:∀{ks:List Nat} {e:Ak},e∈Pz ks L→e∈L
 |[],e,h=>by simp [Pz] at h
 |k::ks,e,h=>by
  simp only [Pz] at h
  split at h
  ·rename_i e' he
   simp only [iG] at h
   rcases h with rfl|h
   ·exact (Dp he).1
   ·exact Nv h
  ·exact Nv h
theorem SW.pick {P:Program} {f:FuncId} {R:Ending→World→Prop} {B:Code} {n:Nat} {E:Ev} {G:Hp} {td:List Ab} {L L':List Ak} {K:List (Chunk σ)} (ks:List Nat) (hk:Pz ks L=L') (h:SW D P f R B n E G td L' K):SW D P f R B n E G td L K:=
 SW.sub D h λe he=>Nv (ks:=ks) (by rw [hk];exact he)
def Ac6 (k:Nat):List Nat→Nat→Option Nat
 |[],_=>none
 |i::is,j=>bif iL i k then some j else Ac6 k is (j+1)
theorem AgE {k:Nat}:∀{is:List Nat} {m j:Nat},Ac6 k is m=some j→∃i,j=m+i∧is[i]? =some k
 |[],_,_,h=>by simp [Ac6] at h
 |i::is,m,j,h=>by
  simp only [Ac6] at h
  cases hb:iL i k with
  |true=>rw [hb] at h;simp at h;exact ⟨0,by omega,by simp [iF hb]⟩
  |false=>
   rw [hb] at h
   obtain ⟨i',h1,h2⟩:=AgE (by simpa using h)
   exact ⟨i'+1,by omega,by simpa using h2⟩
mutual
def O8 (is:List Nat):Pr→Pr
 | .no=> .no
 | .pt k pk=>match Ac6 k is 0 with
   |some j=> .pt j pk
   |none=> .no
 | .many ps=> .many (Aav is ps)
 | .box p=> .box (O8 is p)
def Aav (is:List Nat):List Pr→List Pr
 |[]=>[]
 |p::ps=>O8 is p::Aav is ps
end
def RY (is:List Nat):List (Value×Pr)→List (Value×Pr)
 |[]=>[]
 |x::r=>(x.1,O8 is x.2)::RY is r
def YE (is:List Nat):Chunk σ→Chunk σ
 | .cells b t cs=> .cells b t (RY is cs)
 |c=>c
def Oa (is:List Nat) (K:List (Chunk σ)):List Nat→List (Chunk σ)
 |[]=>[]
 |i::r=>(match K[i]? with
  |some c=>YE is c
  |none=> .dead)::Oa is K r
def YF (is:List Nat) (K:List (Chunk σ)):List (Chunk σ):=Oa is K is
def Ac7 (is:List Nat):List Ak→List Ak
 |[]=>[]
 |e::r=>⟨e.s,e.g,e.v,O8 is e.p⟩::Ac7 is r
theorem Ael {is:List Nat} {K:List (Chunk σ)}:∀{js:List Nat} {j i:Nat} {c:Chunk σ},js[j]? =some i→K[i]? =some c→(Oa is K js)[j]? =some (YE is c)
 |[],_,_,_,h,_=>by simp at h
 |i0::r,0,i,c,h,hk=>by simp at h;subst h;simp [Oa,hk]
 |i0::r,j+1,i,c,h,hk=>by simp only [Oa,kO] at h ⊢;exact Ael h hk
theorem YG {is:List Nat} {K:List (Chunk σ)}:∀{js:List Nat} {j:Nat} {c:Chunk σ},(Oa is K js)[j]? =some c→∃i,js[j]? =some i∧((∃d,K[i]? =some d∧c=YE is d)∨c= .dead)
 |[],_,_,h=>by simp [Oa] at h
 |i0::r,0,c,h=>by
  simp [Oa] at h
  refine ⟨i0,by simp,?_⟩
  cases hk:K[i0]? with
  |none=>rw [hk] at h;exact .inr h.symm
  |some d=>rw [hk] at h;exact .inl ⟨d,rfl,h.symm⟩
 |i0::r,j+1,c,h=>by
  simp only [Oa,kO] at h ⊢;exact YG h
theorem Ao5 {is:List Nat} {c:Chunk σ} {v:Value} {pk:PK} (h:DJ c v pk):DJ (YE is c) v pk:=by
 cases c<;>first|exact h|(cases pk<;>first|exact h|exact h.elim)
theorem Aem {is:List Nat}:∀cs:List (Value×Pr),(RY is cs).map (·.1)=cs.map (·.1)
 |[]=>rfl
 |x::r=>by simp [RY,Aem r]
theorem Ao6 {is:List Nat} {G:Hp} {c:Chunk σ}:den D G (YE is c)=den D G c:=by
 cases c<;>simp [YE,den,Aem]
mutual
theorem QC {K:List (Chunk σ)} {is:List Nat}:∀(v:Value) (p:Pr),BH K v p→BH (YF is K) v (O8 is p)
 |_, .no,_=>by simp [BH,O8]
 |v, .pt k pk,h=>by
  simp only [BH] at h
  obtain ⟨c,h1,h2⟩:=h
  simp only [O8]
  cases hp:Ac6 k is 0 with
  |none=>simp [BH]
  |some j=>
   obtain ⟨i,h3,h4⟩:=AgE hp
   have:j=i:=by omega
   subst this
   exact Bg.2 ⟨_,Ael h4 h1,Ao5 h2⟩
 |v, .many ps,h=>by
  cases v<;>simp only [BH,O8] at h ⊢
  all_goals exact AgF _ ps h
 |v, .box p,h=>by
  cases v<;>simp only [BH,O8] at h ⊢
  ·obtain ⟨v,h1,h2⟩:=h
   exact ⟨v,h1,QC _ p h2⟩
  ·exact QC _ p h
theorem AgF {K:List (Chunk σ)} {is:List Nat}:∀(vs:List Value) (ps:List Pr),AQ K vs ps→AQ (YF is K) vs (Aav is ps)
 |[],[],_=>by simp [AQ,Aav]
 |[],_::_,h=>by simp [AQ] at h
 |_::_,[],h=>by simp [AQ] at h
 |v::vs,p::ps,h=>by
  simp only [AQ,Aav] at h ⊢
  exact ⟨QC v p h.1,AgF vs ps h.2⟩
end
theorem Aen {is:List Nat}:∀{cs:List (Value×Pr)} {x:Value×Pr},x∈RY is cs→∃y∈cs,x=(y.1,O8 is y.2)
 |[],x,h=>by simp [RY] at h
 |y::r,x,h=>by
  simp only [RY,iG] at h
  rcases h with rfl|h
  ·exact ⟨y,by simp,rfl⟩
  ·obtain ⟨z,h1,h2⟩:=Aen h
   exact ⟨z,by simp [h1],h2⟩
theorem YH {is:List Nat}:∀{L:List Ak} {e:Ak},e∈Ac7 is L→∃y∈L,e=⟨y.s,y.g,y.v,O8 is y.p⟩
 |[],x,h=>by simp [Ac7] at h
 |y::r,x,h=>by
  simp only [Ac7,iG] at h
  rcases h with rfl|h
  ·exact ⟨y,by simp,rfl⟩
  ·obtain ⟨z,h1,h2⟩:=YH h
   exact ⟨z,by simp [h1],h2⟩
theorem Ao7 {K:List (Chunk σ)} {is:List Nat} (h:Dz K):Dz (YF is K):= λk b t cs hk x hx=>by
 obtain ⟨i,_,⟨d,h1,h2⟩|h2⟩:=YG hk
 ·cases d<;>simp only [YE] at h2<;>first|cases h2|skip
  obtain ⟨y,hy,rfl⟩:=Aen hx
  exact QC _ _ (h _ _ _ _ h1 y hy)
 ·cases h2
theorem SW.move {P:Program} {f:FuncId} {R:Ending→World→Prop} {B:Code} {n:Nat} {E:Ev} {G:Hp} {td:List Ab} {L L':List Ak} {K K':List (Chunk σ)} (ks is:List Nat) (hn:is.Nodup) (hk:Ac7 is (Pz ks L)=L') (hK:YF is K=K')
 (h:SW D P f R B n E G td L' K'):SW D P f R B n E G td L K:=by
 subst hk;subst hK
 intro a w hF hS
 refine h a w ⟨Ao7 hF.kok,hF.defers,hF.size, λe he=>?_, λe he=>?_⟩ ?_
 rotate_left
 ·obtain ⟨y,hy,rfl⟩:=YH he
  exact hF.skipd y (Nv hy)
 rotate_right
 ·obtain ⟨y,hy,rfl⟩:=YH he
  intro hg
  obtain ⟨h1,h2⟩:=hF.ents y (Nv hy) hg
  exact ⟨h1,QC _ _ h2⟩
 ·refine Sat.pick hS is hn λi B hi=>?_
  rw [iM] at hi
  cases hc:(YF is K)[i]? with
  |none=>rw [hc] at hi;cases hi
  |some c=>
   rw [hc] at hi;injection hi with hi;subst hi
   obtain ⟨j,h1,⟨d,h2,h3⟩|h3⟩:=YG hc
   ·exact .inl ⟨j,h1,by rw [iM,h2,h3,Ao6 D];rfl⟩
   ·subst h3;exact .inr λ_ _ _=>trivial
theorem AgG {K:List (Chunk σ)} {v:Value} {k:Nat} {pk:PK} {c:Chunk σ} (h1:K[k]? =some c) (h2:DJ c v pk):BH K v (.pt k pk):=Bg.2 ⟨c,h1,h2⟩
theorem FW {K:List (Chunk σ)}:AQ K [] []:=by simp [AQ]
theorem Eo {K:List (Chunk σ)} {v:Value} {p:Pr} {vs:List Value} {ps:List Pr} (h:BH K v p) (hs:AQ K vs ps):AQ K (v::vs) (p::ps):=by
 unfold AQ;exact ⟨h,hs⟩
theorem Ao8 {K:List (Chunk σ)} {fn:Fn} {first caps:Array Value} {ps:List Pr} (h:AQ K caps.toList ps):BH K (.func fn first caps) (.many ps):=by
 unfold BH;exact h
theorem Jj {P:Program} {f:FuncId} {args:List (Value×FC σ)} {pre:List Prop} {new:Option σ} {rows:List (Mk σ)} {out:List Value→Value} {outp:Nat→Pr} {E:Ev} {G:Hp} {w:World} {nw:List (Chunk σ)}
 (hn:nw.map (den D G)=MZ D args new) (h:Calls P f (args.map (·.1)).toArray w (Post D E G out nw rows)):
 Calls P f (args.map (·.1)).toArray w λen w'=>∃acs:List (Option Nat×Nat),Ha (Res.rows ⟨pre,new,rows,out,outp⟩) acs∧
  en= .returned ((Res.out ⟨pre,new,rows,out,outp⟩) (jA G5 (Res.rows ⟨pre,new,rows,out,outp⟩) acs))∧Sat E G w' (MZ D args (Res.new ⟨pre,new,rows,out,outp⟩)++(jA ED (Res.rows ⟨pre,new,rows,out,outp⟩) acs).map (den D G)):=by
 rw [←hn];exact h
theorem Ef.bound {G:Hp} {a:Option Addr} {n:Nat} {cols:List Au} (h:Ef G a n cols):n≤9223372036854775807:=h.2.2
theorem Ef.len {G:Hp} {a:Option Addr} {n:Nat} {c:Au} {cols:List Au} (h:Ef G a n (c::cols)):c.len=n:=h.1 c (by simp)
abbrev Ar:Pr:= .no
abbrev pc_ (k j:Nat):Pr:= .pt k (.cell j)
abbrev ps_ (k:Nat):Pr:= .pt k .slice
abbrev Am (x:Int):Value:= .int .i64 x
abbrev vp_ (b:Nat):Value:= .pointer (some {block:=b,off:=0})
abbrev ci_ (xs:LI):Au:= .ints .i64 xs
abbrev Iu (s:Nat) (v:Value) (p:Pr):Ak:=⟨s,none,v,p⟩
abbrev eg_ (s:Nat) (g:Nat×Bool) (v:Value) (p:Pr):Ak:=⟨s,some g,v,p⟩
abbrev KC {σ:Type} (b:Nat) (t:TypeId) (cs:List (Value×Pr)):Chunk σ:= .cells b t cs
end
section
open Go.RowKit
def star0 (As:List Ew):Ew:= λh=>∃o:Nat→Option Nat,∀(i:Nat) (A:Ew),As[i]? =some A→A (λb=>if o b=some i then h b else none)
theorem Di.star {E:World} {G:Hp} {w:World} {As:List Ew} (h:Di E G w As):Di E G w [Sl.star0 As]:=by
 obtain ⟨h1,h2,o,h3,h4⟩:=h
 refine ⟨h1,h2, λb=>match o b with|some _=>some 0|none=>none, λb i hb=>?_, λi A hi=>?_⟩
 ·dsimp only at hb
  cases ho:o b with
  |none=>simp [ho] at hb
  |some j=>exact h3 b j ho
 ·have hi0:i=0:=by
   rcases mK i with h0|h0
   ·exact h0
   ·rw [jE (by simp;omega)] at hi;cases hi
  subst hi0
  simp only [jH,iA] at hi
  subst hi
  refine ⟨o, λi A hA=>?_⟩
  have:=h4 i A hA
  have e:(λb=>if o b=some i then part w (λb=>match o b with|some _=>some 0|none=>none) 0 b else none)=part w o i:=by
   funext b
   unfold part
   cases ho:o b with
   |none=>simp
   |some j=>by_cases hj:j=i<;>simp [hj,ho]
  rw [e];exact this
theorem Di.star_append {E:World} {G:Hp} {w:World} {As Bs:List Ew} (h:Di E G w (As++Bs)):Di E G w (Sl.star0 As::Bs):=by
 obtain ⟨h1,h2,o,h3,h4⟩:=h
 let o':Nat→Option Nat:= λb=>match o b with|some i=>if i<As.length then some 0 else some (i-As.length+1)|none=>none
 refine ⟨h1,h2,o', λb i hb=>?_, λi A hi=>?_⟩
 ·simp only [o'] at hb
  cases ho:o b with
  |none=>simp [ho] at hb
  |some j=>exact h3 b j ho
 ·cases i with
  |zero=>
   simp only [jH,iA] at hi
   subst hi
   refine ⟨o, λi A hA=>?_⟩
   have hil:i<As.length:=by
    rcases jB i As.length with h'|h'
    ·exact h'
    ·rw [jE h'] at hA;cases hA
   have:=h4 i A (by rw [iI hil];exact hA)
   have e:(λb=>if o b=some i then part w o' 0 b else none)=part w o i:=by
    funext b
    unfold part
    by_cases ho:o b=some i
    ·simp [o',ho,hil]
    ·simp [ho]
   rw [e];exact this
  |succ i=>
   simp only [kO] at hi
   have:=h4 (As.length+i) A (by rw [iJ (by omega)];simpa using hi)
   rw [Fb (w':=w) (o':=o') (j:=i+1)] at this
   ·exact this
   ·intro b
    refine ⟨⟨λhb=>?_, λhb=>?_⟩, λ_=>rfl⟩
    ·have:¬(As.length+i<As.length):=by omega
     simp only [o',hb,this,if_false]
     congr 1;omega
    ·simp only [o'] at hb
     cases ho:o b with
     |none=>simp [ho] at hb
     |some j=>
      rw [ho] at hb
      dsimp only at hb
      split at hb
      ·cases hb
      ·injection hb with hb;congr 1;omega
def star (As:List CZ):CZ:= λY h=>∃o:Nat→Option Nat,∀(i:Nat) (A:CZ),As[i]? =some A→∀Y2,Y.le Y2→A Y2 (λb=>if o b=some i then h b else none)
theorem RZ {Z:Hp} {As:List CZ}:IW Z (star As)=star0 (As.map (IW Z)):=by
 funext k
 apply propext
 constructor
 ·intro h
  obtain ⟨o,ho⟩:=h Z (Hp.le_refl Z)
  refine ⟨o, λi A hi=>?_⟩
  obtain ⟨C,h1,rfl⟩:=Js hi
  exact λY hY=>ho i C h1 Y hY
 ·rintro ⟨o,ho⟩ Y hY
  exact ⟨o, λi A hi Y2 h2=>ho i _ (EI hi) Y2 (hY.trans h2)⟩
theorem Aql {As:List CZ} {Y Y2 h:Hp} (hY:Y.le Y2) (hs:star As Y h):star As Y2 h:=by
 obtain ⟨o,ho⟩:=hs
 exact ⟨o, λi A hi Y3 h3=>ho i A hi Y3 (hY.trans h3)⟩
section
variable {E:Ev} {G:Hp} {w:World} {As Bs:List CZ}
theorem Sat.star (h:Sat E G w As):Sat E G w [Sl.star As]:=by
 obtain ⟨Z,hz,hw,h0⟩:=h
 refine ⟨Z,hz,hw,?_⟩
 simp only [iD,kD,RZ]
 exact h0.star
theorem Sat.star_append (h:Sat E G w (As++Bs)):Sat E G w (Sl.star As::Bs):=by
 obtain ⟨Z,hz,hw,h0⟩:=h
 refine ⟨Z,hz,hw,?_⟩
 rw [jD] at h0
 simp only [iD,RZ]
 exact h0.star_append
theorem Sat.Ac8 {α:Type} {p:α→Prop} {A:α→CZ} (x:α) (hp:p x) (h:Sat E G w (A x::Bs)):Sat E G w ((λY k=>∃x,p x∧A x Y k)::Bs):=by
 refine h.imp λi B hB=>?_
 cases i with
 |zero=>
  simp only [jH,iA] at hB
  subst hB
  exact ⟨A x,rfl, λY k hk=>⟨x,hp,hk⟩⟩
 |succ i=>exact ⟨B,by simpa using hB, λ_ _ h=>h⟩
end
variable {σ:Type} (D:Addr→σ→CZ)
def Jp (s k:Nat):List Ak→List Ak
 |[]=>[]
 |e::r=>bif iL e.s s then (match e.v with
  | .slice none 0 0=>⟨e.s,e.g,e.v, .pt k .slice⟩::Jp s k r
  |_=>e::Jp s k r) else e::Jp s k r
theorem Aeo {K:List (Chunk σ)} {t:TypeId} {cols:List Au} {tm:Array Value} {s:Nat}:∀{L:List Ak},(∀e∈L,e.ok K tm)→∀e∈Jp s K.length L,e.ok (K++[.row none t 0 0 cols]) tm
 |[],_,e,he=>by simp [Jp] at he
 |x::r,hL,e,he=>by
  have ih:=Aeo (t:=t) (cols:=cols) (s:=s) (L:=r) (λe he=>hL e (by simp [he]))
  have hx:x.ok (K++[.row none t 0 0 cols]) tm:= λhg=>let ⟨h1,h2⟩:=hL x (by simp) hg;⟨h1,h2.ext (Bf.append K _)⟩
  simp only [Jp] at he
  cases hb:iL x.s s with
  |false=>
   rw [hb] at he
   simp only [cond_false,iG] at he
   rcases he with rfl|he
   ·exact hx
   ·exact ih e he
  |true=>
   rw [hb] at he
   simp only [cond_true] at he
   split at he
   ·rename_i hv
    simp only [iG] at he
    rcases he with rfl|he
    ·intro hg
     refine ⟨(hx hg).1,?_⟩
     simp only [hv]
     exact Bg.2 ⟨_,jT,rfl⟩
    ·exact ih e he
   ·simp only [iG] at he
    rcases he with rfl|he
    ·exact hx
    ·exact ih e he
theorem Xo {k s:Nat} {tm:Array Value}:∀{L:List Ak},(∀e∈L,¬GV tm e.g→tm.getD e.s undef=undef)→∀e∈Jp s k L,¬GV tm e.g→tm.getD e.s undef=undef
 |[],_,e,he=>by simp [Jp] at he
 |x::r,hL,e,he=>by
  have ih:=Xo (k:=k) (s:=s) (L:=r) (λe he=>hL e (by simp [he]))
  have hx:=hL x (by simp)
  simp only [Jp] at he
  cases hb:iL x.s s with
  |false=>
   rw [hb] at he
   simp only [cond_false,iG] at he
   rcases he with rfl|he
   ·exact hx
   ·exact ih e he
  |true=>
   rw [hb] at he
   simp only [cond_true] at he
   split at he
   ·simp only [iG] at he
    rcases he with rfl|he
    ·exact hx
    ·exact ih e he
   ·simp only [iG] at he
    rcases he with rfl|he
    ·exact hx
    ·exact ih e he
theorem SW.nil {P:Program} {f:FuncId} {R:Ending→World→Prop} {B:Code} {n:Nat} {E:Ev} {G:Hp} {td:List Ab} {L:List Ak} {K:List (Chunk σ)} (s:Nat) (t:TypeId) (cols:List Au) (hc:nilRow (lA (σ:=σ) none t 0 0 cols)=true)
 (h:SW D P f R B n E G td (Jp s K.length L) (K++[.row none t 0 0 cols])):SW D P f R B n E G td L K:=by
 intro a w hF hS
 refine h a w ⟨hF.kok.row,hF.defers,hF.size,Aeo hF.ents,Xo hF.skipd⟩ ?_
 refine Sat.pick hS (jQ K.length) mZ λi B hi=>?_
 rw [iM] at hi
 cases hq:(K++[lA (σ:=σ) none t 0 0 cols])[i]? with
 |none=>rw [hq] at hi;cases hi
 |some c=>
  rw [hq] at hi;injection hi with hi;subst hi
  rcases jB i K.length with hl|hl
  ·rw [iI hl] at hq
   exact .inl ⟨i,by simp [hl],by rw [iM,hq];rfl⟩
  ·rw [iJ hl] at hq
   have:c= .row none t 0 0 cols:=by
    have:=iV hq
    simpa using this
   subst this
   exact .inr (λY k _=>NZ D hc Y k)
def QD (K:List (Chunk σ)) (k off:Nat):List (Chunk σ):=
 match K[k]? with
 |some (.cells b t cs)=>match cs[off]? with
  |some (.slice none 0 0,_)=>K.set k (.cells b t (cs.set off (.slice none 0 0, .pt K.length .slice)))
  |_=>K
 |_=>K
theorem SW.Arp {P:Program} {f:FuncId} {R:Ending→World→Prop} {B:Code} {n:Nat} {E:Ev} {G:Hp} {td:List Ab} {L:List Ak} {K:List (Chunk σ)} (k off:Nat) (t:TypeId) (cols:List Au) (hc:nilRow (lA (σ:=σ) none t 0 0 cols)=true)
 (h:SW D P f R B n E G td L (QD K k off++[.row none t 0 0 cols])):SW D P f R B n E G td L K:=by
 have h1:SW D P f R B n E G td L (K++[.row none t 0 0 cols]):=by
  unfold QD at h
  split at h
  ·rename_i b t0 cs hk
   split at h
   ·rename_i p0 ho
    intro a w hF hS
    have hkl:=BD hk
    have hk':(K++[lA (σ:=σ) none t 0 0 cols])[k]? =some (.cells b t0 cs):=by rw [iI hkl];exact hk
    have hset:K.set k (.cells b t0 (cs.set off (.slice none 0 0, .pt K.length .slice)))++[lA (σ:=σ) none t 0 0 cols]=(K++[lA (σ:=σ) none t 0 0 cols]).set k (.cells b t0 (cs.set off (.slice none 0 0, .pt K.length .slice))):=by
     rw [List.set_append_left _ _ hkl]
    rw [hset] at h
    have hcmp:∀v pk,DJ (jG (σ:=σ) b t0 cs) v pk→DJ (jG (σ:=σ) b t0 (cs.set off (.slice none 0 0, .pt K.length .slice))) v pk:= λv pk hv=>by cases pk<;>exact hv
    refine h a w (hF.ext (Bf.set hk' hcmp) (hF.kok.set hk' hcmp λb' t' cs' e x hx=>?_)) ?_
    ·injection e with _ _ e;subst e
     rcases List.mem_or_eq_of_mem_set hx with hx|hx
     ·exact hF.kok _ _ _ _ hk' x hx
     ·subst hx
      exact Bg.2 ⟨_,jT,rfl⟩
    ·unfold Af at hS ⊢
     have e:(cs.set off (.slice none 0 0,lG K.length .slice)).map (·.1)=cs.map (·.1):=by
      apply lB
      intro j
      simp only [iM,List.getElem?_set]
      by_cases hj:off=j
      ·subst hj
       rw [ho]
       simp [BD ho]
      ·simp [hj]
     have:((K++[lA (σ:=σ) none t 0 0 cols]).set k (.cells b t0 (cs.set off (.slice none 0 0, .pt K.length .slice)))).map (den D G)=(K++[lA (σ:=σ) none t 0 0 cols]).map (den D G):=by
      apply lB
      intro j
      simp only [iM,List.getElem?_set]
      by_cases hj:k=j
      ·subst hj
       rw [hk']
       simp [den,e]
       omega
      ·simp [hj]
     rw [this];exact hS
   ·exact h
  ·exact h
 intro a w hF hS
 refine h1 a w (hF.ext (Bf.append K _) hF.kok.row) ?_
 refine Sat.pick hS (jQ K.length) mZ λi B hi=>?_
 rw [iM] at hi
 cases hq:(K++[lA (σ:=σ) none t 0 0 cols])[i]? with
 |none=>rw [hq] at hi;cases hi
 |some c=>
  rw [hq] at hi;injection hi with hi;subst hi
  rcases jB i K.length with hl|hl
  ·rw [iI hl] at hq
   exact .inl ⟨i,by simp [hl],by rw [iM,hq];rfl⟩
  ·rw [iJ hl] at hq
   have:c= .row none t 0 0 cols:=by
    have:=iV hq
    simpa using this
   subst this
   exact .inr (λY k _=>NZ D hc Y k)
def cellsAll (K:List (Chunk σ)):List (Chunk σ)→Prop
 |[]=>True
 | .cells _ _ cs::r=>AQ K (cs.map (·.1)) (cs.map (·.2))∧cellsAll K r
 |_::r=>cellsAll K r
theorem Aaw {K:List (Chunk σ)}:∀{cs:List (Value×Pr)},AQ K (cs.map (·.1)) (cs.map (·.2))→∀x∈cs,BH K x.1 x.2
 |[],_,x,hx=>by simp at hx
 |y::r,h,x,hx=>by
  simp only [iD,AQ] at h
  simp only [iG] at hx
  rcases hx with rfl|hx
  ·exact h.1
  ·exact Aaw h.2 x hx
theorem QE {K:List (Chunk σ)} (h:cellsAll K K):Dz K:=by
 intro k b t cs hk
 have key:∀(l:List (Chunk σ)),cellsAll K l→jG b t cs∈l→AQ K (cs.map (·.1)) (cs.map (·.2)):=by
  intro l
  induction l with
  |nil=>intro _ hm;simp at hm
  |cons c r ih=>
   intro hl hm
   simp only [iG] at hm
   rcases hm with rfl|hm
   ·exact hl.1
   ·refine ih ?_ hm
    cases c<;>first|exact hl.2|exact hl
 exact Aaw (key K h (iV hk))
def fzAt (K:List (Chunk σ)) (k:Nat):List (Chunk σ):=
 match K[k]? with
 |some (.row a t n c cols)=>K.set k (UR (.row a t n c cols))
 |_=>K
theorem AgH {a:Option Nat} {t:TypeId} {n cap:Nat} {cols:List Au} (v:Value) (pk:PK) (h:DJ (lA (σ:=σ) a t n cap cols) v pk):DJ (UR (lA (σ:=σ) a t n cap cols)) v pk:=by
 have h0:DJ (Ls (lA (σ:=σ) a t n cap cols)) v pk:=h
 cases cols with
 |nil=>exact h0
 |cons c cs=>cases c with
  |ints k xs=>cases k with
   |i64=>cases cs with
    |nil=>
     cases pk<;>first|exact h|exact h.elim|skip
     obtain ⟨h1,b,h2,h3⟩:=h
     subst h2
     exact ⟨h1,_,rfl,h3⟩
    |cons _ _=>exact h0
   |_=>exact h0
  |_=>exact h0
theorem Ajd {a:Option Nat} {t:TypeId} {n cap:Nat} {cols:List Au} {b:Nat} {t':TypeId} {cs':List (Value×Pr)} (e:UR (lA (σ:=σ) a t n cap cols)= .cells b t' cs'):False:=by
 cases cols with
 |nil=>cases e
 |cons c cs=>cases c with
  |ints k xs=>cases k with
   |i64=>cases cs with
    |nil=>cases e
    |cons _ _=>cases e
   |_=>cases e
  |_=>cases e
theorem SW.fzAt {P:Program} {f:FuncId} {R:Ending→World→Prop} {B:Code} {n:Nat} {E:Ev} {G:Hp} {td:List Ab} {L:List Ak} {K:List (Chunk σ)} (k:Nat)
 (h:SW D P f R B n E G td L (Sl.fzAt K k)):SW D P f R B n E G td L K:=by
 intro a w hF hS
 unfold Sl.fzAt at h
 split at h
 ·rename_i a0 t0 n0 c0 cols0 hk
  refine h a w (hF.ext (Bf.set hk AgH) (hF.kok.set hk AgH λb t cs e=>?_)) (Af.fz D hS hk)
  exact (Ajd e).elim
 ·exact h a w hF hS
end
section
open Go.RowKit Go.ChangeShapes Go.WideShapes Go.ChangeAt
def Arq (W:World):Ev:=⟨W, λb=>W.heap[b]?⟩
theorem Sat.start (W:World):Sat (Arq W) (λb=>W.heap[b]?) W []:=
 ⟨λb=>W.heap[b]?,⟨Hp.le_refl _, λb hb=> .inr hb⟩, λ_ _ h=>h,⟨rfl,rfl,rfl,jY _⟩,Hp.Am6 (λ_ _ h=>h) (λ_ _ h=>h), λ_=>none,⟨λ_ _ h=>(by cases h), λi A h=>(by simp at h)⟩⟩
theorem Sat.below {W W':World} {As:List CZ} (h:Sat (Arq W) (λb=>W.heap[b]?) W' As):Below W.heap.size W W':=
 ⟨h.env.os,h.env.tape,h.env.output,h.env.size, λk hk=>by
   have h1:(λb=>W.heap[b]?) k=some W.heap[k]:=by simp [hk]
   rw [h.sub k _ h1];simp [hk]⟩
section
variable {H:Type} {enc:TypeId×Value→H} {P:Program}
theorem TC (hl:laidOutB P=true) {W W':World} (hb:Below W.heap.size W W') {sp:Nat→Bool}:∀(ts:List TypeId) (vs:List Value) (ds:List (DataW H)) (ps:List MemPlace),(∀t∈ts,P.readableRec t=true∧t<P.types.size)→
 DataW.TrodAll enc P W 0 (λ_=>true) true ts vs ds ps→(∀x∈ps,x.block<W.heap.size)→(∀x∈ps,sp x.block=true)→DataW.TrodAll enc P W' 0 sp true ts vs ds ps
 |[],vs,ds,ps,_,h,_,_=>by
  obtain ⟨rfl,rfl,rfl⟩:=trodAll_nil h
  exact trodAll_mk0
 |t::ts,vs,ds,ps,hr,h,hlt,hsp=>by
  obtain ⟨v,vs',d,ds',p,q,rfl,rfl,rfl,hd,hrest⟩:=trodAll_cons h
  obtain ⟨hr1,hr2⟩:=hr t (by simp)
  exact ⟨p,q,WideElems.Trod_stays hl hr1 hr2 hd (λx hx=>hb.same (hlt x (by simp [hx]))) (λx hx=>hsp x (by simp [hx])),
   TC hl hb ts vs' ds' q (λt ht=>hr t (by simp [ht])) hrest (λx hx=>hlt x (by simp [hx])) (λx hx=>hsp x (by simp [hx])),rfl⟩
theorem Ao9 {f:Func} {s:ChangeSpec} {apart fresh handsOn:Bool} {W W':World} {args:Array Value} {ds gs:List (DataW H)} {before:List MemPlace} (tb:TypeId) (hl:laidOutB P=true)
 (hW:DataW.Whole enc P f.params.toList s.vars apart W args.toList ds gs before) (hv:s.vars=[]) (hres:f.resultTypes= #[tb]) (hb:P.underlying tb=some .bool)
 (hp:f.params.toList.all (λt=>P.readableRec t&&mF t P.types.size)=true) (hfn:(s.fn H ds).results=[.lit (.bool true)]∧(s.fn H ds).args=ds∧(s.fn H ds).vars=[])
 (hbel:Below W.heap.size W W'):s.post enc P f apart fresh handsOn false W args (.bool true) W':=by
 have hW2:=hW
 have hlt:∀x∈before,x.block<W.heap.size:= λx hx=>hW.lt x hx
 obtain ⟨p,q,hA,hV,hpq,_,_⟩:=hW
 rw [hv] at hV
 obtain ⟨hgs,hq⟩:=trodVars_none hV
 subst hgs;subst hq
 have hpp:before=p:=by rw [hpq];simp
 subst hpp
 have hr:∀t∈f.params.toList,P.readableRec t=true∧t<P.types.size:= λt ht=>by
  rw [jN] at hp
  have:=hp t ht
  simp only [iE] at this
  exact ⟨this.1,Nat.lt_of_lt_of_le (Nat.lt_succ_self t) (iQ this.2)⟩
 refine ⟨ds,[],before,[],before,[],by rw [hv] at hW2 ⊢;exact hW2,?_,?_,?_,World.keptBut_mono (λx hx=>⟨hx, .inr (.inl hx)⟩) (hbel.frame (· ∈before)), λh=>by cases h⟩
 ·rw [kZ,hfn.1,hres]
  exact trodAll_mk1 (shut_bool hb true)
 ·rw [kZ,hfn.2.1]
  exact TC hl hbel _ _ _ _ hr hA hlt (λx hx=>by simpa using hlt x hx)
 ·rw [kZ,hfn.2.2,hv]
  rfl
end
theorem Lt {x:Int} (h:(Lit.int .i64 x).wf=true): -9223372036854775808≤x∧x<9223372036854775808:=by
 simp [Lit.wf,IntKind.min,IntKind.max,IntKind.signed,IntKind.bits] at h;omega
end
section
open Go.RowKit Go.ChangeShapes Go.WideShapes Go.ChangeAt
inductive Ko where
 |int (k:IntKind)
 |bool
def vIs:Ko→Value→Prop
 | .int k,v=>∃x,v= .int k x∧(Lit.int k x).wf=true
 | .bool,v=>∃b,v= .bool b
def Hg:List Ko→List Value→Prop
 |[],vs=>vs=[]
 |s::r,vs=>∃v vs',vs=v::vs'∧vIs s v∧Hg r vs'
def ApD (n:Nat):Ko→Au→Prop
 | .int k,c=>∃xs,c= .ints k xs∧xs.length=n∧∀x∈xs,(Lit.int k x).wf=true
 | .bool,c=>∃xs,c= .bools xs∧xs.length=n
def Aax (n:Nat):List Ko→List Au→Prop
 |[],cs=>cs=[]
 |s::r,cs=>∃c cs',cs=c::cs'∧ApD n s c∧Aax n r cs'
theorem MF:∀{a b:List Ko} {u v:List Value},Hg a u→Hg b v→Hg (a++b) (u++v)
 |[],b,u,v,h,h'=>by rw [h];exact h'
 |s::r,b,u,v,⟨x,u',e,hx,h⟩,h'=>⟨x,u'++v,by rw [e];rfl,hx,MF h h'⟩
theorem Xp:∀{sh:List Ko} {vs:List Value},Hg sh vs→∀(j:Nat) s,sh[j]? =some s→∃v,vs[j]? =some v∧vIs s v
 |[],_,_,j,s,hs=>by simp at hs
 |s0::r,_,⟨x,u',e,hx,h⟩,j,s,hs=>by
  subst e
  cases j with
  |zero=>simp at hs;subst hs;exact ⟨x,rfl,hx⟩
  |succ j=>exact Xp h j s (by simpa using hs)
section
variable (P:Program)
def Aay (f:TypeId→Option (List Ko)):Nat→List Field→Option (List Ko)
 |_,[]=>some []
 |o,fd::fs=>bif iL fd.offset o then match f fd.type,Aay f (o+P.cellsOf fd.type) fs with
   |some a,some b=>bif iL a.length (P.cellsOf fd.type) then some (a++b) else none
   |_,_=>none
  else none
def Al0 (s:List Ko):Nat→List Ko
 |0=>[]
 |n+1=>s++Al0 s n
def Si:Nat→TypeId→Option (List Ko)
 |0,_=>none
 |d+1,t=>match P.underlying t with
  |some (.int k)=>some [.int k]
  |some .bool=>some [.bool]
  |some (.struct fs)=>match Aay P (Si d) 0 fs.toList with
   |some s=>bif iL s.length (P.cellsOf t) then some s else none
   |none=>none
  |some (.array n e)=>match Si d e with
   |some s=>bif iL s.length (P.cellsOf e)&&iL (n*P.cellsOf e) (P.cellsOf t) then some (Al0 s n) else none
   |none=>none
  |_=>none
end
section
variable {H:Type} {enc:TypeId×Value→H} {P:Program} {w:World} {base:Nat} {sp:Nat→Bool} {held:Bool}
theorem AgI {f:TypeId→Option (List Ko)} {n:Nat} (hf:∀t sh cs x,f t=some sh→DataW.trod enc P w base sp held n t cs=some x→Hg sh cs) {cs:List Value}:
 ∀(fs:List Field) (o:Nat) (s:List Ko),Aay P f o fs=some s→(∀fd∈fs,∃y,DataW.trod enc P w base sp held n fd.type ((cs.drop fd.offset).take (P.cellsOf fd.type))=some y)→Hg s ((cs.drop o).take s.length)
 |[],o,s,h,_=>by simp only [Aay,iA] at h;subst h;simp [Hg]
 |fd::fs,o,s,h,hall=>by
  simp only [Aay] at h
  cases ho:iL fd.offset o with
  |false=>rw [ho] at h;cases h
  |true=>
   rw [ho] at h
   have ho:=iF ho
   simp only [cond_true] at h
   split at h
   ·rename_i a b ha hb
    cases hl:iL a.length (P.cellsOf fd.type) with
    |false=>rw [hl] at h;cases h
    |true=>
     rw [hl] at h
     have hl:=iF hl
     simp only [cond_true,iA] at h
     subst h
     obtain ⟨y,hy⟩:=hall fd (by simp)
     have h1:=hf _ _ _ _ ha hy
     have h2:=AgI hf fs _ _ hb λfd' hfd=>hall fd' (by simp [hfd])
     have e:(cs.drop o).take (a++b).length=(cs.drop fd.offset).take (P.cellsOf fd.type)++(cs.drop (o+P.cellsOf fd.type)).take b.length:=by
      rw [jL,List.take_add,List.drop_drop,ho,hl]
     rw [e]
     exact MF h1 h2
   ·cases h
theorem QF:∀(d:Nat) (t:TypeId) (sh:List Ko) (n:Nat) (cs:List Value) (x:DataW H×List MemPlace),Si P d t=some sh→DataW.trod enc P w base sp held n t cs=some x→Hg sh cs
 |0,t,sh,n,cs,x,h,_=>by simp [Si] at h
 |d+1,t,sh,n,cs,x,h,hx=>by
  simp only [Si] at h
  split at h
  ·rename_i k hk
   injection h with h;subst h
   obtain ⟨m,rfl,_,hw⟩:=DataW.trod_int hk hx
   exact ⟨_,_,rfl,⟨m,rfl,hw⟩,rfl⟩
  ·rename_i hk
   injection h with h;subst h
   obtain ⟨b,rfl,_⟩:=DataW.trod_bool hk hx
   exact ⟨_,_,rfl,⟨b,rfl⟩,rfl⟩
  ·rename_i fs hk
   split at h
   ·rename_i s hs
    cases hl:iL s.length (P.cellsOf t) with
    |false=>rw [hl] at h;cases h
    |true=>
     rw [hl] at h
     have hl:=iF hl
     simp only [cond_true,iA] at h
     subst h
     obtain ⟨xs,m,_,_,hlen,hxl,hf⟩:=DataW.trod_struct hk hx
     have:=AgI (n:=m) (cs:=cs) (λt' sh' cs' x' h1 h2=>QF d t' sh' m cs' x' h1 h2) fs.toList 0 s hs λfd hfd=>by
      obtain ⟨i,hi⟩:=kT hfd
      have hi':fs[i]? =some fd:=by simpa using hi
      have h1:=hf i fd hi'
      have hlt:i<xs.length:=by
       rw [hxl]
       rcases jB i fs.size with h'|h'
       ·exact h'
       ·rw [kE h'] at hi';cases hi'
      rw [iK hlt] at h1
      exact ⟨_,h1⟩
     rw [mN,hl,←hlen,mH] at this
     exact this
   ·cases h
  ·rename_i m e hk
   split at h
   ·rename_i s hs
    cases hl:(iL s.length (P.cellsOf e)&&iL (m*P.cellsOf e) (P.cellsOf t)) with
    |false=>rw [hl] at h;cases h
    |true=>
     rw [hl] at h
     simp only [iE] at hl
     have hl1:=iF hl.1
     have hl2:=iF hl.2
     simp only [cond_true,iA] at h
     subst h
     obtain ⟨xs,q,_,_,hlen,hxl,hf⟩:=DataW.trod_array hk hx
     have key:∀(j i:Nat),i+j=m→Hg (Al0 s j) ((cs.drop (i*P.cellsOf e)).take (j*P.cellsOf e)):=by
      intro j
      induction j with
      |zero=>intro i _;simp [Al0,Hg]
      |succ j ih=>
       intro i hij
       have h1:=hf i (by omega)
       rw [iK (by omega)] at h1
       have h2:=QF d e s q _ _ hs h1
       have h3:=ih (i+1) (by omega)
       have e1:(cs.drop (i*P.cellsOf e)).take ((j+1)*P.cellsOf e)=(cs.drop (i*P.cellsOf e)).take (P.cellsOf e)++(cs.drop ((i+1)*P.cellsOf e)).take (j*P.cellsOf e):=by
        rw [show (j+1)*P.cellsOf e=P.cellsOf e+j*P.cellsOf e by rw [mU];omega,List.take_add,List.drop_drop,show i*P.cellsOf e+P.cellsOf e=(i+1)*P.cellsOf e by rw [mU]]
       rw [e1]
       exact MF h2 h3
     have:=key m 0 (by omega)
     rw [Nat.zero_mul,mN,hl2,←hlen,mH] at this
     exact this
   ·cases h
  ·cases h
theorem Aep {r:Reach} {b0:Nat} {t:TypeId} {v:Value} {dt:DataW H} {ps:List MemPlace} (d:Nat) (hs:(P.underlying t).any (λ | .struct _=>true| .array _ _=>true|_=>false)=true) {sh:List Ko} (hsh:Si P d t=some sh)
 (hv:Value.okWide P w r b0 t v) (h:DataW.Trod enc P w base sp held t v dt ps):∃vs:List Value,v= .agg vs.toArray∧Hg sh vs:=by
 obtain ⟨fuel,hf⟩:=h
 have hc:=QF d t sh fuel _ _ hsh hf
 unfold Value.okWide at hv
 cases hu:P.underlying t with
 |none=>rw [hu] at hs;simp at hs
 |some ty=>
  rw [hu] at hs hv
  cases ty<;>simp at hs<;>(obtain ⟨cs,rfl,_,_⟩:=hv;exact ⟨cs.toList,by simp,hc⟩)
def P5:Ko→(Nat→Value)→Nat→Au
 | .int k,V,n=> .ints k ((jQ n).map λi=>match V i with| .int _ x=>x|_=>0)
 | .bool,V,n=> .bools ((jQ n).map λi=>match V i with| .bool b=>b|_=>false)
theorem AoA {s:Ko} {V:Nat→Value} {n:Nat} (h:∀i,i<n→vIs s (V i)):ApD n s (P5 s V n)∧(P5 s V n).len=n∧∀i,i<n→(P5 s V n).at i=V i:=by
 cases s with
 |int k=>
  refine ⟨⟨_,rfl,by simp, λx hx=>?_⟩,by simp [P5,Au.len], λi hi=>?_⟩
  ·obtain ⟨i,hi,rfl⟩:=kN.1 hx
   obtain ⟨y,hy,hw⟩:=h i (kV.1 hi)
   rw [hy];exact hw
  ·obtain ⟨y,hy,hw⟩:=h i hi
   simp [P5,Au.at,hi,hy]
 |bool=>
  refine ⟨⟨_,rfl,by simp⟩,by simp [P5,Au.len], λi hi=>?_⟩
  obtain ⟨y,hy⟩:=h i hi
  simp [P5,Au.at,hi,hy]
def Nw:List Ko→Nat→(Nat→List Value)→Nat→List Au
 |[],_,_,_=>[]
 |s::r,j,cs,n=>P5 s (λi=>(cs i).getD j undef) n::Nw r (j+1) cs n
theorem Sj:∀(sh:List Ko) (j:Nat) (cs:Nat→List Value) (n:Nat),(Nw sh j cs n).length=sh.length
 |[],_,_,_=>rfl
 |_::r,j,cs,n=>by simp only [Nw,jJ,Sj r]
theorem UU {cs:Nat→List Value} {n:Nat}:∀(sh:List Ko) (j:Nat),(∀i,i<n→∀(m:Nat) s,sh[m]? =some s→vIs s ((cs i).getD (j+m) undef))→
 Aax n sh (Nw sh j cs n)∧∀(m:Nat) c,(Nw sh j cs n)[m]? =some c→c.len=n∧∀i,i<n→c.at i=(cs i).getD (j+m) undef
 |[],j,_=>⟨rfl, λm c h=>by simp [Nw] at h⟩
 |s::r,j,h=>by
  have h0:=AoA (s:=s) (V:= λi=>(cs i).getD j undef) (n:=n) λi hi=>h i hi 0 s rfl
  obtain ⟨h1,h2⟩:=UU (cs:=cs) (n:=n) r (j+1) λi hi m s' hm=>by
   have:=h i hi (m+1) s' (by simpa using hm)
   rwa [show j+(m+1)=j+1+m by omega] at this
  refine ⟨⟨_,_,rfl,h0.1,h1⟩, λm c hm=>?_⟩
  cases m with
  |zero=>simp only [Nw,jH,iA] at hm;subst hm;exact ⟨h0.2.1,h0.2.2⟩
  |succ m=>
   have:=h2 m c (by simpa [Nw] using hm)
   rwa [show j+1+m=j+(m+1) by omega] at this
theorem AgJ (W:World) (a:Addr):cellOf (λb=>W.heap[b]?) a=W.cell? a:=rfl
end
end
end Go.Sl
namespace Go.Proofs
section
open Go.Shelf
def Try.Aje:Go.Shelf.Ren:=⟨λ |6=>68|15=>84|14=>83|28=>95|29=>96|20=>87|21=>88|22=>89|23=>90|24=>91|25=>92|26=>93|27=>94|46=>97|47=>98|48=>99|49=>100|50=>101|57=>102|n=>n, λ |22=>24|24=>55|25=>73|3=>3|39=>53|0=>0|53=>119|55=>121|4=>4|46=>113|45=>112|50=>74|5=>5|9=>9|66=>122|70=>126|76=>128|77=>129|n=>n, λ |n=>n⟩
theorem Try.Aks:Go.Proofs.SlLaysF0.n6 Try.prog Try.Aje:={
 mixed:=by kernel_rfl
 f6:=⟨Try.f68.name,by decide,Try.func68.trans (congrArg some (by kernel_rfl))⟩
 f14:=⟨Try.f83.name,by decide,Try.func83.trans (congrArg some (by kernel_rfl))⟩
 f15:=Try.func84.trans (congrArg some (by kernel_rfl))
 f20:=⟨Try.f87.name,by decide,Try.func87.trans (congrArg some (by kernel_rfl))⟩
 f21:=⟨Try.f88.name,by decide,Try.func88.trans (congrArg some (by kernel_rfl))⟩
 f22:=⟨Try.f89.name,by decide,Try.func89.trans (congrArg some (by kernel_rfl))⟩
 f23:=⟨Try.f90.name,by decide,Try.func90.trans (congrArg some (by kernel_rfl))⟩
 f24:=⟨Try.f91.name,by decide,Try.func91.trans (congrArg some (by kernel_rfl))⟩
 f25:=⟨Try.f92.name,by decide,Try.func92.trans (congrArg some (by kernel_rfl))⟩
 f26:=⟨Try.f93.name,by decide,Try.func93.trans (congrArg some (by kernel_rfl))⟩
 f27:=⟨Try.f94.name,by decide,Try.func94.trans (congrArg some (by kernel_rfl))⟩
 f28:=Try.func95.trans (congrArg some (by kernel_rfl))
 f29:=Try.func96.trans (congrArg some (by kernel_rfl))
 f46:=⟨Try.f97.name,by decide,Try.func97.trans (congrArg some (by kernel_rfl))⟩
 f47:=Try.func98.trans (congrArg some (by kernel_rfl))
 f48:=Try.func99.trans (congrArg some (by kernel_rfl))
 f49:=⟨Try.f100.name,by decide,Try.func100.trans (congrArg some (by kernel_rfl))⟩
 f50:=⟨Try.f101.name,by decide,Try.func101.trans (congrArg some (by kernel_rfl))⟩
 f57:=⟨Try.f102.name,by decide,Try.func102.trans (congrArg some (by kernel_rfl))⟩
 t0:=Try.underlying0
 a0:=Try.isAgg0
 z0:=Try.sizeOf0
 v0:=Try.zeroValue0
 t3:=Try.underlying3
 a3:=Try.isAgg3
 z3:=Try.sizeOf3
 v3:=Try.zeroValue3
 t4:=Try.underlying4
 a4:=Try.isAgg4
 z4:=Try.sizeOf4
 v4:=Try.zeroValue4
 t5:=Try.underlying5
 a5:=Try.isAgg5
 z5:=Try.sizeOf5
 v5:=Try.zeroValue5
 t9:=Try.underlying9
 a9:=Try.isAgg9
 z9:=Try.sizeOf9
 v9:=Try.zeroValue9
 t22:=Try.underlying24
 a22:=Try.isAgg24
 z22:=Try.sizeOf24
 v22:=Try.zeroValue24
 t25:=Try.underlying73
 a25:=Try.isAgg73
 z25:=Try.sizeOf73
 v25:=Try.zeroValue73
 t39:=Try.underlying53
 a39:=Try.isAgg53
 z39:=Try.sizeOf53
 v39:=Try.zeroValue53
 t45:=Try.underlying112
 a45:=Try.isAgg112
 z45:=Try.sizeOf112
 v45:=Try.zeroValue112
 t46:=Try.underlying113
 a46:=Try.isAgg113
 z46:=Try.sizeOf113
 v46:=Try.zeroValue113
 t50:=Try.underlying74
 a50:=Try.isAgg74
 z50:=Try.sizeOf74
 v50:=Try.zeroValue74
 t53:=Try.underlying119
 a53:=Try.isAgg119
 z53:=Try.sizeOf119
 v53:=Try.zeroValue119
 t55:=Try.underlying121
 a55:=Try.isAgg121
 z55:=Try.sizeOf121
 v55:=Try.zeroValue121
 t66:=Try.underlying122
 a66:=Try.isAgg122
 z66:=Try.sizeOf122
 v66:=Try.zeroValue122
 t70:=Try.underlying126
 a70:=Try.isAgg126
 z70:=Try.sizeOf126
 v70:=Try.zeroValue126
 t76:=Try.underlying128
 a76:=Try.isAgg128
 z76:=Try.sizeOf128
 v76:=Try.zeroValue128
 t77:=Try.underlying129
 a77:=Try.isAgg129
 z77:=Try.sizeOf129
 v77:=Try.zeroValue129}
end
end Go.Proofs
namespace Go.Sl
section
open Go.RowKit
structure Wr (σ:Type) where
 τ:Type
 inj:τ→σ
 prj:σ→τ
 is:σ→Bool
 d:τ
 ok:∀s,is s=true→inj (prj s)=s
inductive Cm (σ:Type) where
 |i (x:Int)
 |b (x:Bool)
 |n (x:Nat)
 |li (x:LI)
 |lb (x:List Bool)
 |mp (x:Int→Option Int)
 |bl (x:List (Int×Int))
 |st (x:σ)
inductive Kd (σ:Type):Type 1 where
 |i
 |b
 |n
 |li
 |lb
 |mp
 |bl
 |st (w:Wr σ)
variable {σ:Type}
abbrev Arr:=Int→Option Int
@[reducible] def Kd.T:Kd σ→Type
  | .i=>Int
  | .b=>Bool
  | .n=>Nat
  | .li=>LI
  | .lb=>List Bool
  | .mp=>Arr
  | .bl=>List (Int×Int)
  | .st w=>w.τ
def Cm.iOf:Cm σ→Int
 | .i x=>x
 |_=>0
def Cm.bOf:Cm σ→Bool
 | .b x=>x
 |_=>false
def Cm.nOf:Cm σ→Nat
 | .n x=>x
 |_=>0
def Cm.liOf:Cm σ→LI
 | .li x=>x
 |_=>[]
def Cm.lbOf:Cm σ→List Bool
 | .lb x=>x
 |_=>[]
def Cm.mpOf:Cm σ→Arr
 | .mp x=>x
 |_=> λ_=>none
def Cm.blOf:Cm σ→List (Int×Int)
 | .bl x=>x
 |_=>[]
def Cm.stOf (w:Wr σ):Cm σ→w.τ
 | .st x=>w.prj x
 |_=>w.d
def Kd.of:(k:Kd σ)→Cm σ→k.T
 | .i,c=>c.iOf
 | .b,c=>c.bOf
 | .n,c=>c.nOf
 | .li,c=>c.liOf
 | .lb,c=>c.lbOf
 | .mp,c=>c.mpOf
 | .bl,c=>c.blOf
 | .st w,c=>c.stOf w
def Kd.to:(k:Kd σ)→k.T→Cm σ
 | .i,x=> .i x
 | .b,x=> .b x
 | .n,x=> .n x
 | .li,x=> .li x
 | .lb,x=> .lb x
 | .mp,x=> .mp x
 | .bl,x=> .bl x
 | .st w,x=> .st (w.inj x)
def Kd.fits:Kd σ→Cm σ→Bool
 | .i, .i _=>true
 | .b, .b _=>true
 | .n, .n _=>true
 | .li, .li _=>true
 | .lb, .lb _=>true
 | .mp, .mp _=>true
 | .bl, .bl _=>true
 | .st w, .st x=>w.is x
 |_,_=>false
theorem Kd.Asg {k:Kd σ} {c:Cm σ} (h:k.fits c=true):k.to (k.of c)=c:=by
 cases k<;>cases c<;>simp only [Kd.fits] at h<;>first|rfl|cases h|skip
 rename_i w x
 show Cm.st (w.inj (w.prj x))=Cm.st x
 rw [w.ok x h]
abbrev I9 (cs:List (Cm σ)):Cm σ:=cs.headD (.b false)
@[reducible] def Ty:List (Kd σ)→Type
  |[]=>Unit
  |[k]=>k.T
  |k::k'::ks=>k.T×Ty (k'::ks)
def Ku:(ks:List (Kd σ))→Ty ks→List (Cm σ)
 |[],_=>[]
 |[k],x=>[k.to x]
 |k::k'::ks,x=>k.to x.1::Ku (k'::ks) x.2
def YI:(ks:List (Kd σ))→List (Cm σ)→Ty ks
 |[],_=>()
 |[k],cs=>k.of (I9 cs)
 |k::k'::ks,cs=>(k.of (I9 cs),YI (k'::ks) cs.tail)
@[reducible] def Kq:List (Kd σ)→Type→Type
  |[],α=>α
  |k::ks,α=>k.T→Kq ks α
def Ag {α:Type}:(ks:List (Kd σ))→Kq ks α→List (Cm σ)→α
 |[],f,_=>f
 |k::ks,f,cs=>Ag ks (f (k.of (I9 cs))) cs.tail
@[reducible] def EF:(ks:List (Kd σ))→(List (Cm σ)→Prop)→Prop
  |[],p=>p []
  |k::ks,p=>∀a:k.T,EF ks λcs=>p (k.to a::cs)
def Dn:List (Kd σ)→List (Cm σ)→Bool
 |[],[]=>true
 |k::ks,c::cs=>k.fits c&&Dn ks cs
 |_,_=>false
theorem EF.at:∀{ks:List (Kd σ)} {p:List (Cm σ)→Prop},EF ks p→∀cs,Dn ks cs=true→p cs
 |[],_,h,[],_=>h
 |[],_,_,_::_,hf=>by simp [Dn] at hf
 |_::_,_,_,[],hf=>by simp [Dn] at hf
 |k::ks,p,h,c::cs,hf=>by
  simp only [Dn,iE] at hf
  have:=EF.at (h (k.of c)) cs hf.2
  rw [Kd.Asg hf.1] at this
  exact this
inductive Sh (σ:Type):Type 1 where
 |i (k:IntKind)
 |b
 |skip
 |ic (k:IntKind) (x:Int)
 |bc (x:Bool)
 |agg (l:List (Sh σ))
 |tup (l:List (Sh σ))
 |ro (ks:List (Option IntKind))
 |roc (cols:List Au)
 |own (t:TypeId) (ks:List (Option IntKind))
 |new (t:TypeId) (ks:List (Option IntKind))
 |obj (w:Wr σ)
 |nobj (w:Wr σ)
 |objc (w:Wr σ) (p:Addr)
 |objk (w:Wr σ) (p:Addr) (s:w.τ)
 |vc (v:Value)
 |box (t:TypeId) (l:List (Sh σ))
 |boxc (b:Nat) (t:TypeId) (l:List (Sh σ))
 |objb (w:Wr σ)
 |nxt (t:TypeId)
 |agn (i:Nat)
 |mp (kk vk:IntKind)
 |bm
 |bmi
 |agi (i:Nat)
 |ago (j:Nat)
 |agc (j off:Nat)
 |ags (j n:Nat)
 |fn (f:Nat)
def N7:Option IntKind→Kd σ
 |some _=> .li
 |none=> .lb
mutual
def Sh.kd:Sh σ→List (Kd σ)
 | .i _=>[.i]
 | .b=>[.b]
 | .agg l=>IA l
 | .tup l=>IA l
 | .ro ks=>ks.map N7
 | .own _ ks=> .n::ks.map N7
 | .new _ ks=>ks.map N7
 | .obj w=>[.st w]
 | .nobj w=>[.st w]
 | .objc w _=>[.st w]
 | .box _ l=>IA l
 | .boxc _ _ l=>IA l
 | .objb w=>[.st w]
 | .agn _=>[.n]
 | .mp _ _=>[.mp]
 | .bm=>[.bl]
 | .bmi=>[.bl, .bl, .bl]
 |_=>[]
def IA:List (Sh σ)→List (Kd σ)
 |[]=>[]
 |s::l=>s.kd++IA l
end
mutual
def Sh.nC:Sh σ→Nat
 | .i _=>1
 | .b=>1
 | .agg l=>Lu l
 | .tup l=>Lu l
 | .ro ks=>ks.length
 | .own _ ks=>1+ks.length
 | .new _ ks=>ks.length
 | .obj _=>1
 | .nobj _=>1
 | .objc _ _=>1
 | .box _ l=>Lu l
 | .boxc _ _ l=>Lu l
 | .objb _=>1
 | .agn _=>1
 | .mp _ _=>1
 | .bm=>1
 | .bmi=>3
 |_=>0
def Lu:List (Sh σ)→Nat
 |[]=>0
 |s::l=>s.nC+Lu l
end
mutual
def Sh.nA:Sh σ→Nat
 | .agg l=>nAs l
 | .tup l=>nAs l
 | .ro _=>1
 | .roc _=>1
 | .own _ _=>1
 | .new _ _=>1
 | .obj _=>1
 | .nobj _=>1
 | .box _ l=>1+nAs l
 | .boxc _ _ l=>nAs l
 | .objb _=>1
 | .agn _=>1
 | .mp _ _=>1
 | .bm=>1
 | .bmi=>1
 | .agi _=>1
 | .ago _=>1
 | .agc _ _=>1
 | .ags _ _=>1
 |_=>0
def nAs:List (Sh σ)→Nat
 |[]=>0
 |s::l=>s.nA+nAs l
end
mutual
def Sh.nK:Sh σ→Nat
 | .agg l=>Fv l
 | .tup l=>Fv l
 | .ro _=>1
 | .roc _=>1
 | .own _ _=>1
 | .obj _=>1
 | .objc _ _=>1
 | .objk _ _ _=>1
 | .box _ l=>1+Fv l
 | .boxc _ _ l=>1+Fv l
 | .objb _=>1
 | .mp _ _=>1
 | .bm=>1
 | .bmi=>1
 |_=>0
def Fv:List (Sh σ)→Nat
 |[]=>0
 |s::l=>s.nK+Fv l
end
mutual
def Sh.nS:Sh σ→Nat
 | .agg l=>nSs l
 | .tup l=>nSs l
 | .new _ _=>1
 | .nobj _=>1
 |_=>0
def nSs:List (Sh σ)→Nat
 |[]=>0
 |s::l=>s.nS+nSs l
end
structure Ad where
 o:Option Nat
 b:Nat
 c:Nat
 a:Option Addr
 p:Addr
def Ad.z:Ad:=⟨none,0,0,none,⟨0,0,none⟩⟩
def Ars:IntKind→LI→Au
 | .i8,xs=> .fz xs
 | .i16,xs=> .sls xs
 |k,xs=> .ints k xs
def Dx:List (Option IntKind)→List (Cm σ)→List Au
 |[],_=>[]
 |some k::ks,cs=>Ars k (I9 cs).liOf::Dx ks cs.tail
 |none::ks,cs=> .bools (I9 cs).lbOf::Dx ks cs.tail
def Df:List (Option IntKind)→List Au→List (Cm σ)
 |[],_=>[]
 |some _::ks,cols=>(match cols.headD (.vals []) with| .ints _ xs=> .li xs| .fz xs=> .li xs| .sls xs=> .li xs|_=> .li [])::Df ks cols.tail
 |none::ks,cols=>(match cols.headD (.vals []) with| .bools xs=> .lb xs|_=> .lb [])::Df ks cols.tail
def AfW:List (Option IntKind)→Bool
 |some .i8::_=>true
 |_=>false
structure Tp (σ:Type) where
 v:Value
 p:Pr
 K:List (Chunk σ)
def GK:List (Tp σ)→List (Chunk σ)
 |[]=>[]
 |t::r=>t.K++GK r
def QG:List (Tp σ)→List Value
 |[]=>[]
 |t::r=>t.v::QG r
def tpP:List (Tp σ)→List Pr
 |[]=>[]
 |t::r=>t.p::tpP r
def J5:List (Tp σ)→List (Value×Pr)
 |[]=>[]
 |t::r=>(t.v,t.p)::J5 r
mutual
def Sh.tp (ad:Nat→Ad):Sh σ→Nat→Nat→List (Cm σ)→Tp σ
 | .i kd,_,_,cs=>⟨.int kd (I9 cs).iOf, .no,[]⟩
 | .b,_,_,cs=>⟨.bool (I9 cs).bOf, .no,[]⟩
 | .skip,_,_,_=>⟨undef, .no,[]⟩
 | .ic kd x,_,_,_=>⟨.int kd x, .no,[]⟩
 | .bc x,_,_,_=>⟨.bool x, .no,[]⟩
 | .agg l,k,j,cs=>⟨.agg (QG (DK ad l k j cs)).toArray,Gy (tpP (DK ad l k j cs)),GK (DK ad l k j cs)⟩
 | .tup l,k,j,cs=>⟨.tuple (QG (DK ad l k j cs)).toArray,Gy (tpP (DK ad l k j cs)),GK (DK ad l k j cs)⟩
 | .ro ks,k,j,cs=>⟨.slice (ad j).a (lenC (Dx ks cs)) (ad j).c, .pt k .slice,[.ro (ad j).a (lenC (Dx ks cs)) (ad j).c (Dx ks cs)]⟩
 | .roc cols,k,j,_=>⟨.slice (ad j).a (lenC cols) (ad j).c, .pt k .slice,[.ro (ad j).a (lenC cols) (ad j).c cols]⟩
 | .own t ks,k,j,cs=>⟨Be (ad j).o (I9 cs).nOf (ad j).c, .pt k .slice,[.row (ad j).o t (I9 cs).nOf (ad j).c (Dx ks cs.tail)]⟩
 | .new _ _,_,_,_=>⟨undef, .no,[]⟩
 | .obj w,k,j,cs=>⟨.pointer (some (ad j).p), .pt k .obj,[.obj (ad j).p (w.inj ((I9 cs).stOf w))]⟩
 | .nobj _,_,_,_=>⟨undef, .no,[]⟩
 | .objc w p,k,_,cs=>⟨.pointer (some p), .pt k .obj,[.obj p (w.inj ((I9 cs).stOf w))]⟩
 | .objk w p s,k,_,_=>⟨.pointer (some p), .pt k .obj,[.obj p (w.inj s)]⟩
 | .vc v,_,_,_=>⟨v, .no,[]⟩
 | .box t l,k,j,cs=>⟨.pointer (some ⟨(ad j).b,0,none⟩), .pt k (.cell 0), .cells (ad j).b t (J5 (DK ad l (k+1) (j+1) cs))::GK (DK ad l (k+1) (j+1) cs)⟩
 | .boxc b t l,k,j,cs=>⟨.pointer (some ⟨b,0,none⟩), .pt k (.cell 0), .cells b t (J5 (DK ad l (k+1) j cs))::GK (DK ad l (k+1) j cs)⟩
 | .objb w,k,j,cs=>⟨.pointer (some ⟨(ad j).b,0,none⟩), .pt k .obj,[.obj ⟨(ad j).b,0,none⟩ (w.inj ((I9 cs).stOf w))]⟩
 | .agn i,_,j,cs=>⟨.slice (ad j).a (I9 cs).nOf (ad j).c, .pt i .slice,[]⟩
 | .nxt t,k,j,cs=>⟨.iface t (Be (ad j).o (I9 cs).nOf (ad j).c), .box (.pt k .slice),[]⟩
 | .mp kk vk,k,j,cs=>⟨.map (some (ad j).b), .pt k .map,[.map (ad j).b kk vk (I9 cs).mpOf]⟩
 | .bm,k,j,cs=>⟨.map (some (ad j).b), .pt k .map,[.bm (ad j).b (I9 cs).blOf none]⟩
 | .bmi,k,j,cs=>⟨.map (some (ad j).b), .pt k .map,[.bm (ad j).b (I9 cs).blOf (some ((ad j).c,(I9 cs.tail).blOf,(I9 cs.tail.tail).blOf))]⟩
 | .agi i,_,j,_=>⟨.pointer (some ⟨(ad j).b,0,none⟩), .pt i .iter,[]⟩
 | .ago i,_,j,_=>⟨.pointer (some (ad j).p), .pt i .obj,[]⟩
 | .agc i off,_,j,_=>⟨.pointer (some ⟨(ad j).b,off,none⟩), .pt i (.cell off),[]⟩
 | .ags i n,_,j,_=>⟨.slice (ad j).a n (ad j).c, .pt i .slice,[]⟩
 | .fn f,_,_,_=>⟨.func (.func f) #[] #[], .no,[]⟩
def DK (ad:Nat→Ad):List (Sh σ)→Nat→Nat→List (Cm σ)→List (Tp σ)
 |[],_,_,_=>[]
 |s::l,k,j,cs=>s.tp ad k j cs::DK ad l (k+s.nK) (j+s.nA) (cs.drop s.nC)
end
structure Dc (σ:Type) where
 cs:List (Cm σ)
 ad:List Ad
 is:List (Option Nat)
mutual
def Sh.dc (K:List (Chunk σ)):Sh σ→Value→Pr→Dc σ
 | .i _, .int _ x,_=>⟨[.i x],[],[]⟩
 | .b, .bool x,_=>⟨[.b x],[],[]⟩
 | .agg l, .agg vs,p=>dcs K l vs.toList (LW (.agg vs) p)
 | .tup l, .tuple vs,p=>dcs K l vs.toList (match p with| .many ps=>ps|_=>Qn vs.size)
 | .ro ks, .slice a _ c, .pt k .slice=>match K[k]? with
   |some (.ro _ _ _ cols)=>⟨Df ks cols,[{Ad.z with a:=a,c:=c}],[some k]⟩
   |_=>⟨[],[],[]⟩
 | .roc _, .slice a _ c, .pt k .slice=>⟨[],[{Ad.z with a:=a,c:=c}],[some k]⟩
 | .own _ ks, .slice _ _ _, .pt k .slice=>match K[k]? with
   |some (.row o _ n c cols)=>⟨.n n::Df ks cols,[{Ad.z with o:=o,c:=c}],[some k]⟩
   |_=>⟨[],[],[]⟩
 | .own _ ks, .slice _ _ _, .no=>⟨.n 0::Df ks (Dx (σ:=σ) ks []),[Ad.z],[none]⟩
 | .new _ ks, .slice a _ _, .pt k .slice=>match K[k]? with
   |some (.row o _ n c cols)=>⟨Df ks cols,[{Ad.z with o:=o,b:=n,c:=c,a:=a}],[some k]⟩
   |some (.ro _ n c cols)=>⟨Df ks cols,[{Ad.z with b:=n,c:=c,a:=a}],[some k]⟩
   |_=>⟨[],[],[]⟩
 | .new _ ks, .slice _ _ _, .no=>⟨Df ks (Dx (σ:=σ) ks []),[Ad.z],[none]⟩
 | .obj _, .pointer (some p), .pt k .obj=>match K[k]? with
   |some (.obj _ s)=>⟨[.st s],[{Ad.z with p:=p}],[some k]⟩
   |_=>⟨[],[],[]⟩
 | .objk _ _ _, .pointer (some _), .pt k .obj=>⟨[],[],[some k]⟩
 | .objc _ _, .pointer (some _), .pt k .obj=>match K[k]? with
   |some (.obj _ s)=>⟨[.st s],[],[some k]⟩
   |_=>⟨[],[],[]⟩
 | .nobj _, .pointer (some p), .pt k .obj=>match K[k]? with
   |some (.obj _ s)=>⟨[.st s],[{Ad.z with o:=some p.block}],[some k]⟩
   |_=>⟨[],[],[]⟩
 | .box _ l, .pointer (some p), .pt k (.cell _)=>match K[k]? with
   |some (.cells _ _ cs)=>match dcs K l (cs.map (·.1)) (cs.map (·.2)) with
    |⟨a,b,c⟩=>⟨a,{Ad.z with b:=p.block}::b,some k::c⟩
   |_=>⟨[],[],[]⟩
 | .boxc _ _ l, .pointer (some _), .pt k (.cell _)=>match K[k]? with
   |some (.cells _ _ cs)=>match dcs K l (cs.map (·.1)) (cs.map (·.2)) with
    |⟨a,b,c⟩=>⟨a,b,some k::c⟩
   |_=>⟨[],[],[]⟩
 | .objb _, .pointer (some p), .pt k .obj=>match K[k]? with
   |some (.obj _ s)=>⟨[.st s],[{Ad.z with b:=p.block}],[some k]⟩
   |_=>⟨[],[],[]⟩
 | .mp _ _, .map (some b), .pt k .map=>match K[k]? with
   |some (.map _ _ _ f)=>⟨[.mp f],[{Ad.z with b:=b}],[some k]⟩
   |_=>⟨[],[],[]⟩
 | .bm, .map (some b), .pt k .map=>match K[k]? with
   |some (.bm _ l _)=>⟨[.bl l],[{Ad.z with b:=b}],[some k]⟩
   |_=>⟨[],[],[]⟩
 | .bmi, .map (some b), .pt k .map=>match K[k]? with
   |some (.bm _ l (some (i,c,r)))=>⟨[.bl l, .bl c, .bl r],[{Ad.z with b:=b,c:=i}],[some k]⟩
   |_=>⟨[],[],[]⟩
 | .agi _, .pointer (some p),_=>⟨[],[{Ad.z with b:=p.block}],[]⟩
 | .ago _, .pointer (some p),_=>⟨[],[{Ad.z with p:=p}],[]⟩
 | .agc _ _, .pointer (some p),_=>⟨[],[{Ad.z with b:=p.block}],[]⟩
 | .agn _, .slice a n c,_=>⟨[.n n],[{Ad.z with a:=a,c:=c}],[]⟩
 | .ags _ _, .slice a _ c,_=>⟨[],[{Ad.z with a:=a,c:=c}],[]⟩
 |_,_,_=>⟨[],[],[]⟩
def dcs (K:List (Chunk σ)):List (Sh σ)→List Value→List Pr→Dc σ
 |s::l,v::vs,p::ps=>match s.dc K v p,dcs K l vs ps with
  |⟨a,b,c⟩,⟨a',b',c'⟩=>⟨a++a',b++b',c++c'⟩
 |_,_,_=>⟨[],[],[]⟩
end
def Ht (l:List Ad):Nat→Ad:= λj=>l.getD j Ad.z
def JS:Nat→List (Option Nat)→List Nat
 |_,[]=>[]
 |j,some i::r=>i::JS (j+1) r
 |j,none::r=>(1000000+j)::JS (j+1) r
def nodupB:List Nat→Bool
 |[]=>true
 |i::r=>!(r.any (iL i))&&nodupB r
theorem JE:∀{l:List Nat},nodupB l=true→l.Nodup
 |[],_=>by simp
 |i::r,h=>by
  simp only [nodupB,iE,kU,List.any_eq_false,Bool.not_eq_true] at h
  refine lF.2 ⟨λhm=>?_,JE h.2⟩
  have:=h.1 i hm
  rw [nT] at this;cases this
mutual
def Sh.out:Sh σ→List (Cm σ)→List Value→Value
 | .i kd,cs,_=> .int kd (I9 cs).iOf
 | .b,cs,_=> .bool (I9 cs).bOf
 | .agg l,cs,ss=> .agg (outs l cs ss).toArray
 | .tup l,cs,ss=> .tuple (outs l cs ss).toArray
 | .new _ _,_,ss=>ss.headD undef
 | .nobj _,_,ss=>ss.headD undef
 | .ic kd x,_,_=> .int kd x
 | .bc x,_,_=> .bool x
 | .vc v,_,_=>v
 |_,_,_=>undef
def outs:List (Sh σ)→List (Cm σ)→List Value→List Value
 |[],_,_=>[]
 |s::l,cs,ss=>s.out cs ss::outs l (cs.drop s.nC) (ss.drop s.nS)
end
mutual
def Sh.mks:Sh σ→List (Cm σ)→List (Mk σ)
 | .agg l,cs=>MG l cs
 | .tup l,cs=>MG l cs
 | .new t ks,cs=>[.row t (Dx ks cs)]
 | .nobj w,cs=>[.obj (w.inj ((I9 cs).stOf w))]
 |_,_=>[]
def MG:List (Sh σ)→List (Cm σ)→List (Mk σ)
 |[],_=>[]
 |s::l,cs=>s.mks cs++MG l (cs.drop s.nC)
end
mutual
def Sh.outp:Sh σ→Nat→Pr
 | .agg l,k=>Gy (Aa0 l k)
 | .tup l,k=>Gy (Aa0 l k)
 | .new _ _,k=> .pt k .slice
 | .nobj _,k=> .pt k .obj
 |_,_=> .no
def Aa0:List (Sh σ)→Nat→List Pr
 |[],_=>[]
 |s::l,k=>s.outp k::Aa0 l (k+s.nS)
end
mutual
theorem Sh.mks_len:∀(s:Sh σ) (cs:List (Cm σ)),(s.mks cs).length=s.nS
 | .agg l,cs=>by simp only [Sh.mks,Sh.nS];exact YJ l cs
 | .tup l,cs=>by simp only [Sh.mks,Sh.nS];exact YJ l cs
 | .new _ _,_=>rfl
 | .nobj _,_=>rfl
 | .i _,_=>rfl
 | .b,_=>rfl
 | .skip,_=>rfl
 | .ic _ _,_=>rfl
 | .bc _,_=>rfl
 | .ro _,_=>rfl
 | .roc _,_=>rfl
 | .own _ _,_=>rfl
 | .obj _,_=>rfl
 | .objc _ _,_=>rfl
 | .objk _ _ _,_=>rfl
 | .vc _,_=>rfl
 | .box _ _,_=>rfl
 | .boxc _ _ _,_=>rfl
 | .objb _,_=>rfl
 | .nxt _,_=>rfl
 | .agn _,_=>rfl
 | .mp _ _,_=>rfl
 | .bm,_=>rfl
 | .bmi,_=>rfl
 | .agi _,_=>rfl
 | .ago _,_=>rfl
 | .agc _ _,_=>rfl
 | .ags _ _,_=>rfl
 | .fn _,_=>rfl
theorem YJ:∀(l:List (Sh σ)) (cs:List (Cm σ)),(MG l cs).length=nSs l
 |[],_=>rfl
 |s::l,cs=>by simp only [MG,nSs,jL,s.mks_len cs,YJ l]
end
theorem Aeq:∀{R1 R2:List (Mk σ)} {acs:List (Option Nat×Nat)},Ha (R1++R2) acs→∃a1 a2,acs=a1++a2∧a1.length=R1.length∧Ha R1 a1∧Ha R2 a2
 |[],R2,acs,h=>⟨[],acs,rfl,rfl,trivial,h⟩
 |r::R1,R2,[],h=>by simp [Ha] at h
 |r::R1,R2,a::acs,h=>by
  simp only [jX,Ha] at h
  obtain ⟨a1,a2,rfl,h1,h2,h3⟩:=Aeq h.2
  exact ⟨a::a1,a2,rfl,by simp [h1],⟨h.1,h2⟩,h3⟩
theorem Ac9 {α β γ:Type} (f:α→β→γ):∀{l1 l2:List α} {m1 m2:List β},m1.length=l1.length→jA f (l1++l2) (m1++m2)=jA f l1 m1++jA f l2 m2
 |[],_,[],_,_=>rfl
 |[],_,_::_,_,h=>by simp at h
 |_::_,_,[],_,h=>by simp at h
 |a::l1,l2,b::m1,m2,h=>by simp only [jX,kK,Ac9 f (l1:=l1) (by simpa using h)]
theorem Al1 {K:List (Chunk σ)} {vs:List Value} {ps:List Pr} (h:AQ K vs ps):BH K (.tuple vs.toArray) (Gy ps):=by
 unfold Gy
 cases hb:ps.all Pr.Agd with
 |true=>simp [BH]
 |false=>simp only [cond_false];unfold BH;exact h
mutual
theorem Sh.Aku:∀(s:Sh σ) (cs:List (Cm σ)) (K K2:List (Chunk σ)) (S2:List Value) (acs:List (Option Nat×Nat)),Ha (s.mks cs) acs→
 BH (K++jA ED (s.mks cs) acs++K2) (s.out cs (jA G5 (s.mks cs) acs++S2)) (s.outp K.length)
 | .agg l,cs,K,K2,S2,acs,h=>by simp only [Sh.mks,Sh.out,Sh.outp] at h ⊢;exact JO (YK l cs K K2 S2 acs h)
 | .tup l,cs,K,K2,S2,acs,h=>by simp only [Sh.mks,Sh.out,Sh.outp] at h ⊢;exact Al1 (YK l cs K K2 S2 acs h)
 | .new t ks,cs,K,K2,S2,acs,h=>by
   simp only [Sh.mks] at h ⊢
   match acs,h with
   |[ac],_=>
    simp only [kK,List.zipWith_nil_right,Sh.out,Sh.outp,jX,kP]
    exact Bg.2 ⟨ED (.row t (Dx ks cs)) ac,by rw [jP,iJ (jY _)];simp,by simp only [ED,G5];cases EY (Dx ks cs)<;>rfl⟩
   |_::_::_,h=>exact absurd h.2 (by simp [Ha])
   |[],h=>exact h.elim
 | .nobj w,cs,K,K2,S2,acs,h=>by
   simp only [Sh.mks] at h ⊢
   match acs,h with
   |[ac],h=>
    obtain ⟨b,rfl⟩:=h.1
    simp only [kK,List.zipWith_nil_right,Sh.out,Sh.outp,jX,kP]
    exact Bg.2 ⟨ED (.obj (w.inj ((I9 cs).stOf w))) (some b,0),by rw [jP,iJ (jY _)];simp,rfl⟩
   |_::_::_,h=>exact absurd h.2 (by simp [Ha])
   |[],h=>exact h.elim
 | .i _,_,_,_,_,_,_=>A8
 | .b,_,_,_,_,_,_=>A8
 | .skip,_,_,_,_,_,_=>A8
 | .ic _ _,_,_,_,_,_,_=>A8
 | .bc _,_,_,_,_,_,_=>A8
 | .ro _,_,_,_,_,_,_=>A8
 | .roc _,_,_,_,_,_,_=>A8
 | .own _ _,_,_,_,_,_,_=>A8
 | .obj _,_,_,_,_,_,_=>A8
 | .objc _ _,_,_,_,_,_,_=>A8
 | .objk _ _ _,_,_,_,_,_,_=>A8
 | .vc _,_,_,_,_,_,_=>A8
 | .box _ _,_,_,_,_,_,_=>A8
 | .boxc _ _ _,_,_,_,_,_,_=>A8
 | .objb _,_,_,_,_,_,_=>A8
 | .nxt _,_,_,_,_,_,_=>A8
 | .agn _,_,_,_,_,_,_=>A8
 | .mp _ _,_,_,_,_,_,_=>A8
 | .bm,_,_,_,_,_,_=>A8
 | .bmi,_,_,_,_,_,_=>A8
 | .agi _,_,_,_,_,_,_=>A8
 | .ago _,_,_,_,_,_,_=>A8
 | .agc _ _,_,_,_,_,_,_=>A8
 | .ags _ _,_,_,_,_,_,_=>A8
 | .fn _,_,_,_,_,_,_=>A8
theorem YK:∀(l:List (Sh σ)) (cs:List (Cm σ)) (K K2:List (Chunk σ)) (S2:List Value) (acs:List (Option Nat×Nat)),Ha (MG l cs) acs→
 AQ (K++jA ED (MG l cs) acs++K2) (outs l cs (jA G5 (MG l cs) acs++S2)) (Aa0 l K.length)
 |[],_,_,_,_,_,_=>by simp [outs,Aa0,AQ]
 |s::l,cs,K,K2,S2,acs,h=>by
  simp only [MG] at h ⊢
  obtain ⟨a1,a2,rfl,h1,h2,h3⟩:=Aeq h
  rw [Ac9 _ h1,Ac9 _ h1]
  have e1:(jA G5 (s.mks cs) a1).length=s.nS:=by rw [List.length_zipWith,h1,s.mks_len];simp
  have e2:(jA ED (s.mks cs) a1).length=s.nS:=by rw [List.length_zipWith,h1,s.mks_len];simp
  refine Eo ?_ ?_
  ·have:=Sh.Aku s cs K (jA ED (MG l (cs.drop s.nC)) a2++K2) (jA G5 (MG l (cs.drop s.nC)) a2++S2) a1 h2
   simpa [jP] using this
  ·have:=YK l (cs.drop s.nC) (K++jA ED (s.mks cs) a1) K2 S2 a2 h3
   simp only [jL,e2] at this
   have e3:(jA G5 (s.mks cs) a1++jA G5 (MG l (cs.drop s.nC)) a2++S2).drop s.nS=jA G5 (MG l (cs.drop s.nC)) a2++S2:=by
    rw [jP,←e1];exact List.drop_left
   rw [e3]
   simpa [jP] using this
end
end
section
open Go.RowKit
variable {σ:Type}
inductive NT:Type 1 where
 |t
 |need (p:Prop) (n:NT)
 |br (c:Bool) (a b:NT)
 |bind {α:Type} (x:α) (k:α→NT)
 |and (a b:NT)
def NT.holds:NT→Prop
 | .t=>True
 | .need p n=>p∧(p→n.holds)
 | .br c a b=>(c=true→a.holds)∧(c=false→b.holds)
 | .bind x k=>∀a,a=x→(k a).holds
 | .and a b=>a.holds∧b.holds
def NT.sand (a b:NT):NT:=
 match a,b with
 | .t,b=>b
 |a, .t=>a
 |a,b=> .and a b
theorem NT.Aa1 {a b:NT} (h:(NT.sand a b).holds):a.holds∧b.holds:=by
 unfold NT.sand at h
 split at h
 ·exact ⟨trivial,h⟩
 ·exact ⟨h,trivial⟩
 ·exact h
def NT.sbr (c:Bool) (a b:NT):NT:=
 match a,b with
 | .t, .t=> .t
 |a,b=> .br c a b
def NT.sbind {α:Type} (x:α) (k:α→NT):NT:=
 match k x with
 | .t=> .t
 |_=> .bind x k
theorem NT.Aer {c:Bool} {a b:NT} (h:(NT.sbr c a b).holds):(c=true→a.holds)∧(c=false→b.holds):=by
 unfold NT.sbr at h
 split at h
 ·exact ⟨λ_=>trivial, λ_=>trivial⟩
 ·exact h
theorem NT.Ajf {α:Type} {x:α} {k:α→NT} (h:(NT.sbind x k).holds):(k x).holds:=by
 unfold NT.sbind at h
 split at h
 ·rename_i e;rw [e];trivial
 ·exact h x rfl
structure Ob (σ:Type) where
 td:List Ab
 v:Value
 L:List Ak
 K:List (Option (Chunk σ))
abbrev BF:=Nat→Nat
abbrev GF:=Nat→Option Nat
abbrev tl {α:Type} (f:Nat→α):Nat→α:= λi=>f (i+1)
def cn {α:Type} (a:α) (f:Nat→α):Nat→α
 |0=>a
 |i+1=>f i
section
variable {α:Type}
def Tree.val (lf:Value→Pr→List (Chunk σ)→α) (d:α):Tree σ→BF→GF→α
 | .ret v p K,_,_=>lf v p K
 | .br c a b,β,γ=>bif c then a.val lf d β γ else b.val lf d β γ
 | .need _ t,β,γ=>t.val lf d β γ
 | .bind x t,β,γ=>(t x).val lf d β γ
 | .fresh t,β,γ=>(t (β 0)).val lf d (tl β) γ
 | .freshS t,β,γ=>(t (γ 0) (β 0)).val lf d (tl β) (tl γ)
 | .pick t,β,γ=>(t (β 0)).val lf d (tl β) γ
 | .two a _,β,γ=>a.val lf d β γ
 | .stuck _ _ _,_,_=>d
def Tree.eqv (lf:Value→Pr→List (Chunk σ)→α) (d:α) (left:Bool):Tree σ→BF→GF→List α
 | .ret _ _ _,_,_=>[]
 | .br _ a b,β,γ=>a.eqv lf d left β γ++b.eqv lf d left β γ
 | .need _ t,β,γ=>t.eqv lf d left β γ
 | .bind x t,β,γ=>(t x).eqv lf d left β γ
 | .fresh t,β,γ=>(t (β 0)).eqv lf d left (tl β) γ
 | .freshS t,β,γ=>(t (γ 0) (β 0)).eqv lf d left (tl β) (tl γ)
 | .pick t,β,γ=>(t (β 0)).eqv lf d left (tl β) γ
 | .two a b,β,γ=>(bif left then a.val lf d β γ else b.val lf d β γ)::(a.eqv lf d left β γ++b.eqv lf d left β γ)
 | .stuck _ _ _,_,_=>[]
end
def Tree.obl (ro:Value→Pr→List (Chunk σ)→Ob σ) (so:List Ab→List Ak→List (Chunk σ)→Ob σ):Tree σ→BF→GF→List (Ob σ)
 | .ret v p K,_,_=>[ro v p K]
 | .br _ a b,β,γ=>a.obl ro so β γ++b.obl ro so β γ
 | .need _ t,β,γ=>t.obl ro so β γ
 | .bind x t,β,γ=>(t x).obl ro so β γ
 | .fresh t,β,γ=>(t (β 0)).obl ro so (tl β) γ
 | .freshS t,β,γ=>(t (γ 0) (β 0)).obl ro so (tl β) (tl γ)
 | .pick t,β,γ=>(t (β 0)).obl ro so (tl β) γ
 | .two a b,β,γ=>a.obl ro so β γ++b.obl ro so β γ
 | .stuck td L K,_,_=>[so td L K]
def Tree.okb (ro:Value→Pr→List (Chunk σ)→Bool) (so:List Ab→List Ak→List (Chunk σ)→Bool):Tree σ→BF→GF→Bool
 | .ret v p K,_,_=>ro v p K
 | .br _ a b,β,γ=>a.okb ro so β γ&&b.okb ro so β γ
 | .need _ t,β,γ=>t.okb ro so β γ
 | .bind x t,β,γ=>(t x).okb ro so β γ
 | .fresh t,β,γ=>(t (β 0)).okb ro so (tl β) γ
 | .freshS t,β,γ=>(t (γ 0) (β 0)).okb ro so (tl β) (tl γ)
 | .pick t,β,γ=>(t (β 0)).okb ro so (tl β) γ
 | .two a b,β,γ=>a.okb ro so β γ&&b.okb ro so β γ
 | .stuck td L K,_,_=>so td L K
def Tree.nds:Tree σ→BF→GF→NT
 | .ret _ _ _,_,_=> .t
 | .br c a b,β,γ=> .sbr c (a.nds β γ) (b.nds β γ)
 | .need p t,β,γ=> .need p (t.nds β γ)
 | .bind x t,β,γ=> .sbind x λa=>(t a).nds β γ
 | .fresh t,β,γ=>(t (β 0)).nds (tl β) γ
 | .freshS t,β,γ=>(t (γ 0) (β 0)).nds (tl β) (tl γ)
 | .pick t,β,γ=>(t (β 0)).nds (tl β) γ
 | .two a b,β,γ=> .sand (a.nds β γ) (b.nds β γ)
 | .stuck _ _ _,_,_=> .need False .t
def Tree.wp (RQ:Value→Pr→List (Chunk σ)→Prop) (SQ:List Ab→List Ak→List (Chunk σ)→Prop):Tree σ→BF→GF→Prop
 | .ret v p K,_,_=>RQ v p K
 | .br c a b,β,γ=>(c=true→a.wp RQ SQ β γ)∧(c=false→b.wp RQ SQ β γ)
 | .need p t,β,γ=>p∧(p→t.wp RQ SQ β γ)
 | .bind x t,β,γ=>∀a,a=x→(t a).wp RQ SQ β γ
 | .fresh t,β,γ=>(t (β 0)).wp RQ SQ (tl β) γ
 | .freshS t,β,γ=>(t (γ 0) (β 0)).wp RQ SQ (tl β) (tl γ)
 | .pick t,β,γ=>∀b,(t b).wp RQ SQ (tl β) γ
 | .two a b,β,γ=>a.wp RQ SQ β γ∧b.wp RQ SQ β γ
 | .stuck td L K,_,_=>SQ td L K
section
variable {α:Type} {lf:Value→Pr→List (Chunk σ)→α} {d:α} {roL roR:Value→Pr→List (Chunk σ)→Ob σ} {L8 L9:List Ab→List Ak→List (Chunk σ)→Ob σ} {rb:Value→Pr→List (Chunk σ)→Bool} {sb:List Ab→List Ak→List (Chunk σ)→Bool}
theorem Gs {ro:Value→Pr→List (Chunk σ)→Ob σ} {so:List Ab→List Ak→List (Chunk σ)→Ob σ} {ro':Value→Pr→List (Chunk σ)→Ob σ} {so':List Ab→List Ak→List (Chunk σ)→Ob σ}:∀(t:Tree σ) (β:BF) (γ:GF),(t.obl ro so β γ).length=(t.obl ro' so' β γ).length
 | .ret _ _ _,_,_=>rfl
 | .br _ a b,β,γ=>by simp only [Tree.obl,jL,Gs a β γ (ro:=ro) (so:=so) (ro':=ro') (so':=so'),Gs b β γ (ro:=ro) (so:=so) (ro':=ro') (so':=so')]
 | .need _ t,β,γ=>by simp only [Tree.obl];exact Gs t β γ
 | .bind x t,β,γ=>by simp only [Tree.obl];exact Gs (t x) β γ
 | .fresh t,β,γ=>by simp only [Tree.obl];exact Gs (t (β 0)) _ γ
 | .freshS t,β,γ=>by simp only [Tree.obl];exact Gs (t (γ 0) (β 0)) _ _
 | .pick t,β,γ=>by simp only [Tree.obl];exact Gs (t (β 0)) _ γ
 | .two a b,β,γ=>by simp only [Tree.obl,jL,Gs a β γ (ro:=ro) (so:=so) (ro':=ro') (so':=so'),Gs b β γ (ro:=ro) (so:=so) (ro':=ro') (so':=so')]
 | .stuck _ _ _,_,_=>rfl
theorem Ig:∀(t:Tree σ) (β:BF) (γ:GF),(t.eqv lf d true β γ).length=(t.eqv lf d false β γ).length
 | .ret _ _ _,_,_=>rfl
 | .br _ a b,β,γ=>by simp only [Tree.eqv,jL,Ig a β γ,Ig b β γ]
 | .need _ t,β,γ=>by simp only [Tree.eqv];exact Ig t β γ
 | .bind x t,β,γ=>by simp only [Tree.eqv];exact Ig (t x) β γ
 | .fresh t,β,γ=>by simp only [Tree.eqv];exact Ig (t (β 0)) _ γ
 | .freshS t,β,γ=>by simp only [Tree.eqv];exact Ig (t (γ 0) (β 0)) _ _
 | .pick t,β,γ=>by simp only [Tree.eqv];exact Ig (t (β 0)) _ γ
 | .two a b,β,γ=>by simp only [Tree.eqv,jJ,jL,Ig a β γ,Ig b β γ]
 | .stuck _ _ _,_,_=>rfl
theorem I5 {α:Type} {a b c d:List α} (h:a++b=c++d) (hl:a.length=c.length):a=c∧b=d:=List.append_inj h hl
theorem Tree.H9 {R:α→Value→Pr→List (Chunk σ)→Prop} {S:List Ab→List Ak→List (Chunk σ)→Prop} (hR:∀v p K,roL v p K=roR v p K→rb v p K=true→R (lf v p K) v p K):
 ∀(t:Tree σ) (r:α),(∀β γ,t.val lf d β γ=r)→(∀β γ,t.eqv lf d true β γ=t.eqv lf d false β γ)→(∀β γ,t.obl roL L8 β γ=t.obl roR L9 β γ)→(∀β γ,t.okb rb sb β γ=true)→(∀β γ,(t.nds β γ).holds)→t.holds (R r) S
 | .ret v p K,r,hv,_,ho,hb,_=>by
   have:=hv (λ_=>0) (λ_=>none)
   simp only [Tree.val] at this
   subst this
   have ho':=ho (λ_=>0) (λ_=>none)
   simp only [Tree.obl,jZ,and_true] at ho'
   exact hR v p K ho' (hb (λ_=>0) (λ_=>none))
 | .br c a b,r,hv,he,ho,hb,hn=>by
   simp only [Tree.val] at hv
   simp only [Tree.eqv] at he
   simp only [Tree.obl] at ho
   simp only [Tree.okb,iE] at hb
   simp only [Tree.nds] at hn
   refine ⟨λhc=>Tree.H9 hR a r (λβ γ=>?_) (λβ γ=>(I5 (he β γ) (Ig a β γ)).1) (λβ γ=>(I5 (ho β γ) (Gs a β γ)).1) (λβ γ=>(hb β γ).1) (λβ γ=>(NT.Aer (hn β γ)).1 hc),
    λhc=>Tree.H9 hR b r (λβ γ=>?_) (λβ γ=>(I5 (he β γ) (Ig a β γ)).2) (λβ γ=>(I5 (ho β γ) (Gs a β γ)).2) (λβ γ=>(hb β γ).2) (λβ γ=>(NT.Aer (hn β γ)).2 hc)⟩
   ·have:=hv β γ;rw [hc] at this;exact this
   ·have:=hv β γ;rw [hc] at this;exact this
 | .need p t,r,hv,he,ho,hb,hn=>by
   have hp:p:=(hn (λ_=>0) (λ_=>none)).1
   exact ⟨hp, λ_=>Tree.H9 hR t r hv he ho hb λβ γ=>(hn β γ).2 hp⟩
 | .bind x t,r,hv,he,ho,hb,hn=>by
   intro a ha
   subst ha
   exact Tree.H9 hR (t a) r hv he ho hb λβ γ=>NT.Ajf (k:= λx=>(t x).nds β γ) (hn β γ)
 | .fresh t,r,hv,he,ho,hb,hn=> λb=>Tree.H9 hR (t b) r (λβ γ=>hv (cn b β) γ) (λβ γ=>he (cn b β) γ) (λβ γ=>ho (cn b β) γ) (λβ γ=>hb (cn b β) γ) (λβ γ=>hn (cn b β) γ)
 | .freshS t,r,hv,he,ho,hb,hn=> λa c=>Tree.H9 hR (t a c) r (λβ γ=>hv (cn c β) (cn a γ)) (λβ γ=>he (cn c β) (cn a γ)) (λβ γ=>ho (cn c β) (cn a γ)) (λβ γ=>hb (cn c β) (cn a γ)) (λβ γ=>hn (cn c β) (cn a γ))
 | .pick t,r,hv,he,ho,hb,hn=> λb=>Tree.H9 hR (t b) r (λβ γ=>hv (cn b β) γ) (λβ γ=>he (cn b β) γ) (λβ γ=>ho (cn b β) γ) (λβ γ=>hb (cn b β) γ) (λβ γ=>hn (cn b β) γ)
 | .two a b,r,hv,he,ho,hb,hn=>by
   simp only [Tree.val] at hv
   simp only [Tree.eqv,cond_true,cond_false,jZ] at he
   simp only [Tree.obl] at ho
   simp only [Tree.okb,iE] at hb
   simp only [Tree.nds] at hn
   exact ⟨Tree.H9 hR a r hv (λβ γ=>(I5 (he β γ).2 (Ig a β γ)).1) (λβ γ=>(I5 (ho β γ) (Gs a β γ)).1) (λβ γ=>(hb β γ).1) (λβ γ=>(NT.Aa1 (hn β γ)).1),
    Tree.H9 hR b r (λβ γ=>((he β γ).1.symm.trans (hv β γ))) (λβ γ=>(I5 (he β γ).2 (Ig a β γ)).2) (λβ γ=>(I5 (ho β γ) (Gs a β γ)).2) (λβ γ=>(hb β γ).2) (λβ γ=>(NT.Aa1 (hn β γ)).2)⟩
 | .stuck td L K,r,_,_,_,_,hn=>(hn (λ_=>0) (λ_=>none)).1.elim
theorem Tree.Ij {RQ:Value→Pr→List (Chunk σ)→Prop} {SQ:List Ab→List Ak→List (Chunk σ)→Prop} {R:Value→Pr→List (Chunk σ)→Prop} {S:List Ab→List Ak→List (Chunk σ)→Prop}
 (hR:∀v p K,roL v p K=roR v p K→rb v p K=true→RQ v p K→R v p K) (hS:∀td L K,L8 td L K=L9 td L K→sb td L K=true→SQ td L K→S td L K):
 ∀(t:Tree σ),(∀β γ,t.wp RQ SQ β γ)→(∀β γ,t.obl roL L8 β γ=t.obl roR L9 β γ)→(∀β γ,t.okb rb sb β γ=true)→t.holds R S
 | .ret v p K,hw,ho,hb=>by
   have ho':=ho (λ_=>0) (λ_=>none)
   simp only [Tree.obl,jZ,and_true] at ho'
   exact hR v p K ho' (hb (λ_=>0) (λ_=>none)) (hw (λ_=>0) (λ_=>none))
 | .br c a b,hw,ho,hb=>by
   simp only [Tree.obl] at ho
   simp only [Tree.okb,iE] at hb
   exact ⟨λhc=>Tree.Ij hR hS a (λβ γ=>(hw β γ).1 hc) (λβ γ=>(I5 (ho β γ) (Gs a β γ)).1) (λβ γ=>(hb β γ).1),
    λhc=>Tree.Ij hR hS b (λβ γ=>(hw β γ).2 hc) (λβ γ=>(I5 (ho β γ) (Gs a β γ)).2) (λβ γ=>(hb β γ).2)⟩
 | .need p t,hw,ho,hb=>by
   have hp:p:=(hw (λ_=>0) (λ_=>none)).1
   exact ⟨hp, λ_=>Tree.Ij hR hS t (λβ γ=>(hw β γ).2 hp) ho hb⟩
 | .bind x t,hw,ho,hb=>by
   intro a ha
   subst ha
   exact Tree.Ij hR hS (t a) (λβ γ=>hw β γ a rfl) ho hb
 | .fresh t,hw,ho,hb=> λb=>Tree.Ij hR hS (t b) (λβ γ=>hw (cn b β) γ) (λβ γ=>ho (cn b β) γ) (λβ γ=>hb (cn b β) γ)
 | .freshS t,hw,ho,hb=> λa c=>Tree.Ij hR hS (t a c) (λβ γ=>hw (cn c β) (cn a γ)) (λβ γ=>ho (cn c β) (cn a γ)) (λβ γ=>hb (cn c β) (cn a γ))
 | .pick t,hw,ho,hb=> λb=>Tree.Ij hR hS (t b) (λβ γ=>hw (cn b β) γ b) (λβ γ=>ho (cn b β) γ) (λβ γ=>hb (cn b β) γ)
 | .two a b,hw,ho,hb=>by
   simp only [Tree.obl] at ho
   simp only [Tree.okb,iE] at hb
   exact ⟨Tree.Ij hR hS a (λβ γ=>(hw β γ).1) (λβ γ=>(I5 (ho β γ) (Gs a β γ)).1) (λβ γ=>(hb β γ).1),
    Tree.Ij hR hS b (λβ γ=>(hw β γ).2) (λβ γ=>(I5 (ho β γ) (Gs a β γ)).2) (λβ γ=>(hb β γ).2)⟩
 | .stuck td L K,hw,ho,hb=>by
   have ho':=ho (λ_=>0) (λ_=>none)
   simp only [Tree.obl,jZ,and_true] at ho'
   exact hS td L K ho' (hb (λ_=>0) (λ_=>none)) (hw (λ_=>0) (λ_=>none))
end
end
section
open Go.RowKit
variable {σ:Type}
mutual
def Sh.isArg:Sh σ→Bool
 | .i _=>true
 | .b=>true
 | .ro ks=>!ks.isEmpty
 | .fn _=>true
 | .agg l=>IB l
 |_=>false
def IB:List (Sh σ)→Bool
 |[]=>true
 |s::l=>s.isArg&&IB l
end
def Ep:List (Option IntKind)→List Au→Bool
 |[],[]=>true
 |some .i8::ks, .fz _::cols=>Ep ks cols
 |some .i64::ks, .fz _::cols=>Ep ks cols
 |some .i16::ks, .sls _::cols=>Ep ks cols
 |some k::ks, .ints k' _::cols=>(match decEq k k' with| .isTrue _=>true| .isFalse _=>false)&&((match decEq k .i8 with| .isTrue _=>false| .isFalse _=>true)&&(match decEq k .i16 with| .isTrue _=>false| .isFalse _=>true))&&Ep ks cols
 |none::ks, .bools _::cols=>Ep ks cols
 |_,_=>false
def Aa2:List Value→List (FC σ)
 |[]=>[]
 |_::r=> .none::Aa2 r
mutual
def Sh.dA:Sh σ→Value→FC σ→Option (List (Cm σ))
 | .i k, .int k' x,_=>match decEq k k' with
   | .isTrue _=>some [.i x]
   | .isFalse _=>none
 | .b, .bool x,_=>some [.b x]
 | .ro ks,_, .row _ cols=>bif Ep ks cols then some (Df ks cols) else none
 | .ro ks, .slice none 0 0, .none=>some (Df ks [])
 | .fn f, .func (.func g) ⟨[]⟩ ⟨[]⟩,_=>bif iL f g then some [] else none
 | .agg l, .agg vs, .none=>QH l vs.toList (Aa2 vs.toList)
 | .agg l, .agg vs, .many is=>QH l vs.toList is
 |_,_,_=>none
def QH:List (Sh σ)→List Value→List (FC σ)→Option (List (Cm σ))
 |[],[],[]=>some []
 |s::l,v::vs,i::is=>match s.dA v i,QH l vs is with
  |some a,some b=>some (a++b)
  |_,_=>none
 |_,_,_=>none
end
mutual
def Sh.bd:Sh σ→List (Cm σ)→Prop
 | .ro ks,cs=>lenC (Dx ks cs)≤9223372036854775807
 | .agg l,cs=>UV l cs
 |_,_=>True
def UV:List (Sh σ)→List (Cm σ)→Prop
 |[],_=>True
 |s::l,cs=>s.bd cs∧UV l (cs.drop s.nC)
end
theorem Aes:∀{ks ks':List (Kd σ)} {cs cs':List (Cm σ)},Dn ks cs=true→Dn ks' cs'=true→Dn (ks++ks') (cs++cs')=true
 |[],_,[],_,_,h=>h
 |[],_,_::_,_,h,_=>by simp [Dn] at h
 |_::_,_,[],_,h,_=>by simp [Dn] at h
 |k::ks,ks',c::cs,cs',h,h'=>by
  simp only [Dn,iE,jX] at h ⊢
  exact ⟨h.1,Aes h.2 h'⟩
def AoB (c' c:Au):Prop:=c'.len=c.len∧(∀i,c'.at i=c.at i)∧(c'.isFz=true→c.isFz=true)∧∀(Y:Hp) i,c.sub Y i→c'.sub Y i
def Hl:List Au→List Au→Prop
 |[],[]=>True
 |c'::cs',c::cs=>AoB c' c∧Hl cs' cs
 |_,_=>False
theorem Hl.get:∀{cs' cs:List Au},Hl cs' cs→∀{j:Nat} {c':Au},cs'[j]? =some c'→∃c,cs[j]? =some c∧AoB c' c
 |[],_,_,j,c',h=>by simp at h
 |_::_,[],h,_,_,_=>h.elim
 |d'::cs',d::cs,h,0,c',hj=>by simp at hj;subst hj;exact ⟨d,rfl,h.1⟩
 |d'::cs',d::cs,h,j+1,c',hj=>by simpa using Hl.get h.2 (j:=j) (by simpa using hj)
theorem Hl.len:∀{cs' cs:List Au},Hl cs' cs→cs'.length=cs.length
 |[],[],_=>rfl
 |[],_::_,h=>h.elim
 |_::_,[],h=>h.elim
 |_::_,_::_,h=>by simp [Hl.len h.2]
theorem Hl.lenC:∀{cs' cs:List Au},Hl cs' cs→lenC cs'=Sl.lenC cs
 |[],[],_=>rfl
 |[],_::_,h=>h.elim
 |_::_,[],h=>h.elim
 |_::_,_::_,h=>h.1.1
theorem Hl.fz:∀{cs' cs:List Au},Hl cs' cs→EY cs'=true→EY cs=true
 |[],[],_,h=>h
 |[],_::_,h,_=>h.elim
 |_::_,[],h,_=>h.elim
 |c'::_,c::_,h,hf=>by
  unfold EY at hf ⊢
  cases hc:c.isFz with
  |true=>rfl
  |false=>
   cases hc':c'.isFz with
   |true=>rw [h.1.2.2.1 hc'] at hc;cases hc
   |false=>rw [hc'] at hf;exact Hl.fz h.2 hf
theorem Al2 {Y:Hp} {n:Nat} {cs' cs:List Au} (hr:Hl cs' cs) (H:subs Y n cs):subs Y n cs':= λc hc i hi=>by
 obtain ⟨j,hj⟩:=kT hc
 obtain ⟨d,hd,hcd⟩:=hr.get hj
 exact hcd.2.2.2 Y i (H d (iV hd) i hi)
theorem Ef.congr {h:Hp} {a:Option Addr} {n:Nat} {cs' cs:List Au} (hr:Hl cs' cs) (H:Ef h a n cs):Ef h a n cs':=by
 refine ⟨λc hc=>?_, λi hi=>?_,H.2.2⟩
 ·obtain ⟨j,hj⟩:=kT hc
  obtain ⟨d,hd,hcd⟩:=hr.get hj
  rw [hcd.1];exact H.1 d (iV hd)
 ·obtain ⟨b,hb,hc⟩:=H.2.1 i hi
  refine ⟨b,hb, λj c hj=>?_⟩
  obtain ⟨d,hd,hcd⟩:=hr.get hj
  rw [hr.len,hcd.2.1 i]
  exact hc j d hd
theorem Art (k:IntKind) (xs:LI) (hk:k≠ .i8∧k≠ .i16):AoB (Ars k xs) (.ints k xs):=by
 cases k<;>first|exact ⟨rfl, λ_=>rfl, λh=>h, λ_ _ h=>h⟩|exact absurd rfl hk.1|exact absurd rfl hk.2
theorem L6:∀{ks:List (Option IntKind)} {cols:List Au},Ep ks cols=true→(∀rest:List (Cm σ),Hl (Dx ks (Df ks cols++rest)) cols)∧Dn (σ:=σ) (ks.map N7) (Df ks cols)=true∧(Df (σ:=σ) ks cols).length=ks.length
 |[],[],_=>⟨λ_=>trivial,rfl,rfl⟩
 |[],_::_,h=>by simp [Ep] at h
 |some k::ks,[],h=>by cases k<;>simp [Ep] at h
 |none::ks,[],h=>by simp [Ep] at h
 |some k::ks, .fz xs::cols,h=>by
  have key:∀k:IntKind,(k= .i8∨k= .i64)→Ep ks cols=true→(∀rest:List (Cm σ),Hl (Dx (some k::ks) (Df (some k::ks) (.fz xs::cols)++rest)) (.fz xs::cols))∧Dn (σ:=σ) ((some k::ks).map N7) (Df (some k::ks) (.fz xs::cols))=true∧(Df (σ:=σ) (some k::ks) (.fz xs::cols)).length=(some k::ks).length:= λk hk h=>by
   obtain ⟨h1,h2,h3⟩:=L6 h
   refine ⟨λrest=>?_,?_,?_⟩
   ·simp only [Df,kP,lE,jX,Dx,Hl]
    refine ⟨?_,h1 rest⟩
    rcases hk with rfl|rfl
    ·exact ⟨rfl, λ_=>rfl, λh=>h, λ_ _ _=>trivial⟩
    ·exact ⟨rfl, λ_=>rfl, λh=>(by cases h), λ_ _ _=>trivial⟩
   ·simp only [Df,kP,lE,iD,Dn,N7,Kd.fits,h2,oC]
   ·simp only [Df,kP,lE,jJ,h3]
  cases k<;>simp only [Ep] at h<;>first|exact key _ (.inl rfl) h|exact key _ (.inr rfl) h|cases h
 |some k::ks, .ints k' xs::cols,h=>by
  have h':((match decEq k k' with| .isTrue _=>true| .isFalse _=>false)&&((match decEq k .i8 with| .isTrue _=>false| .isFalse _=>true)&&(match decEq k .i16 with| .isTrue _=>false| .isFalse _=>true))&&Ep ks cols)=true:=by
   cases k<;>exact h
  simp only [iE] at h'
  obtain ⟨⟨h0,h8,h16⟩,hq⟩:=h'
  split at h0
  ·rename_i e _;subst e
   have hk:k≠ .i8∧k≠ .i16:=by
    refine ⟨?_,?_⟩
    ·split at h8
     ·cases h8
     ·rename_i e _;exact e
    ·split at h16
     ·cases h16
     ·rename_i e _;exact e
   obtain ⟨h1,h2,h3⟩:=L6 hq
   refine ⟨λrest=>?_,?_,?_⟩
   ·simp only [Df,kP,lE,jX,Dx,Hl]
    exact ⟨Art k _ hk,h1 rest⟩
   ·simp only [Df,kP,lE,iD,Dn,N7,Kd.fits,h2,oC]
   ·simp only [Df,kP,lE,jJ,h3]
  ·cases h0
 |some k::ks, .bools _::_,h=>by cases k<;>simp [Ep] at h
 |none::ks, .sls _::_,h=>by simp [Ep] at h
 |some k::ks, .sls xs::cols,h=>by
  have key:k= .i16∧Ep ks cols=true:=by
   cases k<;>simp only [Ep] at h<;>first|exact ⟨rfl,h⟩|cases h
  obtain ⟨rfl,hq⟩:=key
  obtain ⟨h1,h2,h3⟩:=L6 hq
  refine ⟨λrest=>?_,?_,?_⟩
  ·simp only [Df,kP,lE,jX,Dx,Hl]
   exact ⟨⟨rfl, λ_=>rfl, λh=>h, λ_ _ h=>h⟩,h1 rest⟩
  ·simp only [Df,kP,lE,iD,Dn,N7,Kd.fits,h2,oC]
  ·simp only [Df,kP,lE,jJ,h3]
 |some k::ks, .vals _::_,h=>by cases k<;>simp [Ep] at h
 |none::ks, .bools xs::cols,h=>by
  simp only [Ep] at h
  obtain ⟨h1,h2,h3⟩:=L6 h
  refine ⟨λrest=>?_,?_,?_⟩
  ·simp only [Df,kP,lE,jX,Dx,Hl]
   exact ⟨⟨rfl, λ_=>rfl, λh=>h, λ_ _ h=>h⟩,h1 rest⟩
  ·simp only [Df,kP,lE,iD,Dn,N7,Kd.fits,h2,oC]
  ·simp only [Df,kP,lE,jJ,h3]
 |none::ks, .ints _ _::_,h=>by simp [Ep] at h
 |none::ks, .vals _::_,h=>by simp [Ep] at h
 |none::ks, .fz _::_,h=>by simp [Ep] at h
theorem Aet {G Z:Hp}:∀{a b:List (Chunk σ)},Nb G Z a→Nb G Z b→Nb G Z (a++b)
 |[],_,_,h=>h
 |c::cs,b,h,h'=>⟨h.1,Aet h.2 h'⟩
theorem Nc:∀{a b:List (Chunk σ)},FY a=true→FY b=true→FY (a++b)=true
 |[],_,_,h=>h
 |c::cs,b,h,h'=>by
  cases c<;>simp only [FY,jX] at h ⊢ <;>first|exact Nc h h'|cases h
def KD:Value→FC σ→Bool
 | .pointer (some _), .obj _=>true
 |_,_=>false
theorem Aa3:∀{vs:List Value} {is:List (FC σ)},(jA KD vs is).all (!·)=true→CV.go vs is=[]
 |[],[],_=>by simp [CV.go]
 |[],_::_,_=>by simp [CV.go]
 |_::_,[],_=>by simp [CV.go]
 |v::vs,i::is,h=>by
  simp only [kK,List.all_cons,iE] at h
  have ih:=Aa3 h.2
  unfold CV.go
  split
  ·rename_i e1 e2
   simp only [jZ] at e1 e2
   obtain ⟨rfl,rfl⟩:=e1
   obtain ⟨rfl,rfl⟩:=e2
   simp [KD] at h
  ·rename_i e1 e2
   simp only [jZ] at e1 e2
   obtain ⟨rfl,rfl⟩:=e1
   obtain ⟨rfl,rfl⟩:=e2
   exact ih
  ·rfl
mutual
theorem Sh.Asi (ad:Nat→Ad):∀(s:Sh σ) (k j:Nat) (cs:List (Cm σ)),s.isArg=true→(s.tp ad k j cs).K.length=s.nK∧FY (s.tp ad k j cs).K=true∧∀K0 K2:List (Chunk σ),K0.length=k→BH (K0++(s.tp ad k j cs).K++K2) (s.tp ad k j cs).v (s.tp ad k j cs).p
 | .i _,k,j,cs,_=>⟨rfl,rfl, λ_ _ _=>A8⟩
 | .b,k,j,cs,_=>⟨rfl,rfl, λ_ _ _=>A8⟩
 | .fn _,k,j,cs,_=>⟨rfl,rfl, λ_ _ _=>A8⟩
 | .ro ks,k,j,cs,_=>⟨rfl,rfl, λK0 K2 hk=>Bg.2 ⟨.ro (ad j).a (lenC (Dx ks cs)) (ad j).c (Dx ks cs),by subst hk;rw [jP,iJ (jY _),nF];rfl,rfl⟩⟩
 | .agg l,k,j,cs,h=>by
   obtain ⟨h1,h2,h3⟩:=Aa4 ad l k j cs h
   refine ⟨h1,h2, λK0 K2 hk=>?_⟩
   simp only [Sh.tp]
   exact JO (h3 K0 K2 hk)
 | .skip,_,_,_,h=>by simp [Sh.isArg] at h
 | .ic _ _,_,_,_,h=>by simp [Sh.isArg] at h
 | .bc _,_,_,_,h=>by simp [Sh.isArg] at h
 | .tup _,_,_,_,h=>by simp [Sh.isArg] at h
 | .roc _,_,_,_,h=>by simp [Sh.isArg] at h
 | .own _ _,_,_,_,h=>by simp [Sh.isArg] at h
 | .new _ _,_,_,_,h=>by simp [Sh.isArg] at h
 | .obj _,_,_,_,h=>by simp [Sh.isArg] at h
 | .objc _ _,_,_,_,h=>by simp [Sh.isArg] at h
 | .objk _ _ _,_,_,_,h=>by simp [Sh.isArg] at h
 | .vc _,_,_,_,h=>by simp [Sh.isArg] at h
 | .nobj _,_,_,_,h=>by simp [Sh.isArg] at h
 | .box _ _,_,_,_,h=>by simp [Sh.isArg] at h
 | .boxc _ _ _,_,_,_,h=>by simp [Sh.isArg] at h
 | .objb _,_,_,_,h=>by simp [Sh.isArg] at h
 | .nxt _,_,_,_,h=>by simp [Sh.isArg] at h
 | .agn _,_,_,_,h=>by simp [Sh.isArg] at h
 | .mp _ _,_,_,_,h=>by simp [Sh.isArg] at h
 | .bm,_,_,_,h=>by simp [Sh.isArg] at h
 | .bmi,_,_,_,h=>by simp [Sh.isArg] at h
 | .agi _,_,_,_,h=>by simp [Sh.isArg] at h
 | .ago _,_,_,_,h=>by simp [Sh.isArg] at h
 | .agc _ _,_,_,_,h=>by simp [Sh.isArg] at h
 | .ags _ _,_,_,_,h=>by simp [Sh.isArg] at h
theorem Aa4 (ad:Nat→Ad):∀(l:List (Sh σ)) (k j:Nat) (cs:List (Cm σ)),IB l=true→(GK (DK ad l k j cs)).length=Fv l∧FY (GK (DK ad l k j cs))=true∧∀K0 K2:List (Chunk σ),K0.length=k→AQ (K0++GK (DK ad l k j cs)++K2) (QG (DK ad l k j cs)) (tpP (DK ad l k j cs))
 |[],_,_,_,_=>⟨rfl,rfl, λ_ _ _=>FW⟩
 |s::l,k,j,cs,h=>by
  simp only [IB,iE] at h
  obtain ⟨h1,h2,h3⟩:=Sh.Asi ad s k j cs h.1
  obtain ⟨g1,g2,g3⟩:=Aa4 ad l (k+s.nK) (j+s.nA) (cs.drop s.nC) h.2
  simp only [DK,GK,QG,tpP,Fv]
  refine ⟨by rw [jL,h1,g1],Nc h2 g2, λK0 K2 hk=>Eo ?_ ?_⟩
  ·have:=h3 K0 (GK (DK ad l (k+s.nK) (j+s.nA) (cs.drop s.nC))++K2) hk
   simpa [jP] using this
  ·have:=g3 (K0++(s.tp ad k j cs).K) K2 (by rw [jL,hk,h1])
   simpa [jP] using this
end
theorem Aeu {G Z:Hp}:∀vs:List Value,Ee (σ:=σ) G Z vs (Aa2 vs)
 |[]=>by simp [Aa2,Ee]
 |v::vs=>by simp only [Aa2,Ee];exact ⟨by simp [EC],Aeu vs⟩
theorem Aqm {a b:List Ad} {ad:Nat→Ad} {j:Nat} (h:∀(m:Nat) x,(a++b)[m]? =some x→ad (j+m)=x):(∀(m:Nat) x,a[m]? =some x→ad (j+m)=x)∧∀(m:Nat) x,b[m]? =some x→ad (j+a.length+m)=x:=by
 refine ⟨λm x hm=>h m x ?_, λm x hm=>?_⟩
 ·rw [iI (BD hm)];exact hm
 ·rw [mX];exact h _ x (by rw [iJ (by omega)];simpa using hm)
def AfX (G Z:Hp) (s:Sh σ) (v:Value) (i:FC σ) (cs:List (Cm σ)):Prop:=
 Dn s.kd cs=true∧cs.length=s.nC∧KD v i=false∧CV v i=[]∧(∀rest,s.bd (cs++rest))∧∃adl:List Ad,adl.length=s.nA∧∀(ad:Nat→Ad) (k j:Nat) (rest:List (Cm σ)),(∀(m:Nat) a,adl[m]? =some a→ad (j+m)=a)→(s.tp ad k j (cs++rest)).v=v∧Nb G Z (s.tp ad k j (cs++rest)).K
def P6 (G Z:Hp) (s:Sh σ):Prop:=∀(v:Value) (i:FC σ) (cs:List (Cm σ)),s.isArg=true→s.dA v i=some cs→EC G Z v i→AfX G Z s v i cs
theorem Aa5 {G Z:Hp}:∀(l:List (Sh σ)),(∀s∈l,P6 G Z s)→∀(vs:List Value) (is:List (FC σ)) (cs:List (Cm σ)),IB l=true→QH l vs is=some cs→Ee G Z vs is→
 Dn (IA l) cs=true∧cs.length=Lu l∧(jA KD vs is).all (!·)=true∧J7 (lI vs is)=[]∧(∀rest,UV l (cs++rest))∧∃adl:List Ad,adl.length=nAs l∧∀(ad:Nat→Ad) (k j:Nat) (rest:List (Cm σ)),(∀(m:Nat) a,adl[m]? =some a→ad (j+m)=a)→QG (DK ad l k j (cs++rest))=vs∧Nb G Z (GK (DK ad l k j (cs++rest)))
 |[],_,[],[],cs,_,h,_=>by
  simp only [QH,iA] at h;subst h
  exact ⟨rfl,rfl,rfl,rfl, λ_=>trivial,[],rfl, λ_ _ _ _ _=>⟨rfl,trivial⟩⟩
 |[],_,_::_,_,_,_,h,_=>by simp [QH] at h
 |[],_,[],_::_,_,_,h,_=>by simp [QH] at h
 |_::_,_,[],_,_,_,h,_=>by simp [QH] at h
 |_::_,_,_::_,[],_,_,h,_=>by simp [QH] at h
 |s::l,H,v::vs,i::is,cs,ha,h,hi=>by
  simp only [IB,iE] at ha
  simp only [Ee] at hi
  simp only [QH] at h
  split at h
  ·rename_i a b e1 e2
   injection h with h;subst h
   obtain ⟨h1,h2,h3,h4,h5,adl,h6,h7⟩:=H s (by simp) v i a ha.1 e1 hi.1
   obtain ⟨g1,g2,g3,g4,g5,adl',g6,g7⟩:=Aa5 l (λs hs=>H s (by simp [hs])) vs is b ha.2 e2 hi.2
   have ed:∀rest:List (Cm σ),(a++b++rest).drop s.nC=b++rest:= λrest=>by
    rw [jP,←h2];exact List.drop_left
   refine ⟨Aes h1 g1,by rw [jL,h2,g2,Lu],by simp only [kK,List.all_cons,h3,g3];rfl,by simp only [mL,J7,h4,g4];rfl, λrest=>⟨by rw [jP];exact h5 _,by rw [ed];exact g5 rest⟩,adl++adl',by rw [jL,h6,g6,nAs], λad k j rest hm=>?_⟩
   obtain ⟨m1,m2⟩:=Aqm hm
   rw [h6] at m2
   obtain ⟨x1,x2⟩:=h7 ad k j (b++rest) m1
   obtain ⟨y1,y2⟩:=g7 ad (k+s.nK) (j+s.nA) rest m2
   simp only [DK,QG,GK,ed]
   rw [jP]
   exact ⟨by rw [x1,y1],Aet x2 y2⟩
  ·cases h
theorem Aru {G Z:Hp} {l:List (Sh σ)} (H:∀s∈l,P6 G Z s):P6 G Z (.agg l):=by
 intro v i cs ha h hi
 have key:∀(vs:Array Value) is,v= .agg vs→QH l vs.toList is=some cs→Ee G Z vs.toList is→(CV v i=CV.go vs.toList is∨CV v i=[])→AfX G Z (.agg l) v i cs:= λvs is hv hq hj ho=>by
  subst hv
  obtain ⟨h1,h2,h3,_,h5,adl,h6,h7⟩:=Aa5 l H vs.toList is cs ha hq hj
  refine ⟨h1,h2,by simp [KD],?_,h5,adl,h6, λad k j rest hm=>?_⟩
  ·rcases ho with ho|ho
   ·rw [ho];exact Aa3 h3
   ·exact ho
  ·obtain ⟨g1,g2⟩:=h7 ad k j rest hm
   refine ⟨?_,g2⟩
   simp only [Sh.tp,g1]
 cases v with
 |agg vs=>cases i with
  |none=>exact key vs _ rfl (by simpa [Sh.dA] using h) (Aeu _) (.inr (by simp [CV]))
  |many is=>exact key vs is rfl (by simpa [Sh.dA] using h) (by simpa [EC] using hi) (.inl (by simp [CV]))
  |_=>simp [Sh.dA] at h
 |_=>simp [Sh.dA] at h
theorem AsE {G Z:Hp} {k:IntKind}:P6 (σ:=σ) G Z (.i k):=by
 intro v i cs _ h _
 cases v<;>simp only [Sh.dA] at h<;>first|cases h|skip
 rename_i k' x
 split at h
 ·rename_i e _;subst e
  injection h with h;subst h
  exact ⟨rfl,rfl,by simp [KD],by simp [CV], λ_=>trivial,[],rfl, λ_ _ _ _ _=>⟨rfl,trivial⟩⟩
 ·cases h
theorem AsF {G Z:Hp}:P6 (σ:=σ) G Z .b:=by
 intro v i cs _ h _
 cases v<;>simp only [Sh.dA] at h<;>first|cases h|skip
 exact ⟨rfl,rfl,by simp [KD],by simp [CV], λ_=>trivial,[],rfl, λ_ _ _ _ _=>⟨rfl,trivial⟩⟩
theorem MH:∀(ks:List (Option IntKind)) (rest:List (Cm σ)),(∀c∈Dx ks (Df ks []++rest),c.len=0)∧Dn (σ:=σ) (ks.map N7) (Df ks [])=true∧(Df (σ:=σ) ks []).length=ks.length
 |[],_=>⟨λc hc=>by simp [Dx] at hc,rfl,rfl⟩
 |some k::ks,rest=>by
  obtain ⟨h1,h2,h3⟩:=MH ks rest
  refine ⟨λc hc=>?_,?_,?_⟩
  ·simp only [Df,nP,oB,jX,Dx,iG] at hc
   rcases hc with rfl|hc
   ·cases k<;>rfl
   ·exact h1 c hc
  ·simp only [Df,nP,oB,iD,Dn,N7,Kd.fits,h2,oC]
  ·simp only [Df,nP,oB,jJ,h3]
 |none::ks,rest=>by
  obtain ⟨h1,h2,h3⟩:=MH ks rest
  refine ⟨λc hc=>?_,?_,?_⟩
  ·simp only [Df,nP,oB,jX,Dx,iG] at hc
   rcases hc with rfl|hc
   ·rfl
   ·exact h1 c hc
  ·simp only [Df,nP,oB,iD,Dn,N7,Kd.fits,h2,oC]
  ·simp only [Df,nP,oB,jJ,h3]
theorem Aev:∀{cols:List Au},(∀c∈cols,c.len=0)→lenC cols=0
 |[],_=>rfl
 |c::_,h=>h c (by simp)
theorem Aqn {G Z:Hp} {ks:List (Option IntKind)} {v:Value} {cs:List (Cm σ)} (h:(Sh.ro (σ:=σ) ks).dA v .none=some cs):AfX (σ:=σ) G Z (.ro ks) v .none cs:=by
 have no:∀{o:Option (List (Cm σ))},o=none→o=some cs→False:= λh1 h2=>by rw [h1] at h2;cases h2
 have key:v= .slice none 0 0∧cs=Df ks []:=by
  cases v with
  |slice a m c=>
   cases a with
   |some x=>exact (no rfl h).elim
   |none=>
    cases m with
    |succ m=>exact (no rfl h).elim
    |zero=>
     cases c with
     |succ c=>exact (no rfl h).elim
     |zero=>exact ⟨rfl,(Option.some.inj (show some (Df ks [])=some cs from h)).symm⟩
  |_=>exact (no rfl h).elim
 obtain ⟨rfl,rfl⟩:=key
 refine ⟨(MH ks []).2.1,by rw [(MH ks []).2.2];rfl,by simp [KD],by simp [CV], λrest=>?_,[Ad.z],rfl, λad k j rest hm=>?_⟩
 ·show lenC (Dx ks _)≤_
  rw [Aev (MH ks rest).1];decide
 ·have:=hm 0 _ rfl
  rw [oG] at this
  simp only [Sh.tp,this,Aev (MH ks rest).1]
  exact ⟨rfl,⟨⟨λc hc=>(MH ks rest).1 c hc, λi hi=>absurd hi (kB i),oE _⟩,(by cases EY (Dx ks (Df ks []++rest))<;>first|exact jY _|exact ⟨jY _, λc _ i hi=>absurd hi (kB i)⟩)⟩,trivial⟩
theorem Arv {G Z:Hp} {ks:List (Option IntKind)} {v:Value} {n:Nat} {cols:List Au} {cs:List (Cm σ)} (hks:(Sh.ro (σ:=σ) ks).isArg=true) (h:(Sh.ro (σ:=σ) ks).dA v (.row n cols)=some cs) (hi:EC (σ:=σ) G Z v (.row n cols)):AfX (σ:=σ) G Z (.ro ks) v (.row n cols) cs:=by
 have h:(bif Ep ks cols then some (Df ks cols) else none)=some cs:=by
  cases v<;>exact h
 cases hb:Ep ks cols with
 |false=>rw [hb] at h;cases h
 |true=>
  rw [hb] at h
  simp only [cond_true] at h
  injection h with h;subst h
  obtain ⟨h1,h2,h3⟩:=L6 (σ:=σ) hb
  simp only [EC] at hi
  obtain ⟨a,c,rfl,hr,hcap,hfz⟩:=hi
  have hl:lenC cols=n:=by
   cases cols with
   |nil=>cases ks<;>first|(simp [Sh.isArg] at hks;done)|(rename_i q _;cases q<;>first|(simp [Ep] at hb;done)|(rename_i k;cases k<;>simp [Ep] at hb))
   |cons c0 cr=>exact hr.1 c0 (by simp)
  refine ⟨h2,by rw [h3];rfl,by cases a<;>simp [KD],by cases a<;>simp [CV], λrest=>?_,[{Ad.z with a:=a,c:=c}],rfl, λad k j rest hm=>?_⟩
  ·show lenC (Dx ks _)≤_
   rw [(h1 rest).lenC,hl];exact hr.2.2
  ·have:=hm 0 _ rfl
   rw [oG] at this
   simp only [Sh.tp,this,(h1 rest).lenC,hl]
   have key:∀b,EY (Dx ks (Df ks cols++rest))=b→Ef (bif b then Z else G) a n (Dx ks (Df ks cols++rest))∧(bif b then n≤c∧subs Z n (Dx ks (Df ks cols++rest)) else n≤c):= λb hf=>by
    cases b with
    |true=>exact ⟨Ef.congr (h1 rest) (hfz ((h1 rest).fz hf)).1,hcap,Al2 (h1 rest) (hfz ((h1 rest).fz hf)).2⟩
    |false=>exact ⟨Ef.congr (h1 rest) hr,hcap⟩
   exact ⟨trivial,key _ rfl,trivial⟩
theorem Asj {G Z:Hp} {ks:List (Option IntKind)}:P6 (σ:=σ) G Z (.ro ks):=by
 intro v i cs hks h hi
 cases i with
 |none=>exact Aqn h
 |row n cols=>exact Arv hks h hi
 |_=>cases v<;>simp [Sh.dA] at h
theorem Asl {G Z:Hp} {f:Nat}:P6 (σ:=σ) G Z (.fn f):=by
 intro v i cs _ h _
 cases v with
 |func fn a b=>cases fn with
  |func g=>
   obtain ⟨a⟩:=a
   obtain ⟨b⟩:=b
   cases a<;>cases b<;>simp only [Sh.dA] at h<;>try (cases h;done)
   cases hb:iL f g with
   |false=>rw [hb] at h;cases h
   |true=>
    rw [hb] at h
    simp only [cond_true] at h
    injection h with h;subst h
    have:=iF hb
    subst this
    exact ⟨rfl,rfl,by simp [KD],by simp [CV], λ_=>trivial,[],rfl, λ_ _ _ _ _=>⟨rfl,trivial⟩⟩
  |_=>simp [Sh.dA] at h
 |_=>simp [Sh.dA] at h
theorem Sh.Al3 {G Z:Hp}:∀(s:Sh σ),P6 G Z s
 | .i k=>AsE
 | .b=>AsF
 | .fn f=>Asl
 | .ro ks=>Asj
 | .agg l=>Aru λs _=>Sh.Al3 s
 | .skip=> λ_ _ _ h=>by simp [Sh.isArg] at h
 | .ic _ _=> λ_ _ _ h=>by simp [Sh.isArg] at h
 | .bc _=> λ_ _ _ h=>by simp [Sh.isArg] at h
 | .tup _=> λ_ _ _ h=>by simp [Sh.isArg] at h
 | .roc _=> λ_ _ _ h=>by simp [Sh.isArg] at h
 | .own _ _=> λ_ _ _ h=>by simp [Sh.isArg] at h
 | .new _ _=> λ_ _ _ h=>by simp [Sh.isArg] at h
 | .obj _=> λ_ _ _ h=>by simp [Sh.isArg] at h
 | .objc _ _=> λ_ _ _ h=>by simp [Sh.isArg] at h
 | .objk _ _ _=> λ_ _ _ h=>by simp [Sh.isArg] at h
 | .vc _=> λ_ _ _ h=>by simp [Sh.isArg] at h
 | .nobj _=> λ_ _ _ h=>by simp [Sh.isArg] at h
 | .box _ _=> λ_ _ _ h=>by simp [Sh.isArg] at h
 | .boxc _ _ _=> λ_ _ _ h=>by simp [Sh.isArg] at h
 | .objb _=> λ_ _ _ h=>by simp [Sh.isArg] at h
 | .nxt _=> λ_ _ _ h=>by simp [Sh.isArg] at h
 | .agn _=> λ_ _ _ h=>by simp [Sh.isArg] at h
 | .mp _ _=> λ_ _ _ h=>by simp [Sh.isArg] at h
 | .bm=> λ_ _ _ h=>by simp [Sh.isArg] at h
 | .bmi=> λ_ _ _ h=>by simp [Sh.isArg] at h
 | .agi _=> λ_ _ _ h=>by simp [Sh.isArg] at h
 | .ago _=> λ_ _ _ h=>by simp [Sh.isArg] at h
 | .agc _ _=> λ_ _ _ h=>by simp [Sh.isArg] at h
 | .ags _ _=> λ_ _ _ h=>by simp [Sh.isArg] at h
end
section
open Go.RowKit
variable {σ:Type}
structure Ct (σ:Type) where
 ob:Option (Wr σ)
 pu:Bool
 ash:List (Sh σ)
 rs:Sh σ
def okd:Option (Wr σ)→List (Kd σ)
 |none=>[]
 |some w=>[.st w]
def AsG:Option (Wr σ)→List (Sh σ)
 |none=>[]
 |some w=>[.obj w]
@[reducible] def Ct.full (c:Ct σ):List (Sh σ):=AsG c.ob++c.ash
@[reducible] def Ct.AK (c:Ct σ):List (Kd σ):=IA c.full
@[reducible] def Ct.rob (c:Ct σ):Option (Wr σ):=bif c.pu then none else c.ob
@[reducible] def Ct.RK (c:Ct σ):List (Kd σ):=okd c.rob++c.rs.kd
def Al4 (ob:Option (Wr σ)) (ash:List (Sh σ)) (args:List (Value×FC σ)):Option (List (Cm σ)):=
 match ob with
 |none=>QH ash (args.map (·.1)) (args.map (·.2))
 |some w=>match args with
  |(.pointer (some _), .obj s)::r=>bif w.is s then (match QH ash (r.map (·.1)) (r.map (·.2)) with
   |some cs=>some (.st s::cs)
   |none=>none) else none
  |_=>none
def YL:Option (Wr σ)→List (Cm σ)→Option σ
 |none,_=>none
 |some w,cs=>some (w.inj ((I9 cs).stOf w))
def Al5:Option (Wr σ)→List (Cm σ)→List (Cm σ)
 |none,cs=>cs
 |some _,cs=>cs.tail
def Ct.outC (c:Ct σ) (r:Ty c.RK):List Value→Value:=c.rs.out (Al5 c.rob (Ku c.RK r))
def Ct.mksC (c:Ct σ) (r:Ty c.RK):List (Mk σ):=c.rs.mks (Al5 c.rob (Ku c.RK r))
def Ct.nwC (c:Ct σ) (p:Addr) (cs:List (Cm σ)) (r:Ty c.RK):List (Chunk σ):=
 match c.ob with
 |none=>[]
 |some w=>[.obj p (w.inj ((I9 (bif c.pu then cs else Ku c.RK r)).stOf w))]
def BU (c:Ct σ) (F:Kq c.AK (Ty c.RK)) (pre:Kq c.AK (List Prop)):Entry σ:= λargs=>
 match Al4 c.ob c.ash args with
 |some cs=>some ⟨Ag c.AK F cs, λr=>⟨Ag c.AK pre cs,YL c.rob (Ku c.RK r),c.mksC r,c.outC r,c.rs.outp⟩⟩
 |none=>none
def Asm (c:Ct σ) (K:List (Chunk σ)):List (Cm σ):=
 match c.rob,K with
 |some _, .obj _ s::_=>[.st s]
 |some _,_=>[.b false]
 |none,_=>[]
def Ct.retR (c:Ct σ) (v:Value) (p:Pr) (K:List (Chunk σ)):Ty c.RK:=YI c.RK (Asm c K++(c.rs.dc K v p).cs)
def AsH:Option (Wr σ)→List Nat
 |none=>[]
 |some _=>[0]
def Ct.retIs (c:Ct σ) (v:Value) (p:Pr) (K:List (Chunk σ)):List Nat:=AsH c.ob++JS 0 (c.rs.dc K v p).is
def Ct.retAnc (c:Ct σ) (v:Value) (p:Pr) (K:List (Chunk σ)):List Anc:=(c.rs.dc K v p).ad.map λa=>(a.o,a.b,a.c,a.a)
def Ct.retTm (c:Ct σ) (p0:Addr) (cs:List (Cm σ)) (v:Value) (p:Pr) (K:List (Chunk σ)):List (Chunk σ):=c.nwC p0 cs (c.retR v p K)++jA YC (c.mksC (c.retR v p K)) (c.retAnc v p K)
def AcA (K:List (Chunk σ)):List Nat→List (Chunk σ)→List (Option (Chunk σ))
 |i::is,c::cs=>(match K[i]? with
  |some d=>some (AfV c d)
  |none=>bif nilRow c then some (Ls c) else none)::AcA K is cs
 |_,_=>[]
def AcB:List (Chunk σ)→List (Option (Chunk σ))
 |[]=>[]
 |c::cs=>some (Ls c)::AcB cs
theorem Aa6 {K:List (Chunk σ)}:∀{is:List Nat} {cs:List (Chunk σ)},AcA K is cs=AcB cs→iL is.length cs.length=true→got K is cs
 |[],[],_,_=>trivial
 |[],_::_,_,h=>by simp at h
 |_::_,[],_,h=>by simp at h
 |i::is,c::cs,h,hl=>by
  simp only [AcA,AcB,jZ] at h
  refine ⟨?_,Aa6 h.2 (by simpa using hl)⟩
  cases hk:K[i]? with
  |none=>
   rw [hk] at h
   cases hn:nilRow c with
   |true=>exact .inr rfl
   |false=>rw [hn] at h;simp at h
  |some d=>rw [hk] at h;exact .inl (by simpa using h.1)
def Ct.roL (c:Ct σ) (p0:Addr) (cs:List (Cm σ)) (v:Value) (p:Pr) (K:List (Chunk σ)):Ob σ:=⟨[],v,[],AcA K (c.retIs v p K) (c.retTm p0 cs v p K)⟩
def Ct.roR (c:Ct σ) (p0:Addr) (cs:List (Cm σ)) (v:Value) (p:Pr) (K:List (Chunk σ)):Ob σ:=⟨[],c.outC (c.retR v p K) (jA Ac5 (c.mksC (c.retR v p K)) (c.retAnc v p K)),[],AcB (c.retTm p0 cs v p K)⟩
def Ct.rob_ (c:Ct σ) (p0:Addr) (cs:List (Cm σ)) (v:Value) (p:Pr) (K:List (Chunk σ)):Bool:=nodupB (c.retIs v p K)&&Na (c.mksC (c.retR v p K)) (c.retAnc v p K)&&iL (c.retIs v p K).length (c.retTm p0 cs v p K).length
theorem Ct.Aat {c:Ct σ} {p0:Addr} {cs:List (Cm σ)} {v:Value} {p:Pr} {K:List (Chunk σ)} (h:c.roL p0 cs v p K=c.roR p0 cs v p K) (hb:c.rob_ p0 cs v p K=true):
 DR (c.outC (c.retR v p K)) (c.nwC p0 cs (c.retR v p K)) (c.mksC (c.retR v p K)) v p K:=by
 simp only [Ct.rob_,iE] at hb
 simp only [Ct.roL,Ct.roR,Ob.mk.injEq] at h
 exact ⟨c.retAnc v p K,c.retIs v p K,JE hb.1.1,hb.1.2,h.2.1,Aa6 h.2.2.2 hb.2⟩
def P7 (p:Addr) (ad:Nat→Ad):Nat→Ad
 |0=>{ad 0 with p:=p}
 |j+1=>ad (j+1)
def soN:List Ab→List Ak→List (Chunk σ)→Ob σ:= λ_ _ _=>⟨[],undef,[],[]⟩
def Ct.treeM (c:Ct σ) (mk:List Nat) (P:Program) (T:List (Nat×Entry σ)) (I:List Nat) (fuel:Nat) (fn:Func) (B:Code) (p0:Addr) (cs:List (Cm σ)) (ad:Nat→Ad):Tree σ:=
 run P T I fuel B fn.results.toList fn.ntmps [.code []] (markL fn.ntmps mk (En 0 (J5 (DK (P7 p0 ad) c.full 0 0 cs)))) (GK (DK (P7 p0 ad) c.full 0 0 cs))
abbrev Ct.tree (c:Ct σ) (P:Program) (T:List (Nat×Entry σ)) (I:List Nat) (fuel:Nat) (fn:Func) (B:Code) (p0:Addr) (cs:List (Cm σ)) (ad:Nat→Ad):Tree σ:=c.treeM [] P T I fuel fn B p0 cs ad
abbrev SmT (c:Ct σ):=Ty c.RK×List (Ty c.RK)×List (Ob σ)×Bool×NT
def Ct.lhs (c:Ct σ) (p0:Addr) (cs:List (Cm σ)) (t:Tree σ) (β:BF) (γ:GF):SmT c:=
 (t.val c.retR (YI c.RK []) β γ,t.eqv c.retR (YI c.RK []) true β γ,t.obl (c.roL p0 cs) soN β γ,t.okb (c.rob_ p0 cs) (λ_ _ _=>true) β γ,t.nds β γ)
def Ct.rhs (c:Ct σ) (p0:Addr) (cs:List (Cm σ)) (t:Tree σ) (r:Ty c.RK) (N:NT) (β:BF) (γ:GF):SmT c:=
 (r,t.eqv c.retR (YI c.RK []) false β γ,t.obl (c.roR p0 cs) soN β γ,true,N)
theorem AcC:∀l:List (Tp σ),J5 l=lI (QG l) (tpP l)
 |[]=>rfl
 |t::r=>by simp only [J5,QG,tpP,mL,AcC r]
theorem AcD (ad:Nat→Ad):∀(l:List (Sh σ)) (k j:Nat) (cs:List (Cm σ)),(QG (DK ad l k j cs)).length=l.length
 |[],_,_,_=>rfl
 |s::l,k,j,cs=>by simp only [DK,QG,jJ,AcD ad l]
variable (D:Addr→σ→CZ)
theorem O9 {c:Ct σ} {mk:List Nat} {P:Program} {T:List (Nat×Entry σ)} (hT:BO D P T) {I:List Nat} {f:FuncId} {fn:Func} {B:Code} (hfn:P.funcs[f]? =some fn) (hmix:P.follows .mixedOrders=true) (hB:fn.body=some B)
 (ha:IB c.ash=true) (hl:jS c.full.length fn.ntmps=true) {F:Kq c.AK (Ty c.RK)} {pre:Kq c.AK (List Prop)} (fuel:Nat)
 (H:∀p0,EF c.AK λcs=>UV c.full cs→(∀p∈Ag c.AK pre cs,p)→∀ad E G,(c.treeM mk P T I fuel fn B p0 cs ad).holds (DR (c.outC (Ag c.AK F cs)) (c.nwC p0 cs (Ag c.AK F cs)) (c.mksC (Ag c.AK F cs)))
   (SW D P f (Post D E G (c.outC (Ag c.AK F cs)) (c.nwC p0 cs (Ag c.AK F cs)) (c.mksC (Ag c.AK F cs))) B fn.ntmps E G)):F9 D P f (BU c F pre):=by
 intro args d r hd hr
 unfold BU at hd
 split at hd
 rotate_left
 ·cases hd
 rename_i cs hcs
 injection hd with hd;subst hd;subst hr
 refine ⟨λK acs hacs=>?_, λhpre E G w hi hS=>?_⟩
 ·have:=Sh.Aku c.rs (Al5 c.rob (Ku c.RK (Ag c.AK F cs))) K [] [] acs hacs
  simp only [kZ] at this
  exact this
 dsimp only at hpre hS ⊢
 unfold Al4 at hcs
 cases hob:c.ob with
 |none=>
  rw [hob] at hcs
  dsimp only at hcs
  have hfull:c.full=c.ash:=by unfold Ct.full;rw [hob];rfl
  have hiv:Ee G E.z (args.map (·.1)) (args.map (·.2)):=by
   clear hcs hpre hS
   induction args with
   |nil=>simp [Ee]
   |cons x xs ih=>simp only [iD,Ee];exact ⟨hi x (by simp),ih λy hy=>hi y (by simp [hy])⟩
  obtain ⟨h1,h2,h3,h4,h5,adl,h6,h7⟩:=Aa5 (G:=G) (Z:=E.z) c.ash (λs _=>Sh.Al3 s) _ _ _ ha hcs hiv
  have hH:=(H (Ht adl 0).p).at cs (by unfold Ct.AK;rw [hfull];exact h1) (by rw [hfull];have:=h5 [];simpa using this) hpre (Ht adl) E G
  have hadP:P7 (Ht adl 0).p (Ht adl)=Ht adl:=by funext j;cases j<;>rfl
  obtain ⟨g1,g2⟩:=h7 (Ht adl) 0 0 [] (λm a hm=>by simp [Ht,iC,hm])
  simp only [kZ] at g1 g2
  obtain ⟨k1,k2,k3⟩:=Aa4 (Ht adl) c.ash 0 0 cs ha
  have hobjs:J7 args=[]:=by
   have:lI (args.map (·.1)) (args.map (·.2))=args:=by rw [List.zip_map'];simp
   rw [this] at h4;exact h4
  have hS0:Af D E G w ([]:List (Chunk σ)):=by have:=hS;simp only [RG,KF,hobjs] at this;exact this
  unfold Ct.treeM at hH
  rw [hadP,hfull] at hH
  have hn:c.nwC (Ht adl 0).p cs (Ag c.AK F cs)=[]:=by unfold Ct.nwC;rw [hob]
  rw [hn] at hH
  have:=Qb D (mk:=mk) hT (I:=I) hfn hmix hB (QG (DK (Ht adl) c.ash 0 0 cs)) (tpP (DK (Ht adl) c.ash 0 0 cs)) (by rw [AcD];rw [hfull] at hl;exact hl) (objs:=[]) (ros:=GK (DK (Ht adl) c.ash 0 0 cs)) (by simpa using k3 [] [] rfl) (by simpa using k2) g2 hS0
   (out:=c.outC (Ag c.AK F cs)) (nw:=[]) (rows:=c.mksC (Ag c.AK F cs)) fuel rfl (by rw [←AcC];simpa using hH)
  rw [g1] at this
  exact Jj D (pre:=Ag c.AK pre cs) (outp:=c.rs.outp) (by simp [MZ,KF,hobjs]) this
 |some wr=>
  rw [hob] at hcs
  dsimp only at hcs
  split at hcs
  rotate_left
  ·cases hcs
  rename_i p s rs
  cases his:wr.is s with
  |false=>rw [his] at hcs;cases hcs
  |true=>
   rw [his] at hcs
   simp only [cond_true] at hcs
   split at hcs
   rotate_left
   ·cases hcs
   rename_i cs' hcs'
   injection hcs with hcs;subst hcs
   have hfull:c.full= .obj wr::c.ash:=by unfold Ct.full;rw [hob];rfl
   have hiv:Ee G E.z (rs.map (·.1)) (rs.map (·.2)):=by
    have hi':∀x∈rs,EC G E.z x.1 x.2:= λx hx=>hi x (by simp [hx])
    clear hcs' hpre hS hi
    induction rs with
    |nil=>simp [Ee]
    |cons x xs ih=>simp only [iD,Ee];exact ⟨hi' x (by simp),ih λy hy=>hi' y (by simp [hy])⟩
   obtain ⟨h1,h2,h3,h4,h5,adl,h6,h7⟩:=Aa5 (G:=G) (Z:=E.z) c.ash (λs _=>Sh.Al3 s) _ _ _ ha hcs' hiv
   have hH:=(H p).at (.st s::cs') (by unfold Ct.AK;rw [hfull];simp only [IA,Sh.kd,jX,nI,Dn,Kd.fits,his,h1];rfl) (by
    rw [hfull]
    refine ⟨trivial,?_⟩
    have:=h5 []
    simpa [Sh.nC] using this) hpre (λj=>Ht adl (j-1)) E G
   have had:∀(m:Nat) a,adl[m]? =some a→P7 p (λj=>Ht adl (j-1)) (1+m)=a:= λm a hm=>by
    rw [Nat.add_comm];simp [P7,Ht,iC,hm]
   obtain ⟨g1,g2⟩:=h7 (P7 p (λj=>Ht adl (j-1))) 1 1 [] had
   simp only [kZ] at g1 g2
   obtain ⟨k1,k2,k3⟩:=Aa4 (P7 p (λj=>Ht adl (j-1))) c.ash 1 1 cs' ha
   have hinj:wr.inj (wr.prj s)=s:=wr.ok s his
   have htp:DK (P7 p (λj=>Ht adl (j-1))) c.full 0 0 (.st s::cs')=⟨.pointer (some p), .pt 0 .obj,[.obj p s]⟩::DK (P7 p (λj=>Ht adl (j-1))) c.ash 1 1 cs':=by
    rw [hfull]
    simp only [DK,Sh.tp,Sh.nK,Sh.nA,Sh.nC,kP,Cm.stOf,hinj,mY,mN,lD]
    rfl
   have hobjs:J7 ((kA (some p),FC.obj s)::rs)=[(p,s)]:=by
    have:lI (rs.map (·.1)) (rs.map (·.2))=rs:=by rw [List.zip_map'];simp
    rw [this] at h4;simp [J7,CV,h4]
   have hS0:Af D E G w [kR p s]:=by simpa [RG,KF,hobjs,Af,den] using hS
   unfold Ct.treeM at hH
   rw [htp] at hH
   have:=Qb D (mk:=mk) hT (I:=I) hfn hmix hB (.pointer (some p)::QG (DK (P7 p (λj=>Ht adl (j-1))) c.ash 1 1 cs')) (.pt 0 .obj::tpP (DK (P7 p (λj=>Ht adl (j-1))) c.ash 1 1 cs')) (by simp only [jJ,AcD];rw [hfull] at hl;exact hl) (objs:=[.obj p s]) (ros:=GK (DK (P7 p (λj=>Ht adl (j-1))) c.ash 1 1 cs'))
    (Eo (Bg.2 ⟨.obj p s,rfl,rfl⟩) (by simpa using k3 [.obj p s] [] rfl)) (Nc (a:=[.obj p s]) rfl k2) g2 hS0
    (out:=c.outC (Ag c.AK F (.st s::cs'))) (nw:=c.nwC p (.st s::cs') (Ag c.AK F (.st s::cs'))) (rows:=c.mksC (Ag c.AK F (.st s::cs'))) fuel rfl (by
      simp only [J5,GK,jX,nI] at hH
      rw [AcC] at hH
      exact hH)
   rw [g1] at this
   have hn:(c.nwC p (.st s::cs') (Ag c.AK F (.st s::cs'))).map (den D G)=MZ D ((kA (some p),FC.obj s)::rs) (YL c.rob (Ku c.RK (Ag c.AK F (.st s::cs')))):=by
    unfold MZ KF
    rw [hobjs]
    unfold Ct.nwC
    rw [hob]
    dsimp only
    cases hpu:c.pu with
    |true=>
     have:c.rob=none:=by unfold Ct.rob;rw [hpu];rfl
     rw [this]
     simp only [cond_true,kP,Cm.stOf,hinj,iD,kD,den,YL,Option.getD_none]
    |false=>
     have:c.rob=some wr:=by unfold Ct.rob;rw [hpu,hob];rfl
     rw [this]
     simp only [cond_false,iD,kD,den,YL,lM]
   exact Jj D (pre:=Ag c.AK pre (.st s::cs')) (outp:=c.rs.outp) hn this
theorem EL {c:Ct σ} {P:Program} {T:List (Nat×Entry σ)} (hT:BO D P T) {I:List Nat} {f:FuncId} {fn:Func} {B:Code} (hfn:P.funcs[f]? =some fn) (hmix:P.follows .mixedOrders=true) (hB:fn.body=some B)
 (ha:IB c.ash=true) (hl:jS c.full.length fn.ntmps=true) {F:Kq c.AK (Ty c.RK)} {pre:Kq c.AK (List Prop)} (fuel:Nat)
 (H:∀p0,EF c.AK λcs=>UV c.full cs→(∀p∈Ag c.AK pre cs,p)→∃(r:Ty c.RK) (N:NT),(∀ad β γ,c.lhs p0 cs (c.tree P T I fuel fn B p0 cs ad) β γ=c.rhs p0 cs (c.tree P T I fuel fn B p0 cs ad) r N β γ)∧N.holds∧r=Ag c.AK F cs):F9 D P f (BU c F pre):=by
 refine O9 D (mk:=[]) hT (I:=I) hfn hmix hB ha hl fuel λp0=>?_
 have key:∀{ks:List (Kd σ)} {p q:List (Cm σ)→Prop},(∀cs,p cs→q cs)→EF ks p→EF ks q:=by
  intro ks
  induction ks with
  |nil=>exact λh hp=>h [] hp
  |cons k ks ih=>exact λh hp a=>ih (λcs=>h _) (hp a)
 refine key (λcs hH hb hp ad E G=>?_) (H p0)
 obtain ⟨r,N,h1,h2,rfl⟩:=hH hb hp
 refine Tree.H9 (R:= λr v p K=>DR (c.outC r) (c.nwC p0 cs r) (c.mksC r) v p K) (lf:=c.retR) (d:=YI c.RK []) (roL:=c.roL p0 cs) (roR:=c.roR p0 cs) (L8:=soN) (L9:=soN) (rb:=c.rob_ p0 cs) (sb:= λ_ _ _=>true) (λv p K=>Ct.Aat) _ _
  (λβ γ=>congrArg (·.1) (h1 ad β γ)) (λβ γ=>congrArg (·.2.1) (h1 ad β γ)) (λβ γ=>congrArg (·.2.2.1) (h1 ad β γ)) (λβ γ=>congrArg (·.2.2.2.1) (h1 ad β γ)) (λβ γ=>?_)
 have:NT.holds _=NT.holds _:=congrArg (λx=>NT.holds x.2.2.2.2) (h1 ad β γ)
 dsimp only [Ct.lhs,Ct.rhs] at this
 rw [this];exact h2
end
section
open Go.RowKit
variable {σ:Type}
structure Hd (σ:Type) where
 ops:Option Nat
 p:List Nat
 td:List Ab
 slots:List Nat
 shs:List (Sh σ)
def Hd.tds (h:Hd σ):List Ab:=
 match h.ops with
 |none=> .code (0::h.p):: .again h.p::h.td
 |some i=>bif iL i 900 then .code h.p::h.td else .ops h.p i::h.td
def Hd.stp (h:Hd σ) (I:List Nat):List Nat:=
 match h.ops with
 |none=>I
 |some i=>I.filter λx=>!(iL x (AfT h.p i))
def AmZ:List Nat→List (Tp σ)→List Ak
 |s::ss,t::ts=>⟨s,none,t.v,t.p⟩::AmZ ss ts
 |_,_=>[]
def Hd.L (h:Hd σ) (ad:Nat→Ad) (cs:List (Cm σ)):List Ak:=AmZ h.slots (DK ad h.shs 0 0 cs)
def Hd.K (h:Hd σ) (ad:Nat→Ad) (cs:List (Cm σ)):List (Chunk σ):=GK (DK ad h.shs 0 0 cs)
@[reducible] def Hd.kd (h:Hd σ):List (Kd σ):=IA h.shs
def isNil (v:Value) (p:Pr):Bool:=
 match p with
 | .no=>match v with
   | .slice none 0 0=>true
   |_=>false
 |_=>false
def FD (k:Nat):Nat→List (Sh σ)→List (Chunk σ)→List (Chunk σ)
 |off, .own t ks::l,K=>match K[k]? with
  |some (.cells _ _ cs)=>match cs[off]? with
   |some x=>bif isNil x.1 x.2&&nilRow (σ:=σ) (.row none t 0 0 (Dx (σ:=σ) ks [])) then FD k (off+1) l (QD K k off++[.row none t 0 0 (Dx (σ:=σ) ks [])]) else FD k (off+1) l K
   |_=>FD k (off+1) l K
  |_=>FD k (off+1) l K
 |off, .ro ks::l,K=>bif AfW ks then (match K[k]? with
  |some (.cells _ _ cs)=>match cs[off]? with
   |some x=>match x.2 with
    | .pt k' .slice=>FD k (off+1) l (fzAt K k')
    |_=>bif isNil x.1 x.2 then FD k (off+1) l (fzAt (QD K k off++[.row none 0 0 0 [.ints .i64 []]]) (QD K k off).length) else FD k (off+1) l K
   |_=>FD k (off+1) l K
  |_=>FD k (off+1) l K) else FD k (off+1) l K
 |off,_::l,K=>FD k (off+1) l K
 |_,[],K=>K
def Al6 (s:Nat) (sh:Sh σ) (L:List Ak) (K:List (Chunk σ)):List Ak×List (Chunk σ):=
 match sh with
 | .own t ks=>match look L s with
   |some e=>bif isNil e.v e.p&&nilRow (σ:=σ) (.row none t 0 0 (Dx (σ:=σ) ks [])) then (Jp s K.length L,K++[.row none t 0 0 (Dx (σ:=σ) ks [])]) else (L,K)
   |_=>(L,K)
 | .ro ks=>bif AfW ks then (match look L s with
   |some e=>match e.p with
    | .pt k .slice=>(L,fzAt K k)
    |_=>bif isNil e.v e.p then (Jp s K.length L,fzAt (K++[.row none 0 0 0 [.ints .i64 []]]) K.length) else (L,K)
   |_=>(L,K)) else (L,K)
 | .box _ l=>match look L s with
   |some e=>match e.p with
    | .pt k (.cell 0)=>(L,FD k 0 l K)
    |_=>(L,K)
   |_=>(L,K)
 |_=>(L,K)
def Qc:List Nat→List (Sh σ)→List Ak→List (Chunk σ)→List Ak×List (Chunk σ)
 |s::ss,sh::shs,L,K=>match Al6 s sh L K with
  |(L',K')=>Qc ss shs L' K'
 |_,_,L,K=>(L,K)
def Arw (L:List Ak):List Nat→List Value
 |[]=>[]
 |s::r=>(match look L s with|some e=>e.v|none=>undef)::Arw L r
def Arx (L:List Ak):List Nat→List Pr
 |[]=>[]
 |s::r=>(match look L s with|some e=>e.p|none=> .no)::Arx L r
def AgL:List Nat→List Nat→Bool
 |[],[]=>true
 |a::r,b::s=>iL a b&&AgL r s
 |_,_=>false
def Hd.at (h:Hd σ) (td:List Ab):Bool:=
 match h.ops,td with
 |none, .code q::_=>AgL h.p q
 |none, .again q::_=>AgL h.p q
 |some i, .ops q k::_=>AgL h.p q&&iL i k
 |some i, .code q::_=>iL i 900&&AgL h.p q
 |_,_=>false
def Hd.leafTd (h:Hd σ) (td:List Ab):List Ab:=
 match h.ops,td with
 |some i,_=>bif iL i 900 then .code h.p::h.td else .ops h.p i::h.td
 |none, .again _::_=> .again h.p::h.td
 |none,_=> .code h.p::h.td
def Oc:List (Hd σ)→Nat→List Ab→Option (Nat×Hd σ)
 |[],_,_=>none
 |h::r,j,td=>bif h.at td then some (j,h) else Oc r (j+1) td
theorem Aew:∀{hs:List (Hd σ)} {m:Nat} {td:List Ab} {j:Nat} {h:Hd σ},Oc hs m td=some (j,h)→∃i,j=m+i∧hs[i]? =some h
 |[],_,_,_,_,h=>by simp [Oc] at h
 |h0::r,m,td,j,h,he=>by
  simp only [Oc] at he
  cases hb:h0.at td with
  |true=>rw [hb] at he;simp at he;exact ⟨0,by omega,by simp [he.2]⟩
  |false=>
   rw [hb] at he
   obtain ⟨i,h1,h2⟩:=Aew (by simpa using he)
   exact ⟨i+1,by omega,by simpa using h2⟩
def Hd.dec (h:Hd σ) (L:List Ak) (K:List (Chunk σ)):Dc σ:=dcs K h.shs (Arw L h.slots) (Arx L h.slots)
def hdL (h:Hd σ) (td:List Ab) (L:List Ak) (K:List (Chunk σ)):Ob σ:=
 ⟨td,undef,Ac7 (JS 0 (h.dec L K).is) (Pz h.slots L),(YF (JS 0 (h.dec L K).is) K).map some⟩
def hdR (h:Hd σ) (td:List Ab) (L:List Ak) (K:List (Chunk σ)):Ob σ:=
 ⟨h.leafTd td,undef,h.L (Ht (h.dec L K).ad) (h.dec L K).cs,(h.K (Ht (h.dec L K).ad) (h.dec L K).cs).map some⟩
def L8 (hs:List (Hd σ)) (td:List Ab) (L:List Ak) (K:List (Chunk σ)):Ob σ:=
 match Oc hs 0 td with
 |none=>⟨[],undef,[],[]⟩
 |some (_,h)=>match Qc h.slots h.shs L K with
  |(L',K')=>hdL h td L' K'
def L9 (hs:List (Hd σ)) (td:List Ab) (L:List Ak) (K:List (Chunk σ)):Ob σ:=
 match Oc hs 0 td with
 |none=>⟨[],undef,[],[]⟩
 |some (_,h)=>match Qc h.slots h.shs L K with
  |(L',K')=>hdR h td L' K'
def OA (hs:List (Hd σ)) (td:List Ab) (L:List Ak) (K:List (Chunk σ)):Bool:=
 match Oc hs 0 td with
 |none=>true
 |some (_,h)=>match Qc h.slots h.shs L K with
  |(L',K')=>nodupB (JS 0 (h.dec L' K').is)&&Dn h.kd (h.dec L' K').cs
def P8 (hs:List (Hd σ)) (Q:Nat→List (Cm σ)→Prop) (td:List Ab) (L:List Ak) (K:List (Chunk σ)):Prop:=
 match Oc hs 0 td with
 |none=>False
 |some (j,h)=>match Qc h.slots h.shs L K with
  |(L',K')=>Q j (h.dec L' K').cs
def hcode (B:Code):List (Hd σ)→List Code
 |[]=>[]
 |h::r=>(match h.ops with
  |none=>sub B h.p
  |some _=> .skip)::hcode B r
def GL (B:Code):List (Hd σ)→List Code
 |[]=>[]
 |h::r=>(match h.ops with
  |none=> .loop (sub B (0::h.p))
  |some _=> .skip)::GL B r
theorem UW {B:Code}:∀{hs:List (Hd σ)} {j:Nat} {h:Hd σ},hcode B hs=GL B hs→hs[j]? =some h→h.ops=none→Code.loop (sub B (0::h.p))=sub B h.p
 |[],_,_,_,h,_=>by simp at h
 |h0::r,0,h,he,hg,ho=>by
  simp at hg;subst hg
  simp only [hcode,GL,jZ] at he
  rw [ho] at he
  exact he.1.symm
 |h0::r,j+1,h,he,hg,ho=>by
  simp only [hcode,GL,jZ] at he
  exact UW he.2 (by simpa using hg) ho
variable (D:Addr→σ→CZ)
section
variable {P:Program} {f:FuncId} {R:Ending→World→Prop} {B:Code} {n:Nat} {E:Ev} {G:Hp} {td:List Ab}
theorem FO {k:Nat} {L:List Ak}:∀(l:List (Sh σ)) (off:Nat) (K:List (Chunk σ)),SW D P f R B n E G td L (FD k off l K)→SW D P f R B n E G td L K
 |[],_,_,h=>by simpa [FD] using h
 |s::l,off,K,h=>by
  cases s with
  |own t ks=>
   simp only [FD] at h
   split at h
   ·split at h
    ·rename_i x _
     cases hn:(isNil x.1 x.2&&nilRow (σ:=σ) (.row none t 0 0 (Dx (σ:=σ) ks []))) with
     |true=>rw [hn] at h;simp only [iE] at hn;exact SW.Arp D k off t _ hn.2 (FO l _ _ h)
     |false=>rw [hn] at h;exact FO l _ _ h
    ·exact FO l _ _ h
   ·exact FO l _ _ h
  |ro ks=>
   simp only [FD] at h
   cases hz:AfW ks with
   |false=>rw [hz] at h;exact FO l _ _ h
   |true=>
    rw [hz] at h
    simp only [cond_true] at h
    split at h
    ·split at h
     ·rename_i x _
      split at h
      ·exact SW.fzAt D _ (FO l _ _ h)
      ·cases hn:isNil x.1 x.2 with
       |true=>rw [hn] at h;exact SW.Arp D k off 0 [.ints .i64 []] rfl (SW.fzAt D _ (FO l _ _ h))
       |false=>rw [hn] at h;exact FO l _ _ h
     ·exact FO l _ _ h
    ·exact FO l _ _ h
  |_=>simp only [FD] at h;exact FO l _ _ h
theorem Aqo {s:Nat} {sh:Sh σ} {L L':List Ak} {K K':List (Chunk σ)} (he:Al6 s sh L K=(L',K')) (h:SW D P f R B n E G td L' K'):SW D P f R B n E G td L K:=by
 unfold Al6 at he
 split at he
 ·rename_i t ks
  split at he
  ·rename_i e _
   cases hn:(isNil e.v e.p&&nilRow (σ:=σ) (.row none t 0 0 (Dx (σ:=σ) ks []))) with
   |true=>rw [hn] at he;simp at he;rw [←he.1,←he.2] at h;simp only [iE] at hn;exact SW.nil D s t _ hn.2 h
   |false=>rw [hn] at he;simp at he;rw [←he.1,←he.2] at h;exact h
  ·simp at he;rw [←he.1,←he.2] at h;exact h
 ·rename_i ks
  cases hz:AfW ks with
  |false=>rw [hz] at he;simp at he;rw [←he.1,←he.2] at h;exact h
  |true=>
   rw [hz] at he
   simp only [cond_true] at he
   split at he
   ·rename_i e _
    split at he
    ·simp at he;rw [←he.1,←he.2] at h;exact SW.fzAt D _ h
    ·cases hn:isNil e.v e.p with
     |true=>rw [hn] at he;simp at he;rw [←he.1,←he.2] at h;exact SW.nil D s 0 [.ints .i64 []] rfl (SW.fzAt D _ h)
     |false=>rw [hn] at he;simp at he;rw [←he.1,←he.2] at h;exact h
   ·simp at he;rw [←he.1,←he.2] at h;exact h
 ·split at he
  ·split at he
   ·simp at he;rw [←he.1,←he.2] at h;exact FO D _ _ _ h
   ·simp at he;rw [←he.1,←he.2] at h;exact h
  ·simp at he;rw [←he.1,←he.2] at h;exact h
 ·simp at he;rw [←he.1,←he.2] at h;exact h
theorem Akv:∀{ss:List Nat} {shs:List (Sh σ)} {L L':List Ak} {K K':List (Chunk σ)},Qc ss shs L K=(L',K')→SW D P f R B n E G td L' K'→SW D P f R B n E G td L K
 |[],_,L,L',K,K',he,h=>by simp only [Qc,iP] at he;rw [←he.1,←he.2] at h;exact h
 |_::_,[],L,L',K,K',he,h=>by simp only [Qc,iP] at he;rw [←he.1,←he.2] at h;exact h
 |s::ss,sh::shs,L,L',K,K',he,h=>by
  simp only [Qc] at he
  cases e:Al6 s sh L K with
  |mk L1 K1=>rw [e] at he;exact Aqo D e (Akv he h)
theorem Ny {hs:List (Hd σ)} {Q:Nat→List (Cm σ)→Prop} {L:List Ak} {K:List (Chunk σ)} (hc:hcode B hs=GL B hs) (he:L8 hs td L K=L9 hs td L K) (hb:OA hs td L K=true) (hq:P8 hs Q td L K)
 (H:∀j h,hs[j]? =some h→∀cs,Dn h.kd cs=true→Q j cs→∀ad,SW D P f R B n E G h.tds (h.L ad cs) (h.K ad cs)):SW D P f R B n E G td L K:=by
 unfold L8 L9 at he
 unfold OA at hb
 unfold P8 at hq
 cases hf:Oc hs 0 td with
 |none=>rw [hf] at hq;exact hq.elim
 |some x=>
  obtain ⟨j,h⟩:=x
  rw [hf] at he hb hq
  dsimp only at he hb hq
  obtain ⟨i,hi,hg⟩:=Aew hf
  rw [lD] at hi
  subst hi
  cases en:Qc h.slots h.shs L K with
  |mk L1 K1=>
   rw [en] at he hb hq
   dsimp only at he hb hq
   simp only [iE] at hb
   simp only [hdL,hdR,Ob.mk.injEq] at he
   have hK:YF (JS 0 (h.dec L1 K1).is) K1=h.K (Ht (h.dec L1 K1).ad) (h.dec L1 K1).cs:=by
    have:=he.2.2.2
    exact (List.map_inj_right (λ_ _ h=>Option.some.inj h)).1 this
   have hsw:=H _ h hg (h.dec L1 K1).cs hb.2 hq (Ht (h.dec L1 K1).ad)
   refine Akv D en (SW.move D h.slots (JS 0 (h.dec L1 K1).is) (JE hb.1) he.2.2.1 hK ?_)
   rw [he.1]
   unfold Hd.leafTd
   unfold Hd.tds at hsw
   cases ho:h.ops with
   |some i=>rw [ho] at hsw;exact hsw
   |none=>
    rw [ho] at hsw
    have hcd:=UW hc hg ho
    split
    ·rename_i e;cases e
    ·exact SW.again D hsw
    ·exact SW.enter D hcd hsw
end
def lx (x y:Nat×Nat×Nat):Prop:=x.1<y.1∨(x.1=y.1∧(x.2.1<y.2.1∨(x.2.1=y.2.1∧x.2.2<y.2.2)))
theorem Aa7 {C:Nat×Nat×Nat→Prop} (h:∀x,(∀y,lx y x→C y)→C x):∀x,C x:=by
 have h3:∀a,(∀a',a'<a→∀b c,C (a',b,c))→∀b,(∀b',b'<b→∀c,C (a,b',c))→∀c,C (a,b,c):=by
  intro a ha b hb c
  induction c using oD with
  |_ c ih=>
   refine h _ λy hy=>?_
   obtain ⟨y1,y2,y3⟩:=y
   rcases hy with hy|⟨e,hy|⟨e2,hy⟩⟩
   ·exact ha _ hy _ _
   ·simp only at e hy;subst e;exact hb _ hy _
   ·simp only at e e2 hy;subst e;subst e2;exact ih _ hy
 have h2:∀a,(∀a',a'<a→∀b c,C (a',b,c))→∀b c,C (a,b,c):=by
  intro a ha b
  induction b using oD with
  |_ b ih=>exact h3 a ha b ih
 have h1:∀a b c,C (a,b,c):=by
  intro a
  induction a using oD with
  |_ a ih=>exact h2 a ih
 exact λx=>h1 x.1 x.2.1 x.2.2
abbrev SmW (σ:Type):=Prop×List (Ob σ)×Bool
def Ct.lhsW (c:Ct σ) (p0:Addr) (cs:List (Cm σ)) (hs:List (Hd σ)) (R:Ty c.RK→Prop) (Q:Nat→List (Cm σ)→Prop) (t:Tree σ) (β:BF) (γ:GF):SmW σ:=
 (t.wp (λv p K=>R (c.retR v p K)) (P8 hs Q) β γ,t.obl (c.roL p0 cs) (L8 hs) β γ,t.okb (c.rob_ p0 cs) (OA hs) β γ)
def Ct.rhsW (c:Ct σ) (p0:Addr) (cs:List (Cm σ)) (hs:List (Hd σ)) (t:Tree σ) (W:Prop) (β:BF) (γ:GF):SmW σ:=
 (W,t.obl (c.roR p0 cs) (L9 hs) β γ,true)
theorem MJ {c:Ct σ} {p0:Addr} {cs:List (Cm σ)} {hs:List (Hd σ)} {r0:Ty c.RK} {Q:Nat→List (Cm σ)→Prop} {t:Tree σ} {W:Prop} (h:∀β γ,c.lhsW p0 cs hs (λr=>r=r0) Q t β γ=c.rhsW p0 cs hs t W β γ) (hW:W)
 {P:Program} {f:FuncId} {R:Ending→World→Prop} {B:Code} {n:Nat} {E:Ev} {G:Hp} (hc:hcode B hs=GL B hs) (H:∀j h,hs[j]? =some h→∀x,Dn h.kd x=true→Q j x→∀ad,SW D P f R B n E G h.tds (h.L ad x) (h.K ad x)):
 t.holds (DR (c.outC r0) (c.nwC p0 cs r0) (c.mksC r0)) (SW D P f R B n E G):=by
 refine Tree.Ij (RQ:= λv p K=>c.retR v p K=r0) (SQ:=P8 hs Q) (roL:=c.roL p0 cs) (roR:=c.roR p0 cs) (L8:=L8 hs) (L9:=L9 hs) (rb:=c.rob_ p0 cs) (sb:=OA hs)
  (λv p K h1 h2 h3=>by have:=Ct.Aat h1 h2;rw [h3] at this;exact this) (λtd L K h1 h2 h3=>Ny D hc h1 h2 h3 H) t (λβ γ=>?_) (λβ γ=>congrArg (·.2.1) (h β γ)) (λβ γ=>congrArg (·.2.2) (h β γ))
 have:t.wp (λv p K=>c.retR v p K=r0) (P8 hs Q) β γ=W:=congrArg (·.1) (h β γ)
 rw [this];exact hW
def AgM (c:Ct σ) (P:Program) (T:List (Nat×Entry σ)) (I:List Nat) (fuel:Nat) (fn:Func) (B:Code) (p0:Addr) (cs:List (Cm σ)) (hs:List (Hd σ)) (r0:Ty c.RK) (Inv:Nat→List (Cm σ)→Prop) (ms:Nat→List (Cm σ)→Nat×Nat×Nat):List (Hd σ)→Nat→Prop
 |[],_=>True
 |h::r,j=>(EF h.kd λx=>Inv j x→∃W:Prop,(∀ad β γ,c.lhsW p0 cs hs (λr=>r=r0) (λj' x'=>Inv j' x'∧lx (ms j' x') (ms j x)) (run P T (h.stp I) fuel B fn.results.toList fn.ntmps h.tds (h.L ad x) (h.K ad x)) β γ=
   c.rhsW p0 cs hs (run P T (h.stp I) fuel B fn.results.toList fn.ntmps h.tds (h.L ad x) (h.K ad x)) W β γ)∧W)∧AgM c P T I fuel fn B p0 cs hs r0 Inv ms r (j+1)
theorem Aa8 {c:Ct σ} {P:Program} {T:List (Nat×Entry σ)} {I:List Nat} {fuel:Nat} {fn:Func} {B:Code} {p0:Addr} {cs:List (Cm σ)} {hs:List (Hd σ)} {r0:Ty c.RK} {Inv:Nat→List (Cm σ)→Prop} {ms:Nat→List (Cm σ)→Nat×Nat×Nat}:∀{l:List (Hd σ)} {m:Nat} {i:Nat} {h:Hd σ},AgM c P T I fuel fn B p0 cs hs r0 Inv ms l m→l[i]? =some h→
 EF h.kd λx=>Inv (m+i) x→∃W:Prop,(∀ad β γ,c.lhsW p0 cs hs (λr=>r=r0) (λj' x'=>Inv j' x'∧lx (ms j' x') (ms (m+i) x)) (run P T (h.stp I) fuel B fn.results.toList fn.ntmps h.tds (h.L ad x) (h.K ad x)) β γ=
  c.rhsW p0 cs hs (run P T (h.stp I) fuel B fn.results.toList fn.ntmps h.tds (h.L ad x) (h.K ad x)) W β γ)∧W
 |[],_,_,_,_,h=>by simp at h
 |h0::r,m,0,h,hs,hg=>by simp at hg;subst hg;exact hs.1
 |h0::r,m,i+1,h,hs,hg=>by
  have:=Aa8 hs.2 (i:=i) (by simpa using hg)
  rw [show m+1+i=m+(i+1) by omega] at this
  exact this
theorem LC {c:Ct σ} {P:Program} {T:List (Nat×Entry σ)} (hT:BO D P T) {I:List Nat} {f:FuncId} {fn:Func} {B:Code} (hfn:P.funcs[f]? =some fn) (hmix:P.follows .mixedOrders=true) (hB:fn.body=some B)
 (ha:IB c.ash=true) (hl:jS c.full.length fn.ntmps=true) {F:Kq c.AK (Ty c.RK)} {pre:Kq c.AK (List Prop)} (fuel:Nat)
 (H:∀p0,EF c.AK λcs=>UV c.full cs→(∀p∈Ag c.AK pre cs,p)→∃(hs:List (Hd σ)) (Inv:Nat→List (Cm σ)→Prop) (ms:Nat→List (Cm σ)→Nat×Nat×Nat),hcode B hs=GL B hs∧
   (∃W:Prop,(∀ad β γ,c.lhsW p0 cs hs (λr=>r=Ag c.AK F cs) Inv (c.tree P T I fuel fn B p0 cs ad) β γ=c.rhsW p0 cs hs (c.tree P T I fuel fn B p0 cs ad) W β γ)∧W)∧
   AgM c P T I fuel fn B p0 cs hs (Ag c.AK F cs) Inv ms hs 0):F9 D P f (BU c F pre):=by
 refine O9 D (mk:=[]) hT (I:=I) hfn hmix hB ha hl fuel λp0=>?_
 have key:∀{ks:List (Kd σ)} {p q:List (Cm σ)→Prop},(∀cs,p cs→q cs)→EF ks p→EF ks q:=by
  intro ks
  induction ks with
  |nil=>exact λh hp=>h [] hp
  |cons k ks ih=>exact λh hp a=>ih (λcs=>h _) (hp a)
 refine key (λcs hH hb hp ad E G=>?_) (H p0)
 obtain ⟨hs,Inv,ms,hc,⟨W,hW,hW'⟩,hst⟩:=hH hb hp
 have loop:∀x:Nat×Nat×Nat,∀j h,hs[j]? =some h→∀s,Dn h.kd s=true→Inv j s→ms j s=x→∀ad,SW D P f (Post D E G (c.outC (Ag c.AK F cs)) (c.nwC p0 cs (Ag c.AK F cs)) (c.mksC (Ag c.AK F cs))) B fn.ntmps E G h.tds (h.L ad s) (h.K ad s):=by
  refine Aa7 λx ih j h hg s hf hI hm ad=>?_
  have hq:=Aa8 hst hg
  rw [lD] at hq
  obtain ⟨W1,hW1,hW2⟩:=hq.at s hf hI
  exact SW.go D hT (I:=h.stp I) hfn hmix fuel rfl (MJ D (hW1 ad) hW2 hc λj' h' hg' s' hf' hI' ad'=>ih _ (by rw [←hm];exact hI'.2) j' h' hg' s' hf' hI'.1 rfl ad')
 exact MJ D (hW ad) hW' hc λj h hg s hf hI ad=>loop _ j h hg s hf hI rfl ad
theorem AgN {c:Ct σ} {P:Program} {f:FuncId} {F:Kq c.AK (Ty c.RK)} {pre:Kq c.AK (List Prop)} (h:F9 D P f (BU c F pre)) (args:List (Value×FC σ)) (cs:List (Cm σ)) (hc:Al4 c.ob c.ash args=some cs) (v:Value) (hv:c.outC (Ag c.AK F cs) []=v) (hm:c.mksC (Ag c.AK F cs)=[]) (ho:KF args=none)
 (hpre:∀p∈Ag c.AK pre cs,p) {E:Ev} {G:Hp} {w:World} (hi:∀x∈args,EC G E.z x.1 x.2) (hS:Sat E G w []):Calls P f (args.map (·.1)).toArray w (λen w'=>en= .returned v∧Sat E G w' []):=by
 have he:BU c F pre args=some ⟨Ag c.AK F cs, λr=>⟨Ag c.AK pre cs,YL c.rob (Ku c.RK r),c.mksC r,c.outC r,c.rs.outp⟩⟩:=by unfold BU;rw [hc]
 have:=(h args _ _ he rfl).2 hpre E G w hi (by simpa [RG,ho] using hS)
 refine this.mono λen w' ⟨acs,h1,h2,h3⟩=>?_
 dsimp only at h1 h2 h3
 rw [hm] at h1 h2 h3
 cases acs with
 |nil=>exact ⟨by rw [h2,←hv];rfl,by simpa [MZ,ho] using h3⟩
 |cons _ _=>exact h1.elim
abbrev tw_ (A:Prop):Prop:=A∧A
abbrev Ap (p A:Prop):Prop:=p∧(p→A)
abbrev AV (c:Bool) (A B:Prop):Prop:=(c=true→A)∧(c=false→B)
theorem nd_ {p:Prop} (h:p:=by first|assumption|omega|trivial|rfl|decide):p:=h
theorem Bo {x y:Nat×Nat×Nat} (h:lx x y:=by first|exact Or.inl (by omega)|exact Or.inr ⟨by omega,Or.inl (by omega)⟩|exact Or.inr ⟨by omega,Or.inr ⟨by omega,by omega⟩⟩|(unfold lx;dsimp only;omega)):lx x y:=h
end
end Go.Sl
