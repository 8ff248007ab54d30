/-
  DERIVED. Part 2 of the texts of this claim.
-/
import Derived.Test.YtinpgnomkmmfdaaGreatJSmallFlushes1
import Derived.Maps.AppendAt
import Derived.ProofKit
import Derived.Lib.SmallJoins
import Derived.Deep.Slices
import Derived.OpenShut
set_option linter.unusedSimpArgs false
set_option linter.unusedVariables false
open Option.some renaming injEq → iC
open List renaming getD_eq_getElem?_getD → iD, length → iF, mem_cons → iG, map_cons → iK, getElem?_eq_getElem → iN, getElem?_append_left → iO, getElem?_append_right → iQ, getElem?_map → iR, getElem?_set_self → iX, mem_singleton → iY, mem_of_getElem? → jC, getElem?_set_ne → jD, map_append → jG, zipWith → jI, getElem?_cons_zero → jJ, length_append → jM, getElem?_eq_none → jP, range → jQ, length_cons → jR, append_assoc → jX, cons_append → kA, getElem?_cons_succ → kD, length_map → kK, not_mem_nil → kL, getElem?_concat_length → kM, all_eq_true → kP, map_set → kW, mem_map → kZ, getElem?_take → lC, append_nil → lF, zipWith_cons_cons → lH, take_of_length_le → lI, nodup_cons → lK, headD_cons → lL, mem_filter → lS, mem_range → lU, map_nil → mA, length_take → mL, length_singleton → mN, zip → mP, tail_cons → mQ, getElem?_of_mem → mR, getElem?_drop → mS, singleton_append → mU, length_set → mY, any_eq_true → nE, nil_append → nL, ext_getElem? → nZ, map_congr_left → oA, map_map → oF, drop_zero → oH, drop_eq_getElem_cons → oJ, length_nil → oK, getElem?_range → oR, drop_succ_cons → oS, zip_cons_cons → pD, reverse_singleton → pE, mem_of_mem_take → pJ, headD_nil → pK, take_length → pN, nodup_range → pO, mem_or_eq_of_mem_set → pR, tail_nil → pV
open Bool renaming and_eq_true → iE, not_eq_true' → jO, not_true → kU, eq_iff_iff → lT, false_or → lY, false_eq_true → mK, and_self → nG, true_and → nR, and_false → oX, or_false → pG, true_or → pQ
open Go.Value renaming slice → iH, pointer → jB, okWide → qF
open Nat renaming eq_of_beq_eq_true → iJ, beq → iM, le_of_ble_eq_true → iU, lt_or_ge → jN, le_refl → kF, ble → kH, mul_le_mul_right → lP, zero_add → lV, le_trans → mE, not_lt_zero → mX, lt_of_lt_of_le → nD, add_assoc → nF, eq_zero_or_pos → nN, mul_comm → oC, blt → oD, add_zero → oE, zero_le → oM, succ_mul → oN, beq_refl → oO, strongRecOn → pW, mod_lt → pX, sub_self → pZ
open Int renaming mul_le_mul_of_nonneg_right → kJ, negSucc → lX, ofNat → mV
open Go.Sl.Col renaming fz → iS, sls → kG, len → lJ
open Option renaming map_some → iT, getD_some → lA
open Prod.mk renaming injEq → iV
open Go.Region renaming ready → iZ, wanted → jL, lexB → pY
open Go.Sl.Chunk renaming cells → jA, ro → jV, obj → kQ, row → nI
open Array renaming getD_eq_getD_getElem? → jK, getElem?_eq_getElem → kV, getElem?_eq_none → kY, getElem?_setIfInBounds → lZ, length_toList → nJ, toList_map → oG, replicate → oL, toArray_toList → pM
open Go.Sem renaming run_bind → jU, run_pure → kB
open Go.Sl.Pr renaming pt → jW
open Go.Region.linearise renaming go → kE
open List.cons renaming injEq → lE
namespace Go.Sl
section
open Go.RowKit
variable {σ:Type} (D:Addr→σ→Asn)
section
variable {P:Program} {f:Fq} {R:Ending→World→Prop} {n:Nat} {E:Ev} {G:Hp} {L:List Ent} {K:List (Chunk σ)} {o:Oper} {a:Act} {w:World}
theorem partVals_ok (hF:Fr n L K a):∀(parts:List (Nat×Operand)) (vals:List (Nat×Value)),partVals L parts=some vals→(parts.map λx=>(x.1,a.eval x.2))=vals
 |[],vals,h=>by simp only [partVals,iC] at h;subst h;rfl
 |(i,x)::r,vals,h=>by
  simp only [partVals] at h
  split at h
  ·rename_i v vs hv hr
   injection h with h;subst h
   simp only [iK]
   rw [val_sound (g:=none) hF trivial hv,partVals_ok hF r vs hr]
  ·cases h
theorem buildSlice_run {t e:TypeId} {len sz:Nat} {parts:Array (Nat×Value)} {ei:TypeInfo} {z:Value} {cells:Array Value} (hu:P.underlying t=some (.slice e)) (hs:sizeP P e=some sz) (hi:P.info? e=some ei) (hz:ei.zero=some z) (hb:len*sz≤16777216)
 (hf:Instr.fill (λi=>some (i*sz,sz)) ((Array.range (len*sz)).map ((bif iM (len*sz) 0 then #[] else z.cells)[· %(bif iM (len*sz) 0 then #[] else z.cells).size]!)) parts.toList=some cells):
 (Instr.buildSlice t len parts).run P w= .ok (.slice (some ⟨w.heap.size,0,none⟩) len len) (w.alloc (.cells cells e)):=by
 unfold Instr.buildSlice
 have n1:¬(len*sz>2^24):=by omega
 simp only [jU,run_underlying hu,Result.andThen_ok,sizeP_run hs,n1,if_false]
 cases hq:iM (len*sz) 0 with
 |true=>
  rw [hq] at hf
  rw [if_pos (iJ hq)]
  simp only [jU,kB,Result.andThen_ok]
  simp only [cond_true] at hf
  rw [hf]
  simp [newRow]
 |false=>
  rw [hq] at hf
  rw [if_neg (λh=>by rw [h] at hq;simp at hq)]
  simp only [jU,zeroValue,typeInfo,run_program,Result.andThen_ok,hi,hz,kB]
  simp only [cond_false] at hf
  rw [hf]
  simp [newRow]
theorem flat_set {cols cols':List Col} {len i off m:Nat} {vs cur:List Value} (hi:i<len) (hl:cols'.length=cols.length) (hm:vs.length=m) (hfit:off+m≤cols.length) (hcl:len*cols.length≤cur.length) (hcur:cur.take (len*cols.length)=flat cols len)
 (hset:∀(j:Nat) (c':Col),cols'[j]? =some c'→∃c,cols[j]? =some c∧∀m',c'.at m'=if m'=i∧off≤j∧j<off+vs.length then vs.getD (j-off) undef else c.at m'):
 (cur.take (i*cols.length+off)++vs++cur.drop (i*cols.length+off+m)).take (len*cols.length)=flat cols' len:=by
 have hi1:i*cols.length+cols.length≤len*cols.length:=by
  have:(i+1)*cols.length≤len*cols.length:=lP _ hi
  rw [oN] at this;exact this
 apply nZ
 intro k
 by_cases hk:k<len*cols.length
 ·have hs:0<cols.length:=by
   rcases nN cols.length with h|h
   ·rw [h] at hk;simp at hk
   ·exact h
  have hkd:k=k/cols.length*cols.length+k%cols.length:=by rw [oC];exact (Nat.div_add_mod k cols.length).symm
  have hj:k%cols.length<cols.length:=pX _ hs
  have hi':k/cols.length<len:=Nat.div_lt_of_lt_mul (by rw [oC];exact hk)
  generalize k/cols.length=i' at*
  generalize k%cols.length=j at*
  subst hkd
  obtain ⟨c2,hc'⟩:∃c2,cols'[j]? =some c2:=⟨_,iN (by omega)⟩
  obtain ⟨c,hc,hat⟩:=hset j _ hc'
  have hold:=flat_get hi' hc
  rw [←hcur,lC,if_pos hk] at hold
  have hnew:=flat_get hi' hc'
  rw [hl] at hnew
  rw [hnew,hat i',lC,if_pos hk]
  rcases Nat.lt_trichotomy i' i with h|h|h
  ·have:(i'+1)*cols.length≤i*cols.length:=lP _ h
   rw [oN] at this
   rw [if_neg (by omega),jX,iO (by simp;omega),lC,if_pos (by omega)]
   exact hold
  ·subst h
   by_cases hin:off≤j∧j<off+m
   ·rw [if_pos ⟨rfl,hin.1,by omega⟩,jX,iQ (by simp;omega),iO (by simp;omega)]
    simp only [mL]
    rw [show i'*cols.length+j-min (i'*cols.length+off) cur.length=j-off by omega,iD,iN (by omega:j-off<vs.length)]
    rfl
   ·rw [if_neg (by intro h;exact hin ⟨h.2.1,by omega⟩)]
    by_cases hlt:j<off
    ·rw [jX,iO (by simp;omega),lC,if_pos (by omega)]
     exact hold
    ·rw [iQ (by simp;omega),mS]
     simp only [jM,mL]
     rw [show i'*cols.length+off+m+(i'*cols.length+j-(min (i'*cols.length+off) cur.length+vs.length))=i'*cols.length+j by omega]
     exact hold
  ·have:(i+1)*cols.length≤i'*cols.length:=lP _ h
   rw [oN] at this
   rw [if_neg (by omega),iQ (by simp;omega),mS]
   simp only [jM,mL]
   rw [show i*cols.length+off+m+(i'*cols.length+j-(min (i*cols.length+off) cur.length+vs.length))=i'*cols.length+j by omega]
   exact hold
 ·rw [jP (by simp;omega),jP (by rw [flat_len,hl];omega)]
theorem den_made {G Y h:Hp} {b:Nat} {t:TypeId} {m cap:Nat} {cols:List Col} {cells:Array Value} (hh:h b=some (.cells cells t (0,0))) (h1:∀c∈cols,c.len=m) (h2:0<cols.length) (h3:m≤cap) (h4:cap≤maxLen) (h5:cells.size=cap*cols.length)
 (h6:cells.toList.take (m*cols.length)=flat cols m):den D G (.row (some b) t m cap cols) Y h:=⟨h1,h2,cells,hh,h3,h4,h5,h6⟩
theorem SatK.alloc_row {b:Nat} {t:TypeId} {m cap:Nat} {cols:List Col} {cells:Array Value} (hS:SatK D E G w K) (hb:b=w.heap.size) (h1:∀c∈cols,c.len=m) (h2:0<cols.length) (h3:m≤cap) (h4:cap≤maxLen) (h5:cells.size=cap*cols.length)
 (h6:cells.toList.take (m*cols.length)=flat cols m):SatK D E G (w.alloc (.cells cells t)) (K++[.row (some b) t m cap cols]):=by
 have:=Sat.alloc hS (.cells cells t)
 unfold SatK
 rw [jG]
 refine this.imp λi B hB=>?_
 rcases jN i (K.map (den D G)).length with hl|hl
 ·rw [iO hl] at hB
  exact ⟨B,by rw [iO hl];exact hB, λ_ _ h=>h⟩
 ·rw [iQ hl] at hB
  have hz:i-(K.map (den D G)).length=0:=by have:=lt_of_get hB;simp only [iK,mA,mN] at this;omega
  rw [hz] at hB
  simp only [iK,mA,jJ,iC] at hB
  refine ⟨pt w.heap.size (.cells cells t),?_,?_⟩
  ·rw [iQ hl,hz];rfl
  ·subst hB
   intro Y p hp
   subst hb
   exact den_made D hp h1 h2 h3 h4 h5 h6
theorem KOk.row {b:Option Nat} {t:TypeId} {m cap:Nat} {cols:List Col} (h:KOk K):KOk (K++[.row b t m cap cols]):=
 h.append λb t cs hm=>by simp at hm
theorem freshRows_holds {R':Value→Pr→List (Chunk σ)→Prop} {S':List Ab→List Ent→List (Chunk σ)→Prop}:∀{rows:List (Mk σ)} {k:List (Option Nat×Nat)→Tree σ},(freshRows rows k).holds R' S'→∀acs,acsOk rows acs→(k acs).holds R' S'
 |[],k,h,[],_=>h
 |[],k,h,_::_,hl=>hl.elim
 |_::_,k,h,[],hl=>by simp [acsOk] at hl
 | .row _ _::rs,k,h,(x,y)::acs,hl=>freshRows_holds (h x y) acs hl.2
 | .obj _::rs,k,h,(x,y)::acs,hl=>by
   obtain ⟨⟨b,hb⟩,hl2⟩:=hl
   injection hb with h1 h2
   subst h1;subst h2
   exact freshRows_holds (h b) acs hl2
theorem no_cells_rows (rows:List (Mk σ)) (acs:List (Option Nat×Nat)):∀b t cs,Chunk.cells (σ:=σ) b t cs ∉ jI sliceC rows acs:= λb t cs hm=>by
 obtain ⟨i,hi⟩:=mR hm
 rw [List.getElem?_zipWith] at hi
 cases h1:rows[i]? with
 |none=>simp [h1] at hi
 |some r=>
  cases h2:acs[i]? with
  |none=>simp [h1,h2] at hi
  |some ac=>
   obtain ⟨x,y⟩:=ac
   cases r with
   |row t cols=>cases hf:fzB cols<;>simp [h1,h2,sliceC,hf] at hi
   |obj s=>cases x<;>simp [h1,h2,sliceC] at hi
theorem run_append_none (t ty e:TypeId) (i:TypeInfo) (ht:P.underlying t=some (.slice e)) (hi:P.info? e=some i) (base:Option Addr) (n cap c:Nat) (hn:n≤cap):
 (Builtin.append_ #[t,t] ty #[.slice base n cap, .slice none 0 c]).run P w= .ok (.slice base n cap) w:=by
 cases base<;>simp [Builtin.append_,run_underlying ht,sizeOf,typeInfo,hi,Builtin.lenOf,Builtin.firstCells,hn,storeCells]
theorem den_src {h:Hp} {a:Option Addr} {m:Nat} {cols:List Col} (hR:RowAt h a m cols) {b:Addr} (ha:a=some b):∀(j:Nat) u,(flat cols m)[j]? =some u→cellOf h (b.add j)=some u:=by
 intro j u hj
 have hjl:=lt_of_get hj
 rw [flat_len] at hjl
 have hs:0<cols.length:=by
  rcases nN cols.length with h0|h0
  ·rw [h0] at hjl;simp at hjl
  ·exact h0
 have hkd:j=j/cols.length*cols.length+j%cols.length:=by rw [oC];exact (Nat.div_add_mod j cols.length).symm
 have hjm:j%cols.length<cols.length:=pX _ hs
 have hi':j/cols.length<m:=Nat.div_lt_of_lt_mul (by rw [oC];exact hjl)
 obtain ⟨c2,hc2⟩:∃c2,cols[j%cols.length]? =some c2:=⟨_,iN hjm⟩
 have hg:=flat_get hi' hc2
 rw [←hkd,hj] at hg
 injection hg with hg
 obtain ⟨b',hb',hcell⟩:=hR.2.1 _ hi'
 rw [ha] at hb';injection hb' with hb';subst hb'
 have:=hcell _ _ hc2
 rw [←hkd] at this
 rw [this,hg]
theorem append_step (hF:Fr n L K a) (hS:SatK D E G w K) {s x:Operand} {t e ty:TypeId} {ei:TypeInfo} {z:Value} {kd:Option Nat} {len m ks:Nat} {cols cols2 cols':List Col} (hu:P.underlying t=some (.slice e)) (hei:P.info? e=some ei) (hz:ei.zero=some z)
 (hd:appDest P L K e s=some (kd,len,cols)) (hs:appSrc L K x=some (ks,m,cols2)) (hne:neK kd ks=true) (happ:appCols cols cols2=some cols') (q1:ei.size=cols.length) (q1':ei.size=cols2.length) (q2:1≤ei.size) (q3:1≤ei.bytes) (q4:z.cells.size=ei.size) (q5:cols2.all colB=true)
 (hbytes:(len+m)*ei.bytes≤140737488355328):
 ∃a' cap w',(Builtin.append_ #[t,t] ty #[a.eval s,a.eval x]).run P w= .ok (sliceVal a' (len+m) cap) w'∧SatK D E G w' (killK K kd++[.row a' e (len+m) cap cols']):=by
 have hpx:=prov_sound (x:=x) (g:=none) hF trivial
 have hps:=prov_sound (x:=s) (g:=none) hF trivial
 have hlm:len+m≤maxLen:=by
  have:(len+m)*1≤(len+m)*ei.bytes:=Nat.mul_le_mul_left _ q3
  unfold maxLen;omega
 obtain ⟨ad,c,hex,hR⟩:∃ad c,a.eval x= .slice ad m c∧(∃p:Hp,p.sub w∧RowAt p ad m cols2):=by
  unfold appSrc at hs
  split at hs
  ·rename_i b0 n0 c0 k hv hp
   rw [hp,pOk_pt] at hpx
   obtain ⟨ch,hk,hc⟩:=hpx
   split at hs
   ·rename_i a1 t1 n1 cap1 cols1 hk'
    rw [hk'] at hk;injection hk with hk;subst hk
    simp only [iC,iV] at hs
    obtain ⟨rfl,rfl,rfl⟩:=hs
    obtain ⟨_,p,_,hp,hsub⟩:=hS.get D hk'
    exact ⟨_,_,hc,p,hsub,den_row D hp⟩
   ·rename_i a1 n1 cap1 cols1 hk'
    rw [hk'] at hk;injection hk with hk;subst hk
    simp only [iC,iV] at hs
    obtain ⟨rfl,rfl,rfl⟩:=hs
    obtain ⟨Y,p,hy,hp,_⟩:=hS.get D hk'
    exact ⟨_,_,hc,_,ro_sub hy hS.G,hp.1⟩
   ·cases hs
  ·cases hs
 obtain ⟨p2,hsub2,hR2⟩:=hR
 have hnews:∀b,ad=some b→∀(j:Nat) u,(flat cols2 m)[j]? =some u→w.cell? (b.add j)=some u:= λb hb j u hj=>cell_of_sub hsub2 (den_src hR2 hb j u hj)
 obtain ⟨a1,cap1,hes,hcl,hc0,hown,hkk,hrow⟩:∃a1 cap1,a.eval s=sliceVal a1 len cap1∧(∀c∈cols,c.len=len)∧len≤cap1∧w.ownsRow 0 e ei.size (sliceVal a1 len cap1) len (flat cols len)∧
  (∀k,kd=some k→∃t1,K[k]? =some (.row a1 t1 len cap1 cols))∧(∀g,a1=some g→∃k,kd=some k):=by
  unfold appDest at hd
  split at hd
  ·rename_i hp hv
   split at hd
   ·rename_i cols0 hcols
    simp only [iC,iV] at hd
    obtain ⟨rfl,rfl,rfl⟩:=hd
    refine ⟨none,0,val_sound (g:=none) hF trivial hv,colsT_len 4 e _ hcols,kF _,?_,(λk hk=>by cases hk),(λg hg=>by cases hg)⟩
    exact World.ownsRow_nil w 0 e ei.size
   ·cases hd
  ·rename_i k b0 n0 c0 hp hv
   rw [hp,pOk_pt] at hps
   obtain ⟨ch,hk,hc⟩:=hps
   split at hd
   ·rename_i a1 t1 n1 cap1 cols1 hk'
    rw [hk'] at hk;injection hk with hk;subst hk
    cases hte:iM t1 e with
    |false=>rw [hte] at hd;simp at hd
    |true=>
     rw [hte] at hd
     simp only [cond_true,iC,iV] at hd
     obtain ⟨rfl,rfl,rfl⟩:=hd
     have hte':=iJ hte
     subst hte'
     obtain ⟨_,p,_,hp,hsub⟩:=hS.get D hk'
     obtain ⟨d1,d2,d3⟩:=hp
     refine ⟨a1,cap1,hc,d1,?_,?_,(λk' hk''=>by injection hk'' with e';subst e';exact ⟨_,hk'⟩), λg _=>⟨_,rfl⟩⟩
     ·cases a1 with
      |none=>simp only at d3;omega
      |some g=>obtain ⟨_,_,h,_⟩:=d3;exact h
     ·cases a1 with
      |none=>
       obtain ⟨rfl,rfl⟩:=d3
       exact World.ownsRow_nil w 0 t1 ei.size
      |some g=>
       obtain ⟨cur,e1,e2,e3,e4,e5⟩:=d3
       exact ⟨by rw [flat_len,q1], .inr ⟨g,cap1,cur,rfl,oM _,hsub _ _ e1,e2,e3,by rw [q1];exact e4,by rw [q1];exact e5⟩⟩
   ·cases hd
  ·cases hd
 obtain ⟨f1,f2,f3,f4,f5⟩:=appCols_spec happ hcl hR2.1
 have hflat:flat cols' (len+m)=flat cols len++flat cols2 m:=flat_append f4 f5
 have close:∀(a':Option Nat) (cap:Nat) (w':World),w'.ownsRow 0 e ei.size (sliceVal a' (len+m) cap) (len+m) (flat cols' (len+m))→w.grownBy w' a1→(a'=a1∨a'=some w.heap.size)→(a'=none→len+m=0∧cap=0)→
  SatK D E G w' (killK K kd++[.row a' e (len+m) cap cols']):=by
  intro a' cap w' ho hg hloc hnil
  have hcells:∀g,a'=some g→∃cur,w'.heap[g]? =some (.cells cur e (0,0))∧len+m≤cap∧cap≤maxLen∧cur.size=cap*ei.size∧cur.toList.take ((len+m)*ei.size)=flat cols' (len+m):= λg hg'=>by
   subst hg'
   rcases ho.2 with ⟨h0,_⟩|⟨g',cap',cur,h0,_,h1,h2,h3,h4,h5⟩
   ·simp [sliceVal] at h0
   ·simp only [sliceVal,iT,Value.slice.injEq,iC,Addr.mk.injEq] at h0
    obtain ⟨⟨rfl,_⟩,_,rfl⟩:=h0
    exact ⟨cur,h1,h2,h3,h4,h5⟩
  unfold SatK
  rw [jG]
  refine Sat.grown hS kd a1 a' hg (λg hg'=>?_) hloc (λg hg'=>?_) _ (λY p hp=>?_) _ ?_ (λi A hA=>?_)
  ·obtain ⟨k,hk⟩:=hrow g hg'
   obtain ⟨t1,hk1⟩:=hkk k hk
   refine ⟨k,_,hk,map_den_get D hk1, λY p hp=>?_⟩
   subst hg'
   obtain ⟨_,_,cur,h1,_⟩:=hp
   rw [h1];simp
  ·obtain ⟨cur,h1,_⟩:=hcells g hg';exact lt_of_heap h1
  ·refine ⟨f3,by omega,?_⟩
   cases a' with
   |none=>exact hnil rfl
   |some g=>
    obtain ⟨cur,h1,h2,h3,h4,h5⟩:=hcells g rfl
    exact ⟨cur,by rw [hp g rfl,h1],h2,h3,by rw [f1,←q1];exact h4,by rw [f1,←q1];exact h5⟩
  ·cases kd<;>simp [killK]
  ·cases kd with
   |none=>exact .inr ⟨by simp,hA⟩
   |some k=>
    simp only [killK,kW] at hA
    by_cases hki:k=i
    ·subst hki
     have hlt:k<(K.map (den D G)).length:=by have:=lt_of_get hA;simpa using this
     rw [iX hlt] at hA
     injection hA with hA;subst hA
     exact .inl λ_ _=>trivial
    ·rw [jD hki] at hA
     exact .inr ⟨λe=>hki (by injection e with e;exact e.symm),hA⟩
 rw [hes,hex]
 cases ad with
 |none=>
  have hm0:m=0:=by
   rcases nN m with h0|h0
   ·exact h0
   ·obtain ⟨b,hb,_⟩:=hR2.2.1 0 h0;cases hb
  subst hm0
  refine ⟨a1,cap1,w,?_,close a1 cap1 w ?_ ⟨rfl,rfl,rfl,kF _, λ_ _ _=>rfl⟩ (.inl rfl) λh=>?_⟩
  ·exact run_append_none t ty e ei hu hei _ len cap1 c hc0
  ·rw [hflat];simpa [flat] using hown
  ·subst h
   rcases hown.2 with ⟨h1,h2⟩|⟨g,_,_,h1,_⟩
   ·simp only [sliceVal,Value.slice.injEq] at h1;exact ⟨h2,h1.2.2⟩
   ·simp [sliceVal] at h1
 |some b=>
  obtain ⟨v',w',hrun,hown',hgrow,hnil,hloc⟩:=run_append_own_at (P:=P) w 0 t ty e ei z ei.size ei.bytes hu hei hz rfl rfl q4 (by omega) (sliceVal a1 len cap1) len (flat cols len) hown b m c (flat cols2 m) (by rw [flat_len,q1']) (hnews b rfl) (colB_one q5) hlm hbytes (oM _)
  rw [←hflat] at hown'
  have hob:∀(a:Option Nat) n c,(sliceVal a n c).ownBlock=a:= λa n c=>by cases a<;>rfl
  obtain ⟨a',cap,rfl,hnn⟩:∃a' cap,v'=sliceVal a' (len+m) cap∧(a'=none→len+m=0∧cap=0):=by
   rcases hown'.2 with ⟨rfl,h0⟩|⟨g,cap,_,rfl,_⟩
   ·exact ⟨none,0,by rw [h0];rfl, λ_=>⟨h0,rfl⟩⟩
   ·exact ⟨some g,cap,rfl, λh=>by cases h⟩
  rw [hob,hob] at hloc
  rw [hob] at hgrow
  exact ⟨a',cap,w',hrun,close a' cap w' hown' hgrow hloc hnn⟩
theorem Sat0.moved {E:World} {G:Hp} {w:World} {As:List Asn0} (h:Sat0 E G w As) {i:Nat} {A B T:Asn0} (hi:As[i]? =some A) (hB:∀k:Hp,A k→B k) (hT:∀k:Hp,T k):Sat0 E G w (As.set i T++[B]):=by
 obtain ⟨h1,h2,o,h3,h4⟩:=h
 have hil:=lt_of_get hi
 refine ⟨h1,h2, λb=>if o b=some i then some As.length else if o b=some As.length then none else o b, λb j hb=>?_, λj C hj=>?_⟩
 ·dsimp only at hb
  split at hb
  ·rename_i e;exact h3 b i e
  ·split at hb
   ·cases hb
   ·exact h3 b j hb
 ·rcases jN j As.length with hlt|hge
  ·rw [iO (by simpa using hlt)] at hj
   by_cases hij:i=j
   ·subst hij
    rw [iX hlt] at hj
    injection hj with hj
    subst hj
    exact hT _
   ·rw [jD hij] at hj
    have:part w (λb=>if o b=some i then some As.length else if o b=some As.length then none else o b) j=part w o j:=part_congr λb=>⟨⟨λhb=>by
     split at hb
     ·injection hb with hb;omega
     ·split at hb
      ·cases hb
      ·exact hb, λhb=>by
     rw [if_neg (λe=>by rw [hb] at e;injection e with e;omega),if_neg (λe=>by rw [hb] at e;injection e with e;omega)]
     exact hb⟩, λ_=>rfl⟩
    rw [this];exact h4 j C hj
  ·rw [iQ (by simpa using hge)] at hj
   have hj0:j=As.length:=by
    rcases Nat.eq_or_lt_of_le hge with h'|h'
    ·exact h'.symm
    ·rw [jP (by simp;omega)] at hj;cases hj
   subst hj0
   simp at hj
   subst hj
   have:part w (λb=>if o b=some i then some As.length else if o b=some As.length then none else o b) As.length=part w o i:=part_congr λb=>⟨⟨λhb=>by
    split at hb
    ·assumption
    ·split at hb
     ·cases hb
     ·rename_i e;exact absurd hb e, λhb=>by rw [if_pos hb]⟩, λ_=>rfl⟩
   rw [this];exact hB _ (h4 i A hi)
theorem Sat.moved {E:Ev} {G:Hp} {w:World} {As:List Asn} (h:Sat E G w As) {i:Nat} {A B T:Asn} (hi:As[i]? =some A) (hB:∀Y k:Hp,A Y k→B Y k) (hT:∀Y k:Hp,T Y k):Sat E G w (As.set i T++[B]):=by
 obtain ⟨Z,hz,hw,h0⟩:=h
 refine Sat.of hz hw h0.2.1 ?_
 rw [jG,kW]
 exact h0.moved (map_get hi) (λk hk Y hY=>hB Y k (hk Y hY)) λk Y _=>hT Y k
theorem Sat0.added {E:World} {G:Hp} {w:World} {As:List Asn0} (h:Sat0 E G w As) {B:Asn0} (hB:∀k:Hp,B k):Sat0 E G w (As++[B]):=by
 obtain ⟨h1,h2,o,h3,h4⟩:=h
 refine ⟨h1,h2,o,h3, λj C hj=>?_⟩
 rcases jN j As.length with hlt|hge
 ·rw [iO hlt] at hj
  exact h4 j C hj
 ·rw [iQ hge] at hj
  have:=iY.1 (jC hj)
  rw [this];exact hB _
theorem Sat.added {E:Ev} {G:Hp} {w:World} {As:List Asn} (h:Sat E G w As) {B:Asn} (hB:∀Y k:Hp,B Y k):Sat E G w (As++[B]):=by
 obtain ⟨Z,hz,hw,h0⟩:=h
 refine Sat.of hz hw h0.2.1 ?_
 rw [jG]
 exact h0.added λk Y _=>hB Y k
theorem Sat.derive {E:Ev} {G:Hp} {w:World} {As:List Asn} (h:Sat E G w As) {i:Nat} {A B:Asn} (hi:As[i]? =some A) (hB:∀Y k k':Hp,A Y k→B Y k'):Sat E G w (As++[B]):=by
 obtain ⟨Z,hz,hw,h0⟩:=h
 refine Sat.of hz hw h0.2.1 ?_
 rw [jG]
 refine h0.added (B:=upZ Z B) λk=>?_
 obtain ⟨_,_,o,_,hoA⟩:=h0
 exact λY hY=>hB Y _ k (hoA i _ (map_get hi) Y hY)
theorem fzB_take (n:Nat):∀cols:List Col,fzB (cols.map (takeCol n))=fzB cols
 |[]=>rfl
 |c::cs=>by
  have:=fzB_take n cs
  cases c<;>simp only [iK,takeCol,fzB,Col.isFz,cond_true,cond_false]<;>exact this
theorem takeCol_spec (n:Nat) (c:Col):(takeCol n c).len=min n c.len∧∀i,i<n→(takeCol n c).at i=c.at i:=by
 have key:∀{α:Type} (xs:List α) (d:α) (i:Nat),i<n→(xs.take n).getD i d=xs.getD i d:= λxs d i hi=>by
  rw [iD,iD,lC,if_pos hi]
 cases c<;>exact ⟨by simp [takeCol,Col.len], λi hi=>by simp only [takeCol,Col.at];rw [key _ _ i hi]⟩
theorem fzB_drop (n:Nat):∀cols:List Col,fzB (cols.map (dropCol n))=fzB cols
 |[]=>rfl
 |c::cs=>by
  have:=fzB_drop n cs
  cases c<;>simp only [iK,dropCol,fzB,Col.isFz,cond_true,cond_false]<;>exact this
theorem dropCol_spec (n:Nat) (c:Col):(dropCol n c).len=c.len-n∧∀i,(dropCol n c).at i=c.at (n+i):=by
 have key:∀{α:Type} (xs:List α) (d:α) (i:Nat),(xs.drop n).getD i d=xs.getD (n+i) d:= λxs d i=>by
  rw [iD,iD,mS]
 cases c<;>exact ⟨by simp [dropCol,Col.len], λi=>by simp only [dropCol,Col.at];rw [key]⟩
theorem subs_take {Y:Hp} {m i:Nat} {cols:List Col} (h:subs Y m cols) (hi:i≤m):subs Y i (cols.map (takeCol i)):=by
 intro c hc j hj
 obtain ⟨d,hd,rfl⟩:=kZ.1 hc
 have hs:=h d hd j (by omega)
 cases d<;>first|trivial|skip
 rename_i xs
 have e:(xs.take i).getD j 0=xs.getD j 0:=by rw [iD,iD,lC,if_pos hj]
 simp only [takeCol,Col.sub,e]
 exact hs
theorem subs_drop {Y:Hp} {m i:Nat} {cols:List Col} (h:subs Y m cols):subs Y (m-i) (cols.map (dropCol i)):=by
 intro c hc j hj
 obtain ⟨d,hd,rfl⟩:=kZ.1 hc
 have hs:=h d hd (i+j) (by omega)
 cases d<;>first|trivial|skip
 rename_i xs
 have e:(xs.drop i).getD j 0=xs.getD (i+j) 0:=by rw [iD,iD,mS]
 simp only [dropCol,Col.sub,e]
 exact hs
theorem slChs_ok {G Y k':Hp} {n i:Nat} (hi:i<n):∀{cols:List Col} {chs:List (Chunk σ)},subs Y n cols→slChs i cols=some chs→(∀B∈chs.map (den D G),B Y k')∧(∀c∈chs,∃a n cp cl,c=Chunk.ro a n cp cl)∧chs.length=cols.length∧
 ∀(K0:List (Chunk σ)),psOk (K0++chs) (cols.map (·.at i)) (slPrs K0.length cols)
 |[],_,_,h=>by
  simp only [slChs,iC] at h;subst h
  exact ⟨λB hB=>(by cases hB), λc hc=>(by cases hc),rfl, λ_=>(by simp [psOk,slPrs])⟩
 |c::cs,chs,hs,h=>by
  cases c<;>simp only [slChs] at h<;>first|cases h|skip
  rename_i xs
  split at h
  ·rename_i l hl
   injection h with h;subst h
   obtain ⟨h1,h2,h3,h4⟩:=slChs_ok (k':=k') (G:=G) hi (λd hd=>hs d (by simp [hd])) hl
   have hc:=hs (.sls xs) (by simp) i hi
   refine ⟨λB hB=>?_, λc hc=>?_,by simp [h3], λK0=>?_⟩
   rotate_left 2
   ·simp only [iK,slPrs,psOk]
    refine ⟨pOk_pt.2 ⟨.ro (slA (xs.getD i 0)) (slR (xs.getD i 0)).length (slC (xs.getD i 0)) [.fz (slR (xs.getD i 0))],by rw [iQ (kF _),pZ];rfl,rfl⟩,?_⟩
    have:=h4 (K0++[.ro (slA (xs.getD i 0)) (slR (xs.getD i 0)).length (slC (xs.getD i 0)) [.fz (slR (xs.getD i 0))]])
    simpa [jX] using this
   ·simp only [iK,iG] at hB
    rcases hB with rfl|hB
    ·exact ⟨hc.1,hc.2,subs_fz⟩
    ·exact h1 B hB
   ·rcases iG.1 hc with rfl|hc
    ·exact ⟨_,_,_,_,rfl⟩
    ·exact h2 c hc
  ·cases h
theorem Sat.derives {E:Ev} {G:Hp} {w:World}:∀{As Bs:List Asn} {i:Nat} {A:Asn},Sat E G w As→As[i]? =some A→(∀Y k k':Hp,A Y k→∀B∈Bs,B Y k')→Sat E G w (As++Bs)
 |As,[],_,_,h,_,_=>by rw [lF];exact h
 |As,B::Bs,i,A,h,hi,hB=>by
  have h1:=Sat.derive h hi λY k k' ha=>hB Y k k' ha B (by simp)
  have h2:=Sat.derives (As:=As++[B]) (Bs:=Bs) h1 (by rw [iO (lt_of_get hi)];exact hi) λY k k' ha C hC=>hB Y k k' ha C (by simp [hC])
  rw [jX] at h2;exact h2
theorem takeCols_at {n:Nat} {cols:List Col} {i:Nat} (hi:i<n):(cols.map (takeCol n)).map (·.at i)=cols.map (·.at i):=by
 rw [oF]
 exact oA λc _=>(takeCol_spec n c).2 i hi
theorem flat_take {cols:List Col} {i:Nat}:∀{m:Nat},i≤m→(flat cols m).take (i*cols.length)=flat cols i
 |0,h=>by
  have:i=0:=by omega
  subst this;simp [flat]
 |m+1,h=>by
  by_cases he:i=m+1
  ·subst he;rw [lI];rw [flat_len];exact kF _
  ·rw [flat_succ,List.take_append_of_le_length (by rw [flat_len];exact lP _ (by omega)),flat_take (by omega)]
theorem den_take {G Y h:Hp} {ra:Option Nat} {te:TypeId} {m cap i:Nat} {cols:List Col} (hi:i≤m) (H:den D G (.row ra te m cap cols) Y h):den D G (.row ra te i cap (cols.map (takeCol i))) Y h:=by
 obtain ⟨h1,h2,h3⟩:=H
 refine ⟨λc hc=>?_,by simpa using h2,?_⟩
 ·obtain ⟨d,hd,rfl⟩:=kZ.1 hc
  rw [(takeCol_spec i d).1,h1 d hd];omega
 ·cases ra with
  |none=>simp only at h3 ⊢;omega
  |some b=>
   simp only at h3 ⊢
   obtain ⟨cs,h4,h5,h6,h7,h8⟩:=h3
   refine ⟨cs,h4,by omega,h6,by simpa using h7,?_⟩
   rw [kK,flat_congr (cols:=cols) λj hj=>takeCols_at hj,←flat_take hi,←h8,List.take_take,Nat.min_eq_left (lP _ hi)]
theorem rowAt_take {h:Hp} {a:Option Addr} {m i:Nat} {cols:List Col} (hi:i≤m) (H:RowAt h a m cols):RowAt h a i (cols.map (takeCol i)):=by
 obtain ⟨h1,h2,h3⟩:=H
 refine ⟨λc hc=>?_, λj hj=>?_,by omega⟩
 ·obtain ⟨d,hd,rfl⟩:=kZ.1 hc
  rw [(takeCol_spec i d).1,h1 d hd];omega
 ·obtain ⟨b,hb,hc⟩:=h2 j (by omega)
  refine ⟨b,hb, λk c hk=>?_⟩
  rw [iR] at hk
  cases hck:cols[k]? with
  |none=>rw [hck] at hk;cases hk
  |some d=>
   rw [hck] at hk
   simp only [iT,iC] at hk
   subst hk
   rw [kK,(takeCol_spec i d).2 j hj]
   exact hc k d hck
theorem rowAt_drop {h:Hp} {a:Option Addr} {m cap i sz:Nat} {cols:List Col} (hm:m≤cap) (hs:sz=cols.length) (H:RowAt h a m cols):RowAt h (dropA a cap i sz) (m-i) (cols.map (dropCol i)):=by
 subst hs
 obtain ⟨h1,h2,h3⟩:=H
 refine ⟨λc hc=>?_, λj hj=>?_,by omega⟩
 ·obtain ⟨d,hd,rfl⟩:=kZ.1 hc
  rw [(dropCol_spec i d).1,h1 d hd]
 ·obtain ⟨b,hb,hc⟩:=h2 (i+j) (by omega)
  have he:iM cap i=false:=by
   cases hh:iM cap i with
   |false=>rfl
   |true=>have:=iJ hh;omega
  refine ⟨b.add (i*cols.length),by unfold dropA;rw [he,hb];rfl, λk c hk=>?_⟩
  rw [iR] at hk
  cases hck:cols[k]? with
  |none=>rw [hck] at hk;cases hk
  |some d=>
   rw [hck] at hk
   simp only [iT,iC] at hk
   subst hk
   rw [kK,(dropCol_spec i d).2 j,Addr.add_add,show i*cols.length+(j*cols.length+k)=(i+j)*cols.length+k by rw [Nat.add_mul];omega]
   exact hc k d hck
theorem slice_runL {P:Program} {o:Oper} {a:Act} {w:World} {t e:TypeId} {x lx:Operand} {ad:Option Addr} {m cap sz:Nat} {k:IntKind} {i:Int} (hop:o.op= .slice t x (some lx) none none) (hu:P.underlying t=some (.slice e)) (hs:sizeP P e=some sz)
 (hv:a.eval x= .slice ad m cap) (hi:a.eval lx= .int k i) (h0:0≤i) (h1:i≤(m:Int)):(execOp a.eval o).run P w= .ok (.value (.slice (dropA ad cap i.toNat sz) (m-i.toNat) (cap-i.toNat))) w:=by
 have hel:P.elem t=e:=by simp [Program.elem,hu]
 have hu':P.underlying t=some (.slice (P.elem t)):=by rw [hel];exact hu
 have hr:=run_slice_l (w:=w) t ad m cap hu' k i h0 h1
 have hsz:=sizeP_run hs w
 rw [hel,hsz] at hr
 simp only [Result.andThen_ok] at hr
 have hadd:sliced ad i.toNat m cap sz= .slice (dropA ad cap i.toNat sz) (m-i.toNat) (cap-i.toNat):=by
  unfold sliced dropA
  by_cases he:cap=i.toNat
  ·have:iM cap i.toNat=true:=by rw [←he];simp
   rw [if_pos he,this];rfl
  ·have:iM cap i.toNat=false:=by
    cases hh:iM cap i.toNat with
    |false=>rfl
    |true=>exact absurd (iJ hh) he
   rw [if_neg he,this];rfl
 rw [hadd] at hr
 simp only [execOp,hop,jU,Option.map_none,iT,hv,hi,run_sliceAt_slice w t _ _ _ _ hu',hr,Result.andThen_ok,kB]
theorem slice_run {P:Program} {o:Oper} {a:Act} {w:World} {t e:TypeId} {x hx:Operand} {ad:Option Addr} {m cap sz:Nat} {k:IntKind} {i:Int} (hop:o.op= .slice t x none (some hx) none) (hu:P.underlying t=some (.slice e)) (hs:sizeP P e=some sz)
 (hv:a.eval x= .slice ad m cap) (hi:a.eval hx= .int k i) (h0:0≤i) (h1:i≤(cap:Int)):(execOp a.eval o).run P w= .ok (.value (.slice ad i.toNat cap)) w:=by
 have hel:P.elem t=e:=by simp [Program.elem,hu]
 have hu':P.underlying t=some (.slice (P.elem t)):=by rw [hel];exact hu
 have hr:=run_slice_h (w:=w) t ad m cap hu' k i h0 h1
 have hsz:=sizeP_run hs w
 rw [hel,hsz] at hr
 simp only [Result.andThen_ok] at hr
 have hadd:sliced ad 0 i.toNat cap sz= .slice ad i.toNat cap:=by
  unfold sliced
  cases ad with
  |none=>simp
  |some b=>simp [Addr.add]
 rw [hadd] at hr
 simp only [execOp,hop,jU,Option.map_none,iT,hv,hi,run_sliceAt_slice w t _ _ _ _ hu',hr,Result.andThen_ok,kB]
def CKeep (K K':List (Chunk σ)):Prop:=∀(k b:Nat) (t:TypeId) (cs:List (Value×Pr)),K[k]? =some (.cells b t cs)→K'[k]? =some (.cells b t cs)
theorem CKeep.append (K B:List (Chunk σ)):CKeep K (K++B):= λk b t cs h=>by rw [iO (lt_of_get h)];exact h
theorem CKeep.set {K:List (Chunk σ)} {i:Nat} {c c':Chunk σ} (h:K[i]? =some c) (hc:∀b t cs,c≠ .cells b t cs):CKeep K (K.set i c'):= λk b t cs hk=>by
 by_cases hik:i=k
 ·subst hik
  rw [h] at hk;injection hk with hk
  exact absurd hk (hc b t cs)
 ·rw [jD hik];exact hk
theorem CKeep.trans {K K' K'':List (Chunk σ)} (h:CKeep K K') (h':CKeep K' K''):CKeep K K'':= λk b t cs hk=>h' k b t cs (h k b t cs hk)
theorem appDest_row {P:Program} {L:List Ent} {K:List (Chunk σ)} {e:TypeId} {x:Operand} {k n:Nat} {cols:List Col} (h:appDest P L K e x=some (some k,n,cols)):∃a t m cap cs,K[k]? =some (.row a t m cap cs):=by
 unfold appDest at h
 split at h
 ·split at h
  ·simp at h
  ·cases h
 ·split at h
  ·rename_i a t n0 cap cols0 hk
   cases hb:iM t e with
   |false=>rw [hb] at h;cases h
   |true=>
    rw [hb] at h
    simp only [cond_true,iC,iV] at h
    obtain ⟨rfl,rfl,rfl⟩:=h
    exact ⟨_,_,_,_,_,hk⟩
  ·cases h
 ·cases h
theorem lenOf_run {L:List Ent} {K:List (Chunk σ)} {o:Oper} {v:Value} (hF:Fr n L K a) (h:lenOf P L o=some v):(∀w,(execOp a.eval o).run P w= .ok (.value v) w)∧∃k x,v= .int k x:=by
 unfold lenOf at h
 split at h
 ·rename_i hop
  cases hb:o.op.operands.all (λx=>(val none L x).isSome) with
  |false=>rw [hb] at h;cases h
  |true=>
   rw [hb,cond_true] at h
   split at h
   ·rename_i k x he
    injection h with h;subst h
    exact ⟨λw=>evalS_exec (g:=none) hF trivial (λcs b e=>by rw [hop] at e;cases e) hb he w,k,x,rfl⟩
   ·cases h
 ·cases h
theorem estep_sound {T:List (Nat×Entry σ)} (hT:TableOk D P T) {ops:Array Oper} {i:Nat} {rest:List Nat} {td:List Item} {k:Value→Pr→List (Chunk σ)→Tree σ} {t:Tree σ} {R':Value→Pr→List (Chunk σ)→Prop} {S':List Ab→List Ent→List (Chunk σ)→Prop}
 {ext:Nat→List (Value×Pr)→List (Chunk σ)→Option (Tree σ)}
 (hext:∀g args prs K t,ext g (mP args prs) K=some t→∀w,psOk K args prs→KOk K→SatK D E G w K→∀Q:Value→Pr→List (Chunk σ)→Prop,t.holds Q (λ_ _ _=>False)→CallsX P g args.toArray w λen w'=>∃v p K',en= .returned v∧Q v p K'∧KExt K K'∧KOk K'∧pOk K' v p∧SatK D E G w' K')
 (ho:ops[i]? =some o) (hw:jL o (yielded ops a.tmps)=true) (g2:∀d,o.dst=some d→d<n) (hF:Fr n L K a) (hS:SatK D E G w K) (h:estep P T ext L K o k=some t) (ht:t.holds R' S')
 (H:∀v pr K',(k v pr K').holds R' S'→KExt K K'→(((∀t x y,o.op≠ .store t x y)∧∀g a K,ext g a K=none)→CKeep K K')→∀a' w',(∃u,a'=a.put o.dst u)→Fr n (addEnt o.dst none v pr L) K' a'→SatK D E G w' K'→WT P f R (.inRegion ops rest::td) a' w'):WT P f R (.inRegion ops (i::rest)::td) a w:=by
 have g3:∀(d c:Nat) (b:Bool),o.dst=some d→(none:Option (Nat×Bool))=some (c,b)→c≠d:= λ_ _ _ _ h=>by cases h
 unfold estep at h
 split at h
 ·
  rename_i t0 hop
  split at h
  ·rename_i kk vk hks
   injection h with h;subst h
   have hrun:(execOp a.eval o).run P w= .ok (.value (.map (some w.heap.size))) (w.alloc (.map #[] 0)):=by
    simp only [execOp,hop,jU,Option.map_none]
    rfl
   refine WT.op_run ho hw (.inl hrun) (H _ _ _ (ht w.heap.size) (KExt.append K _) (λ_=>CKeep.append K _) _ _ ⟨_,rfl⟩ ?_ ?_)
   ·have hk:KOk (K++[Chunk.map w.heap.size kk vk mnil]):=hF.kok.append λb t cs hm=>by simp at hm
    exact (hF.ext (KExt.append K _) hk).put g2 g3 λ_=>⟨rfl,pOk_pt.2 ⟨_,kM,rfl⟩⟩
   ·have:=Sat.alloc hS (.map #[] 0)
    unfold SatK
    rw [jG]
    refine this.imp λi B hB=>?_
    rcases jN i (K.map (den D G)).length with hl|hl
    ·rw [iO hl] at hB
     exact ⟨B,by rw [iO hl];exact hB, λ_ _ h=>h⟩
    ·rw [iQ hl] at hB
     have hz:i-(K.map (den D G)).length=0:=by have:=lt_of_get hB;simp only [iK,mA,mN] at this;omega
     rw [hz] at hB
     simp only [iK,mA,jJ,iC] at hB
     refine ⟨pt w.heap.size (.map #[] 0),?_,?_⟩
     ·rw [iQ hl,hz];rfl
     ·subst hB
      intro Y p hp
      exact ⟨#[],0,hp,by simp, λx=>rfl⟩
  ·cases h
 ·
  rename_i t0 m i0 x hop
  have hpx:=prov_sound (x:=m) (g:=none) hF trivial
  split at h
  ·rename_i c ki iv kx xv kk0 vk0 hp hi hx hks
   have hei:=val_sound (g:=none) hF trivial hi
   have hex:=val_sound (g:=none) hF trivial hx
   rw [hp,pOk_pt] at hpx
   obtain ⟨ch,hk,hc⟩:=hpx
   split at h
   ·rename_i b kk vk f hk'
    rw [hk'] at hk;injection hk with hk;subst hk
    split at h
    ·rename_i q1 q2 q3 _ _ _
     subst q1;subst q2;subst q3
     injection h with h;subst h
     obtain ⟨kt,et,hu,hkt⟩:=mapKs_spec hks
     obtain ⟨_,p,_,⟨es,clock,hes,hM⟩,hsub⟩:=hS.get D hk'
     obtain ⟨es',clock',hrun,hM'⟩:=mapUpdate_run (P:=P) (w:=w) hop hc hei hex hu hkt (hsub _ _ hes) hM
     have hcmp:∀v pk,cOk (Chunk.map (σ:=σ) b kk0 kx f) v pk→cOk (Chunk.map (σ:=σ) b kk0 kx (mupd f iv xv)) v pk:= λv pk hv=>by cases pk<;>exact hv
     refine WT.op_run ho hw (.inr ⟨hrun,rfl⟩) (H _ _ _ ht (KExt.set hk' hcmp) (λ_=>CKeep.set hk' λb t cs e=>by cases e) _ _ ⟨_,rfl⟩ ?_ ?_)
     ·exact (hF.ext (KExt.set hk' hcmp) (hF.kok.set hk' hcmp λb' t' cs' e=>by cases e)).put g2 g3 λ_=>⟨rfl,pOk_no⟩
     ·unfold SatK
      rw [kW]
      have hb:=MapKept.heap_set (o':= .map es' clock') (hsub _ _ hes)
      refine Sat.write' hS (b:=b) (map_den_get D hk') (λY p hp=>?_) ⟨rfl,rfl,rfl⟩ (by simp) (λc hc=>hb.2 c hc) λY p p' hp hpo hpb=>?_
      ·obtain ⟨_,_,hh,_⟩:=hp;rw [hh];simp
      ·exact ⟨es',clock',by rw [hpb];exact hb.1,hM'⟩
    ·cases h
   ·cases h
  ·cases h
 ·
  rename_i m t0 hop
  have hpx:=prov_sound (x:=m) (g:=none) hF trivial
  split at h
  ·rename_i c kv hp hks
   obtain ⟨kk0,vk0⟩:=kv
   rw [hp,pOk_pt] at hpx
   obtain ⟨ch,hk,hc⟩:=hpx
   split at h
   ·rename_i b kk vk f hk'
    rw [hk'] at hk;injection hk with hk;subst hk
    injection h with h;subst h
    obtain ⟨kt,et,hu,hkt⟩:=mapKs_spec hks
    obtain ⟨_,p,_,⟨es,clock,hes,hM⟩,hsub⟩:=hS.get D hk'
    have hrun:(execOp a.eval o).run P w= .ok (.value (.tuple #[])) {w with heap:=w.heap.setIfInBounds b (.map #[] clock)}:=by
     simp only [execOp,hop,resolve,invoke,builtin,jU,kB,Result.andThen_ok,List.map_toArray,iK,mA]
     rw [show a.eval m= .map (some b) from hc]
     simp only [Builtin.clear_,jU,List.getElem?_toArray,jJ,run_underlying hu,Result.andThen_ok,MapKept.run_getObj_map (hsub _ _ hes),MapKept.run_setObj_map _ (hsub _ _ hes),kB]
    have hcmp:∀v pk,cOk (Chunk.map (σ:=σ) b kk vk f) v pk→cOk (Chunk.map (σ:=σ) b kk vk mnil) v pk:= λv pk hv=>by cases pk<;>exact hv
    refine WT.op_run ho hw (.inl hrun) (H _ _ _ ht (KExt.set hk' hcmp) (λ_=>CKeep.set hk' λb t cs e=>by cases e) _ _ ⟨_,rfl⟩ ?_ ?_)
    ·exact (hF.ext (KExt.set hk' hcmp) (hF.kok.set hk' hcmp λb' t' cs' e=>by cases e)).put g2 g3 λ_=>⟨rfl,pOk_no⟩
    ·unfold SatK
     rw [kW]
     have hb:=MapKept.heap_set (o':= .map #[] clock) (hsub _ _ hes)
     refine Sat.write' hS (b:=b) (map_den_get D hk') (λY p hp=>?_) ⟨rfl,rfl,rfl⟩ (by simp) (λc hc=>hb.2 c hc) λY p p' hp hpo hpb=>?_
     ·obtain ⟨_,_,hh,_⟩:=hp;rw [hh];simp
     ·exact ⟨#[],clock,by rw [hpb];exact hb.1,by simp, λx=>rfl⟩
   ·cases h
  ·cases h
 ·
  rename_i t0 x hop
  split at h
  ·rename_i v hv
   have hev:=val_sound (g:=none) hF trivial hv
   cases h1:oneCells v.cells.toList with
   |false=>rw [h1] at h;simp at h
   |true=>
    rw [h1] at h
    simp only [cond_true,iC] at h
    subst h
    have hpx:=prov_sound (x:=x) (g:=none) hF trivial
    rw [hev] at hpx
    refine WT.op_run ho hw (.inl (box_run hop)) (H _ _ _ (ht w.heap.size) (KExt.append K _) (λ_=>CKeep.append K _) _ _ ⟨_,rfl⟩ ?_ ?_)
    ·have hk:KOk (K++[Chunk.cells w.heap.size t0 (cellsOf2 v (prov none L x))]):=hF.kok.append λb t cs hm y hy=>by
      simp only [iY,Chunk.cells.injEq] at hm
      obtain ⟨_,_,rfl⟩:=hm
      exact (cellsOf2_ok hpx y hy).ext (KExt.append K _)
     exact (hF.ext (KExt.append K _) hk).put g2 g3 λ_=>⟨rfl,pOk_pt.2 ⟨_,kM,rfl⟩⟩
    ·have:=Sat.alloc hS (.cells (a.eval x).cells t0)
     rw [hev] at this ⊢
     unfold SatK
     rw [jG]
     simp only [iK,mA,den,cellsOf2_fst,pM]
     exact this
  ·cases h
 ·
  rename_i t0 hop
  split at h
  ·rename_i ti hi
   split at h
   ·rename_i v hz
    cases h1:oneCells v.cells.toList with
    |false=>rw [h1] at h;simp at h
    |true=>
     rw [h1] at h
     simp only [cond_true,iC] at h
     subst h
     refine WT.op_run ho hw (.inl (alloc_run hop hi hz)) (H _ _ _ (ht w.heap.size) (KExt.append K _) (λ_=>CKeep.append K _) _ _ ⟨_,rfl⟩ ?_ ?_)
     ·have hk:KOk (K++[Chunk.cells w.heap.size t0 (cellsOf2 v .no)]):=hF.kok.append λb t cs hm y hy=>by
       simp only [iY,Chunk.cells.injEq] at hm
       obtain ⟨_,_,rfl⟩:=hm
       exact (cellsOf2_ok (K:=K) pOk_no y hy).ext (KExt.append K _)
      exact (hF.ext (KExt.append K _) hk).put g2 g3 λ_=>⟨rfl,pOk_pt.2 ⟨_,kM,rfl⟩⟩
     ·have:=Sat.alloc hS (.cells v.cells t0)
      unfold SatK
      rw [jG]
      simp only [iK,mA,den,cellsOf2_fst,pM]
      exact this
   ·cases h
  ·cases h
 ·
  rename_i t0 x y hop
  have hpx:=prov_sound (x:=x) (g:=none) hF trivial
  have hpy:=prov_sound (x:=y) (g:=none) hF trivial
  split at h
  ·rename_i c off v m hp hv hm
   have hev:=val_sound (g:=none) hF trivial hv
   rw [hp,pOk_pt] at hpx
   rw [hev] at hpy
   obtain ⟨ch,hk,hc⟩:=hpx
   split at h
   ·rename_i b tb cs hk'
    rw [hk'] at hk;injection hk with hk;subst hk
    cases hcond:iM v.cells.size m&&kH (off+m) cs.length&&oneCells v.cells.toList with
    |false=>rw [hcond] at h;simp at h
    |true=>
     rw [hcond] at h
     simp only [cond_true,iC] at h
     subst h
     simp only [iE] at hcond
     obtain ⟨⟨hs1,hs2⟩,hs3⟩:=hcond
     have hsz:=iJ hs1
     have hfit:=iU hs2
     have hb:w.heap[b]? =some (.cells (cs.map (·.1)).toArray tb (0,0)):=Sat.pt hS (map_den_get D hk')
     have hrun:=storeAt_run (P:=P) (o:=o) (a:=a) (w:=w) (cur:=(cs.map (·.1)).toArray) (t0:=tb) hop hc hm (by rw [hev];exact hsz) hb (by simpa using hfit) (by rw [hev];exact oneCells_spec hs3)
     have hcell:(cellsOf2 v (prov none L y)).length=m:=by
      have:=congrArg iF (cellsOf2_fst v (prov none L y))
      simpa [hsz] using this
     refine WT.op_run ho hw (.inr ⟨hrun,rfl⟩) (H _ _ _ ht (KExt.set hk' λv pk hv=>by cases pk<;>exact hv) (λhn=>absurd hop (hn.1 _ _ _)) _ _ ⟨_,rfl⟩ ?_ ?_)
     ·have hkk:KOk (K.set c (.cells b tb (setFrom cs off (cellsOf2 v (prov none L y))))):=hF.kok.set hk' (λv pk hv=>by cases pk<;>exact hv) λb' t' cs' e z hz=>by
       injection e with _ _ e;subst e
       rcases setFrom_mem _ _ _ z hz with hz|hz
       ·exact hF.kok _ _ _ _ hk' z hz
       ·exact cellsOf2_ok hpy z hz
      exact (hF.ext (KExt.set hk' λv pk hv=>by cases pk<;>exact hv) hkk).put g2 g3 λ_=>⟨rfl,pOk_no⟩
     ·unfold SatK
      rw [kW]
      refine Sat.write hS (map_den_get D hk') ⟨rfl,rfl,rfl⟩ (by simp) (λc hc=>setRow_other _ _ _ _ hc) λY k hk=>?_
      rw [setRow_heap _ _ _ _ _ _ hb] at hk
      show k b=_
      rw [hk,setFrom_map,cellsOf2_fst,setFrom_eq _ _ _ (by rw [nJ,hsz];simpa using hfit),hev,nJ,hsz]
   ·cases h
  ·rename_i c ei off v m hp hv hm
   have hev:=val_sound (g:=none) hF trivial hv
   rw [hp,pOk_pt] at hpx
   obtain ⟨ch,hk,hc⟩:=hpx
   split at h
   ·rename_i ra tb len cap cols hk'
    rw [hk'] at hk;injection hk with hk;subst hk
    cases hcond:iM v.cells.size m&&kH 1 m with
    |false=>rw [hcond] at h;simp at h
    |true=>
     rw [hcond] at h
     simp only [cond_true] at h
     simp only [iE] at hcond
     have hm1:=iU hcond.2
     split at h
     ·rename_i cols' hset
      injection h with h;subst h
      have hsz:=iJ hcond.1
      obtain ⟨hin,b,rfl,hpv⟩:=hc
      obtain ⟨_,q,_,hq,hqs⟩:=hS.get D hk'
      obtain ⟨d1,d2,cur,d3,d4,d5,d6,d7⟩:=hq
      obtain ⟨s1,s2,s3,s4,s5⟩:=setCols_spec hin hset d1
      have hb:=hqs _ _ d3
      rw [Addr.add_lit0,lV] at hpv
      have hvl:v.cells.toList.length=m:=by simpa using hsz
      have hrow1:ei*cols.length+cols.length≤len*cols.length:=by
       have:(ei+1)*cols.length≤len*cols.length:=lP _ hin
       rw [oN] at this;exact this
      have hrow2:len*cols.length≤cap*cols.length:=lP _ d4
      have hoff:off+m≤cols.length:=by
       rcases s3 with s3|s3
       ·rw [s3] at hvl;simp at hvl;omega
       ·rw [hvl] at s3;exact s3
      have hfit:ei*cols.length+off+m≤cur.size:=by omega
      have hrun:=storeAt_run (P:=P) (o:=o) (a:=a) (w:=w) (cur:=cur) (t0:=tb) hop hpv hm (by rw [hev];exact hsz) hb hfit (by rw [hev];exact s4)
      have hcmp:∀v pk,cOk (Chunk.row (σ:=σ) (some b) tb len cap cols) v pk→cOk (Chunk.row (σ:=σ) (some b) tb len cap cols') v pk:= λv pk hv=>by
       cases pk<;>simp only [cOk,s1] at hv ⊢ <;>exact hv
      refine WT.op_run ho hw (.inr ⟨hrun,rfl⟩) (H _ _ _ ht (KExt.set hk' hcmp) (λhn=>absurd hop (hn.1 _ _ _)) _ _ ⟨_,rfl⟩ ?_ ?_)
      ·exact (hF.ext (KExt.set hk' hcmp) (hF.kok.set hk' hcmp λb' t' cs' e=>by cases e)).put g2 g3 λ_=>⟨rfl,pOk_no⟩
      ·unfold SatK
       rw [kW]
       refine Sat.write' hS (b:=b) (map_den_get D hk') (λY p hp=>?_) ⟨rfl,rfl,rfl⟩ (by simp) (λc hc=>setRow_other _ _ _ _ hc) λY p p' hp hpo hpb=>?_
       ·obtain ⟨_,_,cs,hh,_⟩:=hp;rw [hh];simp
       ·rw [setRow_heap _ _ _ _ _ _ hb] at hpb
        refine ⟨s2,by omega,_,hpb,d4,d5,?_,?_⟩
        ·rw [s1]
         simp only [List.size_toArray,jM,mL,List.length_drop,nJ,hev,hsz]
         omega
        ·rw [s1,hev]
         exact flat_set hin s1 hvl hoff (by simp;omega) d7 s5
     ·cases h
   ·cases h
  ·cases h
 ·
  rename_i t0 len parts hop
  split at h
  ·rename_i e hu
   split at h
   ·rename_i sz cols ei vals hsz hcols hei hvals
    split at h
    ·rename_i z hz
     split at h
     ·rename_i cells hf
      split at h
      ·rename_i cols' hto
       cases hcond:iM sz cols.length&&kH 1 sz&&kH (len*sz) 16777216 with
       |false=>rw [hcond] at h;simp at h
       |true=>
        rw [hcond] at h
        simp only [cond_true,iC] at h
        subst h
        simp only [iE] at hcond
        have q1:=iJ hcond.1.1
        have q2:=iU hcond.1.2
        have q3:=iU hcond.2
        obtain ⟨r1,r2,r3⟩:=toRows_spec hto (colsT_len 4 e cols hcols)
        rw [lV] at r2 r3
        have r3':flat cols' len=cells.toList:=by simpa [flat] using r3
        have hcs:cells.size=len*cols.length:=by
         have:=congrArg iF r3'
         rw [flat_len,r1] at this
         simpa using this.symm
        have hrun:(execOp a.eval o).run P w= .ok (.value (sliceVal (some w.heap.size) len len)) (w.alloc (.cells cells e)):=by
         have hb:=buildSlice_run (w:=w) (len:=len) (parts:=(parts.map λx=>(x.1,a.eval x.2))) hu hsz hei hz q3 (by
          rw [oG,partVals_ok hF _ _ hvals];exact hf)
         simp only [execOp,hop,jU]
         erw [hb]
         rfl
        have hlm:len≤maxLen:=by
         have:len*1≤len*sz:=Nat.mul_le_mul_left _ q2
         unfold maxLen;omega
        refine WT.op_run ho hw (.inl hrun) (H _ _ _ (ht w.heap.size) (KExt.append K _) (λ_=>CKeep.append K _) _ _ ⟨_,rfl⟩ ?_ ?_)
        ·exact (hF.ext (KExt.append K _) hF.kok.row).put g2 g3 λ_=>⟨rfl,pOk_pt.2 ⟨_,kM,rfl⟩⟩
        ·exact SatK.alloc_row D hS rfl r2 (by omega) (kF _) hlm (by rw [r1];exact hcs) (by rw [r1,←hcs,r3',←nJ,pN])
      ·cases h
     ·cases h
    ·cases h
   ·cases h
  ·cases h
 ·
  rename_i t0 l c hop
  split at h
  ·rename_i e kl li kc ci hu hl hc
   split at h
   ·rename_i ei cols hei hcols
    split at h
    ·rename_i z hz
     split at h
     ·rename_i cols1 hpr
      split at h
      ·rename_i cols' hrep
       cases hcond:iM ei.size cols.length&&kH 1 ei.size&&kH 1 ei.bytes&&iM z.cells.size ei.size with
       |false=>rw [hcond] at h;simp at h
       |true=>
        rw [hcond] at h
        simp only [cond_true,iC] at h
        subst h
        obtain ⟨⟨b1,b2,b3⟩,ht⟩:=ht
        have ht:=ht ⟨b1,b2,b3⟩
        simp only [iE] at hcond
        have q1:=iJ hcond.1.1.1
        have q2:=iU hcond.1.1.2
        have q3:=iU hcond.1.2
        have q4:=iJ hcond.2
        obtain ⟨p1,p2,p3,_,_⟩:=pushRow_spec hpr (colsT_len 4 e cols hcols)
        obtain ⟨r1,r2,r3⟩:=repCols_spec hrep
        have hci:ci≤140737488355328:=by
         have:(1:Int)*ci≤ei.bytes*ci:=kJ (by omega) (by omega)
         omega
        have hel:=val_sound (g:=none) hF trivial hl
        have hec:=val_sound (g:=none) hF trivial hc
        have hmk:=run_make (P:=P) w t0 e ei z hu hei hz kl kc li ci b1 b2 (by omega) (by omega)
        have hrun:(execOp a.eval o).run P w= .ok (.value (sliceVal (some w.heap.size) li.toNat ci.toNat)) (w.alloc (.cells (madeCells z.cells (ci.toNat*ei.size)) e)):=by
         simp only [execOp,hop,hel,hec,jU,hmk,Result.andThen_ok,kB]
         rfl
        refine WT.op_run ho hw (.inl hrun) (H _ _ _ (ht w.heap.size) (KExt.append K _) (λ_=>CKeep.append K _) _ _ ⟨_,rfl⟩ ?_ ?_)
        ·exact (hF.ext (KExt.append K _) hF.kok.row).put g2 g3 λ_=>⟨rfl,pOk_pt.2 ⟨_,kM,rfl⟩⟩
        ·refine SatK.alloc_row D hS rfl r2 (by omega) (by omega) (by unfold maxLen;omega) (by rw [r1,p1,←q1,size_madeCells]) ?_
         rw [r1,p1]
         have hpl:cols1.length=cols.length:=p1
         apply nZ
         intro k
         by_cases hk:k<li.toNat*cols.length
         ·have hs:0<cols.length:=by omega
          have hkd:k=k/cols.length*cols.length+k%cols.length:=by rw [oC];exact (Nat.div_add_mod k cols.length).symm
          have hj:k%cols.length<cols.length:=pX _ hs
          have hi':k/cols.length<li.toNat:=Nat.div_lt_of_lt_mul (by rw [oC];exact hk)
          have hle:li.toNat*cols.length≤ci.toNat*ei.size:=by rw [q1];exact lP _ (by omega)
          obtain ⟨c2,hc2⟩:∃c2,cols'[k%cols.length]? =some c2:=⟨_,iN (by omega)⟩
          have hg:=flat_get hi' hc2
          rw [r1,p1,←hkd] at hg
          rw [hg,lC,if_pos hk]
          have hat:=congrArg (λl=>l[k%cols.length]?) (r3 _ hi')
          simp only [iR,hc2,iT] at hat
          have hzc:=congrArg (λl=>l[k%cols.length]?) p3
          simp only [lF,iR] at hzc
          rw [←hat] at hzc
          have hsz:z.cells.size=cols.length:=by omega
          simp only [madeCells,oG,Array.toList_range,iR,oR (by omega:k<ci.toNat*ei.size),iT]
          rw [hsz]
          have hz':z.cells[k%cols.length]? =some (c2.at (k/cols.length)):=by simpa using hzc
          rw [getElem!_def,hz']
         ·rw [jP (by simp;omega),jP (by rw [flat_len,r1,p1];omega)]
      ·cases h
     ·cases h
    ·cases h
   ·cases h
  ·cases h
 ·
  rename_i s x t1 t2 hop
  split at h
  ·rename_i e hu
   split at h
   ·rename_i ei kd len cols ks m cols2 hei hd hs
    split at h
    ·rename_i z cols' hz happ
     cases hcond:iM t1 t2&&neK kd ks&&iM ei.size cols.length&&iM ei.size cols2.length&&kH 1 ei.size&&kH 1 ei.bytes&&iM z.cells.size ei.size&&cols2.all colB with
     |false=>rw [hcond] at h;simp at h
     |true=>
      rw [hcond] at h
      simp only [cond_true,iC] at h
      subst h
      obtain ⟨hbytes,ht⟩:=ht
      have ht:=ht hbytes
      simp only [iE] at hcond
      obtain ⟨⟨⟨⟨⟨⟨⟨c1,c2⟩,c3⟩,c4⟩,c5⟩,c6⟩,c7⟩,c8⟩:=hcond
      have e1:=iJ c1
      subst e1
      obtain ⟨a',cap,w',hrun,hS'⟩:=append_step D (ty:=o.type) hF hS hu hei hz hd hs c2 happ (iJ c3) (iJ c4) (iU c5) (iU c6) (iJ c7) c8 hbytes
      have hex:(execOp a.eval o).run P w= .ok (.value (sliceVal a' (len+m) cap)) w':=by
       simp only [execOp,hop,resolve,invoke,builtin,jU,kB,Result.andThen_ok,List.map_toArray,iK,mA]
       erw [hrun]
       rfl
      have hx:KExt K (killK K kd++[.row a' e (len+m) cap cols']):=by
       cases kd with
       |none=>exact KExt.append _ _
       |some k=>
        rcases hk:K[k]? with _|ch
        ·have:K.set k .dead=K:=List.set_eq_of_length_le (by
          rcases jN k K.length with h'|h'
          ·rw [iN h'] at hk;cases hk
          ·exact h')
         simp only [killK,this];exact KExt.append _ _
        ·exact (KExt.set hk λv pk _=>by cases pk<;>trivial).trans (KExt.append _ _)
      have hck:((∀t x y,o.op≠ .store t x y)∧∀g a K,ext g a K=none)→CKeep K (killK K kd++[.row a' e (len+m) cap cols']):= λ_=>by
       cases kd with
       |none=>exact CKeep.append _ _
       |some k=>
        obtain ⟨_,_,_,_,_,hk⟩:=appDest_row hd
        exact (CKeep.set hk λb t cs e=>by cases e).trans (CKeep.append _ _)
      refine WT.op_run ho hw (.inl hex) (H _ _ _ (ht a' cap) hx hck _ _ ⟨_,rfl⟩ ?_ hS')
      have hkk:KOk (killK K kd++[.row a' e (len+m) cap cols']):=by
       refine KOk.row ?_
       cases kd with
       |none=>exact hF.kok
       |some k=>
        rcases hk:K[k]? with _|ch
        ·have:K.set k .dead=K:=List.set_eq_of_length_le (by
          rcases jN k K.length with h'|h'
          ·rw [iN h'] at hk;cases hk
          ·exact h')
         simp only [killK,this];exact hF.kok
        ·exact hF.kok.set hk (λv pk _=>by cases pk<;>trivial) λb t cs e=>by cases e
      refine (hF.ext hx hkk).put g2 g3 λ_=>⟨rfl,pOk_pt.2 ⟨.row a' e (len+m) cap cols',?_,rfl⟩⟩
      have hl:(killK K kd).length=K.length:=by cases kd<;>simp [killK]
      rw [←hl];exact kM
    ·cases h
   ·cases h
  ·cases h
 ·
  rename_i t0 x hop
  have hpx:=prov_sound (x:=x) (g:=none) hF trivial
  split at h
  ·rename_i c0 i0 off hpr
   rw [hpr,pOk_pt] at hpx
   obtain ⟨c,hk,hc⟩:=hpx
   split at h
   ·rename_i a0 m cap cols hk'
    rw [hk'] at hk;injection hk with hk;subst hk
    split at h
    ·rename_i v p chs hl
     injection h with h;subst h
     have hin:i0<m:=hc.1
     obtain ⟨Y0,q0,hy0,hq0,hs0⟩:=hS.get D hk'
     obtain ⟨hv,hno,hpv,hdn⟩:rowLoad P t0 cols i0 off=some v∧(∀c∈chs,∃a n cp cl,c=Chunk.ro a n cp cl)∧pOk (K++chs) v p∧∀Y k k':Hp,den D G (.ro a0 m cap cols) Y k→∀B∈chs.map (den D G),B Y k':=by
      unfold loadSl at hl
      unfold rowLoad
      split at hl
      ·rename_i n0 ha hn
       cases hb:kH (off+n0) cols.length with
       |false=>rw [hb] at hl;cases hl
       |true=>
        rw [hb,cond_true] at hl
        split at hl
        ·rename_i chs' hch
         simp only [iC,iV] at hl
         obtain ⟨rfl,rfl,rfl⟩:=hl
         have hsub:∀Y:Hp,subs Y m cols→subs Y m ((cols.drop off).take n0):= λY h c hc=>h c (List.mem_of_mem_drop (pJ hc))
         have h0:=slChs_ok D (G:=G) (k':=q0) hin (hsub _ hq0.2.2) hch
         refine ⟨(by simp only [cond_true]),h0.2.1,mkMany_agg (h0.2.2.2 K), λY k k' hd=>(slChs_ok D (G:=G) (k':=k') hin (hsub _ hd.2.2) hch).1⟩
        ·cases hl
      ·rename_i ha
       split at hl
       ·rename_i c1 hc1
        split at hl
        ·rename_i chs' hch
         simp only [iC,iV] at hl
         obtain ⟨rfl,rfl,rfl⟩:=hl
         have hsub:∀Y:Hp,subs Y m cols→subs Y m [c1]:= λY h c hc=>h c (by rw [iY.1 hc];exact jC hc1)
         have h0:=slChs_ok D (G:=G) (k':=q0) hin (hsub _ hq0.2.2) hch
         refine ⟨(by simp only [hc1,iT]),h0.2.1,(by have:=h0.2.2.2 K;simp only [iK,mA,slPrs,psOk] at this;exact this.1), λY k k' hd=>(slChs_ok D (G:=G) (k':=k') hin (hsub _ hd.2.2) hch).1⟩
        ·cases hl
       ·cases hl
      ·cases hl
     have hrun:(execOp a.eval o).run P w= .ok (.value v) w:=by
      rcases row_cells D hS hk' hc with ⟨_,_,_,_,_,b,e1,_⟩|⟨_,_,_,_,b,e1,e2,e3⟩|e1
      ·cases e1
      ·injection e1 with _ _ _ e1;subst e1
       exact ex_load hop e2 (rowLoad_run e3 hv)
      ·cases e1
     have hkk:KOk (K++chs):=hF.kok.append λb t cs hm=>by obtain ⟨_,_,_,_,e⟩:=hno _ hm;cases e
     refine WT.op_run ho hw (.inl hrun) (H _ _ _ ht (KExt.append _ _) (λ_=>CKeep.append _ _) _ _ ⟨_,rfl⟩ ?_ ?_)
     ·exact (hF.ext (KExt.append _ _) hkk).put g2 g3 λ_=>⟨rfl,hpv⟩
     ·unfold SatK
      rw [jG]
      exact Sat.derives hS (map_den_get D hk') hdn
    ·cases h
   ·cases h
  ·cases h
 ·
  rename_i t0 x lo hi mx hop0
  split at h
  ·rename_i hx
   have hop:=hop0
   split at h
   ·rename_i e0 c0 ad m0 cap0 k0 i hu hpr hvx hvi
    have hpx:=prov_sound (x:=x) (g:=none) hF trivial
    have hex:=val_sound (g:=none) hF trivial hvx
    have hei:=val_sound (g:=none) hF trivial hvi
    rw [hpr,hex,pOk_pt] at hpx
    obtain ⟨c,hk,hc⟩:=hpx
    split at h
    ·rename_i sz ra te m cap cols hsz hk'
     rw [hk'] at hk;injection hk with hk;subst hk
     injection h with h;subst h
     simp only [cOk] at hc
     obtain ⟨hb,ht⟩:=ht
     have ht2:=ht hb
     injection hc with hc1 hc2 hc3
     subst hc1;subst hc2;subst hc3
     have hin:i.toNat≤m0:=by omega
     obtain ⟨_,q,_,hq,_⟩:=hS.get D hk'
     have hmc:m0≤cap0:=by
      obtain ⟨_,_,h3⟩:=hq
      cases ra with
      |none=>simp only at h3;omega
      |some b=>obtain ⟨cs,_,h5,_⟩:=h3;exact h5
     have hx1:KExt K (K.set c0 .dead):=KExt.set hk' λv pk _=>by cases pk<;>trivial
     have hkk:KOk (K.set c0 .dead++[.row ra te i.toNat cap0 (cols.map (takeCol i.toNat))]):=KOk.row (hF.kok.set hk' (λv pk _=>by cases pk<;>trivial) λb t cs e=>by cases e)
     refine WT.op_run ho hw (.inl (slice_run hop hu hsz hex hei hb.1 (by omega))) (H _ _ _ ht2 (hx1.trans (KExt.append _ _)) (λ_=>(CKeep.set hk' λb t cs e=>by cases e).trans (CKeep.append _ _)) _ _ ⟨_,rfl⟩ ?_ ?_)
     ·refine (hF.ext (hx1.trans (KExt.append _ _)) hkk).put g2 g3 λ_=>⟨rfl,pOk_pt.2 ⟨.row ra te i.toNat cap0 (cols.map (takeCol i.toNat)),?_,rfl⟩⟩
      have hl:(K.set c0 (.dead:Chunk σ)).length=K.length:=by simp
      rw [←hl];exact kM
     ·unfold SatK
      rw [jG,kW]
      exact Sat.moved hS (map_den_get D hk') (λY k hk=>den_take D hin hk) λ_ _=>trivial
    ·rename_i sz ra m cap cols hsz hk'
     rw [hk'] at hk;injection hk with hk;subst hk
     injection h with h;subst h
     simp only [cOk] at hc
     obtain ⟨hb,ht⟩:=ht
     have ht2:=ht hb
     injection hc with hc1 hc2 hc3
     subst hc1;subst hc2;subst hc3
     have hin:i.toNat≤m0:=by omega
     obtain ⟨_,q,_,hq,_⟩:=hS.get D hk'
     have hkk:KOk (K++[.ro ad i.toNat cap0 (cols.map (takeCol i.toNat))]):=hF.kok.append λb t cs hm=>by simp at hm
     refine WT.op_run ho hw (.inl (slice_run hop hu hsz hex hei hb.1 (by have:=hq.2.1;omega))) (H _ _ _ ht2 (KExt.append _ _) (λ_=>CKeep.append _ _) _ _ ⟨_,rfl⟩ ?_ ?_)
     ·exact (hF.ext (KExt.append _ _) hkk).put g2 g3 λ_=>⟨rfl,pOk_pt.2 ⟨.ro ad i.toNat cap0 (cols.map (takeCol i.toNat)),kM,rfl⟩⟩
     ·unfold SatK
      rw [jG]
      refine Sat.derive hS (map_den_get D hk') λY k k' hk=>⟨?_,by have:=hk.2.1;omega,subs_take hk.2.2 hin⟩
      rw [fzB_take]
      exact rowAt_take hin hk.1
    ·cases h
   ·cases h
  ·rename_i lx
   have hop:=hop0
   split at h
   ·rename_i e0 c0 ad m0 cap0 k0 i hu hpr hvx hvi
    have hpx:=prov_sound (x:=x) (g:=none) hF trivial
    have hex:=val_sound (g:=none) hF trivial hvx
    have hei:=val_sound (g:=none) hF trivial hvi
    rw [hpr,hex,pOk_pt] at hpx
    obtain ⟨c,hk,hc⟩:=hpx
    split at h
    ·rename_i sz ra m cap cols hsz hk'
     rw [hk'] at hk;injection hk with hk;subst hk
     cases hq:iM sz cols.length with
     |false=>rw [hq] at h;cases h
     |true=>
     rw [hq,cond_true] at h
     injection h with h;subst h
     simp only [cOk] at hc
     obtain ⟨hb,ht⟩:=ht
     have ht2:=ht hb
     injection hc with hc1 hc2 hc3
     subst hc1;subst hc2;subst hc3
     have hkk:KOk (K++[.ro (dropA ad cap0 i.toNat sz) (m0-i.toNat) (cap0-i.toNat) (cols.map (dropCol i.toNat))]):=hF.kok.append λb t cs hm=>by simp at hm
     refine WT.op_run ho hw (.inl (slice_runL hop hu hsz hex hei hb.1 hb.2)) (H _ _ _ ht2 (KExt.append _ _) (λ_=>CKeep.append _ _) _ _ ⟨_,rfl⟩ ?_ ?_)
     ·exact (hF.ext (KExt.append _ _) hkk).put g2 g3 λ_=>⟨rfl,pOk_pt.2 ⟨.ro (dropA ad cap0 i.toNat sz) (m0-i.toNat) (cap0-i.toNat) (cols.map (dropCol i.toNat)),kM,rfl⟩⟩
     ·unfold SatK
      rw [jG]
      refine Sat.derive hS (map_den_get D hk') λY k k' hk=>⟨?_,by have:=hk.2.1;omega,subs_drop hk.2.2⟩
      rw [fzB_drop]
      exact rowAt_drop hk.2.1 (iJ hq) hk.1
    ·cases h
   ·cases h
  ·cases h
 ·
  rename_i h1 h2 h3 h4 h5 h6
  split at h
  ·rename_i g args prs hcall
   refine (Bool.eq_false_or_eq_true (iM g yKey)).elim (λhk=>by rw [hk] at h;cases h) λhk=>?_
   rw [hk] at h
   dsimp only [cond_false] at h
   have hgk:g≠yKey:= λe=>by rw [e,oO] at hk;cases hk
   split at h
   ·rename_i e he
    split at h
    ·rename_i cd hcd
     have hok:=lookT_ok D hT he
     obtain ⟨hrun,hps1,hps2⟩:=callOf_run (g:=none) hF trivial hcall w
     obtain ⟨r,hr⟩:∃r,r=cd.r cd.x:=⟨_,rfl⟩
     have hout:=(hok args cd r hcd hr).1
     split at h
     ·rename_i q st j hob hkj
      injection h with h;subst h
      have ht:=ht _ rfl
      dsimp only at ht
      rw [←hr] at ht
      obtain ⟨hpre,ht⟩:=needs_holds ht
      obtain ⟨k',hkm,hk',hc⟩:=call_entry_some D hok hps1 hps2 hcd hr hpre hS hob
      rw [hkj,iY] at hkm
      subst hkm
      have hcmp:∀v pk,cOk (Chunk.obj (σ:=σ) q st) v pk→cOk (Chunk.obj (σ:=σ) q (r.new.getD st)) v pk:= λv pk hv=>by cases pk<;>exact hv
      have hx:∀acs,KExt K (K.set k' (.obj q (r.new.getD st))++jI sliceC r.rows acs):= λacs=>(KExt.set hk' hcmp).trans (KExt.append _ _)
      refine WT.op_call ho hw hrun hc λen w' ⟨acs,e1,e2,e3⟩=>⟨_,e2,H _ _ _ (freshRows_holds ht acs e1) (hx acs) (λ_=>(CKeep.set hk' λb t cs e=>by cases e).trans (CKeep.append _ _)) _ _ ⟨_,rfl⟩ ?_ e3⟩
      have hx:=hx acs
      have hkk:KOk (K.set k' (.obj q (r.new.getD st))++jI sliceC r.rows acs):=
       (hF.kok.set hk' hcmp λb t cs e=>by cases e).append λb t cs hm=>absurd hm (no_cells_rows r.rows acs b t cs)
      have hp:=hout (K.set k' (.obj q (r.new.getD st))) acs e1
      rw [mY] at hp
      exact (hF.ext hx hkk).put g2 g3 λ_=>⟨rfl,hp⟩
     ·rename_i hob hkj
      injection h with h;subst h
      have ht:=ht _ rfl
      dsimp only at ht
      rw [←hr] at ht
      obtain ⟨hpre,ht⟩:=needs_holds ht
      refine WT.op_call ho hw hrun (call_entry_none D hok hps1 hps2 hcd hr hpre hS hob) λen w' ⟨acs,e1,e2,e3⟩=>⟨_,e2,H _ _ _ (freshRows_holds ht acs e1) (KExt.append K _) (λ_=>CKeep.append K _) _ _ ⟨_,rfl⟩ ?_ e3⟩
      have hkk:KOk (K++jI sliceC r.rows acs):=hF.kok.append λb t cs hm=>absurd hm (no_cells_rows r.rows acs b t cs)
      exact (hF.ext (KExt.append K _) hkk).put g2 g3 λ_=>⟨rfl,hout K acs e1⟩
     ·cases h
    ·
     split at h
     ·rename_i t0 he
      injection h with h;subst h
      obtain ⟨hrun,hps1,hps2⟩:=callOf_run (g:=none) hF trivial hcall w
      refine WT.op_call ho hw hrun ((hext _ _ _ _ _ he w hps1 hF.kok hS _ (bindT_holds ht)).1 hgk) λen w' ⟨v,p,K',e1,e2,e3,e4,e5,e6⟩=>⟨v,e1,H _ _ _ e2 e3 (λhn=>(by rw [hn.2] at he;cases he)) _ _ ⟨_,rfl⟩ ?_ e6⟩
      exact (hF.ext e3 e4).put g2 g3 λ_=>⟨rfl,e5⟩
     ·cases h
   ·
    split at h
    ·rename_i t0 he
     injection h with h;subst h
     obtain ⟨hrun,hps1,hps2⟩:=callOf_run (g:=none) hF trivial hcall w
     refine WT.op_call ho hw hrun ((hext _ _ _ _ _ he w hps1 hF.kok hS _ (bindT_holds ht)).1 hgk) λen w' ⟨v,p,K',e1,e2,e3,e4,e5,e6⟩=>⟨v,e1,H _ _ _ e2 e3 (λhn=>(by rw [hn.2] at he;cases he)) _ _ ⟨_,rfl⟩ ?_ e6⟩
     exact (hF.ext e3 e4).put g2 g3 λ_=>⟨rfl,e5⟩
    ·cases h
  ·
   split at h
   ·rename_i v hv
    injection h with h;subst h
    obtain ⟨hrun,k0,x0,rfl⟩:=lenOf_run hF hv
    refine WT.op_run ho hw (.inl (hrun w)) (H _ _ _ ht (KExt.refl K) (λ_ _ _ _ _ h=>h) _ _ ⟨_,rfl⟩ ?_ hS)
    exact hF.put g2 g3 λ_=>⟨rfl,trivial⟩
   ·
    split at h
    ·rename_i args prs hy
     split at h
     ·rename_i t0 he
      injection h with h;subst h
      obtain ⟨l,asv,rfl,hrun,hps⟩:=yieldOf_run (g:=none) hF trivial hy w
      have hx:=(hext _ _ _ _ _ he w hps hF.kok hS _ (bindT_holds ht)).2 rfl l asv.toArray (by simp)
      refine WT.op_ycall ho hw hrun hx λen w' ⟨v,p,K',e1,e2,e3,e4,e5,e6⟩=>⟨v,e1,H _ _ _ e2 e3 (λhn=>(by rw [hn.2] at he;cases he)) _ _ ⟨_,rfl⟩ ?_ e6⟩
      exact (hF.ext e3 e4).put g2 g3 λ_=>⟨rfl,e5⟩
     ·cases h
    ·cases h
end
theorem known0_ok {c:Nat} {b:Bool} {K:List (Chunk σ)} {tm:Array Value} (h:tm.getD c undef= .bool b):∀{L:List Ent},(∀e∈L,e.ok K tm)→∀e∈known0 c b L,e.ok K tm
 |[],_,e,he=>by simp [known0] at he
 |x::r,hL,e,he=>by
  have ih:=known0_ok h (L:=r) (λe he=>hL e (by simp [he]))
  have hx:=hL x (by simp)
  simp only [known0] at he
  split at he
  ·rename_i c' b' hg
   cases hc:iM c' c with
   |false=>
    rw [hc] at he
    simp only [cond_false,iG] at he
    rcases he with rfl|he
    ·exact hx
    ·exact ih e he
   |true=>
    rw [hc] at he
    have:=iJ hc
    subst this
    cases hb:b'==b with
    |false=>rw [hb] at he;simp only [cond_true,cond_false] at he;exact ih e he
    |true=>
     rw [hb] at he
     have:=eq_of_beq hb
     subst this
     simp only [cond_true,iG] at he
     rcases he with rfl|he
     ·intro _
      exact hx (by rw [hg];exact h)
     ·exact ih e he
  ·rename_i hg
   cases hc:iM x.s c with
   |false=>
    rw [hc] at he
    simp only [cond_false,iG] at he
    rcases he with rfl|he
    ·exact hx
    ·exact ih e he
   |true=>
    rw [hc] at he
    simp only [cond_true,iG] at he
    rcases he with rfl|he
    ·intro _;exact ⟨h,pOk_no⟩
    ·exact ih e he
theorem known0_skip {c:Nat} {b:Bool} {tm:Array Value}:∀{L:List Ent},(∀e∈L,¬GV tm e.g→tm.getD e.s undef=undef)→∀e∈known0 c b L,¬GV tm e.g→tm.getD e.s undef=undef
 |[],_,e,he=>by simp [known0] at he
 |x::r,hL,e,he=>by
  have ih:=known0_skip (c:=c) (b:=b) (L:=r) (λe he=>hL e (by simp [he]))
  have hx:=hL x (by simp)
  simp only [known0] at he
  split at he
  ·rename_i c' b' hg
   cases hc:iM c' c with
   |false=>
    rw [hc] at he
    simp only [cond_false,iG] at he
    rcases he with rfl|he
    ·exact hx
    ·exact ih e he
   |true=>
    rw [hc] at he
    cases hb:b'==b with
    |false=>rw [hb] at he;simp only [cond_true,cond_false] at he;exact ih e he
    |true=>
     rw [hb] at he
     simp only [cond_true,iG] at he
     rcases he with rfl|he
     ·intro hg;exact absurd trivial hg
     ·exact ih e he
  ·rename_i hg
   cases hc:iM x.s c with
   |false=>
    rw [hc] at he
    simp only [cond_false,iG] at he
    rcases he with rfl|he
    ·exact hx
    ·exact ih e he
   |true=>
    rw [hc] at he
    simp only [cond_true,iG] at he
    rcases he with rfl|he
    ·intro hg;exact absurd trivial hg
    ·exact ih e he
theorem Fr.known {n:Nat} {L:List Ent} {K:List (Chunk σ)} {a:Act} (hF:Fr n L K a) (hn:n≤1000000) {c:Nat} {b:Bool} (h:a.tmps.getD c undef= .bool b):Fr n (known c b L) K a:=by
 refine ⟨hF.kok,hF.defers,hF.size, λe he=>?_, λe he=>?_⟩
 rotate_left
 ·simp only [Sl.known,iG] at he
  rcases he with rfl|he
  ·intro hg;exact absurd trivial hg
  ·exact known0_skip hF.skipd e he
 simp only [Sl.known,iG] at he
 rcases he with rfl|he
 ·intro _
  refine ⟨?_,pOk_no⟩
  have:=hF.size
  have hle:a.tmps.size≤1000000+c:=by omega
  show a.tmps.getD (1000000+c) undef=undef
  rw [jK,kY hle];rfl
 ·exact known0_ok h hF.ents e he
theorem Fr.fixMark {n:Nat} {L':List Ent} {K:List (Chunk σ)} {a:Act} (hF:Fr n L' K a) (o:Oper) (L:List Ent):Fr n (Sl.fixMark n o L L') K a:=by
 unfold Sl.fixMark
 split
 ·rename_i d _ _
  cases hb:(kH n 1000000&&wantMark L o) with
  |true=>
   simp only [cond_true]
   simp only [iE] at hb
   have hn:=iU hb.1
   refine ⟨hF.kok,hF.defers,hF.size, λe he hg=>?_, λe he hg=>?_⟩
   ·simp only [iG] at he
    rcases he with rfl|he
    ·refine ⟨?_,pOk_no⟩
     have:=hF.size
     have hle:a.tmps.size≤1000000+d:=by omega
     show a.tmps.getD (1000000+d) undef=undef
     rw [jK,kY hle];rfl
    ·exact hF.ents e he hg
   ·simp only [iG] at he
    rcases he with rfl|he
    ·exact absurd trivial hg
    ·exact hF.skipd e he hg
  |false=>
   simp only [cond_false]
   cases hm:marked d L' with
   |true=>simp only [cond_true];exact hF.sub λe he=>(del_mem he).1
   |false=>exact hF
 ·exact hF
theorem Fr.markL {n:Nat} {L:List Ent} {K:List (Chunk σ)} {a:Act} (hF:Fr n L K a):∀mk:List Nat,Fr n (Sl.markL n mk L) K a
 |[]=>hF
 |x::r=>by
  have ih:=Fr.markL hF r
  unfold Sl.markL
  cases hb:kH n 1000000 with
  |false=>exact ih
  |true=>
   have hn:=iU hb
   simp only [cond_true]
   refine ⟨ih.kok,ih.defers,ih.size, λe he hg=>?_, λe he hg=>?_⟩
   ·simp only [iG] at he
    rcases he with rfl|he
    ·refine ⟨?_,pOk_no⟩
     have:=hF.size
     have hle:a.tmps.size≤1000000+x:=by omega
     rw [jK,kY hle];rfl
    ·exact ih.ents e he hg
   ·simp only [iG] at he
    rcases he with rfl|he
    ·exact absurd trivial hg
    ·exact ih.skipd e he hg
theorem Fr.unmark {n:Nat} {L:List Ent} {K:List (Chunk σ)} {a:Act} (hF:Fr n L K a) (o:Oper):Fr n (Sl.unmark o L) K a:=by
 unfold Sl.unmark
 split
 ·rename_i d _
  cases marked d L with
  |true=>simp only [cond_true];exact hF.sub λe he=>(del_mem he).1
  |false=>exact hF
 ·exact hF
theorem guardTree_holds {R':Value→Pr→List (Chunk σ)→Prop} {S':List Ab→List Ent→List (Chunk σ)→Prop} {mk t b:Bool} {A S:Tree σ} (h:(guardTree mk t b A S).holds R' S'):(t=b→A.holds R' S')∧(t=!b→S.holds R' S'):=by
 cases mk<;>cases t<;>cases b<;>simp [guardTree,Tree.holds] at h ⊢ <;>exact h
end
section
open Go.RowKit
variable {σ:Type} (D:Addr→σ→Asn)
theorem hasN_iff {i:Nat} {l:List Nat}:hasN i l=true↔i∈l:=by
 unfold hasN
 rw [nE]
 exact ⟨λ⟨x,h,e⟩=>by rw [iJ e];exact h, λh=>⟨i,h,oO i⟩⟩
theorem rmv_mem {j x:Nat} {l:List Nat}:x∈rmv j l↔x∈l∧x≠j:=by
 unfold rmv
 rw [lS]
 cases hb:iM x j with
 |true=>have:=iJ hb;simp [this]
 |false=>simp [Nat.ne_of_beq_eq_false hb]
theorem keepR_mem {rd:List Nat} {L:List Ent} {e:Ent} (h:e∈keepR rd L):e∈L∧e.s∈rd∧∀c b,e.g=some (c,b)→c∈rd:=by
 induction L with
 |nil=>simp [keepR] at h
 |cons x r ih=>
  simp only [keepR] at h
  cases hb:(hasN x.s rd&&gIn rd x.g) with
  |false=>rw [hb] at h;simp only [cond_false] at h;have:=ih h;exact ⟨by simp [this.1],this.2⟩
  |true=>
   rw [hb] at h
   simp only [cond_true,iG] at h
   rcases h with rfl|h
   ·simp only [iE] at hb
    refine ⟨by simp,hasN_iff.1 hb.1, λc b hg=>?_⟩
    rw [hg] at hb
    exact hasN_iff.1 hb.2
   ·have:=ih h;exact ⟨by simp [this.1],this.2⟩
def Agr (R:List Nat) (a b:Act):Prop:=∀x∈R,a.tmps.getD x undef=b.tmps.getD x undef
theorem Agr.gv {R:List Nat} {a b:Act} (h:Agr R a b) {g:Option (Nat×Bool)} (hg:∀c t,g=some (c,t)→c∈R):GV a.tmps g↔GV b.tmps g:=by
 cases g with
 |none=>exact Iff.rfl
 |some x=>
  obtain ⟨c,t⟩:=x
  simp only [GV]
  rw [h c (hg c t rfl)]
theorem Fr.agr {n:Nat} {L:List Ent} {K:List (Chunk σ)} {a b:Act} {R:List Nat} (h:Fr n L K a) (hL:∀e∈L,e.s∈R∧∀c t,e.g=some (c,t)→c∈R) (hab:Agr R a b) (hd:b.defers=[]) (hs:b.tmps.size=n):Fr n L K b:=by
 refine ⟨h.kok,hd,hs, λe he hg=>?_, λe he hg=>?_⟩
 ·obtain ⟨h1,h2⟩:=hL e he
  rw [←hab _ h1]
  exact h.ents e he ((hab.gv h2).2 hg)
 ·obtain ⟨h1,h2⟩:=hL e he
  rw [←hab _ h1]
  exact h.skipd e he λhg'=>hg ((hab.gv h2).1 hg')
theorem keepR_fr {n:Nat} {L:List Ent} {K:List (Chunk σ)} {a b:Act} {R:List Nat} (h:Fr n L K a) (hab:Agr R a b) (hd:b.defers=[]) (hs:b.tmps.size=n):Fr n (keepR R L) K b:=
 (h.sub λ_ he=>(keepR_mem he).1).agr (λ_ he=>(keepR_mem he).2) hab hd hs
theorem frz_get (K:List (Chunk σ)) (k:Nat):(frz K)[k]? =(K[k]?).map frzC:=by unfold frz;rw [iR]
theorem frz_or (K:List (Chunk σ)) (k:Nat):(frz K)[k]? =K[k]? ∨((frz K)[k]? =some .dead):=by
 rw [frz_get]
 cases K[k]? with
 |none=>exact .inl rfl
 |some c=>
  cases c with
  |ro a n cap cols=>simp only [iT,frzC];cases fzB cols with
   |true=>exact .inr rfl
   |false=>exact .inl rfl
  |_=>first|exact .inl rfl|exact .inr rfl
theorem findRo_frz (b:Nat):∀(K:List (Chunk σ)) (k:Nat),findRo b k (frz K)=findRo b k K
 |[],_=>rfl
 |c::r,k=>by
  have ih:=findRo_frz b r (k+1)
  cases c with
  |ro a n cap cols=>
   show findRo b k ((bif fzB cols then .dead else .ro a n cap cols)::frz r)=_
   cases hf:fzB cols with
   |true=>
    simp only [cond_true]
    match a with
    |none=>exact ih
    |some ⟨b',0,none⟩=>simp only [findRo,hf,kU,oX,cond_false];exact ih
    |some ⟨b',0,some _⟩=>exact ih
    |some ⟨b',m+1,x⟩=>exact ih
   |false=>
    simp only [cond_false]
    match a with
    |none=>exact ih
    |some ⟨b',0,none⟩=>simp only [findRo];rw [ih]
    |some ⟨b',0,some _⟩=>exact ih
    |some ⟨b',m+1,x⟩=>exact ih
  |_=>exact ih
theorem frz_ext (K:List (Chunk σ)):KExt K (frz K):= λk c h=>⟨frzC c,by rw [frz_get,h];rfl, λv pk hv=>by
 cases c with
 |ro a n cap cols=>simp only [frzC];cases fzB cols with
  |true=>trivial
  |false=>exact hv
 |_=>first|exact hv|(simp only [frzC,cOk])⟩
theorem frz_kok (K:List (Chunk σ)):KOk (frz K):= λk b t cs hk=>by
 rw [frz_get] at hk
 cases hc:K[k]? with
 |none=>rw [hc] at hk;cases hk
 |some c=>
  rw [hc] at hk
  cases c with
  |ro a n cap cols=>simp only [iT,frzC] at hk;cases hf:fzB cols<;>rw [hf] at hk<;>simp at hk
  |_=>simp [frzC] at hk
def Pers (G:Hp) (Kz:List (Chunk σ)):Prop:=∀c∈Kz,∀G':Hp,(∀b o,G b=some o→G' b=some o)→∀Y h:Hp,den D G' c Y h
theorem SatK.pers {E:Ev} {G:Hp} {w:World} {K:List (Chunk σ)} (h:SatK D E G w K):Pers D G (frz K):= λc hc G' hG Y hh=>by
 obtain ⟨k,hk⟩:=mR hc
 rw [frz_get] at hk
 cases hK:K[k]? with
 |none=>rw [hK] at hk;cases hk
 |some d=>
  rw [hK] at hk
  simp only [iT,iC] at hk
  subst hk
  obtain ⟨_,q,_,hq,_⟩:=h.get D hK
  cases d with
  |roc b t vs=>simp only [frzC,den] at hq ⊢;exact hG _ _ hq
  |ro a n cap cols=>
   simp only [frzC]
   cases hf:fzB cols with
   |true=>trivial
   |false=>
    have h1:=hq.1
    rw [hf] at h1
    refine ⟨?_,hq.2.1,subs_no hf⟩
    rw [hf]
    exact RowAt.mono hG h1
  |_=>simp only [frzC,den]
theorem Pers.sat {G:Hp} {Kz:List (Chunk σ)} (h:Pers D G Kz) {w:World} (hG:G.sub w):SatK D ⟨w, λb=>w.heap[b]?⟩ (λb=>w.heap[b]?) w Kz:=
 ⟨λb=>w.heap[b]?,⟨Hp.le_refl _, λb hb=> .inr hb⟩, λ_ _ h=>h,⟨rfl,rfl,rfl,kF _⟩,Hp.or_sub (λ_ _ h=>h) (λ_ _ h=>h), λ_=>none, λb i hb=>(by cases hb), λi A hi=>by
   obtain ⟨A',hi',rfl⟩:=get_map hi
   clear hi;have hi:=hi'
   rw [iR] at hi
   cases hk:Kz[i]? with
   |none=>rw [hk] at hi;cases hi
   |some c=>
    rw [hk] at hi
    simp only [iT,iC] at hi
    subst hi
    exact λY _=>h c (jC hk) _ (λb o hb=>hG b o hb) Y _⟩
theorem Sat0.keeps {E:World} {G:Hp} {w w':World} {As:List Asn0} (h:Sat0 E G w As) (h':Env w w') (k2:Hp.sub (λb=>w.heap[b]?) w'):Sat0 E G w' As:=by
 obtain ⟨⟨e1,e2,e3,e4⟩,h2,o,h3,h4⟩:=h
 obtain ⟨f1,f2,f3,f4⟩:=h'
 refine ⟨⟨f1.trans e1,f2.trans e2,f3.trans e3,mE e4 f4⟩, λb x hb=>k2 b x (h2 b x hb),o, λb i hb=>⟨(h3 b i hb).1,nD (h3 b i hb).2 f4⟩, λi A hi=>?_⟩
 have:part w' o i=part w o i:=by
  funext b
  unfold part
  by_cases hb:o b=some i
  ·rw [if_pos hb,if_pos hb]
   have hlt:=(h3 b i hb).2
   have he:w.heap[b]? =some w.heap[b]:=kV hlt
   rw [he]
   exact k2 b _ he
  ·rw [if_neg hb,if_neg hb]
 rw [this];exact h4 i A hi
theorem Sat.keeps {E:Ev} {G:Hp} {w w':World} {As Bs:List Asn} (h:Sat E G w As) (h':Sat ⟨w, λb=>w.heap[b]?⟩ (λb=>w.heap[b]?) w' Bs):Sat E G w' As:=by
 obtain ⟨Z,hz,hw,h0⟩:=h
 exact Sat.of hz hw h0.2.1 (h0.keeps h'.env h'.sub)
theorem quietAt_mono {P:Program} {o:Oper} {a:Act} {C C':World→Prop} {w:World} {v:Value} (h:o.quietAt P a C w v) (hC:∀w',C w'→C' w'):o.quietAt P a C' w v:=by
 unfold Oper.quietAt at h ⊢
 cases hr:(execOp a.eval o).run P w with
 |halt x w'=>rw [hr] at h;exact h.elim
 |ok nx w'=>
  rw [hr] at h
  cases nx with
  |value u=>exact h
  |skip=>exact h
  |enter g args=>
   obtain ⟨h1,h2⟩:=h
   refine ⟨h1, λcs=>?_⟩
   obtain ⟨e,w'',fr,⟨he,hc⟩,hrest⟩:=h2 cs
   exact ⟨e,w'',fr,⟨he,hC _ hc⟩,hrest⟩
  |_=>exact h.elim
theorem frs_get (K:List (Chunk σ)) (k:Nat):(frs K)[k]? =(K[k]?).map frsC:=by unfold frs;rw [iR]
theorem frs_or (K:List (Chunk σ)) (k:Nat):(frs K)[k]? =K[k]? ∨(frs K)[k]? =some .dead:=by
 rw [frs_get]
 cases K[k]? with
 |none=>exact .inl rfl
 |some c=>
  cases c with
  |ro a n cap cols=>simp only [iT,frsC];cases fzB cols with
   |true=>exact .inr rfl
   |false=>exact .inl rfl
  |_=>first|exact .inl rfl|exact .inr rfl
theorem findRo_frs (b:Nat):∀(K:List (Chunk σ)) (k:Nat),findRo b k (frs K)=findRo b k K
 |[],_=>rfl
 |c::r,k=>by
  have ih:=findRo_frs b r (k+1)
  cases c with
  |ro a n cap cols=>
   show findRo b k ((bif fzB cols then .dead else .ro a n cap cols)::frs r)=_
   cases hf:fzB cols with
   |true=>
    simp only [cond_true]
    match a with
    |none=>exact ih
    |some ⟨b',0,none⟩=>simp only [findRo,hf,kU,oX,cond_false];exact ih
    |some ⟨b',0,some _⟩=>exact ih
    |some ⟨b',m+1,x⟩=>exact ih
   |false=>
    simp only [cond_false]
    match a with
    |none=>exact ih
    |some ⟨b',0,none⟩=>simp only [findRo];rw [ih]
    |some ⟨b',0,some _⟩=>exact ih
    |some ⟨b',m+1,x⟩=>exact ih
  |_=>exact ih
theorem frs_ro (K:List (Chunk σ)) (b:Nat):findRo b 0 (frs K)=findRo b 0 K:=findRo_frs b K 0
theorem frs_ext (K:List (Chunk σ)):KExt K (frs K):= λk c h=>⟨frsC c,by rw [frs_get,h];rfl, λv pk hv=>by
 cases c with
 |ro a n cap cols=>simp only [frsC];cases fzB cols with
  |true=>trivial
  |false=>exact hv
 |_=>first|exact hv|(simp only [frsC,cOk])⟩
theorem frs_kok {K:List (Chunk σ)} (h:KOk K):KOk (frs K):= λk b t cs hk x hx=>by
 rw [frs_get] at hk
 cases hc:K[k]? with
 |none=>rw [hc] at hk;cases hk
 |some c=>
  rw [hc] at hk
  cases c with
  |ro a n cap cols=>simp only [iT,frsC] at hk;cases hf:fzB cols<;>rw [hf] at hk<;>simp at hk
  |cells b' t' cs'=>
   simp [frsC] at hk
   obtain ⟨rfl,rfl,rfl⟩:=hk
   exact (h k _ _ _ hc x hx).ext (frs_ext K)
  |_=>simp [frsC] at hk
def SubK (G:Hp) (Kz K:List (Chunk σ)):Prop:=∀(k:Nat) (c:Chunk σ),Kz[k]? =some c→(∀Y h:Hp,den D G c Y h)∨∃b t cs,c= .cells b t cs∧K[k]? =some c
theorem SatK.subK {E:Ev} {G:Hp} {w:World} {Kz K:List (Chunk σ)} (h:SatK D E G w K) (hs:SubK D G Kz K):SatK D E G w Kz:=by
 obtain ⟨Z,hz,hw,h1,h2,o,h3,h4⟩:=h
 refine ⟨Z,hz,hw,h1,h2,o,h3, λi A0 hi0=>?_⟩
 obtain ⟨A,hi,rfl⟩:=get_map hi0
 rw [iR] at hi
 cases hk:Kz[i]? with
 |none=>rw [hk] at hi;cases hi
 |some c=>
  rw [hk] at hi
  simp only [iT,iC] at hi
  subst hi
  rcases hs i c hk with hp|⟨b,t,cs,_,hK⟩
  ·exact λY _=>hp Y _
  ·exact h4 i _ (map_get (map_den_get D hK))
theorem SubK.keep {G:Hp} {Kz K K':List (Chunk σ)} (h:SubK D G Kz K) (hk:CKeep K K'):SubK D G Kz K':= λk c hc=>by
 rcases h k c hc with hp|⟨b,t,cs,e,hK⟩
 ·exact .inl hp
 ·subst e;exact .inr ⟨b,t,cs,rfl,hk k b t cs hK⟩
theorem SatK.frs {E:Ev} {G:Hp} {w:World} {K:List (Chunk σ)} (h:SatK D E G w K):SubK D G (Sl.frs K) K:= λk c hc=>by
 have hpers:=SatK.pers D h
 rw [frs_get] at hc
 cases hK:K[k]? with
 |none=>rw [hK] at hc;cases hc
 |some d=>
  rw [hK] at hc
  simp only [iT,iC] at hc
  subst hc
  have hm:frzC d∈frz K:=jC (by rw [frz_get,hK];rfl:(frz K)[k]? =some (frzC d))
  have hp:=hpers _ hm G (λ_ _ e=>e)
  cases d with
  |cells b t cs=>exact .inr ⟨b,t,cs,rfl,rfl⟩
  |_=>exact .inl hp
theorem qstep_dead {P:Program} {T:List (Nat×Entry σ)} {g:Option (Nat×Bool)} {L:List Ent} {K:List (Chunk σ)} {Kz:List (Chunk σ)} {o:Oper} {x:Value×Pr×List Prop} (hor:∀k:Nat,Kz[k]? =K[k]? ∨Kz[k]? =some .dead) (hro:∀b,findRo b 0 Kz=findRo b 0 K) (hc:∀c,o.op≠ .call c) (h:qstep P T g L Kz o=some x):qstep P T g L K o=some x:=by
 have hcall:∀K':List (Chunk σ),callOf P g L K' o=none:= λK'=>by
  unfold callOf
  split
  ·rename_i hop;exact absurd hop (hc _)
  ·rename_i hop;exact absurd hop (hc _)
  ·rfl
 unfold qstep at h ⊢
 split at h
 all_goals (first|(rename_i hop;simp only [hop])|skip)
 all_goals (first|exact h|skip)
 ·
  split at h
  ·rename_i k off hp
   rcases hor k with e|e
   ·rw [e] at h;exact h
   ·rw [e] at h;cases h
  ·rename_i k i off hp
   rcases hor k with e|e
   ·rw [e] at h;exact h
   ·rw [e] at h;cases h
  ·cases h
 ·
  split at h
  ·rename_i fields k pk hu hp
   split at h
   ·rename_i fd q hfd hv
    split at h
    ·rename_i nn hsz
     cases pk with
     |elem i off=>
      simp only at h ⊢
      rcases hor k with e|e
      ·rw [e] at h;exact h
      ·rw [e] at h;cases h
     |_=>exact h
    ·cases h
   ·cases h
  ·cases h
 ·
  split at h
  ·rename_i e0 k a m cap k1 i hu hp hv hi
   rcases hor k with e|e
   ·rw [e] at h;exact h
   ·rw [e] at h
    split at h
    ·rename_i h1;cases h1
    ·rename_i h1;cases h1
    ·cases h
  ·rename_i len e0 k off a k1 i hu hp hv hi
   exact h
  ·rename_i len e0 k j off q k1 i hu hp hv hi
   rcases hor k with e|e
   ·rw [e] at h;exact h
   ·rw [e] at h
    split at h
    ·rename_i h1;cases h1
    ·cases h
  ·simp only [hro] at h
   exact h
  ·cases h
 ·
  split at h
  ·rename_i k ki i kt et hp hi hu
   rcases hor k with e|e
   ·rw [e] at h;exact h
   ·rw [e] at h;cases h
  ·cases h
 ·rw [hcall] at h ⊢
  exact h
theorem effB_call {o:Oper} (h:effB o=false):∀c,o.op≠ .call c:= λc e=>by unfold effB at h;rw [e] at h;cases h
structure WideOk (ops:Array Oper):Prop where
 dep:(jQ ops.size).all (λi=>((ops[i]?).map (·.after.all λe=>!Region.binds .any e||oD e.on i)).getD false)=true
 rd:∀(i j:Nat) (o o':Oper) (d:Nat),ops[i]? =some o→ops[j]? =some o'→o.dst=some d→d∈rdM ops o'→i∈depsOf ops j∧i≠j
 ds:∀(i j:Nat) (o o':Oper) (d:Nat),ops[i]? =some o→ops[j]? =some o'→o.dst=some d→o'.dst=some d→i=j
theorem lt_ops {ops:Array Oper} {i:Nat} {o:Oper} (h:ops[i]? =some o):i<ops.size:=by
 rcases jN i ops.size with h'|h'
 ·exact h'
 ·rw [kY h'] at h;cases h
theorem wide_ok {ops:Array Oper} (h:wideOk ops=true):WideOk ops:=by
 unfold wideOk at h
 simp only [iE] at h
 obtain ⟨h1,h2⟩:=h
 have row:∀(i j:Nat) (o o':Oper) (d:Nat),ops[i]? =some o→ops[j]? =some o'→o.dst=some d→
  ((!(hasN d (rdM ops o'))||(hasN i (depsOf ops j)&&!(iM i j)))&&(iM i j||neD d o'.dst))=true:= λi j o o' d hi hj hd=>by
  have:=(kP.1 h2) i (lU.2 (lt_ops hi))
  rw [hi] at this
  simp only [hd] at this
  unfold wideRow at this
  have:=(kP.1 this) j (lU.2 (lt_ops hj))
  rw [hj] at this
  exact this
 refine ⟨h1, λi j o o' d hi hj hd hm=>?_, λi j o o' d hi hj hd hd'=>?_⟩
 ·have:=row i j o o' d hi hj hd
  rw [hasN_iff.2 hm] at this
  simp only [kU,lY,iE] at this
  obtain ⟨⟨h3,h4⟩,_⟩:=this
  exact ⟨hasN_iff.1 h3, λe=>by subst e;simp at h4⟩
 ·have:=row i j o o' d hi hj hd
  simp only [iE] at this
  have:=this.2
  rw [hd'] at this
  simp only [neD,oO,kU,pG] at this
  exact iJ this
theorem gs_rd {n:Nat} {ops:Array Oper} {o:Oper} {g:Option (Nat×Bool)} (h:gs n ops o=some g):∀c t,g=some (c,t)→c∈rdM ops o:= λc t hg=>by
 have:=(gs_spec h).1
 unfold rdM rdOf
 rw [this,hg]
 simp
theorem put_ne {a:Act} {dst:Option Nat} {u:Value} {x:Nat} (h:dst≠some x):(a.put dst u).tmps.getD x undef=a.tmps.getD x undef:=by
 cases dst with
 |none=>rfl
 |some d=>
  show (a.tmps.setIfInBounds d u).getD x undef=_
  have:d≠x:= λe=>h (by rw [e])
  rw [jK,lZ,if_neg this,jK]
theorem put_eq {a:Act} {dst:Option Nat} {u:Value} {x:Nat} (h:dst=some x) (hx:x<a.tmps.size):(a.put dst u).tmps.getD x undef=u:=by
 subst h
 show (a.tmps.setIfInBounds x u).getD x undef=_
 rw [getD_put u hx,if_pos rfl]
theorem put_size {a:Act} {dst:Option Nat} {u:Value}:(a.put dst u).tmps.size=a.tmps.size:=by
 cases dst with
 |none=>rfl
 |some d=>show (a.tmps.setIfInBounds d u).size=_;simp
theorem put_defers {a:Act} {dst:Option Nat} {u:Value}:(a.put dst u).defers=a.defers:=by cases dst<;>rfl
section
variable (P:Program) (T:List (Nat×Entry σ)) (n:Nat) (ops:Array Oper) (nx:Bool)
def Cert (G:Hp) (Q:List Nat) (K:List (Chunk σ)) (s:Act) (i:Nat) (o:Oper):Prop:=
 ∃g,gs n ops o=some g∧(∀x∈depsOf ops i,x ∉ Q)∧(¬GV s.tmps g→∀d,o.dst=some d→s.tmps.getD d undef=undef)∧
  (GV s.tmps g→∃Li Kz v p ps,qstep P T g Li Kz o=some (v,p,ps)∧(∀q∈ps,q)∧Fr n Li Kz s∧(∀e∈Li,e.s∈rdM ops o∧∀c t,e.g=some (c,t)→c∈rdM ops o)∧
    (∀d,o.dst=some d→s.tmps.getD d undef=v)∧(Pers D G Kz∨((∃B,K=Kz++B)∧(∀c,o.op≠ .call c)∧∀j∈Q,effAt ops j=true→i∈reached ops j)∨(SubK D G Kz K∧(∀c,o.op≠ .call c)∧nx=true∧∀j∈Q,storeAt ops j=true→i∈reached ops j)))
structure WInv (E:Ev) (G:Hp) (K0:List (Chunk σ)) (listed:Array Bool) (Q:List Nat) (L:List Ent) (K:List (Chunk σ)) (s a:Act) (w:World):Prop where
 lsz:listed.size=ops.size
 cl:Closed ops listed
 qn:∀j∈Q,j<ops.size∧listed.getD j true=false
 fr:Fr n L K s
 sat:SatK D E G w K
 ad:a.defers=[]
 asz:a.tmps.size=n
 agr:∀x,(∀(i:Nat) (o:Oper),ops[i]? =some o→o.dst=some x→listed.getD i true=true∨i∈Q)→a.tmps.getD x undef=s.tmps.getD x undef
 pend:∀(i:Nat) (o:Oper),ops[i]? =some o→listed.getD i true=false→i ∉ Q→Cert D P T n ops nx G Q K s i o
 kx:KExt K0 K
end
section
variable {P:Program} {T:List (Nat×Entry σ)} {n:Nat} {ops:Array Oper} {nx:Bool} {E:Ev} {G:Hp} {K0:List (Chunk σ)} {listed:Array Bool} {Q:List Nat} {L:List Ent} {K:List (Chunk σ)} {s a:Act} {w:World}
theorem WInv.rd (hW:WideOk ops) (h:WInv D P T n ops nx E G K0 listed Q L K s a w) {i:Nat} {o:Oper} (hi:i∈iZ .any ops listed) (ho:ops[i]? =some o):Agr (rdM ops o) s a:= λx hx=>
 (h.agr x λj o' hj hd=> .inl (by
   have h1:=ready_deps hi (hW.rd j i o' o x hj ho hd hx).1
   rw [getD_both (by rw [h.lsz];exact lt_ops hj) true false]
   exact h1)).symm
theorem WInv.late (hT:TableOk D P T) (hW:WideOk ops) (h:WInv D P T n ops nx E G K0 listed Q L K s a w) {i:Nat} {o:Oper} (hi:i∈iZ .any ops listed) (hq:i ∉ Q) (ho:ops[i]? =some o):
 ∃u,((jL o (yielded ops a.tmps)=true∧o.quietAt P a (λw'=>SatK D E G w' K) w u)∨(jL o (yielded ops a.tmps)=false∧u=undef))∧
  ∀w',SatK D E G w' K→WInv D P T n ops nx E G K0 (listed.setIfInBounds i true) Q L K s (a.put o.dst u) w':=by
 obtain ⟨r1,r2,r3⟩:=ready_mem.1 hi
 obtain ⟨g,hgs,hdq,hno,hyes⟩:=h.pend i o ho r2 hq
 have hA:=h.rd D hW hi ho
 have hGV:GV s.tmps g↔GV a.tmps g:=hA.gv (gs_rd hgs)
 have hil:i<listed.size:=by rw [h.lsz];exact r1
 have key:∀u,(∀d,o.dst=some d→s.tmps.getD d undef=u)→∀w',SatK D E G w' K→WInv D P T n ops nx E G K0 (listed.setIfInBounds i true) Q L K s (a.put o.dst u) w':= λu hu w' hS'=>by
  refine ⟨by simpa using h.lsz,h.cl.set hi h.lsz, λj hj=>?_,h.fr,hS',by rw [put_defers];exact h.ad,by rw [put_size];exact h.asz, λx hx=>?_, λj o' hj hl hjq=>?_,h.kx⟩
  ·have:=h.qn j hj
   refine ⟨this.1,?_⟩
   rw [set_listed hil,if_neg (λe=>by subst e;exact hq hj)]
   exact this.2
  ·by_cases hd:o.dst=some x
   ·rw [put_eq hd (by rw [h.asz];exact (gs_spec hgs).2.1 x hd)]
    exact (hu x hd).symm
   ·rw [put_ne hd]
    refine h.agr x λj o' hj hd'=>?_
    have:=hx j o' hj hd'
    rw [set_listed hil] at this
    by_cases hji:j=i
    ·subst hji
     rw [ho] at hj;injection hj with hj;subst hj
     exact absurd hd' hd
    ·rwa [if_neg hji] at this
  ·rw [set_listed hil] at hl
   by_cases hji:j=i
   ·rw [if_pos hji] at hl;cases hl
   ·rw [if_neg hji] at hl
    exact h.pend j o' hj hl hjq
 by_cases hg:GV s.tmps g
 ·obtain ⟨Li,Kz,v,p,ps,hst,hps,hF,hL,hv,hp⟩:=hyes hg
  have hFa:Fr n Li Kz a:=hF.agr hL hA h.ad h.asz
  refine ⟨v, .inl ⟨(wanted_iff (gs_spec hgs).1).2 (hGV.1 hg),?_⟩,key v hv⟩
  rcases hp with hp|⟨⟨B,hB⟩,hnc,_⟩|⟨hs,hnc,_,_⟩
  ·have hS':=hp.sat D (w:=w) (SatK.G D h.sat)
   exact quietAt_mono ((qstep_sound D hT hFa (hGV.1 hg) hst hps hS').1 w hS').1 λw' hw'=>Sat.keeps h.sat hw'
  ·have hS':SatK D E G w Kz:=Sat.drop h.sat λi A hi=>by
    rw [hB,jG,iO (lt_of_get hi)];exact hi
   exact q_of_run (((qstep_sound D hT hFa (hGV.1 hg) hst hps hS').1 w hS').2 hnc)
  ·have hS':=SatK.subK D h.sat hs
   exact q_of_run (((qstep_sound D hT hFa (hGV.1 hg) hst hps hS').1 w hS').2 hnc)
 ·refine ⟨undef, .inr ⟨?_,rfl⟩,key undef (hno hg)⟩
  cases hw:jL o (yielded ops a.tmps) with
  |false=>rfl
  |true=>exact absurd (hGV.2 ((wanted_iff (gs_spec hgs).1).1 hw)) hg
theorem Cert.put (hW:WideOk ops) {K':List (Chunk σ)} {i j:Nat} {o o':Oper} {u:Value} (h:Cert D P T n ops nx G Q K s i o') (ho:ops[j]? =some o) (ho':ops[i]? =some o') (hij:i≠j) (hq:j∈Q)
 (hK:K'=K∨(effAt ops j=true∧i ∉ reached ops j∧(storeAt ops j=false→nx=true→CKeep K K'))∨∃B,K'=K++B):Cert D P T n ops nx G (rmv j Q) K' (s.put o.dst u) i o':=by
 obtain ⟨g,hgs,hdq,hno,hyes⟩:=h
 have hA:Agr (rdM ops o') s (s.put o.dst u):= λx hx=>by
  rw [put_ne]
  intro hd
  exact hdq j (hW.rd j i o o' x ho ho' hd hx).1 hq
 have hdst:∀d,o'.dst=some d→(s.put o.dst u).tmps.getD d undef=s.tmps.getD d undef:= λd hd=>by
  rw [put_ne]
  intro hd'
  exact hij (hW.ds i j o' o d ho' ho hd hd')
 refine ⟨g,hgs, λx hx hm=>hdq x hx (rmv_mem.1 hm).1, λhg d hd=>?_, λhg=>?_⟩
 ·rw [hdst d hd]
  exact hno (λhg'=>hg ((hA.gv (gs_rd hgs)).1 hg')) d hd
 ·obtain ⟨Li,Kz,v,p,ps,hst,hps,hF,hL,hv,hp⟩:=hyes ((hA.gv (gs_rd hgs)).2 hg)
  refine ⟨Li,Kz,v,p,ps,hst,hps,hF.agr hL hA (by rw [put_defers];exact hF.defers) (by rw [put_size];exact hF.size),hL, λd hd=>by rw [hdst d hd];exact hv d hd,?_⟩
  rcases hp with hp|⟨⟨B,hB⟩,hnc,hr⟩|⟨hs,hnc,hnx,hr⟩
  ·exact .inl hp
  ·rcases hK with rfl|⟨he,hn,_⟩|⟨B',hB'⟩
   ·exact .inr (.inl ⟨⟨B,hB⟩,hnc, λj' hj' e=>hr j' (rmv_mem.1 hj').1 e⟩)
   ·exact absurd (hr j hq he) hn
   ·exact .inr (.inl ⟨⟨B++B',by rw [hB',hB,jX]⟩,hnc, λj' hj' e=>hr j' (rmv_mem.1 hj').1 e⟩)
  ·refine .inr (.inr ⟨?_,hnc,hnx, λj' hj' e=>hr j' (rmv_mem.1 hj').1 e⟩)
   rcases hK with rfl|⟨_,hn,hck⟩|⟨B',rfl⟩
   ·exact hs
   rotate_left
   ·exact hs.keep D (CKeep.append K B')
   ·cases hst:storeAt ops j with
    |true=>exact absurd (hr j hq hst) hn
    |false=>exact hs.keep D (hck hst hnx)
theorem WInv.now (hW:WideOk ops) (h:WInv D P T n ops nx E G K0 listed Q L K s a w) {j:Nat} {o:Oper} (hj:j∈iZ .any ops listed) (hq:j∈Q) (ho:ops[j]? =some o) {L':List Ent} {K':List (Chunk σ)} {u:Value} {w':World}
 (hd:∀d,o.dst=some d→d<n) (hF:Fr n L' K' (s.put o.dst u)) (hS:SatK D E G w' K') (hx:KExt K K') (hK:K'=K∨(effAt ops j=true∧(storeAt ops j=false→nx=true→CKeep K K'))∨∃B,K'=K++B):
 WInv D P T n ops nx E G K0 (listed.setIfInBounds j true) (rmv j Q) L' K' (s.put o.dst u) (a.put o.dst u) w':=by
 obtain ⟨r1,r2,r3⟩:=ready_mem.1 hj
 have hil:j<listed.size:=by rw [h.lsz];exact r1
 refine ⟨by simpa using h.lsz,h.cl.set hj h.lsz, λi hi=>?_,hF,hS,by rw [put_defers];exact h.ad,by rw [put_size];exact h.asz, λx hx'=>?_, λi o' hi hl hiq=>?_,h.kx.trans hx⟩
 ·obtain ⟨h1,h2⟩:=rmv_mem.1 hi
  have:=h.qn i h1
  refine ⟨this.1,?_⟩
  rw [set_listed hil,if_neg h2]
  exact this.2
 ·by_cases hdx:o.dst=some x
  ·rw [put_eq hdx (by rw [h.asz];exact hd x hdx),put_eq hdx (by rw [h.fr.size];exact hd x hdx)]
  ·rw [put_ne hdx,put_ne hdx]
   refine h.agr x λi o' hi hd'=>?_
   have:=hx' i o' hi hd'
   rw [set_listed hil] at this
   by_cases hji:i=j
   ·subst hji
    rw [ho] at hi;injection hi with hi;subst hi
    exact absurd hd' hdx
   ·rw [if_neg hji] at this
    exact this.imp id λhm=>(rmv_mem.1 hm).1
 ·rw [set_listed hil] at hl
  by_cases hji:i=j
  ·rw [if_pos hji] at hl;cases hl
  ·rw [if_neg hji] at hl
   have hiq':i ∉ Q:= λhm=>hiq (rmv_mem.2 ⟨hm,hji⟩)
   refine (h.pend i o' hi hl hiq').put D hW ho hi hji hq (hK.imp id λe=>e.imp (λe=>⟨e.1, λhr=>?_,e.2⟩) id)
   have:=sweep_listed h.cl j (depsOf ops j) (λx hx=>ready_deps hj hx) i hr
   rw [getD_both (by rw [h.lsz];exact lt_ops hi) true false,this] at hl
   cases hl
theorem WInv.early (hW:WideOk ops) (h:WInv D P T n ops nx E G K0 listed Q L K s a w) {i:Nat} {o:Oper} (hq:i∈Q) (ho:ops[i]? =some o) {L':List Ent} {u:Value}
 (hF:Fr n L' K (s.put o.dst u)) (hc:Cert D P T n ops nx G (rmv i Q) K (s.put o.dst u) i o):WInv D P T n ops nx E G K0 listed (rmv i Q) L' K (s.put o.dst u) a w:=by
 refine ⟨h.lsz,h.cl, λj hj=>h.qn j (rmv_mem.1 hj).1,hF,h.sat,h.ad,h.asz, λx hx=>?_, λj o' hj hl hjq=>?_,h.kx⟩
 ·have hdx:o.dst≠some x:= λhd=>by
   rcases hx i o ho hd with h1|h1
   ·rw [(h.qn i hq).2] at h1;cases h1
   ·exact (rmv_mem.1 h1).2 rfl
  rw [put_ne hdx]
  exact h.agr x λj o' hj hd'=>(hx j o' hj hd').imp id λhm=>(rmv_mem.1 hm).1
 ·by_cases hji:j=i
  ·subst hji
   rw [ho] at hj;injection hj with hj;subst hj
   exact hc
  ·exact (h.pend j o' hj hl λhm=>hjq (rmv_mem.2 ⟨hm,hji⟩)).put D hW ho hj hji hq (.inl rfl)
theorem firstF_spec:∀{l:List Nat} {i:Nat} {x:Oper×Option (Nat×Bool)×Value×Pr×List Prop},firstF P T n ops nx Q L K l=some (i,x)→i∈l∧tryF P T n ops nx Q L K i=some x
 |[],i,x,h=>by simp [firstF] at h
 |j::r,i,x,h=>by
  simp only [firstF] at h
  split at h
  ·rename_i y hy
   simp only [iC,iV] at h
   obtain ⟨rfl,rfl⟩:=h
   exact ⟨by simp,hy⟩
  ·have:=firstF_spec h
   exact ⟨by simp [this.1],this.2⟩
theorem wrapG_elim {L L':List Ent} {K:List (Chunk σ)} {g:Option (Nat×Bool)} {p:Prop} (hF:Fr n L K s) (hg:GV s.tmps g) (h:wrapG g L L' p):p:=by
 unfold wrapG at h
 split at h
 ·exact h
 ·rename_i c b
  split at h
  ·exact h
  ·split at h
   ·rename_i s0 g0 t pe hl
    obtain ⟨hm,hs⟩:=look_mem hl
    simp only at hs
    subst hs
    refine h ?_
    simp only [GV] at hg
    by_cases hgg:GV s.tmps (some g0)
    ·have:=(hF.ents _ hm hgg).1
     simp only at this
     rw [hg] at this
     injection this with this
     exact this.symm
    ·have:=hF.skipd _ hm hgg
     simp only at this
     rw [hg] at this
     cases this
   ·exact h
theorem wrapG_all {L L':List Ent} {K:List (Chunk σ)} {g:Option (Nat×Bool)} {ps:List Prop} (hF:Fr n L K s) (hg:GV s.tmps g) (h:∀q∈ps.map (wrapG g L L'),q):∀q∈ps,q:=
 λ_ hq=>wrapG_elim hF hg (h _ (List.mem_map_of_mem hq))
theorem WInv.try (hT:TableOk D P T) (hW:WideOk ops) (h:WInv D P T n ops nx E G K0 listed Q L K s a w) {i:Nat} {o:Oper} {g:Option (Nat×Bool)} {v:Value} {p:Pr} {ps:List Prop} (hq:i∈Q) (ht:tryF P T n ops nx Q L K i=some (o,g,v,p,ps)) (hps:∀q∈ps,q):
 ∃u,WInv D P T n ops nx E G K0 listed (rmv i Q) (fixMark n o L (addEnt o.dst g v p L)) K (s.put o.dst u) a w:=by
 unfold tryF at ht
 split at ht
 ·cases ht
 ·rename_i o1 ho
  cases hd:(depsOf ops i).any (λx=>hasN x Q) with
  |true=>rw [hd] at ht;cases ht
  |false=>
   rw [hd] at ht
   simp only [cond_false] at ht
   have hdq:∀x∈depsOf ops i,x ∉ Q:= λx hx hm=>by
    have:(depsOf ops i).any (λx=>hasN x Q)=true:=nE.2 ⟨x,hx,hasN_iff.2 hm⟩
    rw [hd] at this;cases this
   split at ht
   ·cases ht
   ·rename_i g1 hgs
    obtain ⟨q1,q2,q3⟩:=gs_spec hgs
    have hnd:∀(u:Value),Agr (rdM ops o1) s (s.put o1.dst u):= λu x hx=>by
     rw [put_ne]
     intro hd'
     exact (hW.rd i i o1 o1 x ho ho hd' hx).2 rfl
    cases hsk:skipB g1 L with
    |true=>
     rw [hsk] at ht
     simp only [cond_true,iC,iV] at ht
     obtain ⟨rfl,rfl,rfl,rfl,rfl⟩:=ht
     have hng:¬GV s.tmps g1:=by
      unfold skipB at hsk
      split at hsk
      ·rename_i c b
       split at hsk
       ·rename_i s0 t pe hl
        simp only [iE,beq_iff_eq] at hsk
        obtain ⟨hm,hs⟩:=look_mem hl
        have:=(h.fr.ents _ hm trivial).1
        simp only at hs
        subst hs
        simp only at this
        intro hg
        simp only [GV] at hg
        rw [hg] at this
        injection this with this
        rw [hsk.2] at this
        cases b<;>cases this
       ·rename_i s0 x pe hl
        obtain ⟨hm,hs⟩:=look_mem hl
        have:=(h.fr.ents _ hm trivial).1
        simp only at hs
        subst hs
        simp only at this
        intro hg
        simp only [GV] at hg
        rw [hg] at this
        cases this
       ·cases hsk
      ·cases hsk
     have hngu:∀u,¬GV (s.put o1.dst u).tmps g1:= λu hg=>hng (((hnd u).gv (gs_rd hgs)).2 hg)
     refine ⟨undef,h.early D hW hq ho ((h.fr.put q2 (λ_ _ _ _ e=>by cases e) λ_=>⟨rfl,pOk_no⟩).fixMark o1 L) ⟨g1,hgs, λx hx hm=>hdq x hx (rmv_mem.1 hm).1, λ_ d hd'=>put_eq hd' (by rw [h.fr.size];exact q2 d hd'), λhg=>absurd hg (hngu _)⟩⟩
    |false=>
     rw [hsk] at ht
     simp only [cond_false] at ht
     cases heb:effB o1 with
     |true=>rw [heb] at ht;cases ht
     |false=>
      rw [heb] at ht
      simp only [cond_false] at ht
      have fin:∀(Kz:List (Chunk σ)) (v:Value) (p:Pr) (ps:List Prop),KExt K Kz→KOk Kz→qstep P T g1 (keepR (rdM ops o1) L) Kz o1=some (v,p,ps)→qstep P T g1 (keepR (rdM ops o1) L) K o1=some (v,p,ps)→(GV s.tmps g1→∀q∈ps,q)→
       (Pers D G Kz∨((∃B,K=Kz++B)∧(∀c,o1.op≠ .call c)∧∀j∈rmv i Q,effAt ops j=true→i∈reached ops j)∨(SubK D G Kz K∧(∀c,o1.op≠ .call c)∧nx=true∧∀j∈rmv i Q,storeAt ops j=true→i∈reached ops j))→∃u,WInv D P T n ops nx E G K0 listed (rmv i Q) (fixMark n o1 L (addEnt o1.dst g1 v p L)) K (s.put o1.dst u) a w:= λKz v p ps hx hk hz hK hps hp=>by
       have hFk:Fr n (keepR (rdM ops o1) L) K s:=h.fr.sub λe he=>(keepR_mem he).1
       by_cases hg:GV s.tmps g1
       ·have hpk:=(qstep_sound D hT hFk hg hK (hps hg) h.sat).2
        refine ⟨v,h.early D hW hq ho ((h.fr.put q2 q3 (λ_=>⟨rfl,hpk⟩) λhn=>absurd hg hn).fixMark o1 L) ⟨g1,hgs, λx hx hm=>hdq x hx (rmv_mem.1 hm).1, λhn=>absurd (((hnd v).gv (gs_rd hgs)).1 hg) hn, λ_=>?_⟩⟩
        exact ⟨keepR (rdM ops o1) L,Kz,v,p,ps,hz,hps hg,keepR_fr (h.fr.ext hx hk) (hnd v) (by rw [put_defers];exact h.fr.defers) (by rw [put_size];exact h.fr.size), λe he=>(keepR_mem he).2, λd hd'=>put_eq hd' (by rw [h.fr.size];exact q2 d hd'),hp⟩
       ·refine ⟨undef,h.early D hW hq ho ((h.fr.put q2 q3 (λhg'=>absurd hg' hg) λ_=>rfl).fixMark o1 L) ⟨g1,hgs, λx hx hm=>hdq x hx (rmv_mem.1 hm).1, λ_ d hd'=>put_eq hd' (by rw [h.fr.size];exact q2 d hd'), λhg'=>absurd (((hnd undef).gv (gs_rd hgs)).2 hg') hg⟩⟩
      split at ht
      ·rename_i v1 p1 ps1 hz
       simp only [iC,iV] at ht
       obtain ⟨rfl,rfl,rfl,rfl,rfl⟩:=ht
       exact fin (frz K) _ _ _ (frz_ext K) (frz_kok K) hz (qstep_dead (frz_or K) (findRo_frz · K 0) (effB_call heb) hz) (λhg=>wrapG_all h.fr hg hps) (.inl (SatK.pers D h.sat))
      ·cases hall:Q.all (λj=>!(effAt ops j)||hasN i (reached ops j)) with
       |false=>
        rw [hall] at ht
        simp only [cond_false] at ht
        cases hns:(nx&&Q.all (λj=>!(storeAt ops j)||hasN i (reached ops j))) with
        |false=>rw [hns] at ht;cases ht
        |true=>
         rw [hns] at ht
         simp only [cond_true] at ht
         simp only [iE] at hns
         split at ht
         ·rename_i v1 p1 ps1 hz
          simp only [iC,iV] at ht
          obtain ⟨rfl,rfl,rfl,rfl,rfl⟩:=ht
          refine fin (frs K) _ _ _ (frs_ext K) (frs_kok h.fr.kok) hz (qstep_dead (frs_or K) (frs_ro K) (effB_call heb) hz) (λhg=>wrapG_all h.fr hg hps) (.inr (.inr ⟨SatK.frs D h.sat,effB_call heb,hns.1, λj hj he=>?_⟩))
          have:=(kP.1 hns.2) j (rmv_mem.1 hj).1
          rw [he] at this
          simp only [kU,lY] at this
          exact hasN_iff.1 this
         ·cases ht
       |true=>
        rw [hall] at ht
        simp only [cond_true] at ht
        split at ht
        ·rename_i v1 p1 ps1 hz
         simp only [iC,iV] at ht
         obtain ⟨rfl,rfl,rfl,rfl,rfl⟩:=ht
         refine fin K _ _ _ (KExt.refl K) h.fr.kok hz hz (λhg=>wrapG_all h.fr hg hps) (.inr (.inl ⟨⟨[],(lF K).symm⟩,effB_call heb, λj hj he=>?_⟩))
         have:=(kP.1 hall) j (rmv_mem.1 hj).1
         rw [he] at this
         simp only [kU,lY] at this
         exact hasN_iff.1 this
        ·cases ht
theorem estep_load {T:List (Nat×Entry σ)} {ext:Nat→List (Value×Pr)→List (Chunk σ)→Option (Tree σ)} {L:List Ent} {K:List (Chunk σ)} {o:Oper} {t:TypeId} {x:Operand} (hop:o.op= .load t x) {k:Value→Pr→List (Chunk σ)→Tree σ} {tr:Tree σ}
 (h:estep P T ext L K o k=some tr):∃v pr chs,tr=k v pr (K++chs)∧∀k2:Value→Pr→List (Chunk σ)→Tree σ,estep P T ext L K o k2=some (k2 v pr (K++chs)):=by
 simp only [estep,hop] at h ⊢
 split at h
 ·rename_i c i off hp
  split at h
  ·rename_i a n cap cols hk
   split at h
   ·rename_i v p chs hl
    injection h with h
    exact ⟨v,p,chs,h.symm, λk2=>by simp only [hp,hk,hl]⟩
   ·cases h
  ·cases h
 ·cases h
theorem twos_holds {R':Value→Pr→List (Chunk σ)→Prop} {S':List Ab→List Ent→List (Chunk σ)→Prop} {z:Tree σ}:∀{l:List (Tree σ)},(twos z l).holds R' S'→(∀t∈l,t.holds R' S')∧(l=[]→z.holds R' S')
 |[],h=>⟨by simp, λ_=>h⟩
 |[t],h=>⟨λx hx=>by rw [iY.1 hx];exact h,by simp⟩
 |t::t'::r,h=>by
  obtain ⟨h1,h2⟩:=h
  have:=twos_holds (l:=t'::r) h2
  refine ⟨λx hx=>?_,by simp⟩
  rcases iG.1 hx with rfl|hx
  ·exact h1
  ·exact this.1 x hx
def unl (listed:Array Bool):Nat→Nat
 |0=>0
 |k+1=>(if listed.getD k true=true then 0 else 1)+unl listed k
theorem unl_set_ge {i:Nat} (hi:i<listed.size):∀k,k≤i→unl (listed.setIfInBounds i true) k=unl listed k
 |0,_=>rfl
 |k+1,hk=>by
  have e:(listed.setIfInBounds i true).getD k true=listed.getD k true:=by rw [set_listed hi,if_neg (by omega)]
  simp only [unl]
  rw [e,unl_set_ge hi k (by omega)]
theorem unl_set {i:Nat} (hi:i<listed.size) (hl:listed.getD i true=false):∀k,i<k→unl (listed.setIfInBounds i true) k+1=unl listed k
 |0,h=>by omega
 |k+1,h=>by
  by_cases hk:k=i
  ·subst hk
   have e:(listed.setIfInBounds k true).getD k true=true:=by rw [set_listed hi,if_pos rfl]
   simp only [unl]
   rw [e,unl_set_ge hi k (kF _),hl]
   simp
   omega
  ·have e:(listed.setIfInBounds i true).getD k true=listed.getD k true:=by rw [set_listed hi,if_neg hk]
   simp only [unl]
   rw [e]
   have:=unl_set hi hl k (by omega)
   omega
theorem unl_le:∀k,unl listed k≤k
 |0=>kF _
 |k+1=>by
  simp only [unl]
  have:=unl_le k
  split<;>omega
theorem unl_zero:∀k,unl listed k=0→∀i,i<k→listed.getD i true=true
 |0,_,i,h=>by omega
 |k+1,h,i,hi=>by
  simp only [unl] at h
  by_cases hk:i=k
  ·subst hk
   cases hl:listed.getD i true with
   |true=>rfl
   |false=>rw [hl] at h;simp at h
  ·exact unl_zero k (by omega) i (by omega)
theorem WInv.start (hF:Fr n L K a) (hS:SatK D E G w K):WInv D P T n ops nx E G K (oL ops.size false) (jQ ops.size) L K a a w:=by
 have hl:∀i,(oL ops.size false).getD i false=false:= λi=>by
  rw [jK,Array.getElem?_replicate]
  split<;>rfl
 refine ⟨by simp, λi hi=>?_, λj hj=>⟨lU.1 hj,?_⟩,hF,hS,hF.defers,hF.size, λ_ _=>rfl, λi o ho _ hn=>absurd (lU.2 (lt_ops ho)) hn,KExt.refl K⟩
 ·rw [hl] at hi;cases hi
 ·rw [getD_both (by simpa using lU.1 hj) true false,hl]
section
variable {f:Fq} {R:Ending→World→Prop} {td:List Item} {R':Value→Pr→List (Chunk σ)→Prop} {S':List Ab→List Ent→List (Chunk σ)→Prop} {ext:Nat→List (Value×Pr)→List (Chunk σ)→Option (Tree σ)}
 {st:List Nat→List Ent→List (Chunk σ)→Tree σ} {kont:List Ent→List (Chunk σ)→Tree σ}
theorem wide_norm (hT:TableOk D P T) (hW:WideOk ops) (hst:∀Q L K,¬(st Q L K).holds R' S'):∀(m:Nat) (Q:List Nat) (L:List Ent) (s:Act),WInv D P T n ops nx E G K0 listed Q L K s a w→(wide P T ext n ops nx st kont m Q L K).holds R' S'→
 ∃m' Q' L' s',WInv D P T n ops nx E G K0 listed Q' L' K s' a w∧(wide P T ext n ops nx st kont (m'+1) Q' L' K).holds R' S'∧((Q'=[]∧(kont L' K).holds R' S')∨(Q'≠[]∧∀j∈readyQ ops Q',(wEff P T ext n ops (st Q' L' K) (wide P T ext n ops nx st kont m') Q' L' K j).holds R' S'))
 |0,Q,L,s,hI,h=>absurd h (hst Q L K)
 |m+1,Q,L,s,hI,h=>by
  have h0:=h
  simp only [wide] at h
  split at h
  ·exact ⟨m,[],L,s,hI,h0, .inl ⟨rfl,h⟩⟩
  ·split at h
   ·rename_i q0 qr _ i o g v p ps hf
    obtain ⟨hps,ht⟩:=needs_holds h
    obtain ⟨h1,h2⟩:=firstF_spec hf
    obtain ⟨u,hI'⟩:=hI.try D hT hW h1 h2 hps
    exact wide_norm hT hW hst m _ _ _ hI' ht
   ·rename_i q0 qr _ hf
    refine ⟨m,_,L,s,hI,h0, .inr ⟨by simp, λj hj=>(twos_holds h).1 _ (kZ.2 ⟨j,hj,rfl⟩)⟩⟩
theorem wide_sound (hT:TableOk D P T) (hW:WideOk ops) (hnx:nx=true→∀g a K,ext g a K=none)
 (hext:∀g args prs K t,ext g (mP args prs) K=some t→∀w,psOk K args prs→KOk K→SatK D E G w K→∀Q:Value→Pr→List (Chunk σ)→Prop,t.holds Q (λ_ _ _=>False)→CallsX P g args.toArray w λen w'=>∃v p K',en= .returned v∧Q v p K'∧KExt K K'∧KOk K'∧pOk K' v p∧SatK D E G w' K')
 (hst:∀Q L K,¬(st Q L K).holds R' S') (hk:∀L K,KExt K0 K→(kont L K).holds R' S'→∀a w,Fr n L K a→SatK D E G w K→WT P f R (.inRegion ops []::td) a w):
 ∀(fuel t:Nat) (listed:Array Bool) (m:Nat) (Q:List Nat) (L:List Ent) (K:List (Chunk σ)) (s a:Act) (w:World),unl listed ops.size≤fuel→WInv D P T n ops nx E G K0 listed Q L K s a w→(wide P T ext n ops nx st kont m Q L K).holds R' S'→
  WT P f R (.inRegion ops (kE .any ops fuel t listed [])::td) a w:=by
 have fin:∀(listed:Array Bool) (m:Nat) (Q:List Nat) (L:List Ent) (K:List (Chunk σ)) (s a:Act) (w:World),(∀i,i<ops.size→listed.getD i true=true)→WInv D P T n ops nx E G K0 listed Q L K s a w→(wide P T ext n ops nx st kont m Q L K).holds R' S'→
  WT P f R (.inRegion ops []::td) a w:= λlisted m Q L K s a w hall hI h=>by
  obtain ⟨m',Q',L',s',hI',hh,hc⟩:=wide_norm D hT hW hst m Q L s hI h
  have hQ:Q'=[]:=by
   cases Q' with
   |nil=>rfl
   |cons j r=>
    have:=hI'.qn j (by simp)
    rw [hall j this.1] at this
    cases this.2
  rcases hc with ⟨_,hko⟩|⟨hne,_⟩
  ·have hA:Agr (L'.map (·.s)++L'.filterMap (λe=>e.g.map (·.1))) s' a:= λx _=>(hI'.agr x λi o ho _=> .inl (hall i (lt_ops ho))).symm
   refine hk L' K hI'.kx hko a w (hI'.fr.agr (λe he=>⟨?_, λc t hg=>?_⟩) hA hI'.ad hI'.asz) hI'.sat
   ·exact List.mem_append_left _ (kZ.2 ⟨e,he,rfl⟩)
   ·exact List.mem_append_right _ (List.mem_filterMap.2 ⟨e,he,by rw [hg];rfl⟩)
  ·exact absurd hQ hne
 intro fuel
 induction fuel with
 |zero=>
  intro t listed m Q L K s a w hu hI h
  exact fin listed m Q L K s a w (unl_zero ops.size (by omega)) hI h
 |succ fuel ih=>
  intro t listed m Q L K s a w hu hI h
  simp only [kE]
  change WT P f R (.inRegion ops (match (iZ .any ops listed)[t%(iZ .any ops listed).length]? with
   |some i=>kE .any ops fuel (t/(iZ .any ops listed).length) (listed.setIfInBounds i true) [i]
   |none=>[].reverse)::td) a w
  cases hi:(iZ .any ops listed)[t%(iZ .any ops listed).length]? with
  |none=>
   have hnil:iZ .any ops listed=[]:=by
    cases hr:iZ .any ops listed with
    |nil=>rfl
    |cons x xs=>
     rw [hr] at hi
     have hlt:t%(x::xs).length<(x::xs).length:=pX _ (by simp)
     rw [iN hlt] at hi;cases hi
   exact fin listed m Q L K s a w (ready_nil hW.dep hI.lsz hnil) hI h
  |some i=>
   have him:=jC hi
   dsimp only
   rw [linearise_go_acc,pE,mU]
   obtain ⟨r1,r2,r3⟩:=ready_mem.1 him
   have ho:ops[i]? =some ops[i]:=kV r1
   generalize ops[i]=o at ho
   have hu':unl (listed.setIfInBounds i true) ops.size≤fuel:=by
    have:=unl_set (listed:=listed) (by rw [hI.lsz];exact r1) r2 ops.size r1
    omega
   obtain ⟨m',Q',L',s',hI',hh,hc⟩:=wide_norm D hT hW hst m Q L s hI h
   by_cases hq:i∈Q'
   ·rcases hc with ⟨hQ,_⟩|⟨_,hall⟩
    ·rw [hQ] at hq;cases hq
    ·have hrq:i∈readyQ ops Q':=by
      unfold readyQ
      rw [lS]
      refine ⟨hq,?_⟩
      cases hb:(depsOf ops i).any (λx=>hasN x Q') with
      |false=>rfl
      |true=>
       exfalso
       rw [nE] at hb
       obtain ⟨x,hx,hxq⟩:=hb
       have h1:=ready_deps him hx
       have h2:=hI'.qn x (hasN_iff.1 hxq)
       rw [getD_both (by rw [hI.lsz];exact h2.1) true false,h1] at h2
       cases h2.2
     have hE:=hall i hrq
     have hA:=hI'.rd D hW him ho
     unfold wEff at hE
     rw [ho] at hE
     simp only at hE
     split at hE
     ·exact absurd hE (hst _ _ _)
     ·rename_i g hgs
      obtain ⟨g1,g2,g3⟩:=gs_spec hgs
      have hGV:GV s'.tmps g↔GV a.tmps g:=hA.gv (gs_rd hgs)
      have quiet:∀{v:Value} {p:Pr} {ps:List Prop},qstep P T g (keepR (rdM ops o) L') K o=some (v,p,ps)→(needs ps (wide P T ext n ops nx st kont m' (rmv i Q') (fixMark n o L' (addEnt o.dst g v p L')) K)).holds R' S'→
       WT P f R (.inRegion ops (i::kE .any ops fuel (t/(iZ .any ops listed).length) (listed.setIfInBounds i true) [])::td) a w:= λ{v p ps} hqs hE=>by
       obtain ⟨hps,ht⟩:=needs_holds hE
       have hFa:Fr n (keepR (rdM ops o) L') K a:=keepR_fr hI'.fr hA hI'.ad hI'.asz
       have hFs:Fr n (keepR (rdM ops o) L') K s':=hI'.fr.sub λe he=>(keepR_mem he).1
       by_cases hg:GV s'.tmps g
       ·have hwt:jL o (yielded ops a.tmps)=true:=(wanted_iff g1).2 (hGV.1 hg)
        obtain ⟨hqq,hpk⟩:=qstep_sound D hT hFa (hGV.1 hg) hqs hps hI'.sat
        refine WT.op ho hwt (hqq w hI'.sat).1 hI'.sat λw' hS'=>ih _ _ m' _ _ K _ _ w' hu' (hI'.now D hW him hq ho g2 ((hI'.fr.put g2 g3 (λ_=>⟨rfl,hpk⟩) λhn=>absurd hg hn).fixMark o L') hS' (KExt.refl K) (.inl rfl)) ht
       ·have hwf:jL o (yielded ops a.tmps)=false:=by
         cases hw:jL o (yielded ops a.tmps) with
         |false=>rfl
         |true=>exact absurd (hGV.2 ((wanted_iff g1).1 hw)) hg
        exact WT.op_skip ho hwf (ih _ _ m' _ _ K _ _ w hu' (hI'.now D hW him hq ho g2 ((hI'.fr.put g2 g3 (λhg'=>absurd hg' hg) λ_=>rfl).fixMark o L') hI'.sat (KExt.refl K) (.inl rfl)) ht)
      split at hE
      ·
       split at hE
       ·rename_i v p ps hqs
        exact quiet hqs hE
       ·have lstp:∀(L1:List Ent) (tr:Tree σ) (tl:TypeId) (xl:Operand),o.op= .load tl xl→Fr n L1 K s'→jL o (yielded ops a.tmps)=true→estep P T ext (keepR (rdM ops o) L1) K o (λv pr K'=>wide P T ext n ops nx st kont m' (rmv i Q') (unmark o (addEnt o.dst none v pr L1)) K')=some tr→tr.holds R' S'→
         WT P f R (.inRegion ops (i::kE .any ops fuel (t/(iZ .any ops listed).length) (listed.setIfInBounds i true) [])::td) a w:= λL1 tr tl xl hop hF1 hwt he hE=>by
         obtain ⟨v0,pr0,chs,rfl,hk2⟩:=estep_load hop he
         refine estep_sound D hT hext ho hwt g2 (keepR_fr hF1 hA hI'.ad hI'.asz) hI'.sat (k:= λv' pr' K'=> .need (∃B,K'=K++B) (wide P T ext n ops nx st kont m' (rmv i Q') (unmark o (addEnt o.dst none v' pr' L1)) K')) (hk2 _) ⟨⟨chs,rfl⟩, λ_=>hE⟩ λv pr K' hK0 hx hck a' w' ⟨u,ha'⟩ hF' hS'=>?_
         subst ha'
         obtain ⟨hB,hK1⟩:=hK0
         have hK':=hK1 hB
         refine ih _ _ m' _ _ K' _ _ w' hu' (hI'.now D hW him hq ho g2 (L':=unmark o (addEnt o.dst none v pr L1)) (u:=u) (Fr.unmark ?_ o) hS' hx (.inr (.inr hB))) hK'
         have hk':KOk K':=hF'.kok
         cases hdst:o.dst with
         |none=>
          exact hF1.ext hx hk'
         |some d=>
          rw [hdst] at hF'
          have he':=hF'.ents ⟨d,none,v,pr⟩ (by simp [addEnt]) trivial
          simp only at he'
          rw [put_eq rfl (by rw [hI'.asz];exact g2 d hdst)] at he'
          exact (hF1.ext hx hk').put (λd' hd'=>by injection hd' with hd';subst hd';exact g2 d hdst) (λ_ _ _ _ e=>by cases e) λ_=>he'
        split at hE
        ·rename_i tl xl hop hqn
         split at hE
         ·rename_i tr he
          exact lstp L' tr tl xl hop hI'.fr ((wanted_iff g1).2 trivial) he hE
         ·exact absurd hE (hst _ _ _)
        ·rename_i c b tl xl hop hqn
         split at hE
         ·rename_i s0 t0 pe hl
          cases hnb:kH n 1000000 with
          |false=>rw [hnb] at hE;exact absurd hE (hst _ _ _)
          |true=>
           rw [hnb] at hE
           simp only [cond_true] at hE
           have hnn:=iU hnb
           obtain ⟨hAy,hSk⟩:=guardTree_holds hE
           obtain ⟨hm,hs⟩:=look_mem hl
           have ht:=(hI'.fr.ents _ hm trivial).1
           simp only at hs
           subst hs
           simp only at ht
           by_cases htb:t0=b
           ·subst htb
            have hAy:=hAy rfl
            split at hAy
            ·rename_i A he
             exact lstp _ A tl xl hop (hI'.fr.known hnn ht) ((wanted_iff g1).2 (hGV.1 ht)) he hAy
            ·exact absurd hAy (hst _ _ _)
           ·have htn:t0=!b:=by cases t0<;>cases b<;>simp at htb ⊢
            have hng:¬GV s'.tmps (some (s0,b)):= λhg=>by
             simp only [GV] at hg
             rw [ht] at hg
             injection hg with hg
             exact htb hg
            have hwf:jL o (yielded ops a.tmps)=false:=by
             cases hw:jL o (yielded ops a.tmps) with
             |false=>rfl
             |true=>exact absurd (hGV.2 ((wanted_iff g1).1 hw)) hng
            rw [htn] at ht
            exact WT.op_skip ho hwf (ih _ _ m' _ _ K _ _ w hu' (hI'.now D hW him hq ho g2 ((hI'.fr.known hnn ht).put g2 (λ_ _ _ _ e=>by cases e) λ_=>⟨rfl,pOk_no⟩) hI'.sat (KExt.refl K) (.inl rfl)) (hSk htn))
         ·exact absurd hE (hst _ _ _)
        ·exact absurd hE (hst _ _ _)
      ·
       rename_i heb
       have hea:effAt ops i=true:=by unfold effAt;rw [ho];exact heb
       have stp:∀(L1:List Ent) (tr:Tree σ),Fr n L1 K s'→jL o (yielded ops a.tmps)=true→estep P T ext (keepR (rdM ops o) L1) K o (λv pr K'=>wide P T ext n ops nx st kont m' (rmv i Q') (unmark o (addEnt o.dst none v pr L1)) K')=some tr→tr.holds R' S'→
        WT P f R (.inRegion ops (i::kE .any ops fuel (t/(iZ .any ops listed).length) (listed.setIfInBounds i true) [])::td) a w:= λL1 tr hF1 hwt he htr=>by
        refine estep_sound D hT hext ho hwt g2 (keepR_fr hF1 hA hI'.ad hI'.asz) hI'.sat he htr λv pr K' hK' hx hck a' w' ⟨u,ha'⟩ hF' hS'=>?_
        subst ha'
        refine ih _ _ m' _ _ K' _ _ w' hu' (hI'.now D hW him hq ho g2 (L':=unmark o (addEnt o.dst none v pr L1)) (u:=u) (Fr.unmark ?_ o) hS' hx (.inr (.inl ⟨hea, λhns hn=>hck ⟨λt' x' y' hop=>(by unfold storeAt at hns;rw [ho] at hns;simp only [hop] at hns;cases hns),hnx hn⟩⟩))) hK'
        have hk':KOk K':=hF'.kok
        cases hdst:o.dst with
        |none=>
         exact hF1.ext hx hk'
        |some d=>
         rw [hdst] at hF'
         have he':=hF'.ents ⟨d,none,v,pr⟩ (by simp [addEnt]) trivial
         simp only at he'
         rw [put_eq rfl (by rw [hI'.asz];exact g2 d hdst)] at he'
         exact (hF1.ext hx hk').put (λd' hd'=>by injection hd' with hd';subst hd';exact g2 d hdst) (λ_ _ _ _ e=>by cases e) λ_=>he'
       split at hE
       ·split at hE
        ·rename_i tr he
         exact stp L' tr hI'.fr ((wanted_iff g1).2 trivial) he hE
        ·exact absurd hE (hst _ _ _)
       ·rename_i c b
        split at hE
        ·rename_i s0 t0 pe hl
         cases hnb:kH n 1000000 with
         |false=>rw [hnb] at hE;exact absurd hE (hst _ _ _)
         |true=>
          rw [hnb] at hE
          simp only [cond_true] at hE
          have hnn:=iU hnb
          obtain ⟨hAy,hSk⟩:=guardTree_holds hE
          obtain ⟨hm,hs⟩:=look_mem hl
          have ht:=(hI'.fr.ents _ hm trivial).1
          simp only at hs
          subst hs
          simp only at ht
          by_cases htb:t0=b
          ·subst htb
           have hAy:=hAy rfl
           split at hAy
           ·rename_i A he
            exact stp _ A (hI'.fr.known hnn ht) ((wanted_iff g1).2 (hGV.1 ht)) he hAy
           ·exact absurd hAy (hst _ _ _)
          ·have htn:t0=!b:=by cases t0<;>cases b<;>simp at htb ⊢
           have hng:¬GV s'.tmps (some (s0,b)):= λhg=>by
            simp only [GV] at hg
            rw [ht] at hg
            injection hg with hg
            exact htb hg
           have hwf:jL o (yielded ops a.tmps)=false:=by
            cases hw:jL o (yielded ops a.tmps) with
            |false=>rfl
            |true=>exact absurd (hGV.2 ((wanted_iff g1).1 hw)) hng
           rw [htn] at ht
           exact WT.op_skip ho hwf (ih _ _ m' _ _ K _ _ w hu' (hI'.now D hW him hq ho g2 ((hI'.fr.known hnn ht).put g2 (λ_ _ _ _ e=>by cases e) λ_=>⟨rfl,pOk_no⟩) hI'.sat (KExt.refl K) (.inl rfl)) (hSk htn))
        ·split at hE
         ·rename_i v p ps hqs
          exact quiet hqs hE
         ·exact absurd hE (hst _ _ _)
   ·obtain ⟨u,hu2,hnext⟩:=hI'.late D hT hW him hq ho
    rcases hu2 with ⟨hwt,hqa⟩|⟨hwf,rfl⟩
    ·exact WT.op ho hwt hqa hI'.sat λw' hS'=>ih _ _ (m'+1) Q' L' K s' _ w' hu' (hnext w' hS') hh
    ·exact WT.op_skip ho hwf (ih _ _ (m'+1) Q' L' K s' _ w hu' (hnext w hI'.sat) hh)
end
end
end
section
open Go.RowKit
variable {σ:Type} (D:Addr→σ→Asn)
def KMono (Q:List (Chunk σ)→Prop):Prop:=∀K K',Q K→KExt K K'→Q K'
theorem argEnts_ok {K:List (Chunk σ)} {tm:Array Value}:∀(args:List (Value×Pr)) (i:Nat),(∀(j:Nat) v p,args[j]? =some (v,p)→tm.getD (i+j) undef=v∧pOk K v p)→∀e∈argEnts i args,e.ok K tm
 |[],_,_,e,he=>by simp [argEnts] at he
 |(v,p)::r,i,h,e,he=>by
  simp only [argEnts,iG] at he
  rcases he with rfl|he
  ·intro _;exact h 0 v p rfl
  ·refine argEnts_ok r (i+1) (λj v' p' hj=>?_) e he
   have:=h (j+1) v' p' (by simpa using hj)
   rw [show i+(j+1)=i+1+j by omega] at this
   exact this
theorem argEnts_g:∀(args:List (Value×Pr)) (i:Nat) (e:Ent),e∈argEnts i args→e.g=none
 |[],_,e,he=>by simp [argEnts] at he
 |(v,p)::r,i,e,he=>by
  simp only [argEnts,iG] at he
  rcases he with rfl|he
  ·rfl
  ·exact argEnts_g r (i+1) e he
theorem Fr.start {n:Nat} {K:List (Chunk σ)} (args:List (Value×Pr)) (hlen:args.length≤n) (hp:∀x∈args,pOk K x.1 x.2) (hk:KOk K):
 Fr n (argEnts 0 args) K {tmps:=(args.map (·.1)).toArray++oL (n-(args.map (·.1)).toArray.size) undef,defers:=[]}:=by
 refine ⟨hk,rfl,?_,argEnts_ok args 0 λj v p hj=>⟨?_,hp (v,p) (jC hj)⟩, λe he hg=>absurd (by rw [argEnts_g args 0 e he];trivial) hg⟩
 ·simp;omega
 ·have hjl:=lt_of_get hj
  rw [lV,jK,Array.getElem?_append_left (by simpa using hjl)]
  simp [hj]
theorem zip_pOk {K:List (Chunk σ)}:∀{vs:List Value} {ps:List Pr},psOk K vs ps→(∀x∈mP vs ps,pOk K x.1 x.2)∧(mP vs ps).map (·.1)=vs
 |[],[],_=>by simp
 |[],_::_,h=>by simp [psOk] at h
 |_::_,[],h=>by simp [psOk] at h
 |v::vs,p::ps,h=>by
  simp only [psOk] at h
  obtain ⟨h1,h2⟩:=zip_pOk h.2
  refine ⟨λx hx=>?_,by simp [h2]⟩
  simp only [pD,iG] at hx
  rcases hx with rfl|hx
  ·exact h.1
  ·exact h1 x hx
theorem keepL0_mem {I:List Nat} {b:Nat} {e:Ent}:∀{L:List Ent},e∈keepL0 I b L→e∈L
 |[],h=>by simp [keepL0] at h
 |x::r,h=>by
  simp only [keepL0] at h
  cases hb:I.any (iM (b+x.s)) with
  |true=>
   rw [hb] at h
   simp only [cond_true,iG] at h ⊢
   exact h.imp id keepL0_mem
  |false=>
   rw [hb] at h
   exact List.mem_cons_of_mem _ (keepL0_mem h)
theorem keepS_mem {I p:List Nat} {L:List Ent} {e:Ent} (h:e∈keepS I p L):e∈L:=by
 unfold keepS at h
 cases hb:I.any (λx=>iM (x/1000000000) (1+pathN p%9973)) with
 |true=>rw [hb] at h;exact keepL0_mem h
 |false=>rw [hb] at h;exact h
def HookOk (P:Program) (Y:List (Value×Pr)→List (Chunk σ)→Option (Tree σ)) (E:Ev) (G:Hp):Prop:=
 ∀args prs K t,Y (mP args prs) K=some t→∀w,psOk K args prs→KOk K→SatK D E G w K→∀Q:Value→Pr→List (Chunk σ)→Prop,t.holds Q (λ_ _ _=>False)→∀l asv,args.toArray= #[.func (.yield l) #[] #[]]++asv→
  YCalls P l asv w λen w'=>∃v p K',en= .returned v∧Q v p K'∧KExt K K'∧KOk K'∧pOk K' v p∧SatK D E G w' K'
theorem runY_sound {P:Program} {T:List (Nat×Entry σ)} (hT:TableOk D P T) {Y:List (Value×Pr)→List (Chunk σ)→Option (Tree σ)} {I:List Nat} (hmix:P.follows .mixedOrders=true):
 ∀(fuel:Nat) {f:Fq} {rs:List ResultVar} {B:Code} {R:Ending→World→Prop} {n:Nat} {E:Ev} {G:Hp} (_:HookOk D P Y E G) (_:(f.pl∧∃fn,P.funcs[f.id]? =some fn∧rs=fn.results.toList)∨(rounds I=true∧∀(L:List Ent) (K:List (Chunk σ)),resVals P L K rs=none)) {Q:List (Chunk σ)→Prop} (_:KMono Q)
 {R':Value→Pr→List (Chunk σ)→Prop} (_:∀v p K w,R' v p K→Q K→KOk K→pOk K v p→SatK D E G w K→R (.returned v) w)
 (td:List Ab) (L:List Ent) (K:List (Chunk σ)),Q K→(runY P T Y I fuel B rs n td L K).holds R' (SW D P f R B n E G)→SW D P f R B n E G td L K:=by
 intro fuel
 induction fuel with
 |zero=>intro f rs B R n E G hY hfn Q hQ R' hR td L K _ h;exact h
 |succ fuel ih0=>
  intro f rs B R n E G hY hfn Q hQ R' hR td L K hQK h a w hF hS
  have ih:= λtd L K=>ih0 (f:=f) (rs:=rs) (B:=B) (R:=R) (n:=n) (E:=E) (G:=G) hY hfn hQ hR td L K
  have fin:∀(t:List Item),(t=[]∨∃k,t= .code .ret::k)→td.map (item B)=t→
   Tree.holds R' (SW D P f R B n E G) (match resVals P L K rs with|some [(v,p)]=> .ret v p K|some vs=> .ret (.tuple (vs.map (·.1)).toArray) (mkMany (vs.map (·.2))) K|none=> .stuck td L K)→WT P f R (td.map (item B)) a w:=by
   intro t ht htd h
   cases hr:resVals P L K rs with
   |none=>rw [hr] at h;exact h a w hF hS
   |some vs=>
    rw [hr] at h
    rw [htd]
    obtain ⟨hro,fn,hfn1,rfl⟩:f.pl∧∃fn,P.funcs[f.id]? =some fn∧rs=fn.results.toList:=hfn.resolve_right λh2=>by rw [h2.2] at hr;cases hr
    have hps:=(resVals_run D hF hS _ _ hr).2
    refine finish_sound D hro hfn1 ht hF hS hr ?_
    match vs,hps with
    |[],hps=>exact hR _ _ _ _ h hQK hF.kok (mkMany_tuple hps) hS
    |[(v,p)],hps=>exact hR _ _ _ _ h hQK hF.kok (hps (v,p) (by simp)) hS
    |_::_::_,hps=>exact hR _ _ _ _ h hQK hF.kok (mkMany_tuple hps) hS
  have hext:∀g args prs K t,(λ(g:Nat) (args:List (Value×Pr)) (K:List (Chunk σ))=>
   bif I.any (iM g)&&oD g 1000000 then match P.funcs[g]? with
    |some fn=>match fn.body with
     |some B'=>bif kH args.length fn.ntmps then some (runY P T Y I fuel B' fn.results.toList fn.ntmps [.code []] (argEnts 0 args) K) else none
     |none=>none
    |none=>none
   else bif iM g yKey&&hooked I then Y args K else none) g (mP args prs) K=some t→∀w,psOk K args prs→KOk K→SatK D E G w K→∀Q:Value→Pr→List (Chunk σ)→Prop,t.holds Q (λ_ _ _=>False)→
   CallsX P g args.toArray w λen w'=>∃v p K',en= .returned v∧Q v p K'∧KExt K K'∧KOk K'∧pOk K' v p∧SatK D E G w' K':=by
   intro g args prs K t ht w hps hk hS Q hQ
   dsimp only at ht
   cases hI:(I.any (iM g)&&oD g 1000000) with
   |false=>
    rw [hI] at ht
    simp only [cond_false] at ht
    cases hy:(iM g yKey&&hooked I) with
    |false=>rw [hy] at ht;cases ht
    |true=>
     rw [hy] at ht
     simp only [iE] at hy
     have e:=iJ hy.1
     exact ⟨λhne=>absurd e hne, λ_ l asv has=>hY args prs K t ht w hps hk hS Q hQ l asv has⟩
   |true=>
    rw [hI] at ht
    simp only [cond_true] at ht
    split at ht
    ·rename_i fn' hfn'
     split at ht
     ·rename_i B' hB'
      cases hle:kH (mP args prs).length fn'.ntmps with
      |false=>rw [hle] at ht;cases ht
      |true=>
       rw [hle] at ht
       simp only [cond_true,iC] at ht
       subst ht
       obtain ⟨hp1,hp2⟩:=zip_pOk hps
       refine ⟨λ_=>calls_of_WT hfn' hB' ?_, λe=>(by simp only [iE] at hI;have:=iU (show kH (g+1) 1000000=true from hI.2);unfold yKey at e;omega)⟩
       have hgo:=ih0 (f:=(g:Fq)) (rs:=fn'.results.toList) (B:=B') (R:= λen w'=>∃v p K',en= .returned v∧Q v p K'∧KExt K K'∧KOk K'∧pOk K' v p∧SatK D E G w' K') (n:=fn'.ntmps) (E:=E) (G:=G) hY (.inl ⟨rfl,fn',hfn',rfl⟩) (Q:=KExt K) (λ_ _ h1 h2=>h1.trans h2)
        (R':=Q) (λv p K' w' h1 h2 h3 h4 h5=>⟨v,p,K',rfl,h1,h2,h3,h4,h5⟩) [.code []] (argEnts 0 (mP args prs)) K (KExt.refl K) (Tree.holds_imp (λ_ _ _ h=>h) (λ_ _ _ h=>h.elim) hQ)
       have hst:=Fr.start (n:=fn'.ntmps) (mP args prs) (iU hle) hp1 hk
       rw [hp2] at hst
       exact hgo _ w hst hS
     ·cases ht
    ·cases ht
  have hnx:((I.all λx=>kH 1000000 x)&&!(hooked I))=true→∀g (args:List (Value×Pr)) (K:List (Chunk σ)),(λ(g:Nat) (args:List (Value×Pr)) (K:List (Chunk σ))=>
   bif I.any (iM g)&&oD g 1000000 then match P.funcs[g]? with
    |some fn=>match fn.body with
     |some B'=>bif kH args.length fn.ntmps then some (runY P T Y I fuel B' fn.results.toList fn.ntmps [.code []] (argEnts 0 args) K) else none
     |none=>none
    |none=>none
   else bif iM g yKey&&hooked I then Y args K else none) g args K=none:= λhall g args K=>by
   dsimp only
   simp only [iE,jO] at hall
   have hall1:=hall.1
   have:(I.any (iM g)&&oD g 1000000)=false:=by
    cases hb:(I.any (iM g)&&oD g 1000000) with
    |false=>rfl
    |true=>
     simp only [iE] at hb
     obtain ⟨x,hx,e⟩:=nE.1 hb.1
     have h1:=iU (kP.1 hall1 x hx)
     have h2:=iJ e
     have h3:g+1≤1000000:=iU hb.2
     omega
   rw [this,hall.2,oX];rfl
  cases td with
  |nil=>simp only [runY] at h;exact fin [] (.inl rfl) rfl h
  |cons x k=>
   cases x with
   |code p=>
    simp only [runY] at h
    simp only [iK,item]
    split at h
    ·rename_i hc
     rw [hc]
     exact WT.step (λcs=>stepR_skip) (ih k L K hQK h a w hF hS)
    ·rename_i c1 c2 hc
     have:=ih _ L K hQK h a w hF hS
     simp only [iK,item,sub,hc] at this
     rw [hc]
     exact WT.step (λcs=>stepR_seq) this
    ·rename_i c c1 c2 hc
     split at h
     ·rename_i t hv
      have hev:=val_sound (g:=none) hF trivial hv
      rw [hc]
      refine WT.step (λcs=>stepR_cond hev) ?_
      split at h
      ·cases t with
       |true=>
        have:=ih _ L K hQK h a w hF hS
        simp only [iK,item,sub,hc] at this
        exact this
       |false=>
        have:=ih _ L K hQK h a w hF hS
        simp only [iK,item,sub,hc] at this
        exact this
      ·cases t with
       |true=>
        have:=ih _ L K hQK (h.1 rfl) a w hF hS
        simp only [iK,item,sub,hc] at this
        exact this
       |false=>
        have:=ih _ L K hQK (h.2 rfl) a w hF hS
        simp only [iK,item,sub,hc] at this
        exact this
     ·exact h a w hF hS
    ·rename_i id c hc
     have:=ih _ L K hQK h a w hF hS
     simp only [iK,item,sub,hc] at this
     rw [hc]
     exact WT.step (λcs=>stepR_block) this
    ·rename_i id hc
     split at h
     ·rename_i k' hk
      rw [hc]
      exact WT.step (λcs=>stepR_exit (exitAb_item hk)) (ih k' L K hQK h a w hF hS)
     ·exact h a w hF hS
    ·rename_i hc
     exact fin (.code .ret::k.map (item B)) (.inr ⟨_,rfl⟩) (by simp only [iK,item,hc]) h
    ·rename_i id ops hc
     have:=ih _ L K hQK h a w hF hS
     simp only [iK,item,hc,opsOf,Nat.sub_zero] at this
     rw [hc]
     refine WT.step (λcs=>stepR_region) ?_
     rw [List.range_eq_range']
     exact this
    ·rename_i id ops hc
     refine (Bool.eq_false_or_eq_true (I.any (iM (stopC p 900)))).elim (λhst=>by rw [hst] at h;exact h a w hF hS) λhst=>?_
     rw [hst] at h
     dsimp only at h
     have hwide:∀ext,(((I.all λx=>kH 1000000 x)&&!(hooked I))=true→∀g a K,ext g a K=none)→(∀g args prs K t,ext g (mP args prs) K=some t→∀w,psOk K args prs→KOk K→SatK D E G w K→∀Q:Value→Pr→List (Chunk σ)→Prop,t.holds Q (λ_ _ _=>False)→
      CallsX P g args.toArray w λen w'=>∃v p K',en= .returned v∧Q v p K'∧KExt K K'∧KOk K'∧pOk K' v p∧SatK D E G w' K')→
      Tree.holds R' (SW D P f R B n E G) (bif wideOk ops then wide P T ext n ops ((I.all λx=>kH 1000000 x)&&!(hooked I)) (λQ L K=> .need False (.stuck (.lst p Q::List.drop 1 (.code p::k)) L K)) (λL' K'=>runY P T Y I fuel B rs n (List.drop 1 (.code p::k)) L' K') (ops.size+1) (jQ ops.size) L K else .stuck (.code p::k) L K)→
      WT P f R (.code (sub B p)::k.map (item B)) a w:= λext hnx hext hh=>by
      cases hb:wideOk ops with
      |false=>rw [hb] at hh;exact hh a w hF hS
      |true=>
       rw [hb] at hh
       simp only [cond_true] at hh
       rw [hc]
       refine WT.step (λcs=>stepR_region_draw) ?_
       simp only [Region.schedule,hmix,pQ,if_true]
       refine wide_sound D hT (wide_ok hb) hnx hext (st:= λQ L K=> .need False (.stuck (.lst p Q::List.drop 1 (.code p::k)) L K)) (λ_ _ _ h=>And.left h) (λL' K' hx hko a' w' hF' hS'=>WT.step (λcs=>stepR_region_end) (ih k L' K' (hQ _ _ hQK hx) hko a' w' hF' hS')) ops.size _ _ _ _ _ K a a _ (unl_le _) (WInv.start D hF (Sat.drawn hS _)) hh
     split at h
     ·rename_i L' ps hq0
      cases hB0:(pY .any ops&&!(rounds I)) with
      |false=>rw [hB0] at hq0;cases hq0
      |true=>
       rw [hB0] at hq0
       simp only [cond_true] at hq0
       simp only [iE,jO] at hB0
       have hB:=hB0.1
       have hro:f.pl:=hfn.elim (·.1) λh2=>by rw [h2.1] at hB0;cases hB0.2
       obtain ⟨hps,ht⟩:=needs_holds h
       rw [hc]
       refine WT.of_wp hro (wp_region_quiet (C:= λw'=>SatK D E G w' K) hmix hB (Sat.drawn hS _) ?_)
       exact qall_sound D hT _ L hF hS hq0 hps λa' hF' w' hS'=>⟨rfl,ih k L' K hQK ht a' w' hF' hS'⟩
     ·cases hB0:(lastB ops (ops.size-1)&&isAt (firstBad P T n ops K 0 ops.toList L) (ops.size-1)) with
      |true=>
       rw [hB0] at h
       simp only [cond_true] at h
       have hB:lastB ops (ops.size-1)=true:=by
        simp only [iE] at hB0
        exact hB0.1
       simp only [hB,cond_true] at h
       split at h
       ·rename_i om hom
        split at h
        ·rename_i hgs
         split at h
         ·rename_i L' ps hq
          split at h
          ·rename_i t he
           obtain ⟨hps,ht⟩:=needs_holds h
           obtain ⟨g1,g2,_⟩:=gs_spec hgs
           rw [hc]
           refine WT.region_last (C:= λw'=>SatK D E G w' K) (Q0:= λa'=>Fr n L' K a') hmix hB (Sat.drawn hS _) (λa' w' hF' hS'=>?_) (qall_sound D hT _ L hF hS hq hps λa' hF'=>hF')
           exact estep_sound D hT hext hom ((wanted_iff g1).2 trivial) g2 hF' hS' he ht λv pr K' hK' hx _ a2 w2 _ hF2 hS2=>WT.step (λcs=>stepR_region_end) (ih k _ K' (hQ _ _ hQK hx) hK' a2 w2 hF2 hS2)
          ·exact h a w hF hS
         ·exact h a w hF hS
        ·exact h a w hF hS
       ·exact h a w hF hS
      |false=>
       rw [hB0] at h
       simp only [cond_false] at h
       split at h
       ·rename_i m hm
        cases hTo:tailOk ops (lateOf ops m) m with
        |false=>rw [hTo] at h;exact hwide _ hnx hext h
        |true=>
         rw [hTo] at h
         simp only [cond_true] at h
         have hT':=tail_ok hTo
         split at h
         ·rename_i L' ps hq
          have hQ0:∀ps',(∀p∈ps',p)→ps'=ps→wpQuiet P (nopFrom ops m) (λw'=>SatK D E G w' K) (λa'=>Fr n L' K a') (nopFrom ops m).toList a:= λps' hps' e=>by
           subst e
           exact qall_sound D hT _ L hF hS hq hps' λa' hF'=>hF'
          have hop:∀is,(item B (.lst p is))= .inRegion ops is:= λis=>by simp only [item,hc,opsOf]
          cases hu:iM (lateOf ops m) ops.size with
          |true=>
           rw [hu] at h
           simp only [cond_true] at h
           obtain ⟨hps,ht⟩:=needs_holds h
           rw [hc]
           refine WT.region_tail (C:= λw'=>SatK D E G w' K) (Q0:= λa'=>Fr n L' K a') (u:=lateOf ops m) (m:=m) hmix hT' (Sat.drawn hS _) (λa' w' hF' hS'=>?_) (λo ho=>?_) (hQ0 ps hps rfl)
           ·have:=ih _ L' K hQK ht a' w' hF' hS'
            simpa only [iK,hop,oS,oH] using this
           ·exfalso
            rw [iJ hu,kY (kF _)] at ho
            cases ho
          |false=>
           rw [hu] at h
           simp only [cond_false] at h
           split at h
           ·rename_i d hd
            obtain ⟨hps,ht⟩:=needs_holds h
            obtain ⟨htA,htB⟩:=ht
            rw [hc]
            refine WT.region_tail (C:= λw'=>SatK D E G w' K) (Q0:= λa'=>Fr n L' K a') (u:=lateOf ops m) (m:=m) hmix hT' (Sat.drawn hS _) (λa' w' hF' hS'=>?_) (λo ho a' w' v hF' hS'=>?_) (hQ0 ps hps rfl)
            ·have:=ih _ L' K hQK htA a' w' hF' hS'
             simpa only [iK,hop,oS,oH] using this
            ·rw [ho] at hd
             have hd':o.dst=some d:=hd
             rw [hd'] at hF'
             have:=ih _ (del d L') K hQK htB a' w' hF'.unput hS'
             simpa only [iK,hop,oS,oH] using this
           ·exact h a w hF hS
         ·exact hwide _ hnx hext h
       ·exact hwide _ hnx hext h
    ·rename_i c hc
     have:=ih _ L K hQK h a w hF hS
     simp only [iK,item,sub,hc] at this
     rw [hc]
     exact WT.step (λcs=>stepR_scope) this
    ·rename_i l hc
     rw [hc]
     exact WT.step (λcs=>stepR_label) (ih k L K hQK h a w hF hS)
    ·rename_i c hc
     split at h
     ·have:=ih _ L K hQK h a w hF hS
      simp only [iK,item,sub,hc] at this
      rw [hc]
      exact WT.step (λcs=>stepR_loop) this
     ·exact h a w (hF.sub λ_ he=>keepS_mem he) hS
    ·exact h a w hF hS
   |blk id=>
    simp only [runY] at h
    exact WT.step (λcs=>stepR_inBlock) (ih k L K hQK h a w hF hS)
   |scp p=>
    simp only [runY] at h
    simp only [iK,item]
    exact WT.step (λcs=>stepR_inScope) (ih k L K hQK h a w hF hS)
   |raw i=>simp only [runY] at h;exact h a w hF hS
   |again p=>
    simp only [runY] at h
    split at h
    ·have:=ih _ L K hQK h a w hF hS
     simp only [iK,item] at this ⊢
     exact WT.step (λcs=>stepR_inLoop) this
    ·exact h a w hF hS
   |lst p is=>
    cases is with
    |nil=>
     simp only [runY] at h
     simp only [iK,item]
     exact WT.step (λcs=>stepR_region_end) (ih k L K hQK h a w hF hS)
    |cons i is=>
     simp only [runY] at h
     simp only [iK,item]
     split at h
     ·have:=h a w hF hS
      simpa only [iK,item] using this
     ·rename_i o ho
      split at h
      ·have:=h a w hF hS
       simpa only [iK,item] using this
      ·rename_i g hgs
       split at h
       ·rename_i v pr ps hq
        obtain ⟨hps,ht⟩:=needs_holds h
        have next:=ih (.lst p is::k) _ K hQK ht
        rcases quiet_step D hT hF hS hgs hq hps with ⟨hw,hqq,hF'⟩|⟨hw,hF'⟩
        ·exact WT.op ho hw (hqq w hS) hS λw' hS'=>next _ w' (hF'.fixMark o L) hS'
        ·exact WT.op_skip ho hw (next _ w (hF'.fixMark o L) hS)
       ·split at h
        ·have:=h a w hF hS
         simpa only [iK,item] using this
        ·split at h
         ·rename_i t he
          obtain ⟨g1,g2,_⟩:=gs_spec hgs
          exact estep_sound D hT hext ho ((wanted_iff g1).2 trivial) g2 hF hS he h λv pr K' hK' hx _ a' w' _ hF' hS'=>ih (.lst p is::k) _ K' (hQ _ _ hQK hx) hK' a' w' (hF'.unmark o) hS'
         ·have:=h a w hF hS
          simpa only [iK,item] using this
   |ops p i=>
    simp only [runY] at h
    simp only [iK,item]
    split at h
    ·have:=h a w hF hS
     simpa only [iK,item] using this
    ·split at h
     ·rename_i hi
      have hge:(opsOf (sub B p)).size≤i:=by
       rcases jN i (opsOf (sub B p)).size with h'|h'
       ·simp [h'] at hi
       ·exact h'
      rw [Nat.sub_eq_zero_of_le hge]
      exact WT.step (λcs=>stepR_region_end) (ih k L K hQK h a w hF hS)
     ·rename_i o ho
      have hlt:i<(opsOf (sub B p)).size:=by
       rcases jN i (opsOf (sub B p)).size with h'|h'
       ·exact h'
       ·rw [kY h'] at ho;cases ho
      split at h
      ·have:=h a w hF hS
       simpa only [iK,item] using this
      ·rename_i g hgs
       split at h
       ·rename_i v pr ps hq
        have hq:=qB_some hq
        obtain ⟨hps,ht⟩:=needs_holds h
        rw [range'_drop hlt]
        have next:=ih (.ops p (i+1)::k) _ K hQK ht
        rcases quiet_step D hT hF hS hgs hq hps with ⟨hw,hqq,hF'⟩|⟨hw,hF'⟩
        ·exact WT.op ho hw (hqq w hS) hS λw' hS'=>next _ w' (hF'.fixMark o L) hS'
        ·exact WT.op_skip ho hw (next _ w (hF'.fixMark o L) hS)
       ·split at h
        ·rename_i c b _
         split at h
         ·rename_i s t pe hl
          cases hnb:kH n 1000000 with
          |false=>
           rw [hnb] at h
           simp only [cond_false] at h
           have:=h a w hF hS
           simpa only [iK,item] using this
          |true=>
           rw [hnb] at h
           simp only [cond_true] at h
           have hnn:=iU hnb
           obtain ⟨hA,hSk⟩:=guardTree_holds h
           obtain ⟨g1,g2,g3⟩:=gs_spec hgs
           obtain ⟨hm,hs⟩:=look_mem hl
           have ht:=(hF.ents _ hm trivial).1
           simp only at hs
           subst hs
           simp only at ht
           by_cases htb:t=b
           ·subst htb
            have hw:jL o (yielded (opsOf (sub B p)) a.tmps)=true:=(wanted_iff g1).2 ht
            have hA:=hA rfl
            split at hA
            ·rename_i A he
             rw [range'_drop hlt]
             exact estep_sound D hT hext ho hw g2 (hF.known hnn ht) hS he hA λv pr K' hK' hx _ a' w' _ hF' hS'=>ih (.ops p (i+1)::k) _ K' (hQ _ _ hQK hx) hK' a' w' (hF'.unmark o) hS'
            ·have:=hA a w hF hS
             simpa only [iK,item] using this
           ·have htn:t=!b:=by cases t<;>cases b<;>simp at htb ⊢
            have hw:jL o (yielded (opsOf (sub B p)) a.tmps)=false:=by
             cases hw:jL o (yielded (opsOf (sub B p)) a.tmps) with
             |false=>rfl
             |true=>
              have:=(wanted_iff g1).1 hw
              simp only [GV] at this
              rw [ht] at this
              injection this with this
              exact absurd this htb
            rw [htn] at ht
            rw [range'_drop hlt]
            exact WT.op_skip ho hw (ih (.ops p (i+1)::k) _ K hQK (hSk htn) _ w ((hF.known hnn ht).put g2 (λ_ _ _ _ h=>by cases h) λ_=>⟨rfl,pOk_no⟩) hS)
         ·have:=h a w hF hS
          simpa only [iK,item] using this
        ·split at h
         ·rename_i t he
          rw [range'_drop hlt]
          obtain ⟨g1,g2,_⟩:=gs_spec hgs
          exact estep_sound D hT hext ho ((wanted_iff g1).2 trivial) g2 hF hS he h λv pr K' hK' hx _ a' w' _ hF' hS'=>ih (.ops p (i+1)::k) _ K' (hQ _ _ hQK hx) hK' a' w' (hF'.unmark o) hS'
         ·have:=h a w hF hS
          simpa only [iK,item] using this
theorem run_sound {P:Program} {T:List (Nat×Entry σ)} (hT:TableOk D P T) {I:List Nat} (hmix:P.follows .mixedOrders=true) (fuel:Nat) {f:Fq} {rs:List ResultVar} {B:Code} {R:Ending→World→Prop} {n:Nat} {E:Ev} {G:Hp}
 (hf:(f.pl∧∃fn,P.funcs[f.id]? =some fn∧rs=fn.results.toList)∨(rounds I=true∧∀(L:List Ent) (K:List (Chunk σ)),resVals P L K rs=none)) {Q:List (Chunk σ)→Prop} (hQ:KMono Q)
 {R':Value→Pr→List (Chunk σ)→Prop} (hR:∀v p K w,R' v p K→Q K→KOk K→pOk K v p→SatK D E G w K→R (.returned v) w)
 (td:List Ab) (L:List Ent) (K:List (Chunk σ)) (hK:Q K) (h:(run P T I fuel B rs n td L K).holds R' (SW D P f R B n E G)):SW D P f R B n E G td L K:=
 runY_sound D hT (Y:= λ_ _=>none) hmix fuel (λ_ _ _ _ h=>by cases h) hf hQ hR td L K hK h
end
section
open Go.RowKit
variable {σ:Type} (D:Addr→σ→Asn)
theorem calls_runM {mk:List Nat} {P:Program} {T:List (Nat×Entry σ)} (hT:TableOk D P T) {I:List Nat} {f:FuncId} {fn:Func} {B:Code} {n:Nat} {R:Ending→World→Prop} {E:Ev} {G:Hp} {w:World} (hfn:P.funcs[f]? =some fn) (hmix:P.follows .mixedOrders=true)
 (hB:fn.body=some B) (hn:fn.ntmps=n) (args:List (Value×Pr)) (hlen:kH args.length n=true) {K:List (Chunk σ)} (hp:∀x∈args,pOk K x.1 x.2) (hk:KOk K) (hS:SatK D E G w K)
 {R':Value→Pr→List (Chunk σ)→Prop} (hR:∀v p K w,R' v p K→SatK D E G w K→R (.returned v) w) (fuel:Nat) {t:Tree σ} (hrun:run P T I fuel B fn.results.toList n [.code []] (markL n mk (argEnts 0 args)) K=t)
 (ht:t.holds R' (SW D P f R B n E G)):Calls P f (args.map (·.1)).toArray w R:=by
 refine calls_of_WT hfn hB ?_
 have hgo:=run_sound D hT (I:=I) hmix fuel (f:=(f:Fq)) (rs:=fn.results.toList) (B:=B) (R:=R) (n:=n) (E:=E) (G:=G) (.inl ⟨rfl,fn,hfn,rfl⟩) (Q:= λ_=>True) (λ_ _ _ _=>trivial) (R':=R') (λv p K w h1 _ _ _ h2=>hR v p K w h1 h2) [.code []] (markL n mk (argEnts 0 args)) K trivial (by rw [hrun];exact ht)
 have hst:=(Fr.start (n:=n) args (iU hlen) hp hk).markL mk
 subst hn
 exact hgo _ w hst hS
theorem ret_ok {R:Value→Pr→List (Chunk σ)→Prop} {S:List Ab→List Ent→List (Chunk σ)→Prop} {v:Value} {p:Pr} {K:List (Chunk σ)} (h:R v p K):(Tree.ret v p K).holds R S:=h
def bodyOf (f:Func):Code:=f.body.getD .skip
theorem SW.loop {P:Program} {f:Fq} {R:Ending→World→Prop} {B:Code} {n:Nat} {E:Ev} {G:Hp} {α:Type} {td:List Ab} (Lf:α→List Ent) (Kf:α→List (Chunk σ)) (m:α→Nat) (I:α→Prop)
 (H:∀s,I s→(∀s',I s'→m s'<m s→SW D P f R B n E G td (Lf s') (Kf s'))→SW D P f R B n E G td (Lf s) (Kf s)):∀s,I s→SW D P f R B n E G td (Lf s) (Kf s):=by
 have key:∀k s,m s=k→I s→SW D P f R B n E G td (Lf s) (Kf s):=by
  intro k
  induction k using pW with
  |_ k ih=>exact λs hs hI=>H s hI λs' hI' hlt=>ih (m s') (by omega) s' rfl hI'
 exact λs hI=>key _ s rfl hI
theorem SW.enter {P:Program} {f:Fq} {R:Ending→World→Prop} {B:Code} {n:Nat} {E:Ev} {G:Hp} {p:List Nat} {td:List Ab} {L:List Ent} {K:List (Chunk σ)} (hc:Code.loop (Sl.sub B (0::p))=Sl.sub B p) (h:SW D P f R B n E G (.code (0::p):: .again p::td) L K):SW D P f R B n E G (.code p::td) L K:=by
 intro a w hF hS
 have:=h a w hF hS
 simp only [iK,item] at this ⊢
 rw [←hc]
 exact WT.step (λcs=>stepR_loop) this
theorem SW.again {P:Program} {f:Fq} {R:Ending→World→Prop} {B:Code} {n:Nat} {E:Ev} {G:Hp} {p:List Nat} {td:List Ab} {L:List Ent} {K:List (Chunk σ)} (h:SW D P f R B n E G (.code (0::p):: .again p::td) L K):SW D P f R B n E G (.again p::td) L K:=by
 intro a w hF hS
 exact WT.step (λcs=>stepR_inLoop) (h a w hF hS)
theorem SW.sub {P:Program} {f:Fq} {R:Ending→World→Prop} {B:Code} {n:Nat} {E:Ev} {G:Hp} {td:List Ab} {L L':List Ent} {K:List (Chunk σ)} (h:SW D P f R B n E G td L' K) (hs:∀e∈L',e∈L):SW D P f R B n E G td L K:=
 λa w hF hS=>h a w (hF.sub hs) hS
theorem keepL_mem {ks:List Nat} {L:List Ent} {e:Ent} (h:e∈keepL ks L):e∈L:=by
 induction L with
 |nil=>simp [keepL] at h
 |cons x r ih=>
  simp only [keepL] at h
  cases hb:ks.any (iM x.s) with
  |true=>rw [hb] at h;simp only [cond_true,iG] at h;rcases h with rfl|h; · simp
         ·simp [ih h]
  |false=>rw [hb] at h;simp only [cond_false] at h;simp [ih h]
theorem SW.keep {P:Program} {f:Fq} {R:Ending→World→Prop} {B:Code} {n:Nat} {E:Ev} {G:Hp} {td:List Ab} {L L':List Ent} {K:List (Chunk σ)} (ks:List Nat) (hk:keepL ks L=L') (h:SW D P f R B n E G td L' K):SW D P f R B n E G td L K:=
 SW.sub D h λe he=>keepL_mem (ks:=ks) (by rw [hk];exact he)
theorem SW.run {P:Program} {T:List (Nat×Entry σ)} (hT:TableOk D P T) {I:List Nat} {f:FuncId} {fn:Func} {B:Code} {R:Ending→World→Prop} {n:Nat} {E:Ev} {G:Hp} (hfn:P.funcs[f]? =some fn) (hmix:P.follows .mixedOrders=true)
 {R':Value→Pr→List (Chunk σ)→Prop} (hR:∀v p K w,R' v p K→SatK D E G w K→R (.returned v) w) (fuel:Nat) {td:List Ab} {L:List Ent} {K:List (Chunk σ)} {t:Tree σ} (hrun:Sl.run P T I fuel B fn.results.toList n td L K=t)
 (ht:t.holds R' (SW D P f R B n E G)):SW D P f R B n E G td L K:=
 run_sound D hT (I:=I) hmix fuel (f:=(f:Fq)) (.inl ⟨rfl,fn,hfn,rfl⟩) (Q:= λ_=>True) (λ_ _ _ _=>trivial) (λv p K w h1 _ _ _ h2=>hR v p K w h1 h2) td L K trivial (by rw [hrun];exact ht)
end
section
open Go.RowKit
theorem cT {α:Type} {c:Bool} {a b:α} (h:c=true):(bif c then a else b)=a:=by rw [h];rfl
theorem cF {α:Type} {c:Bool} {a b:α} (h:c=false):(bif c then a else b)=b:=by rw [h];rfl
variable {σ:Type} (D:Addr→σ→Asn)
theorem Sat0.pick {E:World} {G:Hp} {w:World} {As Bs:List Asn0} (h:Sat0 E G w As) (is:List Nat) (hn:is.Nodup) (hB:∀(i:Nat) (B:Asn0),Bs[i]? =some B→(∃j,is[i]? =some j∧As[j]? =some B)∨∀k,B k):Sat0 E G w Bs:=by
 obtain ⟨h1,h2,o,h3,h4⟩:=h
 refine ⟨h1,h2,ownIn o is, λb i hb=>?_, λi B hi=>?_⟩
 ·unfold ownIn at hb
  split at hb
  ·rename_i j ho;exact h3 b j ho
  ·cases hb
 ·rcases hB i B hi with ⟨j,hj,hA⟩|hk
  ·rw [←part_congr (w:=w) (o:=o) (i:=j)]
   ·exact h4 j B hA
   ·intro b
    refine ⟨⟨λhb=>?_, λhb=>?_⟩, λ_=>rfl⟩
    ·unfold ownIn;rw [hb];exact (idx_of hn).2 hj
    ·unfold ownIn at hb
     split at hb
     ·rename_i j' ho
      have:=(idx_of hn).1 hb
      rw [hj] at this;injection this with this;subst this;exact ho
     ·cases hb
  ·exact hk _
theorem Sat.pick {E:Ev} {G:Hp} {w:World} {As Bs:List Asn} (h:Sat E G w As) (is:List Nat) (hn:is.Nodup) (hB:∀(i:Nat) (B:Asn),Bs[i]? =some B→(∃j,is[i]? =some j∧As[j]? =some B)∨∀Y k,E.z.le Y→B Y k):Sat E G w Bs:=by
 obtain ⟨Z,hz,hw,h0⟩:=h
 exact ⟨Z,hz,hw,h0.pick is hn λi B hi=>by
  obtain ⟨C,h1,rfl⟩:=get_map hi
  rcases hB i C h1 with ⟨j,h2,h3⟩|h2
  ·exact .inl ⟨j,h2,map_get h3⟩
  ·exact .inr λk Y hY=>h2 Y k (hz.low.trans hY)⟩
def nilRow:Chunk σ→Bool
 | .row none _ 0 0 cols=>!cols.isEmpty&&cols.all λc=>iM c.len 0
 | .ro none 0 0 cols=>fzB cols&&cols.all λc=>iM c.len 0
 |_=>false
def stripCs:List (Value×Pr)→List (Value×Pr)
 |[]=>[]
 |x::r=>(x.1, .no)::stripCs r
def stripC:Chunk σ→Chunk σ
 | .cells b t cs=> .cells b t (stripCs cs)
 |c=>c
theorem stripCs_fst:∀cs:List (Value×Pr),(stripCs cs).map (·.1)=cs.map (·.1)
 |[]=>rfl
 |x::r=>by simp [stripCs,stripCs_fst r]
theorem strip_den {G:Hp} (c:Chunk σ):den D G (stripC c)=den D G c:=by
 cases c<;>simp [stripC,den,stripCs_fst]
def fzOf:Chunk σ→Chunk σ
 | .row a _ n cap [.ints .i64 xs]=> .ro (a.map λb=>⟨b,0,none⟩) n cap [.fz xs]
 |c=>stripC c
def isFzC:Chunk σ→Bool
 | .ro _ _ _ cols=>fzB cols
 |_=>false
def normC (c d:Chunk σ):Chunk σ:=bif isFzC c then fzOf d else stripC d
def got (K:List (Chunk σ)):List Nat→List (Chunk σ)→Prop
 |[],[]=>True
 |i::is,c::cs=>((K[i]?).map (normC c)=some (stripC c)∨nilRow c=true)∧got K is cs
 |_,_=>False
theorem nilRow_den {G:Hp} {c:Chunk σ} (h:nilRow c=true) (Y k:Hp):den D G c Y k:=by
 unfold nilRow at h
 split at h
 ·rename_i t cols
  simp only [iE,jO,List.isEmpty_eq_false_iff,kP] at h
  refine ⟨λc hc=>iJ (h.2 c hc),?_,rfl,rfl⟩
  exact List.length_pos_iff.2 h.1
 ·rename_i cols
  simp only [iE,kP] at h
  exact ⟨⟨λc hc=>iJ (h.2 c hc), λi hi=>by omega,oM _⟩,kF _, λc _ i hi=>absurd hi (mX i)⟩
 ·cases h
theorem got_get {K:List (Chunk σ)}:∀{is:List Nat} {cs:List (Chunk σ)},got K is cs→∀(i:Nat) c,cs[i]? =some c→(∃j d,is[i]? =some j∧K[j]? =some d∧normC c d=stripC c)∨nilRow c=true
 |[],[],_,i,c,hi=>by simp at hi
 |[],_::_,h,_,_,_=>by simp [got] at h
 |_::_,[],h,_,_,_=>by simp [got] at h
 |j::is,c0::cs,h,i,c,hi=>by
  simp only [got] at h
  cases i with
  |zero=>
   simp at hi;subst hi
   rcases h.1 with h|h
   ·rw [Option.map_eq_some_iff] at h
    obtain ⟨d,h1,h2⟩:=h
    exact .inl ⟨j,d,by simp,h1,h2⟩
   ·exact .inr h
  |succ i=>simpa using got_get h.2 i c (by simpa using hi)
theorem cell_flat {h:Hp} {b:Nat} {t:TypeId} {n cap:Nat} {xs:LI} {cs:Array Value} (hb:h b=some (.cells cs t (0,0))) (hn:n≤cap) (hm:cap≤maxLen) (hl:xs.length=n) (hf:cs.toList.take (n*1)=flat [.ints .i64 xs] n):RowAt h (some ⟨b,0,none⟩) n [.fz xs]:=by
 refine ⟨λc hc=>by rw [iY] at hc;subst hc;exact hl, λi hi=>⟨⟨b,0,none⟩,rfl, λj c hj=>?_⟩,mE hn hm⟩
 cases j with
 |succ j=>simp at hj
 |zero=>
  simp at hj;subst hj
  have hg:=flat_get (cols:=[.ints .i64 xs]) (n:=n) (i:=i) (j:=0) (c:= .ints .i64 xs) hi rfl
  rw [←hf,lC] at hg
  simp only [jR,oK,lV,Nat.mul_one,oE] at hg
  rw [if_pos hi] at hg
  have hadd:(⟨b,0,none⟩:Addr).add (i*[iS xs].length+0)=⟨b,i,none⟩:=by
   unfold Addr.add
   split
   ·rename_i e;simp at e;subst e;rfl
   ·simp
  rw [hadd]
  simp only [cellOf,hb,Option.isSome_none,mK,if_false]
  have hg':cs[i]? =some ((Col.ints .i64 xs).at i):=by simpa using hg
  exact hg'
theorem rowAt_nil {h:Hp} {xs:LI} (hl:xs.length=0):RowAt h none 0 [.fz xs]:=
 ⟨λc hc=>by rw [iY] at hc;subst hc;exact hl, λi hi=>by omega,oM _⟩
theorem SatK.fz {E:Ev} {G:Hp} {w:World} {K:List (Chunk σ)} (h:SatK D E G w K) {i:Nat} {d:Chunk σ} (hi:K[i]? =some d):SatK D E G w (K.set i (fzOf d)):=by
 have easy:∀c':Chunk σ,den D G c'=den D G d→SatK D E G w (K.set i c'):= λc' e=>by
  unfold SatK
  rw [kW,e]
  have:(K.map (den D G)).set i (den D G d)=K.map (den D G):=by
   refine nZ λj=>?_
   by_cases hij:i=j
   ·subst hij
    rw [iX (by simpa using lt_of_get hi),map_den_get D hi]
   ·rw [jD hij]
  rw [this];exact h
 unfold fzOf
 split
 ·rename_i a t n cap xs
  cases a with
  |some b=>
  unfold SatK
  rw [kW]
  refine Sat.freeze h (b:=b) (map_den_get D hi) λY k hk=>?_
  obtain ⟨h1,h2,cs,h4,h5,h6,h7,h8⟩:=hk
  exact ⟨_,h4, λY' k' hy=>⟨cell_flat hy h5 h6 (h1 (.ints .i64 xs) (by simp)) (by simpa using h8),h5,subs_fz⟩⟩
  |none=>
  unfold SatK
  rw [kW]
  refine Sat.imp h λj B hB=>?_
  by_cases hij:i=j
  ·subst hij
   rw [iX (by simpa using lt_of_get hi)] at hB
   injection hB with hB;subst hB
   refine ⟨_,map_den_get D hi, λY k hk=>?_⟩
   obtain ⟨h1,h2,h3⟩:=hk
   obtain ⟨rfl,rfl⟩:n=0∧cap=0:=h3
   exact ⟨rowAt_nil (h1 (.ints .i64 xs) (by simp)),kF _,subs_fz⟩
  ·rw [jD hij] at hB
   exact ⟨B,hB, λ_ _ h=>h⟩
 ·exact easy _ (strip_den D d)
theorem SatK.fzs {E:Ev} {G:Hp} {w:World} {f:Nat→Bool}:∀(n:Nat) {K:List (Chunk σ)},SatK D E G w K→∃K',SatK D E G w K'∧K'.length=K.length∧∀(i:Nat) d,K[i]? =some d→K'[i]? =some (bif decide (i<n)&&f i then fzOf d else d)
 |0,K,h=>⟨K,h,rfl, λi d hi=>by rw [hi];simp⟩
 |n+1,K,h=>by
  obtain ⟨K1,h1,hl,h2⟩:=SatK.fzs (f:=f) n h
  have other:∀i,i≠n→decide (i<n+1)=decide (i<n):= λi hi=>by rw [decide_eq_decide];omega
  cases hd:K[n]? with
  |none=>
   refine ⟨K1,h1,hl, λi d hi=>?_⟩
   rw [h2 i d hi,other i (λe=>by subst e;rw [hd] at hi;cases hi)]
  |some d=>
   have hdn:K1[n]? =some d:=by rw [h2 n d hd];simp
   cases hf:f n with
   |false=>
    refine ⟨K1,h1,hl, λi d' hi=>?_⟩
    by_cases hin:i=n
    ·subst hin
     rw [hd] at hi;injection hi with hi;subst hi
     rw [hdn,hf,oX];rfl
    ·rw [h2 i d' hi,other i hin]
   |true=>
    refine ⟨K1.set n (fzOf d),SatK.fz D h1 hdn,by simpa using hl, λi d' hi=>?_⟩
    by_cases hin:i=n
    ·subst hin
     rw [hd] at hi;injection hi with hi;subst hi
     rw [iX (lt_of_get hdn),hf]
     simp
    ·rw [jD (λe=>hin e.symm),h2 i d' hi,other i hin]
theorem SatK.got {E:Ev} {G:Hp} {w:World} {K cs:List (Chunk σ)} (h:SatK D E G w K) {is:List Nat} (hn:is.Nodup) (hg:got K is cs):SatK D E G w cs:=by
 obtain ⟨K1,h1,hl,h2⟩:=SatK.fzs D (f:= λj=>(jQ cs.length).any λi=>(is[i]? ==some j)&&(match cs[i]? with|some c=>isFzC c|none=>false)) K.length h
 refine Sat.pick h1 is hn λi B hi=>?_
 rw [iR] at hi
 cases hc:cs[i]? with
 |none=>rw [hc] at hi;cases hi
 |some c=>
  rw [hc] at hi;injection hi with hi;subst hi
  rcases got_get hg i c hc with ⟨j,d,g1,g2,g3⟩|h
  ·left
   refine ⟨j,g1,?_⟩
   have hil:=lt_of_get hc
   have hjl:decide (j<K.length)=true:=decide_eq_true (lt_of_get g2)
   rw [iR,h2 j d g2,hjl,nR]
   have hfj:((jQ cs.length).any λi=>(is[i]? ==some j)&&(match cs[i]? with|some c=>isFzC c|none=>false))=isFzC c:=by
    rw [lT,nE]
    constructor
    ·rintro ⟨i',_,hx⟩
     simp only [iE,beq_iff_eq] at hx
     obtain ⟨e1,e2⟩:=hx
     have hii:i'=i:=by
      have a:=(idx_of hn).2 e1
      have b:=(idx_of hn).2 g1
      rw [a] at b;injection b
     subst hii
     rw [hc] at e2;exact e2
    ·intro hx
     exact ⟨i,by simpa using hil,by simp [g1,hc,hx]⟩
   rw [hfj]
   unfold normC at g3
   cases hz:isFzC c with
   |true=>
    rw [hz] at g3
    simp only [cond_true,iT] at g3 ⊢
    rw [g3,strip_den D c]
   |false=>
    rw [hz] at g3
    simp only [cond_false,iT] at g3 ⊢
    rw [←strip_den D c,←g3,strip_den D d]
  ·exact .inr λY k _=>nilRow_den D h Y k
abbrev Anc:=Option Nat×Nat×Nat×Option Addr
def ancV (m:Mk σ) (x:Anc):Value:=
 match m with
 | .row _ cols=>bif fzB cols then .slice x.2.2.2 x.2.1 x.2.2.1 else sliceVal x.1 x.2.1 x.2.2.1
 | .obj _=> .pointer (x.1.map λb=>⟨b,0,none⟩)
def ancC (m:Mk σ) (x:Anc):Chunk σ:=
 match m with
 | .row t cols=>bif fzB cols then .ro x.2.2.2 x.2.1 x.2.2.1 cols else .row x.1 t x.2.1 x.2.2.1 cols
 | .obj s=>match x.1 with
   |some b=> .obj ⟨b,0,none⟩ s
   |none=> .dead
def ancOk:List (Mk σ)→List Anc→Bool
 |[],[]=>true
 | .row _ _::rs,_::xs=>ancOk rs xs
 | .obj _::rs,(some _,0,0,_)::xs=>ancOk rs xs
 |_,_=>false
def RetOk (out:List Value→Value) (nw:List (Chunk σ)) (rows:List (Mk σ)) (v:Value) (_p:Pr) (K:List (Chunk σ)):Prop:=
 ∃(anc:List Anc) (is:List Nat),is.Nodup∧ancOk rows anc=true∧v=out (jI ancV rows anc)∧
  got K is (nw++jI ancC rows anc)
def Post (E:Ev) (G:Hp) (out:List Value→Value) (nw:List (Chunk σ)) (rows:List (Mk σ)):Ending→World→Prop:= λen w'=>
 ∃acs:List (Option Nat×Nat),acsOk rows acs∧en= .returned (out (jI sliceV rows acs))∧Sat E G w' (nw.map (den D G)++(jI sliceC rows acs).map (den D G))
def ancA (m:Mk σ) (x:Anc):Option Nat×Nat:=
 match m with
 | .row _ cols=>(bif fzB cols then x.2.2.2.map encA else x.1,x.2.2.1)
 | .obj _=>(x.1,x.2.2.1)
theorem dec_map (a:Option Addr):(a.map encA).map decA=a:=by cases a<;>simp [decA_enc]
theorem rows_anc:∀(rows:List (Mk σ)) (anc:List Anc),ancOk rows anc=true→(∀(j:Nat) t cols x,rows[j]? =some (.row t cols)→anc[j]? =some x→x.2.1=lenC cols)→
 jI sliceV rows (jI ancA rows anc)=jI ancV rows anc∧jI sliceC rows (jI ancA rows anc)=jI ancC rows anc∧acsOk rows (jI ancA rows anc)
 |[],[],_,_=>by simp [acsOk]
 |[],_::_,h,_=>by simp [ancOk] at h
 |r::_,[],h,_=>by cases r<;>simp [ancOk] at h
 | .row t cols::rows,x::anc,h,hl=>by
   have h0:=hl 0 t cols x rfl rfl
   obtain ⟨h1,h2,h3⟩:=rows_anc rows anc (by simpa [ancOk] using h) λj t' c' x' hr hx=>hl (j+1) t' c' x' (by simpa using hr) (by simpa using hx)
   refine ⟨?_,?_,trivial,h3⟩
   ·simp only [lH,h1,sliceV,ancV,ancA]
    cases hf:fzB cols with
    |true=>simp only [cond_true,dec_map,h0]
    |false=>simp only [cond_false,h0]
   ·simp only [lH,h2,sliceC,ancC,ancA]
    cases hf:fzB cols with
    |true=>simp only [cond_true,dec_map,h0]
    |false=>simp only [cond_false,h0]
 | .obj s::rows,x::anc,h,hl=>by
   obtain ⟨a,n,c,d⟩:=x
   match a,n,c,h with
   |some b,0,0,h=>
    obtain ⟨h1,h2,h3⟩:=rows_anc rows anc (by simpa [ancOk] using h) λj t' c' x' hr hx=>hl (j+1) t' c' x' (by simpa using hr) (by simpa using hx)
    refine ⟨?_,?_,⟨b,rfl⟩,h3⟩
    ·simp only [lH,h1,sliceV,ancV,ancA]
    ·simp only [lH,h2,sliceC,ancC,ancA]
theorem RetOk.post {E:Ev} {G:Hp} {w:World} {out:List Value→Value} {nw:List (Chunk σ)} {rows:List (Mk σ)} {v:Value} {p:Pr} {K:List (Chunk σ)} (h:RetOk out nw rows v p K) (hS:SatK D E G w K):Post D E G out nw rows (.returned v) w:=by
 obtain ⟨anc,is,hn,hl,rfl,hg⟩:=h
 have hS':=hS.got D hn hg
 have hk:∀(j:Nat) t cols x,rows[j]? =some (.row t cols)→anc[j]? =some x→x.2.1=lenC cols:= λj t cols x hr hx=>by
  have hj:(nw++jI ancC rows anc)[nw.length+j]? =some (bif fzB cols then jV x.2.2.2 x.2.1 x.2.2.1 cols else nI x.1 t x.2.1 x.2.2.1 cols):=by
   rw [iQ (by omega),show nw.length+j-nw.length=j by omega,List.getElem?_zipWith,hr,hx];rfl
  cases hf:fzB cols with
  |true=>
   rw [hf] at hj
   obtain ⟨_,p,_,⟨g1,_⟩,_⟩:=hS'.get D hj
   cases hc:cols with
   |nil=>rw [hc] at hf;cases hf
   |cons c cs=>rw [hc] at g1;exact (g1.1 c (by simp)).symm
  |false=>
   rw [hf] at hj
   obtain ⟨_,p,_,⟨g1,g2,_⟩,_⟩:=hS'.get D hj
   cases hc:cols with
   |nil=>rw [hc] at g2;simp at g2
   |cons c cs=>rw [hc] at g1;exact (g1 c (by simp)).symm
 obtain ⟨h1,h2,h3⟩:=rows_anc rows anc hl hk
 refine ⟨jI ancA rows anc,h3,by rw [h1],?_⟩
 rw [h2,←jG]
 exact hS'
def Chunk.roOk (G Z:Hp):Chunk σ→Prop
 | .ro a n cap cols=>RowAt (bif fzB cols then Z else G) a n cols∧(bif fzB cols then n≤cap∧subs Z n cols else n≤cap)
 | .roc b t vs=>G b=some (.cells vs.toArray t (0,0))
 |_=>False
def rosOk (G Z:Hp):List (Chunk σ)→Prop
 |[]=>True
 |c::cs=>c.roOk G Z∧rosOk G Z cs
theorem rosOk_mem {G Z:Hp}:∀{cs:List (Chunk σ)},rosOk G Z cs→∀c∈cs,c.roOk G Z
 |[],_,c,hc=>by simp at hc
 |c0::cs,h,c,hc=>by
  simp only [iG] at hc
  rcases hc with rfl|hc
  ·exact h.1
  ·exact rosOk_mem h.2 c hc
theorem SatK.ros {E:Ev} {G:Hp} {w:World} {K ros:List (Chunk σ)} (h:SatK D E G w K) (hr:rosOk G E.z ros):SatK D E G w (K++ros):=by
 refine Sat.pick h (jQ K.length) pO λi B hi=>?_
 rw [iR] at hi
 cases hc:(K++ros)[i]? with
 |none=>rw [hc] at hi;cases hi
 |some c=>
  rw [hc] at hi;injection hi with hi;subst hi
  rcases jN i K.length with hl|hl
  ·rw [iO hl] at hc
   exact .inl ⟨i,by simp [hl],by rw [iR,hc];rfl⟩
  ·rw [iQ hl] at hc
   have:=rosOk_mem hr c (jC hc)
   refine .inr λY k hY=>?_
   cases c with
   |ro a n cap cols=>
    have h1:=this.1
    have h2:=this.2
    cases hf:fzB cols with
    |true=>
     rw [hf] at h1 h2
     refine ⟨?_,h2.1,subs_mono hY h2.2⟩
     rw [hf]
     exact RowAt.mono hY h1
    |false=>
     rw [hf] at h1 h2
     refine ⟨?_,h2,subs_no hf⟩
     rw [hf]
     exact h1
   |roc b t vs=>exact this
   |_=>exact this.elim
def noCells:List (Chunk σ)→Bool
 |[]=>true
 | .cells _ _ _::_=>false
 |_::cs=>noCells cs
theorem KOk_of:∀{K:List (Chunk σ)},noCells K=true→KOk K:=by
 intro K h k b t cs hk
 exfalso
 have:jA b t cs∈K:=jC hk
 clear hk
 induction K with
 |nil=>simp at this
 |cons c cs' ih=>
  simp only [iG] at this
  rcases this with rfl|this
  ·simp [noCells] at h
  ·refine ih ?_ this
   cases c<;>simp only [noCells] at h<;>first|exact h|cases h
theorem psOk_get {K:List (Chunk σ)}:∀{vs:List Value} {ps:List Pr},psOk K vs ps→∀x∈mP vs ps,pOk K x.1 x.2
 |[],[],_,x,hx=>by simp at hx
 |[],_::_,h,_,_=>by simp [psOk] at h
 |_::_,[],h,_,_=>by simp [psOk] at h
 |v::vs,p::ps,h,x,hx=>by
  simp only [psOk] at h
  simp only [pD,iG] at hx
  rcases hx with rfl|hx
  ·exact h.1
  ·exact psOk_get h.2 x hx
theorem psOk_len {K:List (Chunk σ)}:∀{vs:List Value} {ps:List Pr},psOk K vs ps→vs.length=ps.length
 |[],[],_=>rfl
 |[],_::_,h=>by simp [psOk] at h
 |_::_,[],h=>by simp [psOk] at h
 |v::vs,p::ps,h=>by simp [psOk] at h;simp [psOk_len h.2]
theorem calls_postM {mk:List Nat} {P:Program} {T:List (Nat×Entry σ)} (hT:TableOk D P T) {I:List Nat} {f:FuncId} {fn:Func} {B:Code} {E:Ev} {G:Hp} {w:World} (hfn:P.funcs[f]? =some fn) (hmix:P.follows .mixedOrders=true)
 (hB:fn.body=some B) (vs:List Value) (ps:List Pr) (hlen:kH vs.length fn.ntmps=true) {objs ros:List (Chunk σ)} (hp:psOk (objs++ros) vs ps) (hk:noCells (objs++ros)=true) (hr:rosOk G E.z ros) (hS:SatK D E G w objs)
 {out:List Value→Value} {nw:List (Chunk σ)} {rows:List (Mk σ)} (fuel:Nat) {t:Tree σ}
 (hrun:run P T I fuel B fn.results.toList fn.ntmps [.code []] (markL fn.ntmps mk (argEnts 0 (mP vs ps))) (objs++ros)=t)
 (ht:t.holds (RetOk out nw rows) (SW D P f (Post D E G out nw rows) B fn.ntmps E G)):Calls P f vs.toArray w (Post D E G out nw rows):=by
 have hl:=psOk_len hp
 have:=calls_runM D (mk:=mk) hT hfn hmix hB rfl (mP vs ps) (by simpa [hl] using hlen) (K:=objs++ros) (psOk_get hp) (KOk_of hk) (hS.ros D hr) (R':=RetOk out nw rows) (λv p K w' h hS'=>h.post D hS') fuel hrun ht
 simpa [List.map_fst_zip,hl] using this
theorem calls_post {P:Program} {T:List (Nat×Entry σ)} (hT:TableOk D P T) {I:List Nat} {f:FuncId} {fn:Func} {B:Code} {E:Ev} {G:Hp} {w:World} (hfn:P.funcs[f]? =some fn) (hmix:P.follows .mixedOrders=true)
 (hB:fn.body=some B) (vs:List Value) (ps:List Pr) (hlen:kH vs.length fn.ntmps=true) {objs ros:List (Chunk σ)} (hp:psOk (objs++ros) vs ps) (hk:noCells (objs++ros)=true) (hr:rosOk G E.z ros) (hS:SatK D E G w objs)
 {out:List Value→Value} {nw:List (Chunk σ)} {rows:List (Mk σ)} (fuel:Nat) {t:Tree σ}
 (hrun:run P T I fuel B fn.results.toList fn.ntmps [.code []] (argEnts 0 (mP vs ps)) (objs++ros)=t)
 (ht:t.holds (RetOk out nw rows) (SW D P f (Post D E G out nw rows) B fn.ntmps E G)):Calls P f vs.toArray w (Post D E G out nw rows):=
 calls_postM D (mk:=[]) hT hfn hmix hB vs ps hlen hp hk hr hS fuel hrun ht
theorem SW.go {P:Program} {T:List (Nat×Entry σ)} (hT:TableOk D P T) {I:List Nat} {f:FuncId} {fn:Func} {B:Code} {E:Ev} {G:Hp} (hfn:P.funcs[f]? =some fn) (hmix:P.follows .mixedOrders=true)
 {out:List Value→Value} {nw:List (Chunk σ)} {rows:List (Mk σ)} (fuel:Nat) {td:List Ab} {L:List Ent} {K:List (Chunk σ)} {t:Tree σ} (hrun:Sl.run P T I fuel B fn.results.toList fn.ntmps td L K=t)
 (ht:t.holds (RetOk out nw rows) (SW D P f (Post D E G out nw rows) B fn.ntmps E G)):SW D P f (Post D E G out nw rows) B fn.ntmps E G td L K:=
 SW.run D hT hfn hmix (λ_ _ _ _ h hS=>h.post D hS) fuel hrun ht
theorem RetOk.at {α:Type} {outf:α→List Value→Value} {nwf:α→List (Chunk σ)} {rowsf:α→List (Mk σ)} {r r0:α} {v:Value} {p:Pr} {K:List (Chunk σ)} (h:r=r0) (x:RetOk (outf r) (nwf r) (rowsf r) v p K):RetOk (outf r0) (nwf r0) (rowsf r0) v p K:=h▸x
def pickL:List Nat→List Ent→List Ent
 |[],_=>[]
 |k::ks,L=>match look L k with
  |some e=>e::pickL ks L
  |none=>pickL ks L
theorem pickL_mem {L:List Ent}:∀{ks:List Nat} {e:Ent},e∈pickL ks L→e∈L
 |[],e,h=>by simp [pickL] at h
 |k::ks,e,h=>by
  simp only [pickL] at h
  split at h
  ·rename_i e' he
   simp only [iG] at h
   rcases h with rfl|h
   ·exact (look_mem he).1
   ·exact pickL_mem h
  ·exact pickL_mem h
theorem SW.pick {P:Program} {f:FuncId} {R:Ending→World→Prop} {B:Code} {n:Nat} {E:Ev} {G:Hp} {td:List Ab} {L L':List Ent} {K:List (Chunk σ)} (ks:List Nat) (hk:pickL ks L=L') (h:SW D P f R B n E G td L' K):SW D P f R B n E G td L K:=
 SW.sub D h λe he=>pickL_mem (ks:=ks) (by rw [hk];exact he)
def posN (k:Nat):List Nat→Nat→Option Nat
 |[],_=>none
 |i::is,j=>bif iM i k then some j else posN k is (j+1)
theorem posN_get {k:Nat}:∀{is:List Nat} {m j:Nat},posN k is m=some j→∃i,j=m+i∧is[i]? =some k
 |[],_,_,h=>by simp [posN] at h
 |i::is,m,j,h=>by
  simp only [posN] at h
  cases hb:iM i k with
  |true=>rw [hb] at h;simp at h;exact ⟨0,by omega,by simp [iJ hb]⟩
  |false=>
   rw [hb] at h
   obtain ⟨i',h1,h2⟩:=posN_get (by simpa using h)
   exact ⟨i'+1,by omega,by simpa using h2⟩
mutual
def renP (is:List Nat):Pr→Pr
 | .no=> .no
 | .pt k pk=>match posN k is 0 with
   |some j=> .pt j pk
   |none=> .no
 | .many ps=> .many (renPs is ps)
 | .box p=> .box (renP is p)
def renPs (is:List Nat):List Pr→List Pr
 |[]=>[]
 |p::ps=>renP is p::renPs is ps
end
def renCs (is:List Nat):List (Value×Pr)→List (Value×Pr)
 |[]=>[]
 |x::r=>(x.1,renP is x.2)::renCs is r
def renC (is:List Nat):Chunk σ→Chunk σ
 | .cells b t cs=> .cells b t (renCs is cs)
 |c=>c
def renK0 (is:List Nat) (K:List (Chunk σ)):List Nat→List (Chunk σ)
 |[]=>[]
 |i::r=>(match K[i]? with
  |some c=>renC is c
  |none=> .dead)::renK0 is K r
def renK (is:List Nat) (K:List (Chunk σ)):List (Chunk σ):=renK0 is K is
def renL (is:List Nat):List Ent→List Ent
 |[]=>[]
 |e::r=>⟨e.s,e.g,e.v,renP is e.p⟩::renL is r
theorem renK0_get {is:List Nat} {K:List (Chunk σ)}:∀{js:List Nat} {j i:Nat} {c:Chunk σ},js[j]? =some i→K[i]? =some c→(renK0 is K js)[j]? =some (renC is c)
 |[],_,_,_,h,_=>by simp at h
 |i0::r,0,i,c,h,hk=>by simp at h;subst h;simp [renK0,hk]
 |i0::r,j+1,i,c,h,hk=>by simp only [renK0,kD] at h ⊢;exact renK0_get h hk
theorem renK0_of {is:List Nat} {K:List (Chunk σ)}:∀{js:List Nat} {j:Nat} {c:Chunk σ},(renK0 is K js)[j]? =some c→∃i,js[j]? =some i∧((∃d,K[i]? =some d∧c=renC is d)∨c= .dead)
 |[],_,_,h=>by simp [renK0] at h
 |i0::r,0,c,h=>by
  simp [renK0] at h
  refine ⟨i0,by simp,?_⟩
  cases hk:K[i0]? with
  |none=>rw [hk] at h;exact .inr h.symm
  |some d=>rw [hk] at h;exact .inl ⟨d,rfl,h.symm⟩
 |i0::r,j+1,c,h=>by
  simp only [renK0,kD] at h ⊢;exact renK0_of h
theorem renC_cOk {is:List Nat} {c:Chunk σ} {v:Value} {pk:PK} (h:cOk c v pk):cOk (renC is c) v pk:=by
 cases c<;>first|exact h|(cases pk<;>first|exact h|exact h.elim)
theorem renCs_fst {is:List Nat}:∀cs:List (Value×Pr),(renCs is cs).map (·.1)=cs.map (·.1)
 |[]=>rfl
 |x::r=>by simp [renCs,renCs_fst r]
theorem renC_den {is:List Nat} {G:Hp} {c:Chunk σ}:den D G (renC is c)=den D G c:=by
 cases c<;>simp [renC,den,renCs_fst]
mutual
theorem renP_ok {K:List (Chunk σ)} {is:List Nat}:∀(v:Value) (p:Pr),pOk K v p→pOk (renK is K) v (renP is p)
 |_, .no,_=>by simp [pOk,renP]
 |v, .pt k pk,h=>by
  simp only [pOk] at h
  obtain ⟨c,h1,h2⟩:=h
  simp only [renP]
  cases hp:posN k is 0 with
  |none=>simp [pOk]
  |some j=>
   obtain ⟨i,h3,h4⟩:=posN_get hp
   have:j=i:=by omega
   subst this
   exact pOk_pt.2 ⟨_,renK0_get h4 h1,renC_cOk h2⟩
 |v, .many ps,h=>by
  cases v<;>simp only [pOk,renP] at h ⊢
  all_goals exact renPs_ok _ ps h
 |v, .box p,h=>by
  cases v<;>simp only [pOk,renP] at h ⊢
  exact renP_ok _ p h
theorem renPs_ok {K:List (Chunk σ)} {is:List Nat}:∀(vs:List Value) (ps:List Pr),psOk K vs ps→psOk (renK is K) vs (renPs is ps)
 |[],[],_=>by simp [psOk,renPs]
 |[],_::_,h=>by simp [psOk] at h
 |_::_,[],h=>by simp [psOk] at h
 |v::vs,p::ps,h=>by
  simp only [psOk,renPs] at h ⊢
  exact ⟨renP_ok v p h.1,renPs_ok vs ps h.2⟩
end
theorem renCs_mem {is:List Nat}:∀{cs:List (Value×Pr)} {x:Value×Pr},x∈renCs is cs→∃y∈cs,x=(y.1,renP is y.2)
 |[],x,h=>by simp [renCs] at h
 |y::r,x,h=>by
  simp only [renCs,iG] at h
  rcases h with rfl|h
  ·exact ⟨y,by simp,rfl⟩
  ·obtain ⟨z,h1,h2⟩:=renCs_mem h
   exact ⟨z,by simp [h1],h2⟩
theorem renL_mem {is:List Nat}:∀{L:List Ent} {e:Ent},e∈renL is L→∃y∈L,e=⟨y.s,y.g,y.v,renP is y.p⟩
 |[],x,h=>by simp [renL] at h
 |y::r,x,h=>by
  simp only [renL,iG] at h
  rcases h with rfl|h
  ·exact ⟨y,by simp,rfl⟩
  ·obtain ⟨z,h1,h2⟩:=renL_mem h
   exact ⟨z,by simp [h1],h2⟩
theorem renK_kok {K:List (Chunk σ)} {is:List Nat} (h:KOk K):KOk (renK is K):= λk b t cs hk x hx=>by
 obtain ⟨i,_,⟨d,h1,h2⟩|h2⟩:=renK0_of hk
 ·cases d<;>simp only [renC] at h2<;>first|cases h2|skip
  obtain ⟨y,hy,rfl⟩:=renCs_mem hx
  exact renP_ok _ _ (h _ _ _ _ h1 y hy)
 ·cases h2
theorem SW.move {P:Program} {f:FuncId} {R:Ending→World→Prop} {B:Code} {n:Nat} {E:Ev} {G:Hp} {td:List Ab} {L L':List Ent} {K K':List (Chunk σ)} (ks is:List Nat) (hn:is.Nodup) (hk:renL is (pickL ks L)=L') (hK:renK is K=K')
 (h:SW D P f R B n E G td L' K'):SW D P f R B n E G td L K:=by
 subst hk;subst hK
 intro a w hF hS
 refine h a w ⟨renK_kok hF.kok,hF.defers,hF.size, λe he=>?_, λe he=>?_⟩ ?_
 rotate_left
 ·obtain ⟨y,hy,rfl⟩:=renL_mem he
  exact hF.skipd y (pickL_mem hy)
 rotate_right
 ·obtain ⟨y,hy,rfl⟩:=renL_mem he
  intro hg
  obtain ⟨h1,h2⟩:=hF.ents y (pickL_mem hy) hg
  exact ⟨h1,renP_ok _ _ h2⟩
 ·refine Sat.pick hS is hn λi B hi=>?_
  rw [iR] at hi
  cases hc:(renK is K)[i]? with
  |none=>rw [hc] at hi;cases hi
  |some c=>
   rw [hc] at hi;injection hi with hi;subst hi
   obtain ⟨j,h1,⟨d,h2,h3⟩|h3⟩:=renK0_of hc
   ·exact .inl ⟨j,h1,by rw [iR,h2,h3,renC_den D];rfl⟩
   ·subst h3;exact .inr λ_ _ _=>trivial
theorem pOk_at {K:List (Chunk σ)} {v:Value} {k:Nat} {pk:PK} {c:Chunk σ} (h1:K[k]? =some c) (h2:cOk c v pk):pOk K v (.pt k pk):=pOk_pt.2 ⟨c,h1,h2⟩
theorem psOk_nil {K:List (Chunk σ)}:psOk K [] []:=by simp [psOk]
theorem psOk_cons {K:List (Chunk σ)} {v:Value} {p:Pr} {vs:List Value} {ps:List Pr} (h:pOk K v p) (hs:psOk K vs ps):psOk K (v::vs) (p::ps):=by
 unfold psOk;exact ⟨h,hs⟩
theorem entry_post {P:Program} {f:FuncId} {args:List (Value×Info σ)} {pre:List Prop} {new:Option σ} {rows:List (Mk σ)} {out:List Value→Value} {outp:Nat→Pr} {E:Ev} {G:Hp} {w:World} {nw:List (Chunk σ)}
 (hn:nw.map (den D G)=newAs D args new) (h:Calls P f (args.map (·.1)).toArray w (Post D E G out nw rows)):
 Calls P f (args.map (·.1)).toArray w λen w'=>∃acs:List (Option Nat×Nat),acsOk (Res.rows ⟨pre,new,rows,out,outp⟩) acs∧
  en= .returned ((Res.out ⟨pre,new,rows,out,outp⟩) (jI sliceV (Res.rows ⟨pre,new,rows,out,outp⟩) acs))∧Sat E G w' (newAs D args (Res.new ⟨pre,new,rows,out,outp⟩)++(jI sliceC (Res.rows ⟨pre,new,rows,out,outp⟩) acs).map (den D G)):=by
 rw [←hn];exact h
theorem RowAt.bound {G:Hp} {a:Option Addr} {n:Nat} {cols:List Col} (h:RowAt G a n cols):n≤9223372036854775807:=h.2.2
theorem RowAt.len {G:Hp} {a:Option Addr} {n:Nat} {c:Col} {cols:List Col} (h:RowAt G a n (c::cols)):c.len=n:=h.1 c (by simp)
abbrev pn_:Pr:= .no
abbrev ps_ (k:Nat):Pr:= .pt k .slice
abbrev po_ (k:Nat):Pr:= .pt k .obj
abbrev ob_ (a:Option Nat):Option Addr:=a.map λb=>{block:=b,off:=0}
abbrev vi_ (x:Int):Value:= .int .i64 x
abbrev vs_ (a:Option Addr) (n c:Nat):Value:= .slice a n c
abbrev ci_ (xs:LI):Col:= .ints .i64 xs
abbrev cu_ (xs:LI):Col:= .ints .u32 xs
abbrev kr_ {σ:Type} (a:Option Nat) (t:TypeId) (n cap:Nat) (cols:List Col):Chunk σ:= .row a t n cap cols
abbrev kc_ {σ:Type} (b:Nat) (t:TypeId) (cs:List (Value×Pr)):Chunk σ:= .cells b t cs
end
section
open Go.RowKit
def star0 (As:List Asn0):Asn0:= λh=>∃o:Nat→Option Nat,∀(i:Nat) (A:Asn0),As[i]? =some A→A (λb=>if o b=some i then h b else none)
theorem Sat0.star {E:World} {G:Hp} {w:World} {As:List Asn0} (h:Sat0 E G w As):Sat0 E G w [Sl.star0 As]:=by
 obtain ⟨h1,h2,o,h3,h4⟩:=h
 refine ⟨h1,h2, λb=>match o b with|some _=>some 0|none=>none, λb i hb=>?_, λi A hi=>?_⟩
 ·dsimp only at hb
  cases ho:o b with
  |none=>simp [ho] at hb
  |some j=>exact h3 b j ho
 ·have hi0:i=0:=by
   rcases nN i with h0|h0
   ·exact h0
   ·rw [jP (by simp;omega)] at hi;cases hi
  subst hi0
  simp only [jJ,iC] at hi
  subst hi
  refine ⟨o, λi A hA=>?_⟩
  have:=h4 i A hA
  have e:(λb=>if o b=some i then part w (λb=>match o b with|some _=>some 0|none=>none) 0 b else none)=part w o i:=by
   funext b
   unfold part
   cases ho:o b with
   |none=>simp
   |some j=>by_cases hj:j=i<;>simp [hj,ho]
  rw [e];exact this
theorem Sat0.star_append {E:World} {G:Hp} {w:World} {As Bs:List Asn0} (h:Sat0 E G w (As++Bs)):Sat0 E G w (Sl.star0 As::Bs):=by
 obtain ⟨h1,h2,o,h3,h4⟩:=h
 let o':Nat→Option Nat:= λb=>match o b with|some i=>if i<As.length then some 0 else some (i-As.length+1)|none=>none
 refine ⟨h1,h2,o', λb i hb=>?_, λi A hi=>?_⟩
 ·simp only [o'] at hb
  cases ho:o b with
  |none=>simp [ho] at hb
  |some j=>exact h3 b j ho
 ·cases i with
  |zero=>
   simp only [jJ,iC] at hi
   subst hi
   refine ⟨o, λi A hA=>?_⟩
   have hil:i<As.length:=by
    rcases jN i As.length with h'|h'
    ·exact h'
    ·rw [jP h'] at hA;cases hA
   have:=h4 i A (by rw [iO hil];exact hA)
   have e:(λb=>if o b=some i then part w o' 0 b else none)=part w o i:=by
    funext b
    unfold part
    by_cases ho:o b=some i
    ·simp [o',ho,hil]
    ·simp [ho]
   rw [e];exact this
  |succ i=>
   simp only [kD] at hi
   have:=h4 (As.length+i) A (by rw [iQ (by omega)];simpa using hi)
   rw [part_congr (w':=w) (o':=o') (j:=i+1)] at this
   ·exact this
   ·intro b
    refine ⟨⟨λhb=>?_, λhb=>?_⟩, λ_=>rfl⟩
    ·have:¬(As.length+i<As.length):=by omega
     simp only [o',hb,this,if_false]
     congr 1;omega
    ·simp only [o'] at hb
     cases ho:o b with
     |none=>simp [ho] at hb
     |some j=>
      rw [ho] at hb
      dsimp only at hb
      split at hb
      ·cases hb
      ·injection hb with hb;congr 1;omega
def star (As:List Asn):Asn:= λY h=>∃o:Nat→Option Nat,∀(i:Nat) (A:Asn),As[i]? =some A→∀Y2,Y.le Y2→A Y2 (λb=>if o b=some i then h b else none)
theorem upZ_star {Z:Hp} {As:List Asn}:upZ Z (star As)=star0 (As.map (upZ Z)):=by
 funext k
 apply propext
 constructor
 ·intro h
  obtain ⟨o,ho⟩:=h Z (Hp.le_refl Z)
  refine ⟨o, λi A hi=>?_⟩
  obtain ⟨C,h1,rfl⟩:=get_map hi
  exact λY hY=>ho i C h1 Y hY
 ·rintro ⟨o,ho⟩ Y hY
  exact ⟨o, λi A hi Y2 h2=>ho i _ (map_get hi) Y2 (hY.trans h2)⟩
theorem star_up {As:List Asn} {Y Y2 h:Hp} (hY:Y.le Y2) (hs:star As Y h):star As Y2 h:=by
 obtain ⟨o,ho⟩:=hs
 exact ⟨o, λi A hi Y3 h3=>ho i A hi Y3 (hY.trans h3)⟩
section
variable {E:Ev} {G:Hp} {w:World} {As Bs:List Asn}
theorem Sat.star (h:Sat E G w As):Sat E G w [Sl.star As]:=by
 obtain ⟨Z,hz,hw,h0⟩:=h
 refine ⟨Z,hz,hw,?_⟩
 simp only [iK,mA,upZ_star]
 exact h0.star
theorem Sat.star_append (h:Sat E G w (As++Bs)):Sat E G w (Sl.star As::Bs):=by
 obtain ⟨Z,hz,hw,h0⟩:=h
 refine ⟨Z,hz,hw,?_⟩
 rw [jG] at h0
 simp only [iK,upZ_star]
 exact h0.star_append
theorem Sat.to_exists_cons {α:Type} {p:α→Prop} {A:α→Asn} (x:α) (hp:p x) (h:Sat E G w (A x::Bs)):Sat E G w ((λY k=>∃x,p x∧A x Y k)::Bs):=by
 refine h.imp λi B hB=>?_
 cases i with
 |zero=>
  simp only [jJ,iC] at hB
  subst hB
  exact ⟨A x,rfl, λY k hk=>⟨x,hp,hk⟩⟩
 |succ i=>exact ⟨B,by simpa using hB, λ_ _ h=>h⟩
end
variable {σ:Type} (D:Addr→σ→Asn)
def setNil (s k:Nat):List Ent→List Ent
 |[]=>[]
 |e::r=>bif iM e.s s then (match e.v with
  | .slice none 0 0=>⟨e.s,e.g,e.v, .pt k .slice⟩::setNil s k r
  |_=>e::setNil s k r) else e::setNil s k r
theorem setNil_ok {K:List (Chunk σ)} {t:TypeId} {cols:List Col} {tm:Array Value} {s:Nat}:∀{L:List Ent},(∀e∈L,e.ok K tm)→∀e∈setNil s K.length L,e.ok (K++[.row none t 0 0 cols]) tm
 |[],_,e,he=>by simp [setNil] at he
 |x::r,hL,e,he=>by
  have ih:=setNil_ok (t:=t) (cols:=cols) (s:=s) (L:=r) (λe he=>hL e (by simp [he]))
  have hx:x.ok (K++[.row none t 0 0 cols]) tm:= λhg=>let ⟨h1,h2⟩:=hL x (by simp) hg;⟨h1,h2.ext (KExt.append K _)⟩
  simp only [setNil] at he
  cases hb:iM x.s s with
  |false=>
   rw [hb] at he
   simp only [cond_false,iG] at he
   rcases he with rfl|he
   ·exact hx
   ·exact ih e he
  |true=>
   rw [hb] at he
   simp only [cond_true] at he
   split at he
   ·rename_i hv
    simp only [iG] at he
    rcases he with rfl|he
    ·intro hg
     refine ⟨(hx hg).1,?_⟩
     simp only [hv]
     exact pOk_pt.2 ⟨_,kM,rfl⟩
    ·exact ih e he
   ·simp only [iG] at he
    rcases he with rfl|he
    ·exact hx
    ·exact ih e he
theorem setNil_skip {k s:Nat} {tm:Array Value}:∀{L:List Ent},(∀e∈L,¬GV tm e.g→tm.getD e.s undef=undef)→∀e∈setNil s k L,¬GV tm e.g→tm.getD e.s undef=undef
 |[],_,e,he=>by simp [setNil] at he
 |x::r,hL,e,he=>by
  have ih:=setNil_skip (k:=k) (s:=s) (L:=r) (λe he=>hL e (by simp [he]))
  have hx:=hL x (by simp)
  simp only [setNil] at he
  cases hb:iM x.s s with
  |false=>
   rw [hb] at he
   simp only [cond_false,iG] at he
   rcases he with rfl|he
   ·exact hx
   ·exact ih e he
  |true=>
   rw [hb] at he
   simp only [cond_true] at he
   split at he
   ·simp only [iG] at he
    rcases he with rfl|he
    ·exact hx
    ·exact ih e he
   ·simp only [iG] at he
    rcases he with rfl|he
    ·exact hx
    ·exact ih e he
theorem SW.nil {P:Program} {f:FuncId} {R:Ending→World→Prop} {B:Code} {n:Nat} {E:Ev} {G:Hp} {td:List Ab} {L:List Ent} {K:List (Chunk σ)} (s:Nat) (t:TypeId) (cols:List Col) (hc:nilRow (nI (σ:=σ) none t 0 0 cols)=true)
 (h:SW D P f R B n E G td (setNil s K.length L) (K++[.row none t 0 0 cols])):SW D P f R B n E G td L K:=by
 intro a w hF hS
 refine h a w ⟨hF.kok.row,hF.defers,hF.size,setNil_ok hF.ents,setNil_skip hF.skipd⟩ ?_
 refine Sat.pick hS (jQ K.length) pO λi B hi=>?_
 rw [iR] at hi
 cases hq:(K++[nI (σ:=σ) none t 0 0 cols])[i]? with
 |none=>rw [hq] at hi;cases hi
 |some c=>
  rw [hq] at hi;injection hi with hi;subst hi
  rcases jN i K.length with hl|hl
  ·rw [iO hl] at hq
   exact .inl ⟨i,by simp [hl],by rw [iR,hq];rfl⟩
  ·rw [iQ hl] at hq
   have:c= .row none t 0 0 cols:=by
    have:=jC hq
    simpa using this
   subst this
   exact .inr (λY k _=>nilRow_den D hc Y k)
def setNilC (K:List (Chunk σ)) (k off:Nat):List (Chunk σ):=
 match K[k]? with
 |some (.cells b t cs)=>match cs[off]? with
  |some (.slice none 0 0,_)=>K.set k (.cells b t (cs.set off (.slice none 0 0, .pt K.length .slice)))
  |_=>K
 |_=>K
theorem SW.nilc {P:Program} {f:FuncId} {R:Ending→World→Prop} {B:Code} {n:Nat} {E:Ev} {G:Hp} {td:List Ab} {L:List Ent} {K:List (Chunk σ)} (k off:Nat) (t:TypeId) (cols:List Col) (hc:nilRow (nI (σ:=σ) none t 0 0 cols)=true)
 (h:SW D P f R B n E G td L (setNilC K k off++[.row none t 0 0 cols])):SW D P f R B n E G td L K:=by
 have h1:SW D P f R B n E G td L (K++[.row none t 0 0 cols]):=by
  unfold setNilC at h
  split at h
  ·rename_i b t0 cs hk
   split at h
   ·rename_i p0 ho
    intro a w hF hS
    have hkl:=lt_of_get hk
    have hk':(K++[nI (σ:=σ) none t 0 0 cols])[k]? =some (.cells b t0 cs):=by rw [iO hkl];exact hk
    have hset:K.set k (.cells b t0 (cs.set off (.slice none 0 0, .pt K.length .slice)))++[nI (σ:=σ) none t 0 0 cols]=(K++[nI (σ:=σ) none t 0 0 cols]).set k (.cells b t0 (cs.set off (.slice none 0 0, .pt K.length .slice))):=by
     rw [List.set_append_left _ _ hkl]
    rw [hset] at h
    have hcmp:∀v pk,cOk (jA (σ:=σ) b t0 cs) v pk→cOk (jA (σ:=σ) b t0 (cs.set off (.slice none 0 0, .pt K.length .slice))) v pk:= λv pk hv=>by cases pk<;>exact hv
    refine h a w (hF.ext (KExt.set hk' hcmp) (hF.kok.set hk' hcmp λb' t' cs' e x hx=>?_)) ?_
    ·injection e with _ _ e;subst e
     rcases pR hx with hx|hx
     ·exact hF.kok _ _ _ _ hk' x hx
     ·subst hx
      exact pOk_pt.2 ⟨_,kM,rfl⟩
    ·unfold SatK at hS ⊢
     have e:(cs.set off (.slice none 0 0,jW K.length .slice)).map (·.1)=cs.map (·.1):=by
      apply nZ
      intro j
      simp only [iR,List.getElem?_set]
      by_cases hj:off=j
      ·subst hj
       rw [ho]
       simp [lt_of_get ho]
      ·simp [hj]
     have:((K++[nI (σ:=σ) none t 0 0 cols]).set k (.cells b t0 (cs.set off (.slice none 0 0, .pt K.length .slice)))).map (den D G)=(K++[nI (σ:=σ) none t 0 0 cols]).map (den D G):=by
      apply nZ
      intro j
      simp only [iR,List.getElem?_set]
      by_cases hj:k=j
      ·subst hj
       rw [hk']
       simp [den,e]
       omega
      ·simp [hj]
     rw [this];exact hS
   ·exact h
  ·exact h
 intro a w hF hS
 refine h1 a w (hF.ext (KExt.append K _) hF.kok.row) ?_
 refine Sat.pick hS (jQ K.length) pO λi B hi=>?_
 rw [iR] at hi
 cases hq:(K++[nI (σ:=σ) none t 0 0 cols])[i]? with
 |none=>rw [hq] at hi;cases hi
 |some c=>
  rw [hq] at hi;injection hi with hi;subst hi
  rcases jN i K.length with hl|hl
  ·rw [iO hl] at hq
   exact .inl ⟨i,by simp [hl],by rw [iR,hq];rfl⟩
  ·rw [iQ hl] at hq
   have:c= .row none t 0 0 cols:=by
    have:=jC hq
    simpa using this
   subst this
   exact .inr (λY k _=>nilRow_den D hc Y k)
def cellsAll (K:List (Chunk σ)):List (Chunk σ)→Prop
 |[]=>True
 | .cells _ _ cs::r=>psOk K (cs.map (·.1)) (cs.map (·.2))∧cellsAll K r
 |_::r=>cellsAll K r
theorem psOk_pairs {K:List (Chunk σ)}:∀{cs:List (Value×Pr)},psOk K (cs.map (·.1)) (cs.map (·.2))→∀x∈cs,pOk K x.1 x.2
 |[],_,x,hx=>by simp at hx
 |y::r,h,x,hx=>by
  simp only [iK,psOk] at h
  simp only [iG] at hx
  rcases hx with rfl|hx
  ·exact h.1
  ·exact psOk_pairs h.2 x hx
theorem KOk_all {K:List (Chunk σ)} (h:cellsAll K K):KOk K:=by
 intro k b t cs hk
 have key:∀(l:List (Chunk σ)),cellsAll K l→jA b t cs∈l→psOk K (cs.map (·.1)) (cs.map (·.2)):=by
  intro l
  induction l with
  |nil=>intro _ hm;simp at hm
  |cons c r ih=>
   intro hl hm
   simp only [iG] at hm
   rcases hm with rfl|hm
   ·exact hl.1
   ·refine ih ?_ hm
    cases c<;>first|exact hl.2|exact hl
 exact psOk_pairs (key K h (jC hk))
def fzAt (K:List (Chunk σ)) (k:Nat):List (Chunk σ):=
 match K[k]? with
 |some (.row a t n c cols)=>K.set k (fzOf (.row a t n c cols))
 |_=>K
theorem fzOf_cok {a:Option Nat} {t:TypeId} {n cap:Nat} {cols:List Col} (v:Value) (pk:PK) (h:cOk (nI (σ:=σ) a t n cap cols) v pk):cOk (fzOf (nI (σ:=σ) a t n cap cols)) v pk:=by
 unfold fzOf
 split
 ·rename_i heq
  injection heq with e1 e2 e3 e4 e5
  subst e1;subst e3;subst e4;subst e5
  cases pk<;>first|exact h|exact h.elim|skip
  obtain ⟨h1,b,h2,h3⟩:=h
  subst h2
  exact ⟨h1,_,rfl,h3⟩
 ·exact h
theorem SW.fzAt {P:Program} {f:FuncId} {R:Ending→World→Prop} {B:Code} {n:Nat} {E:Ev} {G:Hp} {td:List Ab} {L:List Ent} {K:List (Chunk σ)} (k:Nat)
 (h:SW D P f R B n E G td L (Sl.fzAt K k)):SW D P f R B n E G td L K:=by
 intro a w hF hS
 unfold Sl.fzAt at h
 split at h
 ·rename_i a0 t0 n0 c0 cols0 hk
  refine h a w (hF.ext (KExt.set hk fzOf_cok) (hF.kok.set hk fzOf_cok λb t cs e=>?_)) (SatK.fz D hS hk)
  unfold fzOf at e
  split at e<;>first|cases e|(simp [stripC] at e)
 ·exact h a w hF hS
end
section
open Go.RowKit Go.ChangeShapes Go.WideShapes Go.ChangeAt
def evOf (W:World):Ev:=⟨W, λb=>W.heap[b]?⟩
theorem Sat.start (W:World):Sat (evOf W) (λb=>W.heap[b]?) W []:=
 ⟨λb=>W.heap[b]?,⟨Hp.le_refl _, λb hb=> .inr hb⟩, λ_ _ h=>h,⟨rfl,rfl,rfl,kF _⟩,Hp.or_sub (λ_ _ h=>h) (λ_ _ h=>h), λ_=>none,⟨λ_ _ h=>(by cases h), λi A h=>(by simp at h)⟩⟩
theorem Sat.below {W W':World} {As:List Asn} (h:Sat (evOf W) (λb=>W.heap[b]?) W' As):Below W.heap.size W W':=
 ⟨h.env.os,h.env.tape,h.env.output,h.env.size, λk hk=>by
   have h1:(λb=>W.heap[b]?) k=some W.heap[k]:=by simp [hk]
   rw [h.sub k _ h1];simp [hk]⟩
section
variable {H:Type} {enc:TypeId×Value→H} {P:Program}
theorem trodAll_stays (hl:laidOutB P=true) {W W':World} (hb:Below W.heap.size W W') {sp:Nat→Bool}:∀(ts:List TypeId) (vs:List Value) (ds:List (DataW H)) (ps:List MemPlace),(∀t∈ts,P.readableRec t=true∧t<P.types.size)→
 DataW.TrodAll enc P W 0 (λ_=>true) true ts vs ds ps→(∀x∈ps,x.block<W.heap.size)→(∀x∈ps,sp x.block=true)→DataW.TrodAll enc P W' 0 sp true ts vs ds ps
 |[],vs,ds,ps,_,h,_,_=>by
  obtain ⟨rfl,rfl,rfl⟩:=trodAll_nil h
  exact trodAll_mk0
 |t::ts,vs,ds,ps,hr,h,hlt,hsp=>by
  obtain ⟨v,vs',d,ds',p,q,rfl,rfl,rfl,hd,hrest⟩:=trodAll_cons h
  obtain ⟨hr1,hr2⟩:=hr t (by simp)
  exact ⟨p,q,WideElems.Trod_stays hl hr1 hr2 hd (λx hx=>hb.same (hlt x (by simp [hx]))) (λx hx=>hsp x (by simp [hx])),
   trodAll_stays hl hb ts vs' ds' q (λt ht=>hr t (by simp [ht])) hrest (λx hx=>hlt x (by simp [hx])) (λx hx=>hsp x (by simp [hx])),rfl⟩
theorem law_post {f:Func} {s:ChangeSpec} {apart fresh handsOn:Bool} {W W':World} {args:Array Value} {ds gs:List (DataW H)} {before:List MemPlace} (tb:TypeId) (hl:laidOutB P=true)
 (hW:DataW.Whole enc P f.params.toList s.vars apart W args.toList ds gs before) (hv:s.vars=[]) (hres:f.resultTypes= #[tb]) (hb:P.underlying tb=some .bool)
 (hp:f.params.toList.all (λt=>P.readableRec t&&oD t P.types.size)=true) (hfn:(s.fn H ds).results=[.lit (.bool true)]∧(s.fn H ds).args=ds∧(s.fn H ds).vars=[])
 (hbel:Below W.heap.size W W'):s.post enc P f apart fresh handsOn false W args (.bool true) W':=by
 have hW2:=hW
 have hlt:∀x∈before,x.block<W.heap.size:= λx hx=>hW.lt x hx
 obtain ⟨p,q,hA,hV,hpq,_,_⟩:=hW
 rw [hv] at hV
 obtain ⟨hgs,hq⟩:=trodVars_none hV
 subst hgs;subst hq
 have hpp:before=p:=by rw [hpq];simp
 subst hpp
 have hr:∀t∈f.params.toList,P.readableRec t=true∧t<P.types.size:= λt ht=>by
  rw [kP] at hp
  have:=hp t ht
  simp only [iE] at this
  exact ⟨this.1,nD (Nat.lt_succ_self t) (iU this.2)⟩
 refine ⟨ds,[],before,[],before,[],by rw [hv] at hW2 ⊢;exact hW2,?_,?_,?_,World.keptBut_mono (λx hx=>⟨hx, .inr (.inl hx)⟩) (hbel.frame (· ∈before)), λh=>by cases h⟩
 ·rw [lF,hfn.1,hres]
  exact trodAll_mk1 (shut_bool hb true)
 ·rw [lF,hfn.2.1]
  exact trodAll_stays hl hbel _ _ _ _ hr hA hlt (λx hx=>by simpa using hlt x hx)
 ·rw [lF,hfn.2.2,hv]
  rfl
end
theorem bd_i64 {x:Int} (h:(Lit.int .i64 x).wf=true): -9223372036854775808≤x∧x<9223372036854775808:=by
 simp [Lit.wf,IntKind.min,IntKind.max,IntKind.signed,IntKind.bits] at h;omega
theorem bd_u32 {x:Int} (h:(Lit.int .u32 x).wf=true):0≤x∧x<4294967296:=by
 simp [Lit.wf,IntKind.min,IntKind.max,IntKind.signed,IntKind.bits] at h;omega
end
section
open Go.RowKit Go.ChangeShapes Go.WideShapes Go.ChangeAt
inductive Shp where
 |int (k:IntKind)
 |bool
def vIs:Shp→Value→Prop
 | .int k,v=>∃x,v= .int k x∧(Lit.int k x).wf=true
 | .bool,v=>∃b,v= .bool b
def cellsIs:List Shp→List Value→Prop
 |[],vs=>vs=[]
 |s::r,vs=>∃v vs',vs=v::vs'∧vIs s v∧cellsIs r vs'
def colIs (n:Nat):Shp→Col→Prop
 | .int k,c=>∃xs,c= .ints k xs∧xs.length=n∧∀x∈xs,(Lit.int k x).wf=true
 | .bool,c=>∃xs,c= .bools xs∧xs.length=n
def colsIs (n:Nat):List Shp→List Col→Prop
 |[],cs=>cs=[]
 |s::r,cs=>∃c cs',cs=c::cs'∧colIs n s c∧colsIs n r cs'
theorem cellsIs_append:∀{a b:List Shp} {u v:List Value},cellsIs a u→cellsIs b v→cellsIs (a++b) (u++v)
 |[],b,u,v,h,h'=>by rw [h];exact h'
 |s::r,b,u,v,⟨x,u',e,hx,h⟩,h'=>⟨x,u'++v,by rw [e];rfl,hx,cellsIs_append h h'⟩
theorem cellsIs_get:∀{sh:List Shp} {vs:List Value},cellsIs sh vs→∀(j:Nat) s,sh[j]? =some s→∃v,vs[j]? =some v∧vIs s v
 |[],_,_,j,s,hs=>by simp at hs
 |s0::r,_,⟨x,u',e,hx,h⟩,j,s,hs=>by
  subst e
  cases j with
  |zero=>simp at hs;subst hs;exact ⟨x,rfl,hx⟩
  |succ j=>exact cellsIs_get h j s (by simpa using hs)
section
variable (P:Program)
def shpFs (f:TypeId→Option (List Shp)):Nat→List Field→Option (List Shp)
 |_,[]=>some []
 |o,fd::fs=>bif iM fd.offset o then match f fd.type,shpFs f (o+P.cellsOf fd.type) fs with
   |some a,some b=>bif iM a.length (P.cellsOf fd.type) then some (a++b) else none
   |_,_=>none
  else none
def reps (s:List Shp):Nat→List Shp
 |0=>[]
 |n+1=>s++reps s n
def shpT:Nat→TypeId→Option (List Shp)
 |0,_=>none
 |d+1,t=>match P.underlying t with
  |some (.int k)=>some [.int k]
  |some .bool=>some [.bool]
  |some (.struct fs)=>match shpFs P (shpT d) 0 fs.toList with
   |some s=>bif iM s.length (P.cellsOf t) then some s else none
   |none=>none
  |some (.array n e)=>match shpT d e with
   |some s=>bif iM s.length (P.cellsOf e)&&iM (n*P.cellsOf e) (P.cellsOf t) then some (reps s n) else none
   |none=>none
  |_=>none
end
section
variable {H:Type} {enc:TypeId×Value→H} {P:Program} {w:World} {base:Nat} {sp:Nat→Bool} {held:Bool}
theorem shpFs_ok {f:TypeId→Option (List Shp)} {n:Nat} (hf:∀t sh cs x,f t=some sh→DataW.trod enc P w base sp held n t cs=some x→cellsIs sh cs) {cs:List Value}:
 ∀(fs:List Field) (o:Nat) (s:List Shp),shpFs P f o fs=some s→(∀fd∈fs,∃y,DataW.trod enc P w base sp held n fd.type ((cs.drop fd.offset).take (P.cellsOf fd.type))=some y)→cellsIs s ((cs.drop o).take s.length)
 |[],o,s,h,_=>by simp only [shpFs,iC] at h;subst h;simp [cellsIs]
 |fd::fs,o,s,h,hall=>by
  simp only [shpFs] at h
  cases ho:iM fd.offset o with
  |false=>rw [ho] at h;cases h
  |true=>
   rw [ho] at h
   have ho:=iJ ho
   simp only [cond_true] at h
   split at h
   ·rename_i a b ha hb
    cases hl:iM a.length (P.cellsOf fd.type) with
    |false=>rw [hl] at h;cases h
    |true=>
     rw [hl] at h
     have hl:=iJ hl
     simp only [cond_true,iC] at h
     subst h
     obtain ⟨y,hy⟩:=hall fd (by simp)
     have h1:=hf _ _ _ _ ha hy
     have h2:=shpFs_ok hf fs _ _ hb λfd' hfd=>hall fd' (by simp [hfd])
     have e:(cs.drop o).take (a++b).length=(cs.drop fd.offset).take (P.cellsOf fd.type)++(cs.drop (o+P.cellsOf fd.type)).take b.length:=by
      rw [jM,List.take_add,List.drop_drop,ho,hl]
     rw [e]
     exact cellsIs_append h1 h2
   ·cases h
theorem shpT_ok:∀(d:Nat) (t:TypeId) (sh:List Shp) (n:Nat) (cs:List Value) (x:DataW H×List MemPlace),shpT P d t=some sh→DataW.trod enc P w base sp held n t cs=some x→cellsIs sh cs
 |0,t,sh,n,cs,x,h,_=>by simp [shpT] at h
 |d+1,t,sh,n,cs,x,h,hx=>by
  simp only [shpT] at h
  split at h
  ·rename_i k hk
   injection h with h;subst h
   obtain ⟨m,rfl,_,hw⟩:=DataW.trod_int hk hx
   exact ⟨_,_,rfl,⟨m,rfl,hw⟩,rfl⟩
  ·rename_i hk
   injection h with h;subst h
   obtain ⟨b,rfl,_⟩:=DataW.trod_bool hk hx
   exact ⟨_,_,rfl,⟨b,rfl⟩,rfl⟩
  ·rename_i fs hk
   split at h
   ·rename_i s hs
    cases hl:iM s.length (P.cellsOf t) with
    |false=>rw [hl] at h;cases h
    |true=>
     rw [hl] at h
     have hl:=iJ hl
     simp only [cond_true,iC] at h
     subst h
     obtain ⟨xs,m,_,_,hlen,hxl,hf⟩:=DataW.trod_struct hk hx
     have:=shpFs_ok (n:=m) (cs:=cs) (λt' sh' cs' x' h1 h2=>shpT_ok d t' sh' m cs' x' h1 h2) fs.toList 0 s hs λfd hfd=>by
      obtain ⟨i,hi⟩:=mR hfd
      have hi':fs[i]? =some fd:=by simpa using hi
      have h1:=hf i fd hi'
      have hlt:i<xs.length:=by
       rw [hxl]
       rcases jN i fs.size with h'|h'
       ·exact h'
       ·rw [kY h'] at hi';cases hi'
      rw [iN hlt] at h1
      exact ⟨_,h1⟩
     rw [oH,hl,←hlen,pN] at this
     exact this
   ·cases h
  ·rename_i m e hk
   split at h
   ·rename_i s hs
    cases hl:(iM s.length (P.cellsOf e)&&iM (m*P.cellsOf e) (P.cellsOf t)) with
    |false=>rw [hl] at h;cases h
    |true=>
     rw [hl] at h
     simp only [iE] at hl
     have hl1:=iJ hl.1
     have hl2:=iJ hl.2
     simp only [cond_true,iC] at h
     subst h
     obtain ⟨xs,q,_,_,hlen,hxl,hf⟩:=DataW.trod_array hk hx
     have key:∀(j i:Nat),i+j=m→cellsIs (reps s j) ((cs.drop (i*P.cellsOf e)).take (j*P.cellsOf e)):=by
      intro j
      induction j with
      |zero=>intro i _;simp [reps,cellsIs]
      |succ j ih=>
       intro i hij
       have h1:=hf i (by omega)
       rw [iN (by omega)] at h1
       have h2:=shpT_ok d e s q _ _ hs h1
       have h3:=ih (i+1) (by omega)
       have e1:(cs.drop (i*P.cellsOf e)).take ((j+1)*P.cellsOf e)=(cs.drop (i*P.cellsOf e)).take (P.cellsOf e)++(cs.drop ((i+1)*P.cellsOf e)).take (j*P.cellsOf e):=by
        rw [show (j+1)*P.cellsOf e=P.cellsOf e+j*P.cellsOf e by rw [oN];omega,List.take_add,List.drop_drop,show i*P.cellsOf e+P.cellsOf e=(i+1)*P.cellsOf e by rw [oN]]
       rw [e1]
       exact cellsIs_append h2 h3
     have:=key m 0 (by omega)
     rw [Nat.zero_mul,oH,hl2,←hlen,pN] at this
     exact this
   ·cases h
  ·cases h
theorem open_flat {r:Reach} {b0:Nat} {t:TypeId} {v:Value} {dt:DataW H} {ps:List MemPlace} (d:Nat) (hs:(P.underlying t).any (λ | .struct _=>true| .array _ _=>true|_=>false)=true) {sh:List Shp} (hsh:shpT P d t=some sh)
 (hv:qF P w r b0 t v) (h:DataW.Trod enc P w base sp held t v dt ps):∃vs:List Value,v= .agg vs.toArray∧cellsIs sh vs:=by
 obtain ⟨fuel,hf⟩:=h
 have hc:=shpT_ok d t sh fuel _ _ hsh hf
 unfold qF at hv
 cases hu:P.underlying t with
 |none=>rw [hu] at hs;simp at hs
 |some ty=>
  rw [hu] at hs hv
  cases ty<;>simp at hs<;>(obtain ⟨cs,rfl,_,_⟩:=hv;exact ⟨cs.toList,by simp,hc⟩)
def colOf:Shp→(Nat→Value)→Nat→Col
 | .int k,V,n=> .ints k ((jQ n).map λi=>match V i with| .int _ x=>x|_=>0)
 | .bool,V,n=> .bools ((jQ n).map λi=>match V i with| .bool b=>b|_=>false)
theorem colOf_ok {s:Shp} {V:Nat→Value} {n:Nat} (h:∀i,i<n→vIs s (V i)):colIs n s (colOf s V n)∧(colOf s V n).len=n∧∀i,i<n→(colOf s V n).at i=V i:=by
 cases s with
 |int k=>
  refine ⟨⟨_,rfl,by simp, λx hx=>?_⟩,by simp [colOf,lJ], λi hi=>?_⟩
  ·obtain ⟨i,hi,rfl⟩:=kZ.1 hx
   obtain ⟨y,hy,hw⟩:=h i (lU.1 hi)
   rw [hy];exact hw
  ·obtain ⟨y,hy,hw⟩:=h i hi
   simp [colOf,Col.at,hi,hy]
 |bool=>
  refine ⟨⟨_,rfl,by simp⟩,by simp [colOf,lJ], λi hi=>?_⟩
  obtain ⟨y,hy⟩:=h i hi
  simp [colOf,Col.at,hi,hy]
def colsSh:List Shp→Nat→(Nat→List Value)→Nat→List Col
 |[],_,_,_=>[]
 |s::r,j,cs,n=>colOf s (λi=>(cs i).getD j undef) n::colsSh r (j+1) cs n
theorem colsSh_len:∀(sh:List Shp) (j:Nat) (cs:Nat→List Value) (n:Nat),(colsSh sh j cs n).length=sh.length
 |[],_,_,_=>rfl
 |_::r,j,cs,n=>by simp only [colsSh,jR,colsSh_len r]
theorem colsSh_ok {cs:Nat→List Value} {n:Nat}:∀(sh:List Shp) (j:Nat),(∀i,i<n→∀(m:Nat) s,sh[m]? =some s→vIs s ((cs i).getD (j+m) undef))→
 colsIs n sh (colsSh sh j cs n)∧∀(m:Nat) c,(colsSh sh j cs n)[m]? =some c→c.len=n∧∀i,i<n→c.at i=(cs i).getD (j+m) undef
 |[],j,_=>⟨rfl, λm c h=>by simp [colsSh] at h⟩
 |s::r,j,h=>by
  have h0:=colOf_ok (s:=s) (V:= λi=>(cs i).getD j undef) (n:=n) λi hi=>h i hi 0 s rfl
  obtain ⟨h1,h2⟩:=colsSh_ok (cs:=cs) (n:=n) r (j+1) λi hi m s' hm=>by
   have:=h i hi (m+1) s' (by simpa using hm)
   rwa [show j+(m+1)=j+1+m by omega] at this
  refine ⟨⟨_,_,rfl,h0.1,h1⟩, λm c hm=>?_⟩
  cases m with
  |zero=>simp only [colsSh,jJ,iC] at hm;subst hm;exact ⟨h0.2.1,h0.2.2⟩
  |succ m=>
   have:=h2 m c (by simpa [colsSh] using hm)
   rwa [show j+1+m=j+(m+1) by omega] at this
theorem cellOf_world (W:World) (a:Addr):cellOf (λb=>W.heap[b]?) a=W.cell? a:=rfl
theorem open_rows {r:Reach} {b0:Nat} {t e:TypeId} {v:Value} {dt:DataW H} {ps:List MemPlace} (d:Nat) (ht:P.underlying t=some (.slice e)) {sh:List Shp} (hsh:shpT P d e=some sh) (hce:P.cellsOf e=sh.length)
 (hv:qF P w r b0 t v) (h:DataW.Trod enc P w base sp held t v dt ps):
 ∃(a:Option Addr) (len cap:Nat) (cols:List Col),v= .slice a len cap∧colsIs len sh cols∧(RowAt (λb=>w.heap[b]?) a len cols∧len≤cap):=by
 obtain ⟨a0,len0,cap0,rfl⟩:=okWide_slice ht hv
 obtain ⟨fuel,hf⟩:=h
 rcases Go.Deep.open_slice ht hf with ⟨hcs,_⟩|⟨a,len,cap,m,n,Dt,Pl,hcs,hb,hl,hm,hmm,_,hx⟩
 ·simp only [Value.cells,lE,and_true] at hcs
  injection hcs with e1 e2 e3
  subst e1;subst e2;subst e3
  obtain ⟨h1,h2⟩:=colsSh_ok (cs:= λ_=>[]) (n:=0) sh 0 λi hi=>absurd hi (mX _)
  refine ⟨none,0,0,_,rfl,h1,⟨λc hc=>?_, λi hi=>absurd hi (mX _),oM _⟩,kF _⟩
  obtain ⟨k,hk⟩:=mR hc
  exact (h2 k c hk).1
 ·simp only [Value.cells,lE,and_true] at hcs
  injection hcs with e1 e2 e3
  subst e1;subst e2;subst e3
  have hml:len0≤m:=by rw [hmm];split<;>omega
  obtain ⟨cs,hcs⟩:=Go.Deep.choose_lt (α:=List Value) (p:= λi cs'=>w.cells? base (a.add (i*P.cellsOf e)) (P.cellsOf e)=some cs'∧DataW.trod enc P w base sp held n e cs'=some (Dt i,Pl i)) (n:=len0) λi hi=>hx i (by omega)
  have hcells:∀i,i<len0→cellsIs sh (cs i):= λi hi=>shpT_ok d e sh n _ _ hsh (hcs i hi).2
  obtain ⟨h1,h2⟩:=colsSh_ok (cs:=cs) (n:=len0) sh 0 λi hi k s hk=>by
   obtain ⟨x,hx1,hx2⟩:=cellsIs_get (hcells i hi) k s hk
   rw [lV,iD,hx1]
   exact hx2
  refine ⟨some a,len0,cap0,_,rfl,h1,⟨λc hc=>?_, λi hi=>⟨a,rfl, λj c hj=>?_⟩,by omega⟩,by omega⟩
  ·obtain ⟨k,hk⟩:=mR hc
   exact (h2 k c hk).1
  ·obtain ⟨_,hlen,hget⟩:=World.cells?_some (hcs i hi).1
   have hj':j<sh.length:=by
    have:=lt_of_get hj
    rwa [colsSh_len] at this
   rw [cellOf_world,colsSh_len,←hce,←Go.Deep.add_add,hget j (by omega),(h2 j c hj).2 i hi,lV,iD]
   rw [iN (by omega)]
   rfl
end
end
section
open Go.RowKit Go.ChangeShapes Go.WideShapes Go.ChangeAt
section
variable {H:Type} {enc:TypeId×Value→H} {P:Program} {w:World} {base:Nat} {sp:Nat→Bool} {held:Bool}
theorem bdI64 {x:Int} (h:(Lit.int .i64 x).wf=true): -9223372036854775808≤x∧x<9223372036854775808:=by
 simp [Lit.wf,IntKind.min,IntKind.max,IntKind.signed,IntKind.bits] at h;omega
theorem open_in {e1 e2:TypeId} (he1:P.underlying e1=some (.slice e2)) (he2:P.underlying e2=some (.int .i64)) (hc2:P.cellsOf e2=1) {fuel:Nat} {cs:List Value} {x:DataW H×List MemPlace} (h:DataW.trod enc P w base sp held fuel e1 cs=some x):
 ∃c:Int,cs=[.slice (slA c) (slR c).length (slC c)]∧(RowAt (λb=>w.heap[b]?) (slA c) (slR c).length [.fz (slR c)]∧(slR c).length≤slC c)∧∀y∈slR c, -9223372036854775808≤y∧y<9223372036854775808:=by
 rcases Go.Deep.open_slice he1 h with ⟨rfl,_⟩|⟨a,len,cap,m,n,Dt,Pl,rfl,hb,hl,hm,hmm,_,hx⟩
 ·refine ⟨slE none 0 [],?_,⟨⟨λc hc=>?_, λi hi=>?_,?_⟩,?_⟩, λy hy=>?_⟩
  all_goals simp only [slA_E,slR_E,slC_E,oK] at*
  ·rw [iY] at hc;subst hc;rfl
  ·omega
  ·exact oM _
  ·exact kF _
  ·cases hy
 ·have hml:len≤m:=by rw [hmm];split<;>omega
  obtain ⟨ys,hys⟩:=Go.Deep.choose_lt (α:=Int) (p:= λi y=>w.cells? base (a.add (i*P.cellsOf e2)) (P.cellsOf e2)=some [.int .i64 y]∧(Lit.int .i64 y).wf=true) (n:=len) λi hi=>by
   obtain ⟨cs',g1,g2⟩:=hx i (by omega)
   obtain ⟨y,rfl,_,hw⟩:=DataW.trod_int he2 g2
   exact ⟨y,g1,hw⟩
  refine ⟨slE (some a) cap ((jQ len).map ys),?_,⟨⟨λc hc=>?_, λi hi=>⟨a,?_, λj c hj=>?_⟩,?_⟩,?_⟩, λy hy=>?_⟩
  all_goals simp only [slA_E,slR_E,slC_E,kK,List.length_range] at*
  ·rw [iY] at hc;subst hc;simp [lJ]
  ·have hj0:j=0:=by
    have:=lt_of_get hj
    simpa using this
   subst hj0
   simp only [jJ,iC] at hj
   subst hj
   obtain ⟨g1,_⟩:=hys i hi
   rw [hc2] at g1
   obtain ⟨_,hlen,hget⟩:=World.cells?_some g1
   rw [cellOf_world]
   have:=hget 0 (by simp)
   simp only [mN,oE]
   rw [show (a.add (i*1)).add 0=a.add (i*1) by rw [Go.Deep.add_add,oE]] at this
   rw [this]
   simp [Col.at,hi]
  ·omega
  ·omega
  ·obtain ⟨i,hi,rfl⟩:=kZ.mp hy
   exact bdI64 (hys i (lU.mp hi)).2
theorem open_pks {t e e1 e2:TypeId} {fuel:Nat} {cs0:List Value} {x0:DataW H×List MemPlace} (ht:P.underlying t=some (.slice e)) (he:P.underlying e=some (.array 9 e1)) (he1:P.underlying e1=some (.slice e2)) (he2:P.underlying e2=some (.int .i64))
 (hc:P.cellsOf e=9) (hc1:P.cellsOf e1=1) (hc2:P.cellsOf e2=1) (hf:DataW.trod enc P w base sp held fuel t cs0=some x0):
 ∃(a:Option Addr) (len cap:Nat) (f:Nat→LI),cs0=[.slice a len cap]∧(∀j,(f j).length=len)∧(RowAt (λb=>w.heap[b]?) a len [.sls (f 0), .sls (f 1), .sls (f 2), .sls (f 3), .sls (f 4), .sls (f 5), .sls (f 6), .sls (f 7), .sls (f 8)]∧len≤cap)∧
  subs (λb=>w.heap[b]?) len [.sls (f 0), .sls (f 1), .sls (f 2), .sls (f 3), .sls (f 4), .sls (f 5), .sls (f 6), .sls (f 7), .sls (f 8)]∧∀j i,j<9→i<len→∀y∈slR ((f j).getD i 0), -9223372036854775808≤y∧y<9223372036854775808:=by
 have mem9:∀(f:Nat→LI) (c:Col),c∈[kG (f 0), .sls (f 1), .sls (f 2), .sls (f 3), .sls (f 4), .sls (f 5), .sls (f 6), .sls (f 7), .sls (f 8)]→∃j,j<9∧c= .sls (f j):=by
  intro f c hc
  simp only [iG,kL,or_false] at hc
  rcases hc with rfl|rfl|rfl|rfl|rfl|rfl|rfl|rfl|rfl
  ·exact ⟨0,by omega,rfl⟩
  ·exact ⟨1,by omega,rfl⟩
  ·exact ⟨2,by omega,rfl⟩
  ·exact ⟨3,by omega,rfl⟩
  ·exact ⟨4,by omega,rfl⟩
  ·exact ⟨5,by omega,rfl⟩
  ·exact ⟨6,by omega,rfl⟩
  ·exact ⟨7,by omega,rfl⟩
  ·exact ⟨8,by omega,rfl⟩
 have get9:∀(f:Nat→LI) (j:Nat) (c:Col),[kG (f 0), .sls (f 1), .sls (f 2), .sls (f 3), .sls (f 4), .sls (f 5), .sls (f 6), .sls (f 7), .sls (f 8)][j]? =some c→j<9∧c= .sls (f j):=by
  intro f j c hj
  have hlt:j<9:=by have:=lt_of_get hj;simpa using this
  refine ⟨hlt,?_⟩
  rcases (by omega:j=0∨j=1∨j=2∨j=3∨j=4∨j=5∨j=6∨j=7∨j=8) with rfl|rfl|rfl|rfl|rfl|rfl|rfl|rfl|rfl<;>(injection hj with hj;exact hj.symm)
 rcases Go.Deep.open_slice ht hf with ⟨hcs,_⟩|⟨a,len0,cap0,m,n,Dt,Pl,hcs,hb,hl,hm,hmm,_,hx⟩
 ·subst hcs
  refine ⟨none,0,0, λ_=>[],rfl, λ_=>rfl,⟨⟨λc hc=>?_, λi hi=>by omega,oM _⟩,kF _⟩, λc _ i hi=>by omega, λj i _ hi=>by omega⟩
  obtain ⟨j,_,rfl⟩:=mem9 (λ_=>[]) c hc
  rfl
 ·subst hcs
  have hml:len0≤m:=by rw [hmm];split<;>omega
  obtain ⟨cs,hcs⟩:=Go.Deep.choose_lt (α:=List Value) (p:= λi cs'=>w.cells? base (a.add (i*P.cellsOf e)) (P.cellsOf e)=some cs'∧DataW.trod enc P w base sp held n e cs'=some (Dt i,Pl i)) (n:=len0) λi hi=>hx i (by omega)
  have hin:∀i,i<len0→∀j,j<9→∃c:Int,(cs i)[j]? =some (.slice (slA c) (slR c).length (slC c))∧(RowAt (λb=>w.heap[b]?) (slA c) (slR c).length [.fz (slR c)]∧(slR c).length≤slC c)∧∀y∈slR c, -9223372036854775808≤y∧y<9223372036854775808:=by
   intro i hi j hj
   obtain ⟨xs,q,_,_,hlen,hxl,hg⟩:=DataW.trod_array he (hcs i hi).2
   have h1:=hg j hj
   rw [iN (by omega),hc1,Nat.mul_one] at h1
   obtain ⟨c,g1,g2,g3⟩:=open_in he1 he2 hc2 h1
   refine ⟨c,?_,g2,g3⟩
   have:=congrArg (λl=>l[0]?) g1
   simp only [lC,mS,jJ,oE] at this
   simpa using this
  obtain ⟨g,hg⟩:=Go.Deep.choose_lt (α:=Nat→Int) (p:= λi gi=>∀j,j<9→(cs i)[j]? =some (.slice (slA (gi j)) (slR (gi j)).length (slC (gi j)))∧(RowAt (λb=>w.heap[b]?) (slA (gi j)) (slR (gi j)).length [.fz (slR (gi j))]∧(slR (gi j)).length≤slC (gi j))∧∀y∈slR (gi j), -9223372036854775808≤y∧y<9223372036854775808) (n:=len0) λi hi=>by
   obtain ⟨gi,hgi⟩:=Go.Deep.choose_lt (α:=Int) (p:= λj c=>(cs i)[j]? =some (.slice (slA c) (slR c).length (slC c))∧(RowAt (λb=>w.heap[b]?) (slA c) (slR c).length [.fz (slR c)]∧(slR c).length≤slC c)∧∀y∈slR c, -9223372036854775808≤y∧y<9223372036854775808) (n:=9) (hin i hi)
   exact ⟨gi,hgi⟩
  have hgd:∀i j,i<len0→((jQ len0).map λi=>g i j).getD i 0=g i j:= λi j hi=>by simp [hi]
  refine ⟨some a,len0,cap0, λj=>(jQ len0).map λi=>g i j,rfl, λj=>by simp,⟨⟨λc hc=>?_, λi hi=>⟨a,rfl, λj c hj=>?_⟩,by omega⟩,by omega⟩, λc hc i hi=>?_, λj i hj hi=>?_⟩
  ·obtain ⟨j,_,rfl⟩:=mem9 (λj=>(jQ len0).map λi=>g i j) c hc
   simp [lJ]
  ·obtain ⟨hj9,rfl⟩:=get9 (λj=>(jQ len0).map λi=>g i j) j c hj
   obtain ⟨_,hlen,hget⟩:=World.cells?_some (hcs i hi).1
   have g1:=(hg i hi j hj9).1
   rw [cellOf_world]
   have h2:=hget j (by rw [hc] at hlen;omega)
   rw [show [kG ((jQ len0).map λi=>g i 0),kG ((jQ len0).map λi=>g i 1),kG ((jQ len0).map λi=>g i 2),kG ((jQ len0).map λi=>g i 3),kG ((jQ len0).map λi=>g i 4),kG ((jQ len0).map λi=>g i 5),kG ((jQ len0).map λi=>g i 6),kG ((jQ len0).map λi=>g i 7),kG ((jQ len0).map λi=>g i 8)].length=9 from rfl]
   rw [Go.Deep.add_add,hc] at h2
   rw [h2]
   show _=some (iH (slA (((jQ len0).map λi=>g i j).getD i 0)) (slR (((jQ len0).map λi=>g i j).getD i 0)).length (slC (((jQ len0).map λi=>g i j).getD i 0)))
   rw [hgd i j hi,←g1,iN (by rw [hc] at hlen;omega)]
  ·obtain ⟨j,hj9,rfl⟩:=mem9 (λj=>(jQ len0).map λi=>g i j) c hc
   have:=(hg i hi j hj9).2.1
   show RowAt _ (slA (((jQ len0).map λi=>g i j).getD i 0)) (slR (((jQ len0).map λi=>g i j).getD i 0)).length [.fz (slR (((jQ len0).map λi=>g i j).getD i 0))]∧_≤slC (((jQ len0).map λi=>g i j).getD i 0)
   rw [hgd i j hi]
   exact this
  ·rw [hgd i j hi]
   exact (hg i hi j hj).2.2
theorem open_ask {r:Reach} {b0:Nat} {t tA e e1 e2 tI:TypeId} {v:Value} {dt:DataW H} {ps:List MemPlace} {fs:Array Field} {f0 f1 f2 f3 f4:Field} (hu:P.underlying t=some (.struct fs)) (hfs:fs= #[f0,f1,f2,f3,f4])
 (o0:f0.offset=0∧f0.type=tA) (o1:f1.offset=1∧f1.type=tI) (o2:f2.offset=2∧f2.type=tI) (o3:f3.offset=3∧f3.type=tI) (o4:f4.offset=4∧f4.type=tI) (hct:P.cellsOf t=5) (hcA:P.cellsOf tA=1) (hcI:P.cellsOf tI=1) (hI:P.underlying tI=some (.int .i64))
 (ht:P.underlying tA=some (.slice e)) (he:P.underlying e=some (.array 9 e1)) (he1:P.underlying e1=some (.slice e2)) (he2:P.underlying e2=some (.int .i64)) (hc:P.cellsOf e=9) (hc1:P.cellsOf e1=1) (hc2:P.cellsOf e2=1)
 (hv:qF P w r b0 t v) (h:DataW.Trod enc P w base sp held t v dt ps):
 ∃(a:Option Addr) (len cap:Nat) (f:Nat→LI) (x1 x2 x3 x4:Int),v= .agg #[.slice a len cap, .int .i64 x1, .int .i64 x2, .int .i64 x3, .int .i64 x4]∧((Lit.int .i64 x1).wf=true∧(Lit.int .i64 x2).wf=true∧(Lit.int .i64 x3).wf=true∧(Lit.int .i64 x4).wf=true)∧(∀j,(f j).length=len)∧
  (RowAt (λb=>w.heap[b]?) a len [.sls (f 0), .sls (f 1), .sls (f 2), .sls (f 3), .sls (f 4), .sls (f 5), .sls (f 6), .sls (f 7), .sls (f 8)]∧len≤cap)∧
  subs (λb=>w.heap[b]?) len [.sls (f 0), .sls (f 1), .sls (f 2), .sls (f 3), .sls (f 4), .sls (f 5), .sls (f 6), .sls (f 7), .sls (f 8)]∧∀j i,j<9→i<len→∀y∈slR ((f j).getD i 0), -9223372036854775808≤y∧y<9223372036854775808:=by
 subst hfs
 unfold qF at hv
 rw [hu] at hv
 obtain ⟨cs,rfl,_,_⟩:=hv
 obtain ⟨fuel,hf⟩:=h
 have hf:DataW.trod enc P w base sp held fuel t cs.toList=some (dt,ps):=hf
 obtain ⟨xs,n,_,_,hlen,hxl,hg⟩:=DataW.trod_struct hu hf
 have hl5:cs.toList.length=5:=by rw [hlen,hct]
 have hx5:xs.length=5:=by rw [hxl];rfl
 have one:∀(i:Nat) (fd:Field), #[f0,f1,f2,f3,f4][i]? =some fd→fd.offset=i→P.cellsOf fd.type=1→i<5→∃y,DataW.trod enc P w base sp held n fd.type [cs.toList.getD i undef]=some y:= λi fd h1 h2 h3 h4=>by
  have:=hg i fd h1
  rw [iN (by omega),h2,h3] at this
  refine ⟨_,Eq.trans ?_ this⟩
  congr 1
  rw [oJ (by omega),List.take_succ_cons,List.take_zero,iD,iN (by omega)]
  rfl
 have num:∀(i:Nat) (fd:Field), #[f0,f1,f2,f3,f4][i]? =some fd→fd.offset=i→fd.type=tI→i<5→∃x:Int,cs.toList.getD i undef= .int .i64 x∧(Lit.int .i64 x).wf=true:= λi fd h1 h2 h3 h4=>by
  obtain ⟨y,hy⟩:=one i fd h1 h2 (by rw [h3];exact hcI) h4
  rw [h3] at hy
  obtain ⟨x,hx,_,hw⟩:=DataW.trod_int hI hy
  injection hx with hx
  exact ⟨x,hx,hw⟩
 obtain ⟨y0,hy0⟩:=one 0 f0 rfl o0.1 (by rw [o0.2];exact hcA) (by omega)
 rw [o0.2] at hy0
 obtain ⟨a,len,cap,f,g1,g2,g3,g4,g5⟩:=open_pks ht he he1 he2 hc hc1 hc2 hy0
 injection g1 with g1
 obtain ⟨x1,k1,w1⟩:=num 1 f1 rfl o1.1 o1.2 (by omega)
 obtain ⟨x2,k2,w2⟩:=num 2 f2 rfl o2.1 o2.2 (by omega)
 obtain ⟨x3,k3,w3⟩:=num 3 f3 rfl o3.1 o3.2 (by omega)
 obtain ⟨x4,k4,w4⟩:=num 4 f4 rfl o4.1 o4.2 (by omega)
 refine ⟨a,len,cap,f,x1,x2,x3,x4,?_,⟨w1,w2,w3,w4⟩,g2,g3,g4,g5⟩
 congr 1
 apply Array.toList_inj.1
 generalize cs.toList=l at*
 match l,hl5 with
 |[b0,b1,b2,b3,b4],_=>
  simp only [iD,jJ,kD,lA] at g1 k1 k2 k3 k4
  rw [g1,k1,k2,k3,k4]
end
end
section
abbrev IM:=Int→Option Int
structure VS where
 n:Int
 all:Bool
 src:Int→Option Int
 put:Int→Option Int
 reads:LI
 wrote:LI
 miss:Int
def nv (x:Int):Int:=x%4294967296
theorem nv_bd (x:Int):0≤nv x∧nv x<4294967296:=⟨Int.emod_nonneg _ (by decide),Int.emod_lt_of_pos _ (by decide)⟩
theorem nv_id {x:Int} (h:0≤x∧x<4294967296):nv x=x:=Int.emod_eq_of_lt h.1 h.2
def VS.there (s:VS) (i:Int):Bool:=decide (0≤i)&&decide (i<s.n)&&decide (s.miss<0)
def VS.get (s:VS) (i:Int):Int:=bif s.there i then (match s.put i with
 |some v=>nv v
 |none=>match s.src i with
  |some v=>nv v
  |none=>0) else 0
def VS.read (s:VS) (i:Int):VS:=bif s.there i then (match s.put i with
 |some _=>s
 |none=>match s.src i with
  |none=>{s with miss:=i}
  |some _=>bif s.reads.contains i then s else {s with reads:=s.reads++[i]}) else s
def VS.set (s:VS) (i x:Int):VS:=bif s.there i then {s with put:=mupd s.put i x,wrote:=bif (s.put i).isSome then s.wrote else s.wrote++[i]} else s
def VS.cur (s:VS) (i:Int):Int:=match s.put i with
 |some v=>nv v
 |none=>match s.src i with
  |some v=>nv v
  |none=>0
def VS.vals (s:VS):LI:=bif s.all then (jQ s.n.toNat).map (λi:Nat=>s.cur (i:Int)) else []
theorem VS.get_bd (s:VS) (i:Int):0≤s.get i∧s.get i<4294967296:=by
 unfold VS.get
 cases s.there i with
 |false=>exact (⟨by decide,by decide⟩:(0:Int)≤0∧(0:Int)<4294967296)
 |true=>
  simp only [cond_true]
  split
  ·exact nv_bd _
  ·split
   ·exact nv_bd _
   ·exact ⟨by decide,by decide⟩
def VS.whole (xs:LI):VS:=⟨xs.length,true, λi=>bif decide (0≤i)&&decide (i<xs.length) then some (xs.getD i.toNat 0) else none,mnil,[],[], -1⟩
def fsUpto (xs ys:LI) (k:Nat):IM:= λi=>((jQ k).find? λj=>xs.getD j 0==i).map λj=>ys.getD j 0
def VS.known (n:Int) (xs ys:LI):VS:=⟨n,false,fsUpto xs ys xs.length,mnil,[],[], -1⟩
end
section
open Go.RowKit
structure Wr (σ:Type) where
 τ:Type
 inj:τ→σ
 prj:σ→τ
 is:σ→Bool
 d:τ
 ok:∀s,is s=true→inj (prj s)=s
inductive Cm (σ:Type) where
 |i (x:Int)
 |b (x:Bool)
 |n (x:Nat)
 |li (x:LI)
 |lb (x:List Bool)
 |mp (x:Int→Option Int)
 |st (x:σ)
inductive Kd (σ:Type):Type 1 where
 |i
 |b
 |n
 |li
 |lb
 |mp
 |st (w:Wr σ)
variable {σ:Type}
abbrev IMap:=Int→Option Int
@[reducible] def Kd.T:Kd σ→Type
  | .i=>Int
  | .b=>Bool
  | .n=>Nat
  | .li=>LI
  | .lb=>List Bool
  | .mp=>IMap
  | .st w=>w.τ
def Cm.iOf:Cm σ→Int
 | .i x=>x
 |_=>0
def Cm.bOf:Cm σ→Bool
 | .b x=>x
 |_=>false
def Cm.nOf:Cm σ→Nat
 | .n x=>x
 |_=>0
def Cm.liOf:Cm σ→LI
 | .li x=>x
 |_=>[]
def Cm.lbOf:Cm σ→List Bool
 | .lb x=>x
 |_=>[]
def Cm.mpOf:Cm σ→IMap
 | .mp x=>x
 |_=> λ_=>none
def Cm.stOf (w:Wr σ):Cm σ→w.τ
 | .st x=>w.prj x
 |_=>w.d
def Kd.of:(k:Kd σ)→Cm σ→k.T
 | .i,c=>c.iOf
 | .b,c=>c.bOf
 | .n,c=>c.nOf
 | .li,c=>c.liOf
 | .lb,c=>c.lbOf
 | .mp,c=>c.mpOf
 | .st w,c=>c.stOf w
def Kd.to:(k:Kd σ)→k.T→Cm σ
 | .i,x=> .i x
 | .b,x=> .b x
 | .n,x=> .n x
 | .li,x=> .li x
 | .lb,x=> .lb x
 | .mp,x=> .mp x
 | .st w,x=> .st (w.inj x)
def Kd.fits:Kd σ→Cm σ→Bool
 | .i, .i _=>true
 | .b, .b _=>true
 | .n, .n _=>true
 | .li, .li _=>true
 | .lb, .lb _=>true
 | .mp, .mp _=>true
 | .st w, .st x=>w.is x
 |_,_=>false
theorem Kd.to_of {k:Kd σ} {c:Cm σ} (h:k.fits c=true):k.to (k.of c)=c:=by
 cases k<;>cases c<;>simp only [Kd.fits] at h<;>first|rfl|cases h|skip
 rename_i w x
 show Cm.st (w.inj (w.prj x))=Cm.st x
 rw [w.ok x h]
abbrev hdC (cs:List (Cm σ)):Cm σ:=cs.headD (.b false)
@[reducible] def Ty:List (Kd σ)→Type
  |[]=>Unit
  |[k]=>k.T
  |k::k'::ks=>k.T×Ty (k'::ks)
def toCm:(ks:List (Kd σ))→Ty ks→List (Cm σ)
 |[],_=>[]
 |[k],x=>[k.to x]
 |k::k'::ks,x=>k.to x.1::toCm (k'::ks) x.2
def ofCm:(ks:List (Kd σ))→List (Cm σ)→Ty ks
 |[],_=>()
 |[k],cs=>k.of (hdC cs)
 |k::k'::ks,cs=>(k.of (hdC cs),ofCm (k'::ks) cs.tail)
@[reducible] def Cur:List (Kd σ)→Type→Type
  |[],α=>α
  |k::ks,α=>k.T→Cur ks α
def appC {α:Type}:(ks:List (Kd σ))→Cur ks α→List (Cm σ)→α
 |[],f,_=>f
 |k::ks,f,cs=>appC ks (f (k.of (hdC cs))) cs.tail
@[reducible] def AllC:(ks:List (Kd σ))→(List (Cm σ)→Prop)→Prop
  |[],p=>p []
  |k::ks,p=>∀a:k.T,AllC ks λcs=>p (k.to a::cs)
def fitsC:List (Kd σ)→List (Cm σ)→Bool
 |[],[]=>true
 |k::ks,c::cs=>k.fits c&&fitsC ks cs
 |_,_=>false
theorem AllC.at:∀{ks:List (Kd σ)} {p:List (Cm σ)→Prop},AllC ks p→∀cs,fitsC ks cs=true→p cs
 |[],_,h,[],_=>h
 |[],_,_,_::_,hf=>by simp [fitsC] at hf
 |_::_,_,_,[],hf=>by simp [fitsC] at hf
 |k::ks,p,h,c::cs,hf=>by
  simp only [fitsC,iE] at hf
  have:=AllC.at (h (k.of c)) cs hf.2
  rw [Kd.to_of hf.1] at this
  exact this
inductive Sh (σ:Type):Type 1 where
 |i (k:IntKind)
 |b
 |skip
 |ic (k:IntKind) (x:Int)
 |bc (x:Bool)
 |agg (l:List (Sh σ))
 |tup (l:List (Sh σ))
 |ro (ks:List (Option IntKind))
 |roc (cols:List Col)
 |own (t:TypeId) (ks:List (Option IntKind))
 |new (t:TypeId) (ks:List (Option IntKind))
 |obj (w:Wr σ)
 |nobj (w:Wr σ)
 |objc (w:Wr σ) (p:Addr)
 |box (t:TypeId) (l:List (Sh σ))
 |boxc (b:Nat) (t:TypeId) (l:List (Sh σ))
 |objb (w:Wr σ)
 |nxt (t:TypeId)
 |agn (i:Nat)
 |mp (kk vk:IntKind)
 |ago (j:Nat)
 |agc (j off:Nat)
 |ags (j n:Nat)
 |fn (f:Nat)
def colK:Option IntKind→Kd σ
 |some _=> .li
 |none=> .lb
mutual
def Sh.kd:Sh σ→List (Kd σ)
 | .i _=>[.i]
 | .b=>[.b]
 | .agg l=>kds l
 | .tup l=>kds l
 | .ro ks=>ks.map colK
 | .own _ ks=> .n::ks.map colK
 | .new _ ks=>ks.map colK
 | .obj w=>[.st w]
 | .nobj w=>[.st w]
 | .objc w _=>[.st w]
 | .box _ l=>kds l
 | .boxc _ _ l=>kds l
 | .objb w=>[.st w]
 | .agn _=>[.n]
 | .mp _ _=>[.mp]
 |_=>[]
def kds:List (Sh σ)→List (Kd σ)
 |[]=>[]
 |s::l=>s.kd++kds l
end
mutual
def Sh.nC:Sh σ→Nat
 | .i _=>1
 | .b=>1
 | .agg l=>nCs l
 | .tup l=>nCs l
 | .ro ks=>ks.length
 | .own _ ks=>1+ks.length
 | .new _ ks=>ks.length
 | .obj _=>1
 | .nobj _=>1
 | .objc _ _=>1
 | .box _ l=>nCs l
 | .boxc _ _ l=>nCs l
 | .objb _=>1
 | .agn _=>1
 | .mp _ _=>1
 |_=>0
def nCs:List (Sh σ)→Nat
 |[]=>0
 |s::l=>s.nC+nCs l
end
mutual
def Sh.nA:Sh σ→Nat
 | .agg l=>nAs l
 | .tup l=>nAs l
 | .ro _=>1
 | .roc _=>1
 | .own _ _=>1
 | .new _ _=>1
 | .obj _=>1
 | .nobj _=>1
 | .box _ l=>1+nAs l
 | .boxc _ _ l=>nAs l
 | .objb _=>1
 | .agn _=>1
 | .mp _ _=>1
 | .ago _=>1
 | .agc _ _=>1
 | .ags _ _=>1
 |_=>0
def nAs:List (Sh σ)→Nat
 |[]=>0
 |s::l=>s.nA+nAs l
end
mutual
def Sh.nK:Sh σ→Nat
 | .agg l=>nKs l
 | .tup l=>nKs l
 | .ro _=>1
 | .roc _=>1
 | .own _ _=>1
 | .obj _=>1
 | .objc _ _=>1
 | .box _ l=>1+nKs l
 | .boxc _ _ l=>1+nKs l
 | .objb _=>1
 | .mp _ _=>1
 |_=>0
def nKs:List (Sh σ)→Nat
 |[]=>0
 |s::l=>s.nK+nKs l
end
mutual
def Sh.nS:Sh σ→Nat
 | .agg l=>nSs l
 | .tup l=>nSs l
 | .new _ _=>1
 | .nobj _=>1
 |_=>0
def nSs:List (Sh σ)→Nat
 |[]=>0
 |s::l=>s.nS+nSs l
end
structure Ad where
 o:Option Nat
 b:Nat
 c:Nat
 a:Option Addr
 p:Addr
def Ad.z:Ad:=⟨none,0,0,none,⟨0,0,none⟩⟩
def colF:IntKind→LI→Col
 | .i8,xs=> .fz xs
 | .i16,xs=> .sls xs
 |k,xs=> .ints k xs
def colsOf:List (Option IntKind)→List (Cm σ)→List Col
 |[],_=>[]
 |some k::ks,cs=>colF k (hdC cs).liOf::colsOf ks cs.tail
 |none::ks,cs=> .bools (hdC cs).lbOf::colsOf ks cs.tail
def colsCm:List (Option IntKind)→List Col→List (Cm σ)
 |[],_=>[]
 |some _::ks,cols=>(match cols.headD (.vals []) with| .ints _ xs=> .li xs| .fz xs=> .li xs| .sls xs=> .li xs|_=> .li [])::colsCm ks cols.tail
 |none::ks,cols=>(match cols.headD (.vals []) with| .bools xs=> .lb xs|_=> .lb [])::colsCm ks cols.tail
def isFzK:List (Option IntKind)→Bool
 |some .i8::_=>true
 |_=>false
structure Tp (σ:Type) where
 v:Value
 p:Pr
 K:List (Chunk σ)
def tpK:List (Tp σ)→List (Chunk σ)
 |[]=>[]
 |t::r=>t.K++tpK r
def tpV:List (Tp σ)→List Value
 |[]=>[]
 |t::r=>t.v::tpV r
def tpP:List (Tp σ)→List Pr
 |[]=>[]
 |t::r=>t.p::tpP r
def tpC:List (Tp σ)→List (Value×Pr)
 |[]=>[]
 |t::r=>(t.v,t.p)::tpC r
mutual
def Sh.tp (ad:Nat→Ad):Sh σ→Nat→Nat→List (Cm σ)→Tp σ
 | .i kd,_,_,cs=>⟨.int kd (hdC cs).iOf, .no,[]⟩
 | .b,_,_,cs=>⟨.bool (hdC cs).bOf, .no,[]⟩
 | .skip,_,_,_=>⟨undef, .no,[]⟩
 | .ic kd x,_,_,_=>⟨.int kd x, .no,[]⟩
 | .bc x,_,_,_=>⟨.bool x, .no,[]⟩
 | .agg l,k,j,cs=>⟨.agg (tpV (tps ad l k j cs)).toArray,mkMany (tpP (tps ad l k j cs)),tpK (tps ad l k j cs)⟩
 | .tup l,k,j,cs=>⟨.tuple (tpV (tps ad l k j cs)).toArray,mkMany (tpP (tps ad l k j cs)),tpK (tps ad l k j cs)⟩
 | .ro ks,k,j,cs=>⟨.slice (ad j).a (lenC (colsOf ks cs)) (ad j).c, .pt k .slice,[.ro (ad j).a (lenC (colsOf ks cs)) (ad j).c (colsOf ks cs)]⟩
 | .roc cols,k,j,_=>⟨.slice (ad j).a (lenC cols) (ad j).c, .pt k .slice,[.ro (ad j).a (lenC cols) (ad j).c cols]⟩
 | .own t ks,k,j,cs=>⟨sliceVal (ad j).o (hdC cs).nOf (ad j).c, .pt k .slice,[.row (ad j).o t (hdC cs).nOf (ad j).c (colsOf ks cs.tail)]⟩
 | .new _ _,_,_,_=>⟨undef, .no,[]⟩
 | .obj w,k,j,cs=>⟨.pointer (some (ad j).p), .pt k .obj,[.obj (ad j).p (w.inj ((hdC cs).stOf w))]⟩
 | .nobj _,_,_,_=>⟨undef, .no,[]⟩
 | .objc w p,k,_,cs=>⟨.pointer (some p), .pt k .obj,[.obj p (w.inj ((hdC cs).stOf w))]⟩
 | .box t l,k,j,cs=>⟨.pointer (some ⟨(ad j).b,0,none⟩), .pt k (.cell 0), .cells (ad j).b t (tpC (tps ad l (k+1) (j+1) cs))::tpK (tps ad l (k+1) (j+1) cs)⟩
 | .boxc b t l,k,j,cs=>⟨.pointer (some ⟨b,0,none⟩), .pt k (.cell 0), .cells b t (tpC (tps ad l (k+1) j cs))::tpK (tps ad l (k+1) j cs)⟩
 | .objb w,k,j,cs=>⟨.pointer (some ⟨(ad j).b,0,none⟩), .pt k .obj,[.obj ⟨(ad j).b,0,none⟩ (w.inj ((hdC cs).stOf w))]⟩
 | .agn i,_,j,cs=>⟨.slice (ad j).a (hdC cs).nOf (ad j).c, .pt i .slice,[]⟩
 | .nxt t,k,j,cs=>⟨.iface t (sliceVal (ad j).o (hdC cs).nOf (ad j).c), .box (.pt k .slice),[]⟩
 | .mp kk vk,k,j,cs=>⟨.map (some (ad j).b), .pt k .map,[.map (ad j).b kk vk (hdC cs).mpOf]⟩
 | .ago i,_,j,_=>⟨.pointer (some (ad j).p), .pt i .obj,[]⟩
 | .agc i off,_,j,_=>⟨.pointer (some ⟨(ad j).b,off,none⟩), .pt i (.cell off),[]⟩
 | .ags i n,_,j,_=>⟨.slice (ad j).a n (ad j).c, .pt i .slice,[]⟩
 | .fn f,_,_,_=>⟨.func (.func f) #[] #[], .no,[]⟩
def tps (ad:Nat→Ad):List (Sh σ)→Nat→Nat→List (Cm σ)→List (Tp σ)
 |[],_,_,_=>[]
 |s::l,k,j,cs=>s.tp ad k j cs::tps ad l (k+s.nK) (j+s.nA) (cs.drop s.nC)
end
structure Dc (σ:Type) where
 cs:List (Cm σ)
 ad:List Ad
 is:List (Option Nat)
mutual
def Sh.dc (K:List (Chunk σ)):Sh σ→Value→Pr→Dc σ
 | .i _, .int _ x,_=>⟨[.i x],[],[]⟩
 | .b, .bool x,_=>⟨[.b x],[],[]⟩
 | .agg l, .agg vs,p=>dcs K l vs.toList (cellsPr (.agg vs) p)
 | .tup l, .tuple vs,p=>dcs K l vs.toList (match p with| .many ps=>ps|_=>nos vs.size)
 | .ro ks, .slice a _ c, .pt k .slice=>match K[k]? with
   |some (.ro _ _ _ cols)=>⟨colsCm ks cols,[{Ad.z with a:=a,c:=c}],[some k]⟩
   |_=>⟨[],[],[]⟩
 | .roc _, .slice a _ c, .pt k .slice=>⟨[],[{Ad.z with a:=a,c:=c}],[some k]⟩
 | .own _ ks, .slice _ _ _, .pt k .slice=>match K[k]? with
   |some (.row o _ n c cols)=>⟨.n n::colsCm ks cols,[{Ad.z with o:=o,c:=c}],[some k]⟩
   |_=>⟨[],[],[]⟩
 | .own _ ks, .slice _ _ _, .no=>⟨.n 0::colsCm ks (colsOf (σ:=σ) ks []),[Ad.z],[none]⟩
 | .new _ ks, .slice a _ _, .pt k .slice=>match K[k]? with
   |some (.row o _ n c cols)=>⟨colsCm ks cols,[{Ad.z with o:=o,b:=n,c:=c,a:=a}],[some k]⟩
   |some (.ro _ n c cols)=>⟨colsCm ks cols,[{Ad.z with b:=n,c:=c,a:=a}],[some k]⟩
   |_=>⟨[],[],[]⟩
 | .new _ ks, .slice _ _ _, .no=>⟨colsCm ks (colsOf (σ:=σ) ks []),[Ad.z],[none]⟩
 | .obj _, .pointer (some p), .pt k .obj=>match K[k]? with
   |some (.obj _ s)=>⟨[.st s],[{Ad.z with p:=p}],[some k]⟩
   |_=>⟨[],[],[]⟩
 | .objc _ _, .pointer (some _), .pt k .obj=>match K[k]? with
   |some (.obj _ s)=>⟨[.st s],[],[some k]⟩
   |_=>⟨[],[],[]⟩
 | .nobj _, .pointer (some p), .pt k .obj=>match K[k]? with
   |some (.obj _ s)=>⟨[.st s],[{Ad.z with o:=some p.block}],[some k]⟩
   |_=>⟨[],[],[]⟩
 | .box _ l, .pointer (some p), .pt k (.cell _)=>match K[k]? with
   |some (.cells _ _ cs)=>match dcs K l (cs.map (·.1)) (cs.map (·.2)) with
    |⟨a,b,c⟩=>⟨a,{Ad.z with b:=p.block}::b,some k::c⟩
   |_=>⟨[],[],[]⟩
 | .boxc _ _ l, .pointer (some _), .pt k (.cell _)=>match K[k]? with
   |some (.cells _ _ cs)=>match dcs K l (cs.map (·.1)) (cs.map (·.2)) with
    |⟨a,b,c⟩=>⟨a,b,some k::c⟩
   |_=>⟨[],[],[]⟩
 | .objb _, .pointer (some p), .pt k .obj=>match K[k]? with
   |some (.obj _ s)=>⟨[.st s],[{Ad.z with b:=p.block}],[some k]⟩
   |_=>⟨[],[],[]⟩
 | .mp _ _, .map (some b), .pt k .map=>match K[k]? with
   |some (.map _ _ _ f)=>⟨[.mp f],[{Ad.z with b:=b}],[some k]⟩
   |_=>⟨[],[],[]⟩
 | .ago _, .pointer (some p),_=>⟨[],[{Ad.z with p:=p}],[]⟩
 | .agc _ _, .pointer (some p),_=>⟨[],[{Ad.z with b:=p.block}],[]⟩
 | .agn _, .slice a n c,_=>⟨[.n n],[{Ad.z with a:=a,c:=c}],[]⟩
 | .ags _ _, .slice a _ c,_=>⟨[],[{Ad.z with a:=a,c:=c}],[]⟩
 |_,_,_=>⟨[],[],[]⟩
def dcs (K:List (Chunk σ)):List (Sh σ)→List Value→List Pr→Dc σ
 |s::l,v::vs,p::ps=>match s.dc K v p,dcs K l vs ps with
  |⟨a,b,c⟩,⟨a',b',c'⟩=>⟨a++a',b++b',c++c'⟩
 |_,_,_=>⟨[],[],[]⟩
end
def adF (l:List Ad):Nat→Ad:= λj=>l.getD j Ad.z
def fixIs:Nat→List (Option Nat)→List Nat
 |_,[]=>[]
 |j,some i::r=>i::fixIs (j+1) r
 |j,none::r=>(1000000+j)::fixIs (j+1) r
def nodupB:List Nat→Bool
 |[]=>true
 |i::r=>!(r.any (iM i))&&nodupB r
theorem nodupB_ok:∀{l:List Nat},nodupB l=true→l.Nodup
 |[],_=>by simp
 |i::r,h=>by
  simp only [nodupB,iE,jO,List.any_eq_false,Bool.not_eq_true] at h
  refine lK.2 ⟨λhm=>?_,nodupB_ok h.2⟩
  have:=h.1 i hm
  rw [oO] at this;cases this
mutual
def Sh.out:Sh σ→List (Cm σ)→List Value→Value
 | .i kd,cs,_=> .int kd (hdC cs).iOf
 | .b,cs,_=> .bool (hdC cs).bOf
 | .agg l,cs,ss=> .agg (outs l cs ss).toArray
 | .tup l,cs,ss=> .tuple (outs l cs ss).toArray
 | .new _ _,_,ss=>ss.headD undef
 | .nobj _,_,ss=>ss.headD undef
 | .ic kd x,_,_=> .int kd x
 | .bc x,_,_=> .bool x
 |_,_,_=>undef
def outs:List (Sh σ)→List (Cm σ)→List Value→List Value
 |[],_,_=>[]
 |s::l,cs,ss=>s.out cs ss::outs l (cs.drop s.nC) (ss.drop s.nS)
end
mutual
def Sh.mks:Sh σ→List (Cm σ)→List (Mk σ)
 | .agg l,cs=>mkss l cs
 | .tup l,cs=>mkss l cs
 | .new t ks,cs=>[.row t (colsOf ks cs)]
 | .nobj w,cs=>[.obj (w.inj ((hdC cs).stOf w))]
 |_,_=>[]
def mkss:List (Sh σ)→List (Cm σ)→List (Mk σ)
 |[],_=>[]
 |s::l,cs=>s.mks cs++mkss l (cs.drop s.nC)
end
mutual
def Sh.outp:Sh σ→Nat→Pr
 | .agg l,k=>mkMany (outps l k)
 | .tup l,k=>mkMany (outps l k)
 | .new _ _,k=> .pt k .slice
 | .nobj _,k=> .pt k .obj
 |_,_=> .no
def outps:List (Sh σ)→Nat→List Pr
 |[],_=>[]
 |s::l,k=>s.outp k::outps l (k+s.nS)
end
mutual
theorem Sh.mks_len:∀(s:Sh σ) (cs:List (Cm σ)),(s.mks cs).length=s.nS
 | .agg l,cs=>by simp only [Sh.mks,Sh.nS];exact mkss_len l cs
 | .tup l,cs=>by simp only [Sh.mks,Sh.nS];exact mkss_len l cs
 | .new _ _,_=>rfl
 | .nobj _,_=>rfl
 | .i _,_=>rfl
 | .b,_=>rfl
 | .skip,_=>rfl
 | .ic _ _,_=>rfl
 | .bc _,_=>rfl
 | .ro _,_=>rfl
 | .roc _,_=>rfl
 | .own _ _,_=>rfl
 | .obj _,_=>rfl
 | .objc _ _,_=>rfl
 | .box _ _,_=>rfl
 | .boxc _ _ _,_=>rfl
 | .objb _,_=>rfl
 | .nxt _,_=>rfl
 | .agn _,_=>rfl
 | .mp _ _,_=>rfl
 | .ago _,_=>rfl
 | .agc _ _,_=>rfl
 | .ags _ _,_=>rfl
 | .fn _,_=>rfl
theorem mkss_len:∀(l:List (Sh σ)) (cs:List (Cm σ)),(mkss l cs).length=nSs l
 |[],_=>rfl
 |s::l,cs=>by simp only [mkss,nSs,jM,s.mks_len cs,mkss_len l]
end
theorem acsOk_app:∀{R1 R2:List (Mk σ)} {acs:List (Option Nat×Nat)},acsOk (R1++R2) acs→∃a1 a2,acs=a1++a2∧a1.length=R1.length∧acsOk R1 a1∧acsOk R2 a2
 |[],R2,acs,h=>⟨[],acs,rfl,rfl,trivial,h⟩
 |r::R1,R2,[],h=>by simp [acsOk] at h
 |r::R1,R2,a::acs,h=>by
  simp only [kA,acsOk] at h
  obtain ⟨a1,a2,rfl,h1,h2,h3⟩:=acsOk_app h.2
  exact ⟨a::a1,a2,rfl,by simp [h1],⟨h.1,h2⟩,h3⟩
theorem zip_app {α β γ:Type} (f:α→β→γ):∀{l1 l2:List α} {m1 m2:List β},m1.length=l1.length→jI f (l1++l2) (m1++m2)=jI f l1 m1++jI f l2 m2
 |[],_,[],_,_=>rfl
 |[],_,_::_,_,h=>by simp at h
 |_::_,_,[],_,h=>by simp at h
 |a::l1,l2,b::m1,m2,h=>by simp only [kA,lH,zip_app f (l1:=l1) (by simpa using h)]
theorem mkMany_tup {K:List (Chunk σ)} {vs:List Value} {ps:List Pr} (h:psOk K vs ps):pOk K (.tuple vs.toArray) (mkMany ps):=by
 unfold mkMany
 cases hb:ps.all Pr.isNo with
 |true=>simp [pOk]
 |false=>simp only [cond_false];unfold pOk;exact h
mutual
theorem Sh.outp_ok:∀(s:Sh σ) (cs:List (Cm σ)) (K K2:List (Chunk σ)) (S2:List Value) (acs:List (Option Nat×Nat)),acsOk (s.mks cs) acs→
 pOk (K++jI sliceC (s.mks cs) acs++K2) (s.out cs (jI sliceV (s.mks cs) acs++S2)) (s.outp K.length)
 | .agg l,cs,K,K2,S2,acs,h=>by simp only [Sh.mks,Sh.out,Sh.outp] at h ⊢;exact mkMany_agg (outps_ok l cs K K2 S2 acs h)
 | .tup l,cs,K,K2,S2,acs,h=>by simp only [Sh.mks,Sh.out,Sh.outp] at h ⊢;exact mkMany_tup (outps_ok l cs K K2 S2 acs h)
 | .new t ks,cs,K,K2,S2,acs,h=>by
   simp only [Sh.mks] at h ⊢
   match acs,h with
   |[ac],_=>
    simp only [lH,List.zipWith_nil_right,Sh.out,Sh.outp,kA,lL]
    exact pOk_pt.2 ⟨sliceC (.row t (colsOf ks cs)) ac,by rw [jX,iQ (kF _)];simp,by simp only [sliceC,sliceV];cases fzB (colsOf ks cs)<;>rfl⟩
   |_::_::_,h=>exact absurd h.2 (by simp [acsOk])
   |[],h=>exact h.elim
 | .nobj w,cs,K,K2,S2,acs,h=>by
   simp only [Sh.mks] at h ⊢
   match acs,h with
   |[ac],h=>
    obtain ⟨b,rfl⟩:=h.1
    simp only [lH,List.zipWith_nil_right,Sh.out,Sh.outp,kA,lL]
    exact pOk_pt.2 ⟨sliceC (.obj (w.inj ((hdC cs).stOf w))) (some b,0),by rw [jX,iQ (kF _)];simp,rfl⟩
   |_::_::_,h=>exact absurd h.2 (by simp [acsOk])
   |[],h=>exact h.elim
 | .i _,_,_,_,_,_,_=>pOk_no
 | .b,_,_,_,_,_,_=>pOk_no
 | .skip,_,_,_,_,_,_=>pOk_no
 | .ic _ _,_,_,_,_,_,_=>pOk_no
 | .bc _,_,_,_,_,_,_=>pOk_no
 | .ro _,_,_,_,_,_,_=>pOk_no
 | .roc _,_,_,_,_,_,_=>pOk_no
 | .own _ _,_,_,_,_,_,_=>pOk_no
 | .obj _,_,_,_,_,_,_=>pOk_no
 | .objc _ _,_,_,_,_,_,_=>pOk_no
 | .box _ _,_,_,_,_,_,_=>pOk_no
 | .boxc _ _ _,_,_,_,_,_,_=>pOk_no
 | .objb _,_,_,_,_,_,_=>pOk_no
 | .nxt _,_,_,_,_,_,_=>pOk_no
 | .agn _,_,_,_,_,_,_=>pOk_no
 | .mp _ _,_,_,_,_,_,_=>pOk_no
 | .ago _,_,_,_,_,_,_=>pOk_no
 | .agc _ _,_,_,_,_,_,_=>pOk_no
 | .ags _ _,_,_,_,_,_,_=>pOk_no
 | .fn _,_,_,_,_,_,_=>pOk_no
theorem outps_ok:∀(l:List (Sh σ)) (cs:List (Cm σ)) (K K2:List (Chunk σ)) (S2:List Value) (acs:List (Option Nat×Nat)),acsOk (mkss l cs) acs→
 psOk (K++jI sliceC (mkss l cs) acs++K2) (outs l cs (jI sliceV (mkss l cs) acs++S2)) (outps l K.length)
 |[],_,_,_,_,_,_=>by simp [outs,outps,psOk]
 |s::l,cs,K,K2,S2,acs,h=>by
  simp only [mkss] at h ⊢
  obtain ⟨a1,a2,rfl,h1,h2,h3⟩:=acsOk_app h
  rw [zip_app _ h1,zip_app _ h1]
  have e1:(jI sliceV (s.mks cs) a1).length=s.nS:=by rw [List.length_zipWith,h1,s.mks_len];simp
  have e2:(jI sliceC (s.mks cs) a1).length=s.nS:=by rw [List.length_zipWith,h1,s.mks_len];simp
  refine psOk_cons ?_ ?_
  ·have:=Sh.outp_ok s cs K (jI sliceC (mkss l (cs.drop s.nC)) a2++K2) (jI sliceV (mkss l (cs.drop s.nC)) a2++S2) a1 h2
   simpa [jX] using this
  ·have:=outps_ok l (cs.drop s.nC) (K++jI sliceC (s.mks cs) a1) K2 S2 a2 h3
   simp only [jM,e2] at this
   have e3:(jI sliceV (s.mks cs) a1++jI sliceV (mkss l (cs.drop s.nC)) a2++S2).drop s.nS=jI sliceV (mkss l (cs.drop s.nC)) a2++S2:=by
    rw [jX,←e1];exact List.drop_left
   rw [e3]
   simpa [jX] using this
end
end
section
open Go.RowKit
variable {σ:Type}
inductive NT:Type 1 where
 |t
 |need (p:Prop) (n:NT)
 |br (c:Bool) (a b:NT)
 |bind {α:Type} (x:α) (k:α→NT)
 |and (a b:NT)
def NT.holds:NT→Prop
 | .t=>True
 | .need p n=>p∧(p→n.holds)
 | .br c a b=>(c=true→a.holds)∧(c=false→b.holds)
 | .bind x k=>∀a,a=x→(k a).holds
 | .and a b=>a.holds∧b.holds
def NT.sand (a b:NT):NT:=
 match a,b with
 | .t,b=>b
 |a, .t=>a
 |a,b=> .and a b
theorem NT.sand_holds {a b:NT} (h:(NT.sand a b).holds):a.holds∧b.holds:=by
 unfold NT.sand at h
 split at h
 ·exact ⟨trivial,h⟩
 ·exact ⟨h,trivial⟩
 ·exact h
def NT.sbr (c:Bool) (a b:NT):NT:=
 match a,b with
 | .t, .t=> .t
 |a,b=> .br c a b
def NT.sbind {α:Type} (x:α) (k:α→NT):NT:=
 match k x with
 | .t=> .t
 |_=> .bind x k
theorem NT.sbr_holds {c:Bool} {a b:NT} (h:(NT.sbr c a b).holds):(c=true→a.holds)∧(c=false→b.holds):=by
 unfold NT.sbr at h
 split at h
 ·exact ⟨λ_=>trivial, λ_=>trivial⟩
 ·exact h
theorem NT.sbind_holds {α:Type} {x:α} {k:α→NT} (h:(NT.sbind x k).holds):(k x).holds:=by
 unfold NT.sbind at h
 split at h
 ·rename_i e;rw [e];trivial
 ·exact h x rfl
structure Ob (σ:Type) where
 td:List Ab
 v:Value
 L:List Ent
 K:List (Option (Chunk σ))
abbrev BF:=Nat→Nat
abbrev GF:=Nat→Option Nat
abbrev tl {α:Type} (f:Nat→α):Nat→α:= λi=>f (i+1)
def cn {α:Type} (a:α) (f:Nat→α):Nat→α
 |0=>a
 |i+1=>f i
section
variable {α:Type}
def Tree.val (lf:Value→Pr→List (Chunk σ)→α) (d:α):Tree σ→BF→GF→α
 | .ret v p K,_,_=>lf v p K
 | .br c a b,β,γ=>bif c then a.val lf d β γ else b.val lf d β γ
 | .need _ t,β,γ=>t.val lf d β γ
 | .bind x t,β,γ=>(t x).val lf d β γ
 | .fresh t,β,γ=>(t (β 0)).val lf d (tl β) γ
 | .freshS t,β,γ=>(t (γ 0) (β 0)).val lf d (tl β) (tl γ)
 | .two a _,β,γ=>a.val lf d β γ
 | .stuck _ _ _,_,_=>d
def Tree.eqv (lf:Value→Pr→List (Chunk σ)→α) (d:α) (left:Bool):Tree σ→BF→GF→List α
 | .ret _ _ _,_,_=>[]
 | .br _ a b,β,γ=>a.eqv lf d left β γ++b.eqv lf d left β γ
 | .need _ t,β,γ=>t.eqv lf d left β γ
 | .bind x t,β,γ=>(t x).eqv lf d left β γ
 | .fresh t,β,γ=>(t (β 0)).eqv lf d left (tl β) γ
 | .freshS t,β,γ=>(t (γ 0) (β 0)).eqv lf d left (tl β) (tl γ)
 | .two a b,β,γ=>(bif left then a.val lf d β γ else b.val lf d β γ)::(a.eqv lf d left β γ++b.eqv lf d left β γ)
 | .stuck _ _ _,_,_=>[]
end
def Tree.obl (ro:Value→Pr→List (Chunk σ)→Ob σ) (so:List Ab→List Ent→List (Chunk σ)→Ob σ):Tree σ→BF→GF→List (Ob σ)
 | .ret v p K,_,_=>[ro v p K]
 | .br _ a b,β,γ=>a.obl ro so β γ++b.obl ro so β γ
 | .need _ t,β,γ=>t.obl ro so β γ
 | .bind x t,β,γ=>(t x).obl ro so β γ
 | .fresh t,β,γ=>(t (β 0)).obl ro so (tl β) γ
 | .freshS t,β,γ=>(t (γ 0) (β 0)).obl ro so (tl β) (tl γ)
 | .two a b,β,γ=>a.obl ro so β γ++b.obl ro so β γ
 | .stuck td L K,_,_=>[so td L K]
def Tree.okb (ro:Value→Pr→List (Chunk σ)→Bool) (so:List Ab→List Ent→List (Chunk σ)→Bool):Tree σ→BF→GF→Bool
 | .ret v p K,_,_=>ro v p K
 | .br _ a b,β,γ=>a.okb ro so β γ&&b.okb ro so β γ
 | .need _ t,β,γ=>t.okb ro so β γ
 | .bind x t,β,γ=>(t x).okb ro so β γ
 | .fresh t,β,γ=>(t (β 0)).okb ro so (tl β) γ
 | .freshS t,β,γ=>(t (γ 0) (β 0)).okb ro so (tl β) (tl γ)
 | .two a b,β,γ=>a.okb ro so β γ&&b.okb ro so β γ
 | .stuck td L K,_,_=>so td L K
def Tree.nds:Tree σ→BF→GF→NT
 | .ret _ _ _,_,_=> .t
 | .br c a b,β,γ=> .sbr c (a.nds β γ) (b.nds β γ)
 | .need p t,β,γ=> .need p (t.nds β γ)
 | .bind x t,β,γ=> .sbind x λa=>(t a).nds β γ
 | .fresh t,β,γ=>(t (β 0)).nds (tl β) γ
 | .freshS t,β,γ=>(t (γ 0) (β 0)).nds (tl β) (tl γ)
 | .two a b,β,γ=> .sand (a.nds β γ) (b.nds β γ)
 | .stuck _ _ _,_,_=> .need False .t
def Tree.wp (RQ:Value→Pr→List (Chunk σ)→Prop) (SQ:List Ab→List Ent→List (Chunk σ)→Prop):Tree σ→BF→GF→Prop
 | .ret v p K,_,_=>RQ v p K
 | .br c a b,β,γ=>(c=true→a.wp RQ SQ β γ)∧(c=false→b.wp RQ SQ β γ)
 | .need p t,β,γ=>p∧(p→t.wp RQ SQ β γ)
 | .bind x t,β,γ=>∀a,a=x→(t a).wp RQ SQ β γ
 | .fresh t,β,γ=>(t (β 0)).wp RQ SQ (tl β) γ
 | .freshS t,β,γ=>(t (γ 0) (β 0)).wp RQ SQ (tl β) (tl γ)
 | .two a b,β,γ=>a.wp RQ SQ β γ∧b.wp RQ SQ β γ
 | .stuck td L K,_,_=>SQ td L K
section
variable {α:Type} {lf:Value→Pr→List (Chunk σ)→α} {d:α} {roL roR:Value→Pr→List (Chunk σ)→Ob σ} {soL soR:List Ab→List Ent→List (Chunk σ)→Ob σ} {rb:Value→Pr→List (Chunk σ)→Bool} {sb:List Ab→List Ent→List (Chunk σ)→Bool}
theorem obl_len {ro:Value→Pr→List (Chunk σ)→Ob σ} {so:List Ab→List Ent→List (Chunk σ)→Ob σ} {ro':Value→Pr→List (Chunk σ)→Ob σ} {so':List Ab→List Ent→List (Chunk σ)→Ob σ}:∀(t:Tree σ) (β:BF) (γ:GF),(t.obl ro so β γ).length=(t.obl ro' so' β γ).length
 | .ret _ _ _,_,_=>rfl
 | .br _ a b,β,γ=>by simp only [Tree.obl,jM,obl_len a β γ (ro:=ro) (so:=so) (ro':=ro') (so':=so'),obl_len b β γ (ro:=ro) (so:=so) (ro':=ro') (so':=so')]
 | .need _ t,β,γ=>by simp only [Tree.obl];exact obl_len t β γ
 | .bind x t,β,γ=>by simp only [Tree.obl];exact obl_len (t x) β γ
 | .fresh t,β,γ=>by simp only [Tree.obl];exact obl_len (t (β 0)) _ γ
 | .freshS t,β,γ=>by simp only [Tree.obl];exact obl_len (t (γ 0) (β 0)) _ _
 | .two a b,β,γ=>by simp only [Tree.obl,jM,obl_len a β γ (ro:=ro) (so:=so) (ro':=ro') (so':=so'),obl_len b β γ (ro:=ro) (so:=so) (ro':=ro') (so':=so')]
 | .stuck _ _ _,_,_=>rfl
theorem eqv_len:∀(t:Tree σ) (β:BF) (γ:GF),(t.eqv lf d true β γ).length=(t.eqv lf d false β γ).length
 | .ret _ _ _,_,_=>rfl
 | .br _ a b,β,γ=>by simp only [Tree.eqv,jM,eqv_len a β γ,eqv_len b β γ]
 | .need _ t,β,γ=>by simp only [Tree.eqv];exact eqv_len t β γ
 | .bind x t,β,γ=>by simp only [Tree.eqv];exact eqv_len (t x) β γ
 | .fresh t,β,γ=>by simp only [Tree.eqv];exact eqv_len (t (β 0)) _ γ
 | .freshS t,β,γ=>by simp only [Tree.eqv];exact eqv_len (t (γ 0) (β 0)) _ _
 | .two a b,β,γ=>by simp only [Tree.eqv,jR,jM,eqv_len a β γ,eqv_len b β γ]
 | .stuck _ _ _,_,_=>rfl
theorem app_inj {α:Type} {a b c d:List α} (h:a++b=c++d) (hl:a.length=c.length):a=c∧b=d:=List.append_inj h hl
theorem Tree.val_holds {R:α→Value→Pr→List (Chunk σ)→Prop} {S:List Ab→List Ent→List (Chunk σ)→Prop} (hR:∀v p K,roL v p K=roR v p K→rb v p K=true→R (lf v p K) v p K):
 ∀(t:Tree σ) (r:α),(∀β γ,t.val lf d β γ=r)→(∀β γ,t.eqv lf d true β γ=t.eqv lf d false β γ)→(∀β γ,t.obl roL soL β γ=t.obl roR soR β γ)→(∀β γ,t.okb rb sb β γ=true)→(∀β γ,(t.nds β γ).holds)→t.holds (R r) S
 | .ret v p K,r,hv,_,ho,hb,_=>by
   have:=hv (λ_=>0) (λ_=>none)
   simp only [Tree.val] at this
   subst this
   have ho':=ho (λ_=>0) (λ_=>none)
   simp only [Tree.obl,lE,and_true] at ho'
   exact hR v p K ho' (hb (λ_=>0) (λ_=>none))
 | .br c a b,r,hv,he,ho,hb,hn=>by
   simp only [Tree.val] at hv
   simp only [Tree.eqv] at he
   simp only [Tree.obl] at ho
   simp only [Tree.okb,iE] at hb
   simp only [Tree.nds] at hn
   refine ⟨λhc=>Tree.val_holds hR a r (λβ γ=>?_) (λβ γ=>(app_inj (he β γ) (eqv_len a β γ)).1) (λβ γ=>(app_inj (ho β γ) (obl_len a β γ)).1) (λβ γ=>(hb β γ).1) (λβ γ=>(NT.sbr_holds (hn β γ)).1 hc),
    λhc=>Tree.val_holds hR b r (λβ γ=>?_) (λβ γ=>(app_inj (he β γ) (eqv_len a β γ)).2) (λβ γ=>(app_inj (ho β γ) (obl_len a β γ)).2) (λβ γ=>(hb β γ).2) (λβ γ=>(NT.sbr_holds (hn β γ)).2 hc)⟩
   ·have:=hv β γ;rw [hc] at this;exact this
   ·have:=hv β γ;rw [hc] at this;exact this
 | .need p t,r,hv,he,ho,hb,hn=>by
   have hp:p:=(hn (λ_=>0) (λ_=>none)).1
   exact ⟨hp, λ_=>Tree.val_holds hR t r hv he ho hb λβ γ=>(hn β γ).2 hp⟩
 | .bind x t,r,hv,he,ho,hb,hn=>by
   intro a ha
   subst ha
   exact Tree.val_holds hR (t a) r hv he ho hb λβ γ=>NT.sbind_holds (k:= λx=>(t x).nds β γ) (hn β γ)
 | .fresh t,r,hv,he,ho,hb,hn=> λb=>Tree.val_holds hR (t b) r (λβ γ=>hv (cn b β) γ) (λβ γ=>he (cn b β) γ) (λβ γ=>ho (cn b β) γ) (λβ γ=>hb (cn b β) γ) (λβ γ=>hn (cn b β) γ)
 | .freshS t,r,hv,he,ho,hb,hn=> λa c=>Tree.val_holds hR (t a c) r (λβ γ=>hv (cn c β) (cn a γ)) (λβ γ=>he (cn c β) (cn a γ)) (λβ γ=>ho (cn c β) (cn a γ)) (λβ γ=>hb (cn c β) (cn a γ)) (λβ γ=>hn (cn c β) (cn a γ))
 | .two a b,r,hv,he,ho,hb,hn=>by
   simp only [Tree.val] at hv
   simp only [Tree.eqv,cond_true,cond_false,lE] at he
   simp only [Tree.obl] at ho
   simp only [Tree.okb,iE] at hb
   simp only [Tree.nds] at hn
   exact ⟨Tree.val_holds hR a r hv (λβ γ=>(app_inj (he β γ).2 (eqv_len a β γ)).1) (λβ γ=>(app_inj (ho β γ) (obl_len a β γ)).1) (λβ γ=>(hb β γ).1) (λβ γ=>(NT.sand_holds (hn β γ)).1),
    Tree.val_holds hR b r (λβ γ=>((he β γ).1.symm.trans (hv β γ))) (λβ γ=>(app_inj (he β γ).2 (eqv_len a β γ)).2) (λβ γ=>(app_inj (ho β γ) (obl_len a β γ)).2) (λβ γ=>(hb β γ).2) (λβ γ=>(NT.sand_holds (hn β γ)).2)⟩
 | .stuck td L K,r,_,_,_,_,hn=>(hn (λ_=>0) (λ_=>none)).1.elim
theorem Tree.wp_holds {RQ:Value→Pr→List (Chunk σ)→Prop} {SQ:List Ab→List Ent→List (Chunk σ)→Prop} {R:Value→Pr→List (Chunk σ)→Prop} {S:List Ab→List Ent→List (Chunk σ)→Prop}
 (hR:∀v p K,roL v p K=roR v p K→rb v p K=true→RQ v p K→R v p K) (hS:∀td L K,soL td L K=soR td L K→sb td L K=true→SQ td L K→S td L K):
 ∀(t:Tree σ),(∀β γ,t.wp RQ SQ β γ)→(∀β γ,t.obl roL soL β γ=t.obl roR soR β γ)→(∀β γ,t.okb rb sb β γ=true)→t.holds R S
 | .ret v p K,hw,ho,hb=>by
   have ho':=ho (λ_=>0) (λ_=>none)
   simp only [Tree.obl,lE,and_true] at ho'
   exact hR v p K ho' (hb (λ_=>0) (λ_=>none)) (hw (λ_=>0) (λ_=>none))
 | .br c a b,hw,ho,hb=>by
   simp only [Tree.obl] at ho
   simp only [Tree.okb,iE] at hb
   exact ⟨λhc=>Tree.wp_holds hR hS a (λβ γ=>(hw β γ).1 hc) (λβ γ=>(app_inj (ho β γ) (obl_len a β γ)).1) (λβ γ=>(hb β γ).1),
    λhc=>Tree.wp_holds hR hS b (λβ γ=>(hw β γ).2 hc) (λβ γ=>(app_inj (ho β γ) (obl_len a β γ)).2) (λβ γ=>(hb β γ).2)⟩
 | .need p t,hw,ho,hb=>by
   have hp:p:=(hw (λ_=>0) (λ_=>none)).1
   exact ⟨hp, λ_=>Tree.wp_holds hR hS t (λβ γ=>(hw β γ).2 hp) ho hb⟩
 | .bind x t,hw,ho,hb=>by
   intro a ha
   subst ha
   exact Tree.wp_holds hR hS (t a) (λβ γ=>hw β γ a rfl) ho hb
 | .fresh t,hw,ho,hb=> λb=>Tree.wp_holds hR hS (t b) (λβ γ=>hw (cn b β) γ) (λβ γ=>ho (cn b β) γ) (λβ γ=>hb (cn b β) γ)
 | .freshS t,hw,ho,hb=> λa c=>Tree.wp_holds hR hS (t a c) (λβ γ=>hw (cn c β) (cn a γ)) (λβ γ=>ho (cn c β) (cn a γ)) (λβ γ=>hb (cn c β) (cn a γ))
 | .two a b,hw,ho,hb=>by
   simp only [Tree.obl] at ho
   simp only [Tree.okb,iE] at hb
   exact ⟨Tree.wp_holds hR hS a (λβ γ=>(hw β γ).1) (λβ γ=>(app_inj (ho β γ) (obl_len a β γ)).1) (λβ γ=>(hb β γ).1),
    Tree.wp_holds hR hS b (λβ γ=>(hw β γ).2) (λβ γ=>(app_inj (ho β γ) (obl_len a β γ)).2) (λβ γ=>(hb β γ).2)⟩
 | .stuck td L K,hw,ho,hb=>by
   have ho':=ho (λ_=>0) (λ_=>none)
   simp only [Tree.obl,lE,and_true] at ho'
   exact hS td L K ho' (hb (λ_=>0) (λ_=>none)) (hw (λ_=>0) (λ_=>none))
end
end
section
open Go.RowKit
variable {σ:Type}
mutual
def Sh.isArg:Sh σ→Bool
 | .i _=>true
 | .b=>true
 | .ro ks=>!ks.isEmpty
 | .fn _=>true
 | .agg l=>isArgs l
 |_=>false
def isArgs:List (Sh σ)→Bool
 |[]=>true
 |s::l=>s.isArg&&isArgs l
end
def colsFit:List (Option IntKind)→List Col→Bool
 |[],[]=>true
 |some .i8::ks, .fz _::cols=>colsFit ks cols
 |some .i64::ks, .fz _::cols=>colsFit ks cols
 |some .i16::ks, .sls _::cols=>colsFit ks cols
 |some k::ks, .ints k' _::cols=>(match decEq k k' with| .isTrue _=>true| .isFalse _=>false)&&((match decEq k .i8 with| .isTrue _=>false| .isFalse _=>true)&&(match decEq k .i16 with| .isTrue _=>false| .isFalse _=>true))&&colsFit ks cols
 |none::ks, .bools _::cols=>colsFit ks cols
 |_,_=>false
def noneI:List Value→List (Info σ)
 |[]=>[]
 |_::r=> .none::noneI r
mutual
def Sh.dA:Sh σ→Value→Info σ→Option (List (Cm σ))
 | .i k, .int k' x,_=>match decEq k k' with
   | .isTrue _=>some [.i x]
   | .isFalse _=>none
 | .b, .bool x,_=>some [.b x]
 | .ro ks,_, .row _ cols=>bif colsFit ks cols then some (colsCm ks cols) else none
 | .ro ks, .slice none 0 0, .none=>some (colsCm ks [])
 | .fn f, .func (.func g) ⟨[]⟩ ⟨[]⟩,_=>bif iM f g then some [] else none
 | .agg l, .agg vs, .none=>dAs l vs.toList (noneI vs.toList)
 | .agg l, .agg vs, .many is=>dAs l vs.toList is
 |_,_,_=>none
def dAs:List (Sh σ)→List Value→List (Info σ)→Option (List (Cm σ))
 |[],[],[]=>some []
 |s::l,v::vs,i::is=>match s.dA v i,dAs l vs is with
  |some a,some b=>some (a++b)
  |_,_=>none
 |_,_,_=>none
end
mutual
def Sh.bd:Sh σ→List (Cm σ)→Prop
 | .ro ks,cs=>lenC (colsOf ks cs)≤9223372036854775807
 | .agg l,cs=>bds l cs
 |_,_=>True
def bds:List (Sh σ)→List (Cm σ)→Prop
 |[],_=>True
 |s::l,cs=>s.bd cs∧bds l (cs.drop s.nC)
end
theorem fitsC_app:∀{ks ks':List (Kd σ)} {cs cs':List (Cm σ)},fitsC ks cs=true→fitsC ks' cs'=true→fitsC (ks++ks') (cs++cs')=true
 |[],_,[],_,_,h=>h
 |[],_,_::_,_,h,_=>by simp [fitsC] at h
 |_::_,_,[],_,h,_=>by simp [fitsC] at h
 |k::ks,ks',c::cs,cs',h,h'=>by
  simp only [fitsC,iE,kA] at h ⊢
  exact ⟨h.1,fitsC_app h.2 h'⟩
def ColR (c' c:Col):Prop:=c'.len=c.len∧(∀i,c'.at i=c.at i)∧(c'.isFz=true→c.isFz=true)∧∀(Y:Hp) i,c.sub Y i→c'.sub Y i
def ColsR:List Col→List Col→Prop
 |[],[]=>True
 |c'::cs',c::cs=>ColR c' c∧ColsR cs' cs
 |_,_=>False
theorem ColsR.get:∀{cs' cs:List Col},ColsR cs' cs→∀{j:Nat} {c':Col},cs'[j]? =some c'→∃c,cs[j]? =some c∧ColR c' c
 |[],_,_,j,c',h=>by simp at h
 |_::_,[],h,_,_,_=>h.elim
 |d'::cs',d::cs,h,0,c',hj=>by simp at hj;subst hj;exact ⟨d,rfl,h.1⟩
 |d'::cs',d::cs,h,j+1,c',hj=>by simpa using ColsR.get h.2 (j:=j) (by simpa using hj)
theorem ColsR.len:∀{cs' cs:List Col},ColsR cs' cs→cs'.length=cs.length
 |[],[],_=>rfl
 |[],_::_,h=>h.elim
 |_::_,[],h=>h.elim
 |_::_,_::_,h=>by simp [ColsR.len h.2]
theorem ColsR.lenC:∀{cs' cs:List Col},ColsR cs' cs→lenC cs'=Sl.lenC cs
 |[],[],_=>rfl
 |[],_::_,h=>h.elim
 |_::_,[],h=>h.elim
 |_::_,_::_,h=>h.1.1
theorem ColsR.fz:∀{cs' cs:List Col},ColsR cs' cs→fzB cs'=true→fzB cs=true
 |[],[],_,h=>h
 |[],_::_,h,_=>h.elim
 |_::_,[],h,_=>h.elim
 |c'::_,c::_,h,hf=>by
  unfold fzB at hf ⊢
  cases hc:c.isFz with
  |true=>rfl
  |false=>
   cases hc':c'.isFz with
   |true=>rw [h.1.2.2.1 hc'] at hc;cases hc
   |false=>rw [hc'] at hf;exact ColsR.fz h.2 hf
theorem subs_congr {Y:Hp} {n:Nat} {cs' cs:List Col} (hr:ColsR cs' cs) (H:subs Y n cs):subs Y n cs':= λc hc i hi=>by
 obtain ⟨j,hj⟩:=mR hc
 obtain ⟨d,hd,hcd⟩:=hr.get hj
 exact hcd.2.2.2 Y i (H d (jC hd) i hi)
theorem RowAt.congr {h:Hp} {a:Option Addr} {n:Nat} {cs' cs:List Col} (hr:ColsR cs' cs) (H:RowAt h a n cs):RowAt h a n cs':=by
 refine ⟨λc hc=>?_, λi hi=>?_,H.2.2⟩
 ·obtain ⟨j,hj⟩:=mR hc
  obtain ⟨d,hd,hcd⟩:=hr.get hj
  rw [hcd.1];exact H.1 d (jC hd)
 ·obtain ⟨b,hb,hc⟩:=H.2.1 i hi
  refine ⟨b,hb, λj c hj=>?_⟩
  obtain ⟨d,hd,hcd⟩:=hr.get hj
  rw [hr.len,hcd.2.1 i]
  exact hc j d hd
theorem colF_R (k:IntKind) (xs:LI) (hk:k≠ .i8∧k≠ .i16):ColR (colF k xs) (.ints k xs):=by
 cases k<;>first|exact ⟨rfl, λ_=>rfl, λh=>h, λ_ _ h=>h⟩|exact absurd rfl hk.1|exact absurd rfl hk.2
theorem colsFit_ok:∀{ks:List (Option IntKind)} {cols:List Col},colsFit ks cols=true→(∀rest:List (Cm σ),ColsR (colsOf ks (colsCm ks cols++rest)) cols)∧fitsC (σ:=σ) (ks.map colK) (colsCm ks cols)=true∧(colsCm (σ:=σ) ks cols).length=ks.length
 |[],[],_=>⟨λ_=>trivial,rfl,rfl⟩
 |[],_::_,h=>by simp [colsFit] at h
 |some k::ks,[],h=>by cases k<;>simp [colsFit] at h
 |none::ks,[],h=>by simp [colsFit] at h
 |some k::ks, .fz xs::cols,h=>by
  have key:∀k:IntKind,(k= .i8∨k= .i64)→colsFit ks cols=true→(∀rest:List (Cm σ),ColsR (colsOf (some k::ks) (colsCm (some k::ks) (.fz xs::cols)++rest)) (.fz xs::cols))∧fitsC (σ:=σ) ((some k::ks).map colK) (colsCm (some k::ks) (.fz xs::cols))=true∧(colsCm (σ:=σ) (some k::ks) (.fz xs::cols)).length=(some k::ks).length:= λk hk h=>by
   obtain ⟨h1,h2,h3⟩:=colsFit_ok h
   refine ⟨λrest=>?_,?_,?_⟩
   ·simp only [colsCm,lL,mQ,kA,colsOf,ColsR]
    refine ⟨?_,h1 rest⟩
    rcases hk with rfl|rfl
    ·exact ⟨rfl, λ_=>rfl, λh=>h, λ_ _ _=>trivial⟩
    ·exact ⟨rfl, λ_=>rfl, λh=>(by cases h), λ_ _ _=>trivial⟩
   ·simp only [colsCm,lL,mQ,iK,fitsC,colK,Kd.fits,h2,nG]
   ·simp only [colsCm,lL,mQ,jR,h3]
  cases k<;>simp only [colsFit] at h<;>first|exact key _ (.inl rfl) h|exact key _ (.inr rfl) h|cases h
 |some k::ks, .ints k' xs::cols,h=>by
  have h':((match decEq k k' with| .isTrue _=>true| .isFalse _=>false)&&((match decEq k .i8 with| .isTrue _=>false| .isFalse _=>true)&&(match decEq k .i16 with| .isTrue _=>false| .isFalse _=>true))&&colsFit ks cols)=true:=by
   cases k<;>exact h
  simp only [iE] at h'
  obtain ⟨⟨h0,h8,h16⟩,hq⟩:=h'
  split at h0
  ·rename_i e _;subst e
   have hk:k≠ .i8∧k≠ .i16:=by
    refine ⟨?_,?_⟩
    ·split at h8
     ·cases h8
     ·rename_i e _;exact e
    ·split at h16
     ·cases h16
     ·rename_i e _;exact e
   obtain ⟨h1,h2,h3⟩:=colsFit_ok hq
   refine ⟨λrest=>?_,?_,?_⟩
   ·simp only [colsCm,lL,mQ,kA,colsOf,ColsR]
    exact ⟨colF_R k _ hk,h1 rest⟩
   ·simp only [colsCm,lL,mQ,iK,fitsC,colK,Kd.fits,h2,nG]
   ·simp only [colsCm,lL,mQ,jR,h3]
  ·cases h0
 |some k::ks, .bools _::_,h=>by cases k<;>simp [colsFit] at h
 |none::ks, .sls _::_,h=>by simp [colsFit] at h
 |some k::ks, .sls xs::cols,h=>by
  have key:k= .i16∧colsFit ks cols=true:=by
   cases k<;>simp only [colsFit] at h<;>first|exact ⟨rfl,h⟩|cases h
  obtain ⟨rfl,hq⟩:=key
  obtain ⟨h1,h2,h3⟩:=colsFit_ok hq
  refine ⟨λrest=>?_,?_,?_⟩
  ·simp only [colsCm,lL,mQ,kA,colsOf,ColsR]
   exact ⟨⟨rfl, λ_=>rfl, λh=>h, λ_ _ h=>h⟩,h1 rest⟩
  ·simp only [colsCm,lL,mQ,iK,fitsC,colK,Kd.fits,h2,nG]
  ·simp only [colsCm,lL,mQ,jR,h3]
 |some k::ks, .vals _::_,h=>by cases k<;>simp [colsFit] at h
 |none::ks, .bools xs::cols,h=>by
  simp only [colsFit] at h
  obtain ⟨h1,h2,h3⟩:=colsFit_ok h
  refine ⟨λrest=>?_,?_,?_⟩
  ·simp only [colsCm,lL,mQ,kA,colsOf,ColsR]
   exact ⟨⟨rfl, λ_=>rfl, λh=>h, λ_ _ h=>h⟩,h1 rest⟩
  ·simp only [colsCm,lL,mQ,iK,fitsC,colK,Kd.fits,h2,nG]
  ·simp only [colsCm,lL,mQ,jR,h3]
 |none::ks, .ints _ _::_,h=>by simp [colsFit] at h
 |none::ks, .vals _::_,h=>by simp [colsFit] at h
 |none::ks, .fz _::_,h=>by simp [colsFit] at h
theorem rosOk_app {G Z:Hp}:∀{a b:List (Chunk σ)},rosOk G Z a→rosOk G Z b→rosOk G Z (a++b)
 |[],_,_,h=>h
 |c::cs,b,h,h'=>⟨h.1,rosOk_app h.2 h'⟩
theorem noCells_app:∀{a b:List (Chunk σ)},noCells a=true→noCells b=true→noCells (a++b)=true
 |[],_,_,h=>h
 |c::cs,b,h,h'=>by
  cases c<;>simp only [noCells,kA] at h ⊢ <;>first|exact noCells_app h h'|cases h
def isObjI:Value→Info σ→Bool
 | .pointer (some _), .obj _=>true
 |_,_=>false
theorem objsGo_nil:∀{vs:List Value} {is:List (Info σ)},(jI isObjI vs is).all (!·)=true→objsV.go vs is=[]
 |[],[],_=>by simp [objsV.go]
 |[],_::_,_=>by simp [objsV.go]
 |_::_,[],_=>by simp [objsV.go]
 |v::vs,i::is,h=>by
  simp only [lH,List.all_cons,iE] at h
  have ih:=objsGo_nil h.2
  unfold objsV.go
  split
  ·rename_i e1 e2
   simp only [lE] at e1 e2
   obtain ⟨rfl,rfl⟩:=e1
   obtain ⟨rfl,rfl⟩:=e2
   simp [isObjI] at h
  ·rename_i e1 e2
   simp only [lE] at e1 e2
   obtain ⟨rfl,rfl⟩:=e1
   obtain ⟨rfl,rfl⟩:=e2
   exact ih
  ·rfl
mutual
theorem Sh.tp_ok (ad:Nat→Ad):∀(s:Sh σ) (k j:Nat) (cs:List (Cm σ)),s.isArg=true→(s.tp ad k j cs).K.length=s.nK∧noCells (s.tp ad k j cs).K=true∧∀K0 K2:List (Chunk σ),K0.length=k→pOk (K0++(s.tp ad k j cs).K++K2) (s.tp ad k j cs).v (s.tp ad k j cs).p
 | .i _,k,j,cs,_=>⟨rfl,rfl, λ_ _ _=>pOk_no⟩
 | .b,k,j,cs,_=>⟨rfl,rfl, λ_ _ _=>pOk_no⟩
 | .fn _,k,j,cs,_=>⟨rfl,rfl, λ_ _ _=>pOk_no⟩
 | .ro ks,k,j,cs,_=>⟨rfl,rfl, λK0 K2 hk=>pOk_pt.2 ⟨.ro (ad j).a (lenC (colsOf ks cs)) (ad j).c (colsOf ks cs),by subst hk;rw [jX,iQ (kF _),pZ];rfl,rfl⟩⟩
 | .agg l,k,j,cs,h=>by
   obtain ⟨h1,h2,h3⟩:=tps_ok ad l k j cs h
   refine ⟨h1,h2, λK0 K2 hk=>?_⟩
   simp only [Sh.tp]
   exact mkMany_agg (h3 K0 K2 hk)
 | .skip,_,_,_,h=>by simp [Sh.isArg] at h
 | .ic _ _,_,_,_,h=>by simp [Sh.isArg] at h
 | .bc _,_,_,_,h=>by simp [Sh.isArg] at h
 | .tup _,_,_,_,h=>by simp [Sh.isArg] at h
 | .roc _,_,_,_,h=>by simp [Sh.isArg] at h
 | .own _ _,_,_,_,h=>by simp [Sh.isArg] at h
 | .new _ _,_,_,_,h=>by simp [Sh.isArg] at h
 | .obj _,_,_,_,h=>by simp [Sh.isArg] at h
 | .objc _ _,_,_,_,h=>by simp [Sh.isArg] at h
 | .nobj _,_,_,_,h=>by simp [Sh.isArg] at h
 | .box _ _,_,_,_,h=>by simp [Sh.isArg] at h
 | .boxc _ _ _,_,_,_,h=>by simp [Sh.isArg] at h
 | .objb _,_,_,_,h=>by simp [Sh.isArg] at h
 | .nxt _,_,_,_,h=>by simp [Sh.isArg] at h
 | .agn _,_,_,_,h=>by simp [Sh.isArg] at h
 | .mp _ _,_,_,_,h=>by simp [Sh.isArg] at h
 | .ago _,_,_,_,h=>by simp [Sh.isArg] at h
 | .agc _ _,_,_,_,h=>by simp [Sh.isArg] at h
 | .ags _ _,_,_,_,h=>by simp [Sh.isArg] at h
theorem tps_ok (ad:Nat→Ad):∀(l:List (Sh σ)) (k j:Nat) (cs:List (Cm σ)),isArgs l=true→(tpK (tps ad l k j cs)).length=nKs l∧noCells (tpK (tps ad l k j cs))=true∧∀K0 K2:List (Chunk σ),K0.length=k→psOk (K0++tpK (tps ad l k j cs)++K2) (tpV (tps ad l k j cs)) (tpP (tps ad l k j cs))
 |[],_,_,_,_=>⟨rfl,rfl, λ_ _ _=>psOk_nil⟩
 |s::l,k,j,cs,h=>by
  simp only [isArgs,iE] at h
  obtain ⟨h1,h2,h3⟩:=Sh.tp_ok ad s k j cs h.1
  obtain ⟨g1,g2,g3⟩:=tps_ok ad l (k+s.nK) (j+s.nA) (cs.drop s.nC) h.2
  simp only [tps,tpK,tpV,tpP,nKs]
  refine ⟨by rw [jM,h1,g1],noCells_app h2 g2, λK0 K2 hk=>psOk_cons ?_ ?_⟩
  ·have:=h3 K0 (tpK (tps ad l (k+s.nK) (j+s.nA) (cs.drop s.nC))++K2) hk
   simpa [jX] using this
  ·have:=g3 (K0++(s.tp ad k j cs).K) K2 (by rw [jM,hk,h1])
   simpa [jX] using this
end
theorem iOk_noneI {G Z:Hp}:∀vs:List Value,isOk (σ:=σ) G Z vs (noneI vs)
 |[]=>by simp [noneI,isOk]
 |v::vs=>by simp only [noneI,isOk];exact ⟨by simp [iOk],iOk_noneI vs⟩
theorem adl_app {a b:List Ad} {ad:Nat→Ad} {j:Nat} (h:∀(m:Nat) x,(a++b)[m]? =some x→ad (j+m)=x):(∀(m:Nat) x,a[m]? =some x→ad (j+m)=x)∧∀(m:Nat) x,b[m]? =some x→ad (j+a.length+m)=x:=by
 refine ⟨λm x hm=>h m x ?_, λm x hm=>?_⟩
 ·rw [iO (lt_of_get hm)];exact hm
 ·rw [nF];exact h _ x (by rw [iQ (by omega)];simpa using hm)
def ArgIs (G Z:Hp) (s:Sh σ) (v:Value) (i:Info σ) (cs:List (Cm σ)):Prop:=
 fitsC s.kd cs=true∧cs.length=s.nC∧isObjI v i=false∧objsV v i=[]∧(∀rest,s.bd (cs++rest))∧∃adl:List Ad,adl.length=s.nA∧∀(ad:Nat→Ad) (k j:Nat) (rest:List (Cm σ)),(∀(m:Nat) a,adl[m]? =some a→ad (j+m)=a)→(s.tp ad k j (cs++rest)).v=v∧rosOk G Z (s.tp ad k j (cs++rest)).K
def ArgOk (G Z:Hp) (s:Sh σ):Prop:=∀(v:Value) (i:Info σ) (cs:List (Cm σ)),s.isArg=true→s.dA v i=some cs→iOk G Z v i→ArgIs G Z s v i cs
theorem dAs_ok {G Z:Hp}:∀(l:List (Sh σ)),(∀s∈l,ArgOk G Z s)→∀(vs:List Value) (is:List (Info σ)) (cs:List (Cm σ)),isArgs l=true→dAs l vs is=some cs→isOk G Z vs is→
 fitsC (kds l) cs=true∧cs.length=nCs l∧(jI isObjI vs is).all (!·)=true∧objsOf (mP vs is)=[]∧(∀rest,bds l (cs++rest))∧∃adl:List Ad,adl.length=nAs l∧∀(ad:Nat→Ad) (k j:Nat) (rest:List (Cm σ)),(∀(m:Nat) a,adl[m]? =some a→ad (j+m)=a)→tpV (tps ad l k j (cs++rest))=vs∧rosOk G Z (tpK (tps ad l k j (cs++rest)))
 |[],_,[],[],cs,_,h,_=>by
  simp only [dAs,iC] at h;subst h
  exact ⟨rfl,rfl,rfl,rfl, λ_=>trivial,[],rfl, λ_ _ _ _ _=>⟨rfl,trivial⟩⟩
 |[],_,_::_,_,_,_,h,_=>by simp [dAs] at h
 |[],_,[],_::_,_,_,h,_=>by simp [dAs] at h
 |_::_,_,[],_,_,_,h,_=>by simp [dAs] at h
 |_::_,_,_::_,[],_,_,h,_=>by simp [dAs] at h
 |s::l,H,v::vs,i::is,cs,ha,h,hi=>by
  simp only [isArgs,iE] at ha
  simp only [isOk] at hi
  simp only [dAs] at h
  split at h
  ·rename_i a b e1 e2
   injection h with h;subst h
   obtain ⟨h1,h2,h3,h4,h5,adl,h6,h7⟩:=H s (by simp) v i a ha.1 e1 hi.1
   obtain ⟨g1,g2,g3,g4,g5,adl',g6,g7⟩:=dAs_ok l (λs hs=>H s (by simp [hs])) vs is b ha.2 e2 hi.2
   have ed:∀rest:List (Cm σ),(a++b++rest).drop s.nC=b++rest:= λrest=>by
    rw [jX,←h2];exact List.drop_left
   refine ⟨fitsC_app h1 g1,by rw [jM,h2,g2,nCs],by simp only [lH,List.all_cons,h3,g3];rfl,by simp only [pD,objsOf,h4,g4];rfl, λrest=>⟨by rw [jX];exact h5 _,by rw [ed];exact g5 rest⟩,adl++adl',by rw [jM,h6,g6,nAs], λad k j rest hm=>?_⟩
   obtain ⟨m1,m2⟩:=adl_app hm
   rw [h6] at m2
   obtain ⟨x1,x2⟩:=h7 ad k j (b++rest) m1
   obtain ⟨y1,y2⟩:=g7 ad (k+s.nK) (j+s.nA) rest m2
   simp only [tps,tpV,tpK,ed]
   rw [jX]
   exact ⟨by rw [x1,y1],rosOk_app x2 y2⟩
  ·cases h
theorem agg_ok {G Z:Hp} {l:List (Sh σ)} (H:∀s∈l,ArgOk G Z s):ArgOk G Z (.agg l):=by
 intro v i cs ha h hi
 have key:∀(vs:Array Value) is,v= .agg vs→dAs l vs.toList is=some cs→isOk G Z vs.toList is→(objsV v i=objsV.go vs.toList is∨objsV v i=[])→ArgIs G Z (.agg l) v i cs:= λvs is hv hq hj ho=>by
  subst hv
  obtain ⟨h1,h2,h3,_,h5,adl,h6,h7⟩:=dAs_ok l H vs.toList is cs ha hq hj
  refine ⟨h1,h2,by simp [isObjI],?_,h5,adl,h6, λad k j rest hm=>?_⟩
  ·rcases ho with ho|ho
   ·rw [ho];exact objsGo_nil h3
   ·exact ho
  ·obtain ⟨g1,g2⟩:=h7 ad k j rest hm
   refine ⟨?_,g2⟩
   simp only [Sh.tp,g1]
 cases v with
 |agg vs=>cases i with
  |none=>exact key vs _ rfl (by simpa [Sh.dA] using h) (iOk_noneI _) (.inr (by simp [objsV]))
  |many is=>exact key vs is rfl (by simpa [Sh.dA] using h) (by simpa [iOk] using hi) (.inl (by simp [objsV]))
  |_=>simp [Sh.dA] at h
 |_=>simp [Sh.dA] at h
theorem i_ok {G Z:Hp} {k:IntKind}:ArgOk (σ:=σ) G Z (.i k):=by
 intro v i cs _ h _
 cases v<;>simp only [Sh.dA] at h<;>first|cases h|skip
 rename_i k' x
 split at h
 ·rename_i e _;subst e
  injection h with h;subst h
  exact ⟨rfl,rfl,by simp [isObjI],by simp [objsV], λ_=>trivial,[],rfl, λ_ _ _ _ _=>⟨rfl,trivial⟩⟩
 ·cases h
theorem b_ok {G Z:Hp}:ArgOk (σ:=σ) G Z .b:=by
 intro v i cs _ h _
 cases v<;>simp only [Sh.dA] at h<;>first|cases h|skip
 exact ⟨rfl,rfl,by simp [isObjI],by simp [objsV], λ_=>trivial,[],rfl, λ_ _ _ _ _=>⟨rfl,trivial⟩⟩
theorem nilCols:∀(ks:List (Option IntKind)) (rest:List (Cm σ)),(∀c∈colsOf ks (colsCm ks []++rest),c.len=0)∧fitsC (σ:=σ) (ks.map colK) (colsCm ks [])=true∧(colsCm (σ:=σ) ks []).length=ks.length
 |[],_=>⟨λc hc=>by simp [colsOf] at hc,rfl,rfl⟩
 |some k::ks,rest=>by
  obtain ⟨h1,h2,h3⟩:=nilCols ks rest
  refine ⟨λc hc=>?_,?_,?_⟩
  ·simp only [colsCm,pK,pV,kA,colsOf,iG] at hc
   rcases hc with rfl|hc
   ·cases k<;>rfl
   ·exact h1 c hc
  ·simp only [colsCm,pK,pV,iK,fitsC,colK,Kd.fits,h2,nG]
  ·simp only [colsCm,pK,pV,jR,h3]
 |none::ks,rest=>by
  obtain ⟨h1,h2,h3⟩:=nilCols ks rest
  refine ⟨λc hc=>?_,?_,?_⟩
  ·simp only [colsCm,pK,pV,kA,colsOf,iG] at hc
   rcases hc with rfl|hc
   ·rfl
   ·exact h1 c hc
  ·simp only [colsCm,pK,pV,iK,fitsC,colK,Kd.fits,h2,nG]
  ·simp only [colsCm,pK,pV,jR,h3]
theorem lenC_zero:∀{cols:List Col},(∀c∈cols,c.len=0)→lenC cols=0
 |[],_=>rfl
 |c::_,h=>h c (by simp)
theorem ro_none {G Z:Hp} {ks:List (Option IntKind)} {v:Value} {cs:List (Cm σ)} (h:(Sh.ro (σ:=σ) ks).dA v .none=some cs):ArgIs (σ:=σ) G Z (.ro ks) v .none cs:=by
 have no:∀{o:Option (List (Cm σ))},o=none→o=some cs→False:= λh1 h2=>by rw [h1] at h2;cases h2
 have key:v= .slice none 0 0∧cs=colsCm ks []:=by
  cases v with
  |slice a m c=>
   cases a with
   |some x=>exact (no rfl h).elim
   |none=>
    cases m with
    |succ m=>exact (no rfl h).elim
    |zero=>
     cases c with
     |succ c=>exact (no rfl h).elim
     |zero=>exact ⟨rfl,(Option.some.inj (show some (colsCm ks [])=some cs from h)).symm⟩
  |_=>exact (no rfl h).elim
 obtain ⟨rfl,rfl⟩:=key
 refine ⟨(nilCols ks []).2.1,by rw [(nilCols ks []).2.2];rfl,by simp [isObjI],by simp [objsV], λrest=>?_,[Ad.z],rfl, λad k j rest hm=>?_⟩
 ·show lenC (colsOf ks _)≤_
  rw [lenC_zero (nilCols ks rest).1];decide
 ·have:=hm 0 _ rfl
  rw [oE] at this
  simp only [Sh.tp,this,lenC_zero (nilCols ks rest).1]
  exact ⟨rfl,⟨⟨λc hc=>(nilCols ks rest).1 c hc, λi hi=>absurd hi (mX i),oM _⟩,(by cases fzB (colsOf ks (colsCm ks []++rest))<;>first|exact kF _|exact ⟨kF _, λc _ i hi=>absurd hi (mX i)⟩)⟩,trivial⟩
theorem ro_row {G Z:Hp} {ks:List (Option IntKind)} {v:Value} {n:Nat} {cols:List Col} {cs:List (Cm σ)} (hks:(Sh.ro (σ:=σ) ks).isArg=true) (h:(Sh.ro (σ:=σ) ks).dA v (.row n cols)=some cs) (hi:iOk (σ:=σ) G Z v (.row n cols)):ArgIs (σ:=σ) G Z (.ro ks) v (.row n cols) cs:=by
 have h:(bif colsFit ks cols then some (colsCm ks cols) else none)=some cs:=by
  cases v<;>exact h
 cases hb:colsFit ks cols with
 |false=>rw [hb] at h;cases h
 |true=>
  rw [hb] at h
  simp only [cond_true] at h
  injection h with h;subst h
  obtain ⟨h1,h2,h3⟩:=colsFit_ok (σ:=σ) hb
  simp only [iOk] at hi
  obtain ⟨a,c,rfl,hr,hcap,hfz⟩:=hi
  have hl:lenC cols=n:=by
   cases cols with
   |nil=>cases ks<;>first|(simp [Sh.isArg] at hks;done)|(rename_i q _;cases q<;>first|(simp [colsFit] at hb;done)|(rename_i k;cases k<;>simp [colsFit] at hb))
   |cons c0 cr=>exact hr.1 c0 (by simp)
  refine ⟨h2,by rw [h3];rfl,by cases a<;>simp [isObjI],by cases a<;>simp [objsV], λrest=>?_,[{Ad.z with a:=a,c:=c}],rfl, λad k j rest hm=>?_⟩
  ·show lenC (colsOf ks _)≤_
   rw [(h1 rest).lenC,hl];exact hr.2.2
  ·have:=hm 0 _ rfl
   rw [oE] at this
   simp only [Sh.tp,this,(h1 rest).lenC,hl]
   have key:∀b,fzB (colsOf ks (colsCm ks cols++rest))=b→RowAt (bif b then Z else G) a n (colsOf ks (colsCm ks cols++rest))∧(bif b then n≤c∧subs Z n (colsOf ks (colsCm ks cols++rest)) else n≤c):= λb hf=>by
    cases b with
    |true=>exact ⟨RowAt.congr (h1 rest) (hfz ((h1 rest).fz hf)).1,hcap,subs_congr (h1 rest) (hfz ((h1 rest).fz hf)).2⟩
    |false=>exact ⟨RowAt.congr (h1 rest) hr,hcap⟩
   exact ⟨trivial,key _ rfl,trivial⟩
theorem ro_ok {G Z:Hp} {ks:List (Option IntKind)}:ArgOk (σ:=σ) G Z (.ro ks):=by
 intro v i cs hks h hi
 cases i with
 |none=>exact ro_none h
 |row n cols=>exact ro_row hks h hi
 |_=>cases v<;>simp [Sh.dA] at h
theorem fn_ok {G Z:Hp} {f:Nat}:ArgOk (σ:=σ) G Z (.fn f):=by
 intro v i cs _ h _
 cases v with
 |func fn a b=>cases fn with
  |func g=>
   obtain ⟨a⟩:=a
   obtain ⟨b⟩:=b
   cases a<;>cases b<;>simp only [Sh.dA] at h<;>try (cases h;done)
   cases hb:iM f g with
   |false=>rw [hb] at h;cases h
   |true=>
    rw [hb] at h
    simp only [cond_true] at h
    injection h with h;subst h
    have:=iJ hb
    subst this
    exact ⟨rfl,rfl,by simp [isObjI],by simp [objsV], λ_=>trivial,[],rfl, λ_ _ _ _ _=>⟨rfl,trivial⟩⟩
  |_=>simp [Sh.dA] at h
 |_=>simp [Sh.dA] at h
theorem Sh.dA_ok {G Z:Hp}:∀(s:Sh σ),ArgOk G Z s
 | .i k=>i_ok
 | .b=>b_ok
 | .fn f=>fn_ok
 | .ro ks=>ro_ok
 | .agg l=>agg_ok λs _=>Sh.dA_ok s
 | .skip=> λ_ _ _ h=>by simp [Sh.isArg] at h
 | .ic _ _=> λ_ _ _ h=>by simp [Sh.isArg] at h
 | .bc _=> λ_ _ _ h=>by simp [Sh.isArg] at h
 | .tup _=> λ_ _ _ h=>by simp [Sh.isArg] at h
 | .roc _=> λ_ _ _ h=>by simp [Sh.isArg] at h
 | .own _ _=> λ_ _ _ h=>by simp [Sh.isArg] at h
 | .new _ _=> λ_ _ _ h=>by simp [Sh.isArg] at h
 | .obj _=> λ_ _ _ h=>by simp [Sh.isArg] at h
 | .objc _ _=> λ_ _ _ h=>by simp [Sh.isArg] at h
 | .nobj _=> λ_ _ _ h=>by simp [Sh.isArg] at h
 | .box _ _=> λ_ _ _ h=>by simp [Sh.isArg] at h
 | .boxc _ _ _=> λ_ _ _ h=>by simp [Sh.isArg] at h
 | .objb _=> λ_ _ _ h=>by simp [Sh.isArg] at h
 | .nxt _=> λ_ _ _ h=>by simp [Sh.isArg] at h
 | .agn _=> λ_ _ _ h=>by simp [Sh.isArg] at h
 | .mp _ _=> λ_ _ _ h=>by simp [Sh.isArg] at h
 | .ago _=> λ_ _ _ h=>by simp [Sh.isArg] at h
 | .agc _ _=> λ_ _ _ h=>by simp [Sh.isArg] at h
 | .ags _ _=> λ_ _ _ h=>by simp [Sh.isArg] at h
end
section
open Go.RowKit
variable {σ:Type}
structure Ct (σ:Type) where
 ob:Option (Wr σ)
 pu:Bool
 ash:List (Sh σ)
 rs:Sh σ
def okd:Option (Wr σ)→List (Kd σ)
 |none=>[]
 |some w=>[.st w]
def obSh:Option (Wr σ)→List (Sh σ)
 |none=>[]
 |some w=>[.obj w]
@[reducible] def Ct.full (c:Ct σ):List (Sh σ):=obSh c.ob++c.ash
@[reducible] def Ct.AK (c:Ct σ):List (Kd σ):=kds c.full
@[reducible] def Ct.rob (c:Ct σ):Option (Wr σ):=bif c.pu then none else c.ob
@[reducible] def Ct.RK (c:Ct σ):List (Kd σ):=okd c.rob++c.rs.kd
def argsC (ob:Option (Wr σ)) (ash:List (Sh σ)) (args:List (Value×Info σ)):Option (List (Cm σ)):=
 match ob with
 |none=>dAs ash (args.map (·.1)) (args.map (·.2))
 |some w=>match args with
  |(.pointer (some _), .obj s)::r=>bif w.is s then (match dAs ash (r.map (·.1)) (r.map (·.2)) with
   |some cs=>some (.st s::cs)
   |none=>none) else none
  |_=>none
def newC:Option (Wr σ)→List (Cm σ)→Option σ
 |none,_=>none
 |some w,cs=>some (w.inj ((hdC cs).stOf w))
def restC:Option (Wr σ)→List (Cm σ)→List (Cm σ)
 |none,cs=>cs
 |some _,cs=>cs.tail
def Ct.outC (c:Ct σ) (r:Ty c.RK):List Value→Value:=c.rs.out (restC c.rob (toCm c.RK r))
def Ct.mksC (c:Ct σ) (r:Ty c.RK):List (Mk σ):=c.rs.mks (restC c.rob (toCm c.RK r))
def Ct.nwC (c:Ct σ) (p:Addr) (cs:List (Cm σ)) (r:Ty c.RK):List (Chunk σ):=
 match c.ob with
 |none=>[]
 |some w=>[.obj p (w.inj ((hdC (bif c.pu then cs else toCm c.RK r)).stOf w))]
def entC (c:Ct σ) (F:Cur c.AK (Ty c.RK)) (pre:Cur c.AK (List Prop)):Entry σ:= λargs=>
 match argsC c.ob c.ash args with
 |some cs=>some ⟨appC c.AK F cs, λr=>⟨appC c.AK pre cs,newC c.rob (toCm c.RK r),c.mksC r,c.outC r,c.rs.outp⟩⟩
 |none=>none
def objCm (c:Ct σ) (K:List (Chunk σ)):List (Cm σ):=
 match c.rob,K with
 |some _, .obj _ s::_=>[.st s]
 |some _,_=>[.b false]
 |none,_=>[]
def Ct.retR (c:Ct σ) (v:Value) (p:Pr) (K:List (Chunk σ)):Ty c.RK:=ofCm c.RK (objCm c K++(c.rs.dc K v p).cs)
def obIs:Option (Wr σ)→List Nat
 |none=>[]
 |some _=>[0]
def Ct.retIs (c:Ct σ) (v:Value) (p:Pr) (K:List (Chunk σ)):List Nat:=obIs c.ob++fixIs 0 (c.rs.dc K v p).is
def Ct.retAnc (c:Ct σ) (v:Value) (p:Pr) (K:List (Chunk σ)):List Anc:=(c.rs.dc K v p).ad.map λa=>(a.o,a.b,a.c,a.a)
def Ct.retTm (c:Ct σ) (p0:Addr) (cs:List (Cm σ)) (v:Value) (p:Pr) (K:List (Chunk σ)):List (Chunk σ):=c.nwC p0 cs (c.retR v p K)++jI ancC (c.mksC (c.retR v p K)) (c.retAnc v p K)
def lhsK (K:List (Chunk σ)):List Nat→List (Chunk σ)→List (Option (Chunk σ))
 |i::is,c::cs=>(match K[i]? with
  |some d=>some (normC c d)
  |none=>bif nilRow c then some (stripC c) else none)::lhsK K is cs
 |_,_=>[]
def rhsK:List (Chunk σ)→List (Option (Chunk σ))
 |[]=>[]
 |c::cs=>some (stripC c)::rhsK cs
theorem got_of {K:List (Chunk σ)}:∀{is:List Nat} {cs:List (Chunk σ)},lhsK K is cs=rhsK cs→iM is.length cs.length=true→got K is cs
 |[],[],_,_=>trivial
 |[],_::_,_,h=>by simp at h
 |_::_,[],_,h=>by simp at h
 |i::is,c::cs,h,hl=>by
  simp only [lhsK,rhsK,lE] at h
  refine ⟨?_,got_of h.2 (by simpa using hl)⟩
  cases hk:K[i]? with
  |none=>
   rw [hk] at h
   cases hn:nilRow c with
   |true=>exact .inr rfl
   |false=>rw [hn] at h;simp at h
  |some d=>rw [hk] at h;exact .inl (by simpa using h.1)
def Ct.roL (c:Ct σ) (p0:Addr) (cs:List (Cm σ)) (v:Value) (p:Pr) (K:List (Chunk σ)):Ob σ:=⟨[],v,[],lhsK K (c.retIs v p K) (c.retTm p0 cs v p K)⟩
def Ct.roR (c:Ct σ) (p0:Addr) (cs:List (Cm σ)) (v:Value) (p:Pr) (K:List (Chunk σ)):Ob σ:=⟨[],c.outC (c.retR v p K) (jI ancV (c.mksC (c.retR v p K)) (c.retAnc v p K)),[],rhsK (c.retTm p0 cs v p K)⟩
def Ct.rob_ (c:Ct σ) (p0:Addr) (cs:List (Cm σ)) (v:Value) (p:Pr) (K:List (Chunk σ)):Bool:=nodupB (c.retIs v p K)&&ancOk (c.mksC (c.retR v p K)) (c.retAnc v p K)&&iM (c.retIs v p K).length (c.retTm p0 cs v p K).length
theorem Ct.ret_ok {c:Ct σ} {p0:Addr} {cs:List (Cm σ)} {v:Value} {p:Pr} {K:List (Chunk σ)} (h:c.roL p0 cs v p K=c.roR p0 cs v p K) (hb:c.rob_ p0 cs v p K=true):
 RetOk (c.outC (c.retR v p K)) (c.nwC p0 cs (c.retR v p K)) (c.mksC (c.retR v p K)) v p K:=by
 simp only [Ct.rob_,iE] at hb
 simp only [Ct.roL,Ct.roR,Ob.mk.injEq] at h
 exact ⟨c.retAnc v p K,c.retIs v p K,nodupB_ok hb.1.1,hb.1.2,h.2.1,got_of h.2.2.2 hb.2⟩
def adP (p:Addr) (ad:Nat→Ad):Nat→Ad
 |0=>{ad 0 with p:=p}
 |j+1=>ad (j+1)
def soN:List Ab→List Ent→List (Chunk σ)→Ob σ:= λ_ _ _=>⟨[],undef,[],[]⟩
def Ct.treeM (c:Ct σ) (mk:List Nat) (P:Program) (T:List (Nat×Entry σ)) (I:List Nat) (fuel:Nat) (fn:Func) (B:Code) (p0:Addr) (cs:List (Cm σ)) (ad:Nat→Ad):Tree σ:=
 run P T I fuel B fn.results.toList fn.ntmps [.code []] (markL fn.ntmps mk (argEnts 0 (tpC (tps (adP p0 ad) c.full 0 0 cs)))) (tpK (tps (adP p0 ad) c.full 0 0 cs))
abbrev Ct.tree (c:Ct σ) (P:Program) (T:List (Nat×Entry σ)) (I:List Nat) (fuel:Nat) (fn:Func) (B:Code) (p0:Addr) (cs:List (Cm σ)) (ad:Nat→Ad):Tree σ:=c.treeM [] P T I fuel fn B p0 cs ad
abbrev SmT (c:Ct σ):=Ty c.RK×List (Ty c.RK)×List (Ob σ)×Bool×NT
def Ct.lhs (c:Ct σ) (p0:Addr) (cs:List (Cm σ)) (t:Tree σ) (β:BF) (γ:GF):SmT c:=
 (t.val c.retR (ofCm c.RK []) β γ,t.eqv c.retR (ofCm c.RK []) true β γ,t.obl (c.roL p0 cs) soN β γ,t.okb (c.rob_ p0 cs) (λ_ _ _=>true) β γ,t.nds β γ)
def Ct.rhs (c:Ct σ) (p0:Addr) (cs:List (Cm σ)) (t:Tree σ) (r:Ty c.RK) (N:NT) (β:BF) (γ:GF):SmT c:=
 (r,t.eqv c.retR (ofCm c.RK []) false β γ,t.obl (c.roR p0 cs) soN β γ,true,N)
theorem tpC_zip:∀l:List (Tp σ),tpC l=mP (tpV l) (tpP l)
 |[]=>rfl
 |t::r=>by simp only [tpC,tpV,tpP,pD,tpC_zip r]
theorem tpV_len (ad:Nat→Ad):∀(l:List (Sh σ)) (k j:Nat) (cs:List (Cm σ)),(tpV (tps ad l k j cs)).length=l.length
 |[],_,_,_=>rfl
 |s::l,k,j,cs=>by simp only [tps,tpV,jR,tpV_len ad l]
variable (D:Addr→σ→Asn)
theorem ent_of {c:Ct σ} {mk:List Nat} {P:Program} {T:List (Nat×Entry σ)} (hT:TableOk D P T) {I:List Nat} {f:FuncId} {fn:Func} {B:Code} (hfn:P.funcs[f]? =some fn) (hmix:P.follows .mixedOrders=true) (hB:fn.body=some B)
 (ha:isArgs c.ash=true) (hl:kH c.full.length fn.ntmps=true) {F:Cur c.AK (Ty c.RK)} {pre:Cur c.AK (List Prop)} (fuel:Nat)
 (H:∀p0,AllC c.AK λcs=>bds c.full cs→(∀p∈appC c.AK pre cs,p)→∀ad E G,(c.treeM mk P T I fuel fn B p0 cs ad).holds (RetOk (c.outC (appC c.AK F cs)) (c.nwC p0 cs (appC c.AK F cs)) (c.mksC (appC c.AK F cs)))
   (SW D P f (Post D E G (c.outC (appC c.AK F cs)) (c.nwC p0 cs (appC c.AK F cs)) (c.mksC (appC c.AK F cs))) B fn.ntmps E G)):EntryOk D P f (entC c F pre):=by
 intro args d r hd hr
 unfold entC at hd
 split at hd
 rotate_left
 ·cases hd
 rename_i cs hcs
 injection hd with hd;subst hd;subst hr
 refine ⟨λK acs hacs=>?_, λhpre E G w hi hS=>?_⟩
 ·have:=Sh.outp_ok c.rs (restC c.rob (toCm c.RK (appC c.AK F cs))) K [] [] acs hacs
  simp only [lF] at this
  exact this
 dsimp only at hpre hS ⊢
 unfold argsC at hcs
 cases hob:c.ob with
 |none=>
  rw [hob] at hcs
  dsimp only at hcs
  have hfull:c.full=c.ash:=by unfold Ct.full;rw [hob];rfl
  have hiv:isOk G E.z (args.map (·.1)) (args.map (·.2)):=by
   clear hcs hpre hS
   induction args with
   |nil=>simp [isOk]
   |cons x xs ih=>simp only [iK,isOk];exact ⟨hi x (by simp),ih λy hy=>hi y (by simp [hy])⟩
  obtain ⟨h1,h2,h3,h4,h5,adl,h6,h7⟩:=dAs_ok (G:=G) (Z:=E.z) c.ash (λs _=>Sh.dA_ok s) _ _ _ ha hcs hiv
  have hH:=(H (adF adl 0).p).at cs (by unfold Ct.AK;rw [hfull];exact h1) (by rw [hfull];have:=h5 [];simpa using this) hpre (adF adl) E G
  have hadP:adP (adF adl 0).p (adF adl)=adF adl:=by funext j;cases j<;>rfl
  obtain ⟨g1,g2⟩:=h7 (adF adl) 0 0 [] (λm a hm=>by simp [adF,iD,hm])
  simp only [lF] at g1 g2
  obtain ⟨k1,k2,k3⟩:=tps_ok (adF adl) c.ash 0 0 cs ha
  have hobjs:objsOf args=[]:=by
   have:mP (args.map (·.1)) (args.map (·.2))=args:=by rw [List.zip_map'];simp
   rw [this] at h4;exact h4
  have hS0:SatK D E G w ([]:List (Chunk σ)):=by have:=hS;simp only [objAs,objOf,hobjs] at this;exact this
  unfold Ct.treeM at hH
  rw [hadP,hfull] at hH
  have hn:c.nwC (adF adl 0).p cs (appC c.AK F cs)=[]:=by unfold Ct.nwC;rw [hob]
  rw [hn] at hH
  have:=calls_postM D (mk:=mk) hT (I:=I) hfn hmix hB (tpV (tps (adF adl) c.ash 0 0 cs)) (tpP (tps (adF adl) c.ash 0 0 cs)) (by rw [tpV_len];rw [hfull] at hl;exact hl) (objs:=[]) (ros:=tpK (tps (adF adl) c.ash 0 0 cs)) (by simpa using k3 [] [] rfl) (by simpa using k2) g2 hS0
   (out:=c.outC (appC c.AK F cs)) (nw:=[]) (rows:=c.mksC (appC c.AK F cs)) fuel rfl (by rw [←tpC_zip];simpa using hH)
  rw [g1] at this
  exact entry_post D (pre:=appC c.AK pre cs) (outp:=c.rs.outp) (by simp [newAs,objOf,hobjs]) this
 |some wr=>
  rw [hob] at hcs
  dsimp only at hcs
  split at hcs
  rotate_left
  ·cases hcs
  rename_i p s rs
  cases his:wr.is s with
  |false=>rw [his] at hcs;cases hcs
  |true=>
   rw [his] at hcs
   simp only [cond_true] at hcs
   split at hcs
   rotate_left
   ·cases hcs
   rename_i cs' hcs'
   injection hcs with hcs;subst hcs
   have hfull:c.full= .obj wr::c.ash:=by unfold Ct.full;rw [hob];rfl
   have hiv:isOk G E.z (rs.map (·.1)) (rs.map (·.2)):=by
    have hi':∀x∈rs,iOk G E.z x.1 x.2:= λx hx=>hi x (by simp [hx])
    clear hcs' hpre hS hi
    induction rs with
    |nil=>simp [isOk]
    |cons x xs ih=>simp only [iK,isOk];exact ⟨hi' x (by simp),ih λy hy=>hi' y (by simp [hy])⟩
   obtain ⟨h1,h2,h3,h4,h5,adl,h6,h7⟩:=dAs_ok (G:=G) (Z:=E.z) c.ash (λs _=>Sh.dA_ok s) _ _ _ ha hcs' hiv
   have hH:=(H p).at (.st s::cs') (by unfold Ct.AK;rw [hfull];simp only [kds,Sh.kd,kA,nL,fitsC,Kd.fits,his,h1];rfl) (by
    rw [hfull]
    refine ⟨trivial,?_⟩
    have:=h5 []
    simpa [Sh.nC] using this) hpre (λj=>adF adl (j-1)) E G
   have had:∀(m:Nat) a,adl[m]? =some a→adP p (λj=>adF adl (j-1)) (1+m)=a:= λm a hm=>by
    rw [Nat.add_comm];simp [adP,adF,iD,hm]
   obtain ⟨g1,g2⟩:=h7 (adP p (λj=>adF adl (j-1))) 1 1 [] had
   simp only [lF] at g1 g2
   obtain ⟨k1,k2,k3⟩:=tps_ok (adP p (λj=>adF adl (j-1))) c.ash 1 1 cs' ha
   have hinj:wr.inj (wr.prj s)=s:=wr.ok s his
   have htp:tps (adP p (λj=>adF adl (j-1))) c.full 0 0 (.st s::cs')=⟨.pointer (some p), .pt 0 .obj,[.obj p s]⟩::tps (adP p (λj=>adF adl (j-1))) c.ash 1 1 cs':=by
    rw [hfull]
    simp only [tps,Sh.tp,Sh.nK,Sh.nA,Sh.nC,lL,Cm.stOf,hinj,oS,oH,lV]
    rfl
   have hobjs:objsOf ((jB (some p),Info.obj s)::rs)=[(p,s)]:=by
    have:mP (rs.map (·.1)) (rs.map (·.2))=rs:=by rw [List.zip_map'];simp
    rw [this] at h4;simp [objsOf,objsV,h4]
   have hS0:SatK D E G w [kQ p s]:=by simpa [objAs,objOf,hobjs,SatK,den] using hS
   unfold Ct.treeM at hH
   rw [htp] at hH
   have:=calls_postM D (mk:=mk) hT (I:=I) hfn hmix hB (.pointer (some p)::tpV (tps (adP p (λj=>adF adl (j-1))) c.ash 1 1 cs')) (.pt 0 .obj::tpP (tps (adP p (λj=>adF adl (j-1))) c.ash 1 1 cs')) (by simp only [jR,tpV_len];rw [hfull] at hl;exact hl) (objs:=[.obj p s]) (ros:=tpK (tps (adP p (λj=>adF adl (j-1))) c.ash 1 1 cs'))
    (psOk_cons (pOk_pt.2 ⟨.obj p s,rfl,rfl⟩) (by simpa using k3 [.obj p s] [] rfl)) (noCells_app (a:=[.obj p s]) rfl k2) g2 hS0
    (out:=c.outC (appC c.AK F (.st s::cs'))) (nw:=c.nwC p (.st s::cs') (appC c.AK F (.st s::cs'))) (rows:=c.mksC (appC c.AK F (.st s::cs'))) fuel rfl (by
      simp only [tpC,tpK,kA,nL] at hH
      rw [tpC_zip] at hH
      exact hH)
   rw [g1] at this
   have hn:(c.nwC p (.st s::cs') (appC c.AK F (.st s::cs'))).map (den D G)=newAs D ((jB (some p),Info.obj s)::rs) (newC c.rob (toCm c.RK (appC c.AK F (.st s::cs')))):=by
    unfold newAs objOf
    rw [hobjs]
    unfold Ct.nwC
    rw [hob]
    dsimp only
    cases hpu:c.pu with
    |true=>
     have:c.rob=none:=by unfold Ct.rob;rw [hpu];rfl
     rw [this]
     simp only [cond_true,lL,Cm.stOf,hinj,iK,mA,den,newC,Option.getD_none]
    |false=>
     have:c.rob=some wr:=by unfold Ct.rob;rw [hpu,hob];rfl
     rw [this]
     simp only [cond_false,iK,mA,den,newC,lA]
   exact entry_post D (pre:=appC c.AK pre (.st s::cs')) (outp:=c.rs.outp) hn this
theorem ent_ok {c:Ct σ} {P:Program} {T:List (Nat×Entry σ)} (hT:TableOk D P T) {I:List Nat} {f:FuncId} {fn:Func} {B:Code} (hfn:P.funcs[f]? =some fn) (hmix:P.follows .mixedOrders=true) (hB:fn.body=some B)
 (ha:isArgs c.ash=true) (hl:kH c.full.length fn.ntmps=true) {F:Cur c.AK (Ty c.RK)} {pre:Cur c.AK (List Prop)} (fuel:Nat)
 (H:∀p0,AllC c.AK λcs=>bds c.full cs→(∀p∈appC c.AK pre cs,p)→∃(r:Ty c.RK) (N:NT),(∀ad β γ,c.lhs p0 cs (c.tree P T I fuel fn B p0 cs ad) β γ=c.rhs p0 cs (c.tree P T I fuel fn B p0 cs ad) r N β γ)∧N.holds∧r=appC c.AK F cs):EntryOk D P f (entC c F pre):=by
 refine ent_of D (mk:=[]) hT (I:=I) hfn hmix hB ha hl fuel λp0=>?_
 have key:∀{ks:List (Kd σ)} {p q:List (Cm σ)→Prop},(∀cs,p cs→q cs)→AllC ks p→AllC ks q:=by
  intro ks
  induction ks with
  |nil=>exact λh hp=>h [] hp
  |cons k ks ih=>exact λh hp a=>ih (λcs=>h _) (hp a)
 refine key (λcs hH hb hp ad E G=>?_) (H p0)
 obtain ⟨r,N,h1,h2,rfl⟩:=hH hb hp
 refine Tree.val_holds (R:= λr v p K=>RetOk (c.outC r) (c.nwC p0 cs r) (c.mksC r) v p K) (lf:=c.retR) (d:=ofCm c.RK []) (roL:=c.roL p0 cs) (roR:=c.roR p0 cs) (soL:=soN) (soR:=soN) (rb:=c.rob_ p0 cs) (sb:= λ_ _ _=>true) (λv p K=>Ct.ret_ok) _ _
  (λβ γ=>congrArg (·.1) (h1 ad β γ)) (λβ γ=>congrArg (·.2.1) (h1 ad β γ)) (λβ γ=>congrArg (·.2.2.1) (h1 ad β γ)) (λβ γ=>congrArg (·.2.2.2.1) (h1 ad β γ)) (λβ γ=>?_)
 have:NT.holds _=NT.holds _:=congrArg (λx=>NT.holds x.2.2.2.2) (h1 ad β γ)
 dsimp only [Ct.lhs,Ct.rhs] at this
 rw [this];exact h2
end
section
open Go.RowKit
variable {σ:Type}
structure Hd (σ:Type) where
 ops:Option Nat
 p:List Nat
 td:List Ab
 slots:List Nat
 shs:List (Sh σ)
def Hd.tds (h:Hd σ):List Ab:=
 match h.ops with
 |none=> .code (0::h.p):: .again h.p::h.td
 |some i=>bif iM i 900 then .code h.p::h.td else .ops h.p i::h.td
def Hd.stp (h:Hd σ) (I:List Nat):List Nat:=
 match h.ops with
 |none=>I
 |some i=>I.filter λx=>!(iM x (stopC h.p i))
def entsOf:List Nat→List (Tp σ)→List Ent
 |s::ss,t::ts=>⟨s,none,t.v,t.p⟩::entsOf ss ts
 |_,_=>[]
def Hd.L (h:Hd σ) (ad:Nat→Ad) (cs:List (Cm σ)):List Ent:=entsOf h.slots (tps ad h.shs 0 0 cs)
def Hd.K (h:Hd σ) (ad:Nat→Ad) (cs:List (Cm σ)):List (Chunk σ):=tpK (tps ad h.shs 0 0 cs)
@[reducible] def Hd.kd (h:Hd σ):List (Kd σ):=kds h.shs
def isNil (v:Value) (p:Pr):Bool:=
 match p with
 | .no=>match v with
   | .slice none 0 0=>true
   |_=>false
 |_=>false
def nilCells (k:Nat):Nat→List (Sh σ)→List (Chunk σ)→List (Chunk σ)
 |off, .own t ks::l,K=>match K[k]? with
  |some (.cells _ _ cs)=>match cs[off]? with
   |some x=>bif isNil x.1 x.2&&nilRow (σ:=σ) (.row none t 0 0 (colsOf (σ:=σ) ks [])) then nilCells k (off+1) l (setNilC K k off++[.row none t 0 0 (colsOf (σ:=σ) ks [])]) else nilCells k (off+1) l K
   |_=>nilCells k (off+1) l K
  |_=>nilCells k (off+1) l K
 |off, .ro ks::l,K=>bif isFzK ks then (match K[k]? with
  |some (.cells _ _ cs)=>match cs[off]? with
   |some x=>match x.2 with
    | .pt k' .slice=>nilCells k (off+1) l (fzAt K k')
    |_=>bif isNil x.1 x.2 then nilCells k (off+1) l (fzAt (setNilC K k off++[.row none 0 0 0 [.ints .i64 []]]) (setNilC K k off).length) else nilCells k (off+1) l K
   |_=>nilCells k (off+1) l K
  |_=>nilCells k (off+1) l K) else nilCells k (off+1) l K
 |off,_::l,K=>nilCells k (off+1) l K
 |_,[],K=>K
def nil1 (s:Nat) (sh:Sh σ) (L:List Ent) (K:List (Chunk σ)):List Ent×List (Chunk σ):=
 match sh with
 | .own t ks=>match look L s with
   |some e=>bif isNil e.v e.p&&nilRow (σ:=σ) (.row none t 0 0 (colsOf (σ:=σ) ks [])) then (setNil s K.length L,K++[.row none t 0 0 (colsOf (σ:=σ) ks [])]) else (L,K)
   |_=>(L,K)
 | .ro ks=>bif isFzK ks then (match look L s with
   |some e=>match e.p with
    | .pt k .slice=>(L,fzAt K k)
    |_=>bif isNil e.v e.p then (setNil s K.length L,fzAt (K++[.row none 0 0 0 [.ints .i64 []]]) K.length) else (L,K)
   |_=>(L,K)) else (L,K)
 | .box _ l=>match look L s with
   |some e=>match e.p with
    | .pt k (.cell 0)=>(L,nilCells k 0 l K)
    |_=>(L,K)
   |_=>(L,K)
 |_=>(L,K)
def nils:List Nat→List (Sh σ)→List Ent→List (Chunk σ)→List Ent×List (Chunk σ)
 |s::ss,sh::shs,L,K=>match nil1 s sh L K with
  |(L',K')=>nils ss shs L' K'
 |_,_,L,K=>(L,K)
def vsAt (L:List Ent):List Nat→List Value
 |[]=>[]
 |s::r=>(match look L s with|some e=>e.v|none=>undef)::vsAt L r
def psAt (L:List Ent):List Nat→List Pr
 |[]=>[]
 |s::r=>(match look L s with|some e=>e.p|none=> .no)::psAt L r
def eqNs:List Nat→List Nat→Bool
 |[],[]=>true
 |a::r,b::s=>iM a b&&eqNs r s
 |_,_=>false
def Hd.at (h:Hd σ) (td:List Ab):Bool:=
 match h.ops,td with
 |none, .code q::_=>eqNs h.p q
 |none, .again q::_=>eqNs h.p q
 |some i, .ops q k::_=>eqNs h.p q&&iM i k
 |some i, .code q::_=>iM i 900&&eqNs h.p q
 |_,_=>false
def Hd.leafTd (h:Hd σ) (td:List Ab):List Ab:=
 match h.ops,td with
 |some i,_=>bif iM i 900 then .code h.p::h.td else .ops h.p i::h.td
 |none, .again _::_=> .again h.p::h.td
 |none,_=> .code h.p::h.td
def findH:List (Hd σ)→Nat→List Ab→Option (Nat×Hd σ)
 |[],_,_=>none
 |h::r,j,td=>bif h.at td then some (j,h) else findH r (j+1) td
theorem findH_get:∀{hs:List (Hd σ)} {m:Nat} {td:List Ab} {j:Nat} {h:Hd σ},findH hs m td=some (j,h)→∃i,j=m+i∧hs[i]? =some h
 |[],_,_,_,_,h=>by simp [findH] at h
 |h0::r,m,td,j,h,he=>by
  simp only [findH] at he
  cases hb:h0.at td with
  |true=>rw [hb] at he;simp at he;exact ⟨0,by omega,by simp [he.2]⟩
  |false=>
   rw [hb] at he
   obtain ⟨i,h1,h2⟩:=findH_get (by simpa using he)
   exact ⟨i+1,by omega,by simpa using h2⟩
def Hd.dec (h:Hd σ) (L:List Ent) (K:List (Chunk σ)):Dc σ:=dcs K h.shs (vsAt L h.slots) (psAt L h.slots)
def hdL (h:Hd σ) (td:List Ab) (L:List Ent) (K:List (Chunk σ)):Ob σ:=
 ⟨td,undef,renL (fixIs 0 (h.dec L K).is) (pickL h.slots L),(renK (fixIs 0 (h.dec L K).is) K).map some⟩
def hdR (h:Hd σ) (td:List Ab) (L:List Ent) (K:List (Chunk σ)):Ob σ:=
 ⟨h.leafTd td,undef,h.L (adF (h.dec L K).ad) (h.dec L K).cs,(h.K (adF (h.dec L K).ad) (h.dec L K).cs).map some⟩
def soL (hs:List (Hd σ)) (td:List Ab) (L:List Ent) (K:List (Chunk σ)):Ob σ:=
 match findH hs 0 td with
 |none=>⟨[],undef,[],[]⟩
 |some (_,h)=>match nils h.slots h.shs L K with
  |(L',K')=>hdL h td L' K'
def soR (hs:List (Hd σ)) (td:List Ab) (L:List Ent) (K:List (Chunk σ)):Ob σ:=
 match findH hs 0 td with
 |none=>⟨[],undef,[],[]⟩
 |some (_,h)=>match nils h.slots h.shs L K with
  |(L',K')=>hdR h td L' K'
def soB (hs:List (Hd σ)) (td:List Ab) (L:List Ent) (K:List (Chunk σ)):Bool:=
 match findH hs 0 td with
 |none=>true
 |some (_,h)=>match nils h.slots h.shs L K with
  |(L',K')=>nodupB (fixIs 0 (h.dec L' K').is)&&fitsC h.kd (h.dec L' K').cs
def soQ (hs:List (Hd σ)) (Q:Nat→List (Cm σ)→Prop) (td:List Ab) (L:List Ent) (K:List (Chunk σ)):Prop:=
 match findH hs 0 td with
 |none=>False
 |some (j,h)=>match nils h.slots h.shs L K with
  |(L',K')=>Q j (h.dec L' K').cs
def hcode (B:Code):List (Hd σ)→List Code
 |[]=>[]
 |h::r=>(match h.ops with
  |none=>sub B h.p
  |some _=> .skip)::hcode B r
def hcode' (B:Code):List (Hd σ)→List Code
 |[]=>[]
 |h::r=>(match h.ops with
  |none=> .loop (sub B (0::h.p))
  |some _=> .skip)::hcode' B r
theorem hcode_get {B:Code}:∀{hs:List (Hd σ)} {j:Nat} {h:Hd σ},hcode B hs=hcode' B hs→hs[j]? =some h→h.ops=none→Code.loop (sub B (0::h.p))=sub B h.p
 |[],_,_,_,h,_=>by simp at h
 |h0::r,0,h,he,hg,ho=>by
  simp at hg;subst hg
  simp only [hcode,hcode',lE] at he
  rw [ho] at he
  exact he.1.symm
 |h0::r,j+1,h,he,hg,ho=>by
  simp only [hcode,hcode',lE] at he
  exact hcode_get he.2 (by simpa using hg) ho
variable (D:Addr→σ→Asn)
section
variable {P:Program} {f:FuncId} {R:Ending→World→Prop} {B:Code} {n:Nat} {E:Ev} {G:Hp} {td:List Ab}
theorem nilCells_ok {k:Nat} {L:List Ent}:∀(l:List (Sh σ)) (off:Nat) (K:List (Chunk σ)),SW D P f R B n E G td L (nilCells k off l K)→SW D P f R B n E G td L K
 |[],_,_,h=>by simpa [nilCells] using h
 |s::l,off,K,h=>by
  cases s with
  |own t ks=>
   simp only [nilCells] at h
   split at h
   ·split at h
    ·rename_i x _
     cases hn:(isNil x.1 x.2&&nilRow (σ:=σ) (.row none t 0 0 (colsOf (σ:=σ) ks []))) with
     |true=>rw [hn] at h;simp only [iE] at hn;exact SW.nilc D k off t _ hn.2 (nilCells_ok l _ _ h)
     |false=>rw [hn] at h;exact nilCells_ok l _ _ h
    ·exact nilCells_ok l _ _ h
   ·exact nilCells_ok l _ _ h
  |ro ks=>
   simp only [nilCells] at h
   cases hz:isFzK ks with
   |false=>rw [hz] at h;exact nilCells_ok l _ _ h
   |true=>
    rw [hz] at h
    simp only [cond_true] at h
    split at h
    ·split at h
     ·rename_i x _
      split at h
      ·exact SW.fzAt D _ (nilCells_ok l _ _ h)
      ·cases hn:isNil x.1 x.2 with
       |true=>rw [hn] at h;exact SW.nilc D k off 0 [.ints .i64 []] rfl (SW.fzAt D _ (nilCells_ok l _ _ h))
       |false=>rw [hn] at h;exact nilCells_ok l _ _ h
     ·exact nilCells_ok l _ _ h
    ·exact nilCells_ok l _ _ h
  |_=>simp only [nilCells] at h;exact nilCells_ok l _ _ h
theorem nil1_ok {s:Nat} {sh:Sh σ} {L L':List Ent} {K K':List (Chunk σ)} (he:nil1 s sh L K=(L',K')) (h:SW D P f R B n E G td L' K'):SW D P f R B n E G td L K:=by
 unfold nil1 at he
 split at he
 ·rename_i t ks
  split at he
  ·rename_i e _
   cases hn:(isNil e.v e.p&&nilRow (σ:=σ) (.row none t 0 0 (colsOf (σ:=σ) ks []))) with
   |true=>rw [hn] at he;simp at he;rw [←he.1,←he.2] at h;simp only [iE] at hn;exact SW.nil D s t _ hn.2 h
   |false=>rw [hn] at he;simp at he;rw [←he.1,←he.2] at h;exact h
  ·simp at he;rw [←he.1,←he.2] at h;exact h
 ·rename_i ks
  cases hz:isFzK ks with
  |false=>rw [hz] at he;simp at he;rw [←he.1,←he.2] at h;exact h
  |true=>
   rw [hz] at he
   simp only [cond_true] at he
   split at he
   ·rename_i e _
    split at he
    ·simp at he;rw [←he.1,←he.2] at h;exact SW.fzAt D _ h
    ·cases hn:isNil e.v e.p with
     |true=>rw [hn] at he;simp at he;rw [←he.1,←he.2] at h;exact SW.nil D s 0 [.ints .i64 []] rfl (SW.fzAt D _ h)
     |false=>rw [hn] at he;simp at he;rw [←he.1,←he.2] at h;exact h
   ·simp at he;rw [←he.1,←he.2] at h;exact h
 ·split at he
  ·split at he
   ·simp at he;rw [←he.1,←he.2] at h;exact nilCells_ok D _ _ _ h
   ·simp at he;rw [←he.1,←he.2] at h;exact h
  ·simp at he;rw [←he.1,←he.2] at h;exact h
 ·simp at he;rw [←he.1,←he.2] at h;exact h
theorem nils_ok:∀{ss:List Nat} {shs:List (Sh σ)} {L L':List Ent} {K K':List (Chunk σ)},nils ss shs L K=(L',K')→SW D P f R B n E G td L' K'→SW D P f R B n E G td L K
 |[],_,L,L',K,K',he,h=>by simp only [nils,iV] at he;rw [←he.1,←he.2] at h;exact h
 |_::_,[],L,L',K,K',he,h=>by simp only [nils,iV] at he;rw [←he.1,←he.2] at h;exact h
 |s::ss,sh::shs,L,L',K,K',he,h=>by
  simp only [nils] at he
  cases e:nil1 s sh L K with
  |mk L1 K1=>rw [e] at he;exact nil1_ok D e (nils_ok he h)
theorem soQ_ok {hs:List (Hd σ)} {Q:Nat→List (Cm σ)→Prop} {L:List Ent} {K:List (Chunk σ)} (hc:hcode B hs=hcode' B hs) (he:soL hs td L K=soR hs td L K) (hb:soB hs td L K=true) (hq:soQ hs Q td L K)
 (H:∀j h,hs[j]? =some h→∀cs,fitsC h.kd cs=true→Q j cs→∀ad,SW D P f R B n E G h.tds (h.L ad cs) (h.K ad cs)):SW D P f R B n E G td L K:=by
 unfold soL soR at he
 unfold soB at hb
 unfold soQ at hq
 cases hf:findH hs 0 td with
 |none=>rw [hf] at hq;exact hq.elim
 |some x=>
  obtain ⟨j,h⟩:=x
  rw [hf] at he hb hq
  dsimp only at he hb hq
  obtain ⟨i,hi,hg⟩:=findH_get hf
  rw [lV] at hi
  subst hi
  cases en:nils h.slots h.shs L K with
  |mk L1 K1=>
   rw [en] at he hb hq
   dsimp only at he hb hq
   simp only [iE] at hb
   simp only [hdL,hdR,Ob.mk.injEq] at he
   have hK:renK (fixIs 0 (h.dec L1 K1).is) K1=h.K (adF (h.dec L1 K1).ad) (h.dec L1 K1).cs:=by
    have:=he.2.2.2
    exact (List.map_inj_right (λ_ _ h=>Option.some.inj h)).1 this
   have hsw:=H _ h hg (h.dec L1 K1).cs hb.2 hq (adF (h.dec L1 K1).ad)
   refine nils_ok D en (SW.move D h.slots (fixIs 0 (h.dec L1 K1).is) (nodupB_ok hb.1) he.2.2.1 hK ?_)
   rw [he.1]
   unfold Hd.leafTd
   unfold Hd.tds at hsw
   cases ho:h.ops with
   |some i=>rw [ho] at hsw;exact hsw
   |none=>
    rw [ho] at hsw
    have hcd:=hcode_get hc hg ho
    split
    ·rename_i e;cases e
    ·exact SW.again D hsw
    ·exact SW.enter D hcd hsw
end
def lx (x y:Nat×Nat×Nat):Prop:=x.1<y.1∨(x.1=y.1∧(x.2.1<y.2.1∨(x.2.1=y.2.1∧x.2.2<y.2.2)))
theorem lx_rec {C:Nat×Nat×Nat→Prop} (h:∀x,(∀y,lx y x→C y)→C x):∀x,C x:=by
 have h3:∀a,(∀a',a'<a→∀b c,C (a',b,c))→∀b,(∀b',b'<b→∀c,C (a,b',c))→∀c,C (a,b,c):=by
  intro a ha b hb c
  induction c using pW with
  |_ c ih=>
   refine h _ λy hy=>?_
   obtain ⟨y1,y2,y3⟩:=y
   rcases hy with hy|⟨e,hy|⟨e2,hy⟩⟩
   ·exact ha _ hy _ _
   ·simp only at e hy;subst e;exact hb _ hy _
   ·simp only at e e2 hy;subst e;subst e2;exact ih _ hy
 have h2:∀a,(∀a',a'<a→∀b c,C (a',b,c))→∀b c,C (a,b,c):=by
  intro a ha b
  induction b using pW with
  |_ b ih=>exact h3 a ha b ih
 have h1:∀a b c,C (a,b,c):=by
  intro a
  induction a using pW with
  |_ a ih=>exact h2 a ih
 exact λx=>h1 x.1 x.2.1 x.2.2
abbrev SmW (σ:Type):=Prop×List (Ob σ)×Bool
def Ct.lhsW (c:Ct σ) (p0:Addr) (cs:List (Cm σ)) (hs:List (Hd σ)) (R:Ty c.RK→Prop) (Q:Nat→List (Cm σ)→Prop) (t:Tree σ) (β:BF) (γ:GF):SmW σ:=
 (t.wp (λv p K=>R (c.retR v p K)) (soQ hs Q) β γ,t.obl (c.roL p0 cs) (soL hs) β γ,t.okb (c.rob_ p0 cs) (soB hs) β γ)
def Ct.rhsW (c:Ct σ) (p0:Addr) (cs:List (Cm σ)) (hs:List (Hd σ)) (t:Tree σ) (W:Prop) (β:BF) (γ:GF):SmW σ:=
 (W,t.obl (c.roR p0 cs) (soR hs) β γ,true)
theorem wp_tree {c:Ct σ} {p0:Addr} {cs:List (Cm σ)} {hs:List (Hd σ)} {r0:Ty c.RK} {Q:Nat→List (Cm σ)→Prop} {t:Tree σ} {W:Prop} (h:∀β γ,c.lhsW p0 cs hs (λr=>r=r0) Q t β γ=c.rhsW p0 cs hs t W β γ) (hW:W)
 {P:Program} {f:FuncId} {R:Ending→World→Prop} {B:Code} {n:Nat} {E:Ev} {G:Hp} (hc:hcode B hs=hcode' B hs) (H:∀j h,hs[j]? =some h→∀x,fitsC h.kd x=true→Q j x→∀ad,SW D P f R B n E G h.tds (h.L ad x) (h.K ad x)):
 t.holds (RetOk (c.outC r0) (c.nwC p0 cs r0) (c.mksC r0)) (SW D P f R B n E G):=by
 refine Tree.wp_holds (RQ:= λv p K=>c.retR v p K=r0) (SQ:=soQ hs Q) (roL:=c.roL p0 cs) (roR:=c.roR p0 cs) (soL:=soL hs) (soR:=soR hs) (rb:=c.rob_ p0 cs) (sb:=soB hs)
  (λv p K h1 h2 h3=>by have:=Ct.ret_ok h1 h2;rw [h3] at this;exact this) (λtd L K h1 h2 h3=>soQ_ok D hc h1 h2 h3 H) t (λβ γ=>?_) (λβ γ=>congrArg (·.2.1) (h β γ)) (λβ γ=>congrArg (·.2.2) (h β γ))
 have:t.wp (λv p K=>c.retR v p K=r0) (soQ hs Q) β γ=W:=congrArg (·.1) (h β γ)
 rw [this];exact hW
def stepsC (c:Ct σ) (P:Program) (T:List (Nat×Entry σ)) (I:List Nat) (fuel:Nat) (fn:Func) (B:Code) (p0:Addr) (cs:List (Cm σ)) (hs:List (Hd σ)) (r0:Ty c.RK) (Inv:Nat→List (Cm σ)→Prop) (ms:Nat→List (Cm σ)→Nat×Nat×Nat):List (Hd σ)→Nat→Prop
 |[],_=>True
 |h::r,j=>(AllC h.kd λx=>Inv j x→∃W:Prop,(∀ad β γ,c.lhsW p0 cs hs (λr=>r=r0) (λj' x'=>Inv j' x'∧lx (ms j' x') (ms j x)) (run P T (h.stp I) fuel B fn.results.toList fn.ntmps h.tds (h.L ad x) (h.K ad x)) β γ=
   c.rhsW p0 cs hs (run P T (h.stp I) fuel B fn.results.toList fn.ntmps h.tds (h.L ad x) (h.K ad x)) W β γ)∧W)∧stepsC c P T I fuel fn B p0 cs hs r0 Inv ms r (j+1)
theorem stepsC_get {c:Ct σ} {P:Program} {T:List (Nat×Entry σ)} {I:List Nat} {fuel:Nat} {fn:Func} {B:Code} {p0:Addr} {cs:List (Cm σ)} {hs:List (Hd σ)} {r0:Ty c.RK} {Inv:Nat→List (Cm σ)→Prop} {ms:Nat→List (Cm σ)→Nat×Nat×Nat}:∀{l:List (Hd σ)} {m:Nat} {i:Nat} {h:Hd σ},stepsC c P T I fuel fn B p0 cs hs r0 Inv ms l m→l[i]? =some h→
 AllC h.kd λx=>Inv (m+i) x→∃W:Prop,(∀ad β γ,c.lhsW p0 cs hs (λr=>r=r0) (λj' x'=>Inv j' x'∧lx (ms j' x') (ms (m+i) x)) (run P T (h.stp I) fuel B fn.results.toList fn.ntmps h.tds (h.L ad x) (h.K ad x)) β γ=
  c.rhsW p0 cs hs (run P T (h.stp I) fuel B fn.results.toList fn.ntmps h.tds (h.L ad x) (h.K ad x)) W β γ)∧W
 |[],_,_,_,_,h=>by simp at h
 |h0::r,m,0,h,hs,hg=>by simp at hg;subst hg;exact hs.1
 |h0::r,m,i+1,h,hs,hg=>by
  have:=stepsC_get hs.2 (i:=i) (by simpa using hg)
  rw [show m+1+i=m+(i+1) by omega] at this
  exact this
theorem ent_wp {c:Ct σ} {P:Program} {T:List (Nat×Entry σ)} (hT:TableOk D P T) {I:List Nat} {f:FuncId} {fn:Func} {B:Code} (hfn:P.funcs[f]? =some fn) (hmix:P.follows .mixedOrders=true) (hB:fn.body=some B)
 (ha:isArgs c.ash=true) (hl:kH c.full.length fn.ntmps=true) {F:Cur c.AK (Ty c.RK)} {pre:Cur c.AK (List Prop)} (fuel:Nat)
 (H:∀p0,AllC c.AK λcs=>bds c.full cs→(∀p∈appC c.AK pre cs,p)→∃(hs:List (Hd σ)) (Inv:Nat→List (Cm σ)→Prop) (ms:Nat→List (Cm σ)→Nat×Nat×Nat),hcode B hs=hcode' B hs∧
   (∃W:Prop,(∀ad β γ,c.lhsW p0 cs hs (λr=>r=appC c.AK F cs) Inv (c.tree P T I fuel fn B p0 cs ad) β γ=c.rhsW p0 cs hs (c.tree P T I fuel fn B p0 cs ad) W β γ)∧W)∧
   stepsC c P T I fuel fn B p0 cs hs (appC c.AK F cs) Inv ms hs 0):EntryOk D P f (entC c F pre):=by
 refine ent_of D (mk:=[]) hT (I:=I) hfn hmix hB ha hl fuel λp0=>?_
 have key:∀{ks:List (Kd σ)} {p q:List (Cm σ)→Prop},(∀cs,p cs→q cs)→AllC ks p→AllC ks q:=by
  intro ks
  induction ks with
  |nil=>exact λh hp=>h [] hp
  |cons k ks ih=>exact λh hp a=>ih (λcs=>h _) (hp a)
 refine key (λcs hH hb hp ad E G=>?_) (H p0)
 obtain ⟨hs,Inv,ms,hc,⟨W,hW,hW'⟩,hst⟩:=hH hb hp
 have loop:∀x:Nat×Nat×Nat,∀j h,hs[j]? =some h→∀s,fitsC h.kd s=true→Inv j s→ms j s=x→∀ad,SW D P f (Post D E G (c.outC (appC c.AK F cs)) (c.nwC p0 cs (appC c.AK F cs)) (c.mksC (appC c.AK F cs))) B fn.ntmps E G h.tds (h.L ad s) (h.K ad s):=by
  refine lx_rec λx ih j h hg s hf hI hm ad=>?_
  have hq:=stepsC_get hst hg
  rw [lV] at hq
  obtain ⟨W1,hW1,hW2⟩:=hq.at s hf hI
  exact SW.go D hT (I:=h.stp I) hfn hmix fuel rfl (wp_tree D (hW1 ad) hW2 hc λj' h' hg' s' hf' hI' ad'=>ih _ (by rw [←hm];exact hI'.2) j' h' hg' s' hf' hI'.1 rfl ad')
 exact wp_tree D (hW ad) hW' hc λj h hg s hf hI ad=>loop _ j h hg s hf hI rfl ad
theorem ent_wm {c:Ct σ} (mk:List Nat) {P:Program} {T:List (Nat×Entry σ)} (hT:TableOk D P T) {I:List Nat} {f:FuncId} {fn:Func} {B:Code} (hfn:P.funcs[f]? =some fn) (hmix:P.follows .mixedOrders=true) (hB:fn.body=some B)
 (ha:isArgs c.ash=true) (hl:kH c.full.length fn.ntmps=true) {F:Cur c.AK (Ty c.RK)} {pre:Cur c.AK (List Prop)} (fuel:Nat)
 (H:∀p0,AllC c.AK λcs=>bds c.full cs→(∀p∈appC c.AK pre cs,p)→∃W:Prop,(∀ad β γ,c.lhsW p0 cs [] (λr=>r=appC c.AK F cs) (λ_ _=>False) (c.treeM mk P T I fuel fn B p0 cs ad) β γ=c.rhsW p0 cs [] (c.treeM mk P T I fuel fn B p0 cs ad) W β γ)∧W):EntryOk D P f (entC c F pre):=by
 refine ent_of D (mk:=mk) hT (I:=I) hfn hmix hB ha hl fuel λp0=>?_
 have key:∀{ks:List (Kd σ)} {p q:List (Cm σ)→Prop},(∀cs,p cs→q cs)→AllC ks p→AllC ks q:=by
  intro ks
  induction ks with
  |nil=>exact λh hp=>h [] hp
  |cons k ks ih=>exact λh hp a=>ih (λcs=>h _) (hp a)
 refine key (λcs hH hb hp ad E G=>?_) (H p0)
 obtain ⟨W,hW,hW'⟩:=hH hb hp
 exact wp_tree D (hW ad) hW' rfl λj h hg=>by simp at hg
theorem law_of {c:Ct σ} {P:Program} {f:FuncId} {F:Cur c.AK (Ty c.RK)} {pre:Cur c.AK (List Prop)} (h:EntryOk D P f (entC c F pre)) (args:List (Value×Info σ)) (cs:List (Cm σ)) (hc:argsC c.ob c.ash args=some cs) (v:Value) (hv:c.outC (appC c.AK F cs) []=v) (hm:c.mksC (appC c.AK F cs)=[]) (ho:objOf args=none)
 (hpre:∀p∈appC c.AK pre cs,p) {E:Ev} {G:Hp} {w:World} (hi:∀x∈args,iOk G E.z x.1 x.2) (hS:Sat E G w []):Calls P f (args.map (·.1)).toArray w (λen w'=>en= .returned v∧Sat E G w' []):=by
 have he:entC c F pre args=some ⟨appC c.AK F cs, λr=>⟨appC c.AK pre cs,newC c.rob (toCm c.RK r),c.mksC r,c.outC r,c.rs.outp⟩⟩:=by unfold entC;rw [hc]
 have:=(h args _ _ he rfl).2 hpre E G w hi (by simpa [objAs,ho] using hS)
 refine this.mono λen w' ⟨acs,h1,h2,h3⟩=>?_
 dsimp only at h1 h2 h3
 rw [hm] at h1 h2 h3
 cases acs with
 |nil=>exact ⟨by rw [h2,←hv];rfl,by simpa [newAs,ho] using h3⟩
 |cons _ _=>exact h1.elim
theorem int_cases9 (k:Int):k=0∨k=1∨k=2∨k=3∨k=4∨k=5∨k=6∨k=7∨k=8∨(∃m:Nat,k=lX m)∨∃m:Nat,k=mV (m+9):=by
 cases k with
 |negSucc m=>exact .inr (.inr (.inr (.inr (.inr (.inr (.inr (.inr (.inr (.inl ⟨m,rfl⟩)))))))))
 |ofNat n=>
  by_cases h:n<9
  ·have e:n=0∨n=1∨n=2∨n=3∨n=4∨n=5∨n=6∨n=7∨n=8:=by omega
   rcases e with rfl|rfl|rfl|rfl|rfl|rfl|rfl|rfl|rfl<;>simp
  ·exact .inr (.inr (.inr (.inr (.inr (.inr (.inr (.inr (.inr (.inr ⟨n-9,by congr 1;omega⟩)))))))))
abbrev tw_ (A:Prop):Prop:=A∧A
abbrev aw_ (p A:Prop):Prop:=p∧(p→A)
abbrev bw_ (c:Bool) (A B:Prop):Prop:=(c=true→A)∧(c=false→B)
theorem stuck_ {p:Prop} (h:p:=by exfalso;simp_all;done):p:=h
theorem lxo_ {x y:Nat×Nat×Nat} (h:lx x y:=by first|exact Or.inl (by omega)|exact Or.inr ⟨by omega,Or.inl (by omega)⟩|exact Or.inr ⟨by omega,Or.inr ⟨by omega,by omega⟩⟩|(unfold lx;dsimp only;omega)):lx x y:=h
end
end Go.Sl
