/-
  DERIVED. Part 4 of the texts of this claim.
-/
import Derived.Test.YtinpgnomkmmfdaaGreatJSmallFlushes3
import Derived.RangeFuncMany
import Derived.RangeFuncLeaves
set_option linter.unusedSimpArgs false
set_option linter.unusedVariables false
open Go.IntKind renaming wrap → iA, i64 → iB, u32 → iW, u8 → kR, wrap_u32 → nO, wrap_i64 → nQ
open Option.some renaming injEq → iC
open List renaming getD_eq_getElem?_getD → iD, length → iF, mem_cons → iG, getD → iI, map_cons → iK, getElem?_eq_getElem → iN, getElem?_append_left → iO, getElem?_append_right → iQ, getElem?_map → iR, mem_singleton → iY, mem_of_getElem? → jC, map_append → jG, getElem?_cons_zero → jJ, length_append → jM, getElem?_eq_none → jP, range → jQ, append_assoc → jX, cons_append → kA, mem_append → kC, getElem?_cons_succ → kD, length_map → kK, not_mem_nil → kL, map_set → kW, filter_append → kX, mem_map → kZ, append_nil → lF, take_of_length_le → lI, mem_filter → lS, mem_range → lU, eq_nil_of_length_eq_zero → lW, map_nil → mA, length_filter_le → mB, length_take → mL, length_singleton → mN, zip → mP, nil_append → nL, filter_cons_of_pos → nX, filter_cons_of_neg → nY, drop_eq_getElem_cons → oJ, getElem?_range → oR, contains_cons → pF, mem_of_mem_take → pJ, take_length → pN, nodup_range → pO, take_add_one → qA
open Bool renaming and_eq_true → iE, or_eq_false_iff → jH, not_eq_true' → jO, not_eq_false' → jY, not_true → kU, or_eq_true → lG, eq_iff_iff → lT, false_or → lY, and_eq_false_iff → mD, false_eq_true → mK, true_and → nR, false_and → oW, and_false → oX, or_false → pG, and_true → qJ
open Go.Value renaming slice → iH, pointer → jB, int → jT
open Nat renaming eq_of_beq_eq_true → iJ, beq → iM, le_of_ble_eq_true → iU, le_refl → kF, pow_le_pow_right → lO, mod_eq_of_lt → lR, zero_add → lV, le_trans → mE, testBit_two_pow → mM, not_lt_zero → mX, lt_of_lt_of_le → nD, eq_of_testBit_eq → nT, testBit_lt_two_pow → oB, mul_comm → oC, add_zero → oE, testBit_or → oT, and_two_pow_sub_one_eq_mod → oU, lt_of_le_of_lt → pB, lt_two_pow_self → pT, mod_lt → pX
open Int renaming toNat → iL, fdiv → jS, mul_le_mul_of_nonneg_right → kJ, toNat_natCast → kT, negSucc → lX, tdiv_eq_ediv_of_nonneg → mG, fdiv_eq_ediv_of_nonneg → mH, eq_ofNat_of_zero_le → mI, tdiv → mJ, ofNat → mV, mul_nonneg → nH, add_mul → nM, one_mul → nV, tmod_eq_emod_of_nonneg → oI, mul_comm → oP, mul_le_mul_of_nonneg_left → oZ, tmod → qD, mul_le_mul → qE
open BitVec renaming ofInt → iP, toNat → kN, toNat_ofNat → lM, ofNat → mZ, toNat_and → oY
open Go.Sl.Col renaming fz → iS, len → lJ
open Option renaming map_some → iT, map → jE, getD → kS, isNone → mW
open Prod.mk renaming injEq → iV
open Go.Sl.Chunk renaming cells → jA, ro → jV, obj → kQ, row → nI
open Go.Sl.PK renaming slice → jF, cell → mF
open Array renaming getD_eq_getD_getElem? → jK, getElem?_setIfInBounds_ne → oQ, mapM_eq_mapM_toList → pS
open Go.Sem renaming run_bind → jU, run_pure → kB
open Go.Sl.Pr renaming pt → jW, no → kI
open Prod renaming fst → jZ, snd → lD
open List.cons renaming injEq → lE
namespace Go.Sl
section
open Go.Proofs.YtinpgnomkmmfdaaGreat
structure Pt where
 k:Int
 a:Int
 s:Int
deriving DecidableEq
def pgB (sh:Int):Int:=2^sh.toNat
def szB (sh k:Int):Int:=pgB sh/kSlots k-pgB sh/kSlots k%16
theorem kSlots_bd (k:Int):0≤kSlots k∧kSlots k≤32:=by
 by_cases h:0≤k∧k≤8
 ·rcases (by omega:k=0∨k=1∨k=2∨k=3∨k=4∨k=5∨k=6∨k=7∨k=8) with rfl|rfl|rfl|rfl|rfl|rfl|rfl|rfl|rfl<;>decide
 ·unfold kSlots
  by_cases h0:0≤k
  ·have:decide (0≤k)=true:=by simpa using h0
   rw [this,cond_true,iD,jP (by simp;omega)];decide
  ·have:decide (0≤k)=false:=by simpa using h0
   rw [this];simp
theorem szB_all:∀a:Fin 11,∀k:Fin 9,r05_Size ((a.val+10:Nat):Int) (k.val:Int)=szB ((a.val+10:Nat):Int) (k.val:Int)∧16≤szB ((a.val+10:Nat):Int) (k.val:Int)∧szB ((a.val+10:Nat):Int) (k.val:Int)*kSlots (k.val:Int)≤pgB ((a.val+10:Nat):Int)∧1≤kSlots (k.val:Int)∧1024≤pgB ((a.val+10:Nat):Int)∧pgB ((a.val+10:Nat):Int)≤1048576∧szB ((a.val+10:Nat):Int) (k.val:Int)%16=0:=by decide+kernel
theorem szB_ok {sh k:Int} (h:10≤sh∧sh≤20) (hk:0≤k∧k≤8):r05_Size sh k=szB sh k∧16≤szB sh k∧szB sh k*kSlots k≤pgB sh∧1≤kSlots k∧1024≤pgB sh∧pgB sh≤1048576∧szB sh k%16=0:=by
 have:=szB_all ⟨(sh-10).toNat,by omega⟩ ⟨k.toNat,by omega⟩
 have e1:(((sh-10).toNat+10:Nat):Int)=sh:=by omega
 have e2:((k.toNat:Nat):Int)=k:=by omega
 simp only [e1,e2] at this
 exact this
theorem Cf.right {c:Cf} (h:c.ok=true):r04_Right c.t c.p c.s=true:=by
 have:=Cf.ok_iff.1 h
 simp only [r04_Right,iE,decide_eq_true_eq];omega
theorem page_pgB {c:Cf} (h:c.ok=true):r04_Page c.t c.p c.s=pgB c.s:=by
 unfold r04_Page pgB;rw [Cf.right h];rfl
theorem of_pgB {c:Cf} (h:c.ok=true) {g o:Int} (hg:0≤g∧g<c.p) (ho:0≤o∧o<pgB c.s):(r06_Of c.t c.p c.s g o).1=(g+1)*pgB c.s+o∧(r06_Of c.t c.p c.s g o).2=true:=by
 have h1:=Cf.ok_iff.1 h
 have h2:=(szB_ok h1.2.2 (k:=0) (by omega)).2.2.2.2
 have e:(!r04_Right c.t c.p c.s||decide (g<(0:Int))||decide (g≥c.p)||decide (o<(0:Int))||decide (o≥r04_Page c.t c.p c.s))=false:=by
  rw [Cf.right h,page_pgB h]
  simp only [kU,lY,jH,decide_eq_false_iff_not]
  omega
 unfold r06_Of
 rw [e,page_pgB h]
 have h3:(g+1)*pgB c.s≤1024*1048576:=qE (by omega) (by omega) (by omega) (by omega)
 have h4:0≤(g+1)*pgB c.s:=nH (by omega) (by omega)
 rw [cond_false,w64 (n:=g+1) (by omega),w64 (n:=(g+1)*pgB c.s) (by omega),w64 (by omega)]
 exact ⟨rfl,rfl⟩
theorem at_pgB {c:Cf} (h:c.ok=true) {k g j:Int} (hk:0≤k∧k≤8) (hg:0≤g∧g<c.p) (hj:0≤j∧j<kSlots k):(r06_At c.t c.p c.s k g j).1=(g+1)*pgB c.s+j*szB c.s k∧(r06_At c.t c.p c.s k g j).2=true:=by
 have h1:=Cf.ok_iff.1 h
 obtain ⟨e,e2,e3,e4,e5,e6,_⟩:=szB_ok h1.2.2 hk
 have e0:(decide (j<(0:Int))||decide (j≥r05_Slots k))=false:=by
  rw [r05_Slots_eq]
  simp only [jH,decide_eq_false_iff_not];omega
 have f1:0≤j*szB c.s k:=nH hj.1 (by omega)
 have f2:(j+1)*szB c.s k≤kSlots k*szB c.s k:=kJ (by omega) (by omega)
 have f3:(j+1)*szB c.s k=j*szB c.s k+szB c.s k:=by rw [nM,nV]
 have f4:kSlots k*szB c.s k=szB c.s k*kSlots k:=oP _ _
 unfold r06_At
 rw [e0,e,cond_false,w64 (n:=j*szB c.s k) (by omega)]
 obtain ⟨g1,g2⟩:=of_pgB h hg (o:=j*szB c.s k) (by omega)
 exact ⟨g1,g2⟩
section
variable (c:Cf) (xs:LI)
def slabKind (g j:Int):Int:=bif bitAt (cel xs (c.slots g)) j then 2 else bif bitAt (cel xs (c.taken g)) j then 4 else 3
def slabPt (g k j:Int):Pt:=⟨slabKind c xs g j,(g+1)*pgB c.s+j*szB c.s k,szB c.s k⟩
def slabF (g k:Int):Nat→List Pt
 |0=>[]
 |n+1=>slabF g k n++[slabPt c xs g k n]
theorem slabF_len (g k:Int):∀n,(slabF c xs g k n).length=n
 |0=>rfl
 |n+1=>by rw [slabF,jM,slabF_len g k n];rfl
def slabRest (k:Int):Int:=pgB c.s-szB c.s k*kSlots k
def slabL (g k:Int):List Pt:=bif decide (0<slabRest c k) then slabF c xs g k (kSlots k).toNat++[⟨5,(g+1)*pgB c.s+szB c.s k*kSlots k,slabRest c k⟩] else slabF c xs g k (kSlots k).toNat
def partsOf (g:Int):List Pt:=
 let i:=aInfo c xs g
 bif i.k==1||i.k==2 then [⟨i.k,(g+1)*pgB c.s,i.l*pgB c.s⟩] else bif i.k==3 then slabL c xs g i.c else []
theorem slabKind_of {g j:Int} {b1 b2:Bool} (h1:bitAt (cel xs (c.slots g)) j=b1) (h2:bitAt (cel xs (c.taken g)) j=b2):slabKind c xs g j=bif b1 then 2 else bif b2 then 4 else 3:=by unfold slabKind;rw [h1,h2]
def partsF:Nat→List Pt
 |0=>[]
 |n+1=>partsF n++partsOf c xs n
theorem slabL_len (g k:Int):(slabL c xs g k).length≤33:=by
 have:=(kSlots_bd k).2
 unfold slabL
 cases decide (0<slabRest c k) with
 |true=>simp only [cond_true,jM,slabF_len,mN];omega
 |false=>simp only [cond_false,slabF_len];omega
theorem partsOf_len (g:Int):(partsOf c xs g).length≤33:=by
 unfold partsOf
 simp only
 cases (aInfo c xs g).k==1||(aInfo c xs g).k==2 with
 |true=>simp
 |false=>
  simp only [cond_false]
  cases (aInfo c xs g).k==3 with
  |true=>exact slabL_len c xs g _
  |false=>simp
theorem partsF_len:∀n:Nat,(partsF c xs n).length≤33*n
 |0=>kF _
 |n+1=>by
  have h1:=partsF_len n
  have h2:=partsOf_len c xs n
  rw [partsF,jM];omega
theorem partsOf_one {g:Int} (h:((aInfo c xs g).k==1||(aInfo c xs g).k==2)=true):partsOf c xs g=[⟨(aInfo c xs g).k,(g+1)*pgB c.s,(aInfo c xs g).l*pgB c.s⟩]:=by simp only [partsOf,h,cond_true]
theorem partsOf_slab {g:Int} (h:((aInfo c xs g).k==3)=true):partsOf c xs g=slabL c xs g (aInfo c xs g).c:=by
 have e:((aInfo c xs g).k==1||(aInfo c xs g).k==2)=false:=by
  simp only [beq_iff_eq] at h;rw [h];rfl
 simp only [partsOf,e,h,cond_true,cond_false]
theorem partsOf_none {g:Int} (h1:((aInfo c xs g).k==1)=false) (h2:((aInfo c xs g).k==2)=false) (h3:((aInfo c xs g).k==3)=false):partsOf c xs g=[]:=by simp only [partsOf,h1,h2,h3,Bool.or_self,cond_false]
def partsL:List Pt:=partsF c xs c.p.toNat
def blocksL:List Pt:=(partsL c xs).filter λx=>x.k==2
def rootsF (l:LI):Nat→Bool
 |0=>true
 |k+1=>
  let a:=cel xs (cRoot (8-(k+1:Nat)))
  bif a !=0&&!l.contains a then false else rootsF l k
def rootsOk:Bool:=rootsF xs ((blocksL c xs).map (·.a)) 8
def checkA:Int×Bool:=
 bif !c.ok||((xs.length:Int) !=c.cells) then (1,false) else
 bif !tiles c xs then (2,false) else
 bif !feet c xs then (3,false) else
 bif !apart c xs then (4,false) else
 bif !slotsOk c xs then (5,false) else
 bif !bins c xs then (6,false) else
 bif !racks c xs then (7,false) else
 bif !loose c xs then (8,false) else
 bif !counts c xs then (9,false) else
 bif !rootsOk c xs then (10,false) else (0,true)
def soundA:Bool:=(checkA c xs).2
theorem blk_step (P:List Pt) {i:Nat} (h:i<P.length):(P.take (i+1)).filter (λx=>x.k==2)=(P.take i).filter (λx=>x.k==2)++bif (P.map (·.k)).getD i 0==2 then [⟨(P.map (·.k)).getD i 0,(P.map (·.a)).getD i 0,(P.map (·.s)).getD i 0⟩] else []:=by
 have e:∀f:Pt→Int,(P.map f).getD i 0=f P[i]:= λf=>by
  rw [iD,iR,iN h];rfl
 rw [qA,kX,e,e,e,iN h]
 congr 1
theorem partsL_len:(partsL c xs).length≤33*c.p.toNat:=partsF_len c xs _
theorem blocksL_len:(blocksL c xs).length≤33*c.p.toNat:=mE (mB _ _) (partsL_len c xs)
def bdAll (xs:LI):Prop:=∀v∈xs,bd32 v
theorem rootA_eq (k:Int) (h:bdAll xs):bd32 (cel xs k):=by
 unfold cel
 rw [iD]
 cases e:xs[k.toNat]? with
 |none=>exact ⟨by decide,by decide⟩
 |some v=>exact h v (jC e)
def rootA (k:Int):Int:=cel xs (cRoot k)
def stateA:LI×LI×Int×Int×Int×Int×Int×Int×Int×Int×Bool:=
 bif soundA c xs then ((blocksL c xs).map (·.a),(blocksL c xs).map (·.s),rootA xs 0,rootA xs 1,rootA xs 2,rootA xs 3,rootA xs 4,rootA xs 5,rootA xs 6,rootA xs 7,true) else ([],[],0,0,0,0,0,0,0,0,false)
def soundB:Bool:=c.ok&&(xs.length==c.cells)&&tiles c xs&&feet c xs&&apart c xs&&slotsOk c xs&&bins c xs&&racks c xs&&loose c xs&&counts c xs&&rootsOk c xs
theorem soundA_eq:soundA c xs=soundB c xs:=by
 unfold soundA checkA soundB bne
 cases c.ok<;>cases (xs.length:Int)==c.cells<;>cases tiles c xs<;>cases feet c xs<;>cases apart c xs<;>cases slotsOk c xs<;>cases bins c xs<;>cases racks c xs<;>cases loose c xs<;>cases counts c xs<;>cases rootsOk c xs<;>rfl
end
end
end Go.Sl
namespace Go.Proofs.YtinpgnomkmmfdaaGreat
section
open Go.Sl
def x_slab (t p sh:Int) (xs:LI) (g k:Int):LI×LI×LI:=((slabL ⟨t,p,sh⟩ xs g k).map (·.k),(slabL ⟨t,p,sh⟩ xs g k).map (·.a),(slabL ⟨t,p,sh⟩ xs g k).map (·.s))
abbrev c_x_slab:Ct Sg:=⟨none,false,[.agg [.i .i64, .i .i64, .i .i64, .ro [some .u32]], .i .i64, .i .i64], .new 94 [some .i64,some .i64,some .i64]⟩
def e_x_slab:Entry Sg:=entC c_x_slab x_slab (λt p sh xs g k=>[AGood ⟨t,p,sh⟩ xs,0≤g∧g<p,0≤k∧k≤8])
def x_slab_w (t p sh:Int) (xs:LI) (g k:Int) (Q0:Int→Nat→LI→LI→LI→Prop) (R_:LI×LI×LI→Prop):Prop:=(Q0 (0) (0) ([]) ([]) ([]))
def x_slab_w0 (t p sh:Int) (xs:LI) (g k s:Int) (n1:Nat) (ks zs ss:LI) (Q0:Int→Nat→LI→LI→LI→Prop) (R_:LI×LI×LI→Prop):Prop:=(bw_ (decide (s<r05_Slots k)) (aw_ (AGood {t:=t,p:=p,s:=sh} xs) (aw_ (0≤g∧g<p) (bw_ (r01_Bit (x_Taken t p sh xs g) s) (aw_ (AGood {t:=t,p:=p,s:=sh} xs) (aw_ (0≤g∧g<p) (bw_ (r01_Bit (x_Slots t p sh xs g) s) (aw_ ((n1+1)*24≤140737488355328) (Q0 (iA iB (s+1)) (n1+1) (ks++[2]) (zs++[jZ (r06_At t p sh k g s)]) (ss++[r05_Size sh k]))) (aw_ ((n1+1)*24≤140737488355328) (Q0 (iA iB (s+1)) (n1+1) (ks++[4]) (zs++[jZ (r06_At t p sh k g s)]) (ss++[r05_Size sh k])))))) (aw_ (AGood {t:=t,p:=p,s:=sh} xs) (aw_ (0≤g∧g<p) (bw_ (r01_Bit (x_Slots t p sh xs g) s) (aw_ ((n1+1)*24≤140737488355328) (Q0 (iA iB (s+1)) (n1+1) (ks++[2]) (zs++[jZ (r06_At t p sh k g s)]) (ss++[r05_Size sh k]))) (aw_ ((n1+1)*24≤140737488355328) (Q0 (iA iB (s+1)) (n1+1) (ks++[3]) (zs++[jZ (r06_At t p sh k g s)]) (ss++[r05_Size sh k]))))))))) (bw_ (decide (iA iB (r04_Page t p sh-iA iB (r05_Size sh k*r05_Slots k))>0)) (aw_ ((n1+1)*24≤140737488355328) (R_ ((ks++[5],zs++[jZ (r06_Of t p sh g (iA iB (r04_Page t p sh-iA iB (r04_Page t p sh-iA iB (r05_Size sh k*r05_Slots k)))))],ss++[iA iB (r04_Page t p sh-iA iB (r05_Size sh k*r05_Slots k))])))) (R_ ((ks,zs,ss)))))
def x_slab_I0 (t p sh:Int) (xs:LI) (g k s:Int) (n1:Nat) (ks zs ss:LI) (r_:LI×LI×LI):Prop:=0≤s∧s≤kSlots k∧n1=ks.length∧ks=(slabF ⟨t,p,sh⟩ xs g k s.toNat).map (·.k)∧zs=(slabF ⟨t,p,sh⟩ xs g k s.toNat).map (·.a)∧ss=(slabF ⟨t,p,sh⟩ xs g k s.toNat).map (·.s)∧r_=x_slab t p sh xs g k
abbrev x_slab_h0 (p0:Addr) (t p sh:Int) (xs:LI) (g k:Int):Hd Sg:=⟨none,[0,1,0,1,1,1],[.blk 0, .code [1,1,1,1]],[9,8,7,3,1,2],[.i .i64, .ic .i64 (r05_Size sh k), .own 94 [some .i64,some .i64,some .i64], .box 114 [.ic .i64 (t), .ic .i64 (p), .ic .i64 (sh), .roc [.ints .u32 (xs)]], .ic .i64 (g), .ic .i64 (k)]⟩
theorem x_slab_begin (t p sh:Int) (xs:LI) (g k:Int) (hp0:AGood ⟨t,p,sh⟩ xs) (hp1:0≤g∧g<p) (hp2:0≤k∧k≤8) (hl0:xs.length≤9223372036854775807):x_slab_w t p sh xs g k (λs' n1' ks' zs' ss'=>x_slab_I0 t p sh xs g k s' n1' ks' zs' ss' (x_slab t p sh xs g k)) (λr__=>r__=(x_slab t p sh xs g k)):=by
 unfold x_slab_w
 try unfold x_slab_I0
 exact ⟨by omega,(kSlots_bd k).1,rfl,rfl,rfl,rfl,rfl⟩
theorem x_slab_step0 (t p sh:Int) (xs:LI) (g k:Int) (hp0:AGood ⟨t,p,sh⟩ xs) (hp1:0≤g∧g<p) (hp2:0≤k∧k≤8) (hl0:xs.length≤9223372036854775807) (s:Int) (n1:Nat) (ks zs ss:LI) {r_:LI×LI×LI} (hI:x_slab_I0 t p sh xs g k s n1 ks zs ss r_):x_slab_w0 t p sh xs g k s n1 ks zs ss (λs' n1' ks' zs' ss'=>x_slab_I0 t p sh xs g k s' n1' ks' zs' ss' r_∧lx ((kSlots k-s').toNat,0,0) ((kSlots k-s).toNat,0,0)) (λr__=>r__=r_):=by
 unfold x_slab_I0 at hI
 unfold x_slab_w0
 try unfold x_slab_I0
 obtain ⟨h0,h1,h2,h3,h4,h5,hr⟩:=hI
 have hok:=Cf.ok_iff.1 hp0.ok
 simp only at hok
 have hkb:=kSlots_bd k
 obtain ⟨s1,s2,s3,s4,s5,s6,_⟩:=szB_ok hok.2.2 hp2
 have hlen:ks.length=s.toNat:=by rw [h3,kK,slabF_len]
 refine ⟨λh=>?_, λh=>?_⟩
 ·rw [r05_Slots_eq] at h
  simp only [decide_eq_true_eq] at h
  have hb1:r01_Bit (x_Taken t p sh xs g) s=bitAt (cel xs (Cf.taken ⟨t,p,sh⟩ g)) s:=bit_eq (cel_bd hp0 _) s
  have hb2:r01_Bit (x_Slots t p sh xs g) s=bitAt (cel xs (Cf.slots ⟨t,p,sh⟩ g)) s:=bit_eq (cel_bd hp0 _) s
  obtain ⟨ha,_⟩:=at_pgB hp0.ok (k:=k) (g:=g) (j:=s) hp2 hp1 ⟨h0,h⟩
  simp only at ha
  rw [w64 (n:=s+1) (by omega),hb1,hb2,ha,s1]
  have es:(s+1).toNat=s.toNat+1:=by omega
  have ei:((s.toNat:Nat):Int)=s:=by omega
  have hst0:slabF ⟨t,p,sh⟩ xs g k (s+1).toNat=slabF ⟨t,p,sh⟩ xs g k s.toNat++[slabPt ⟨t,p,sh⟩ xs g k s]:=by rw [es,slabF,ei]
  have fin:∀kd,kd=slabKind ⟨t,p,sh⟩ xs g s→(n1+1)*24≤140737488355328∧((0≤s+1∧s+1≤kSlots k∧n1+1=(ks++[kd]).length∧ks++[kd]=(slabF ⟨t,p,sh⟩ xs g k (s+1).toNat).map (·.k)∧zs++[(g+1)*pgB sh+s*szB sh k]=(slabF ⟨t,p,sh⟩ xs g k (s+1).toNat).map (·.a)∧ss++[szB sh k]=(slabF ⟨t,p,sh⟩ xs g k (s+1).toNat).map (·.s)∧r_=x_slab t p sh xs g k)∧lx ((kSlots k-(s+1)).toNat,0,0) ((kSlots k-s).toNat,0,0)):=by
   rintro kd rfl
   refine ⟨by omega,⟨by omega,by omega,by simp [h2],?_,?_,?_,hr⟩,lxo_⟩<;>rw [hst0,jG]
   ·rw [←h3];rfl
   ·rw [←h4];rfl
   ·rw [←h5];rfl
  refine ⟨hp0, λ_=>⟨hp1, λ_=>⟨λc1=>⟨hp0, λ_=>⟨hp1, λ_=>⟨λc2=>?_, λc2=>?_⟩⟩⟩, λc1=>⟨hp0, λ_=>⟨hp1, λ_=>⟨λc2=>?_, λc2=>?_⟩⟩⟩⟩⟩⟩
  ·obtain ⟨a,b⟩:=fin 2 (slabKind_of _ _ c2 c1).symm;exact ⟨a, λ_=>b⟩
  ·obtain ⟨a,b⟩:=fin 4 (slabKind_of _ _ c2 c1).symm;exact ⟨a, λ_=>b⟩
  ·obtain ⟨a,b⟩:=fin 2 (slabKind_of _ _ c2 c1).symm;exact ⟨a, λ_=>b⟩
  ·obtain ⟨a,b⟩:=fin 3 (slabKind_of _ _ c2 c1).symm;exact ⟨a, λ_=>b⟩
 ·rw [r05_Slots_eq] at h
  simp only [decide_eq_false_iff_not] at h
  have e:s.toNat=(kSlots k).toNat:=by omega
  have hpg:r04_Page t p sh=pgB sh:=page_pgB hp0.ok
  have hz:0≤szB sh k*kSlots k:=nH (by omega) (by omega)
  have w1:iB.wrap (szB sh k*kSlots k)=szB sh k*kSlots k:=w64 (by omega)
  have w2:iB.wrap (pgB sh-szB sh k*kSlots k)=slabRest ⟨t,p,sh⟩ k:=w64 (by omega)
  have hre:slabRest ⟨t,p,sh⟩ k=pgB sh-szB sh k*kSlots k:=rfl
  rw [hpg,s1,r05_Slots_eq,w1,w2]
  have w3:iB.wrap (pgB sh-slabRest ⟨t,p,sh⟩ k)=szB sh k*kSlots k:=by rw [hre,w64 (by omega)];omega
  rw [w3]
  rw [e] at h3 h4 h5
  refine ⟨λhc=>⟨by omega, λ_=>?_⟩, λhc=>?_⟩
  ·obtain ⟨ha,_⟩:=of_pgB hp0.ok (g:=g) (o:=szB sh k*kSlots k) hp1 (by simp only [gt_iff_lt,decide_eq_true_eq] at hc;show 0≤_∧_<pgB sh;omega)
   simp only at ha
   rw [ha]
   show _=_
   have hc':decide (0<slabRest ⟨t,p,sh⟩ k)=true:=hc
   rw [hr,x_slab,slabL,hc',cond_true,h3,h4,h5]
   simp only [jG];rfl
  ·have hc':decide (0<slabRest ⟨t,p,sh⟩ k)=false:=hc
   show _=_
   rw [hr,x_slab,slabL,hc',cond_false,h3,h4,h5]
theorem x_slab_ok:EOk 102 e_x_slab:=
 ent_wp Dg T_x_feet_ok (I:=[1643000000009,1643000000008,1643000000007,1643000000003,1643000000001,1643000000002]) Tryz.func102 mix (B:=bodyOf Tryz.f102) (by kernel_rfl) rfl (by kernel_rfl) 400
  λp0 t p sh xs g k hb hp=>have hl0:xs.length≤9223372036854775807:=hb.1.2.2.2.1;have hp0:AGood ⟨t,p,sh⟩ xs:=hp _ (.head _);have hp1:0≤g∧g<p:=hp _ (.tail _ (.head _));have hp2:0≤k∧k≤8:=hp _ (.tail _ (.tail _ (.head _)));⟨[x_slab_h0 p0 t p sh xs g k], λj=>iI [appC (Hd.kd (x_slab_h0 p0 t p sh xs g k)) (λs' n1' ks' zs' ss'=>x_slab_I0 t p sh xs g k s' n1' ks' zs' ss' (x_slab t p sh xs g k))] j (λ_=>False), λj=>iI [appC (Hd.kd (x_slab_h0 p0 t p sh xs g k)) (λs' n1' ks' zs' ss'=>((kSlots k-s').toNat,0,0))] j (λ_=>(0,0,0)),by kernel_rfl,⟨_, λ_ _ _=>by kernel_rfl,x_slab_begin t p sh xs g k hp0 hp1 hp2 hl0⟩,⟨λs n1 ks zs ss hI=>⟨_, λ_ _ _=>by kernel_rfl,x_slab_step0 t p sh xs g k hp0 hp1 hp2 hl0 s n1 ks zs ss hI⟩,trivial⟩⟩
def T_x_slab:Tb:=(102,e_x_slab)::T_x_feet
theorem T_x_slab_ok:TOk T_x_slab:=tc_ x_slab_ok T_x_feet_ok
def x_parts (t p sh:Int) (xs:LI):LI×LI×LI:=((partsL ⟨t,p,sh⟩ xs).map (·.k),(partsL ⟨t,p,sh⟩ xs).map (·.a),(partsL ⟨t,p,sh⟩ xs).map (·.s))
abbrev c_x_parts:Ct Sg:=⟨none,false,[.agg [.i .i64, .i .i64, .i .i64, .ro [some .u32]]], .new 94 [some .i64,some .i64,some .i64]⟩
def e_x_parts:Entry Sg:=entC c_x_parts x_parts (λt p sh xs=>[AGood ⟨t,p,sh⟩ xs])
def x_parts_w (t p sh:Int) (xs:LI) (Q0:Int→Nat→LI→LI→LI→Prop) (R_:LI×LI×LI→Prop):Prop:=(Q0 (0) (0) ([]) ([]) ([]))
abbrev O5 (n1:Nat) (Q0:Int→Nat→LI→LI→LI→Prop) (i:Int) (ks:LI) (t p sh:Int) (xs zs ss:LI):Prop:=(aw_ ((n1+1)*24≤140737488355328) (Q0 (iA iB (i+1)) (n1+1) (ks++[jZ (If.k (aInfo {t:=t,p:=p,s:=sh} xs i),If.l (aInfo {t:=t,p:=p,s:=sh} xs i),If.c (aInfo {t:=t,p:=p,s:=sh} xs i))]) (zs++[jZ (r06_Of t p sh i 0)]) (ss++[iA iB (If.l (aInfo {t:=t,p:=p,s:=sh} xs i)*r04_Page t p sh)])))
abbrev O6 (t p sh:Int) (xs:LI) (i:Int) (n1:Nat) (Q0:Int→Nat→LI→LI→LI→Prop) (ks zs ss:LI):Prop:=(bw_ (jZ (x_Info t p sh xs i)==3) (∀r7:LI×LI×LI,r7=(x_slab t p sh xs i (If.c (aInfo {t:=t,p:=p,s:=sh} xs i)))→(aw_ (AGood {t:=t,p:=p,s:=sh} xs) (aw_ (0≤i∧i<p) (aw_ (0≤lD (If.l (aInfo {t:=t,p:=p,s:=sh} xs i),If.c (aInfo {t:=t,p:=p,s:=sh} xs i))∧lD (If.l (aInfo {t:=t,p:=p,s:=sh} xs i),If.c (aInfo {t:=t,p:=p,s:=sh} xs i))≤8) (aw_ ((n1+iF r7.1)*24≤140737488355328) (Q0 (iA iB (i+1)) (n1+iF r7.1) (ks++r7.1) (zs++r7.2.1) (ss++r7.2.2))))))) (Q0 (iA iB (i+1)) (n1) (ks) (zs) (ss)))
def x_parts_w0 (t p sh:Int) (xs:LI) (i:Int) (n1:Nat) (ks zs ss:LI) (Q0:Int→Nat→LI→LI→LI→Prop) (R_:LI×LI×LI→Prop):Prop:=(bw_ (decide (i<p)) (aw_ (AGood {t:=t,p:=p,s:=sh} xs) (aw_ (0≤i∧i<p) (bw_ (jZ (x_Info t p sh xs i)==1) (bw_ (jZ (x_Info t p sh xs i)==1) (tw_ (O5 n1 Q0 i ks t p sh xs zs ss)) (O6 t p sh xs i n1 Q0 ks zs ss)) (bw_ (jZ (x_Info t p sh xs i)==2) (tw_ (O5 n1 Q0 i ks t p sh xs zs ss)) (O6 t p sh xs i n1 Q0 ks zs ss))))) (R_ ((ks,zs,ss))))
def x_parts_I0 (t p sh:Int) (xs:LI) (i:Int) (n1:Nat) (ks zs ss:LI) (r_:LI×LI×LI):Prop:=0≤i∧i≤p∧n1=ks.length∧ks=(partsF ⟨t,p,sh⟩ xs i.toNat).map (·.k)∧zs=(partsF ⟨t,p,sh⟩ xs i.toNat).map (·.a)∧ss=(partsF ⟨t,p,sh⟩ xs i.toNat).map (·.s)∧r_=x_parts t p sh xs
abbrev x_parts_h0 (p0:Addr) (t p sh:Int) (xs:LI):Hd Sg:=⟨none,[0,1,0,1,1],[.blk 0, .code [1,1,1]],[4,3,1],[.i .i64, .own 94 [some .i64,some .i64,some .i64], .box 114 [.ic .i64 (t), .ic .i64 (p), .ic .i64 (sh), .roc [.ints .u32 (xs)]]]⟩
theorem x_parts_begin (t p sh:Int) (xs:LI) (hp0:AGood ⟨t,p,sh⟩ xs) (hl0:xs.length≤9223372036854775807):x_parts_w t p sh xs (λi' n1' ks' zs' ss'=>x_parts_I0 t p sh xs i' n1' ks' zs' ss' (x_parts t p sh xs)) (λr__=>r__=(x_parts t p sh xs)):=by
 unfold x_parts_w
 try unfold x_parts_I0
 have hok:=Cf.ok_iff.1 hp0.ok
 simp only at hok
 exact ⟨by omega,by omega,rfl,rfl,rfl,rfl,rfl⟩
theorem x_parts_step0 (t p sh:Int) (xs:LI) (hp0:AGood ⟨t,p,sh⟩ xs) (hl0:xs.length≤9223372036854775807) (i:Int) (n1:Nat) (ks zs ss:LI) {r_:LI×LI×LI} (hI:x_parts_I0 t p sh xs i n1 ks zs ss r_):x_parts_w0 t p sh xs i n1 ks zs ss (λi' n1' ks' zs' ss'=>x_parts_I0 t p sh xs i' n1' ks' zs' ss' r_∧lx ((p-i').toNat,0,0) ((p-i).toNat,0,0)) (λr__=>r__=r_):=by
 unfold x_parts_I0 at hI
 unfold x_parts_w0 O6 O5
 try unfold x_parts_I0
 obtain ⟨h0,h1,h2,h3,h4,h5,hr⟩:=hI
 have hok:=Cf.ok_iff.1 hp0.ok
 simp only at hok
 have hlen:ks.length≤33*i.toNat:=by rw [h3,kK];exact partsF_len _ _ _
 refine ⟨λh=>?_, λh=>?_⟩
 ·simp only [decide_eq_true_eq] at h
  have hg:0≤i∧i<p:=⟨h0,h⟩
  have hbd:=iGet_bd (cel xs (Cf.info ⟨t,p,sh⟩ i))
  have hb1:0≤(aInfo ⟨t,p,sh⟩ xs i).l∧(aInfo ⟨t,p,sh⟩ xs i).l≤1024:=⟨hbd.2.2.1,hbd.2.2.2.1⟩
  have hb2:0≤(aInfo ⟨t,p,sh⟩ xs i).c∧(aInfo ⟨t,p,sh⟩ xs i).c≤8:=⟨hbd.2.2.2.2.1,hbd.2.2.2.2.2⟩
  have hpb:=(szB_ok hok.2.2 (k:=0) (by omega)).2.2.2.2
  obtain ⟨ha,_⟩:=of_pgB hp0.ok (g:=i) (o:=0) hg (by show 0≤0∧0<pgB sh;omega)
  simp only [Int.add_zero] at ha
  have hpg:r04_Page t p sh=pgB sh:=page_pgB hp0.ok
  have hm1:0≤(aInfo ⟨t,p,sh⟩ xs i).l*pgB sh:=nH hb1.1 (by omega)
  have hm2:(aInfo ⟨t,p,sh⟩ xs i).l*pgB sh≤1024*1048576:=qE hb1.2 hpb.2.1 (by omega) (by omega)
  have hst:partsF ⟨t,p,sh⟩ xs (i+1).toNat=partsF ⟨t,p,sh⟩ xs i.toNat++partsOf ⟨t,p,sh⟩ xs i:=by
   rw [show (i+1).toNat=i.toNat+1 by omega,partsF,show ((i.toNat:Nat):Int)=i by omega]
  have fin:∀(L:List Pt),partsOf ⟨t,p,sh⟩ xs i=L→∀(n1':Nat) (ks' zs' ss':LI),n1'=n1+L.length→ks'=ks++L.map (·.k)→zs'=zs++L.map (·.a)→ss'=ss++L.map (·.s)→
   (0≤i+1∧i+1≤p∧n1'=ks'.length∧ks'=(partsF ⟨t,p,sh⟩ xs (i+1).toNat).map (·.k)∧zs'=(partsF ⟨t,p,sh⟩ xs (i+1).toNat).map (·.a)∧ss'=(partsF ⟨t,p,sh⟩ xs (i+1).toNat).map (·.s)∧r_=x_parts t p sh xs)∧lx ((p-(i+1)).toNat,0,0) ((p-i).toNat,0,0):=by
   intro L hL n1' ks' zs' ss' e1 e2 e3 e4
   rw [hst,hL,jG,jG,jG,←h3,←h4,←h5]
   exact ⟨⟨by omega,by omega,by rw [e1,e2,jM,kK,h2],e2,e3,e4,hr⟩,lxo_⟩
  simp only [x_Info]
  rw [w64 (n:=i+1) (by omega),ha,hpg,w64 (n:=(aInfo ⟨t,p,sh⟩ xs i).l*pgB sh) (by omega)]
  refine ⟨hp0, λ_=>⟨hg, λ_=>?_⟩⟩
  have hsl:=slabL_len ⟨t,p,sh⟩ xs i (aInfo ⟨t,p,sh⟩ xs i).c
  have hl2:(x_slab t p sh xs i (aInfo ⟨t,p,sh⟩ xs i).c).1.length=(slabL ⟨t,p,sh⟩ xs i (aInfo ⟨t,p,sh⟩ xs i).c).length:=by simp [x_slab]
  have f1:∀h:((aInfo ⟨t,p,sh⟩ xs i).k==1||(aInfo ⟨t,p,sh⟩ xs i).k==2)=true,_:= λh=>fin _ (partsOf_one _ _ h) _ _ _ _ rfl rfl rfl rfl
  have f3:∀h:((aInfo ⟨t,p,sh⟩ xs i).k==3)=true,_:= λh=>fin _ (partsOf_slab _ _ h) _ _ _ _ rfl rfl rfl rfl
  rw [←hl2] at f3
  have f0:= λh1 h2 h3=>fin _ (partsOf_none ⟨t,p,sh⟩ xs (g:=i) h1 h2 h3) n1 ks zs ss (by simp) (by simp) (by simp) (by simp)
  cases k1:(aInfo ⟨t,p,sh⟩ xs i).k==1<;>cases k2:(aInfo ⟨t,p,sh⟩ xs i).k==2<;>cases k3:(aInfo ⟨t,p,sh⟩ xs i).k==3<;>simp only [bw_,aw_,true_implies,false_implies,Bool.true_eq_false,mK,reduceCtorEq,and_true,true_and,and_self]<;>first
   |exact f0 k1 k2 k3
   |exact ⟨by omega, λ_=>f1 (by rw [k1,k2];rfl)⟩
   |(refine λr hr=>?_;subst hr;exact ⟨hp0, λ_=>⟨hg, λ_=>⟨hb2, λ_=>⟨by omega, λ_=>f3 k3⟩⟩⟩⟩)
   |fail
 ·simp only [decide_eq_false_iff_not] at h
  have e:i.toNat=p.toNat:=by omega
  show _=_
  rw [hr,x_parts,partsL,h3,h4,h5,e]
theorem x_parts_ok:EOk 63 e_x_parts:=
 ent_wp Dg T_x_slab_ok (I:=[411000000004,411000000003,411000000001]) Tryz.func63 mix (B:=bodyOf Tryz.f63) (by kernel_rfl) rfl (by kernel_rfl) 400
  λp0 t p sh xs hb hp=>have hl0:xs.length≤9223372036854775807:=hb.1.2.2.2.1;have hp0:AGood ⟨t,p,sh⟩ xs:=hp _ (.head _);⟨[x_parts_h0 p0 t p sh xs], λj=>iI [appC (Hd.kd (x_parts_h0 p0 t p sh xs)) (λi' n1' ks' zs' ss'=>x_parts_I0 t p sh xs i' n1' ks' zs' ss' (x_parts t p sh xs))] j (λ_=>False), λj=>iI [appC (Hd.kd (x_parts_h0 p0 t p sh xs)) (λi' n1' ks' zs' ss'=>((p-i').toNat,0,0))] j (λ_=>(0,0,0)),by kernel_rfl,⟨_, λ_ _ _=>by kernel_rfl,x_parts_begin t p sh xs hp0 hl0⟩,⟨λi n1 ks zs ss hI=>⟨_, λ_ _ _=>by kernel_rfl,x_parts_step0 t p sh xs hp0 hl0 i n1 ks zs ss hI⟩,trivial⟩⟩
def T_x_parts:Tb:=(63,e_x_parts)::T_x_slab
theorem T_x_parts_ok:TOk T_x_parts:=tc_ x_parts_ok T_x_slab_ok
end
section
open Go.Sl
def x_blocks (t p sh:Int) (xs:LI):LI×LI:=((blocksL ⟨t,p,sh⟩ xs).map (·.a),(blocksL ⟨t,p,sh⟩ xs).map (·.s))
abbrev c_x_blocks:Ct Sg:=⟨none,false,[.agg [.i .i64, .i .i64, .i .i64, .ro [some .u32]]], .new 51 [some .i64,some .i64]⟩
def e_x_blocks:Entry Sg:=entC c_x_blocks x_blocks (λt p sh xs=>[AGood ⟨t,p,sh⟩ xs])
def x_blocks_w (t p sh:Int) (xs:LI) (Q0:Int→Nat→LI→LI→LI→Nat→LI→LI→Prop) (R_:LI×LI→Prop):Prop:=(∀r2:LI×LI×LI,r2=(x_parts t p sh xs)→(aw_ (AGood {t:=t,p:=p,s:=sh} xs) (Q0 (0) (iF r2.1) r2.1 r2.2.1 r2.2.2 (0) ([]) ([]))))
def x_blocks_w0 (t p sh:Int) (xs:LI) (i:Int) (n1:Nat) (ks zs ss:LI) (n2:Nat) (as_ bs:LI) (Q0:Int→Nat→LI→LI→LI→Nat→LI→LI→Prop) (R_:LI×LI→Prop):Prop:=(bw_ (decide (i<(↑n1:Int))) (aw_ (0≤i∧i<(↑n1:Int)) (bw_ (iI ks (iL i) (0:Int)==2) (aw_ (0≤i∧i<(↑n1:Int)) (aw_ (0≤i∧i<(↑n1:Int)) (tw_ (aw_ ((n2+1)*16≤140737488355328) (Q0 (iA iB (i+1)) (n1) (ks) (zs) (ss) (n2+1) (as_++[iI zs (iL i) 0]) (bs++[iI ss (iL i) 0])))))) (Q0 (iA iB (i+1)) (n1) (ks) (zs) (ss) (n2) (as_) (bs)))) (R_ ((as_,bs))))
def x_blocks_I0 (t p sh:Int) (xs:LI) (i:Int) (n1:Nat) (ks zs ss:LI) (n2:Nat) (as_ bs:LI) (r_:LI×LI):Prop:=0≤i∧i≤n1∧n1=(partsL ⟨t,p,sh⟩ xs).length∧n1≤33*1024∧ks=(partsL ⟨t,p,sh⟩ xs).map (·.k)∧zs=(partsL ⟨t,p,sh⟩ xs).map (·.a)∧ss=(partsL ⟨t,p,sh⟩ xs).map (·.s)∧n2=as_.length∧n2≤i∧as_=(((partsL ⟨t,p,sh⟩ xs).take i.toNat).filter λx=>x.k==2).map (·.a)∧bs=(((partsL ⟨t,p,sh⟩ xs).take i.toNat).filter λx=>x.k==2).map (·.s)∧r_=x_blocks t p sh xs
abbrev x_blocks_h0 (p0:Addr) (t p sh:Int) (xs:LI):Hd Sg:=⟨none,[0,1,0,1,1,1],[.blk 0, .code [1,1,1,1]],[5,4,3],[.i .i64, .own 94 [some .i64,some .i64,some .i64], .own 51 [some .i64,some .i64]]⟩
theorem x_blocks_begin (t p sh:Int) (xs:LI) (hp0:AGood ⟨t,p,sh⟩ xs) (hl0:xs.length≤9223372036854775807):x_blocks_w t p sh xs (λi' n1' ks' zs' ss' n2' as_' bs'=>x_blocks_I0 t p sh xs i' n1' ks' zs' ss' n2' as_' bs' (x_blocks t p sh xs)) (λr__=>r__=(x_blocks t p sh xs)):=by
 unfold x_blocks_w
 try unfold x_blocks_I0
 have hok:=Cf.ok_iff.1 hp0.ok
 simp only at hok
 have hl:(partsL ⟨t,p,sh⟩ xs).length≤33*p.toNat:=partsL_len _ _
 rintro r2 rfl
 exact ⟨hp0, λ_=>⟨by omega,by omega,by simp [x_parts],by simp only [x_parts,kK];omega,rfl,rfl,rfl,rfl,by omega,by simp,by simp,rfl⟩⟩
theorem x_blocks_step0 (t p sh:Int) (xs:LI) (hp0:AGood ⟨t,p,sh⟩ xs) (hl0:xs.length≤9223372036854775807) (i:Int) (n1:Nat) (ks zs ss:LI) (n2:Nat) (as_ bs:LI) {r_:LI×LI} (hI:x_blocks_I0 t p sh xs i n1 ks zs ss n2 as_ bs r_):x_blocks_w0 t p sh xs i n1 ks zs ss n2 as_ bs (λi' n1' ks' zs' ss' n2' as_' bs'=>x_blocks_I0 t p sh xs i' n1' ks' zs' ss' n2' as_' bs' r_∧lx ((n1'-i').toNat,0,0) ((n1-i).toNat,0,0)) (λr__=>r__=r_):=by
 unfold x_blocks_I0 at hI
 unfold x_blocks_w0
 try unfold x_blocks_I0
 obtain ⟨h0,h1,h2,hb,h3,h4,h5,h6,h7,h8,h9,hr⟩:=hI
 refine ⟨λh=>?_, λh=>?_⟩
 ·simp only [decide_eq_true_eq] at h
  have hi:0≤i∧i<(n1:Int):=⟨h0,h⟩
  have hs:=blk_step (partsL ⟨t,p,sh⟩ xs) (i:=i.toNat) (by omega)
  rw [←h3,←h4,←h5] at hs
  have es:(i+1).toNat=i.toNat+1:=by omega
  rw [w64 (n:=i+1) (by omega)]
  refine ⟨hi, λ_=>⟨λhc=>⟨hi, λ_=>⟨hi, λ_=>?_⟩⟩, λhc=>?_⟩⟩
  ·rw [hc] at hs
   refine And.intro ?_ ?_<;>exact ⟨by omega, λ_=>⟨⟨by omega,by omega,h2,hb,h3,h4,h5,by simp [h6],by omega,by rw [es,hs,jG,←h8];rfl,by rw [es,hs,jG,←h9];rfl,hr⟩,lxo_⟩⟩
  ·rw [hc] at hs
   exact ⟨⟨by omega,by omega,h2,hb,h3,h4,h5,h6,by omega,by rw [es,hs,jG,←h8];simp,by rw [es,hs,jG,←h9];simp,hr⟩,lxo_⟩
 ·simp only [decide_eq_false_iff_not] at h
  show _=_
  rw [hr,x_blocks,blocksL,h8,h9,lI (by omega)]
theorem x_blocks_ok:EOk 53 e_x_blocks:=
 ent_wp Dg T_x_parts_ok (I:=[1643000000005,1643000000004,1643000000003]) Tryz.func53 mix (B:=bodyOf Tryz.f53) (by kernel_rfl) rfl (by kernel_rfl) 400
  λp0 t p sh xs hb hp=>have hl0:xs.length≤9223372036854775807:=hb.1.2.2.2.1;have hp0:AGood ⟨t,p,sh⟩ xs:=hp _ (.head _);⟨[x_blocks_h0 p0 t p sh xs], λj=>iI [appC (Hd.kd (x_blocks_h0 p0 t p sh xs)) (λi' n1' ks' zs' ss' n2' as_' bs'=>x_blocks_I0 t p sh xs i' n1' ks' zs' ss' n2' as_' bs' (x_blocks t p sh xs))] j (λ_=>False), λj=>iI [appC (Hd.kd (x_blocks_h0 p0 t p sh xs)) (λi' n1' ks' zs' ss' n2' as_' bs'=>((n1'-i').toNat,0,0))] j (λ_=>(0,0,0)),by kernel_rfl,⟨_, λ_ _ _=>by kernel_rfl,x_blocks_begin t p sh xs hp0 hl0⟩,⟨λi n1 ks zs ss n2 as_ bs hI=>⟨_, λ_ _ _=>by kernel_rfl,x_blocks_step0 t p sh xs hp0 hl0 i n1 ks zs ss n2 as_ bs hI⟩,trivial⟩⟩
def T_x_blocks:Tb:=(53,e_x_blocks)::T_x_parts
theorem T_x_blocks_ok:TOk T_x_blocks:=tc_ x_blocks_ok T_x_parts_ok
def x_roots (t p sh:Int) (xs:LI):Bool:=rootsOk ⟨t,p,sh⟩ xs
abbrev c_x_roots:Ct Sg:=⟨none,false,[.agg [.i .i64, .i .i64, .i .i64, .ro [some .u32]]], .b⟩
def e_x_roots:Entry Sg:=entC c_x_roots x_roots (λt p sh xs=>[AGood ⟨t,p,sh⟩ xs])
def x_roots_w (t p sh:Int) (xs:LI) (Q0:Int→Nat→LI→LI→Prop) (R_:Bool→Prop):Prop:=(∀r1:LI×LI,r1=(x_blocks t p sh xs)→(aw_ (AGood {t:=t,p:=p,s:=sh} xs) (Q0 (0) (iF r1.1) r1.1 r1.2)))
def x_roots_w0 (t p sh:Int) (xs:LI) (i:Int) (n2:Nat) (as_ bs:LI) (Q0:Int→Nat→LI→LI→Prop) (R_:Bool→Prop):Prop:=(bw_ (decide (i<8)) (aw_ (0≤r07_Root i∧r07_Root i<(↑(iF xs):Int)) (bw_ (iA iB (iI xs (iL (r07_Root i)) 0) !=0&&!r12_Has as_ bs (iA iB (iI xs (iL (r07_Root i)) 0))) (R_ (false)) (Q0 (iA iB (i+1)) (n2) (as_) (bs)))) (R_ (true)))
def x_roots_I0 (t p sh:Int) (xs:LI) (i:Int) (n2:Nat) (as_ bs:LI) (r_:Bool):Prop:=0≤i∧i≤8∧n2=as_.length∧as_.length=bs.length∧as_.length≤33*1024∧rootsF xs as_ (8-i).toNat=r_
abbrev x_roots_h0 (p0:Addr) (t p sh:Int) (xs:LI):Hd Sg:=⟨none,[0,1,0,1,1],[.blk 0, .code [1,1,1]],[4,3,1],[.i .i64, .own 51 [some .i64,some .i64], .box 114 [.ic .i64 (t), .ic .i64 (p), .ic .i64 (sh), .roc [.ints .u32 (xs)]]]⟩
theorem x_roots_begin (t p sh:Int) (xs:LI) (hp0:AGood ⟨t,p,sh⟩ xs) (hl0:xs.length≤9223372036854775807):x_roots_w t p sh xs (λi' n2' as_' bs'=>x_roots_I0 t p sh xs i' n2' as_' bs' (x_roots t p sh xs)) (λr__=>r__=(x_roots t p sh xs)):=by
 unfold x_roots_w
 try unfold x_roots_I0
 have hok:=Cf.ok_iff.1 hp0.ok
 simp only at hok
 have hl:(blocksL ⟨t,p,sh⟩ xs).length≤33*p.toNat:=blocksL_len _ _
 rintro r2 rfl
 exact ⟨hp0, λ_=>⟨by omega,by omega,rfl,by simp [x_blocks],by simp only [x_blocks,kK];omega,rfl⟩⟩
theorem x_roots_step0 (t p sh:Int) (xs:LI) (hp0:AGood ⟨t,p,sh⟩ xs) (hl0:xs.length≤9223372036854775807) (i:Int) (n2:Nat) (as_ bs:LI) {r_:Bool} (hI:x_roots_I0 t p sh xs i n2 as_ bs r_):x_roots_w0 t p sh xs i n2 as_ bs (λi' n2' as_' bs'=>x_roots_I0 t p sh xs i' n2' as_' bs' r_∧lx ((8-i').toNat,0,0) ((8-i).toNat,0,0)) (λr__=>r__=r_):=by
 unfold x_roots_I0 at hI
 unfold x_roots_w0
 try unfold x_roots_I0
 obtain ⟨h0,h1,h2,h3,hb,hr⟩:=hI
 refine ⟨λh=>?_, λh=>?_⟩
 ·simp only [decide_eq_true_eq] at h
  have hin:0≤cRoot i∧cRoot i<(xs.length:Int):=by
   have h1:=Cf.ok_iff.1 hp0.ok
   have h2:=hp0.len
   unfold Cf.cells at h2
   rw [hp0.ok,cond_true] at h2
   have e:(decide (0≤i)&&decide (i<8))=true:=by simp [h0,h]
   unfold cRoot
   rw [e,cond_true]
   omega
  have hbd:=cel_bd hp0 (cRoot i)
  have hbd':0≤xs.getD (cRoot i).toNat 0∧xs.getD (cRoot i).toNat 0<4294967296:=hbd
  have e:(8-i).toNat=(8-(i+1)).toNat+1:=by omega
  have ei:(8:Int)-(((8-(i+1)).toNat+1:Nat):Int)=i:=by omega
  rw [e] at hr
  simp only [rootsF] at hr
  rw [ei] at hr
  rw [r07_Root_eq,w64 (n:=i+1) (by omega),w64 (n:=xs.getD (cRoot i).toNat 0) (by omega)]
  refine ⟨hin, λ_=>⟨λhc=>?_, λhc=>?_⟩⟩
  ·have hc':(cel xs (cRoot i) !=0&&!as_.contains (cel xs (cRoot i)))=true:=hc
   rw [hc',cond_true] at hr;exact hr
  ·have hc':(cel xs (cRoot i) !=0&&!as_.contains (cel xs (cRoot i)))=false:=hc
   rw [hc',cond_false] at hr
   exact ⟨⟨by omega,by omega,h2,h3,hb,hr⟩,lxo_⟩
 ·simp only [decide_eq_false_iff_not] at h
  rw [show (8-i).toNat=0 by omega] at hr
  exact hr
theorem x_roots_ok:EOk 90 e_x_roots:=
 ent_wp Dg T_x_blocks_ok (I:=[411000000004,411000000003,411000000001]) Tryz.func90 mix (B:=bodyOf Tryz.f90) (by kernel_rfl) rfl (by kernel_rfl) 400
  λp0 t p sh xs hb hp=>have hl0:xs.length≤9223372036854775807:=hb.1.2.2.2.1;have hp0:AGood ⟨t,p,sh⟩ xs:=hp _ (.head _);⟨[x_roots_h0 p0 t p sh xs], λj=>iI [appC (Hd.kd (x_roots_h0 p0 t p sh xs)) (λi' n2' as_' bs'=>x_roots_I0 t p sh xs i' n2' as_' bs' (x_roots t p sh xs))] j (λ_=>False), λj=>iI [appC (Hd.kd (x_roots_h0 p0 t p sh xs)) (λi' n2' as_' bs'=>((8-i').toNat,0,0))] j (λ_=>(0,0,0)),by kernel_rfl,⟨_, λ_ _ _=>by kernel_rfl,x_roots_begin t p sh xs hp0 hl0⟩,⟨λi n2 as_ bs hI=>⟨_, λ_ _ _=>by kernel_rfl,x_roots_step0 t p sh xs hp0 hl0 i n2 as_ bs hI⟩,trivial⟩⟩
def T_x_roots:Tb:=(90,e_x_roots)::T_x_blocks
theorem T_x_roots_ok:TOk T_x_roots:=tc_ x_roots_ok T_x_blocks_ok
def r12_Check (t p sh:Int) (xs:LI):Int×Bool:=checkA ⟨t,p,sh⟩ xs
abbrev c_r12_Check:Ct Sg:=⟨none,false,[.agg [.i .i64, .i .i64, .i .i64], .ro [some .u32]], .tup [.i .i64, .b]⟩
def e_r12_Check:Entry Sg:=entC c_r12_Check r12_Check (λt p sh xs=>[bdAll xs])
def r12_Check_w (t p sh:Int) (xs:LI) (R_:Int×Bool→Prop):Prop:=(∀r1:Bool,r1=(r04_Right t p sh)→(bw_ (!r1||(↑(iF xs):Int) !=r07_Cells t p sh) (R_ ((1,false))) (∀r4:Bool,r4=(x_tiles t p sh xs)→(aw_ (AGood {t:=t,p:=p,s:=sh} xs) (bw_ (!r4) (R_ ((2,false))) (∀r7:Bool,r7=(x_feet t p sh xs)→(aw_ (AGood {t:=t,p:=p,s:=sh} xs) (aw_ (lD (starts {t:=t,p:=p,s:=sh} xs)=true) (bw_ (!r7) (R_ ((3,false))) (∀r11:Bool,r11=(x_apart t p sh xs)→(aw_ (AGood {t:=t,p:=p,s:=sh} xs) (bw_ (!r11) (R_ ((4,false))) (∀r14:Bool,r14=(x_slots t p sh xs)→(aw_ (AGood {t:=t,p:=p,s:=sh} xs) (bw_ (!r14) (R_ ((5,false))) (∀r17:Bool,r17=(x_bins t p sh xs)→(aw_ (AGood {t:=t,p:=p,s:=sh} xs) (bw_ (!r17) (R_ ((6,false))) (∀r20:Bool,r20=(x_racks t p sh xs)→(aw_ (AGood {t:=t,p:=p,s:=sh} xs) (bw_ (!r20) (R_ ((7,false))) (∀r23:Bool,r23=(x_loose t p sh xs)→(aw_ (AGood {t:=t,p:=p,s:=sh} xs) (bw_ (!r23) (R_ ((8,false))) (∀r26:Bool,r26=(x_counts t p sh xs)→(aw_ (AGood {t:=t,p:=p,s:=sh} xs) (bw_ (!r26) (R_ ((9,false))) (∀r29:Bool,r29=(x_roots t p sh xs)→(aw_ (AGood {t:=t,p:=p,s:=sh} xs) (bw_ (!r29) (R_ ((10,false))) (R_ ((0,true)))))))))))))))))))))))))))))))))
theorem r12_Check_begin (t p sh:Int) (xs:LI) (hp0:bdAll xs) (hl0:xs.length≤9223372036854775807):r12_Check_w t p sh xs (λr__=>r__=(r12_Check t p sh xs)):=by
 unfold r12_Check_w
 have hr:r04_Right t p sh=Cf.ok ⟨t,p,sh⟩:=by
  apply lT.2
  rw [Cf.ok_iff]
  simp only [r04_Right,iE,decide_eq_true_eq];omega
 have hcl:r07_Cells t p sh=Cf.cells ⟨t,p,sh⟩:=by
  unfold r07_Cells Cf.cells
  rw [hr]
  cases h:Cf.ok ⟨t,p,sh⟩ with
  |false=>rfl
  |true=>
   have:=Cf.ok_iff.1 h
   simp only at this
   show iB.wrap _=30+4*t+6*p
   rw [w64 (n:=4*t) (by omega),w64 (n:=30+4*t) (by omega),w64 (n:=6*p) (by omega),w64 (by omega)]
 rintro r1 rfl
 rw [hr,hcl]
 refine ⟨λhc=>?_, λhc=>?_⟩
 ·show _=checkA ⟨t,p,sh⟩ xs
  unfold checkA
  rw [hc];rfl
 have hg:AGood ⟨t,p,sh⟩ xs:=by
  simp only [jH,jY,bne_eq_false_iff_eq] at hc
  exact {ok:=hc.1,len:=hc.2,bd:=hp0}
 have key:∀{r:Int×Bool},r=checkA ⟨t,p,sh⟩ xs→(λr__=>r__=r12_Check t p sh xs) r:= λh=>h
 unfold checkA at key
 rw [hc,cond_false] at key
 rintro r rfl
 refine ⟨hg, λ_=>⟨λhd=>key (by rw [show (!tiles ⟨t,p,sh⟩ xs)=true from hd];rfl), λhd=>?_⟩⟩
 have h_tiles:(!tiles ⟨t,p,sh⟩ xs)=false:=hd
 rw [h_tiles,cond_false] at key
 rintro r rfl
 have hst:(starts ⟨t,p,sh⟩ xs).2=true:=by
  have h1:tiles ⟨t,p,sh⟩ xs=true:=by simpa using h_tiles
  unfold tiles at h1
  cases hq:(starts ⟨t,p,sh⟩ xs).2 with
  |true=>rfl
  |false=>rw [hq] at h1;cases h1
 refine ⟨hg, λ_=>⟨hst, λ_=>⟨λhd=>key (by rw [show (!feet ⟨t,p,sh⟩ xs)=true from hd];rfl), λhd=>?_⟩⟩⟩
 have h_feet:(!feet ⟨t,p,sh⟩ xs)=false:=hd
 rw [h_feet,cond_false] at key
 rintro r rfl
 refine ⟨hg, λ_=>⟨λhd=>key (by rw [show (!apart ⟨t,p,sh⟩ xs)=true from hd];rfl), λhd=>?_⟩⟩
 have h_apart:(!apart ⟨t,p,sh⟩ xs)=false:=hd
 rw [h_apart,cond_false] at key
 rintro r rfl
 refine ⟨hg, λ_=>⟨λhd=>key (by rw [show (!slotsOk ⟨t,p,sh⟩ xs)=true from hd];rfl), λhd=>?_⟩⟩
 have h_slotsOk:(!slotsOk ⟨t,p,sh⟩ xs)=false:=hd
 rw [h_slotsOk,cond_false] at key
 rintro r rfl
 refine ⟨hg, λ_=>⟨λhd=>key (by rw [show (!bins ⟨t,p,sh⟩ xs)=true from hd];rfl), λhd=>?_⟩⟩
 have h_bins:(!bins ⟨t,p,sh⟩ xs)=false:=hd
 rw [h_bins,cond_false] at key
 rintro r rfl
 refine ⟨hg, λ_=>⟨λhd=>key (by rw [show (!racks ⟨t,p,sh⟩ xs)=true from hd];rfl), λhd=>?_⟩⟩
 have h_racks:(!racks ⟨t,p,sh⟩ xs)=false:=hd
 rw [h_racks,cond_false] at key
 rintro r rfl
 refine ⟨hg, λ_=>⟨λhd=>key (by rw [show (!loose ⟨t,p,sh⟩ xs)=true from hd];rfl), λhd=>?_⟩⟩
 have h_loose:(!loose ⟨t,p,sh⟩ xs)=false:=hd
 rw [h_loose,cond_false] at key
 rintro r rfl
 refine ⟨hg, λ_=>⟨λhd=>key (by rw [show (!counts ⟨t,p,sh⟩ xs)=true from hd];rfl), λhd=>?_⟩⟩
 have h_counts:(!counts ⟨t,p,sh⟩ xs)=false:=hd
 rw [h_counts,cond_false] at key
 rintro r rfl
 refine ⟨hg, λ_=>⟨λhd=>key (by rw [show (!rootsOk ⟨t,p,sh⟩ xs)=true from hd];rfl), λhd=>?_⟩⟩
 have h_rootsOk:(!rootsOk ⟨t,p,sh⟩ xs)=false:=hd
 rw [h_rootsOk,cond_false] at key
 exact key rfl
theorem r12_Check_ok:EOk 52 e_r12_Check:=
 ent_w0 Dg T_x_roots_ok (I:=[2999998]) Tryz.func52 mix (B:=bodyOf Tryz.f52) (by kernel_rfl) rfl (by kernel_rfl) 400
  λ_ t p sh xs hb hp=>⟨_, λ_ _ _=>by kernel_rfl,r12_Check_begin t p sh xs (hp _ (.head _)) (hb.2.1)⟩
def T_r12_Check:Tb:=(52,e_r12_Check)::T_x_roots
theorem T_r12_Check_ok:TOk T_r12_Check:=tc_ r12_Check_ok T_x_roots_ok
def r12_Sound (t p sh:Int) (xs:LI):Bool:=soundA ⟨t,p,sh⟩ xs
abbrev c_r12_Sound:Ct Sg:=⟨none,false,[.agg [.i .i64, .i .i64, .i .i64], .ro [some .u32]], .b⟩
def e_r12_Sound:Entry Sg:=entC c_r12_Sound r12_Sound (λt p sh xs=>[bdAll xs])
def r12_Sound_w (t p sh:Int) (xs:LI) (R_:Bool→Prop):Prop:=(∀r1:Int×Bool,r1=(r12_Check t p sh xs)→(aw_ (bdAll xs) (R_ r1.2)))
theorem r12_Sound_begin (t p sh:Int) (xs:LI) (hp0:bdAll xs) (hl0:xs.length≤9223372036854775807):r12_Sound_w t p sh xs (λr__=>r__=(r12_Sound t p sh xs)):=by
 unfold r12_Sound_w
 rintro r rfl
 exact ⟨hp0, λ_=>rfl⟩
theorem r12_Sound_ok:EOk 24 e_r12_Sound:=
 ent_w0 Dg T_r12_Check_ok (I:=[2999998]) Tryz.func24 mix (B:=bodyOf Tryz.f24) (by kernel_rfl) rfl (by kernel_rfl) 400
  λ_ t p sh xs hb hp=>⟨_, λ_ _ _=>by kernel_rfl,r12_Sound_begin t p sh xs (hp _ (.head _)) (hb.2.1)⟩
def T_r12_Sound:Tb:=(24,e_r12_Sound)::T_r12_Check
theorem T_r12_Sound_ok:TOk T_r12_Sound:=tc_ r12_Sound_ok T_r12_Check_ok
def r12_Few (t p sh:Int):Bool:=decide (p≤64)
def r12_Few_v (t p sh:Int):Bool:=decide (p≤64)
abbrev c_r12_Few:Ct Sg:=⟨none,false,[.agg [.i .i64, .i .i64, .i .i64]], .b⟩
def e_r12_Few:Entry Sg:=entC c_r12_Few r12_Few (λ_ _ _=>[])
theorem r12_Few_eq (t p sh:Int):r12_Few_v t p sh=(r12_Few t p sh):=by
 rfl
theorem r12_Few_ok:EOk 21 e_r12_Few:=
 ent_ok Dg T_r12_Sound_ok (I:=[]) Tryz.func21 mix (B:=bodyOf Tryz.f21) (by kernel_rfl) rfl (by kernel_rfl) 400
  λ_ t p sh hb hp=>⟨(r12_Few_v t p sh), .t, λ_ _ _=>by kernel_rfl,trivial,r12_Few_eq t p sh⟩
def T_r12_Few:Tb:=(21,e_r12_Few)::T_r12_Sound
theorem T_r12_Few_ok:TOk T_r12_Few:=tc_ r12_Few_ok T_r12_Sound_ok
def l14_Eight:Int×Int×Int×LI:=(1,8,10,[8,0,0,0,0,1,0,0,0,0,0,0,0,0,0,0,0,0,0,0,0,0,0,0,0,0,0,0,0,0,0,0,0,0,129,0,0,0,0,0,0,0,0,0,0,0,0,0,0,0,0,0,0,0,0,0,0,0,0,0,0,0,0,0,0,0,0,0,0,0,0,0,0,0,0,0,0,1,0,0,0,0])
abbrev c_l14_Eight:Ct Sg:=⟨none,false,[], .tup [.agg [.i .i64, .i .i64, .i .i64], .new 65 [some .u32]]⟩
def e_l14_Eight:Entry Sg:=entC c_l14_Eight l14_Eight ([])
theorem l14_Eight_ok:EOk 22 e_l14_Eight:=
 ent_ok Dg T_r12_Few_ok (I:=[]) Tryz.func22 mix (B:=bodyOf Tryz.f22) (by kernel_rfl) rfl (by kernel_rfl) 400
  λ_ hb hp=>⟨l14_Eight,(.need ((0:Int)≤82∧(82:Int)≤82∧(328:Int)≤140737488355328) (.need ((0:Int)≤0∧(0:Int)<82) (.need ((0:Int)≤5∧(5:Int)<82) (.need ((0:Int)≤34∧(34:Int)<82) (.need ((0:Int)≤77∧(77:Int)<82) .t))))), λ_ _ _=>by kernel_rfl,⟨(by first|omega|decide), λz1=>⟨(by first|omega|decide), λz3=>⟨(by first|omega|decide), λz4=>⟨(by first|omega|decide), λz5=>⟨(by first|omega|decide), λz6=>trivial⟩⟩⟩⟩⟩,rfl⟩
def T_l14_Eight:Tb:=(22,e_l14_Eight)::T_r12_Few
theorem T_l14_Eight_ok:TOk T_l14_Eight:=tc_ l14_Eight_ok T_r12_Few_ok
end
section
open Go.Sl
theorem sound_good {c:Cf} {xs:LI} (h:soundA c xs=true) (hb:bdAll xs):AGood c xs:=by
 rw [soundA_eq] at h
 unfold soundB at h
 simp only [iE,beq_iff_eq] at h
 exact {ok:=h.1.1.1.1.1.1.1.1.1.1,len:=h.1.1.1.1.1.1.1.1.1.2,bd:=hb}
theorem wcel {xs:LI} (h:bdAll xs) (k:Int):iB.wrap (xs.getD k.toNat 0)=cel xs k:=by
 have:=rootA_eq xs k h
 unfold bd32 at this
 exact w64 (n:=cel xs k) (by omega)
theorem good_long {c:Cf} {xs:LI} (h:AGood c xs):30≤(xs.length:Int)∧xs.length≤1000000:=by
 have h1:=Cf.ok_iff.1 h.ok
 have h2:=h.len
 rw [show c.cells=30+4*c.t+6*c.p by unfold Cf.cells;rw [h.ok];rfl] at h2
 omega
def ML (t p sh:Int) (xs:LI):LI×LI:=bif soundA ⟨t,p,sh⟩ xs then ((blocksL ⟨t,p,sh⟩ xs).map (·.a),(blocksL ⟨t,p,sh⟩ xs).map (·.s)) else ([],[])
abbrev Po:Ct Sg:=⟨none,false,[.agg [.i .i64, .i .i64, .i .i64], .ro [some .u32]], .new 51 [some .i64,some .i64]⟩
def Om:Entry Sg:=entC Po ML (λt p sh xs=>[bdAll xs])
def Oo (t p sh:Int) (xs:LI) (R_:LI×LI→Prop):Prop:=(∀r1:Bool,r1=(r12_Sound t p sh xs)→(aw_ (bdAll xs) (bw_ (!r1) (R_ (([],[]))) (∀r5:LI×LI,r5=(x_blocks t p sh xs)→(aw_ (AGood {t:=t,p:=p,s:=sh} xs) (R_ ((r5.1,r5.2))))))))
theorem O7 (t p sh:Int) (xs:LI) (hp0:bdAll xs) (hl0:xs.length≤9223372036854775807):Oo t p sh xs (λr__=>r__=(ML t p sh xs)):=by
 unfold Oo
 have hS:soundA ⟨t,p,sh⟩ xs=r12_Sound t p sh xs:=rfl
 rintro r rfl
 refine ⟨hp0, λ_=>⟨λh=>?_, λh=>?_⟩⟩
 ·show _=ML t p sh xs
  rw [←hS] at h
  rw [ML,(jO _).mp h];rfl
 ·rintro r rfl
  rw [←hS] at h
  have hs:=(jY _).mp h
  refine ⟨sound_good hs hp0, λ_=>?_⟩
  show _=ML t p sh xs
  rw [ML,hs];rfl
theorem OU:EOk 25 Om:=
 ent_w0 Dg T_l14_Eight_ok (I:=[2999998]) Tryz.func25 mix (B:=bodyOf Tryz.f25) (by kernel_rfl) rfl (by kernel_rfl) 400
  λ_ t p sh xs hb hp=>⟨_, λ_ _ _=>by kernel_rfl,O7 t p sh xs (hp _ (.head _)) (hb.2.1)⟩
def Oq:Tb:=(25,Om)::T_l14_Eight
theorem NE:TOk Oq:=tc_ OU T_l14_Eight_ok
def MI (t p sh:Int) (xs:LI):LI×LI×Int×Int×Int×Int×Int×Int×Int×Int×Bool:=stateA ⟨t,p,sh⟩ xs
abbrev OV:Ct Sg:=⟨none,false,[.agg [.i .i64, .i .i64, .i .i64], .ro [some .u32]], .tup [.agg [.new 51 [some .i64,some .i64], .i .i64, .i .i64, .i .i64, .i .i64, .i .i64, .i .i64, .i .i64, .i .i64], .b]⟩
def NU:Entry Sg:=entC OV MI (λt p sh xs=>[bdAll xs])
def NV (t p sh:Int) (xs:LI) (R_:LI×LI×Int×Int×Int×Int×Int×Int×Int×Int×Bool→Prop):Prop:=(∀r2:Bool,r2=(r12_Sound t p sh xs)→(aw_ (bdAll xs) (bw_ (!r2) (R_ (([],[],0,0,0,0,0,0,0,0,false))) (∀r5:LI×LI,r5=(ML t p sh xs)→(aw_ (bdAll xs) (∀r9:Int,r9=(22)→(aw_ (0≤r9∧r9<(↑(iF xs):Int)) (aw_ ((0:Int)≤0∧(0:Int)<8) (∀r12:Int,r12=(23)→(aw_ (0≤r12∧r12<(↑(iF xs):Int)) (aw_ ((0:Int)≤1∧(1:Int)<8) (∀r15:Int,r15=(24)→(aw_ (0≤r15∧r15<(↑(iF xs):Int)) (aw_ ((0:Int)≤2∧(2:Int)<8) (∀r18:Int,r18=(25)→(aw_ (0≤r18∧r18<(↑(iF xs):Int)) (aw_ ((0:Int)≤3∧(3:Int)<8) (∀r21:Int,r21=(26)→(aw_ (0≤r21∧r21<(↑(iF xs):Int)) (aw_ ((0:Int)≤4∧(4:Int)<8) (∀r24:Int,r24=(27)→(aw_ (0≤r24∧r24<(↑(iF xs):Int)) (aw_ ((0:Int)≤5∧(5:Int)<8) (∀r27:Int,r27=(28)→(aw_ (0≤r27∧r27<(↑(iF xs):Int)) (aw_ ((0:Int)≤6∧(6:Int)<8) (∀r30:Int,r30=(29)→(aw_ (0≤r30∧r30<(↑(iF xs):Int)) (aw_ ((0:Int)≤7∧(7:Int)<8) (R_ ((r5.1,r5.2,iA iB (iI xs (iL r9) 0),iA iB (iI xs (iL r12) 0),iA iB (iI xs (iL r15) 0),iA iB (iI xs (iL r18) 0),iA iB (iI xs (iL r21) 0),iA iB (iI xs (iL r24) 0),iA iB (iI xs (iL r27) 0),iA iB (iI xs (iL r30) 0),true))))))))))))))))))))))))))))))))
theorem Ot (t p sh:Int) (xs:LI) (hp0:bdAll xs) (hl0:xs.length≤9223372036854775807):NV t p sh xs (λr__=>r__=(MI t p sh xs)):=by
 unfold NV
 have hS:soundA ⟨t,p,sh⟩ xs=r12_Sound t p sh xs:=rfl
 rintro r rfl
 refine ⟨hp0, λ_=>⟨λh=>?_, λh=>?_⟩⟩
 ·show _=MI t p sh xs
  rw [←hS] at h
  rw [MI,stateA,(jO _).mp h];rfl
 ·rintro r rfl
  rw [←hS] at h
  have hs:=(jY _).mp h
  have hl:=good_long (sound_good hs hp0)
  refine ⟨hp0, λ_=>?_⟩
  repeat' first
   |(refine λr hr=>?_;subst hr)
   |refine ⟨(by omega), λ_=>?_⟩
   |fail
  show _=MI t p sh xs
  simp only [wcel hp0]
  rw [MI,stateA,hs,cond_true,ML,hs,cond_true];rfl
theorem OH:EOk 7 NU:=
 ent_w0 Dg NE (I:=[2999999,2999998]) Tryz.func7 mix (B:=bodyOf Tryz.f7) (by kernel_rfl) rfl (by kernel_rfl) 400
  λ_ t p sh xs hb hp=>⟨_, λ_ _ _=>by kernel_rfl,Ot t p sh xs (hp _ (.head _)) (hb.2.1)⟩
def NW:Tb:=(7,NU)::Oq
theorem Nv:TOk NW:=tc_ OH NE
def Me (xa xz:LI) (u0 u1 u2 u3 u4 u5 u6 u7:Int) (ya yz:LI) (v0 v1 v2 v3 v4 v5 v6 v7:Int):Bool:=decide (xa=ya∧xz=yz)&&(u0==v0&&(u1==v1&&(u2==v2&&(u3==v3&&(u4==v4&&(u5==v5&&(u6==v6&&(u7==v7&&true))))))))
abbrev Pq:Ct Sg:=⟨none,false,[.agg [.ro [some .i64,some .i64], .i .i64, .i .i64, .i .i64, .i .i64, .i .i64, .i .i64, .i .i64, .i .i64], .agg [.ro [some .i64,some .i64], .i .i64, .i .i64, .i .i64, .i .i64, .i .i64, .i .i64, .i .i64, .i .i64]], .b⟩
def Ou:Entry Sg:=entC Pq Me (λxa xz u0 u1 u2 u3 u4 u5 u6 u7 ya yz v0 v1 v2 v3 v4 v5 v6 v7=>[xa.length=xz.length,ya.length=yz.length])
def Ov (xa xz:LI) (u0 u1 u2 u3 u4 u5 u6 u7:Int) (ya yz:LI) (v0 v1 v2 v3 v4 v5 v6 v7:Int) (Q0:Int→Prop) (R_:Bool→Prop):Prop:=(bw_ ((↑(iF xa):Int) !=(↑(iF ya):Int)||!(u0==v0&&(u1==v1&&(u2==v2&&(u3==v3&&(u4==v4&&(u5==v5&&(u6==v6&&(u7==v7&&true))))))))) (R_ (false)) (Q0 (0)))
def NY (xa xz:LI) (u0 u1 u2 u3 u4 u5 u6 u7:Int) (ya yz:LI) (v0 v1 v2 v3 v4 v5 v6 v7 i:Int) (Q0:Int→Prop) (R_:Bool→Prop):Prop:=(bw_ (decide (i<(↑(iF xa):Int))) (aw_ (0≤i∧i<(↑(iF xa):Int)) (aw_ (0≤i∧i<(↑(iF ya):Int)) (bw_ (!(iI xa (iL i) 0==iI ya (iL i) 0&&(iI xz (iL i) 0==iI yz (iL i) 0&&true))) (R_ (false)) (Q0 (iA iB (i+1)))))) (R_ (true)))
def MH (xa xz:LI) (u0 u1 u2 u3 u4 u5 u6 u7:Int) (ya yz:LI) (v0 v1 v2 v3 v4 v5 v6 v7 i:Int) (r_:Bool):Prop:=0≤i∧i≤xa.length∧xa.length=ya.length∧(∀j:Nat,j<i.toNat→xa.getD j 0=ya.getD j 0∧xz.getD j 0=yz.getD j 0)∧r_=decide (xa=ya∧xz=yz)
abbrev Nq (p0:Addr) (xa xz:LI) (u0 u1 u2 u3 u4 u5 u6 u7:Int) (ya yz:LI) (v0 v1 v2 v3 v4 v5 v6 v7:Int):Hd Sg:=⟨none,[0,1,0,1,1],[.blk 0, .code [1,1,1]],[5,2,3],[.i .i64, .box 33 [.roc [.ints .i64 (xa), .ints .i64 (xz)], .ic .i64 (u0), .ic .i64 (u1), .ic .i64 (u2), .ic .i64 (u3), .ic .i64 (u4), .ic .i64 (u5), .ic .i64 (u6), .ic .i64 (u7)], .box 33 [.roc [.ints .i64 (ya), .ints .i64 (yz)], .ic .i64 (v0), .ic .i64 (v1), .ic .i64 (v2), .ic .i64 (v3), .ic .i64 (v4), .ic .i64 (v5), .ic .i64 (v6), .ic .i64 (v7)]]⟩
theorem O8 (xa xz:LI) (u0 u1 u2 u3 u4 u5 u6 u7:Int) (ya yz:LI) (v0 v1 v2 v3 v4 v5 v6 v7:Int) (hp0:xa.length=xz.length) (hp1:ya.length=yz.length) (hl0:xa.length≤9223372036854775807) (hl1:ya.length≤9223372036854775807):Ov xa xz u0 u1 u2 u3 u4 u5 u6 u7 ya yz v0 v1 v2 v3 v4 v5 v6 v7 (λi'=>MH xa xz u0 u1 u2 u3 u4 u5 u6 u7 ya yz v0 v1 v2 v3 v4 v5 v6 v7 i' (Me xa xz u0 u1 u2 u3 u4 u5 u6 u7 ya yz v0 v1 v2 v3 v4 v5 v6 v7)) (λr__=>r__=(Me xa xz u0 u1 u2 u3 u4 u5 u6 u7 ya yz v0 v1 v2 v3 v4 v5 v6 v7)):=by
 unfold Ov
 try unfold MH
 refine ⟨λh=>?_, λh=>?_⟩
 ·show false=Me xa xz u0 u1 u2 u3 u4 u5 u6 u7 ya yz v0 v1 v2 v3 v4 v5 v6 v7
  revert h
  unfold Me
  generalize (u0==v0&&(u1==v1&&(u2==v2&&(u3==v3&&(u4==v4&&(u5==v5&&(u6==v6&&(u7==v7&&true))))))))=e
  intro h
  cases e with
  |false=>simp
  |true=>
   have hne:xa≠ya:= λe2=>by rw [e2] at h;simp at h
   simp [hne]
 ·have hh:xa.length=ya.length∧(u0==v0&&(u1==v1&&(u2==v2&&(u3==v3&&(u4==v4&&(u5==v5&&(u6==v6&&(u7==v7&&true))))))))=true:=by
   simp only [jH,jY,bne_eq_false_iff_eq] at h
   exact ⟨by have:=h.1;omega,h.2⟩
  refine ⟨by omega,by omega,hh.1, λj hj=>absurd hj (mX j),?_⟩
  unfold Me
  rw [hh.2,qJ]
theorem O9 (xa xz:LI) (u0 u1 u2 u3 u4 u5 u6 u7:Int) (ya yz:LI) (v0 v1 v2 v3 v4 v5 v6 v7:Int) (hp0:xa.length=xz.length) (hp1:ya.length=yz.length) (hl0:xa.length≤9223372036854775807) (hl1:ya.length≤9223372036854775807) (i:Int) {r_:Bool} (hI:MH xa xz u0 u1 u2 u3 u4 u5 u6 u7 ya yz v0 v1 v2 v3 v4 v5 v6 v7 i r_):NY xa xz u0 u1 u2 u3 u4 u5 u6 u7 ya yz v0 v1 v2 v3 v4 v5 v6 v7 i (λi'=>MH xa xz u0 u1 u2 u3 u4 u5 u6 u7 ya yz v0 v1 v2 v3 v4 v5 v6 v7 i' r_∧lx ((xa.length-i').toNat,0,0) ((xa.length-i).toNat,0,0)) (λr__=>r__=r_):=by
 unfold MH at hI
 unfold NY
 try unfold MH
 obtain ⟨h0,h1,h2,h3,h4⟩:=hI
 refine ⟨λh=>?_, λh=>?_⟩
 ·simp only [decide_eq_true_eq] at h
  refine ⟨⟨h0,h⟩, λ_=>⟨⟨h0,by omega⟩, λ_=>⟨λhn=>?_, λhn=>?_⟩⟩⟩
  ·show false=r_
   rw [h4]
   symm
   simp only [decide_eq_false_iff_not]
   rintro ⟨rfl,rfl⟩
   simp at hn
  ·rw [w64 (n:=i+1) (by omega)]
   refine ⟨⟨by omega,by omega,h2, λj hj=>?_,h4⟩,lxo_⟩
   by_cases hji:j=i.toNat
   ·subst hji;simpa using hn
   ·exact h3 j (by omega)
 ·simp only [decide_eq_false_iff_not] at h
  show true=r_
  rw [h4]
  symm
  simp only [decide_eq_true_eq]
  exact ⟨ext_getD h2 λj hj=>(h3 j (by omega)).1,ext_getD (by omega) λj hj=>(h3 j (by omega)).2⟩
theorem OW:EOk 19 Ou:=
 ent_wp Dg Nv (I:=[411000000005,411000000002,411000000003]) Tryz.func19 mix (B:=bodyOf Tryz.f19) (by kernel_rfl) rfl (by kernel_rfl) 400
  λp0 xa xz u0 u1 u2 u3 u4 u5 u6 u7 ya yz v0 v1 v2 v3 v4 v5 v6 v7 hb hp=>have hl0:xa.length≤9223372036854775807:=hb.1.1;have hl1:ya.length≤9223372036854775807:=hb.2.1.1;have hp0:xa.length=xz.length:=hp _ (.head _);have hp1:ya.length=yz.length:=hp _ (.tail _ (.head _));⟨[Nq p0 xa xz u0 u1 u2 u3 u4 u5 u6 u7 ya yz v0 v1 v2 v3 v4 v5 v6 v7], λj=>iI [appC (Hd.kd (Nq p0 xa xz u0 u1 u2 u3 u4 u5 u6 u7 ya yz v0 v1 v2 v3 v4 v5 v6 v7)) (λi'=>MH xa xz u0 u1 u2 u3 u4 u5 u6 u7 ya yz v0 v1 v2 v3 v4 v5 v6 v7 i' (Me xa xz u0 u1 u2 u3 u4 u5 u6 u7 ya yz v0 v1 v2 v3 v4 v5 v6 v7))] j (λ_=>False), λj=>iI [appC (Hd.kd (Nq p0 xa xz u0 u1 u2 u3 u4 u5 u6 u7 ya yz v0 v1 v2 v3 v4 v5 v6 v7)) (λi'=>((xa.length-i').toNat,0,0))] j (λ_=>(0,0,0)),by kernel_rfl,⟨_, λ_ _ _=>by kernel_rfl,O8 xa xz u0 u1 u2 u3 u4 u5 u6 u7 ya yz v0 v1 v2 v3 v4 v5 v6 v7 hp0 hp1 hl0 hl1⟩,⟨λi hI=>⟨_, λ_ _ _=>by kernel_rfl,O9 xa xz u0 u1 u2 u3 u4 u5 u6 u7 ya yz v0 v1 v2 v3 v4 v5 v6 v7 hp0 hp1 hl0 hl1 i hI⟩,trivial⟩⟩
def Ox:Tb:=(19,Ou)::NW
theorem NF:TOk Ox:=tc_ OW Nv
end
section
open Go.Sl
def sp_used (s:VS) (t p h g n:Int):VS:=(let r1:Ty (Ct.RK c_view_Put):=VS.set s (place_Info t p h g) (jZ (info_Put (2:Int) n (0:Int)));(let r3:Ty (Ct.RK c_view_Put):=VS.set r1 (place_Foot t p h (iA iB (iA iB (g+n)-(1:Int)))) (iA iW (iA iB (g+(1:Int))));r3))
def sp_used_out (r_:VS):List Value→Value:= λss=>undef
def sp_used_nw (p_0:Addr) (r_:VS):List (Chunk Sg):=[.obj p_0 (.view (r_))]
def sp_used_rows (r_:VS):List (Mk Sg):=[]
section
variable (s:VS) (t p h g n:Int) (p_0:Addr)
theorem sp_used_calls {E_:Ev} {G_:Hp} {w_:World} (hS:Sat E_ G_ w_ [Dg p_0 ((.view s))]):Calls Tryz.prog 156 #[(.agg #[.pointer (some p_0), .int .i64 t, .int .i64 p, .int .i64 h]),(.int .i64 g),(.int .i64 n)] w_ (Post Dg E_ G_ (sp_used_out (sp_used s t p h g n)) (sp_used_nw p_0 (sp_used s t p h g n)) (sp_used_rows (sp_used s t p h g n))):=
 calls_post Dg NF (I:=[]) Tryz.func156 mix (B:=bodyOf Tryz.f156) (by kernel_rfl) [(.agg #[.pointer (some p_0), .int .i64 t, .int .i64 p, .int .i64 h]),(.int .i64 g),(.int .i64 n)] [.many [.pt 0 .obj, .no, .no, .no], .no, .no] (by kernel_rfl) (objs:=[.obj p_0 (.view s)]) (ros:=[]) (psOk_cons (by simp [pOk,psOk,cOk]) (psOk_cons pOk_no (psOk_cons pOk_no (psOk_nil)))) (by kernel_rfl) (trivial) hS 400
  (t:=Tree.fresh λb=>Tree.bind (VS.set s (place_Info t p h g) (jZ (info_Put (2:Int) n (0:Int)))) λa=>Tree.need (bd32 (jZ (info_Put (2:Int) n (0:Int)))) (Tree.bind (VS.set a (place_Foot t p h (iA iB (iA iB (g+n)-(1:Int)))) (iA iW (iA iB (g+(1:Int))))) λa_1=>Tree.need (bd32 (iA iW (iA iB (g+(1:Int))))) (Tree.ret (Value.tuple {toList:=[]}) pn_ [kQ p_0 (kS (some (Wr.inj wView a_1)) (kS (some (Wr.inj wView a)) (Sg.view s))),kc_ b 160 [(jB (some p_0),po_ 0),(vi_ t,pn_),(vi_ p,pn_),(vi_ h,pn_)]])))
  (by kernel_rfl)
  (λb0_0=> λr1 e1=>⟨by first|exact wu32_bd _|exact VS.get_bd _ _|exact zero_bd|(rw [info_Put_val];exact iVal_bd _ _ _)|(subst_vars;exact VS.get_bd _ _)|omega, λy2=> λr3 e3=>⟨by first|exact wu32_bd _|exact VS.get_bd _ _|exact zero_bd|(rw [info_Put_val];exact iVal_bd _ _ _)|(subst_vars;exact VS.get_bd _ _)|omega, λy4=>RetOk.at (outf:=sp_used_out) (nwf:=sp_used_nw p_0) (rowsf:=sp_used_rows) (r:=r3) (by subst e1;subst e3;first|exact Eq.symm rfl|(simp only [sp_used,cond_true,cond_false];done)|(exfalso;simp_all;done)|decide) ⟨[],[0],(by decide),rfl,rfl,⟨.inl rfl,trivial⟩⟩⟩⟩)
end
def sp_used_e:Entry Sg:= λ
 |[(.agg ⟨[.pointer (some p_0), .int .i64 t, .int .i64 p, .int .i64 h]⟩, .many [.obj (.view s), .none, .none, .none]),(.int .i64 g,_),(.int .i64 n,_)]=>some ⟨(sp_used s t p h g n), λ(r_:VS)=>⟨[],some (.view (r_)),[], λss=>undef, λk_=> .no⟩⟩
 |_=>none
theorem sp_used_ok:EntryOk Dg Tryz.prog 156 sp_used_e:=by
 intro args c r h hr_
 unfold sp_used_e at h
 split at h
 ·injection h with h;subst h;subst hr_
  refine ⟨λK acs _=>pOk_no, λhpre E G w hi hS=>?_⟩
  exact entry_post Dg (by exact rfl) (sp_used_calls _ _ _ _ _ _ _ hS)
 ·cases h
def T_sp_used:List (Nat×Entry Sg):=(156,sp_used_e)::Ox
theorem T_sp_used_ok:TableOk Dg Tryz.prog T_sp_used:=TableOk.cons Dg sp_used_ok NF
def sp_free (s:VS) (t p h g:Int):VS×Int:=(let r1:Ty (Ct.RK c_place_Info):=place_Info t p h g;(let r2:Ty (Ct.RK c_view_Get):=(VS.read s r1,VS.get s r1);(let r3:Ty (Ct.RK c_info_Get):=info_Get r2.2;(bif r3.1 !=(1:Int) then (r2.1,(0:Int)) else (r2.1,r3.2.1)))))
def sp_free_out (r_:VS×Int):List Value→Value:= λss=> .int .i64 (r_.2)
def sp_free_nw (p_0:Addr) (r_:VS×Int):List (Chunk Sg):=[.obj p_0 (.view (r_.1))]
def sp_free_rows (r_:VS×Int):List (Mk Sg):=[]
section
variable (s:VS) (t p h g:Int) (p_0:Addr)
theorem sp_free_calls {E_:Ev} {G_:Hp} {w_:World} (hS:Sat E_ G_ w_ [Dg p_0 ((.view s))]):Calls Tryz.prog 113 #[(.agg #[.pointer (some p_0), .int .i64 t, .int .i64 p, .int .i64 h]),(.int .i64 g)] w_ (Post Dg E_ G_ (sp_free_out (sp_free s t p h g)) (sp_free_nw p_0 (sp_free s t p h g)) (sp_free_rows (sp_free s t p h g))):=
 calls_post Dg T_sp_used_ok (I:=[]) Tryz.func113 mix (B:=bodyOf Tryz.f113) (by kernel_rfl) [(.agg #[.pointer (some p_0), .int .i64 t, .int .i64 p, .int .i64 h]),(.int .i64 g)] [.many [.pt 0 .obj, .no, .no, .no], .no] (by kernel_rfl) (objs:=[.obj p_0 (.view s)]) (ros:=[]) (psOk_cons (by simp [pOk,psOk,cOk]) (psOk_cons pOk_no (psOk_nil))) (by kernel_rfl) (trivial) hS 400
  (t:=Tree.fresh λb=>Tree.two (Tree.bind (place_Info t p h g) λa=>Tree.two (Tree.bind (VS.read s a,VS.get s a) λa=>Tree.two (Tree.bind (info_Get a.2) λa_1=>Tree.fresh λb_1=>Tree.br (a_1.1 !=(1:Int)) (Tree.ret (vi_ (0:Int)) pn_ [kQ p_0 (kS (some (Wr.inj wView a.1)) (Sg.view s)),kc_ b 160 [(jB (some p_0),po_ 0),(vi_ t,pn_),(vi_ p,pn_),(vi_ h,pn_)],kc_ b_1 102 [(vi_ a_1.1,pn_),(vi_ a_1.2.1,pn_),(vi_ a_1.2.2.1,pn_)]]) (Tree.ret (vi_ a_1.2.1) pn_ [kQ p_0 (kS (some (Wr.inj wView a.1)) (Sg.view s)),kc_ b 160 [(jB (some p_0),po_ 0),(vi_ t,pn_),(vi_ p,pn_),(vi_ h,pn_)],kc_ b_1 102 [(vi_ a_1.1,pn_),(vi_ a_1.2.1,pn_),(vi_ a_1.2.2.1,pn_)]])) (Tree.fresh λb_1=>Tree.bind (info_Get a.2) λa_1=>Tree.br (a_1.1 !=(1:Int)) (Tree.ret (vi_ (0:Int)) pn_ [kQ p_0 (kS (some (Wr.inj wView a.1)) (Sg.view s)),kc_ b 160 [(jB (some p_0),po_ 0),(vi_ t,pn_),(vi_ p,pn_),(vi_ h,pn_)],kc_ b_1 102 [(vi_ a_1.1,pn_),(vi_ a_1.2.1,pn_),(vi_ a_1.2.2.1,pn_)]]) (Tree.ret (vi_ a_1.2.1) pn_ [kQ p_0 (kS (some (Wr.inj wView a.1)) (Sg.view s)),kc_ b 160 [(jB (some p_0),po_ 0),(vi_ t,pn_),(vi_ p,pn_),(vi_ h,pn_)],kc_ b_1 102 [(vi_ a_1.1,pn_),(vi_ a_1.2.1,pn_),(vi_ a_1.2.2.1,pn_)]]))) (Tree.fresh λb_1=>Tree.bind (VS.read s a,VS.get s a) λa=>Tree.bind (info_Get a.2) λa_1=>Tree.br (a_1.1 !=(1:Int)) (Tree.ret (vi_ (0:Int)) pn_ [kQ p_0 (kS (some (Wr.inj wView a.1)) (Sg.view s)),kc_ b 160 [(jB (some p_0),po_ 0),(vi_ t,pn_),(vi_ p,pn_),(vi_ h,pn_)],kc_ b_1 102 [(vi_ a_1.1,pn_),(vi_ a_1.2.1,pn_),(vi_ a_1.2.2.1,pn_)]]) (Tree.ret (vi_ a_1.2.1) pn_ [kQ p_0 (kS (some (Wr.inj wView a.1)) (Sg.view s)),kc_ b 160 [(jB (some p_0),po_ 0),(vi_ t,pn_),(vi_ p,pn_),(vi_ h,pn_)],kc_ b_1 102 [(vi_ a_1.1,pn_),(vi_ a_1.2.1,pn_),(vi_ a_1.2.2.1,pn_)]]))) (Tree.fresh λb_1=>Tree.bind (place_Info t p h g) λa=>Tree.bind (VS.read s a,VS.get s a) λa=>Tree.bind (info_Get a.2) λa_1=>Tree.br (a_1.1 !=(1:Int)) (Tree.ret (vi_ (0:Int)) pn_ [kQ p_0 (kS (some (Wr.inj wView a.1)) (Sg.view s)),kc_ b 160 [(jB (some p_0),po_ 0),(vi_ t,pn_),(vi_ p,pn_),(vi_ h,pn_)],kc_ b_1 102 [(vi_ a_1.1,pn_),(vi_ a_1.2.1,pn_),(vi_ a_1.2.2.1,pn_)]]) (Tree.ret (vi_ a_1.2.1) pn_ [kQ p_0 (kS (some (Wr.inj wView a.1)) (Sg.view s)),kc_ b 160 [(jB (some p_0),po_ 0),(vi_ t,pn_),(vi_ p,pn_),(vi_ h,pn_)],kc_ b_1 102 [(vi_ a_1.1,pn_),(vi_ a_1.2.1,pn_),(vi_ a_1.2.2.1,pn_)]])))
  (by kernel_rfl)
  (λb0_0=>⟨λr1 e1=>⟨λr2 e2=>⟨λr3 e3=> λb4_0=>⟨λz5=>RetOk.at (outf:=sp_free_out) (nwf:=sp_free_nw p_0) (rowsf:=sp_free_rows) (r:=(r2.1,(0:Int))) (by subst e1;subst e2;subst e3;first|exact Eq.symm ((cT z5).trans rfl)|(simp only [sp_free,z5,cond_true,cond_false];done)|(exfalso;simp_all;done)|decide) ⟨[],[0],(by decide),rfl,rfl,⟨.inl rfl,trivial⟩⟩, λz5=>RetOk.at (outf:=sp_free_out) (nwf:=sp_free_nw p_0) (rowsf:=sp_free_rows) (r:=(r2.1,r3.2.1)) (by subst e1;subst e2;subst e3;first|exact Eq.symm ((cF z5).trans rfl)|(simp only [sp_free,z5,cond_true,cond_false];done)|(exfalso;simp_all;done)|decide) ⟨[],[0],(by decide),rfl,rfl,⟨.inl rfl,trivial⟩⟩⟩, λb3_0=> λr4 e4=>⟨λz5=>RetOk.at (outf:=sp_free_out) (nwf:=sp_free_nw p_0) (rowsf:=sp_free_rows) (r:=(r2.1,(0:Int))) (by subst e1;subst e2;subst e4;first|exact Eq.symm ((cT z5).trans rfl)|(simp only [sp_free,z5,cond_true,cond_false];done)|(exfalso;simp_all;done)|decide) ⟨[],[0],(by decide),rfl,rfl,⟨.inl rfl,trivial⟩⟩, λz5=>RetOk.at (outf:=sp_free_out) (nwf:=sp_free_nw p_0) (rowsf:=sp_free_rows) (r:=(r2.1,r4.2.1)) (by subst e1;subst e2;subst e4;first|exact Eq.symm ((cF z5).trans rfl)|(simp only [sp_free,z5,cond_true,cond_false];done)|(exfalso;simp_all;done)|decide) ⟨[],[0],(by decide),rfl,rfl,⟨.inl rfl,trivial⟩⟩⟩⟩, λb2_0=> λr3 e3=> λr4 e4=>⟨λz5=>RetOk.at (outf:=sp_free_out) (nwf:=sp_free_nw p_0) (rowsf:=sp_free_rows) (r:=(r3.1,(0:Int))) (by subst e1;subst e3;subst e4;first|exact Eq.symm ((cT z5).trans rfl)|(simp only [sp_free,z5,cond_true,cond_false];done)|(exfalso;simp_all;done)|decide) ⟨[],[0],(by decide),rfl,rfl,⟨.inl rfl,trivial⟩⟩, λz5=>RetOk.at (outf:=sp_free_out) (nwf:=sp_free_nw p_0) (rowsf:=sp_free_rows) (r:=(r3.1,r4.2.1)) (by subst e1;subst e3;subst e4;first|exact Eq.symm ((cF z5).trans rfl)|(simp only [sp_free,z5,cond_true,cond_false];done)|(exfalso;simp_all;done)|decide) ⟨[],[0],(by decide),rfl,rfl,⟨.inl rfl,trivial⟩⟩⟩⟩, λb1_0=> λr2 e2=> λr3 e3=> λr4 e4=>⟨λz5=>RetOk.at (outf:=sp_free_out) (nwf:=sp_free_nw p_0) (rowsf:=sp_free_rows) (r:=(r3.1,(0:Int))) (by subst e2;subst e3;subst e4;first|exact Eq.symm ((cT z5).trans rfl)|(simp only [sp_free,z5,cond_true,cond_false];done)|(exfalso;simp_all;done)|decide) ⟨[],[0],(by decide),rfl,rfl,⟨.inl rfl,trivial⟩⟩, λz5=>RetOk.at (outf:=sp_free_out) (nwf:=sp_free_nw p_0) (rowsf:=sp_free_rows) (r:=(r3.1,r4.2.1)) (by subst e2;subst e3;subst e4;first|exact Eq.symm ((cF z5).trans rfl)|(simp only [sp_free,z5,cond_true,cond_false];done)|(exfalso;simp_all;done)|decide) ⟨[],[0],(by decide),rfl,rfl,⟨.inl rfl,trivial⟩⟩⟩⟩)
end
def sp_free_e:Entry Sg:= λ
 |[(.agg ⟨[.pointer (some p_0), .int .i64 t, .int .i64 p, .int .i64 h]⟩, .many [.obj (.view s), .none, .none, .none]),(.int .i64 g,_)]=>some ⟨(sp_free s t p h g), λ(r_:VS×Int)=>⟨[],some (.view (r_.1)),[], λss=> .int .i64 (r_.2), λk_=> .no⟩⟩
 |_=>none
theorem sp_free_ok:EntryOk Dg Tryz.prog 113 sp_free_e:=by
 intro args c r h hr_
 unfold sp_free_e at h
 split at h
 ·injection h with h;subst h;subst hr_
  refine ⟨λK acs _=>pOk_no, λhpre E G w hi hS=>?_⟩
  exact entry_post Dg (by exact rfl) (sp_free_calls _ _ _ _ _ _ hS)
 ·cases h
def T_sp_free:List (Nat×Entry Sg):=(113,sp_free_e)::T_sp_used
theorem T_sp_free_ok:TableOk Dg Tryz.prog T_sp_free:=TableOk.cons Dg sp_free_ok T_sp_used_ok
def sp_count (s:VS) (t p h n:Int):VS:=(let r1:Ty (Ct.RK c_view_Get):=(VS.read s (0:Int),VS.get s (0:Int));(let r2:Ty (Ct.RK c_view_Put):=VS.set r1.1 (0:Int) (iA iW (r1.2+iA iW n));r2))
def sp_count_out (r_:VS):List Value→Value:= λss=>undef
def sp_count_nw (p_0:Addr) (r_:VS):List (Chunk Sg):=[.obj p_0 (.view (r_))]
def sp_count_rows (r_:VS):List (Mk Sg):=[]
section
variable (s:VS) (t p h n:Int) (p_0:Addr)
theorem sp_count_calls {E_:Ev} {G_:Hp} {w_:World} (hS:Sat E_ G_ w_ [Dg p_0 ((.view s))]):Calls Tryz.prog 116 #[(.agg #[.pointer (some p_0), .int .i64 t, .int .i64 p, .int .i64 h]),(.int .i64 n)] w_ (Post Dg E_ G_ (sp_count_out (sp_count s t p h n)) (sp_count_nw p_0 (sp_count s t p h n)) (sp_count_rows (sp_count s t p h n))):=
 calls_post Dg T_sp_free_ok (I:=[]) Tryz.func116 mix (B:=bodyOf Tryz.f116) (by kernel_rfl) [(.agg #[.pointer (some p_0), .int .i64 t, .int .i64 p, .int .i64 h]),(.int .i64 n)] [.many [.pt 0 .obj, .no, .no, .no], .no] (by kernel_rfl) (objs:=[.obj p_0 (.view s)]) (ros:=[]) (psOk_cons (by simp [pOk,psOk,cOk]) (psOk_cons pOk_no (psOk_nil))) (by kernel_rfl) (trivial) hS 400
  (t:=Tree.fresh λb=>Tree.bind (VS.read s (0:Int),VS.get s (0:Int)) λa=>Tree.bind (VS.set a.1 (0:Int) (iA iW (a.2+iA iW n))) λa_1=>Tree.need (bd32 (iA iW (a.2+iA iW n))) (Tree.ret (Value.tuple {toList:=[]}) pn_ [kQ p_0 (kS (some (Wr.inj wView a_1)) (kS (some (Wr.inj wView a.1)) (Sg.view s))),kc_ b 160 [(jB (some p_0),po_ 0),(vi_ t,pn_),(vi_ p,pn_),(vi_ h,pn_)]]))
  (by kernel_rfl)
  (λb0_0=> λr1 e1=> λr2 e2=>⟨by first|exact wu32_bd _|exact VS.get_bd _ _|exact zero_bd|(rw [info_Put_val];exact iVal_bd _ _ _)|(subst_vars;exact VS.get_bd _ _)|omega, λy3=>RetOk.at (outf:=sp_count_out) (nwf:=sp_count_nw p_0) (rowsf:=sp_count_rows) (r:=r2) (by subst e1;subst e2;first|exact Eq.symm rfl|(simp only [sp_count,cond_true,cond_false];done)|(exfalso;simp_all;done)|decide) ⟨[],[0],(by decide),rfl,rfl,⟨.inl rfl,trivial⟩⟩⟩)
end
def sp_count_e:Entry Sg:= λ
 |[(.agg ⟨[.pointer (some p_0), .int .i64 t, .int .i64 p, .int .i64 h]⟩, .many [.obj (.view s), .none, .none, .none]),(.int .i64 n,_)]=>some ⟨(sp_count s t p h n), λ(r_:VS)=>⟨[],some (.view (r_)),[], λss=>undef, λk_=> .no⟩⟩
 |_=>none
theorem sp_count_ok:EntryOk Dg Tryz.prog 116 sp_count_e:=by
 intro args c r h hr_
 unfold sp_count_e at h
 split at h
 ·injection h with h;subst h;subst hr_
  refine ⟨λK acs _=>pOk_no, λhpre E G w hi hS=>?_⟩
  exact entry_post Dg (by exact rfl) (sp_count_calls _ _ _ _ _ _ hS)
 ·cases h
def T_sp_count:List (Nat×Entry Sg):=(116,sp_count_e)::T_sp_free
theorem T_sp_count_ok:TableOk Dg Tryz.prog T_sp_count:=TableOk.cons Dg sp_count_ok T_sp_free_ok
def sp_join (s:VS) (t p h g b:Int):VS×Int:=(let r1:Ty (Ct.RK c_bin_Drop):=bin_Drop s t p h g;(let r2:Ty (Ct.RK c_view_Put):=VS.set r1.1 (place_Info t p h b) (0:Int);(let r4:Ty (Ct.RK c_view_Put):=VS.set r2 (place_Foot t p h (iA iB (b-(1:Int)))) (0:Int);(r4,r1.2))))
def sp_join_out (r_:VS×Int):List Value→Value:= λss=> .int .i64 (r_.2)
def sp_join_nw (p_0:Addr) (r_:VS×Int):List (Chunk Sg):=[.obj p_0 (.view (r_.1))]
def sp_join_rows (r_:VS×Int):List (Mk Sg):=[]
section
variable (s:VS) (t p h g b:Int) (p_0:Addr)
theorem sp_join_calls {E_:Ev} {G_:Hp} {w_:World} (hS:Sat E_ G_ w_ [Dg p_0 ((.view s))]):Calls Tryz.prog 114 #[(.agg #[.pointer (some p_0), .int .i64 t, .int .i64 p, .int .i64 h]),(.int .i64 g),(.int .i64 b)] w_ (Post Dg E_ G_ (sp_join_out (sp_join s t p h g b)) (sp_join_nw p_0 (sp_join s t p h g b)) (sp_join_rows (sp_join s t p h g b))):=
 calls_post Dg T_sp_count_ok (I:=[]) Tryz.func114 mix (B:=bodyOf Tryz.f114) (by kernel_rfl) [(.agg #[.pointer (some p_0), .int .i64 t, .int .i64 p, .int .i64 h]),(.int .i64 g),(.int .i64 b)] [.many [.pt 0 .obj, .no, .no, .no], .no, .no] (by kernel_rfl) (objs:=[.obj p_0 (.view s)]) (ros:=[]) (psOk_cons (by simp [pOk,psOk,cOk]) (psOk_cons pOk_no (psOk_cons pOk_no (psOk_nil)))) (by kernel_rfl) (trivial) hS 400
  (t:=Tree.fresh λb_1=>Tree.bind (bin_Drop s t p h g) λa=>Tree.bind (VS.set a.1 (place_Info t p h b) (0:Int)) λa_1=>Tree.need (bd32 (0:Int)) (Tree.bind (VS.set a_1 (place_Foot t p h (iA iB (b-(1:Int)))) (0:Int)) λa_2=>Tree.need (bd32 (0:Int)) (Tree.ret (vi_ a.2) pn_ [kQ p_0 (kS (some (Wr.inj wView a_2)) (kS (some (Wr.inj wView a_1)) (kS (some (Wr.inj wView a.1)) (Sg.view s)))),kc_ b_1 160 [(jB (some p_0),po_ 0),(vi_ t,pn_),(vi_ p,pn_),(vi_ h,pn_)]])))
  (by kernel_rfl)
  (λb0_0=> λr1 e1=> λr2 e2=>⟨by first|exact wu32_bd _|exact VS.get_bd _ _|exact zero_bd|(rw [info_Put_val];exact iVal_bd _ _ _)|(subst_vars;exact VS.get_bd _ _)|omega, λy3=> λr4 e4=>⟨by first|exact wu32_bd _|exact VS.get_bd _ _|exact zero_bd|(rw [info_Put_val];exact iVal_bd _ _ _)|(subst_vars;exact VS.get_bd _ _)|omega, λy5=>RetOk.at (outf:=sp_join_out) (nwf:=sp_join_nw p_0) (rowsf:=sp_join_rows) (r:=(r4,r1.2)) (by subst e1;subst e2;subst e4;first|exact Eq.symm rfl|(simp only [sp_join,cond_true,cond_false];done)|(exfalso;simp_all;done)|decide) ⟨[],[0],(by decide),rfl,rfl,⟨.inl rfl,trivial⟩⟩⟩⟩)
end
def sp_join_e:Entry Sg:= λ
 |[(.agg ⟨[.pointer (some p_0), .int .i64 t, .int .i64 p, .int .i64 h]⟩, .many [.obj (.view s), .none, .none, .none]),(.int .i64 g,_),(.int .i64 b,_)]=>some ⟨(sp_join s t p h g b), λ(r_:VS×Int)=>⟨[],some (.view (r_.1)),[], λss=> .int .i64 (r_.2), λk_=> .no⟩⟩
 |_=>none
theorem sp_join_ok:EntryOk Dg Tryz.prog 114 sp_join_e:=by
 intro args c r h hr_
 unfold sp_join_e at h
 split at h
 ·injection h with h;subst h;subst hr_
  refine ⟨λK acs _=>pOk_no, λhpre E G w hi hS=>?_⟩
  exact entry_post Dg (by exact rfl) (sp_join_calls _ _ _ _ _ _ _ hS)
 ·cases h
def T_sp_join:List (Nat×Entry Sg):=(114,sp_join_e)::T_sp_count
theorem T_sp_join_ok:TableOk Dg Tryz.prog T_sp_join:=TableOk.cons Dg sp_join_ok T_sp_count_ok
def sp_ahead (s:VS) (t p h g:Int):VS×Int:=(bif g==(0:Int) then (s,(-1:Int)) else (let r2:Ty (Ct.RK c_view_Get):=(VS.read s (place_Foot t p h (iA iB (g-(1:Int)))),VS.get s (place_Foot t p h (iA iB (g-(1:Int)))));(r2.1,iA iB (iA iB r2.2-(1:Int)))))
def sp_ahead_out (r_:VS×Int):List Value→Value:= λss=> .int .i64 (r_.2)
def sp_ahead_nw (p_0:Addr) (r_:VS×Int):List (Chunk Sg):=[.obj p_0 (.view (r_.1))]
def sp_ahead_rows (r_:VS×Int):List (Mk Sg):=[]
section
variable (s:VS) (t p h g:Int) (p_0:Addr)
theorem sp_ahead_calls {E_:Ev} {G_:Hp} {w_:World} (hS:Sat E_ G_ w_ [Dg p_0 ((.view s))]):Calls Tryz.prog 112 #[(.agg #[.pointer (some p_0), .int .i64 t, .int .i64 p, .int .i64 h]),(.int .i64 g)] w_ (Post Dg E_ G_ (sp_ahead_out (sp_ahead s t p h g)) (sp_ahead_nw p_0 (sp_ahead s t p h g)) (sp_ahead_rows (sp_ahead s t p h g))):=
 calls_post Dg T_sp_join_ok (I:=[]) Tryz.func112 mix (B:=bodyOf Tryz.f112) (by kernel_rfl) [(.agg #[.pointer (some p_0), .int .i64 t, .int .i64 p, .int .i64 h]),(.int .i64 g)] [.many [.pt 0 .obj, .no, .no, .no], .no] (by kernel_rfl) (objs:=[.obj p_0 (.view s)]) (ros:=[]) (psOk_cons (by simp [pOk,psOk,cOk]) (psOk_cons pOk_no (psOk_nil))) (by kernel_rfl) (trivial) hS 400
  (t:=Tree.fresh λb=>Tree.br (g==(0:Int)) (Tree.ret (vi_ (-1:Int)) pn_ [kQ p_0 (Sg.view s),kc_ b 160 [(jB (some p_0),po_ 0),(vi_ t,pn_),(vi_ p,pn_),(vi_ h,pn_)]]) (Tree.bind (VS.read s (place_Foot t p h (iA iB (g-(1:Int)))),VS.get s (place_Foot t p h (iA iB (g-(1:Int))))) λa=>Tree.ret (vi_ (iA iB (iA iB a.2-(1:Int)))) pn_ [kQ p_0 (kS (some (Wr.inj wView a.1)) (Sg.view s)),kc_ b 160 [(jB (some p_0),po_ 0),(vi_ t,pn_),(vi_ p,pn_),(vi_ h,pn_)]]))
  (by kernel_rfl)
  (λb0_0=>⟨λz1=>RetOk.at (outf:=sp_ahead_out) (nwf:=sp_ahead_nw p_0) (rowsf:=sp_ahead_rows) (r:=(s,(-1:Int))) (by first|exact Eq.symm ((cT z1).trans rfl)|(simp only [sp_ahead,z1,cond_true,cond_false];done)|(exfalso;simp_all;done)|decide) ⟨[],[0],(by decide),rfl,rfl,⟨.inl rfl,trivial⟩⟩, λz1=> λr2 e2=>RetOk.at (outf:=sp_ahead_out) (nwf:=sp_ahead_nw p_0) (rowsf:=sp_ahead_rows) (r:=(r2.1,iA iB (iA iB r2.2-(1:Int)))) (by subst e2;first|exact Eq.symm ((cF z1).trans rfl)|(simp only [sp_ahead,z1,cond_true,cond_false];done)|(exfalso;simp_all;done)|decide) ⟨[],[0],(by decide),rfl,rfl,⟨.inl rfl,trivial⟩⟩⟩)
end
def sp_ahead_e:Entry Sg:= λ
 |[(.agg ⟨[.pointer (some p_0), .int .i64 t, .int .i64 p, .int .i64 h]⟩, .many [.obj (.view s), .none, .none, .none]),(.int .i64 g,_)]=>some ⟨(sp_ahead s t p h g), λ(r_:VS×Int)=>⟨[],some (.view (r_.1)),[], λss=> .int .i64 (r_.2), λk_=> .no⟩⟩
 |_=>none
theorem sp_ahead_ok:EntryOk Dg Tryz.prog 112 sp_ahead_e:=by
 intro args c r h hr_
 unfold sp_ahead_e at h
 split at h
 ·injection h with h;subst h;subst hr_
  refine ⟨λK acs _=>pOk_no, λhpre E G w hi hS=>?_⟩
  exact entry_post Dg (by exact rfl) (sp_ahead_calls _ _ _ _ _ _ hS)
 ·cases h
def T_sp_ahead:List (Nat×Entry Sg):=(112,sp_ahead_e)::T_sp_join
theorem T_sp_ahead_ok:TableOk Dg Tryz.prog T_sp_ahead:=TableOk.cons Dg sp_ahead_ok T_sp_join_ok
end
end Go.Proofs.YtinpgnomkmmfdaaGreat
namespace Go.Sl
section
abbrev wI (x:Int):Int:=iA iB x
section
variable (c:Cf)
def qUsed (p n:Int):Pg Unit:= .put (c.info p) (iVal 2 n 0) <| .put (c.foot (wI (wI (p+n)-1))) (nv (p+1)) (.ret ())
def qJoin (p b:Int):Pg Int:=(pDrop c p).bind λl=> .put (c.info b) 0 <| .put (c.foot (wI (b-1))) 0 (.ret l)
def qTake (n:Int):Pg (Int×Bool):=
 (pFind c n).bind λr=>bif r.2 then
   (pDrop c r.1).bind λl=>(qUsed c r.1 n).bind λ_=>
     (bif decide (n<l) then pAdd c (wI (r.1+n)) (wI (l-n)) else .ret ()).bind λ_=>(pCount (-n)).bind λ_=> .ret (r.1,true)
 else .ret (0,false)
def qAhead (p n:Int):Pg (Int×Int):=
 bif p==0 then .ret (p,n) else .get (c.foot (wI (p-1))) λf=>
  (pFree c (f-1)).bind λl=>bif decide (0<l) then (qJoin c (f-1) p).bind λm=> .ret (f-1,wI (n+m)) else .ret (p,n)
def qNext (r:Int) (a:Int×Int):Pg (Int×Int):=
 bif decide (r<c.p) then (pFree c r).bind λl=>bif decide (0<l) then (qJoin c r r).bind λm=> .ret (a.1,wI (a.2+m)) else .ret a else .ret a
def qRelease (p n:Int):Pg Unit:=
 (qAhead c p n).bind λa=>(qNext c (wI (p+n)) a).bind λa=>(pAdd c a.1 a.2).bind λ_=>pCount n
end
theorem get_out1 (s:VS) {i:Int} (h:i<0):s.get i=0∧s.read i=s:=by
 have:s.there i=false:=by
  simp only [VS.there,mD,decide_eq_false_iff_not]
  omega
 unfold VS.get VS.read
 rw [this]
 exact ⟨rfl,rfl⟩
end
end Go.Sl
namespace Go.Proofs.YtinpgnomkmmfdaaGreat
section
open Go.Sl
theorem nvadd (x y:Int):nv (x+nv y)=nv (x+y):=by unfold nv;omega
theorem nvsub (x y:Int):nv (x-nv y)=nv (x+ -y):=by unfold nv;omega
theorem nvwi0 (y:Int):nv (iA iB y)=nv y:=by rw [nQ];unfold nv;omega
theorem nvaddw (x y:Int):nv (x+iA iB y)=nv (x+y):=by rw [nQ];unfold nv;omega
theorem spFree_eq (s:VS) (t p h g:Int):sp_free s t p h g=(pFree ⟨t,p,h⟩ g).run s:=by
 simp only [sp_free,pFree,Pg.run_get,Pg.run_ret,place_Info_eq,infoG1,infoG2,bne]
 cases (iGet (s.get (Cf.info ⟨t,p,h⟩ g))).k==1<;>rfl
theorem pFreeR (c:Cf) (g:Int) (s:VS):(pFree c g).run s=(s.read (c.info g),bif (iGet (s.get (c.info g))).k==1 then (iGet (s.get (c.info g))).l else 0):=rfl
theorem nvnegw (x y:Int):nv (x+ -iA iB y)=nv (x+ -y):=by rw [nQ];unfold nv;omega
theorem dz0:decide ((0:Int)<0)=false:=rfl
theorem dge1 (x:Int):decide (0≤x-1)=decide (1≤x):=decide_eq_decide.2 (by omega)
theorem dneg:decide ((0:Int)≤ -1)=false:=rfl
theorem get_fb (s:VS) (i:Int):iA iB (s.get i)=s.get i:=w64g s i
theorem get_fb1 (s:VS) (i:Int):iA iB (s.get i-1)=s.get i-1:=w64g1 s i
def span_Take (s:VS) (t p h n:Int):VS×Int×Bool:=(qTake ⟨t,p,h⟩ n).run s
abbrev c_span_Take:Ct Sg:=⟨some wView,false,[.agg [.i .i64, .i .i64, .i .i64], .i .i64], .tup [.i .i64, .b]⟩
def e_span_Take:Entry Sg:=entC c_span_Take span_Take (λs t p h n=>[p≤1024])
def span_Take_w (s:VS) (t p h n:Int) (R_:VS×Int×Bool→Prop):Prop:=(∀r2:VS×Int×Bool,r2=(bin_Find s t p h n)→(aw_ (p≤9223372036854775807) (bw_ (!r2.2.2) (R_ ((r2.1,0,false))) (∀r5:VS×Int,r5=(bin_Drop r2.1 t p h r2.2.1)→(∀r6:VS,r6=(sp_used r5.1 t p h r2.2.1 n)→(bw_ (decide (r5.2>n)) (∀r8:VS,r8=(bin_Add r6 t p h (iA iB (r2.2.1+n)) (iA iB (r5.2-n)))→(aw_ (p≤1024) (∀r10:VS,r10=(sp_count r8 t p h (iA iB (0-n)))→(R_ ((r10,r2.2.1,true)))))) (∀r8:VS,r8=(sp_count r6 t p h (iA iB (0-n)))→(R_ ((r8,r2.2.1,true))))))))))
theorem span_Take_begin (s:VS) (t p h n:Int) (hp0:p≤1024):span_Take_w s t p h n (λr__=>r__=(span_Take s t p h n)):=by
 unfold span_Take_w
 repeat' first
  |(refine λr hr=>?_;subst hr)
  |refine ⟨(by first|exact wu32_bd _|exact VS.get_bd _ _|exact zero_bd|exact iVal_bd _ _ _|exact nv_bd _|(rw [info_Put_val];exact iVal_bd _ _ _)|(rw [r09_Value_eq];exact iVal_bd _ _ _)|assumption|omega), λ_=>?_⟩
  |refine ⟨λhc=>?_, λhc=>?_⟩
  |(refine λhr=>?_;subst hr)
  |fail
 all_goals
  simp only [link_page_eq,page_ne t p h,link_next,link_prev,place_Next_eq,place_Prev_eq,r07_Next_eq,r07_Prev_eq,link_to,w64g,w64g1,wrapu_nv,nvw,nvw2,bin_page,place_Info_eq,place_Foot_eq,r07_Info_eq,r07_Foot_eq,place_Bin_eq,r07_Bin_eq,info_Put_val,bin_Of,infoG1,infoG2,infoG3,rinfoG1,rinfoG2,rinfoG3,gt_iff_lt,bin_Find,bin_Drop,bin_Add,sp_used,spFree_eq,sp_count,nvadd,nvsub,nvwi0,nvaddw,nvnegw,Int.zero_sub,get_fb,get_fb1,dge1,dneg,ge_iff_le,bne,jO,jY,reduceCtorEq] at*
 all_goals
  skip
 all_goals
  simp only [span_Take,qUsed,pCount,qJoin,wI,nvadd,nvsub,nvaddw,nvnegw,qTake,Pg.run_get,Pg.run_put,Pg.run_ret,Pg.run_bind,Pg.run_cond,gt_iff_lt,cond_true,cond_false, *]
 all_goals
  try rfl
theorem span_Take_ok:EOk 134 e_span_Take:=
 ent_w0 Dg T_sp_ahead_ok (I:=[2999998]) Tryz.func134 mix (B:=bodyOf Tryz.f134) (by kernel_rfl) rfl (by kernel_rfl) 400
  λ_ s t p h n hb hp=>⟨_, λ_ _ _=>by kernel_rfl,span_Take_begin s t p h n (hp _ (.head _))⟩
def T_span_Take:Tb:=(134,e_span_Take)::T_sp_ahead
theorem T_span_Take_ok:TOk T_span_Take:=tc_ span_Take_ok T_sp_ahead_ok
def span_Release (s:VS) (t p h g n:Int):VS:=((qRelease ⟨t,p,h⟩ g n).run s).1
abbrev c_span_Release:Ct Sg:=⟨some wView,false,[.agg [.i .i64, .i .i64, .i .i64], .i .i64, .i .i64], .skip⟩
def e_span_Release:Entry Sg:=entC c_span_Release span_Release (λs t p h g n=>[p≤1024,0≤g])
abbrev Na (p:Int) (r12:VS) (t h n:Int) (R_:VS→Prop):Prop:=(aw_ (p≤1024) (∀r14:VS,r14=(sp_count r12 t p h n)→(R_ (r14))))
abbrev OA (g n p:Int) (r5:VS×Int) (t h:Int) (R_:VS→Prop):Prop:=(bw_ (decide (iA iB (g+n)<p)) (∀r8:VS×Int,r8=(sp_free r5.1 t p h (iA iB (g+n)))→(bw_ (decide (r8.2>0)) (∀r10:VS×Int,r10=((VS.set (VS.set (jZ (bin_Drop r8.1 t p h (iA iB (g+n)))) (place_Info t p h (iA iB (g+n))) 0) (place_Foot t p h (iA iB (iA iB (g+n)-1))) 0,lD (bin_Drop r8.1 t p h (iA iB (g+n)))))→(∀r11:VS,r11=(bin_Add r10.1 t p h g (iA iB (n+r10.2)))→(Na p r11 t h n R_))) (∀r10:VS,r10=(bin_Add r8.1 t p h g n)→(Na p r10 t h n R_)))) (∀r8:VS,r8=(bin_Add r5.1 t p h g n)→(Na p r8 t h n R_)))
def span_Release_w (s:VS) (t p h g n:Int) (R_:VS→Prop):Prop:=(∀r3:VS×Int,r3=(sp_ahead s t p h g)→(bw_ (decide (r3.2≥0)) (∀r5:VS×Int,r5=(sp_free r3.1 t p h r3.2)→(bw_ (decide (r5.2>0)) (∀r7:VS×Int,r7=((VS.set (VS.set (jZ (bin_Drop r5.1 t p h r3.2)) (place_Info t p h g) 0) (place_Foot t p h (iA iB (g-1))) 0,lD (bin_Drop r5.1 t p h r3.2)))→(bw_ (decide (iA iB (g+n)<p)) (∀r9:VS×Int,r9=(sp_free r7.1 t p h (iA iB (g+n)))→(bw_ (decide (r9.2>0)) (∀r11:VS×Int,r11=((VS.set (VS.set (jZ (bin_Drop r9.1 t p h (iA iB (g+n)))) (place_Info t p h (iA iB (g+n))) 0) (place_Foot t p h (iA iB (iA iB (g+n)-1))) 0,lD (bin_Drop r9.1 t p h (iA iB (g+n)))))→(∀r12:VS,r12=(bin_Add r11.1 t p h r3.2 (iA iB (iA iB (n+r7.2)+r11.2)))→(Na p r12 t h n R_))) (∀r11:VS,r11=(bin_Add r9.1 t p h r3.2 (iA iB (n+r7.2)))→(Na p r11 t h n R_)))) (∀r9:VS,r9=(bin_Add r7.1 t p h r3.2 (iA iB (n+r7.2)))→(Na p r9 t h n R_)))) (OA g n p r5 t h R_))) (OA g n p r3 t h R_)))
theorem span_Release_begin (s:VS) (t p h g n:Int) (hp0:p≤1024) (hp1:0≤g):span_Release_w s t p h g n (λr__=>r__=(span_Release s t p h g n)):=by
 unfold span_Release_w OA Na
 have hz:decide (1≤s.get (Cf.foot ⟨t,p,h⟩ (iA iB (g-1))))=false→∀s':VS,(pFree ⟨t,p,h⟩ (s.get (Cf.foot ⟨t,p,h⟩ (iA iB (g-1)))-1)).run s'=(s',0):= λhf s'=>by
  have hb:=VS.get_bd s (Cf.foot ⟨t,p,h⟩ (iA iB (g-1)))
  simp only [decide_eq_false_iff_not] at hf
  rw [show s.get (Cf.foot ⟨t,p,h⟩ (iA iB (g-1)))-1= -1 by omega]
  have e:Cf.info ⟨t,p,h⟩ (-1)= -1:=by
   unfold Cf.info Cf.pc Cf.page
   simp
  rw [pFreeR,e,(get_out1 s' (by decide)).1,(get_out1 s' (by decide)).2]
  rfl
 unfold sp_ahead
 cases hg0:g==0
 all_goals simp only [cond_true,cond_false]
 repeat' first
  |(refine λr hr=>?_;subst hr)
  |refine ⟨(by first|exact wu32_bd _|exact VS.get_bd _ _|exact zero_bd|exact iVal_bd _ _ _|exact nv_bd _|(rw [info_Put_val];exact iVal_bd _ _ _)|(rw [r09_Value_eq];exact iVal_bd _ _ _)|assumption|omega), λ_=>?_⟩
  |refine ⟨λhc=>?_, λhc=>?_⟩
  |(refine λhr=>?_;subst hr)
  |fail
 all_goals
  simp only [link_page_eq,page_ne t p h,link_next,link_prev,place_Next_eq,place_Prev_eq,r07_Next_eq,r07_Prev_eq,link_to,w64g,w64g1,wrapu_nv,nvw,nvw2,bin_page,place_Info_eq,place_Foot_eq,r07_Info_eq,r07_Foot_eq,place_Bin_eq,r07_Bin_eq,info_Put_val,bin_Of,infoG1,infoG2,infoG3,rinfoG1,rinfoG2,rinfoG3,gt_iff_lt,bin_Find,bin_Drop,bin_Add,sp_used,spFree_eq,sp_count,nvadd,nvsub,nvwi0,nvaddw,nvnegw,Int.zero_sub,get_fb,get_fb1,dge1,dneg,ge_iff_le,bne,jO,jY,reduceCtorEq] at*
 all_goals
  skip
 all_goals
  simp only [span_Release,qUsed,pCount,qJoin,wI,nvadd,nvsub,nvaddw,nvnegw,qRelease,qAhead,qNext,dz0,Pg.run_get,Pg.run_put,Pg.run_ret,Pg.run_bind,Pg.run_cond,gt_iff_lt,cond_true,cond_false, *]
 all_goals
  try rfl
theorem span_Release_ok:EOk 78 e_span_Release:=
 ent_w0 Dg T_span_Take_ok (I:=[2999998]) Tryz.func78 mix (B:=bodyOf Tryz.f78) (by kernel_rfl) rfl (by kernel_rfl) 400
  λ_ s t p h g n hb hp=>⟨_, λ_ _ _=>by kernel_rfl,span_Release_begin s t p h g n (hp _ (.head _)) (hp _ (.tail _ (.head _)))⟩
def T_span_Release:Tb:=(78,e_span_Release)::T_span_Take
theorem T_span_Release_ok:TOk T_span_Release:=tc_ span_Release_ok T_span_Take_ok
end
section
open Go.Sl
def SlSlab1_bytes0:ByteArray:=⟨⟨[0,1,1,2,1,2,2,3,1,2,2,3,2,3,3,4,1,2,2,3,2,3,3,4,2,3,3,4,3,4,4,5,1,2,2,3,2,3,3,4,2,3,3,4,3,4,4,5,2,3,3,4,3,4,4,5,3,4,4,5,4,5,5,6,1,2,2,3,2,3,3,4,2,3,3,4,3,4,4,5,2,3,3,4,3,4,4,5,3,4,4,5,4,5,5,6,2,3,3,4,3,4,4,5,3,4,4,5,4,5,5,6,3,4,4,5,4,5,5,6,4,5,5,6,5,6,6,7,1,2,2,3,2,3,3,4,2,3,3,4,3,4,4,5,2,3,3,4,3,4,4,5,3,4,4,5,4,5,5,6,2,3,3,4,3,4,4,5,3,4,4,5,4,5,5,6,3,4,4,5,4,5,5,6,4,5,5,6,5,6,6,7,2,3,3,4,3,4,4,5,3,4,4,5,4,5,5,6,3,4,4,5,4,5,5,6,4,5,5,6,5,6,6,7,3,4,4,5,4,5,5,6,4,5,5,6,5,6,6,7,4,5,5,6,5,6,6,7,5,6,6,7,6,7,7,8]⟩⟩
def place_Rack (k:Int):Int:=place_within 13 k 9
abbrev c_place_Rack:Ct Sg:=⟨none,false,[.i .i64], .i .i64⟩
def e_place_Rack:Entry Sg:=entC c_place_Rack place_Rack (λ_=>[])
theorem place_Rack_ok:EOk 71 e_place_Rack:=
 ent_ok Dg T_span_Release_ok (I:=[]) Tryz.func71 mix (B:=bodyOf Tryz.f71) (by kernel_rfl) rfl (by kernel_rfl) 400
  λ_ k hb hp=>⟨(place_Rack k), .t, λ_ _ _=>by kernel_rfl,trivial,rfl⟩
def T_place_Rack:Tb:=(71,e_place_Rack)::T_span_Release
theorem T_place_Rack_ok:TOk T_place_Rack:=tc_ place_Rack_ok T_span_Release_ok
def place_Taken (t p s pg:Int):Int:=place_of t p s pg 5
abbrev c_place_Taken:Ct Sg:=⟨none,false,[.agg [.i .i64, .i .i64, .i .i64], .i .i64], .i .i64⟩
def e_place_Taken:Entry Sg:=entC c_place_Taken place_Taken (λ_ _ _ _=>[])
theorem place_Taken_ok:EOk 72 e_place_Taken:=
 ent_ok Dg T_place_Rack_ok (I:=[]) Tryz.func72 mix (B:=bodyOf Tryz.f72) (by kernel_rfl) rfl (by kernel_rfl) 400
  λ_ t p s pg hb hp=>⟨(place_Taken t p s pg), .t, λ_ _ _=>by kernel_rfl,trivial,rfl⟩
def T_place_Taken:Tb:=(72,e_place_Taken)::T_place_Rack
theorem T_place_Taken_ok:TOk T_place_Taken:=tc_ place_Taken_ok T_place_Rack_ok
def place_Slots (t p s pg:Int):Int:=place_of t p s pg 4
abbrev c_place_Slots:Ct Sg:=⟨none,false,[.agg [.i .i64, .i .i64, .i .i64], .i .i64], .i .i64⟩
def e_place_Slots:Entry Sg:=entC c_place_Slots place_Slots (λ_ _ _ _=>[])
theorem place_Slots_ok:EOk 99 e_place_Slots:=
 ent_ok Dg T_place_Taken_ok (I:=[]) Tryz.func99 mix (B:=bodyOf Tryz.f99) (by kernel_rfl) rfl (by kernel_rfl) 400
  λ_ t p s pg hb hp=>⟨(place_Slots t p s pg), .t, λ_ _ _=>by kernel_rfl,trivial,rfl⟩
def T_place_Slots:Tb:=(99,e_place_Slots)::T_place_Taken
theorem T_place_Slots_ok:TOk T_place_Slots:=tc_ place_Slots_ok T_place_Taken_ok
def class_slots:Int×Int×Int×Int×Int×Int×Int×Int×Int:=(32,21,16,10,8,5,4,3,2)
abbrev c_class_slots:Ct Sg:=⟨none,false,[], .agg [.i .i64, .i .i64, .i .i64, .i .i64, .i .i64, .i .i64, .i .i64, .i .i64, .i .i64]⟩
def e_class_slots:Entry Sg:=entC c_class_slots class_slots ([])
theorem class_slots_ok:EOk 136 e_class_slots:=
 ent_ok Dg T_place_Slots_ok (I:=[]) Tryz.func136 mix (B:=bodyOf Tryz.f136) (by kernel_rfl) rfl (by kernel_rfl) 400
  λ_ hb hp=>⟨class_slots, .t, λ_ _ _=>by kernel_rfl,trivial,rfl⟩
def T_class_slots:Tb:=(136,e_class_slots)::T_place_Slots
theorem T_class_slots_ok:TOk T_class_slots:=tc_ class_slots_ok T_place_Slots_ok
abbrev c_class_Slots:Ct Sg:=⟨none,false,[.i .i64], .i .i64⟩
def e_class_Slots:Entry Sg:=entC c_class_Slots kSlots (λ_=>[])
theorem ent_or {c:Ct Sg} {P:Program} {f:FuncId} {F:Cur c.AK (Ty c.RK)} {pre pre1 pre2:Cur c.AK (List Prop)} (h1:EntryOk Dg P f (entC c F pre1)) (h2:EntryOk Dg P f (entC c F pre2))
 (h:∀cs,(∀p∈appC c.AK pre cs,p)→(∀p∈appC c.AK pre1 cs,p)∨(∀p∈appC c.AK pre2 cs,p)):EntryOk Dg P f (entC c F pre):=by
 intro args d r hd hr
 unfold entC at hd
 split at hd
 rotate_left
 ·cases hd
 rename_i cs hcs
 injection hd with hd;subst hd;subst hr
 have e1:entC c F pre1 args=some ⟨appC c.AK F cs, λr=>⟨appC c.AK pre1 cs,newC c.rob (toCm c.RK r),c.mksC r,c.outC r,c.rs.outp⟩⟩:=by unfold entC;rw [hcs]
 have e2:entC c F pre2 args=some ⟨appC c.AK F cs, λr=>⟨appC c.AK pre2 cs,newC c.rob (toCm c.RK r),c.mksC r,c.outC r,c.rs.outp⟩⟩:=by unfold entC;rw [hcs]
 refine ⟨(h1 args _ _ e1 rfl).1, λhp=>?_⟩
 rcases h cs hp with hp|hp
 ·exact (h1 args _ _ e1 rfl).2 hp
 ·exact (h2 args _ _ e2 rfl).2 hp
theorem class_Slots_ok1:EntryOk Dg Tryz.prog 97 (entC c_class_Slots kSlots λk=>[¬(0≤k∧k<9)]):=
 ent_ok Dg T_class_slots_ok (I:=[]) Tryz.func97 mix (B:=bodyOf Tryz.f97) (by kernel_rfl) rfl (by kernel_rfl) 26
  λ_ (k:Int) hb hp=>by
 have h:¬(0≤k∧k<9):=hp _ (.head _)
 refine ⟨bif decide (k<0)||decide (k≥9) then (0:Int) else (0:Int), .br (decide (k<0)||decide (k≥9)) .t (.need (0≤k∧k<9) (.need False .t)), λ_ _ _=>by kernel_rfl,⟨λ_=>trivial, λhc=>?_⟩,?_⟩
 ·exfalso;simp at hc;omega
 ·show _=kSlots k
  have hk:kSlots k=0:=by
   unfold kSlots
   by_cases h0:0≤k
   ·have e:decide (0≤k)=true:=by simpa using h0
    rw [e,cond_true,iD,jP (by simp;omega)];rfl
   ·have e:decide (0≤k)=false:=by simpa using h0
    rw [e];rfl
  rw [hk];cases decide (k<0)||decide (k≥9)<;>rfl
theorem class_Slots_ok2:EntryOk Dg Tryz.prog 97 (entC c_class_Slots kSlots λk=>[0≤k∧k<9]):=
 ent_ok Dg T_class_slots_ok (I:=[]) Tryz.func97 mix (B:=bodyOf Tryz.f97) (by kernel_rfl) rfl (by kernel_rfl) 400
  λ_ (k:Int) hb hp=>by
 have h:0≤k∧k<9:=hp _ (.head _)
 have h':k=0∨k=1∨k=2∨k=3∨k=4∨k=5∨k=6∨k=7∨k=8:=by omega
 rcases h' with rfl|rfl|rfl|rfl|rfl|rfl|rfl|rfl|rfl
 ·exact ⟨bif false then (0:Int) else (32:Int), .br false .t (.need ((0:Int)≤(0:Int)∧(0:Int)<(9:Int)) .t), λ_ _ _=>by kernel_rfl,⟨λ_=>trivial, λ_=>⟨by decide, λ_=>trivial⟩⟩,rfl⟩
 ·exact ⟨bif false then (0:Int) else (21:Int), .br false .t (.need ((0:Int)≤(1:Int)∧(1:Int)<(9:Int)) .t), λ_ _ _=>by kernel_rfl,⟨λ_=>trivial, λ_=>⟨by decide, λ_=>trivial⟩⟩,rfl⟩
 ·exact ⟨bif false then (0:Int) else (16:Int), .br false .t (.need ((0:Int)≤(2:Int)∧(2:Int)<(9:Int)) .t), λ_ _ _=>by kernel_rfl,⟨λ_=>trivial, λ_=>⟨by decide, λ_=>trivial⟩⟩,rfl⟩
 ·exact ⟨bif false then (0:Int) else (10:Int), .br false .t (.need ((0:Int)≤(3:Int)∧(3:Int)<(9:Int)) .t), λ_ _ _=>by kernel_rfl,⟨λ_=>trivial, λ_=>⟨by decide, λ_=>trivial⟩⟩,rfl⟩
 ·exact ⟨bif false then (0:Int) else (8:Int), .br false .t (.need ((0:Int)≤(4:Int)∧(4:Int)<(9:Int)) .t), λ_ _ _=>by kernel_rfl,⟨λ_=>trivial, λ_=>⟨by decide, λ_=>trivial⟩⟩,rfl⟩
 ·exact ⟨bif false then (0:Int) else (5:Int), .br false .t (.need ((0:Int)≤(5:Int)∧(5:Int)<(9:Int)) .t), λ_ _ _=>by kernel_rfl,⟨λ_=>trivial, λ_=>⟨by decide, λ_=>trivial⟩⟩,rfl⟩
 ·exact ⟨bif false then (0:Int) else (4:Int), .br false .t (.need ((0:Int)≤(6:Int)∧(6:Int)<(9:Int)) .t), λ_ _ _=>by kernel_rfl,⟨λ_=>trivial, λ_=>⟨by decide, λ_=>trivial⟩⟩,rfl⟩
 ·exact ⟨bif false then (0:Int) else (3:Int), .br false .t (.need ((0:Int)≤(7:Int)∧(7:Int)<(9:Int)) .t), λ_ _ _=>by kernel_rfl,⟨λ_=>trivial, λ_=>⟨by decide, λ_=>trivial⟩⟩,rfl⟩
 ·exact ⟨bif false then (0:Int) else (2:Int), .br false .t (.need ((0:Int)≤(8:Int)∧(8:Int)<(9:Int)) .t), λ_ _ _=>by kernel_rfl,⟨λ_=>trivial, λ_=>⟨by decide, λ_=>trivial⟩⟩,rfl⟩
theorem class_Slots_ok:EntryOk Dg Tryz.prog 97 e_class_Slots:=
 ent_or class_Slots_ok1 class_Slots_ok2 λcs _=>by
 by_cases h:0≤(Kd.of .i (hdC cs):Int)∧(Kd.of .i (hdC cs):Int)<9
 ·exact .inr λp hp=>by
   rcases iY.1 hp with rfl
   exact h
 ·exact .inl λp hp=>by
   rcases iY.1 hp with rfl
   exact h
def T_class_Slots:List (Nat×Entry Sg):=(97,e_class_Slots)::T_class_slots
theorem T_class_Slots_ok:TableOk Dg Tryz.prog T_class_Slots:=TableOk.cons Dg class_Slots_ok T_class_slots_ok
def u32ok (v:Int):Prop:=0≤v∧v<4294967296
theorem and255 (z:Int):0≤iW.wrap ((iP 32 z &&& iP 32 255).toNat:Int)∧iW.wrap ((iP 32 z &&& iP 32 255).toNat:Int)<((256:Nat):Int):=by
 have h:(iP 32 z &&& iP 32 255).toNat<256:=by
  rw [oY]
  exact pB Nat.and_le_right (by decide)
 rw [nO];omega
theorem top8 {v:Int} (h0:0≤v) (h1:v<4294967296):0≤jS v 16777216∧jS v 16777216<((256:Nat):Int):=by
 rw [mH _ (by omega)];omega
theorem frange_snoc (p:Nat→Bool) (n:Nat):(jQ (n+1)).filter p=(jQ n).filter p++(if p n=true then [n] else []):=by
 rw [List.range_succ,kX]
 by_cases h:p n=true
 ·rw [if_pos h,nX h];rfl
 ·rw [if_neg h,nY h];rfl
theorem frange_len (p:Nat→Bool) (n:Nat):((jQ n).filter p).length≤n:=by
 have:=mB p (jQ n)
 simpa using this
def frN (p:Nat→Bool) (n:Nat):LI:=((jQ n).filter p).map λ(i:Nat)=>(i:Int)
def zeroAt (v:Int) (i:Nat):Bool:=iA iW ((iP 32 (jS v ((2:Int)^min (iL (i:Int)) 32)) &&& iP 32 1).toNat:Int)==0
def orB (v s:Int):Int:=iA iW ((iP 32 v ||| iP 32 (iA iW (1*(2:Int)^min (iL s) 32))).toNat:Int)
abbrev nnL (xs:LI):Prop:=∀s∈xs,(0:Int)≤s
theorem take_snocB {xs:LI} {k:Nat} (h:k<xs.length):xs.take (k+1)=xs.take k++[xs.getD k 0]:=by
 rw [qA,iD,iN h];rfl
def bits_Ones (v:Int):Int:=iA iB
 (iA kR
   (iA kR
       (iA kR
           (sAt SlSlab1_bytes0 (jS v 16777216)+
             sAt SlSlab1_bytes0 (iA iW (↑(kN (iP 32 (jS v 65536) &&& iP 32 255)):Int)))+
         sAt SlSlab1_bytes0 (iA iW (↑(kN (iP 32 (jS v 256) &&& iP 32 255)):Int)))+
     sAt SlSlab1_bytes0 (iA iW (↑(kN (iP 32 v &&& iP 32 255)):Int))))
abbrev c_bits_Ones:Ct Sg:=⟨none,false,[.i .u32], .i .i64⟩
def e_bits_Ones:Entry Sg:=entC c_bits_Ones bits_Ones (λv=>[u32ok v])
theorem bits_Ones_ok:EOk 140 e_bits_Ones:=
 ent_ok Dg T_class_Slots_ok (I:=[]) Tryz.func140 mix (B:=bodyOf Tryz.f140) (by kernel_rfl) rfl (by kernel_rfl) 400
  λ_ v hb hp=>have hp0:u32ok v:=hp _ (.head _);⟨(bits_Ones v),(.need (0≤jS v 16777216∧jS v (16777216:Int)<256) (.need (0≤iA iW (↑(kN (iP 32 (jS v 65536) &&& iP 32 255)):Int)∧iA iW (↑(kN (iP 32 (jS v 65536) &&& iP 32 255)):Int)<256) (.need (0≤iA iW (↑(kN (iP 32 (jS v 256) &&& iP 32 255)):Int)∧iA iW (↑(kN (iP 32 (jS v 256) &&& iP 32 255)):Int)<256) (.need (0≤iA iW (↑(kN (iP 32 v &&& iP 32 255)):Int)∧iA iW (↑(kN (iP 32 v &&& iP 32 255)):Int)<256) .t)))), λ_ _ _=>by kernel_rfl,⟨(by first|exact top8 hp0.1 hp0.2|exact and255 _), λz0=>⟨(by first|exact top8 hp0.1 hp0.2|exact and255 _), λz1=>⟨(by first|exact top8 hp0.1 hp0.2|exact and255 _), λz2=>⟨(by first|exact top8 hp0.1 hp0.2|exact and255 _), λz3=>trivial⟩⟩⟩⟩,rfl⟩
def T_bits_Ones:Tb:=(140,e_bits_Ones)::T_class_Slots
theorem T_bits_Ones_ok:TOk T_bits_Ones:=tc_ bits_Ones_ok T_class_Slots_ok
def half_Ones (v:Int):Int:=bits_Ones v
abbrev c_half_Ones:Ct Sg:=⟨none,false,[.i .u32], .i .i64⟩
def e_half_Ones:Entry Sg:=entC c_half_Ones half_Ones (λv=>[u32ok v])
theorem half_Ones_ok:EOk 107 e_half_Ones:=
 ent_ok Dg T_bits_Ones_ok (I:=[]) Tryz.func107 mix (B:=bodyOf Tryz.f107) (by kernel_rfl) rfl (by kernel_rfl) 400
  λ_ v hb hp=>have hp0:u32ok v:=hp _ (.head _);⟨(half_Ones v),(.need (u32ok v) .t), λ_ _ _=>by kernel_rfl,⟨(by exact hp0), λz0=>trivial⟩,rfl⟩
def T_half_Ones:Tb:=(107,e_half_Ones)::T_bits_Ones
theorem T_half_Ones_ok:TOk T_half_Ones:=tc_ half_Ones_ok T_bits_Ones_ok
def half_Free (v n:Int):LI:=frN (zeroAt v) (min n.toNat 32)
abbrev c_half_Free:Ct Sg:=⟨none,false,[.i .u32, .i .i64], .new 3 [some .i64]⟩
def e_half_Free:Entry Sg:=entC c_half_Free half_Free (λ_ _=>[])
def half_Free_w (v n:Int) (Q0:Int→Int→Nat→LI→Prop) (R_:LI→Prop):Prop:=(Q0 (0) (if 32<n then 32 else n) (0) ([]))
def half_Free_w0 (v n i m:Int) (no:Nat) (xs:LI) (Q0:Int→Int→Nat→LI→Prop) (R_:LI→Prop):Prop:=(bw_ (decide (i<m)) (aw_ (0≤i) (bw_ (iA iW (↑(kN (iP 32 (jS v (2^min (iL i) 32)) &&& iP 32 1)):Int)==0) (aw_ ((no+1)*8≤140737488355328) (Q0 (iA iB (i+1)) (m) (no+1) (xs++[i]))) (Q0 (iA iB (i+1)) (m) (no) (xs)))) (R_ (xs)))
def half_Free_I0 (v n i m:Int) (no:Nat) (xs r_:LI):Prop:=0≤i∧(i≤m∨i=0)∧m≤32∧m.toNat=min n.toNat 32∧no=xs.length∧xs=frN (zeroAt v) i.toNat∧r_=half_Free v n
abbrev half_Free_h0 (p0:Addr) (v n:Int):Hd Sg:=⟨none,[0,1,0,1,1],[.blk 0, .code [1,1,1]],[9,8,5,0],[.i .i64, .i .i64, .own 3 [some .i64], .ic .u32 (v)]⟩
theorem half_Free_begin (v n:Int):half_Free_w v n (λi' m' no' xs'=>half_Free_I0 v n i' m' no' xs' (half_Free v n)) (λr__=>r__=(half_Free v n)):=by
 unfold half_Free_w
 try unfold half_Free_I0
 exact ⟨by omega, .inr rfl,by split<;>omega,by split<;>omega,rfl,rfl,rfl⟩
theorem half_Free_step0 (v n i m:Int) (no:Nat) (xs:LI) {r_:LI} (hI:half_Free_I0 v n i m no xs r_):half_Free_w0 v n i m no xs (λi' m' no' xs'=>half_Free_I0 v n i' m' no' xs' r_∧lx ((m'-i').toNat,0,0) ((m-i).toNat,0,0)) (λr__=>r__=r_):=by
 unfold half_Free_I0 at hI
 unfold half_Free_w0
 try unfold half_Free_I0
 obtain ⟨h0,h1,hm,hn,h2,h3,hr⟩:=hI
 refine ⟨λh=>⟨h0, λ_=>?_⟩, λh=>?_⟩
 ·simp only [decide_eq_true_eq] at h
  have hi:((i.toNat:Nat):Int)=i:=by omega
  have hl:=frange_len (zeroAt v) i.toNat
  have hx:xs.length=((jQ i.toNat).filter (zeroAt v)).length:=by rw [h3,frN,kK]
  rw [w64 (by omega)]
  refine ⟨λhc=>⟨by omega, λ_=>⟨⟨by omega,by omega,hm,hn,by simp [h2],?_,hr⟩,lxo_⟩⟩, λhc=>⟨⟨by omega,by omega,hm,hn,h2,?_,hr⟩,lxo_⟩⟩
  ·have hz:zeroAt v i.toNat=true:=by unfold zeroAt;rw [hi];exact hc
   rw [toNat_succ h0,frN,frange_snoc,if_pos hz,jG,h3,frN]
   simp [hi]
  ·have hz:¬zeroAt v i.toNat=true:=by unfold zeroAt;rw [hi,hc];simp
   rw [toNat_succ h0,frN,frange_snoc,if_neg hz,lF]
   exact h3
 ·simp only [decide_eq_false_iff_not] at h
  show xs=r_
  rw [hr,h3,half_Free,show i.toNat=min n.toNat 32 by omega]
theorem half_Free_ok:EOk 96 e_half_Free:=
 ent_wp Dg T_half_Ones_ok (I:=[411000000009,411000000008,411000000005,411000000000]) Tryz.func96 mix (B:=bodyOf Tryz.f96) (by kernel_rfl) rfl (by kernel_rfl) 400
  λp0 v n hb hp=>⟨[half_Free_h0 p0 v n], λj=>iI [appC (Hd.kd (half_Free_h0 p0 v n)) (λi' m' no' xs'=>half_Free_I0 v n i' m' no' xs' (half_Free v n))] j (λ_=>False), λj=>iI [appC (Hd.kd (half_Free_h0 p0 v n)) (λi' m' no' xs'=>((m'-i').toNat,0,0))] j (λ_=>(0,0,0)),by kernel_rfl,⟨_, λ_ _ _=>by kernel_rfl,half_Free_begin v n⟩,⟨λi m no xs hI=>⟨_, λ_ _ _=>by kernel_rfl,half_Free_step0 v n i m no xs hI⟩,trivial⟩⟩
def T_half_Free:Tb:=(96,e_half_Free)::T_half_Ones
theorem T_half_Free_ok:TOk T_half_Free:=tc_ half_Free_ok T_half_Ones_ok
def slab_bits (xs:LI):Int:=xs.foldl orB 0
abbrev c_slab_bits:Ct Sg:=⟨none,false,[.ro [some .i64]], .i .u32⟩
def e_slab_bits:Entry Sg:=entC c_slab_bits slab_bits (λxs=>[nnL xs])
def slab_bits_w (xs:LI) (Q0:Int→Int→Prop) (R_:Int→Prop):Prop:=(Q0 (0) (0))
def slab_bits_w0 (xs:LI) (i v:Int) (Q0:Int→Int→Prop) (R_:Int→Prop):Prop:=(bw_ (decide (i<(↑(iF xs):Int))) (aw_ (0≤i∧i<(↑(iF xs):Int)) (aw_ (0≤iI xs (iL i) 0) (Q0 (iA iB (i+1)) (iA iW (↑(kN (iP 32 v ||| iP 32 (iA iW ((1:Int)*2^min (iL (iI xs (iL i) 0)) 32)))):Int))))) (R_ (v)))
def slab_bits_I0 (xs:LI) (i v r_:Int):Prop:=0≤i∧i≤xs.length∧v=(xs.take i.toNat).foldl orB 0∧r_=slab_bits xs
abbrev slab_bits_h0 (p0:Addr) (xs:LI):Hd Sg:=⟨none,[0,1,0,1,1],[.blk 0, .code [1,1,1]],[8,7,6,3],[.i .i64, .ic .i64 (xs.length), .roc [.ints .i64 (xs)], .i .u32]⟩
theorem slab_bits_begin (xs:LI) (hp0:nnL xs) (hl0:xs.length≤9223372036854775807):slab_bits_w xs (λi' v'=>slab_bits_I0 xs i' v' (slab_bits xs)) (λr__=>r__=(slab_bits xs)):=by
 unfold slab_bits_w
 try unfold slab_bits_I0
 exact ⟨by omega,by omega,rfl,rfl⟩
theorem slab_bits_step0 (xs:LI) (hp0:nnL xs) (hl0:xs.length≤9223372036854775807) (i v:Int) {r_:Int} (hI:slab_bits_I0 xs i v r_):slab_bits_w0 xs i v (λi' v'=>slab_bits_I0 xs i' v' r_∧lx ((xs.length-i').toNat,0,0) ((xs.length-i).toNat,0,0)) (λr__=>r__=r_):=by
 unfold slab_bits_I0 at hI
 unfold slab_bits_w0
 try unfold slab_bits_I0
 obtain ⟨h0,h1,h2,hr⟩:=hI
 refine ⟨λh=>?_, λh=>?_⟩
 ·simp only [decide_eq_true_eq] at h
  have hs:=hp0 (xs.getD i.toNat 0) (getD_mem (by omega))
  rw [w64 (by omega)]
  refine ⟨⟨h0,h⟩, λ_=>⟨hs, λ_=>⟨⟨by omega,by omega,?_,hr⟩,lxo_⟩⟩⟩
  rw [toNat_succ h0,take_snocB (by omega),List.foldl_append,←h2];rfl
 ·simp only [decide_eq_false_iff_not] at h
  show v=r_
  rw [hr,h2,slab_bits,lI (by omega)]
theorem slab_bits_ok:EOk 73 e_slab_bits:=
 ent_wp Dg T_half_Free_ok (I:=[411000000008,411000000007,411000000006,411000000003]) Tryz.func73 mix (B:=bodyOf Tryz.f73) (by kernel_rfl) rfl (by kernel_rfl) 400
  λp0 xs hb hp=>have hl0:xs.length≤9223372036854775807:=hb.1;have hp0:nnL xs:=hp _ (.head _);⟨[slab_bits_h0 p0 xs], λj=>iI [appC (Hd.kd (slab_bits_h0 p0 xs)) (λi' v'=>slab_bits_I0 xs i' v' (slab_bits xs))] j (λ_=>False), λj=>iI [appC (Hd.kd (slab_bits_h0 p0 xs)) (λi' v'=>((xs.length-i').toNat,0,0))] j (λ_=>(0,0,0)),by kernel_rfl,⟨_, λ_ _ _=>by kernel_rfl,slab_bits_begin xs hp0 hl0⟩,⟨λi v hI=>⟨_, λ_ _ _=>by kernel_rfl,slab_bits_step0 xs hp0 hl0 i v hI⟩,trivial⟩⟩
def T_slab_bits:Tb:=(73,e_slab_bits)::T_half_Free
theorem T_slab_bits_ok:TOk T_slab_bits:=tc_ slab_bits_ok T_half_Free_ok
end
section
open Go.Sl
theorem ofInt32 (n:Nat):iP 32 (n:Int)=mZ 32 n:=by apply BitVec.eq_of_toNat_eq;simp
theorem minNat {i:Nat} (h:i<32):min (iL (i:Int)) 32=i:=by simp;omega
theorem fdiv_pow {V i:Nat}:jS (V:Int) (2^i)=((V/2^i:Nat):Int):=by
 rw [mH _ (by exact Int.le_of_lt (Int.pow_pos (by omega)))]
 push_cast;rfl
theorem bitAt_nat {V i:Nat} (hi:i<32):bitAt (V:Int) (i:Int)=V.testBit i:=by
 unfold bitAt
 have e1:decide ((i:Int)≥0)=true:=by simp
 have e2:decide ((i:Int)<32)=true:=by simp;omega
 rw [e1,e2,nR,nR,kT,Nat.testBit_eq_decide_div_mod_eq]
 have e3:(V:Int)/2^i%2=((V/2^i%2:Nat):Int):=by push_cast;rfl
 rw [e3]
 apply lT.2
 rw [beq_iff_eq,decide_eq_true_eq]
 omega
theorem bitAt_out {v b:Int} (h:¬(0≤b∧b<32)):bitAt v b=false:=by
 unfold bitAt
 have:(decide (b≥0)&&decide (b<32))=false:=by simp;omega
 rw [this,oW]
theorem zeroAt_eq {V i:Nat} (hV:V<4294967296) (hi:i<32):zeroAt (V:Int) i=!V.testBit i:=by
 unfold zeroAt
 rw [minNat hi,fdiv_pow,Nat.testBit_eq_decide_div_mod_eq]
 have h3:V/2^i<2^32:=pB (Nat.div_le_self _ _) (by omega)
 have e:(iP 32 ((V/2^i:Nat):Int) &&& iP 32 1).toNat=V/2^i%2:=by
  rw [ofInt32,oY,lM,lR h3]
  show _ &&& 1=_
  rw [Nat.and_one_is_mod]
 rw [e]
 have:=pX (V/2^i) (show 2>0 by omega)
 rw [wrap_u32_nat (by omega)]
 apply lT.2
 simp only [beq_iff_eq,jO,decide_eq_false_iff_not]
 omega
def cb (V:Nat):Nat→Nat
 |0=>0
 |k+1=>(V.testBit k).toNat+cb V k
theorem cb_le (V:Nat):∀k,cb V k≤k
 |0=>kF _
 |k+1=>by
  have:=cb_le V k
  have:=Bool.toNat_le (V.testBit k)
  simp only [cb];omega
theorem onesF_cb {V:Nat}:∀k:Nat,k≤32→onesF (V:Int) k=(cb V k:Int)
 |0,_=>rfl
 |k+1,h=>by
  rw [onesF,onesF_cb k (by omega),bitAt_nat (by omega),cb]
  cases V.testBit k<;>simp<;>omega
theorem cb_byte (V k:Nat):cb V (k+8)=cb (V/2^k%256) 8+cb V k:=by
 have h:∀j,j<8→(V/2^k%256).testBit j=V.testBit (k+j):= λj hj=>by
  rw [show (256:Nat)=2^8 by rfl,Nat.testBit_mod_two_pow,Nat.testBit_div_two_pow,Nat.add_comm j k]
  simp [hj]
 simp only [cb]
 rw [h 7 (by omega),h 6 (by omega),h 5 (by omega),h 4 (by omega),h 3 (by omega),h 2 (by omega),h 1 (by omega),h 0 (by omega)]
 simp only [oE]
 omega
theorem pop_tab:∀i:Fin 256,sAt SlSlab1_bytes0 (i.val:Int)=(cb i.val 8:Int):=by decide+kernel
theorem pop_nat {b:Nat} (h:b<256):sAt SlSlab1_bytes0 (b:Int)=(cb b 8:Int):=pop_tab ⟨b,h⟩
theorem and255_eq (m:Nat) (hm:m<4294967296):iW.wrap ((iP 32 (m:Int) &&& iP 32 255).toNat:Int)=((m%256:Nat):Int):=by
 have e:(iP 32 (m:Int) &&& iP 32 255).toNat=m%256:=by
  rw [ofInt32,oY,lM,lR hm]
  show m &&& (2^8-1)=_
  rw [oU]
 rw [e,wrap_u32_nat (by omega)]
theorem fdivN (z:Int) (k:Nat) (h0:0≤z) (hk:0<k):jS z (k:Int)=((z.toNat/k:Nat):Int):=by
 rw [mH _ (by omega)]
 obtain ⟨n,rfl⟩:=mI h0
 simp
theorem bits_Ones_eq {V:Nat} (hV:V<4294967296):bits_Ones (V:Int)=(cb V 32:Int):=by
 have c3:cb V 32=cb (V/2^24%256) 8+cb V 24:=cb_byte V 24
 have c2:cb V 24=cb (V/2^16%256) 8+cb V 16:=cb_byte V 16
 have c1:cb V 16=cb (V/2^8%256) 8+cb V 8:=cb_byte V 8
 have c0:cb V 8=cb (V/2^0%256) 8+cb V 0:=cb_byte V 0
 have z:cb V 0=0:=rfl
 have b3:=cb_le (V/2^24%256) 8
 have b2:=cb_le (V/2^16%256) 8
 have b1:=cb_le (V/2^8%256) 8
 have b0:=cb_le (V/2^0%256) 8
 have f:∀k:Nat,0<k→jS (V:Int) (k:Int)=((V/k:Nat):Int):= λk hk=>by
  rw [fdivN _ _ (by omega) hk,kT]
 have f3:=f 16777216 (by omega)
 have f2:=f 65536 (by omega)
 have f1:=f 256 (by omega)
 have h3:V/16777216<256:=by omega
 unfold bits_Ones
 rw [show (16777216:Int)=((16777216:Nat):Int) by rfl,show (65536:Int)=((65536:Nat):Int) by rfl,show jS (V:Int) (256:Int)=jS (V:Int) ((256:Nat):Int) by rfl,f3,f2,f1]
 rw [and255_eq _ (by omega),and255_eq _ (by omega),and255_eq _ hV,pop_nat h3,pop_nat (by omega),pop_nat (by omega),pop_nat (by omega)]
 have g3:cb (V/2^24%256) 8=cb (V/16777216) 8:=by rw [show (2:Nat)^24=16777216 by rfl,lR h3]
 have g2:cb (V/2^16%256) 8=cb (V/65536%256) 8:=rfl
 have g1:cb (V/2^8%256) 8=cb (V/256%256) 8:=rfl
 have g0:cb (V/2^0%256) 8=cb (V%256) 8:=by rw [Nat.pow_zero,Nat.div_one]
 simp only [IntKind.wrap_u8]
 rw [w64 (by omega)]
 omega
theorem natOf {v:Int} (h:bd32 v):∃V:Nat,v=(V:Int)∧V<4294967296:=⟨v.toNat,by unfold bd32 at h;omega,by unfold bd32 at h;omega⟩
theorem half_Ones_eq {v:Int} (h:bd32 v):half_Ones v=ones v:=by
 obtain ⟨V,rfl,hV⟩:=natOf h
 rw [half_Ones,bits_Ones_eq hV,ones,onesF_cb 32 (kF _)]
theorem testBit_add {V k i:Nat} (h:V.testBit k=false):(V+2^k).testBit i=(V.testBit i||decide (i=k)):=by
 have e:V+2^k=V ||| 2^k:=by
  have hb:∀w,V+2^k<2^w→V ||| 2^k<2^w→V+2^k=V ||| 2^k:= λw h1 h2=>by
   have hand:(mZ w V) &&& (mZ w (2^k))=0#w:=by
    apply BitVec.eq_of_toNat_eq
    have hp:=Nat.two_pow_pos k
    have hV:V<2^w:=by omega
    have hk:2^k<2^w:=by omega
    rw [oY,lM,lM,lR hV,lR hk,lM,Nat.zero_mod]
    apply nT
    intro j
    rw [Nat.testBit_and,mM,Nat.zero_testBit]
    by_cases hj:k=j
    ·subst hj;rw [h];rfl
    ·simp [hj]
   have:=BitVec.add_eq_or_of_and_eq_zero _ _ hand
   have h3:=congrArg kN this
   have hp:=Nat.two_pow_pos k
   have hV:V<2^w:=by omega
   have hk:2^k<2^w:=by omega
   rw [BitVec.toNat_add,BitVec.toNat_or,lM,lM,lR hV,lR hk,lR h1] at h3
   exact h3
  refine hb (V+2^k+(V ||| 2^k)) ?_ ?_
  ·exact pB (Nat.le_add_right _ _) pT
  ·exact pB (Nat.le_add_left _ _) pT
 rw [e,oT,mM]
 congr 1
 apply lT.2;simp [eq_comm]
theorem or_add {V k:Nat} (h:V.testBit k=false):V ||| 2^k=V+2^k:=by
 apply nT
 intro i
 rw [testBit_add h,oT,mM]
 congr 1
 apply lT.2;simp [eq_comm]
theorem lt_of_bits {V:Nat} (h:∀i,32≤i→V.testBit i=false):V<4294967296:=by
 have:=Nat.lt_pow_two_of_testBit V h
 simpa using this
theorem bits_of_lt {V:Nat} (h:V<4294967296) {i:Nat} (hi:32≤i):V.testBit i=false:=oB (nD h (by have:=lO (n:=2) (by omega) hi;simpa using this))
def setB (v s:Int):Int:=bif bitAt v s then v else v+2^s.toNat
def clrB (v s:Int):Int:=bif bitAt v s then v-2^s.toNat else v
theorem setB_nat {V k:Nat} (hk:k<32):setB (V:Int) (k:Int)=((V ||| 2^k:Nat):Int):=by
 unfold setB
 rw [bitAt_nat hk]
 cases h:V.testBit k with
 |true=>
  have e:V ||| 2^k=V:=by
   apply nT
   intro i
   rw [oT,mM]
   by_cases hi:k=i
   ·subst hi;rw [h];rfl
   ·simp [hi]
  rw [cond_true,e]
 |false=>rw [cond_false,or_add h];push_cast;rfl
theorem or_lt {V k:Nat} (hV:V<4294967296) (hk:k<32):V ||| 2^k<4294967296:=lt_of_bits λi hi=>by
 rw [oT,bits_of_lt hV hi,mM];simp;omega
theorem bitAt_setB {v s:Int} (hv:bd32 v) (hs:0≤s∧s<32):bd32 (setB v s)∧∀b,bitAt (setB v s) b=(bitAt v b||decide (b=s)):=by
 obtain ⟨V,rfl,hV⟩:=natOf hv
 obtain ⟨k,rfl⟩:=mI hs.1
 have hk:k<32:=by omega
 rw [setB_nat hk]
 refine ⟨by have:=or_lt hV hk;unfold bd32;omega, λb=>?_⟩
 by_cases hb:0≤b∧b<32
 ·obtain ⟨j,rfl⟩:=mI hb.1
  rw [bitAt_nat (by omega),bitAt_nat (by omega),oT,mM]
  congr 1
  apply lT.2
  simp only [decide_eq_true_eq];omega
 ·rw [bitAt_out hb,bitAt_out hb]
  symm;simp;omega
theorem clrB_nat {V k:Nat} (hk:k<32):∃W:Nat,clrB (V:Int) (k:Int)=(W:Int)∧∀i,W.testBit i=(V.testBit i&&decide (i≠k)):=by
 unfold clrB
 rw [bitAt_nat hk]
 cases h:V.testBit k with
 |false=>
  refine ⟨V,rfl, λi=>?_⟩
  by_cases hi:i=k
  ·subst hi;simp [h]
  ·simp [hi]
 |true=>
  have hx:(V ^^^ 2^k).testBit k=false:=by rw [Nat.testBit_xor,h,mM];simp
  have e:(V ^^^ 2^k)+2^k=V:=by
   apply nT
   intro i
   rw [testBit_add hx,Nat.testBit_xor,mM]
   by_cases hi:k=i
   ·subst hi;rw [h];simp
   ·simp [hi];intro e;exact absurd e.symm hi
  refine ⟨V ^^^ 2^k,?_, λi=>?_⟩
  ·rw [cond_true,kT]
   have:((V ^^^ 2^k:Nat):Int)+((2^k:Nat):Int)=(V:Int):=by exact_mod_cast e
   push_cast at this ⊢;omega
  ·rw [Nat.testBit_xor,mM]
   by_cases hi:k=i
   ·subst hi;rw [h];simp
   ·have:¬i=k:= λe=>hi e.symm
    simp [hi,this]
theorem bitAt_clrB {v s:Int} (hv:bd32 v) (hs:0≤s∧s<32):bd32 (clrB v s)∧∀b,bitAt (clrB v s) b=(bitAt v b&&!decide (b=s)):=by
 obtain ⟨V,rfl,hV⟩:=natOf hv
 obtain ⟨k,rfl⟩:=mI hs.1
 obtain ⟨W,e,h⟩:=clrB_nat (V:=V) (k:=k) (by omega)
 have hW:W<4294967296:=lt_of_bits λi hi=>by rw [h,bits_of_lt hV hi];rfl
 rw [e]
 refine ⟨by unfold bd32;omega, λb=>?_⟩
 by_cases hb:0≤b∧b<32
 ·obtain ⟨j,rfl⟩:=mI hb.1
  rw [bitAt_nat (by omega),bitAt_nat (by omega),h]
  congr 1
  apply lT.2
  simp;omega
 ·rw [bitAt_out hb,bitAt_out hb];rfl
theorem bits_ext {v w:Int} (hv:bd32 v) (hw:bd32 w) (h:∀b,bitAt v b=bitAt w b):v=w:=by
 obtain ⟨V,rfl,hV⟩:=natOf hv
 obtain ⟨W,rfl,hW⟩:=natOf hw
 congr 1
 apply nT
 intro i
 by_cases hi:i<32
 ·rw [←bitAt_nat hi,←bitAt_nat hi];exact h _
 ·rw [bits_of_lt hV (by omega),bits_of_lt hW (by omega)]
theorem bitAt_zero (b:Int):bitAt 0 b=false:=by
 unfold bitAt;simp
theorem orB_eq {v s:Int} (hv:bd32 v) (hs:0≤s∧s<32):orB v s=setB v s:=by
 obtain ⟨V,rfl,hV⟩:=natOf hv
 obtain ⟨k,rfl⟩:=mI hs.1
 have hk:k<32:=by omega
 have hp:2^k<4294967296:=by have:=Nat.pow_lt_pow_right (a:=2) (by omega) hk;simpa using this
 rw [setB_nat hk]
 unfold orB
 rw [minNat hk,nV,show ((2:Int)^k)=((2^k:Nat):Int) by push_cast;rfl,wrap_u32_nat hp,ofInt32,ofInt32,BitVec.toNat_or,lM,lM,lR hV,lR hp,wrap_u32_nat (or_lt hV hk)]
def setL (v:Int) (l:LI):Int:=l.foldl setB v
theorem bitAt_setL:∀{l:LI} {v:Int},bd32 v→(∀s∈l,0≤s∧s<32)→bd32 (setL v l)∧∀b,bitAt (setL v l) b=(bitAt v b||l.contains b)
 |[],v,hv,_=>⟨hv, λb=>by simp [setL]⟩
 |s::l,v,hv,hl=>by
  obtain ⟨h1,h2⟩:=bitAt_setB hv (hl s (by simp))
  obtain ⟨g1,g2⟩:=bitAt_setL (l:=l) h1 λx hx=>hl x (by simp [hx])
  refine ⟨g1, λb=>?_⟩
  show bitAt (setL (setB v s) l) b=_
  rw [g2,h2,pF,Bool.or_assoc]
  congr 2
theorem foldl_orB:∀{l:LI} {v:Int},bd32 v→(∀s∈l,0≤s∧s<32)→l.foldl orB v=setL v l
 |[],_,_,_=>rfl
 |s::l,v,hv,hl=>by
  have hs:=hl s (by simp)
  show l.foldl orB (orB v s)=setL (setB v s) l
  rw [orB_eq hv hs]
  exact foldl_orB (bitAt_setB hv hs).1 λx hx=>hl x (by simp [hx])
theorem slab_bits_eq {l:LI} (hl:∀s∈l,0≤s∧s<32):slab_bits l=setL 0 l:=foldl_orB (by unfold bd32;decide) hl
theorem wrapOr {a b:Int} (ha:bd32 a) (hb:bd32 b):bd32 (iW.wrap ((iP 32 a ||| iP 32 b).toNat:Int))∧∀i,bitAt (iW.wrap ((iP 32 a ||| iP 32 b).toNat:Int)) i=(bitAt a i||bitAt b i):=by
 obtain ⟨A,rfl,hA⟩:=natOf ha
 obtain ⟨B,rfl,hB⟩:=natOf hb
 have hl:A ||| B<4294967296:=lt_of_bits λi hi=>by rw [oT,bits_of_lt hA hi,bits_of_lt hB hi];rfl
 rw [ofInt32,ofInt32,BitVec.toNat_or,lM,lM,lR hA,lR hB,wrap_u32_nat hl]
 refine ⟨by unfold bd32;omega, λb=>?_⟩
 by_cases hb:0≤b∧b<32
 ·obtain ⟨j,rfl⟩:=mI hb.1
  rw [bitAt_nat (by omega),bitAt_nat (by omega),bitAt_nat (by omega),oT]
 ·rw [bitAt_out hb,bitAt_out hb,bitAt_out hb];rfl
theorem or_bits {v:Int} {l:LI} (hv:bd32 v) (hl:∀s∈l,0≤s∧s<32):iW.wrap ((iP 32 v ||| iP 32 (slab_bits l)).toNat:Int)=setL v l:=by
 rw [slab_bits_eq hl]
 obtain ⟨h1,h2⟩:=bitAt_setL (l:=l) (v:=0) (by unfold bd32;decide) hl
 obtain ⟨g1,g2⟩:=wrapOr hv h1
 obtain ⟨k1,k2⟩:=bitAt_setL hv hl
 exact bits_ext g1 k1 λb=>by rw [g2,h2,k2,bitAt_zero,lY]
theorem wrapAndNot {a b:Int} (ha:bd32 a) (hb:bd32 b):bd32 (iW.wrap ((iP 32 a &&& ~~~ iP 32 b).toNat:Int))∧∀i,bitAt (iW.wrap ((iP 32 a &&& ~~~ iP 32 b).toNat:Int)) i=(bitAt a i&&!bitAt b i):=by
 obtain ⟨A,rfl,hA⟩:=natOf ha
 obtain ⟨B,rfl,hB⟩:=natOf hb
 have hx:∀i,((mZ 32 A) &&& ~~~ (mZ 32 B)).toNat.testBit i=(A.testBit i&&(decide (i<32)&&!B.testBit i)):= λi=>by
  rw [BitVec.testBit_toNat,BitVec.getLsbD_and,BitVec.getLsbD_not,BitVec.getLsbD_ofNat,BitVec.getLsbD_ofNat]
  by_cases hi:i<32
  ·simp [hi]
  ·simp [hi]
 have hl:=lt_of_bits (V:=((mZ 32 A) &&& ~~~ (mZ 32 B)).toNat) λi hi=>by rw [hx,bits_of_lt hA hi];rfl
 rw [ofInt32,ofInt32,wrap_u32_nat hl]
 refine ⟨by unfold bd32;omega, λb=>?_⟩
 by_cases hb:0≤b∧b<32
 ·obtain ⟨j,rfl⟩:=mI hb.1
  have hj:j<32:=by omega
  rw [bitAt_nat hj,bitAt_nat hj,bitAt_nat hj,hx]
  simp [hj]
 ·rw [bitAt_out hb,bitAt_out hb,bitAt_out hb];rfl
theorem frN_mem {p:Nat→Bool} {n:Nat} {s:Int}:s∈frN p n↔0≤s∧s<n∧p s.toNat=true:=by
 unfold frN
 rw [kZ]
 constructor
 ·rintro ⟨i,hi,rfl⟩
  rw [lS,lU] at hi
  exact ⟨by omega,by omega,by simpa using hi.2⟩
 ·rintro ⟨h1,h2,h3⟩
  exact ⟨s.toNat,lS.2 ⟨lU.2 (by omega),h3⟩,by omega⟩
def frL (v n:Int):LI:=frN (λi=>!bitAt v (i:Int)) n.toNat
theorem frN_congr {p q:Nat→Bool} {n:Nat} (h:∀i,i<n→p i=q i):frN p n=frN q n:=by
 unfold frN
 congr 1
 exact List.filter_congr λi hi=>h i (lU.1 hi)
theorem half_Free_eq {v n:Int} (hv:bd32 v) (hn:n≤32):half_Free v n=frL v n:=by
 obtain ⟨V,rfl,hV⟩:=natOf hv
 unfold half_Free frL
 rw [show min n.toNat 32=n.toNat by omega]
 exact frN_congr λi hi=>by rw [zeroAt_eq hV (by omega),bitAt_nat (by omega)]
theorem frL_mem {v n s:Int} (h:s∈frL v n):0≤s∧s<n∧bitAt v s=false:=by
 obtain ⟨h1,h2,h3⟩:=frN_mem.1 h
 refine ⟨h1,by omega,?_⟩
 have e:((s.toNat:Nat):Int)=s:=by omega
 rw [e] at h3
 simpa using h3
theorem frN_succ (p:Nat→Bool) (n:Nat):frN p (n+1)=frN p n++(if p n=true then [(n:Int)] else []):=by
 unfold frN
 rw [frange_snoc,jG]
 split<;>rfl
end
section
open Go.Sl
theorem place_Taken_eq (t p s g:Int):place_Taken t p s g=Cf.taken ⟨t,p,s⟩ g:=place_of_eq (by omega)
theorem place_Slots_eq (t p s g:Int):place_Slots t p s g=Cf.slots ⟨t,p,s⟩ g:=place_of_eq (by omega)
theorem r07_Taken_eq (t p s g:Int):r07_Taken t p s g=Cf.taken ⟨t,p,s⟩ g:=r07_Page_eq (by omega)
theorem place_Rack_eq (k:Int):place_Rack k=cRack k:=by
 unfold place_Rack place_within cRack
 by_cases hg:0≤k∧k<9
 ·have a1:(decide (k<0)||decide (k≥9))=false:=by simp;omega
  have a2:(decide (0≤k)&&decide (k<9))=true:=by simp;omega
  rw [a1,a2,w64 (by omega)];rfl
 ·have a1:(decide (k<0)||decide (k≥9))=true:=by simp;omega
  have a2:(decide (0≤k)&&decide (k<9))=false:=by simp;omega
  rw [a1,a2];rfl
theorem full_eq (v k:Int):r12_Full v k=full v k:=by
 show (ones v==r05_Slots k)=_
 rw [r05_Slots_eq];rfl
theorem and_bits {v b:Int} (hv:bd32 v) (hb:0≤b∧b<32):iW.wrap ((iP 32 v &&& ~~~ iP 32 (slab_bits [b])).toNat:Int)=clrB v b:=by
 have hl:∀s∈[b],0≤s∧s<32:= λs hs=>by rw [iY] at hs;subst hs;exact hb
 rw [slab_bits_eq hl]
 obtain ⟨h1,h2⟩:=bitAt_setL (l:=[b]) (v:=0) (by unfold bd32;decide) hl
 obtain ⟨g1,g2⟩:=wrapAndNot hv h1
 obtain ⟨k1,k2⟩:=bitAt_clrB hv hb
 refine bits_ext g1 k1 λi=>?_
 rw [g2,h2,k2,bitAt_zero,lY,pF,List.contains_nil,pG]
 congr 2
theorem take_if {l:LI} {w:Int} (hw:0≤w):l.take (iL (if (l.length:Int)<w then (l.length:Int) else w))=l.take w.toNat:=by
 split
 ·rw [lI (by omega),lI (by omega)]
 ·rfl
section
variable (c:Cf)
def pOpen (k:Int):Pg (Int×Bool):=
 .get (cRack k) λq=>bif q==0 then
  (qTake c 1).bind λr=>bif r.2 then .put (c.info r.1) (iVal 3 1 k) ((pPush c (cRack k) r.1).bind λ_=> .ret (r.1,true)) else .ret (0,false)
 else .ret (q-1,true)
def pPutS (p k t:Int) (l:LI):Pg (Int×LI×Bool):=
 .put (c.taken p) (setL t l) <| (bif full (setL t l) k then pPull c (cRack k) p else .ret ()).bind λ_=> .ret (p,l,true)
def pTakeS (p k want t:Int):Pg (Int×LI×Bool):=
 bif ((frL t (kSlots k)).length:Int)==0 then .ret (-1,[],false) else pPutS c p k t ((frL t (kSlots k)).take want.toNat)
def pPick (k want:Int):Pg (Int×LI×Bool):=
 bif decide (k<0)||decide (9≤k)||decide (want<1)||decide (4<want) then .ret (-1,[],false) else
  (pOpen c k).bind λr=>bif r.2 then .get (c.taken r.1) (pTakeS c r.1 k want) else .ret (-1,[],false)
def pGive (p s:Int):Pg Unit:=
 bif decide (s<0)||decide (32≤s) then .ret () else
  (pInfo c p).bind λi=> .get (c.taken p) λt=>
    bif clrB t s==0 then (bif full t i.2.2 then .ret () else pPull c (cRack i.2.2) p).bind λ_=> .put (c.taken p) 0 (qRelease c p 1)
    else .put (c.taken p) (clrB t s) (bif full t i.2.2 then pPush c (cRack i.2.2) p else .ret ())
end
end
section
open Go.Sl
def slab_full (v k:Int):Bool:=full v k
abbrev c_slab_full:Ct Sg:=⟨none,false,[.i .u32, .i .i64], .b⟩
def e_slab_full:Entry Sg:=entC c_slab_full slab_full (λv k=>[bd32 v])
def slab_full_w (v k:Int) (R_:Bool→Prop):Prop:=(aw_ (u32ok v) (R_ (half_Ones v==kSlots k)))
theorem slab_full_begin (v k:Int) (hp0:bd32 v):slab_full_w v k (λr__=>r__=(slab_full v k)):=by
 unfold slab_full_w
 refine ⟨hp0, λ_=>?_⟩
 rw [half_Ones_eq hp0];rfl
theorem slab_full_ok:EOk 74 e_slab_full:=
 ent_w0 Dg T_slab_bits_ok (I:=[]) Tryz.func74 mix (B:=bodyOf Tryz.f74) (by kernel_rfl) rfl (by kernel_rfl) 400
  λ_ v k hb hp=>⟨_, λ_ _ _=>by kernel_rfl,slab_full_begin v k (hp _ (.head _))⟩
def T_slab_full:Tb:=(74,e_slab_full)::T_slab_bits
theorem T_slab_full_ok:TOk T_slab_full:=tc_ slab_full_ok T_slab_bits_ok
def slab_open (s:VS) (t p h k:Int):VS×Int×Bool:=(pOpen ⟨t,p,h⟩ k).run s
abbrev c_slab_open:Ct Sg:=⟨some wView,false,[.agg [.i .i64, .i .i64, .i .i64], .i .i64], .tup [.i .i64, .b]⟩
def e_slab_open:Entry Sg:=entC c_slab_open slab_open (λs t p h k=>[p≤1024])
def slab_open_w (s:VS) (t p h k:Int) (R_:VS×Int×Bool→Prop):Prop:=(∀r1:Int,r1=(place_Rack k)→(∀r2:VS×Int,r2=((VS.read s r1,VS.get s r1))→(bw_ (r2.2 !=0) (R_ ((r2.1,iA iB (iA iB r2.2-1),true))) (∀r4:VS×Int×Bool,r4=(span_Take r2.1 t p h 1)→(aw_ (p≤1024) (bw_ (!r4.2.2) (R_ ((r4.1,0,false))) (∀r7:Int×Bool,r7=(info_Put 3 1 k)→(∀r8:Int,r8=(place_Info t p h r4.2.1)→(∀r9:VS,r9=(VS.set r4.1 r8 r7.1)→(aw_ (bd32 r7.1) (∀r11:VS,r11=(link_Push r9 t p h (place_Rack k) r4.2.1)→(R_ ((r11,r4.2.1,true))))))))))))))
theorem slab_open_begin (s:VS) (t p h k:Int) (hp0:p≤1024):slab_open_w s t p h k (λr__=>r__=(slab_open s t p h k)):=by
 unfold slab_open_w
 repeat' first
  |(refine λr hr=>?_;subst hr)
  |refine ⟨(by first|exact wu32_bd _|exact VS.get_bd _ _|exact zero_bd|exact iVal_bd _ _ _|exact nv_bd _|(rw [info_Put_val];exact iVal_bd _ _ _)|(rw [r09_Value_eq];exact iVal_bd _ _ _)|assumption|omega), λ_=>?_⟩
  |refine ⟨λhc=>?_, λhc=>?_⟩
  |(refine λhr=>?_;subst hr)
  |fail
 all_goals
  simp only [link_page_eq,page_ne t p h,link_next,link_prev,place_Next_eq,place_Prev_eq,r07_Next_eq,r07_Prev_eq,link_to,w64g,w64g1,wrapu_nv,nvw,nvw2,bin_page,place_Info_eq,place_Foot_eq,r07_Info_eq,r07_Foot_eq,place_Bin_eq,r07_Bin_eq,info_Put_val,bin_Of,infoG1,infoG2,infoG3,rinfoG1,rinfoG2,rinfoG3,gt_iff_lt,span_Take,span_Release,pInfo,Pg.run_get,Pg.run_ret,link_Push,link_Pull,place_Rack_eq,place_Taken_eq,r07_Rack_eq,r07_Taken_eq,full_eq,slab_full,bne,jO,jY,reduceCtorEq] at*
 all_goals
  skip
 all_goals
  simp only [slab_open,pOpen,Pg.run_get,Pg.run_put,Pg.run_ret,Pg.run_bind,Pg.run_cond,gt_iff_lt,cond_true,cond_false, *]
 all_goals
  try rfl
theorem slab_open_ok:EOk 95 e_slab_open:=
 ent_w0 Dg T_slab_full_ok (I:=[2999998]) Tryz.func95 mix (B:=bodyOf Tryz.f95) (by kernel_rfl) rfl (by kernel_rfl) 400
  λ_ s t p h k hb hp=>⟨_, λ_ _ _=>by kernel_rfl,slab_open_begin s t p h k (hp _ (.head _))⟩
def T_slab_open:Tb:=(95,e_slab_open)::T_slab_full
theorem T_slab_open_ok:TOk T_slab_open:=tc_ slab_open_ok T_slab_full_ok
def slab_Pick (s:VS) (t p h k w:Int):VS×Int×LI×Bool:=(pPick ⟨t,p,h⟩ k w).run s
abbrev c_slab_Pick:Ct Sg:=⟨some wView,false,[.agg [.i .i64, .i .i64, .i .i64], .i .i64, .i .i64], .tup [.i .i64, .new 3 [some .i64], .b]⟩
def e_slab_Pick:Entry Sg:=entC c_slab_Pick slab_Pick (λs t p h k w=>[p≤1024])
abbrev Nw (r8:LI) (w:Int):=(iL (if (↑(iF r8):Int)<w then (↑(iF r8):Int) else w))
abbrev Ny (r6:VS×Int) (r12:Int):=(iA iW (↑(kN (iP 32 r6.2 ||| iP 32 r12)):Int))
def slab_Pick_w (s:VS) (t p h k w:Int) (R_:VS×Int×LI×Bool→Prop):Prop:=(bw_ (decide (k<0)||decide (k≥9)||decide (w<1)||decide (w>4)) (R_ ((s,(-1),[],false))) (∀r2:VS×Int×Bool,r2=(slab_open s t p h k)→(aw_ (p≤1024) (bw_ (!r2.2.2) (R_ ((r2.1,(-1),[],false))) (∀r5:Int,r5=(place_Taken t p h r2.2.1)→(∀r6:VS×Int,r6=((VS.read r2.1 r5,VS.get r2.1 r5))→(∀r7:Int,r7=(kSlots k)→(∀r8:LI,r8=(half_Free r6.2 r7)→(bw_ ((↑(iF r8):Int)==0) (R_ ((r6.1,(-1),[],false))) (aw_ ((0≤if (↑(iF r8):Int)<w then (↑(iF r8):Int) else w)∧(if (↑(iF r8):Int)<w then (↑(iF r8):Int) else w)≤(↑(iF r8):Int)) (∀r12:Int,r12=(slab_bits (List.take (Nw r8 w) r8))→(aw_ (nnL (List.take (Nw r8 w) r8)) (∀r14:Int,r14=(place_Taken t p h r2.2.1)→(∀r15:VS,r15=(VS.set r6.1 r14 (Ny r6 r12))→(aw_ (bd32 (Ny r6 r12)) (∀r17:Bool,r17=(slab_full (Ny r6 r12) k)→(aw_ (bd32 (Ny r6 r12)) (bw_ (r17) (∀r20:VS,r20=(link_Pull r15 t p h (place_Rack k) r2.2.1)→(R_ ((r20,r2.2.1,List.take (Nw r8 w) r8,true)))) (R_ ((r15,r2.2.1,List.take (Nw r8 w) r8,true)))))))))))))))))))))
theorem slab_Pick_begin (s:VS) (t p h k w:Int) (hp0:p≤1024):slab_Pick_w s t p h k w (λr__=>r__=(slab_Pick s t p h k w)):=by
 unfold slab_Pick_w Ny Nw
 have hcond:(decide (k<0)||decide (k≥9)||decide (w<1)||decide (w>4))=(decide (k<0)||decide (9≤k)||decide (w<1)||decide (4<w)):=by
  rfl
 rw [hcond]
 refine ⟨λhc=>?_, λhc=>?_⟩
 ·show _=slab_Pick s t p h k w
  rw [slab_Pick,pPick,hc];rfl
 have hkw:(0≤k∧k≤8)∧1≤w∧w≤4:=by
  simp only [jH,decide_eq_false_iff_not] at hc;omega
 have hrun:slab_Pick s t p h k w=((pOpen ⟨t,p,h⟩ k).bind λr=>bif r.2 then .get (Cf.taken ⟨t,p,h⟩ r.1) (pTakeS ⟨t,p,h⟩ r.1 k w) else .ret (-1,[],false)).run s:=by
  rw [slab_Pick,pPick,hc];rfl
 rw [Pg.run_bind] at hrun
 have e0:slab_open s t p h k=(pOpen ⟨t,p,h⟩ k).run s:=rfl
 rw [e0]
 generalize (pOpen ⟨t,p,h⟩ k).run s=o at hrun ⊢
 obtain ⟨s1,g,ok⟩:=o
 rintro r2 rfl
 refine ⟨hp0, λ_=>⟨λhn=>?_, λhn=>?_⟩⟩
 ·have hn':ok=false:=(jO _).mp hn
  subst hn'
  exact hrun.symm
 have hn':ok=true:=(jY _).mp hn
 subst hn'
 simp only [place_Taken_eq,place_Rack_eq]
 rintro r5 rfl r6 rfl r7 rfl r8 rfl
 have hrun:slab_Pick s t p h k w=(pTakeS ⟨t,p,h⟩ g k w (s1.get (Cf.taken ⟨t,p,h⟩ g))).run (s1.read (Cf.taken ⟨t,p,h⟩ g)):=hrun
 have hT:bd32 (s1.get (Cf.taken ⟨t,p,h⟩ g)):=VS.get_bd _ _
 simp only
 rw [half_Free_eq hT (kSlots_bd k).2]
 generalize s1.get (Cf.taken ⟨t,p,h⟩ g)=T at hrun hT ⊢
 generalize s1.read (Cf.taken ⟨t,p,h⟩ g)=u at hrun ⊢
 have hks:=kSlots_bd k
 refine ⟨λhe=>?_, λhe=>⟨⟨by split<;>omega,by split<;>omega⟩, λ_=>?_⟩⟩
 ·show _=slab_Pick s t p h k w
  rw [hrun,pTakeS,he];rfl
 rw [take_if (by omega)]
 have hm:∀x∈(frL T (kSlots k)).take w.toNat,0≤x∧x<32:= λx hx=>by
  have:=frL_mem (pJ hx);omega
 rw [pTakeS,he,cond_false] at hrun
 generalize (frL T (kSlots k)).take w.toNat=l at hrun hm ⊢
 rintro r12 rfl
 refine ⟨λx hx=>(hm x hx).1, λ_=>?_⟩
 rw [or_bits hT hm]
 have hb:=(bitAt_setL hT hm).1
 rintro r14 rfl r15 rfl
 refine ⟨hb, λ_=>?_⟩
 rintro r17 rfl
 refine ⟨hb, λ_=>⟨λhf=>?_, λhf=>?_⟩⟩
 ·rintro r20 rfl
  have hf:full (setL T l) k=true:=hf
  show _=slab_Pick s t p h k w
  rw [hrun,pPutS,hf];simp only [Pg.run_put,Pg.run_bind,Pg.run_ret,cond_true,cond_false]<;>rfl
 ·have hf:full (setL T l) k=false:=hf
  show _=slab_Pick s t p h k w
  rw [hrun,pPutS,hf];simp only [Pg.run_put,Pg.run_bind,Pg.run_ret,cond_true,cond_false]<;>rfl
theorem slab_Pick_ok:EOk 57 e_slab_Pick:=
 ent_w0 Dg T_slab_open_ok (I:=[2999998]) Tryz.func57 mix (B:=bodyOf Tryz.f57) (by kernel_rfl) rfl (by kernel_rfl) 400
  λ_ s t p h k w hb hp=>⟨_, λ_ _ _=>by kernel_rfl,slab_Pick_begin s t p h k w (hp _ (.head _))⟩
def T_slab_Pick:Tb:=(57,e_slab_Pick)::T_slab_open
theorem T_slab_Pick_ok:TOk T_slab_Pick:=tc_ slab_Pick_ok T_slab_open_ok
def slab_Give (s:VS) (t p h g b:Int):VS:=((pGive ⟨t,p,h⟩ g b).run s).1
abbrev c_slab_Give:Ct Sg:=⟨some wView,false,[.agg [.i .i64, .i .i64, .i .i64], .i .i64, .i .i64], .skip⟩
def e_slab_Give:Entry Sg:=entC c_slab_Give slab_Give (λs t p h g b=>[p≤1024,0≤g])
def slab_Give_w (s:VS) (t p h g b:Int) (R_:VS→Prop):Prop:=(bw_ (decide (b<0)||decide (b≥32)) (R_ (s)) (∀r2:Int,r2=(place_Info t p h g)→(∀r3:VS×Int,r3=((VS.read s r2,VS.get s r2))→(∀r4:Int×Int×Int×Bool,r4=(info_Get r3.2)→(∀r6:Int,r6=(place_Rack r4.2.2.1)→(∀r7:Int,r7=(place_Taken t p h g)→(∀r8:VS×Int,r8=((VS.read r3.1 r7,VS.get r3.1 r7))→(∀r10:Int,r10=(slab_bits [b])→(aw_ (nnL [b]) (∀r12:Bool,r12=(slab_full r8.2 r4.2.2.1)→(aw_ (bd32 r8.2) (bw_ (iA iW (↑(kN (iP 32 r8.2 &&& ~~~iP 32 r10)):Int) !=0) (∀r15:Int,r15=(place_Taken t p h g)→(∀r16:VS,r16=(VS.set r8.1 r15 (iA iW (↑(kN (iP 32 r8.2 &&& ~~~iP 32 r10)):Int)))→(aw_ (bd32 (iA iW (↑(kN (iP 32 r8.2 &&& ~~~iP 32 r10)):Int))) (bw_ (r12) (∀r19:VS,r19=(link_Push r16 t p h r6 g)→(R_ (r19))) (R_ (r16)))))) (bw_ (!r12) (∀r16:VS,r16=(link_Pull r8.1 t p h r6 g)→(∀r17:Int,r17=(place_Taken t p h g)→(∀r18:VS,r18=(VS.set r16 r17 0)→(aw_ (bd32 0) (∀r20:VS,r20=(span_Release r18 t p h g 1)→(aw_ (p≤1024) (aw_ (0≤g) (R_ (r20))))))))) (∀r16:Int,r16=(place_Taken t p h g)→(∀r17:VS,r17=(VS.set r8.1 r16 0)→(aw_ (bd32 0) (∀r19:VS,r19=(span_Release r17 t p h g 1)→(aw_ (p≤1024) (aw_ (0≤g) (R_ (r19)))))))))))))))))))))
theorem slab_Give_begin (s:VS) (t p h g b:Int) (hp0:p≤1024) (hp1:0≤g):slab_Give_w s t p h g b (λr__=>r__=(slab_Give s t p h g b)):=by
 unfold slab_Give_w
 refine ⟨λhc=>?_, λhc=>?_⟩
 ·have hc:(decide (b<0)||decide (32≤b))=true:=hc
  show _=slab_Give s t p h g b
  rw [slab_Give,pGive,hc];rfl
 have hb:0≤b∧b<32:=by simp only [jH,decide_eq_false_iff_not] at hc;omega
 have hc:(decide (b<0)||decide (32≤b))=false:=hc
 simp only [place_Taken_eq,place_Rack_eq,place_Info_eq]
 rintro r2 rfl r3 rfl r4 rfl r6 rfl r7 rfl r8 rfl r10 rfl
 refine ⟨λx hx=>by rw [iY] at hx;omega, λ_=>?_⟩
 simp only [infoG1,infoG2,infoG3]
 have hT:=VS.get_bd (s.read (Cf.info ⟨t,p,h⟩ g)) (Cf.taken ⟨t,p,h⟩ g)
 rw [and_bits hT hb]
 have hu:=(bitAt_clrB hT hb).1
 have hrun:slab_Give s t p h g b=((pGive ⟨t,p,h⟩ g b).run s).1:=rfl
 unfold pGive at hrun
 rw [hc,cond_false,Pg.run_bind] at hrun
 simp only [pInfo,Pg.run_get,Pg.run_ret] at hrun
 generalize (s.read (Cf.info ⟨t,p,h⟩ g)).get (Cf.taken ⟨t,p,h⟩ g)=T at hrun hT hu ⊢
 generalize (s.read (Cf.info ⟨t,p,h⟩ g)).read (Cf.taken ⟨t,p,h⟩ g)=u at hrun ⊢
 generalize (iGet (s.get (Cf.info ⟨t,p,h⟩ g))).c=k at hrun ⊢
 rintro r12 rfl
 refine ⟨hT, λ_=>⟨λhz=>?_, λhz=>?_⟩⟩
 ·have hz:(clrB T b==0)=false:=by simpa using hz
  rw [hz] at hrun
  rintro r15 rfl r16 rfl
  refine ⟨hu, λ_=>⟨λhf=>?_, λhf=>?_⟩⟩
  ·rintro r19 rfl
   have hf:full T k=true:=hf
   rw [hf] at hrun;(simp only [Pg.run_put,Pg.run_bind,Pg.run_ret,cond_true,cond_false] at hrun;exact hrun.symm)
  ·have hf:full T k=false:=hf
   rw [hf] at hrun;(simp only [Pg.run_put,Pg.run_bind,Pg.run_ret,cond_true,cond_false] at hrun;exact hrun.symm)
 ·have hz:(clrB T b==0)=true:=by simpa using hz
  rw [hz] at hrun
  refine ⟨λhf=>?_, λhf=>?_⟩
  ·have hf:full T k=false:=(jO _).mp hf
   rw [hf] at hrun
   rintro r16 rfl r17 rfl r18 rfl
   refine ⟨⟨by decide,by decide⟩, λ_=>?_⟩
   rintro r20 rfl
   exact ⟨hp0, λ_=>⟨hp1, λ_=>by simp only [Pg.run_put,Pg.run_bind,Pg.run_ret,cond_true,cond_false] at hrun;exact hrun.symm⟩⟩
  ·have hf:full T k=true:=(jY _).mp hf
   rw [hf] at hrun
   rintro r16 rfl r17 rfl
   refine ⟨⟨by decide,by decide⟩, λ_=>?_⟩
   rintro r19 rfl
   exact ⟨hp0, λ_=>⟨hp1, λ_=>by simp only [Pg.run_put,Pg.run_bind,Pg.run_ret,cond_true,cond_false] at hrun;exact hrun.symm⟩⟩
theorem slab_Give_ok:EOk 48 e_slab_Give:=
 ent_w0 Dg T_slab_Pick_ok (I:=[2999998]) Tryz.func48 mix (B:=bodyOf Tryz.f48) (by kernel_rfl) rfl (by kernel_rfl) 400
  λ_ s t p h g b hb hp=>⟨_, λ_ _ _=>by kernel_rfl,slab_Give_begin s t p h g b (hp _ (.head _)) (hp _ (.tail _ (.head _)))⟩
def T_slab_Give:Tb:=(48,e_slab_Give)::T_slab_Pick
theorem T_slab_Give_ok:TOk T_slab_Give:=tc_ slab_Give_ok T_slab_Pick_ok
end
section
open Go.Sl
theorem cs_n1 {s k:Int} {b:Bool} (h:(kSlots k==0||decide (s<10)||b)=false):0≤s:=by
 have z:=(jH.1 (jH.1 h).1).2
 simp only [decide_eq_false_iff_not] at z;omega
theorem cs_n2 {s k:Int} {b:Bool} (h:(kSlots k==0||decide (s<10)||b)=false):kSlots k≠0:=by
 simp only [jH,beq_eq_false_iff_ne] at h;exact h.1.1
def class_Size (s k:Int):Int:=(bif kSlots k==0||decide (s<10)||decide (s>20) then 0 else iA iB (↑(kN (iP 64 (iA iB (mJ (iA iB ((1:Int)*2^min (iL s) 64)) (kSlots k))) &&& ~~~iP 64 15)):Int))
abbrev c_class_Size:Ct Sg:=⟨none,false,[.i .i64, .i .i64], .i .i64⟩
def e_class_Size:Entry Sg:=entC c_class_Size class_Size (λ_ _=>[])
theorem class_Size_ok:EOk 93 e_class_Size:=
 ent_ok Dg T_slab_Give_ok (I:=[]) Tryz.func93 mix (B:=bodyOf Tryz.f93) (by kernel_rfl) rfl (by kernel_rfl) 400
  λ_ s k hb hp=>⟨(class_Size s k),(.br (kSlots k==0||decide (s<10)||decide (s>20)) .t (.need (0≤s) (.need (kSlots k≠0) .t))), λ_ _ _=>by kernel_rfl,⟨λz0=>trivial, λz0=>⟨(by first|exact cs_n1 z0|exact cs_n2 z0), λz1=>⟨(by first|exact cs_n1 z0|exact cs_n2 z0), λz2=>trivial⟩⟩⟩,rfl⟩
def T_class_Size:Tb:=(93,e_class_Size)::T_slab_Give
theorem T_class_Size_ok:TOk T_class_Size:=tc_ class_Size_ok T_slab_Give_ok
theorem size_table:∀i:Nat,i<11→∀k:Nat,k<9→class_Size (10+(i:Int)) (k:Int)=r05_Size (10+(i:Int)) (k:Int)∧0<r05_Size (10+(i:Int)) (k:Int):=by decide+kernel
theorem r04_Page_pos {s:Int}:(r04_Page 1 4 s==0)=decide (s<10∨20<s):=by
 by_cases h:s<10∨20<s
 ·have:r04_Right 1 4 s=false:=by
   simp only [r04_Right,mD,decide_eq_false_iff_not];omega
  simp [r04_Page,this,h]
 ·have:r04_Right 1 4 s=true:=by
   simp only [r04_Right,iE,decide_eq_true_eq];omega
  have:=pow2_pos s.toNat
  simp only [r04_Page, *,cond_true,decide_false]
  simp;omega
theorem kSlots_zero {k:Int}:(kSlots k==0)=decide (k<0∨9≤k):=by
 by_cases h:k<0∨9≤k
 ·have e:kSlots k=0:=by
   unfold kSlots
   by_cases h0:0≤k
   ·have e:decide (0≤k)=true:=by simpa using h0
    rw [e,cond_true,iD,jP (by simp;omega)];rfl
   ·have e:decide (0≤k)=false:=by simpa using h0
    rw [e];rfl
  rw [e];simp [h]
 ·rcases (by omega:k=0∨k=1∨k=2∨k=3∨k=4∨k=5∨k=6∨k=7∨k=8) with rfl|rfl|rfl|rfl|rfl|rfl|rfl|rfl|rfl<;>decide
theorem slots_same (k:Int):kSlots k=r05_Slots k:=(r05_Slots_eq k).symm
theorem class_Size_zero {s k:Int} (h:k<0∨9≤k∨s<10∨20<s):class_Size s k=0∧r05_Size s k=0:=by
 have h1:(kSlots k==0||decide (s<10)||decide (s>20))=true:=by
  rw [kSlots_zero];simp only [lG,decide_eq_true_eq];omega
 have h2:(r05_Slots k==0||r04_Page 1 4 s==0)=true:=by
  rw [←slots_same,kSlots_zero,r04_Page_pos];simp only [lG,decide_eq_true_eq];omega
 exact ⟨by simp only [class_Size,h1,cond_true],by simp only [r05_Size,h2,cond_true]⟩
theorem size_in {s k:Int} (h:0≤k∧k<9∧10≤s∧s≤20):class_Size s k=r05_Size s k∧0<r05_Size s k:=by
 have:=size_table (s-10).toNat (by omega) k.toNat (by omega)
 rwa [show (10+((s-10).toNat:Int))=s by omega,show ((k.toNat:Nat):Int)=k by omega] at this
theorem size_same (s k:Int):class_Size s k=r05_Size s k:=by
 by_cases h:0≤k∧k<9∧10≤s∧s≤20
 ·exact (size_in h).1
 ·obtain ⟨h1,h2⟩:=class_Size_zero (s:=s) (k:=k) (by omega);rw [h1,h2]
def ofOpt:Option Nat→Int×Bool
 |some k=>((k:Int),true)
 |none=>(0,false)
theorem right_iff {t p s:Int}:r04_Right t p s=true↔(1≤t∧t≤16)∧(4≤p∧p≤1024)∧10≤s∧s≤20:=by
 simp only [r04_Right,iE,decide_eq_true_eq];omega
theorem need_Page {t p s:Int} (h:(conf_Check t p s !=0)=false):0≤s:=by
 rw [conf_Check_eq] at h
 cases hr:r04_Right t p s with
 |true=>have:=right_iff.1 hr;omega
 |false=>rw [hr] at h;simp at h
def conf_Page (t p s:Int):Int:=(bif conf_Check t p s !=0 then 0 else iA iB ((1:Int)*2^min (iL s) 64))
abbrev c_conf_Page:Ct Sg:=⟨none,false,[.agg [.i .i64, .i .i64, .i .i64]], .i .i64⟩
def e_conf_Page:Entry Sg:=entC c_conf_Page conf_Page (λ_ _ _=>[])
theorem conf_Page_ok:EOk 91 e_conf_Page:=
 ent_ok Dg T_class_Size_ok (I:=[]) Tryz.func91 mix (B:=bodyOf Tryz.f91) (by kernel_rfl) rfl (by kernel_rfl) 400
  λ_ t p s hb hp=>⟨(conf_Page t p s),(.br (conf_Check t p s !=0) .t (.need (0≤s) .t)), λ_ _ _=>by kernel_rfl,⟨λz1=>trivial, λz1=>⟨(by exact need_Page (by assumption)), λz2=>trivial⟩⟩,rfl⟩
def T_conf_Page:Tb:=(91,e_conf_Page)::T_class_Size
theorem T_conf_Page_ok:TOk T_conf_Page:=tc_ conf_Page_ok T_class_Size_ok
theorem conf_Page_eq (t p s:Int):conf_Page t p s=r04_Page t p s:=by
 unfold conf_Page r04_Page
 rw [conf_Check_eq]
 cases hr:r04_Right t p s with
 |false=>rfl
 |true=>
  have:=right_iff.1 hr
  have h1:=pow2_pos s.toNat
  have h2:=pow2_le (show s.toNat≤20 by omega)
  simp only [cond_true,kU,cond_false,bne_self_eq_false]
  rw [show min s.toNat 64=s.toNat by omega,nV,w64 (by omega)]
theorem page_zero {t p s:Int} (h:r04_Right t p s=false):r04_Page t p s=0:=by simp [r04_Page,h]
theorem pgIn {t p s:Int} (h:r04_Right t p s=true):r04_Page t p s=2^s.toNat:=by simp [r04_Page,h]
theorem s_of_page {t p s:Int} (h:r04_Page t p s≠0):0≤s:=by
 cases hr:r04_Right t p s with
 |true=>have:=right_iff.1 hr;omega
 |false=>exact absurd (page_zero hr) h
def conf_Bytes (t p s:Int):Int:=iA iB (conf_Page t p s*p)
abbrev c_conf_Bytes:Ct Sg:=⟨none,false,[.agg [.i .i64, .i .i64, .i .i64]], .i .i64⟩
def e_conf_Bytes:Entry Sg:=entC c_conf_Bytes conf_Bytes (λ_ _ _=>[])
theorem conf_Bytes_ok:EOk 92 e_conf_Bytes:=
 ent_ok Dg T_conf_Page_ok (I:=[]) Tryz.func92 mix (B:=bodyOf Tryz.f92) (by kernel_rfl) rfl (by kernel_rfl) 400
  λ_ t p s hb hp=>⟨(conf_Bytes t p s), .t, λ_ _ _=>by kernel_rfl,trivial,rfl⟩
def T_conf_Bytes:Tb:=(92,e_conf_Bytes)::T_conf_Page
theorem T_conf_Bytes_ok:TOk T_conf_Bytes:=tc_ conf_Bytes_ok T_conf_Page_ok
def spot_there (pg off t p s:Int):Bool:=conf_Check t p s==0&&decide (pg≥0)&&decide (pg<p)&&decide (off≥0)&&decide (off<conf_Page t p s)
abbrev c_spot_there:Ct Sg:=⟨none,false,[.agg [.i .i64, .i .i64], .agg [.i .i64, .i .i64, .i .i64]], .b⟩
def e_spot_there:Entry Sg:=entC c_spot_there spot_there (λ_ _ _ _ _=>[])
theorem spot_there_ok:EOk 94 e_spot_there:=
 ent_ok Dg T_conf_Bytes_ok (I:=[]) Tryz.func94 mix (B:=bodyOf Tryz.f94) (by kernel_rfl) rfl (by kernel_rfl) 400
  λ_ pg off t p s hb hp=>⟨(spot_there pg off t p s), .t, λ_ _ _=>by kernel_rfl,trivial,rfl⟩
def T_spot_there:Tb:=(94,e_spot_there)::T_conf_Bytes
theorem T_spot_there_ok:TOk T_spot_there:=tc_ spot_there_ok T_conf_Bytes_ok
theorem there_right {pg off t p s:Int} (h:spot_there pg off t p s=true):r04_Right t p s=true:=by
 simp only [spot_there,iE] at h
 have:=h.1.1.1.1
 rw [conf_Check_eq] at this
 cases hr:r04_Right t p s with
 |true=>rfl
 |false=>rw [hr] at this;simp at this
theorem need_Of {pg off t p s:Int} (h:(!spot_there pg off t p s)=false):0≤s:=by
 have:=right_iff.1 (there_right (by simpa using h));omega
theorem need_aPage {t p s:Int} {b c:Bool} (h:(conf_Page t p s==0||b||c)=false):0≤s:=by
 simp only [jH,beq_eq_false_iff_ne,ne_eq,conf_Page_eq] at h
 exact s_of_page h.1.1
theorem need_Slot {s k:Int} {b:Bool} (h:(class_Size s k==0||b)=false):class_Size s k≠0:=by
 simp only [jH,beq_eq_false_iff_ne,ne_eq] at h;exact h.1
def addr_Of (t p s pg off:Int):Int×Bool:=(bif !spot_there pg off t p s then (0,false) else (iA iB (↑(kN (iP 64 (iA iB (iA iB (pg+1)*2^min (iL s) 64)) ||| iP 64 off)):Int),true))
abbrev c_addr_Of:Ct Sg:=⟨none,false,[.agg [.i .i64, .i .i64, .i .i64], .i .i64, .i .i64], .tup [.i .i64, .b]⟩
def e_addr_Of:Entry Sg:=entC c_addr_Of addr_Of (λ_ _ _ _ _=>[])
theorem addr_Of_ok:EOk 62 e_addr_Of:=
 ent_ok Dg T_spot_there_ok (I:=[]) Tryz.func62 mix (B:=bodyOf Tryz.f62) (by kernel_rfl) rfl (by kernel_rfl) 400
  λ_ t p s pg off hb hp=>⟨(addr_Of t p s pg off),(.br (!spot_there pg off t p s) .t (.need (0≤s) .t)), λ_ _ _=>by kernel_rfl,⟨λz1=>trivial, λz1=>⟨(by exact need_Of (by assumption)), λz2=>trivial⟩⟩,rfl⟩
def T_addr_Of:Tb:=(62,e_addr_Of)::T_spot_there
theorem T_addr_Of_ok:TOk T_addr_Of:=tc_ addr_Of_ok T_spot_there_ok
def addr_Page (t p s a:Int):Int×Int×Bool:=(bif conf_Page t p s==0||decide (a<conf_Page t p s)||decide (a>iA iB (iA iB (conf_Bytes t p s+conf_Page t p s)-1)) then (0,0,false) else (iA iB (jS a (2^min (iL s) 64)-1),iA iB (↑(kN (iP 64 a &&& iP 64 (iA iB (conf_Page t p s-1)))):Int),true))
abbrev c_addr_Page:Ct Sg:=⟨none,false,[.agg [.i .i64, .i .i64, .i .i64], .i .i64], .tup [.i .i64, .i .i64, .b]⟩
def e_addr_Page:Entry Sg:=entC c_addr_Page addr_Page (λ_ _ _ _=>[])
theorem addr_Page_ok:EOk 55 e_addr_Page:=
 ent_ok Dg T_addr_Of_ok (I:=[]) Tryz.func55 mix (B:=bodyOf Tryz.f55) (by kernel_rfl) rfl (by kernel_rfl) 400
  λ_ t p s a hb hp=>⟨(addr_Page t p s a),(.br (conf_Page t p s==0||decide (a<conf_Page t p s)||decide (a>iA iB (iA iB (conf_Bytes t p s+conf_Page t p s)-1))) .t (.need (0≤s) .t)), λ_ _ _=>by kernel_rfl,⟨λz1=>trivial, λz1=>⟨(by exact need_aPage (by assumption)), λz2=>trivial⟩⟩,rfl⟩
def T_addr_Page:Tb:=(55,e_addr_Page)::T_addr_Of
theorem T_addr_Page_ok:TOk T_addr_Page:=tc_ addr_Page_ok T_addr_Of_ok
def r06_Page (t p s a:Int):Int×Int×Bool:=(bif !r04_Right t p s||decide (a<0)||decide (iA iB (mJ a (r04_Page t p s))<1)||decide (iA iB (mJ a (r04_Page t p s))>p) then (0,0,false) else (iA iB (iA iB (mJ a (r04_Page t p s))-1),qD a (r04_Page t p s),true))
def T_r06_Page:Tb:=T_addr_Page
theorem T_r06_Page_ok:TOk T_r06_Page:=T_addr_Page_ok
def addr_first (t p s k n:Int):Int×Int×Bool:=(bif decide (n<0)||decide (n≥kSlots k) then (0,0,false) else (0,iA iB (n*class_Size s k),true))
abbrev c_addr_first:Ct Sg:=⟨none,false,[.agg [.i .i64, .i .i64, .i .i64], .i .i64, .i .i64], .tup [.agg [.i .i64, .i .i64], .b]⟩
def e_addr_first:Entry Sg:=entC c_addr_first addr_first (λ_ _ _ _ _=>[])
theorem addr_first_ok:EOk 61 e_addr_first:=
 ent_ok Dg T_r06_Page_ok (I:=[]) Tryz.func61 mix (B:=bodyOf Tryz.f61) (by kernel_rfl) rfl (by kernel_rfl) 400
  λ_ t p s k n hb hp=>⟨(addr_first t p s k n), .t, λ_ _ _=>by kernel_rfl,trivial,rfl⟩
def T_addr_first:Tb:=(61,e_addr_first)::T_r06_Page
theorem T_addr_first_ok:TOk T_addr_first:=tc_ addr_first_ok T_r06_Page_ok
def addr_At (t p s k pg n:Int):Int×Bool:=(bif !Prod.snd (lD (addr_first t p s k n)) then (0,false) else (jZ (addr_Of t p s pg (jZ (lD (addr_first t p s k n)))),lD (addr_Of t p s pg (jZ (lD (addr_first t p s k n))))))
abbrev c_addr_At:Ct Sg:=⟨none,false,[.agg [.i .i64, .i .i64, .i .i64], .i .i64, .i .i64, .i .i64], .tup [.i .i64, .b]⟩
def e_addr_At:Entry Sg:=entC c_addr_At addr_At (λ_ _ _ _ _ _=>[])
theorem addr_At_ok:EOk 33 e_addr_At:=
 ent_ok Dg T_addr_first_ok (I:=[]) Tryz.func33 mix (B:=bodyOf Tryz.f33) (by kernel_rfl) rfl (by kernel_rfl) 400
  λ_ t p s k pg n hb hp=>⟨(addr_At t p s k pg n), .t, λ_ _ _=>by kernel_rfl,trivial,rfl⟩
def T_addr_At:Tb:=(33,e_addr_At)::T_addr_first
theorem T_addr_At_ok:TOk T_addr_At:=tc_ addr_At_ok T_addr_first_ok
def addr_Slot (t p s k off:Int):Int×Bool:=(bif class_Size s k==0||!spot_there 0 off t p s then (0,false) else (bif !Prod.snd (lD (addr_first t p s k (iA iB (mJ off (class_Size s k)))))||!(jZ (addr_first t p s k (iA iB (mJ off (class_Size s k))))==0&&(jZ (lD (addr_first t p s k (iA iB (mJ off (class_Size s k)))))==off&&true)) then (0,false) else (iA iB (mJ off (class_Size s k)),true)))
abbrev c_addr_Slot:Ct Sg:=⟨none,false,[.agg [.i .i64, .i .i64, .i .i64], .i .i64, .i .i64], .tup [.i .i64, .b]⟩
def e_addr_Slot:Entry Sg:=entC c_addr_Slot addr_Slot (λ_ _ _ _ _=>[])
theorem addr_Slot_ok:EOk 56 e_addr_Slot:=
 ent_ok Dg T_addr_At_ok (I:=[]) Tryz.func56 mix (B:=bodyOf Tryz.f56) (by kernel_rfl) rfl (by kernel_rfl) 400
  λ_ t p s k off hb hp=>⟨(addr_Slot t p s k off),(.br (class_Size s k==0||!spot_there 0 off t p s) .t (.need (class_Size s k≠0) .t)), λ_ _ _=>by kernel_rfl,⟨λz1=>trivial, λz1=>⟨(by exact need_Slot (by assumption)), λz2=>trivial⟩⟩,rfl⟩
def T_addr_Slot:Tb:=(56,e_addr_Slot)::T_addr_At
theorem T_addr_Slot_ok:TOk T_addr_Slot:=tc_ addr_Slot_ok T_addr_At_ok
def r06_Slot (t p s k off:Int):Int×Bool:=bif !r04_Right t p s then (0,false) else ofOpt (firstP (r05_Slots k).toNat λi=>off==iA iB ((i:Int)*r05_Size s k))
def T_r06_Slot:Tb:=T_addr_Slot
theorem T_r06_Slot_ok:TOk T_r06_Slot:=T_addr_Slot_ok
end
section
open Go.Sl
def clone64 (xs:LI):LI:=(xs)
def clone64_out (r_:LI):List Value→Value:= λss=>ss.getD 0 undef
def clone64_nw (r_:LI):List (Chunk Sg):=[]
def clone64_rows (r_:LI):List (Mk Sg):=[.row 2 [.ints .i64 (r_)]]
section
variable (xs:LI) (a_0:Option Addr) (c_0:Nat)
def clone64_wp0 (xs:LI) (a_0:Option Addr) (c_0:Nat) (R_:LI→Prop):Prop:=(((mW a_0)=true→(R_ ([])))∧((mW a_0)=false→(∀b1_0:Nat,(((0+iF xs)*8≤140737488355328)∧(((0+iF xs)*8≤140737488355328)→(∀(b3_0:Option Nat) (b3_1:Nat),(R_ ([]++xs))))))))
theorem clone64_calls {E_:Ev} {G_:Hp} {w_:World} (hr0:RowAt G_ a_0 xs.length [.ints .i64 xs]∧xs.length≤c_0) (hp0:xs.length*16≤140737488355328) (hS:Sat E_ G_ w_ []):Calls Tryz.prog 54 #[(.slice a_0 xs.length c_0)] w_ (Post Dg E_ G_ (clone64_out (clone64 xs)) (clone64_nw (clone64 xs)) (clone64_rows (clone64 xs))):=by
 have h:clone64_wp0 xs a_0 c_0 (λx=>x=(clone64 xs)):=by
  unfold clone64_wp0
  refine ⟨λh=>?_, λ_ _=>⟨by simp only [lV];omega, λ_ _ _=>by simp [clone64]⟩⟩
  cases a_0 with
  |some b=>simp at h
  |none=>
   have hz:=row_none hr0.1
   have hx:xs=[]:=lW hz
   subst hx
   rfl
 exact calls_post Dg T_r06_Slot_ok (I:=[]) Tryz.func54 mix (B:=bodyOf Tryz.f54) (by kernel_rfl) [(.slice a_0 xs.length c_0)] [.pt 0 .slice] (by kernel_rfl) (objs:=[]) (ros:=[.ro a_0 xs.length c_0 [.ints .i64 xs]]) (psOk_cons (pOk_at rfl rfl) (psOk_nil)) (by kernel_rfl) (⟨hr0,trivial⟩) hS 400
  (t:=Tree.br (mW a_0) (Tree.ret (iH none 0 0) pn_ [jV a_0 (iF xs) c_0 [ci_ xs]]) (Tree.fresh λb=>Tree.need ((0+iF xs)*8≤140737488355328) (Tree.freshS λa cap=>Tree.ret (vs_ (ob_ a) (0+iF xs) cap) (ps_ 2) [jV a_0 (iF xs) c_0 [ci_ xs],Chunk.dead,kr_ a 2 (0+iF xs) cap [ci_ ([]++xs)]])))
  (by kernel_rfl)
  (⟨λz0=>RetOk.at (outf:=clone64_out) (nwf:=clone64_nw) (rowsf:=clone64_rows) (r:=[]) (h.1 z0) ⟨[(none,0,0,none)],[1000],(by decide),rfl,rfl,⟨.inr (by kernel_rfl),trivial⟩⟩, λz0=> λb1_0=>⟨((h.2 z0) b1_0).1, λz2=> λb3_0 b3_1=>RetOk.at (outf:=clone64_out) (nwf:=clone64_nw) (rowsf:=clone64_rows) (r:=[]++xs) ((((h.2 z0) b1_0).2 z2) b3_0 b3_1) ⟨[(b3_0,0+iF xs,b3_1,none)],[2],(by decide),rfl,rfl,⟨.inl rfl,trivial⟩⟩⟩⟩)
end
def clone64_e:Entry Sg:= λ
 |[(_, .row n_0 [.ints .i64 xs])]=>some ⟨(clone64 xs), λ(r_:LI)=>⟨[(xs.length*16≤140737488355328:Prop)],none,[.row 2 [.ints .i64 (r_)]], λss=>ss.getD 0 undef, λk_=> .pt k_ .slice⟩⟩
 |_=>none
theorem clone64_ok:EntryOk Dg Tryz.prog 54 clone64_e:=by
 intro args c r h hr_
 unfold clone64_e at h
 split at h
 ·injection h with h;subst h;subst hr_
  refine ⟨(by
  intro K acs hl
  match acs,hl with
  |[a0_],hl=>
   simp only [acsOk,acOk] at hl
   simp [pOk,psOk,cOk,sliceC,sliceV,sliceVal,lenC,lJ,fzB,Col.isFz]), λhpre E G w hi hS=>?_⟩
  have hi_0:=hi _ (jC (i:=0) rfl)
  simp only [iOk,isOk,and_true,true_and] at hi_0
  obtain ⟨a_0,c_0,e_0,hr0⟩:=hi_0
  replace hr0:=And.intro hr0.1 hr0.2.1
  have l_0:=hr0.1.len
  simp only [lJ] at l_0
  subst l_0
  subst e_0
  exact entry_post Dg (by exact rfl) (clone64_calls _ _ _ hr0 (hpre _ (by simp)) hS)
 ·cases h
def T_clone64:List (Nat×Entry Sg):=(54,clone64_e)::T_r06_Slot
theorem T_clone64_ok:TableOk Dg Tryz.prog T_clone64:=TableOk.cons Dg clone64_ok T_r06_Slot_ok
theorem fz_ints {G:Hp} {a:Option Addr} {n:Nat} {xs:LI} (h:RowAt G a n [.fz xs]):RowAt G a n [.ints .i64 xs]:=by
 refine ⟨λc hc=>?_, λi hi=>?_,h.2.2⟩
 ·rw [iY.1 hc];exact h.1 (.fz xs) (by simp)
 ·obtain ⟨b,hb,hc⟩:=h.2.1 i hi
  refine ⟨b,hb, λj c hj=>?_⟩
  cases j with
  |zero=>
   simp only [jJ,iC] at hj
   subst hj
   exact hc 0 (.fz xs) rfl
  |succ j=>simp at hj
def cl64_e:Entry Sg:= λ
 |[(v, .row n [.fz xs])]=>clone64_e [(v, .row n [.ints .i64 xs])]
 |args=>clone64_e args
theorem cl64_ok:EntryOk Dg Tryz.prog 54 cl64_e:=by
 intro args c r h hr
 unfold cl64_e at h
 split at h
 ·rename_i v n xs
  have h1:=clone64_ok _ c r h hr
  refine ⟨h1.1, λhp E G w hi hS=>?_⟩
  have h2:=h1.2 hp E G w (λx hx=>?_) (by simpa [objAs,objOf,objsOf,objsV] using hS)
  ·simpa [newAs,objOf,objsOf,objsV] using h2
  ·rw [iY.1 hx]
   have h3:=hi _ (.head _)
   simp only [iOk] at h3 ⊢
   obtain ⟨a,cap,e,h4,h5,_⟩:=h3
   exact ⟨a,cap,e,fz_ints h4,h5, λh=>by cases h⟩
 ·exact clone64_ok _ c r h hr
def T_cl64:List (Nat×Entry Sg):=(54,cl64_e)::T_clone64
theorem T_cl64_ok:TableOk Dg Tryz.prog T_cl64:=TableOk.cons Dg cl64_ok T_clone64_ok
end
section
open Go.Sl
def pkGet (k:Int) (x0 x1 x2 x3 x4 x5 x6 x7 x8:LI):LI:=match k with
 | .ofNat n=>[x0,x1,x2,x3,x4,x5,x6,x7,x8].getD n []
 | .negSucc _=>[]
def kIn (k:Int):Bool:=decide (k≥0)&&decide (k<9)
def pkSel (k i:Int) (l x:LI):LI:=bif k==i then l else x
abbrev PkT:=LI×LI×LI×LI×LI×LI×LI×LI×LI
def lastI (l:LI):Int×Bool:=bif iM l.length 0 then (0,false) else (l.getD (l.length-1) 0,true)
abbrev i64R (a:Int):Prop:= -9223372036854775808≤a∧a<9223372036854775808
def lB (l:LI):Prop:=l.length≤1000000∧∀a∈l,i64R a
def pkB (x0 x1 x2 x3 x4 x5 x6 x7 x8:LI):Prop:=lB x0∧lB x1∧lB x2∧lB x3∧lB x4∧lB x5∧lB x6∧lB x7∧lB x8
theorem lB_nil:lB []:=⟨by simp, λa h=>by cases h⟩
theorem pkB_get {x0 x1 x2 x3 x4 x5 x6 x7 x8:LI} (h:pkB x0 x1 x2 x3 x4 x5 x6 x7 x8) (k:Int):lB (pkGet k x0 x1 x2 x3 x4 x5 x6 x7 x8):=by
 obtain ⟨h0,h1,h2,h3,h4,h5,h6,h7,h8⟩:=h
 cases k with
 |negSucc n=>exact lB_nil
 |ofNat n=>match n with
  |0=>exact h0
  |1=>exact h1
  |2=>exact h2
  |3=>exact h3
  |4=>exact h4
  |5=>exact h5
  |6=>exact h6
  |7=>exact h7
  |8=>exact h8
  |n+9=>exact lB_nil
abbrev lcI (x:LI):Int:=((lenC [iS x]:Nat):Int)
theorem lcI_0 {x:LI} (h:(lcI x==(0:Int))=true):x.length=0:=by
 have h1:lcI x=0:=by simpa only [beq_iff_eq] using h
 have h2:((x.length:Nat):Int)=0:=h1
 omega
theorem lcI_1 {x:LI} (h:(lcI x==(0:Int))=false):0<x.length:=by
 have h1:lcI x≠0:=by simpa only [beq_eq_false_iff_ne] using h
 have h2:((x.length:Nat):Int)≠0:=h1
 omega
theorem lcI_w {x:LI} (hb:lB x) (h:(lcI x==(0:Int))=false):iA iB (lcI x-(1:Int))=((x.length-1:Nat):Int):=by
 have:=lcI_1 h
 have:=hb.1
 have e:lcI x=((x.length:Nat):Int):=rfl
 rw [e,w64 (by omega)];omega
theorem lastI_0 {x:LI} (h:(lcI x==(0:Int))=true):((0:Int),false)=lastI x:=by
 have:x=[]:=lW (lcI_0 h)
 subst this;rfl
theorem lastI_n {x:LI} (hb:lB x) (h:(lcI x==(0:Int))=false):(0:Int)≤iA iB (lcI x-(1:Int))∧iA iB (lcI x-(1:Int))<lcI x:=by
 have h1:=lcI_1 h
 rw [lcI_w hb h]
 have e:lcI x=((x.length:Nat):Int):=rfl
 rw [e];omega
theorem lastI_s {x:LI} (h:0<x.length):lastI x=(x.getD (x.length-1) 0,true):=by
 unfold lastI
 have:iM x.length 0=false:=by
  cases hh:iM x.length 0 with
  |false=>rfl
  |true=>have:=iJ hh;omega
 rw [this];rfl
theorem lastI_1 {x:LI} (hb:lB x) (h:(lcI x==(0:Int))=false):(x.getD (iL (iA iB (lcI x-(1:Int)))) (0:Int),true)=lastI x:=by
 rw [lcI_w hb h,kT,lastI_s (lcI_1 h)]
def popL (l:LI):LI:=l.take (l.length-1)
def pushL (l:LI) (a:Int):LI:=bif decide (l.length<4) then l++[a] else l
theorem lastI_t {x:LI} (h:(lastI x).2=true):0<x.length:=by
 cases x with
 |nil=>cases h
 |cons a l=>simp
theorem lastI_f {x:LI} (h:(lastI x).2=false):x=[]:=by
 cases x with
 |nil=>rfl
 |cons a l=>rw [lastI_s (by simp)] at h;cases h
theorem lcI_v {x:LI} (hb:lB x) (h:0<x.length):iA iB (lcI x-(1:Int))=((x.length-1:Nat):Int):=by
 have:=hb.1
 have e:lcI x=((x.length:Nat):Int):=rfl
 rw [e,w64 (by omega)];omega
theorem popL_n {x:LI} (hb:lB x) (h:0<x.length):(0:Int)≤iA iB (lcI x-(1:Int))∧iA iB (lcI x-(1:Int))≤lcI x:=by
 rw [lcI_v hb h]
 have e:lcI x=((x.length:Nat):Int):=rfl
 rw [e];omega
theorem popL_t {x:LI} (hb:lB x) (h:0<x.length):List.take (iL (iA iB (lcI x-(1:Int)))) x=popL x:=by
 rw [lcI_v hb h,kT];rfl
theorem popL_len (x:LI):(popL x).length≤x.length:=by unfold popL;rw [mL];omega
theorem pushL_t {x:LI} {a:Int} (h:x.length<4):pushL x a=x++[a]∧decide (x.length<4)=true:=by
 have:decide (x.length<4)=true:=by simpa using h
 exact ⟨by unfold pushL;rw [this];rfl,this⟩
theorem pushL_f {x:LI} {a:Int} (h:¬x.length<4):pushL x a=x∧decide (x.length<4)=false:=by
 have:decide (x.length<4)=false:=by simpa using h
 exact ⟨by unfold pushL;rw [this];rfl,this⟩
theorem lc_ge4 {x:LI} {b:Bool} (h:decide (lcI x≥(4:Int))=b):(b=true→¬x.length<4)∧(b=false→x.length<4):=by
 subst h
 have e:lcI x=((x.length:Nat):Int):=rfl
 rw [e]
 simp only [decide_eq_true_eq,decide_eq_false_iff_not];omega
theorem take_eq_all {l m:LI} (hl:l.length=m.length) (h:l.take l.length=m.take l.length):l=m:=by
 rw [pN,hl,pN] at h;exact h
def onP (t p h pg a:Int):Bool:=(r06_Page t p h a).2.2&&((r06_Page t p h a).1==pg)
end
section
open Go.Sl
def p_there (k:Int):Bool:=decide (k≥0)&&decide (k<9)
abbrev c_p_there:Ct Sg:=⟨none,false,[.i .i64], .b⟩
def e_p_there:Entry Sg:=entC c_p_there p_there (λ_=>[])
theorem p_there_ok:EOk 79 e_p_there:=
 ent_ok Dg T_cl64_ok (I:=[]) Tryz.func79 mix (B:=bodyOf Tryz.f79) (by kernel_rfl) rfl (by kernel_rfl) 400
  λ_ k hb hp=>⟨(p_there k), .t, λ_ _ _=>by kernel_rfl,trivial,rfl⟩
def T_p_there:Tb:=(79,e_p_there)::T_cl64
theorem T_p_there_ok:TOk T_p_there:=tc_ p_there_ok T_cl64_ok
end
section
open Go Go.Sl
abbrev Oy (x:LI):Int:=iA iB (lcI x-1)
abbrev qI (k:Int):Prop:=0≤k∧k<9
def lastW (k:Int) (x:LI) (R:Int×Bool→Prop):Prop:=
 aw_ (false=false→qI k) (bw_ (lcI x==0) (R (0,false)) (aw_ (qI k) (aw_ (qI k) (aw_ (0≤Oy x∧Oy x<lcI x) (R (x.getD (Oy x).toNat 0,true))))))
theorem lastW_ok {k:Int} {x:LI} (hk:qI k) (hb:lB x):lastW k x λr=>r=lastI x:=
 ⟨λ_=>hk, λ_=>⟨λhc=>lastI_0 hc, λhc=>⟨hk, λ_=>⟨hk, λ_=>⟨lastI_n hb hc, λ_=>lastI_1 hb hc⟩⟩⟩⟩⟩
section
variable (k:Int) (x0 x1 x2 x3 x4 x5 x6 x7 x8:LI)
abbrev gI:LI:=pkGet k x0 x1 x2 x3 x4 x5 x6 x7 x8
abbrev pI (r:LI):PkT:=(pkSel k 0 r x0,pkSel k 1 r x1,pkSel k 2 r x2,pkSel k 3 r x3,pkSel k 4 r x4,pkSel k 5 r x5,pkSel k 6 r x6,pkSel k 7 r x7,pkSel k 8 r x8)
end
def tup1 (a:Int) (p:PkT) (b:Bool):Int×LI×LI×LI×LI×LI×LI×LI×LI×LI×Bool:=(a,p.1,p.2.1,p.2.2.1,p.2.2.2.1,p.2.2.2.2.1,p.2.2.2.2.2.1,p.2.2.2.2.2.2.1,p.2.2.2.2.2.2.2.1,p.2.2.2.2.2.2.2.2,b)
def tup0 (p:PkT) (b:Bool):LI×LI×LI×LI×LI×LI×LI×LI×LI×Bool:=(p.1,p.2.1,p.2.2.1,p.2.2.2.1,p.2.2.2.2.1,p.2.2.2.2.2.1,p.2.2.2.2.2.2.1,p.2.2.2.2.2.2.2.1,p.2.2.2.2.2.2.2.2,b)
def popW (k:Int) (P:Prop) (x:LI) (l:Int×Bool) (Y:LI→Prop):Prop:=
 aw_ P (bw_ l.2 (aw_ (qI k) (aw_ (qI k) (aw_ (0≤Oy x∧Oy x≤lcI x) (∀r:LI,r=clone64 (x.take (Oy x).toNat)→aw_ ((x.take (Oy x).toNat).length*16≤140737488355328) (aw_ (qI k) (tw_ (Y r))))))) (tw_ (Y x)))
theorem popW_ok {k:Int} {P:Prop} {x:LI} {Y:LI→Prop} (hk:qI k) (hP:P) (hb:lB x) (hY:Y (popL x)):popW k P x (lastI x) Y:=by
 refine ⟨hP, λ_=>⟨λhc=>⟨hk, λ_=>⟨hk, λ_=>⟨popL_n hb (lastI_t hc), λ_=>?_⟩⟩⟩, λhc=>?_⟩⟩
 ·rintro r rfl
  have e:x.take (Oy x).toNat=popL x:=popL_t hb (lastI_t hc)
  have h1:=hb.1
  have h2:=popL_len x
  refine ⟨by rw [e];omega, λ_=>⟨hk, λ_=>?_⟩⟩
  have e2:clone64 (x.take (Oy x).toNat)=popL x:=e
  rw [e2]
  exact ⟨hY,hY⟩
 ·have hx:x=[]:=lastI_f hc
  subst hx
  exact ⟨hY,hY⟩
def pushW (k:Int) (x:LI) (a:Int) (n:Prop) (Y:LI→Prop):Prop:=
 aw_ (false=false→qI k) (bw_ (decide (lcI x≥4)) n (aw_ (qI k) (∀r:LI,r=clone64 x→aw_ (x.length*16≤140737488355328) (aw_ ((r.length+1)*8≤140737488355328) (aw_ (qI k) (Y (r++[a])))))))
theorem pushW_ok {k:Int} {x:LI} {a:Int} {n:Prop} {Y:LI→Prop} (hk:qI k) (hn:pushL x a=x→decide (x.length<4)=false→n) (hY:pushL x a=x++[a]→decide (x.length<4)=true→Y (x++[a])):pushW k x a n Y:=by
 refine ⟨λ_=>hk, λ_=>⟨λhc=>?_, λhc=>⟨hk, λ_=>?_⟩⟩⟩
 ·have h:=pushL_f (a:=a) ((lc_ge4 hc).1 rfl)
  exact hn h.1 h.2
 ·have h0:=(lc_ge4 hc).2 rfl
  have h:=pushL_t (a:=a) h0
  intro r hr
  rw [show r=x from hr]
  exact ⟨by omega, λ_=>⟨by omega, λ_=>⟨hk, λ_=>hY h.1 h.2⟩⟩⟩
section
variable {x0 x1 x2 x3 x4 x5 x6 x7 x8:LI}
def popT (k:Int) (x0 x1 x2 x3 x4 x5 x6 x7 x8:LI):=tup1 (lastI (gI k x0 x1 x2 x3 x4 x5 x6 x7 x8)).1 (pI k x0 x1 x2 x3 x4 x5 x6 x7 x8 (popL (gI k x0 x1 x2 x3 x4 x5 x6 x7 x8))) (lastI (gI k x0 x1 x2 x3 x4 x5 x6 x7 x8)).2
def pushT (k a:Int) (x0 x1 x2 x3 x4 x5 x6 x7 x8:LI):=tup0 (pI k x0 x1 x2 x3 x4 x5 x6 x7 x8 (pushL (gI k x0 x1 x2 x3 x4 x5 x6 x7 x8) a)) (kIn k&&decide ((gI k x0 x1 x2 x3 x4 x5 x6 x7 x8).length<4))
theorem popW_all (k:Int) (hk:qI k) (h:pkB x0 x1 x2 x3 x4 x5 x6 x7 x8):popW k (pkB x0 x1 x2 x3 x4 x5 x6 x7 x8) (gI k x0 x1 x2 x3 x4 x5 x6 x7 x8) (lastI (gI k x0 x1 x2 x3 x4 x5 x6 x7 x8)) λr=>tup1 (lastI (gI k x0 x1 x2 x3 x4 x5 x6 x7 x8)).1 (pI k x0 x1 x2 x3 x4 x5 x6 x7 x8 r) (lastI (gI k x0 x1 x2 x3 x4 x5 x6 x7 x8)).2=popT k x0 x1 x2 x3 x4 x5 x6 x7 x8:=
 popW_ok hk h (pkB_get h k) rfl
theorem kIn_q {k:Int} (h:qI k):kIn k=true:=by
 unfold kIn;simp only [iE,decide_eq_true_eq];exact ⟨h.1,h.2⟩
theorem pushT_n {k a:Int} (he:(x0,x1,x2,x3,x4,x5,x6,x7,x8)=pI k x0 x1 x2 x3 x4 x5 x6 x7 x8 (gI k x0 x1 x2 x3 x4 x5 x6 x7 x8)) (h:pushL (gI k x0 x1 x2 x3 x4 x5 x6 x7 x8) a=gI k x0 x1 x2 x3 x4 x5 x6 x7 x8) (hd:decide ((gI k x0 x1 x2 x3 x4 x5 x6 x7 x8).length<4)=false):tup0 (x0,x1,x2,x3,x4,x5,x6,x7,x8) false=pushT k a x0 x1 x2 x3 x4 x5 x6 x7 x8:=by
 unfold pushT;rw [h,hd,←he,oX]
theorem pushT_y {k a:Int} (hk:qI k) (h:pushL (gI k x0 x1 x2 x3 x4 x5 x6 x7 x8) a=gI k x0 x1 x2 x3 x4 x5 x6 x7 x8++[a]) (hd:decide ((gI k x0 x1 x2 x3 x4 x5 x6 x7 x8).length<4)=true):tup0 (pI k x0 x1 x2 x3 x4 x5 x6 x7 x8 (gI k x0 x1 x2 x3 x4 x5 x6 x7 x8++[a])) true=pushT k a x0 x1 x2 x3 x4 x5 x6 x7 x8:=by
 unfold pushT;rw [h,hd,kIn_q hk];rfl
end
section
variable (k a:Int) (x0 x1 x2 x3 x4 x5 x6 x7 x8:LI)
theorem pushW_all (hk:qI k) (he:(x0,x1,x2,x3,x4,x5,x6,x7,x8)=pI k x0 x1 x2 x3 x4 x5 x6 x7 x8 (gI k x0 x1 x2 x3 x4 x5 x6 x7 x8)):pushW k (gI k x0 x1 x2 x3 x4 x5 x6 x7 x8) a (tup0 (x0,x1,x2,x3,x4,x5,x6,x7,x8) false=pushT k a x0 x1 x2 x3 x4 x5 x6 x7 x8) λr=>tup0 (pI k x0 x1 x2 x3 x4 x5 x6 x7 x8 r) true=pushT k a x0 x1 x2 x3 x4 x5 x6 x7 x8:=
 pushW_ok hk (pushT_n he) (pushT_y hk)
end
end
section
open Go.Sl
def p_Last (x0 x1 x2 x3 x4 x5 x6 x7 x8:LI) (k:Int):Int×Bool:=lastI (pkGet k x0 x1 x2 x3 x4 x5 x6 x7 x8)
abbrev c_p_Last:Ct Sg:=⟨none,false,[.agg [.ro [some .i8], .ro [some .i8], .ro [some .i8], .ro [some .i8], .ro [some .i8], .ro [some .i8], .ro [some .i8], .ro [some .i8], .ro [some .i8]], .i .i64], .tup [.i .i64, .b]⟩
def e_p_Last:Entry Sg:=entC c_p_Last p_Last (λx0 x1 x2 x3 x4 x5 x6 x7 x8 k=>[pkB x0 x1 x2 x3 x4 x5 x6 x7 x8])
def p_Last_w9 (x0 x1 x2 x3 x4 x5 x6 x7 x8:LI) (m_:Nat) (R_:Int×Bool→Prop):Prop:=(aw_ ((!p_there (lX m_))=false→0≤lX m_∧lX m_<9) (R_ ((0,false))))
theorem p_Last_begin9 (x0 x1 x2 x3 x4 x5 x6 x7 x8:LI) (m_:Nat) (hp0:pkB x0 x1 x2 x3 x4 x5 x6 x7 x8):p_Last_w9 x0 x1 x2 x3 x4 x5 x6 x7 x8 m_ (λr__=>r__=(p_Last x0 x1 x2 x3 x4 x5 x6 x7 x8 (lX m_))):=by
 unfold p_Last_w9
 have hth:p_there (lX m_)=false:=rfl
 refine ⟨λh=>(by rw [hth] at h;cases h), λ_=>?_⟩
 rfl
def p_Last_w10 (x0 x1 x2 x3 x4 x5 x6 x7 x8:LI) (m_:Nat) (R_:Int×Bool→Prop):Prop:=(aw_ ((!p_there (mV (m_+9)))=false→0≤mV (m_+9)∧mV (m_+9)<9) (R_ ((0,false))))
theorem p_Last_begin10 (x0 x1 x2 x3 x4 x5 x6 x7 x8:LI) (m_:Nat) (hp0:pkB x0 x1 x2 x3 x4 x5 x6 x7 x8):p_Last_w10 x0 x1 x2 x3 x4 x5 x6 x7 x8 m_ (λr__=>r__=(p_Last x0 x1 x2 x3 x4 x5 x6 x7 x8 (mV (m_+9)))):=by
 unfold p_Last_w10
 have hth:p_there (mV (m_+9))=false:=rfl
 refine ⟨λh=>(by rw [hth] at h;cases h), λ_=>?_⟩
 rfl
theorem p_Last_ok:EOk 49 e_p_Last:=
 ent_wm Dg [1] T_p_there_ok (I:=[]) Tryz.func49 mix (B:=bodyOf Tryz.f49) (by kernel_rfl) rfl (by kernel_rfl) 400
  λ_ x0 x1 x2 x3 x4 x5 x6 x7 x8 k hb hp=>(by
   have hp0:pkB x0 x1 x2 x3 x4 x5 x6 x7 x8:=hp _ (.head _)
   rcases int_cases9 k with rfl|rfl|rfl|rfl|rfl|rfl|rfl|rfl|rfl|⟨m_,rfl⟩|⟨m_,rfl⟩
   ·exact ⟨_, λ_ _ _=>by kernel_rfl,lastW_ok (k:=0) (by decide) (pkB_get hp0 0)⟩
   ·exact ⟨_, λ_ _ _=>by kernel_rfl,lastW_ok (k:=1) (by decide) (pkB_get hp0 1)⟩
   ·exact ⟨_, λ_ _ _=>by kernel_rfl,lastW_ok (k:=2) (by decide) (pkB_get hp0 2)⟩
   ·exact ⟨_, λ_ _ _=>by kernel_rfl,lastW_ok (k:=3) (by decide) (pkB_get hp0 3)⟩
   ·exact ⟨_, λ_ _ _=>by kernel_rfl,lastW_ok (k:=4) (by decide) (pkB_get hp0 4)⟩
   ·exact ⟨_, λ_ _ _=>by kernel_rfl,lastW_ok (k:=5) (by decide) (pkB_get hp0 5)⟩
   ·exact ⟨_, λ_ _ _=>by kernel_rfl,lastW_ok (k:=6) (by decide) (pkB_get hp0 6)⟩
   ·exact ⟨_, λ_ _ _=>by kernel_rfl,lastW_ok (k:=7) (by decide) (pkB_get hp0 7)⟩
   ·exact ⟨_, λ_ _ _=>by kernel_rfl,lastW_ok (k:=8) (by decide) (pkB_get hp0 8)⟩
   ·exact ⟨_, λ_ _ _=>by kernel_rfl,p_Last_begin9 x0 x1 x2 x3 x4 x5 x6 x7 x8 m_ (hp _ (.head _))⟩
   ·exact ⟨_, λ_ _ _=>by kernel_rfl,p_Last_begin10 x0 x1 x2 x3 x4 x5 x6 x7 x8 m_ (hp _ (.head _))⟩)
def T_p_Last:Tb:=(49,e_p_Last)::T_p_there
theorem T_p_Last_ok:TOk T_p_Last:=tc_ p_Last_ok T_p_there_ok
end
section
open Go.Sl
def p_Pop (x0 x1 x2 x3 x4 x5 x6 x7 x8:LI) (k:Int):Int×LI×LI×LI×LI×LI×LI×LI×LI×LI×Bool:=((lastI (pkGet k x0 x1 x2 x3 x4 x5 x6 x7 x8)).1,pkSel k 0 (popL (pkGet k x0 x1 x2 x3 x4 x5 x6 x7 x8)) x0,pkSel k 1 (popL (pkGet k x0 x1 x2 x3 x4 x5 x6 x7 x8)) x1,pkSel k 2 (popL (pkGet k x0 x1 x2 x3 x4 x5 x6 x7 x8)) x2,pkSel k 3 (popL (pkGet k x0 x1 x2 x3 x4 x5 x6 x7 x8)) x3,pkSel k 4 (popL (pkGet k x0 x1 x2 x3 x4 x5 x6 x7 x8)) x4,pkSel k 5 (popL (pkGet k x0 x1 x2 x3 x4 x5 x6 x7 x8)) x5,pkSel k 6 (popL (pkGet k x0 x1 x2 x3 x4 x5 x6 x7 x8)) x6,pkSel k 7 (popL (pkGet k x0 x1 x2 x3 x4 x5 x6 x7 x8)) x7,pkSel k 8 (popL (pkGet k x0 x1 x2 x3 x4 x5 x6 x7 x8)) x8,(lastI (pkGet k x0 x1 x2 x3 x4 x5 x6 x7 x8)).2)
abbrev c_p_Pop:Ct Sg:=⟨none,false,[.agg [.ro [some .i8], .ro [some .i8], .ro [some .i8], .ro [some .i8], .ro [some .i8], .ro [some .i8], .ro [some .i8], .ro [some .i8], .ro [some .i8]], .i .i64], .tup [.i .i64, .agg [.new 2 [some .i8], .new 2 [some .i8], .new 2 [some .i8], .new 2 [some .i8], .new 2 [some .i8], .new 2 [some .i8], .new 2 [some .i8], .new 2 [some .i8], .new 2 [some .i8]], .b]⟩
def e_p_Pop:Entry Sg:=entC c_p_Pop p_Pop (λx0 x1 x2 x3 x4 x5 x6 x7 x8 k=>[pkB x0 x1 x2 x3 x4 x5 x6 x7 x8])
def p_Pop_w9 (x0 x1 x2 x3 x4 x5 x6 x7 x8:LI) (m_:Nat) (R_:Int×LI×LI×LI×LI×LI×LI×LI×LI×LI×Bool→Prop):Prop:=(aw_ (pkB x0 x1 x2 x3 x4 x5 x6 x7 x8) (bw_ (lD (p_Last x0 x1 x2 x3 x4 x5 x6 x7 x8 (lX m_))) (aw_ (0≤lX m_∧lX m_<9) (aw_ (0≤lX m_∧lX m_<9) (aw_ (0≤iA iB ((↑(lenC [iS x0]):Int)-1)∧iA iB ((↑(lenC [iS x0]):Int)-1)≤(↑(lenC [iS x0]):Int)) (∀r7:LI,r7=(clone64 (List.take (iL (iA iB ((↑(lenC [iS x0]):Int)-1))) x0))→(aw_ (iF (List.take (iL (iA iB ((↑(lenC [iS x0]):Int)-1))) x0)*16≤140737488355328) (aw_ (0≤lX m_∧lX m_<9) (tw_ (R_ ((jZ (0,false),r7,x1,x2,x3,x4,x5,x6,x7,x8,lD (0,false))))))))))) (tw_ (R_ ((jZ (0,false),x0,x1,x2,x3,x4,x5,x6,x7,x8,lD (0,false)))))))
theorem p_Pop_begin9 (x0 x1 x2 x3 x4 x5 x6 x7 x8:LI) (m_:Nat) (hp0:pkB x0 x1 x2 x3 x4 x5 x6 x7 x8):p_Pop_w9 x0 x1 x2 x3 x4 x5 x6 x7 x8 m_ (λr__=>r__=(p_Pop x0 x1 x2 x3 x4 x5 x6 x7 x8 (lX m_))):=by
 unfold p_Pop_w9
 refine ⟨hp0, λ_=>⟨λhc=>absurd (show false=true from hc) Bool.false_ne_true, λ_=>⟨rfl,rfl⟩⟩⟩
def p_Pop_w10 (x0 x1 x2 x3 x4 x5 x6 x7 x8:LI) (m_:Nat) (R_:Int×LI×LI×LI×LI×LI×LI×LI×LI×LI×Bool→Prop):Prop:=(aw_ (pkB x0 x1 x2 x3 x4 x5 x6 x7 x8) (bw_ (lD (p_Last x0 x1 x2 x3 x4 x5 x6 x7 x8 (mV (m_+9)))) (aw_ (0≤mV (m_+9)∧mV (m_+9)<9) (aw_ (0≤mV (m_+9)∧mV (m_+9)<9) (tw_ (aw_ (False) False)))) (tw_ (R_ ((jZ (0,false),x0,x1,x2,x3,x4,x5,x6,x7,x8,lD (0,false)))))))
theorem p_Pop_begin10 (x0 x1 x2 x3 x4 x5 x6 x7 x8:LI) (m_:Nat) (hp0:pkB x0 x1 x2 x3 x4 x5 x6 x7 x8):p_Pop_w10 x0 x1 x2 x3 x4 x5 x6 x7 x8 m_ (λr__=>r__=(p_Pop x0 x1 x2 x3 x4 x5 x6 x7 x8 (mV (m_+9)))):=by
 unfold p_Pop_w10
 refine ⟨hp0, λ_=>⟨λhc=>absurd (show false=true from hc) Bool.false_ne_true, λ_=>⟨rfl,rfl⟩⟩⟩
theorem p_Pop_ok:EOk 29 e_p_Pop:=
 ent_wm Dg [1] T_p_Last_ok (I:=[]) Tryz.func29 mix (B:=bodyOf Tryz.f29) (by kernel_rfl) rfl (by kernel_rfl) 400
  λ_ x0 x1 x2 x3 x4 x5 x6 x7 x8 k hb hp=>(by
   have hp0:pkB x0 x1 x2 x3 x4 x5 x6 x7 x8:=hp _ (.head _)
   rcases int_cases9 k with rfl|rfl|rfl|rfl|rfl|rfl|rfl|rfl|rfl|⟨m_,rfl⟩|⟨m_,rfl⟩
   ·exact ⟨_, λ_ _ _=>by kernel_rfl,popW_all 0 (by decide) hp0⟩
   ·exact ⟨_, λ_ _ _=>by kernel_rfl,popW_all 1 (by decide) hp0⟩
   ·exact ⟨_, λ_ _ _=>by kernel_rfl,popW_all 2 (by decide) hp0⟩
   ·exact ⟨_, λ_ _ _=>by kernel_rfl,popW_all 3 (by decide) hp0⟩
   ·exact ⟨_, λ_ _ _=>by kernel_rfl,popW_all 4 (by decide) hp0⟩
   ·exact ⟨_, λ_ _ _=>by kernel_rfl,popW_all 5 (by decide) hp0⟩
   ·exact ⟨_, λ_ _ _=>by kernel_rfl,popW_all 6 (by decide) hp0⟩
   ·exact ⟨_, λ_ _ _=>by kernel_rfl,popW_all 7 (by decide) hp0⟩
   ·exact ⟨_, λ_ _ _=>by kernel_rfl,popW_all 8 (by decide) hp0⟩
   ·exact ⟨_, λ_ _ _=>by kernel_rfl,p_Pop_begin9 x0 x1 x2 x3 x4 x5 x6 x7 x8 m_ (hp _ (.head _))⟩
   ·exact ⟨_, λ_ _ _=>by kernel_rfl,p_Pop_begin10 x0 x1 x2 x3 x4 x5 x6 x7 x8 m_ (hp _ (.head _))⟩)
def T_p_Pop:Tb:=(29,e_p_Pop)::T_p_Last
theorem T_p_Pop_ok:TOk T_p_Pop:=tc_ p_Pop_ok T_p_Last_ok
def p_Push (x0 x1 x2 x3 x4 x5 x6 x7 x8:LI) (k a:Int):LI×LI×LI×LI×LI×LI×LI×LI×LI×Bool:=(pkSel k 0 (pushL (pkGet k x0 x1 x2 x3 x4 x5 x6 x7 x8) a) x0,pkSel k 1 (pushL (pkGet k x0 x1 x2 x3 x4 x5 x6 x7 x8) a) x1,pkSel k 2 (pushL (pkGet k x0 x1 x2 x3 x4 x5 x6 x7 x8) a) x2,pkSel k 3 (pushL (pkGet k x0 x1 x2 x3 x4 x5 x6 x7 x8) a) x3,pkSel k 4 (pushL (pkGet k x0 x1 x2 x3 x4 x5 x6 x7 x8) a) x4,pkSel k 5 (pushL (pkGet k x0 x1 x2 x3 x4 x5 x6 x7 x8) a) x5,pkSel k 6 (pushL (pkGet k x0 x1 x2 x3 x4 x5 x6 x7 x8) a) x6,pkSel k 7 (pushL (pkGet k x0 x1 x2 x3 x4 x5 x6 x7 x8) a) x7,pkSel k 8 (pushL (pkGet k x0 x1 x2 x3 x4 x5 x6 x7 x8) a) x8,kIn k&&decide ((pkGet k x0 x1 x2 x3 x4 x5 x6 x7 x8).length<4))
abbrev c_p_Push:Ct Sg:=⟨none,false,[.agg [.ro [some .i8], .ro [some .i8], .ro [some .i8], .ro [some .i8], .ro [some .i8], .ro [some .i8], .ro [some .i8], .ro [some .i8], .ro [some .i8]], .i .i64, .i .i64], .tup [.agg [.new 2 [some .i8], .new 2 [some .i8], .new 2 [some .i8], .new 2 [some .i8], .new 2 [some .i8], .new 2 [some .i8], .new 2 [some .i8], .new 2 [some .i8], .new 2 [some .i8]], .b]⟩
def e_p_Push:Entry Sg:=entC c_p_Push p_Push (λx0 x1 x2 x3 x4 x5 x6 x7 x8 k a=>[pkB x0 x1 x2 x3 x4 x5 x6 x7 x8])
def p_Push_w9 (x0 x1 x2 x3 x4 x5 x6 x7 x8:LI) (a:Int) (m_:Nat) (R_:LI×LI×LI×LI×LI×LI×LI×LI×LI×Bool→Prop):Prop:=(aw_ ((!p_there (lX m_))=false→0≤lX m_∧lX m_<9) (R_ ((x0,x1,x2,x3,x4,x5,x6,x7,x8,false))))
theorem p_Push_begin9 (x0 x1 x2 x3 x4 x5 x6 x7 x8:LI) (a:Int) (m_:Nat) (hp0:pkB x0 x1 x2 x3 x4 x5 x6 x7 x8):p_Push_w9 x0 x1 x2 x3 x4 x5 x6 x7 x8 a m_ (λr__=>r__=(p_Push x0 x1 x2 x3 x4 x5 x6 x7 x8 (lX m_) a)):=by
 unfold p_Push_w9
 have hth:p_there (lX m_)=false:=rfl
 refine ⟨λh=>(by rw [hth] at h;cases h), λ_=>?_⟩
 rfl
def p_Push_w10 (x0 x1 x2 x3 x4 x5 x6 x7 x8:LI) (a:Int) (m_:Nat) (R_:LI×LI×LI×LI×LI×LI×LI×LI×LI×Bool→Prop):Prop:=(aw_ ((!p_there (mV (m_+9)))=false→0≤mV (m_+9)∧mV (m_+9)<9) (R_ ((x0,x1,x2,x3,x4,x5,x6,x7,x8,false))))
theorem p_Push_begin10 (x0 x1 x2 x3 x4 x5 x6 x7 x8:LI) (a:Int) (m_:Nat) (hp0:pkB x0 x1 x2 x3 x4 x5 x6 x7 x8):p_Push_w10 x0 x1 x2 x3 x4 x5 x6 x7 x8 a m_ (λr__=>r__=(p_Push x0 x1 x2 x3 x4 x5 x6 x7 x8 (mV (m_+9)) a)):=by
 unfold p_Push_w10
 have hth:p_there (mV (m_+9))=false:=rfl
 refine ⟨λh=>(by rw [hth] at h;cases h), λ_=>?_⟩
 rfl
theorem p_Push_ok:EOk 70 e_p_Push:=
 ent_wm Dg [1] T_p_Pop_ok (I:=[]) Tryz.func70 mix (B:=bodyOf Tryz.f70) (by kernel_rfl) rfl (by kernel_rfl) 400
  λ_ x0 x1 x2 x3 x4 x5 x6 x7 x8 k a hb hp=>(by
   have hp0:pkB x0 x1 x2 x3 x4 x5 x6 x7 x8:=hp _ (.head _)
   rcases int_cases9 k with rfl|rfl|rfl|rfl|rfl|rfl|rfl|rfl|rfl|⟨m_,rfl⟩|⟨m_,rfl⟩
   ·exact ⟨_, λ_ _ _=>by kernel_rfl,pushW_all 0 a x0 x1 x2 x3 x4 x5 x6 x7 x8 (by decide) rfl⟩
   ·exact ⟨_, λ_ _ _=>by kernel_rfl,pushW_all 1 a x0 x1 x2 x3 x4 x5 x6 x7 x8 (by decide) rfl⟩
   ·exact ⟨_, λ_ _ _=>by kernel_rfl,pushW_all 2 a x0 x1 x2 x3 x4 x5 x6 x7 x8 (by decide) rfl⟩
   ·exact ⟨_, λ_ _ _=>by kernel_rfl,pushW_all 3 a x0 x1 x2 x3 x4 x5 x6 x7 x8 (by decide) rfl⟩
   ·exact ⟨_, λ_ _ _=>by kernel_rfl,pushW_all 4 a x0 x1 x2 x3 x4 x5 x6 x7 x8 (by decide) rfl⟩
   ·exact ⟨_, λ_ _ _=>by kernel_rfl,pushW_all 5 a x0 x1 x2 x3 x4 x5 x6 x7 x8 (by decide) rfl⟩
   ·exact ⟨_, λ_ _ _=>by kernel_rfl,pushW_all 6 a x0 x1 x2 x3 x4 x5 x6 x7 x8 (by decide) rfl⟩
   ·exact ⟨_, λ_ _ _=>by kernel_rfl,pushW_all 7 a x0 x1 x2 x3 x4 x5 x6 x7 x8 (by decide) rfl⟩
   ·exact ⟨_, λ_ _ _=>by kernel_rfl,pushW_all 8 a x0 x1 x2 x3 x4 x5 x6 x7 x8 (by decide) rfl⟩
   ·exact ⟨_, λ_ _ _=>by kernel_rfl,p_Push_begin9 x0 x1 x2 x3 x4 x5 x6 x7 x8 a m_ (hp _ (.head _))⟩
   ·exact ⟨_, λ_ _ _=>by kernel_rfl,p_Push_begin10 x0 x1 x2 x3 x4 x5 x6 x7 x8 a m_ (hp _ (.head _))⟩)
def T_p_Push:Tb:=(70,e_p_Push)::T_p_Pop
theorem T_p_Push_ok:TOk T_p_Push:=tc_ p_Push_ok T_p_Pop_ok
end
section
open Go.Sl
theorem ofInt_toNat {w:Nat} {x:Int} (h0:0≤x) (h1:x<2^w):(iP w x).toNat=x.toNat:=by
 rw [BitVec.toNat_ofInt]
 congr 1
 exact Int.emod_eq_of_lt h0 (by simpa using h1)
theorem or_addA {m y:Int} {s:Nat} (hm:0≤m) (h0:0≤y) (h1:y<2^s) (hlt:m*2^s+y<9223372036854775808):
 iA iB (↑(kN (iP 64 (m*2^s) ||| iP 64 y)):Int)=m*2^s+y:=by
 have hp:=pow2_pos s
 have hms:0≤m*2^s:=nH hm (by omega)
 rw [BitVec.toNat_or,ofInt_toNat hms (by omega),ofInt_toNat h0 (by omega)]
 have e:(m*2^s).toNat=2^s*m.toNat:=by
  rw [Int.toNat_mul hm (by omega),oC]
  congr 1
 have hy:y.toNat<2^s:=by
  have:((2^s:Nat):Int)=2^s:=by simp
  omega
 rw [e,←Nat.two_pow_add_eq_or_of_lt hy,←e]
 rw [w64 (by omega)]
 omega
theorem and_modA {a:Int} {s:Nat} (h0:0≤a) (hlt:a<9223372036854775808) (hs:s≤20):iA iB (↑(kN (iP 64 a &&& iP 64 (2^s-1))):Int)=a%2^s:=by
 have hp:=pow2_pos s
 have hp2:=pow2_le hs
 rw [oY,ofInt_toNat h0 (by omega),ofInt_toNat (by omega) (by omega)]
 have e:((2:Int)^s-1).toNat=2^s-1:=by
  have:((2^s:Nat):Int)=2^s:=by simp
  omega
 rw [e,oU]
 have e2:((a.toNat%2^s:Nat):Int)=a%2^s:=by
  rw [Int.natCast_emod]
  simp [Int.toNat_of_nonneg h0]
 rw [e2]
 have h3:=Int.emod_lt_of_pos a hp
 have h4:=Int.emod_nonneg a (show (2:Int)^s≠0 by omega)
 exact w64 (by omega)
structure Rt (t p s P:Int):Prop where
 r:r04_Right t p s=true
 tp:1≤t∧t≤16
 pp:4≤p∧p≤1024
 ss:10≤s∧s≤20
 eP:P=2^s.toNat
 P0:1024≤P∧P≤1048576
 pg:r04_Page t p s=P
theorem rt_of {t p s:Int} (h:r04_Right t p s=true):Rt t p s (2^s.toNat):=by
 have h':=right_iff.1 h
 refine ⟨h,h'.1,h'.2.1,h'.2.2,rfl,⟨?_,?_⟩,pgIn h⟩
 ·have:=pow2_le (show 10≤s.toNat by omega);omega
 ·have:=pow2_le (show s.toNat≤20 by omega);omega
theorem mul_le_pages {p P:Int} (hp:4≤p∧p≤1024) (hP:1024≤P∧P≤1048576):4096≤P*p∧P*p≤1073741824:=by
 constructor
 ·have:=qE hP.1 hp.1 (by decide) (by omega);omega
 ·have:=qE hP.2 hp.2 (by omega) (by decide);omega
theorem bytes_in {t p s P:Int} (h:Rt t p s P):conf_Bytes t p s=P*p∧True:=by
 have:=mul_le_pages h.pp h.P0
 unfold conf_Bytes
 rw [conf_Page_eq,h.pg,w64 (by omega)]
 exact ⟨rfl,trivial⟩
theorem there_iff {pg off t p s:Int}:spot_there pg off t p s=true↔r04_Right t p s=true∧0≤pg∧pg<p∧0≤off∧off<r04_Page t p s:=by
 unfold spot_there
 rw [conf_Check_eq,conf_Page_eq]
 cases hr:r04_Right t p s with
 |true=>simp;omega
 |false=>simp
theorem there_in {pg off t p s P:Int} (h:Rt t p s P) (h1:0≤pg∧pg<p) (h2:0≤off∧off<P):spot_there pg off t p s=true:=there_iff.2 ⟨h.r,h1.1,h1.2,h2.1,by rw [h.pg];exact h2.2⟩
theorem spot_le {pg p P off:Int} (hp:4≤p∧p≤1024) (hP:1024≤P∧P≤1048576) (h1:0≤pg∧pg<p) (h2:0≤off∧off<P):P≤(pg+1)*P+off∧(pg+1)*P+off<(pg+2)*P∧(pg+2)*P≤1075838976:=by
 refine ⟨?_,?_,?_⟩
 ·have:=kJ (show (1:Int)≤pg+1 by omega) (show 0≤P by omega);omega
 ·rw [nM,nM];omega
 ·have:=qE (show pg+2≤1025 by omega) hP.2 (by omega) (by decide);omega
theorem of_in {t p s P pg off:Int} (h:Rt t p s P) (h1:0≤pg∧pg<p) (h2:0≤off∧off<P):addr_Of t p s pg off=((pg+1)*P+off,true)∧r06_Of t p s pg off=((pg+1)*P+off,true):=by
 have hb:=spot_le h.pp h.P0 h1 h2
 have hpp:=h.pp
 have hss:=h.ss
 have hP0:=h.P0
 constructor
 ·unfold addr_Of
  rw [there_in h h1 h2]
  simp only [kU,cond_false]
  rw [w64 (n:=pg+1) (by omega),show min s.toNat 64=s.toNat by omega,←h.eP,w64 (n:=(pg+1)*P) (by omega),h.eP,or_addA (by omega) h2.1 (by rw [←h.eP];exact h2.2) (by rw [←h.eP];omega)]
 ·have hc:(!r04_Right t p s||decide (pg<0)||decide (pg≥p)||decide (off<0)||decide (off≥r04_Page t p s))=false:=by
   rw [h.pg,h.r];simp;omega
  unfold r06_Of
  rw [hc]
  simp only [cond_false]
  rw [w64 (n:=pg+1) (by omega),h.pg,w64 (n:=(pg+1)*P) (by omega),w64 (by omega)]
theorem of_out {t p s pg off:Int} (h:¬(r04_Right t p s=true∧0≤pg∧pg<p∧0≤off∧off<r04_Page t p s)):addr_Of t p s pg off=(0,false)∧r06_Of t p s pg off=(0,false):=by
 constructor
 ·have:spot_there pg off t p s=false:=by
   cases hs:spot_there pg off t p s with
   |false=>rfl
   |true=>exact absurd (there_iff.1 hs) h
  simp [addr_Of,this]
 ·have hc:(!r04_Right t p s||decide (pg<0)||decide (pg≥p)||decide (off<0)||decide (off≥r04_Page t p s))=true:=by
   cases hr:r04_Right t p s with
   |false=>simp
   |true=>
    rw [hr] at h
    have h':¬(0≤pg∧pg<p∧0≤off∧off<r04_Page t p s):= λh'=>h ⟨rfl,h'⟩
    simp only [kU,lY,lG,decide_eq_true_eq];omega
  unfold r06_Of
  rw [hc];rfl
theorem Of_eq (t p s pg off:Int):addr_Of t p s pg off=r06_Of t p s pg off:=by
 by_cases h:r04_Right t p s=true∧0≤pg∧pg<p∧0≤off∧off<r04_Page t p s
 ·have hr:=rt_of h.1
  rw [hr.pg] at h
  obtain ⟨a,b⟩:=of_in hr ⟨h.2.1,h.2.2.1⟩ ⟨h.2.2.2.1,h.2.2.2.2⟩
  rw [a,b]
 ·obtain ⟨a,b⟩:=of_out h
  rw [a,b]
theorem pageIn {t p s P a:Int} (h:Rt t p s P) (ha:P≤a∧a<P*p+P):addr_Page t p s a=(a/P-1,a%P,true)∧r06_Page t p s a=(a/P-1,a%P,true):=by
 have hm:=mul_le_pages h.pp h.P0
 have hP0:=h.P0
 have hd1:1≤a/P:=by rw [Int.le_ediv_iff_mul_le (by omega)];omega
 have hd2:a/P≤p:=by
  have:a/P<p+1:=by rw [Int.ediv_lt_iff_lt_mul (by omega),nM,oP p P];omega
  omega
 have hpp:=h.pp
 have hss:=h.ss
 have e1:jS a P=a/P:=mH _ (by omega)
 have e2:mJ a P=a/P:=mG (by omega)
 have e3:qD a P=a%P:=oI (by omega)
 have h4:=Int.emod_nonneg a (show P≠0 by omega)
 constructor
 ·have hc:(conf_Page t p s==0||decide (a<conf_Page t p s)||decide (a>iA iB (iA iB (conf_Bytes t p s+conf_Page t p s)-1)))=false:=by
   rw [conf_Page_eq,h.pg,(bytes_in h).1,w64 (n:=P*p+P) (by omega),w64 (n:=P*p+P-1) (by omega)]
   simp;omega
  unfold addr_Page
  rw [hc]
  simp only [cond_false]
  rw [show min s.toNat 64=s.toNat by omega,←h.eP,e1,w64 (n:=a/P-1) (by omega),conf_Page_eq,h.pg,w64 (n:=P-1) (by omega),h.eP,and_modA (by omega) (by omega) (by omega)]
 ·have hc:(!r04_Right t p s||decide (a<0)||decide (iA iB (mJ a (r04_Page t p s))<1)||decide (iA iB (mJ a (r04_Page t p s))>p))=false:=by
   rw [h.r,h.pg,e2,w64 (by omega)]
   simp;omega
  unfold r06_Page
  rw [hc]
  simp only [cond_false]
  rw [h.pg,e2,e3,w64 (n:=a/P) (by omega),w64 (by omega)]
theorem page_out' {t p s a:Int} (ha64: -9223372036854775808≤a∧a<9223372036854775808) (h:¬(r04_Right t p s=true∧r04_Page t p s≤a∧a<r04_Page t p s*p+r04_Page t p s)):addr_Page t p s a=(0,0,false)∧r06_Page t p s a=(0,0,false):=by
 cases hr:r04_Right t p s with
 |false=>
  have hz:=page_zero hr
  constructor
  ·have hc:(conf_Page t p s==0||decide (a<conf_Page t p s)||decide (a>iA iB (iA iB (conf_Bytes t p s+conf_Page t p s)-1)))=true:=by
    rw [conf_Page_eq,hz];simp
   unfold addr_Page
   rw [hc];rfl
  ·unfold r06_Page
   rw [hr];rfl
 |true=>
  have hR:=rt_of hr
  generalize (2:Int)^s.toNat=P at hR
  rw [hr,hR.pg] at h
  have h:a<P∨P*p+P≤a:=by
   rcases Int.lt_or_le a P with h1|h1
   ·exact .inl h1
   ·rcases Int.lt_or_le a (P*p+P) with h2|h2
    ·exact absurd ⟨rfl,h1,h2⟩ h
    ·exact .inr h2
  have hm:=mul_le_pages hR.pp hR.P0
  have hP0:=hR.P0
  constructor
  ·have hc:(conf_Page t p s==0||decide (a<conf_Page t p s)||decide (a>iA iB (iA iB (conf_Bytes t p s+conf_Page t p s)-1)))=true:=by
    rw [conf_Page_eq,hR.pg,(bytes_in hR).1,w64 (n:=P*p+P) (by omega),w64 (n:=P*p+P-1) (by omega)]
    simp;omega
   unfold addr_Page
   rw [hc];rfl
  ·have hc:(!r04_Right t p s||decide (a<0)||decide (iA iB (mJ a (r04_Page t p s))<1)||decide (iA iB (mJ a (r04_Page t p s))>p))=true:=by
    rw [hr,hR.pg]
    rcases Int.lt_or_le a 0 with h0|h0
    ·simp [h0]
    ·have e2:mJ a P=a/P:=mG (by omega)
     have h5:0≤a/P:=Int.ediv_nonneg h0 (by omega)
     have h6:a/P≤a:=Int.ediv_le_self _ h0
     rw [e2,w64 (by omega)]
     rcases h with h|h
     ·have:a/P=0:=Int.ediv_eq_zero_of_lt h0 h
      simp [this]
     ·have:p+1≤a/P:=by rw [Int.le_ediv_iff_mul_le (by omega),nM,oP p P];omega
      simp;omega
   unfold r06_Page
   rw [hc];rfl
theorem Page_eq {t p s a:Int} (ha64: -9223372036854775808≤a∧a<9223372036854775808):addr_Page t p s a=r06_Page t p s a:=by
 by_cases h:r04_Right t p s=true∧r04_Page t p s≤a∧a<r04_Page t p s*p+r04_Page t p s
 ·have hr:=rt_of h.1
  rw [hr.pg] at h
  obtain ⟨a,b⟩:=pageIn hr ⟨h.2.1,h.2.2⟩
  rw [a,b]
 ·obtain ⟨a,b⟩:=page_out' ha64 h
  rw [a,b]
theorem At_eq (t p s k pg x:Int):addr_At t p s k pg x=r06_At t p s k pg x:=by
 unfold addr_At r06_At addr_first
 rw [slots_same,size_same]
 cases hc:(decide (x<0)||decide (x≥r05_Slots k)) with
 |true=>rfl
 |false=>simp only [cond_false,kU,Of_eq]
theorem cls {t p s P k:Int} (h:Rt t p s P) (hk:0≤k∧k<9):16≤class_Size s k∧class_Size s k*kSlots k≤P∧2≤kSlots k∧kSlots k≤32∧class_Size s k≤1048576:=by
 have hP:=h.P0
 obtain ⟨h1,h2,h3,_⟩:=szB_ok h.ss (k:=k) (by omega)
 have h4:2≤kSlots k:=by
  rcases (by omega:k=0∨k=1∨k=2∨k=3∨k=4∨k=5∨k=6∨k=7∨k=8) with rfl|rfl|rfl|rfl|rfl|rfl|rfl|rfl|rfl<;>decide
 rw [size_same,h1]
 have h5:pgB s=P:=h.eP.symm
 rw [h5] at h3
 refine ⟨h2,h3,h4,(kSlots_bd k).2,?_⟩
 have:=oZ h4 (show 0≤szB s k by omega)
 omega
theorem slots_out {k:Int} (h:¬(0≤k∧k<9)):kSlots k=0:=by
 have:=kSlots_zero (k:=k)
 rw [show decide (k<0∨9≤k)=true by simp;omega] at this
 simpa using this
theorem slot_in {t p s P k i:Int} (h:Rt t p s P) (hk:0≤k∧k<9) (hi:0≤i∧i<kSlots k):addr_Slot t p s k (i*class_Size s k)=(i,true)∧r06_Slot t p s k (i*class_Size s k)=(i,true):=by
 obtain ⟨h2,h3,h4,h5,h6⟩:=cls h hk
 have hp0:=h.P0
 have hpp:=h.pp
 have hle:∀j:Int,0≤j∧j<kSlots k→0≤j*class_Size s k∧j*class_Size s k+class_Size s k≤P:= λj hj=>by
  refine ⟨nH hj.1 (by omega),?_⟩
  have:(j+1)*class_Size s k≤kSlots k*class_Size s k:=kJ (by omega) (by omega)
  rw [nM,nV,oP (kSlots k)] at this;omega
 have hi':=hle i hi
 have e:mJ (i*class_Size s k) (class_Size s k)=i:=by
  rw [mG hi'.1,Int.mul_ediv_cancel _ (by omega)]
 have ef:addr_first t p s k i=(0,i*class_Size s k,true):=by
  have hc:(decide (i<0)||decide (i≥kSlots k))=false:=by simp;omega
  unfold addr_first
  rw [hc]
  simp only [cond_false]
  rw [w64 (by omega)]
 constructor
 ·have hc:(class_Size s k==0||!spot_there 0 (i*class_Size s k) t p s)=false:=by
   rw [there_in h (by omega) (by omega)];simp;omega
  unfold addr_Slot
  rw [hc]
  simp only [cond_false]
  rw [e,w64 (n:=i) (by omega),ef]
  simp
 ·have hf:firstP (r05_Slots k).toNat (λj=>(i*class_Size s k)==iA iB ((j:Int)*r05_Size s k))=some i.toNat:=by
   rw [←slots_same,←size_same]
   refine firstP_some.2 ⟨?_,by omega, λj hj=>?_⟩
   ·rw [Int.toNat_of_nonneg hi.1,w64 (by omega)];simp
   ·have:=hle j (by omega)
    rw [w64 (by omega)]
    simp only [beq_eq_false_iff_ne,ne_eq]
    intro heq
    have:=Int.eq_of_mul_eq_mul_right (by omega) heq
    omega
  unfold r06_Slot
  rw [hf,h.r]
  simp only [kU,cond_false,ofOpt]
  rw [Int.toNat_of_nonneg hi.1]
theorem slot_out {t p s k off:Int} (h:¬(r04_Right t p s=true∧(0≤k∧k<9)∧∃i,(0≤i∧i<kSlots k)∧off=i*class_Size s k)):addr_Slot t p s k off=(0,false)∧r06_Slot t p s k off=(0,false):=by
 cases hr:r04_Right t p s with
 |false=>
  constructor
  ·have:spot_there 0 off t p s=false:=by
    cases hs:spot_there 0 off t p s with
    |false=>rfl
    |true=>rw [(there_iff.1 hs).1] at hr;cases hr
   simp [addr_Slot,this]
  ·simp [r06_Slot,hr]
 |true=>
  have hR:=rt_of hr
  generalize (2:Int)^s.toNat=P at hR
  by_cases hk:0≤k∧k<9
  ·obtain ⟨h2,h3,h4,h5,h6⟩:=cls hR hk
   have hp0:=hR.P0
   have hle:∀j:Int,0≤j∧j<kSlots k→0≤j*class_Size s k∧j*class_Size s k+class_Size s k≤P:= λj hj=>by
    refine ⟨nH hj.1 (by omega),?_⟩
    have:(j+1)*class_Size s k≤kSlots k*class_Size s k:=kJ (by omega) (by omega)
    rw [nM,nV,oP (kSlots k)] at this;omega
   constructor
   ·unfold addr_Slot
    cases hc:(class_Size s k==0||!spot_there 0 off t p s) with
    |true=>rfl
    |false=>
     simp only [jH,jY] at hc
     have ht:=(there_iff.1 hc.2)
     simp only [cond_false]
     have hd:0≤mJ off (class_Size s k):=Int.tdiv_nonneg ht.2.2.2.1 (by omega)
     rw [mG ht.2.2.2.1] at hd ⊢
     have hd2:=Int.ediv_le_self (class_Size s k) ht.2.2.2.1
     have ht3:=ht.2.2.2
     rw [hR.pg] at ht3
     rw [w64 (by omega)]
     unfold addr_first
     cases hc2:(decide (off/class_Size s k<0)||decide (off/class_Size s k≥kSlots k)) with
     |true=>rfl
     |false=>
      simp only [jH,decide_eq_false_iff_not] at hc2
      have:=hle (off/class_Size s k) (by omega)
      simp only [cond_false]
      rw [w64 (by omega)]
      have hne:(off/class_Size s k*class_Size s k==off)=false:=by
       simp only [beq_eq_false_iff_ne,ne_eq]
       intro he
       exact h ⟨hr,hk,_,by omega,he.symm⟩
      simp [hne]
   ·have hf:firstP (r05_Slots k).toNat (λj=>off==iA iB ((j:Int)*r05_Size s k))=none:=by
     rw [←slots_same,←size_same]
     refine firstP_none.2 λj hj=>?_
     have:=hle j (by omega)
     rw [w64 (by omega)]
     simp only [beq_eq_false_iff_ne,ne_eq]
     intro he
     exact h ⟨hr,hk,j,by omega,he⟩
    unfold r06_Slot
    rw [hf,hr]
    rfl
  ·have hz:=(class_Size_zero (s:=s) (k:=k) (by omega)).1
   have hs:=slots_out hk
   constructor
   ·simp [addr_Slot,hz]
   ·have hf:firstP (r05_Slots k).toNat (λj=>off==iA iB ((j:Int)*r05_Size s k))=none:=by
     rw [←slots_same,hs];rfl
    unfold r06_Slot
    rw [hf,hr]
    rfl
theorem Slot_eq (t p s k off:Int):addr_Slot t p s k off=r06_Slot t p s k off:=by
 by_cases h:r04_Right t p s=true∧(0≤k∧k<9)∧∃i,(0≤i∧i<kSlots k)∧off=i*class_Size s k
 ·obtain ⟨h1,h2,i,h3,rfl⟩:=h
  obtain ⟨a,b⟩:=slot_in (rt_of h1) h2 h3
  rw [a,b]
 ·obtain ⟨a,b⟩:=slot_out h
  rw [a,b]
theorem at_in {t p s P k pg x:Int} (h:Rt t p s P) (hk:0≤k∧k<9) (hx:0≤x∧x<kSlots k) (hpg:0≤pg∧pg<p):addr_At t p s k pg x=((pg+1)*P+x*class_Size s k,true)∧0≤x*class_Size s k∧x*class_Size s k+class_Size s k≤P:=by
 obtain ⟨h2,h3,h4,h5,h6⟩:=cls h hk
 have hp0:=h.P0
 have hle:0≤x*class_Size s k∧x*class_Size s k+class_Size s k≤P:=by
  refine ⟨nH hx.1 (by omega),?_⟩
  have:(x+1)*class_Size s k≤kSlots k*class_Size s k:=kJ (by omega) (by omega)
  rw [nM,nV,oP (kSlots k)] at this;omega
 refine ⟨?_,hle⟩
 have ef:addr_first t p s k x=(0,x*class_Size s k,true):=by
  have hc:(decide (x<0)||decide (x≥kSlots k))=false:=by simp;omega
  unfold addr_first
  rw [hc]
  simp only [cond_false]
  rw [w64 (by omega)]
 unfold addr_At
 rw [ef]
 simp only [kU,cond_false]
 rw [(of_in h hpg (off:=x*class_Size s k) (by omega)).1]
end
section
open Go.Sl
def p_part (t p h:Int) (l:LI) (pg:Int):LI×LI:=(l.filter (onP t p h pg),l.filter λa=>!onP t p h pg a)
abbrev c_p_part:Ct Sg:=⟨none,false,[.agg [.i .i64, .i .i64, .i .i64], .ro [some .i8], .i .i64], .tup [.new 2 [some .i64], .new 2 [some .i64]]⟩
def e_p_part:Entry Sg:=entC c_p_part p_part (λt p h l pg=>[lB l])
def p_part_w (t p h:Int) (l:LI) (pg:Int) (Q0:Int→Nat→LI→Nat→LI→Prop) (R_:LI×LI→Prop):Prop:=(Q0 (0) (0) ([]) (0) ([]))
def p_part_w0 (t p h:Int) (l:LI) (pg i:Int) (n1:Nat) (xs:LI) (n2:Nat) (ys:LI) (Q0:Int→Nat→LI→Nat→LI→Prop) (R_:LI×LI→Prop):Prop:=(bw_ (decide (i<(↑(iF l):Int))) (aw_ (0≤i∧i<(↑(lenC [iS l]):Int)) (bw_ (lD (lD (addr_Page t p h (iI l (iL i) 0)))&&jZ (addr_Page t p h (iI l (iL i) 0))==pg) (aw_ ((n1+1)*8≤140737488355328) (Q0 (iA iB (i+1)) (n1+1) (xs++[iI l (iL i) 0]) (n2) (ys))) (aw_ ((n2+1)*8≤140737488355328) (Q0 (iA iB (i+1)) (n1) (xs) (n2+1) (ys++[iI l (iL i) 0]))))) (R_ ((xs,ys))))
def p_part_I0 (t p h:Int) (l:LI) (pg i:Int) (n1:Nat) (xs:LI) (n2:Nat) (ys:LI) (r_:LI×LI):Prop:=0≤i∧i≤l.length∧n1=xs.length∧n2=ys.length∧xs=(l.take i.toNat).filter (onP t p h pg)∧ys=((l.take i.toNat).filter λa=>!onP t p h pg a)∧r_=p_part t p h l pg
abbrev p_part_h0 (p0:Addr) (t p h:Int) (l:LI) (pg:Int):Hd Sg:=⟨none,[0,1,0,1],[.blk 0, .code [1,1]],[15,14,13,6,7,3,2],[.i .i64, .ic .i64 (l.length), .roc [.fz (l)], .own 2 [some .i64], .own 2 [some .i64], .box 23 [.ic .i64 (t), .ic .i64 (p), .ic .i64 (h)], .ic .i64 (pg)]⟩
theorem p_part_begin (t p h:Int) (l:LI) (pg:Int) (hp0:lB l) (hl0:l.length≤9223372036854775807):p_part_w t p h l pg (λi' n1' xs' n2' ys'=>p_part_I0 t p h l pg i' n1' xs' n2' ys' (p_part t p h l pg)) (λr__=>r__=(p_part t p h l pg)):=by
 unfold p_part_w
 try unfold p_part_I0
 exact ⟨by omega,by omega,rfl,rfl,rfl,rfl,rfl⟩
theorem p_part_step0 (t p h:Int) (l:LI) (pg:Int) (hp0:lB l) (hl0:l.length≤9223372036854775807) (i:Int) (n1:Nat) (xs:LI) (n2:Nat) (ys:LI) {r_:LI×LI} (hI:p_part_I0 t p h l pg i n1 xs n2 ys r_):p_part_w0 t p h l pg i n1 xs n2 ys (λi' n1' xs' n2' ys'=>p_part_I0 t p h l pg i' n1' xs' n2' ys' r_∧lx ((l.length-i').toNat,0,0) ((l.length-i).toNat,0,0)) (λr__=>r__=r_):=by
 unfold p_part_I0 at hI
 unfold p_part_w0
 try unfold p_part_I0
 obtain ⟨h0,h1,h2,h3,h4,h5,hr⟩:=hI
 refine ⟨λhc=>?_, λhc=>?_⟩
 ·simp only [decide_eq_true_eq] at hc
  have hlt:i.toNat<l.length:=by omega
  have hm:=getD_memA hlt
  have ha:i64R (l.getD i.toNat 0):=hp0.2 _ hm
  have hon:((addr_Page t p h (l.getD i.toNat 0)).2.2&&((addr_Page t p h (l.getD i.toNat 0)).1==pg))=onP t p h pg (l.getD i.toNat 0):=by rw [Page_eq ha];rfl
  have ht:l.take (i+1).toNat=l.take i.toNat++[l.getD i.toNat 0]:=by rw [toNat_succ h0,take_snocB hlt]
  have hl1:xs.length≤1000000:=by
   have e1:=mB (onP t p h pg) (l.take i.toNat)
   have e2:(l.take i.toNat).length≤l.length:=by rw [mL];omega
   have e3:=hp0.1
   rw [h4];omega
  have hl2:ys.length≤1000000:=by
   have e1:=mB (λa=>!onP t p h pg a) (l.take i.toNat)
   have e2:(l.take i.toNat).length≤l.length:=by rw [mL];omega
   have e3:=hp0.1
   rw [h5];omega
  have hb:=hp0.1
  refine ⟨⟨h0,hc⟩, λ_=>?_⟩
  rw [hon,w64 (n:=i+1) (by omega)]
  refine ⟨λhq=>⟨by omega, λ_=>⟨⟨by omega,by omega,by simp [h2],h3,?_,?_,hr⟩,lxo_⟩⟩, λhq=>⟨by omega, λ_=>⟨⟨by omega,by omega,h2,by simp [h3],?_,?_,hr⟩,lxo_⟩⟩⟩
  ·rw [ht,kX,←h4,nX hq];rfl
  ·rw [ht,kX,←h5,nY (by rw [hq];simp)];simp
  ·rw [ht,kX,←h4,nY (by rw [hq];simp)];simp
  ·rw [ht,kX,←h5,nX (by rw [hq];rfl)];rfl
 ·simp only [decide_eq_false_iff_not] at hc
  show (xs,ys)=r_
  rw [hr,h4,h5,lI (by omega)]
  rfl
theorem p_part_ok:EOk 80 e_p_part:=
 ent_wp Dg T_p_Push_ok (I:=[103000000015,103000000014,103000000013,103000000006,103000000007,103000000003,103000000002]) Tryz.func80 mix (B:=bodyOf Tryz.f80) (by kernel_rfl) rfl (by kernel_rfl) 400
  λp0 t p h l pg hb hp=>have hl0:l.length≤9223372036854775807:=hb.2.1;have hp0:lB l:=hp _ (.head _);⟨[p_part_h0 p0 t p h l pg], λj=>iI [appC (Hd.kd (p_part_h0 p0 t p h l pg)) (λi' n1' xs' n2' ys'=>p_part_I0 t p h l pg i' n1' xs' n2' ys' (p_part t p h l pg))] j (λ_=>False), λj=>iI [appC (Hd.kd (p_part_h0 p0 t p h l pg)) (λi' n1' xs' n2' ys'=>((l.length-i').toNat,0,0))] j (λ_=>(0,0,0)),by kernel_rfl,⟨_, λ_ _ _=>by kernel_rfl,p_part_begin t p h l pg hp0 hl0⟩,⟨λi n1 xs n2 ys hI=>⟨_, λ_ _ _=>by kernel_rfl,p_part_step0 t p h l pg hp0 hl0 i n1 xs n2 ys hI⟩,trivial⟩⟩
def T_p_part:Tb:=(80,e_p_part)::T_p_Push
theorem T_p_part_ok:TOk T_p_part:=tc_ p_part_ok T_p_Push_ok
end
section
open Go.Sl
def p_On (t p h:Int) (x0 x1 x2 x3 x4 x5 x6 x7 x8:LI) (k pg:Int):LI:=(pkGet k x0 x1 x2 x3 x4 x5 x6 x7 x8).filter (onP t p h pg)
abbrev c_p_On:Ct Sg:=⟨none,false,[.agg [.i .i64, .i .i64, .i .i64], .agg [.ro [some .i8], .ro [some .i8], .ro [some .i8], .ro [some .i8], .ro [some .i8], .ro [some .i8], .ro [some .i8], .ro [some .i8], .ro [some .i8]], .i .i64, .i .i64], .new 2 [some .i8]⟩
def e_p_On:Entry Sg:=entC c_p_On p_On (λt p h x0 x1 x2 x3 x4 x5 x6 x7 x8 k pg=>[pkB x0 x1 x2 x3 x4 x5 x6 x7 x8])
def p_On_w0 (t p h:Int) (x0 x1 x2 x3 x4 x5 x6 x7 x8:LI) (pg:Int) (R_:LI→Prop):Prop:=(aw_ ((0:Int)≤0∧(0:Int)<9) (∀r3:LI×LI,r3=(p_part t p h x0 pg)→(aw_ (lB x0) (R_ r3.1))))
theorem p_On_begin0 (t p h:Int) (x0 x1 x2 x3 x4 x5 x6 x7 x8:LI) (pg:Int) (hp0:pkB x0 x1 x2 x3 x4 x5 x6 x7 x8):p_On_w0 t p h x0 x1 x2 x3 x4 x5 x6 x7 x8 pg (λr__=>r__=(p_On t p h x0 x1 x2 x3 x4 x5 x6 x7 x8 (0:Int) pg)):=by
 unfold p_On_w0
 have hb:lB x0:=pkB_get hp0 0
 exact ⟨(by decide), λ_ r3 hr=>⟨hb, λ_=>(by subst hr;rfl)⟩⟩
def p_On_w1 (t p h:Int) (x0 x1 x2 x3 x4 x5 x6 x7 x8:LI) (pg:Int) (R_:LI→Prop):Prop:=(aw_ ((0:Int)≤1∧(1:Int)<9) (∀r3:LI×LI,r3=(p_part t p h x1 pg)→(aw_ (lB x1) (R_ r3.1))))
theorem p_On_begin1 (t p h:Int) (x0 x1 x2 x3 x4 x5 x6 x7 x8:LI) (pg:Int) (hp0:pkB x0 x1 x2 x3 x4 x5 x6 x7 x8):p_On_w1 t p h x0 x1 x2 x3 x4 x5 x6 x7 x8 pg (λr__=>r__=(p_On t p h x0 x1 x2 x3 x4 x5 x6 x7 x8 (1:Int) pg)):=by
 unfold p_On_w1
 have hb:lB x1:=pkB_get hp0 1
 exact ⟨(by decide), λ_ r3 hr=>⟨hb, λ_=>(by subst hr;rfl)⟩⟩
def p_On_w2 (t p h:Int) (x0 x1 x2 x3 x4 x5 x6 x7 x8:LI) (pg:Int) (R_:LI→Prop):Prop:=(aw_ ((0:Int)≤2∧(2:Int)<9) (∀r3:LI×LI,r3=(p_part t p h x2 pg)→(aw_ (lB x2) (R_ r3.1))))
theorem p_On_begin2 (t p h:Int) (x0 x1 x2 x3 x4 x5 x6 x7 x8:LI) (pg:Int) (hp0:pkB x0 x1 x2 x3 x4 x5 x6 x7 x8):p_On_w2 t p h x0 x1 x2 x3 x4 x5 x6 x7 x8 pg (λr__=>r__=(p_On t p h x0 x1 x2 x3 x4 x5 x6 x7 x8 (2:Int) pg)):=by
 unfold p_On_w2
 have hb:lB x2:=pkB_get hp0 2
 exact ⟨(by decide), λ_ r3 hr=>⟨hb, λ_=>(by subst hr;rfl)⟩⟩
def p_On_w3 (t p h:Int) (x0 x1 x2 x3 x4 x5 x6 x7 x8:LI) (pg:Int) (R_:LI→Prop):Prop:=(aw_ ((0:Int)≤3∧(3:Int)<9) (∀r3:LI×LI,r3=(p_part t p h x3 pg)→(aw_ (lB x3) (R_ r3.1))))
theorem p_On_begin3 (t p h:Int) (x0 x1 x2 x3 x4 x5 x6 x7 x8:LI) (pg:Int) (hp0:pkB x0 x1 x2 x3 x4 x5 x6 x7 x8):p_On_w3 t p h x0 x1 x2 x3 x4 x5 x6 x7 x8 pg (λr__=>r__=(p_On t p h x0 x1 x2 x3 x4 x5 x6 x7 x8 (3:Int) pg)):=by
 unfold p_On_w3
 have hb:lB x3:=pkB_get hp0 3
 exact ⟨(by decide), λ_ r3 hr=>⟨hb, λ_=>(by subst hr;rfl)⟩⟩
def p_On_w4 (t p h:Int) (x0 x1 x2 x3 x4 x5 x6 x7 x8:LI) (pg:Int) (R_:LI→Prop):Prop:=(aw_ ((0:Int)≤4∧(4:Int)<9) (∀r3:LI×LI,r3=(p_part t p h x4 pg)→(aw_ (lB x4) (R_ r3.1))))
theorem p_On_begin4 (t p h:Int) (x0 x1 x2 x3 x4 x5 x6 x7 x8:LI) (pg:Int) (hp0:pkB x0 x1 x2 x3 x4 x5 x6 x7 x8):p_On_w4 t p h x0 x1 x2 x3 x4 x5 x6 x7 x8 pg (λr__=>r__=(p_On t p h x0 x1 x2 x3 x4 x5 x6 x7 x8 (4:Int) pg)):=by
 unfold p_On_w4
 have hb:lB x4:=pkB_get hp0 4
 exact ⟨(by decide), λ_ r3 hr=>⟨hb, λ_=>(by subst hr;rfl)⟩⟩
def p_On_w5 (t p h:Int) (x0 x1 x2 x3 x4 x5 x6 x7 x8:LI) (pg:Int) (R_:LI→Prop):Prop:=(aw_ ((0:Int)≤5∧(5:Int)<9) (∀r3:LI×LI,r3=(p_part t p h x5 pg)→(aw_ (lB x5) (R_ r3.1))))
theorem p_On_begin5 (t p h:Int) (x0 x1 x2 x3 x4 x5 x6 x7 x8:LI) (pg:Int) (hp0:pkB x0 x1 x2 x3 x4 x5 x6 x7 x8):p_On_w5 t p h x0 x1 x2 x3 x4 x5 x6 x7 x8 pg (λr__=>r__=(p_On t p h x0 x1 x2 x3 x4 x5 x6 x7 x8 (5:Int) pg)):=by
 unfold p_On_w5
 have hb:lB x5:=pkB_get hp0 5
 exact ⟨(by decide), λ_ r3 hr=>⟨hb, λ_=>(by subst hr;rfl)⟩⟩
def p_On_w6 (t p h:Int) (x0 x1 x2 x3 x4 x5 x6 x7 x8:LI) (pg:Int) (R_:LI→Prop):Prop:=(aw_ ((0:Int)≤6∧(6:Int)<9) (∀r3:LI×LI,r3=(p_part t p h x6 pg)→(aw_ (lB x6) (R_ r3.1))))
theorem p_On_begin6 (t p h:Int) (x0 x1 x2 x3 x4 x5 x6 x7 x8:LI) (pg:Int) (hp0:pkB x0 x1 x2 x3 x4 x5 x6 x7 x8):p_On_w6 t p h x0 x1 x2 x3 x4 x5 x6 x7 x8 pg (λr__=>r__=(p_On t p h x0 x1 x2 x3 x4 x5 x6 x7 x8 (6:Int) pg)):=by
 unfold p_On_w6
 have hb:lB x6:=pkB_get hp0 6
 exact ⟨(by decide), λ_ r3 hr=>⟨hb, λ_=>(by subst hr;rfl)⟩⟩
def p_On_w7 (t p h:Int) (x0 x1 x2 x3 x4 x5 x6 x7 x8:LI) (pg:Int) (R_:LI→Prop):Prop:=(aw_ ((0:Int)≤7∧(7:Int)<9) (∀r3:LI×LI,r3=(p_part t p h x7 pg)→(aw_ (lB x7) (R_ r3.1))))
theorem p_On_begin7 (t p h:Int) (x0 x1 x2 x3 x4 x5 x6 x7 x8:LI) (pg:Int) (hp0:pkB x0 x1 x2 x3 x4 x5 x6 x7 x8):p_On_w7 t p h x0 x1 x2 x3 x4 x5 x6 x7 x8 pg (λr__=>r__=(p_On t p h x0 x1 x2 x3 x4 x5 x6 x7 x8 (7:Int) pg)):=by
 unfold p_On_w7
 have hb:lB x7:=pkB_get hp0 7
 exact ⟨(by decide), λ_ r3 hr=>⟨hb, λ_=>(by subst hr;rfl)⟩⟩
def p_On_w8 (t p h:Int) (x0 x1 x2 x3 x4 x5 x6 x7 x8:LI) (pg:Int) (R_:LI→Prop):Prop:=(aw_ ((0:Int)≤8∧(8:Int)<9) (∀r3:LI×LI,r3=(p_part t p h x8 pg)→(aw_ (lB x8) (R_ r3.1))))
theorem p_On_begin8 (t p h:Int) (x0 x1 x2 x3 x4 x5 x6 x7 x8:LI) (pg:Int) (hp0:pkB x0 x1 x2 x3 x4 x5 x6 x7 x8):p_On_w8 t p h x0 x1 x2 x3 x4 x5 x6 x7 x8 pg (λr__=>r__=(p_On t p h x0 x1 x2 x3 x4 x5 x6 x7 x8 (8:Int) pg)):=by
 unfold p_On_w8
 have hb:lB x8:=pkB_get hp0 8
 exact ⟨(by decide), λ_ r3 hr=>⟨hb, λ_=>(by subst hr;rfl)⟩⟩
def p_On_w9 (t p h:Int) (x0 x1 x2 x3 x4 x5 x6 x7 x8:LI) (pg:Int) (m_:Nat) (R_:LI→Prop):Prop:=(R_ ([]))
theorem p_On_begin9 (t p h:Int) (x0 x1 x2 x3 x4 x5 x6 x7 x8:LI) (pg:Int) (m_:Nat) (hp0:pkB x0 x1 x2 x3 x4 x5 x6 x7 x8):p_On_w9 t p h x0 x1 x2 x3 x4 x5 x6 x7 x8 pg m_ (λr__=>r__=(p_On t p h x0 x1 x2 x3 x4 x5 x6 x7 x8 (lX m_) pg)):=by
 unfold p_On_w9
 rfl
def p_On_w10 (t p h:Int) (x0 x1 x2 x3 x4 x5 x6 x7 x8:LI) (pg:Int) (m_:Nat) (R_:LI→Prop):Prop:=(R_ ([]))
theorem p_On_begin10 (t p h:Int) (x0 x1 x2 x3 x4 x5 x6 x7 x8:LI) (pg:Int) (m_:Nat) (hp0:pkB x0 x1 x2 x3 x4 x5 x6 x7 x8):p_On_w10 t p h x0 x1 x2 x3 x4 x5 x6 x7 x8 pg m_ (λr__=>r__=(p_On t p h x0 x1 x2 x3 x4 x5 x6 x7 x8 (mV (m_+9)) pg)):=by
 unfold p_On_w10
 rfl
theorem p_On_ok:EOk 50 e_p_On:=
 ent_wm Dg [2] T_p_part_ok (I:=[]) Tryz.func50 mix (B:=bodyOf Tryz.f50) (by kernel_rfl) rfl (by kernel_rfl) 400
  λ_ t p h x0 x1 x2 x3 x4 x5 x6 x7 x8 k pg hb hp=>(by
   rcases int_cases9 k with rfl|rfl|rfl|rfl|rfl|rfl|rfl|rfl|rfl|⟨m_,rfl⟩|⟨m_,rfl⟩
   ·exact ⟨_, λ_ _ _=>by kernel_rfl,p_On_begin0 t p h x0 x1 x2 x3 x4 x5 x6 x7 x8 pg (hp _ (.head _))⟩
   ·exact ⟨_, λ_ _ _=>by kernel_rfl,p_On_begin1 t p h x0 x1 x2 x3 x4 x5 x6 x7 x8 pg (hp _ (.head _))⟩
   ·exact ⟨_, λ_ _ _=>by kernel_rfl,p_On_begin2 t p h x0 x1 x2 x3 x4 x5 x6 x7 x8 pg (hp _ (.head _))⟩
   ·exact ⟨_, λ_ _ _=>by kernel_rfl,p_On_begin3 t p h x0 x1 x2 x3 x4 x5 x6 x7 x8 pg (hp _ (.head _))⟩
   ·exact ⟨_, λ_ _ _=>by kernel_rfl,p_On_begin4 t p h x0 x1 x2 x3 x4 x5 x6 x7 x8 pg (hp _ (.head _))⟩
   ·exact ⟨_, λ_ _ _=>by kernel_rfl,p_On_begin5 t p h x0 x1 x2 x3 x4 x5 x6 x7 x8 pg (hp _ (.head _))⟩
   ·exact ⟨_, λ_ _ _=>by kernel_rfl,p_On_begin6 t p h x0 x1 x2 x3 x4 x5 x6 x7 x8 pg (hp _ (.head _))⟩
   ·exact ⟨_, λ_ _ _=>by kernel_rfl,p_On_begin7 t p h x0 x1 x2 x3 x4 x5 x6 x7 x8 pg (hp _ (.head _))⟩
   ·exact ⟨_, λ_ _ _=>by kernel_rfl,p_On_begin8 t p h x0 x1 x2 x3 x4 x5 x6 x7 x8 pg (hp _ (.head _))⟩
   ·exact ⟨_, λ_ _ _=>by kernel_rfl,p_On_begin9 t p h x0 x1 x2 x3 x4 x5 x6 x7 x8 pg m_ (hp _ (.head _))⟩
   ·exact ⟨_, λ_ _ _=>by kernel_rfl,p_On_begin10 t p h x0 x1 x2 x3 x4 x5 x6 x7 x8 pg m_ (hp _ (.head _))⟩)
def T_p_On:Tb:=(50,e_p_On)::T_p_part
theorem T_p_On_ok:TOk T_p_On:=tc_ p_On_ok T_p_part_ok
def p_Off (t p h:Int) (x0 x1 x2 x3 x4 x5 x6 x7 x8:LI) (k pg:Int):LI×LI×LI×LI×LI×LI×LI×LI×LI:=(pkSel k 0 ((pkGet k x0 x1 x2 x3 x4 x5 x6 x7 x8).filter λa=>!onP t p h pg a) x0,pkSel k 1 ((pkGet k x0 x1 x2 x3 x4 x5 x6 x7 x8).filter λa=>!onP t p h pg a) x1,pkSel k 2 ((pkGet k x0 x1 x2 x3 x4 x5 x6 x7 x8).filter λa=>!onP t p h pg a) x2,pkSel k 3 ((pkGet k x0 x1 x2 x3 x4 x5 x6 x7 x8).filter λa=>!onP t p h pg a) x3,pkSel k 4 ((pkGet k x0 x1 x2 x3 x4 x5 x6 x7 x8).filter λa=>!onP t p h pg a) x4,pkSel k 5 ((pkGet k x0 x1 x2 x3 x4 x5 x6 x7 x8).filter λa=>!onP t p h pg a) x5,pkSel k 6 ((pkGet k x0 x1 x2 x3 x4 x5 x6 x7 x8).filter λa=>!onP t p h pg a) x6,pkSel k 7 ((pkGet k x0 x1 x2 x3 x4 x5 x6 x7 x8).filter λa=>!onP t p h pg a) x7,pkSel k 8 ((pkGet k x0 x1 x2 x3 x4 x5 x6 x7 x8).filter λa=>!onP t p h pg a) x8)
abbrev c_p_Off:Ct Sg:=⟨none,false,[.agg [.i .i64, .i .i64, .i .i64], .agg [.ro [some .i8], .ro [some .i8], .ro [some .i8], .ro [some .i8], .ro [some .i8], .ro [some .i8], .ro [some .i8], .ro [some .i8], .ro [some .i8]], .i .i64, .i .i64], .agg [.new 2 [some .i8], .new 2 [some .i8], .new 2 [some .i8], .new 2 [some .i8], .new 2 [some .i8], .new 2 [some .i8], .new 2 [some .i8], .new 2 [some .i8], .new 2 [some .i8]]⟩
def e_p_Off:Entry Sg:=entC c_p_Off p_Off (λt p h x0 x1 x2 x3 x4 x5 x6 x7 x8 k pg=>[pkB x0 x1 x2 x3 x4 x5 x6 x7 x8])
def p_Off_w0 (t p h:Int) (x0 x1 x2 x3 x4 x5 x6 x7 x8:LI) (pg:Int) (R_:LI×LI×LI×LI×LI×LI×LI×LI×LI→Prop):Prop:=(aw_ ((0:Int)≤0∧(0:Int)<9) (∀r4:LI×LI,r4=(p_part t p h x0 pg)→(aw_ (lB x0) (aw_ ((0:Int)≤0∧(0:Int)<9) (R_ ((r4.2,x1,x2,x3,x4,x5,x6,x7,x8)))))))
theorem p_Off_begin0 (t p h:Int) (x0 x1 x2 x3 x4 x5 x6 x7 x8:LI) (pg:Int) (hp0:pkB x0 x1 x2 x3 x4 x5 x6 x7 x8):p_Off_w0 t p h x0 x1 x2 x3 x4 x5 x6 x7 x8 pg (λr__=>r__=(p_Off t p h x0 x1 x2 x3 x4 x5 x6 x7 x8 (0:Int) pg)):=by
 unfold p_Off_w0
 have hb:lB x0:=pkB_get hp0 0
 exact ⟨(by decide), λ_ r4 hr=>⟨hb, λ_=>⟨(by decide), λ_=>(by subst hr;rfl)⟩⟩⟩
def p_Off_w1 (t p h:Int) (x0 x1 x2 x3 x4 x5 x6 x7 x8:LI) (pg:Int) (R_:LI×LI×LI×LI×LI×LI×LI×LI×LI→Prop):Prop:=(aw_ ((0:Int)≤1∧(1:Int)<9) (∀r4:LI×LI,r4=(p_part t p h x1 pg)→(aw_ (lB x1) (aw_ ((0:Int)≤1∧(1:Int)<9) (R_ ((x0,r4.2,x2,x3,x4,x5,x6,x7,x8)))))))
theorem p_Off_begin1 (t p h:Int) (x0 x1 x2 x3 x4 x5 x6 x7 x8:LI) (pg:Int) (hp0:pkB x0 x1 x2 x3 x4 x5 x6 x7 x8):p_Off_w1 t p h x0 x1 x2 x3 x4 x5 x6 x7 x8 pg (λr__=>r__=(p_Off t p h x0 x1 x2 x3 x4 x5 x6 x7 x8 (1:Int) pg)):=by
 unfold p_Off_w1
 have hb:lB x1:=pkB_get hp0 1
 exact ⟨(by decide), λ_ r4 hr=>⟨hb, λ_=>⟨(by decide), λ_=>(by subst hr;rfl)⟩⟩⟩
def p_Off_w2 (t p h:Int) (x0 x1 x2 x3 x4 x5 x6 x7 x8:LI) (pg:Int) (R_:LI×LI×LI×LI×LI×LI×LI×LI×LI→Prop):Prop:=(aw_ ((0:Int)≤2∧(2:Int)<9) (∀r4:LI×LI,r4=(p_part t p h x2 pg)→(aw_ (lB x2) (aw_ ((0:Int)≤2∧(2:Int)<9) (R_ ((x0,x1,r4.2,x3,x4,x5,x6,x7,x8)))))))
theorem p_Off_begin2 (t p h:Int) (x0 x1 x2 x3 x4 x5 x6 x7 x8:LI) (pg:Int) (hp0:pkB x0 x1 x2 x3 x4 x5 x6 x7 x8):p_Off_w2 t p h x0 x1 x2 x3 x4 x5 x6 x7 x8 pg (λr__=>r__=(p_Off t p h x0 x1 x2 x3 x4 x5 x6 x7 x8 (2:Int) pg)):=by
 unfold p_Off_w2
 have hb:lB x2:=pkB_get hp0 2
 exact ⟨(by decide), λ_ r4 hr=>⟨hb, λ_=>⟨(by decide), λ_=>(by subst hr;rfl)⟩⟩⟩
def p_Off_w3 (t p h:Int) (x0 x1 x2 x3 x4 x5 x6 x7 x8:LI) (pg:Int) (R_:LI×LI×LI×LI×LI×LI×LI×LI×LI→Prop):Prop:=(aw_ ((0:Int)≤3∧(3:Int)<9) (∀r4:LI×LI,r4=(p_part t p h x3 pg)→(aw_ (lB x3) (aw_ ((0:Int)≤3∧(3:Int)<9) (R_ ((x0,x1,x2,r4.2,x4,x5,x6,x7,x8)))))))
theorem p_Off_begin3 (t p h:Int) (x0 x1 x2 x3 x4 x5 x6 x7 x8:LI) (pg:Int) (hp0:pkB x0 x1 x2 x3 x4 x5 x6 x7 x8):p_Off_w3 t p h x0 x1 x2 x3 x4 x5 x6 x7 x8 pg (λr__=>r__=(p_Off t p h x0 x1 x2 x3 x4 x5 x6 x7 x8 (3:Int) pg)):=by
 unfold p_Off_w3
 have hb:lB x3:=pkB_get hp0 3
 exact ⟨(by decide), λ_ r4 hr=>⟨hb, λ_=>⟨(by decide), λ_=>(by subst hr;rfl)⟩⟩⟩
def p_Off_w4 (t p h:Int) (x0 x1 x2 x3 x4 x5 x6 x7 x8:LI) (pg:Int) (R_:LI×LI×LI×LI×LI×LI×LI×LI×LI→Prop):Prop:=(aw_ ((0:Int)≤4∧(4:Int)<9) (∀r4:LI×LI,r4=(p_part t p h x4 pg)→(aw_ (lB x4) (aw_ ((0:Int)≤4∧(4:Int)<9) (R_ ((x0,x1,x2,x3,r4.2,x5,x6,x7,x8)))))))
theorem p_Off_begin4 (t p h:Int) (x0 x1 x2 x3 x4 x5 x6 x7 x8:LI) (pg:Int) (hp0:pkB x0 x1 x2 x3 x4 x5 x6 x7 x8):p_Off_w4 t p h x0 x1 x2 x3 x4 x5 x6 x7 x8 pg (λr__=>r__=(p_Off t p h x0 x1 x2 x3 x4 x5 x6 x7 x8 (4:Int) pg)):=by
 unfold p_Off_w4
 have hb:lB x4:=pkB_get hp0 4
 exact ⟨(by decide), λ_ r4 hr=>⟨hb, λ_=>⟨(by decide), λ_=>(by subst hr;rfl)⟩⟩⟩
def p_Off_w5 (t p h:Int) (x0 x1 x2 x3 x4 x5 x6 x7 x8:LI) (pg:Int) (R_:LI×LI×LI×LI×LI×LI×LI×LI×LI→Prop):Prop:=(aw_ ((0:Int)≤5∧(5:Int)<9) (∀r4:LI×LI,r4=(p_part t p h x5 pg)→(aw_ (lB x5) (aw_ ((0:Int)≤5∧(5:Int)<9) (R_ ((x0,x1,x2,x3,x4,r4.2,x6,x7,x8)))))))
theorem p_Off_begin5 (t p h:Int) (x0 x1 x2 x3 x4 x5 x6 x7 x8:LI) (pg:Int) (hp0:pkB x0 x1 x2 x3 x4 x5 x6 x7 x8):p_Off_w5 t p h x0 x1 x2 x3 x4 x5 x6 x7 x8 pg (λr__=>r__=(p_Off t p h x0 x1 x2 x3 x4 x5 x6 x7 x8 (5:Int) pg)):=by
 unfold p_Off_w5
 have hb:lB x5:=pkB_get hp0 5
 exact ⟨(by decide), λ_ r4 hr=>⟨hb, λ_=>⟨(by decide), λ_=>(by subst hr;rfl)⟩⟩⟩
def p_Off_w6 (t p h:Int) (x0 x1 x2 x3 x4 x5 x6 x7 x8:LI) (pg:Int) (R_:LI×LI×LI×LI×LI×LI×LI×LI×LI→Prop):Prop:=(aw_ ((0:Int)≤6∧(6:Int)<9) (∀r4:LI×LI,r4=(p_part t p h x6 pg)→(aw_ (lB x6) (aw_ ((0:Int)≤6∧(6:Int)<9) (R_ ((x0,x1,x2,x3,x4,x5,r4.2,x7,x8)))))))
theorem p_Off_begin6 (t p h:Int) (x0 x1 x2 x3 x4 x5 x6 x7 x8:LI) (pg:Int) (hp0:pkB x0 x1 x2 x3 x4 x5 x6 x7 x8):p_Off_w6 t p h x0 x1 x2 x3 x4 x5 x6 x7 x8 pg (λr__=>r__=(p_Off t p h x0 x1 x2 x3 x4 x5 x6 x7 x8 (6:Int) pg)):=by
 unfold p_Off_w6
 have hb:lB x6:=pkB_get hp0 6
 exact ⟨(by decide), λ_ r4 hr=>⟨hb, λ_=>⟨(by decide), λ_=>(by subst hr;rfl)⟩⟩⟩
def p_Off_w7 (t p h:Int) (x0 x1 x2 x3 x4 x5 x6 x7 x8:LI) (pg:Int) (R_:LI×LI×LI×LI×LI×LI×LI×LI×LI→Prop):Prop:=(aw_ ((0:Int)≤7∧(7:Int)<9) (∀r4:LI×LI,r4=(p_part t p h x7 pg)→(aw_ (lB x7) (aw_ ((0:Int)≤7∧(7:Int)<9) (R_ ((x0,x1,x2,x3,x4,x5,x6,r4.2,x8)))))))
theorem p_Off_begin7 (t p h:Int) (x0 x1 x2 x3 x4 x5 x6 x7 x8:LI) (pg:Int) (hp0:pkB x0 x1 x2 x3 x4 x5 x6 x7 x8):p_Off_w7 t p h x0 x1 x2 x3 x4 x5 x6 x7 x8 pg (λr__=>r__=(p_Off t p h x0 x1 x2 x3 x4 x5 x6 x7 x8 (7:Int) pg)):=by
 unfold p_Off_w7
 have hb:lB x7:=pkB_get hp0 7
 exact ⟨(by decide), λ_ r4 hr=>⟨hb, λ_=>⟨(by decide), λ_=>(by subst hr;rfl)⟩⟩⟩
def p_Off_w8 (t p h:Int) (x0 x1 x2 x3 x4 x5 x6 x7 x8:LI) (pg:Int) (R_:LI×LI×LI×LI×LI×LI×LI×LI×LI→Prop):Prop:=(aw_ ((0:Int)≤8∧(8:Int)<9) (∀r4:LI×LI,r4=(p_part t p h x8 pg)→(aw_ (lB x8) (aw_ ((0:Int)≤8∧(8:Int)<9) (R_ ((x0,x1,x2,x3,x4,x5,x6,x7,r4.2)))))))
theorem p_Off_begin8 (t p h:Int) (x0 x1 x2 x3 x4 x5 x6 x7 x8:LI) (pg:Int) (hp0:pkB x0 x1 x2 x3 x4 x5 x6 x7 x8):p_Off_w8 t p h x0 x1 x2 x3 x4 x5 x6 x7 x8 pg (λr__=>r__=(p_Off t p h x0 x1 x2 x3 x4 x5 x6 x7 x8 (8:Int) pg)):=by
 unfold p_Off_w8
 have hb:lB x8:=pkB_get hp0 8
 exact ⟨(by decide), λ_ r4 hr=>⟨hb, λ_=>⟨(by decide), λ_=>(by subst hr;rfl)⟩⟩⟩
def p_Off_w9 (t p h:Int) (x0 x1 x2 x3 x4 x5 x6 x7 x8:LI) (pg:Int) (m_:Nat) (R_:LI×LI×LI×LI×LI×LI×LI×LI×LI→Prop):Prop:=(R_ ((x0,x1,x2,x3,x4,x5,x6,x7,x8)))
theorem p_Off_begin9 (t p h:Int) (x0 x1 x2 x3 x4 x5 x6 x7 x8:LI) (pg:Int) (m_:Nat) (hp0:pkB x0 x1 x2 x3 x4 x5 x6 x7 x8):p_Off_w9 t p h x0 x1 x2 x3 x4 x5 x6 x7 x8 pg m_ (λr__=>r__=(p_Off t p h x0 x1 x2 x3 x4 x5 x6 x7 x8 (lX m_) pg)):=by
 unfold p_Off_w9
 rfl
def p_Off_w10 (t p h:Int) (x0 x1 x2 x3 x4 x5 x6 x7 x8:LI) (pg:Int) (m_:Nat) (R_:LI×LI×LI×LI×LI×LI×LI×LI×LI→Prop):Prop:=(R_ ((x0,x1,x2,x3,x4,x5,x6,x7,x8)))
theorem p_Off_begin10 (t p h:Int) (x0 x1 x2 x3 x4 x5 x6 x7 x8:LI) (pg:Int) (m_:Nat) (hp0:pkB x0 x1 x2 x3 x4 x5 x6 x7 x8):p_Off_w10 t p h x0 x1 x2 x3 x4 x5 x6 x7 x8 pg m_ (λr__=>r__=(p_Off t p h x0 x1 x2 x3 x4 x5 x6 x7 x8 (mV (m_+9)) pg)):=by
 unfold p_Off_w10
 rfl
theorem p_Off_ok:EOk 51 e_p_Off:=
 ent_wm Dg [2] T_p_On_ok (I:=[]) Tryz.func51 mix (B:=bodyOf Tryz.f51) (by kernel_rfl) rfl (by kernel_rfl) 400
  λ_ t p h x0 x1 x2 x3 x4 x5 x6 x7 x8 k pg hb hp=>(by
   rcases int_cases9 k with rfl|rfl|rfl|rfl|rfl|rfl|rfl|rfl|rfl|⟨m_,rfl⟩|⟨m_,rfl⟩
   ·exact ⟨_, λ_ _ _=>by kernel_rfl,p_Off_begin0 t p h x0 x1 x2 x3 x4 x5 x6 x7 x8 pg (hp _ (.head _))⟩
   ·exact ⟨_, λ_ _ _=>by kernel_rfl,p_Off_begin1 t p h x0 x1 x2 x3 x4 x5 x6 x7 x8 pg (hp _ (.head _))⟩
   ·exact ⟨_, λ_ _ _=>by kernel_rfl,p_Off_begin2 t p h x0 x1 x2 x3 x4 x5 x6 x7 x8 pg (hp _ (.head _))⟩
   ·exact ⟨_, λ_ _ _=>by kernel_rfl,p_Off_begin3 t p h x0 x1 x2 x3 x4 x5 x6 x7 x8 pg (hp _ (.head _))⟩
   ·exact ⟨_, λ_ _ _=>by kernel_rfl,p_Off_begin4 t p h x0 x1 x2 x3 x4 x5 x6 x7 x8 pg (hp _ (.head _))⟩
   ·exact ⟨_, λ_ _ _=>by kernel_rfl,p_Off_begin5 t p h x0 x1 x2 x3 x4 x5 x6 x7 x8 pg (hp _ (.head _))⟩
   ·exact ⟨_, λ_ _ _=>by kernel_rfl,p_Off_begin6 t p h x0 x1 x2 x3 x4 x5 x6 x7 x8 pg (hp _ (.head _))⟩
   ·exact ⟨_, λ_ _ _=>by kernel_rfl,p_Off_begin7 t p h x0 x1 x2 x3 x4 x5 x6 x7 x8 pg (hp _ (.head _))⟩
   ·exact ⟨_, λ_ _ _=>by kernel_rfl,p_Off_begin8 t p h x0 x1 x2 x3 x4 x5 x6 x7 x8 pg (hp _ (.head _))⟩
   ·exact ⟨_, λ_ _ _=>by kernel_rfl,p_Off_begin9 t p h x0 x1 x2 x3 x4 x5 x6 x7 x8 pg m_ (hp _ (.head _))⟩
   ·exact ⟨_, λ_ _ _=>by kernel_rfl,p_Off_begin10 t p h x0 x1 x2 x3 x4 x5 x6 x7 x8 pg m_ (hp _ (.head _))⟩)
def T_p_Off:Tb:=(51,e_p_Off)::T_p_On
theorem T_p_Off_ok:TOk T_p_Off:=tc_ p_Off_ok T_p_On_ok
end
section
open Go.Sl
def r01_Longs (l m:LI):Bool:=l==m
abbrev c_r01_Longs:Ct Sg:=⟨none,false,[.ro [some .i8], .ro [some .i8]], .b⟩
def e_r01_Longs:Entry Sg:=entC c_r01_Longs r01_Longs (λ_ _=>[])
def r01_Longs_w (l m:LI) (Q0:Int→Prop) (R_:Bool→Prop):Prop:=(bw_ ((↑(lenC [iS l]):Int) !=(↑(lenC [iS m]):Int)) (R_ (false)) (Q0 (0)))
def r01_Longs_w0 (l m:LI) (i:Int) (Q0:Int→Prop) (R_:Bool→Prop):Prop:=(bw_ (decide (i<(↑(lenC [iS l]):Int))) (aw_ (0≤i∧i<(↑(lenC [iS l]):Int)) (aw_ (0≤i∧i<(↑(lenC [iS m]):Int)) (bw_ (iI l (iL i) 0 !=iI m (iL i) 0) (R_ (false)) (Q0 (iA iB (i+1)))))) (R_ (true)))
def r01_Longs_I0 (l m:LI) (i:Int) (r_:Bool):Prop:=0≤i∧i≤l.length∧l.length=m.length∧l.take i.toNat=m.take i.toNat∧r_=r01_Longs l m
abbrev r01_Longs_h0 (p0:Addr) (l m:LI):Hd Sg:=⟨none,[0,1,0,1,1],[.blk 0, .code [1,1,1]],[5,0,1],[.i .i64, .roc [.fz (l)], .roc [.fz (m)]]⟩
theorem r01_Longs_begin (l m:LI) (hl0:l.length≤9223372036854775807) (hl1:m.length≤9223372036854775807):r01_Longs_w l m (λi'=>r01_Longs_I0 l m i' (r01_Longs l m)) (λr__=>r__=(r01_Longs l m)):=by
 unfold r01_Longs_w
 try unfold r01_Longs_I0
 refine ⟨λhc=>?_, λhc=>?_⟩
 ·show false=r01_Longs l m
  unfold r01_Longs
  symm
  rw [beq_eq_false_iff_ne]
  rintro rfl
  simp at hc
 ·have hc:((l.length:Nat):Int)=((m.length:Nat):Int):=bne_eq_false_iff_eq.1 hc
  exact ⟨by omega,by omega,by omega,rfl,rfl⟩
theorem r01_Longs_step0 (l m:LI) (hl0:l.length≤9223372036854775807) (hl1:m.length≤9223372036854775807) (i:Int) {r_:Bool} (hI:r01_Longs_I0 l m i r_):r01_Longs_w0 l m i (λi'=>r01_Longs_I0 l m i' r_∧lx ((l.length-i').toNat,0,0) ((l.length-i).toNat,0,0)) (λr__=>r__=r_):=by
 unfold r01_Longs_I0 at hI
 unfold r01_Longs_w0
 try unfold r01_Longs_I0
 obtain ⟨h0,h1,h2,h3,hr⟩:=hI
 refine ⟨λhc=>?_, λhc=>?_⟩
 ·simp only [decide_eq_true_eq] at hc
  have hc:i<l.length:=hc
  have hm:i<m.length:=by omega
  rw [w64 (n:=i+1) (by omega)]
  refine ⟨⟨h0,hc⟩, λ_=>⟨⟨h0,hm⟩, λ_=>⟨λhq=>?_, λhq=>?_⟩⟩⟩
  ·show false=r_
   rw [hr]
   unfold r01_Longs
   symm
   rw [beq_eq_false_iff_ne]
   rintro rfl
   simp at hq
  ·have hq:l.getD i.toNat 0=m.getD i.toNat 0:=by simpa using hq
   refine ⟨⟨by omega,by omega,h2,?_,hr⟩,lxo_⟩
   rw [toNat_succ h0,take_snocB (by omega),take_snocB (by omega),h3,hq]
 ·simp only [decide_eq_false_iff_not] at hc
  have hc:¬i<l.length:=hc
  show true=r_
  have e:i.toNat=l.length:=by omega
  rw [e] at h3
  have:=take_eq_all h2 h3
  subst this
  rw [hr];unfold r01_Longs;simp
theorem r01_Longs_ok:EOk 23 e_r01_Longs:=
 ent_wp Dg T_p_Off_ok (I:=[411000000005,411000000000,411000000001]) Tryz.func23 mix (B:=bodyOf Tryz.f23) (by kernel_rfl) rfl (by kernel_rfl) 400
  λp0 l m hb hp=>have hl0:l.length≤9223372036854775807:=hb.1;have hl1:m.length≤9223372036854775807:=hb.2.1;⟨[r01_Longs_h0 p0 l m], λj=>iI [appC (Hd.kd (r01_Longs_h0 p0 l m)) (λi'=>r01_Longs_I0 l m i' (r01_Longs l m))] j (λ_=>False), λj=>iI [appC (Hd.kd (r01_Longs_h0 p0 l m)) (λi'=>((l.length-i').toNat,0,0))] j (λ_=>(0,0,0)),by kernel_rfl,⟨_, λ_ _ _=>by kernel_rfl,r01_Longs_begin l m hl0 hl1⟩,⟨λi hI=>⟨_, λ_ _ _=>by kernel_rfl,r01_Longs_step0 l m hl0 hl1 i hI⟩,trivial⟩⟩
def T_r01_Longs:Tb:=(23,e_r01_Longs)::T_p_Off
theorem T_r01_Longs_ok:TOk T_r01_Longs:=tc_ r01_Longs_ok T_p_Off_ok
end
section
open Go Go.Sl
theorem oneB {b:Int} (hb:0≤b∧b<32):iA iW ((1:Int)*(2:Int)^min (iL b) (32:Nat))=setB 0 b:=by
 have hp:(2:Int)^b.toNat≤2^31:=pow2_le (by omega)
 have h0:=pow2_pos b.toNat
 unfold setB
 rw [bitAt_zero,cond_false,nV,show min b.toNat 32=b.toNat by omega,wu32 (by omega)];omega
theorem orOne_eq {v b:Int} (hv:bd32 v) (hb:0≤b∧b<32):iA iW (↑(kN (iP (32:Nat) v ||| iP (32:Nat) (iA iW ((1:Int)*(2:Int)^min (iL b) (32:Nat))))):Int)=setB v b:=orB_eq hv hb
section
variable (c:Cf)
def pBeg (g s:Int):Pg Unit:= .get (c.slots g) λv=> .put (c.slots g) (setB v s) (.get 1 λn=> .put 1 (iA .u32 (n+1)) (.ret ()))
end
def begS (u:VS) (t p h g s:Int):VS:=((pBeg ⟨t,p,h⟩ g s).run u).1
theorem page_nn (t p h a:Int) (ha:i64R a):0≤(r06_Page t p h a).1:=by
 by_cases hc:r04_Right t p h=true∧r04_Page t p h≤a∧a<r04_Page t p h*p+r04_Page t p h
 ·have hr:=rt_of hc.1
  rw [hr.pg] at hc
  rw [(pageIn hr hc.2).2]
  have:=hr.P0
  have h1:1≤a/2^h.toNat:=by rw [Int.le_ediv_iff_mul_le (by omega)];omega
  dsimp only;omega
 ·rw [(page_out' ha hc).2];decide
theorem slot_rg (t p h k o:Int):0≤(r06_Slot t p h k o).1∧(r06_Slot t p h k o).1<32:=by
 by_cases hc:r04_Right t p h=true∧(0≤k∧k<9)∧∃i,(0≤i∧i<kSlots k)∧o=i*class_Size h k
 ·obtain ⟨h1,h2,i,h3,rfl⟩:=hc
  have hr:=rt_of h1
  rw [(slot_in hr h2 h3).2]
  have:=(cls hr h2).2.2.2.1
  dsimp only;omega
 ·rw [(slot_out hc).2];decide
theorem pick_ok {c:Cf} {s:VS} {k:Int} (h:((pPick c k 4).run s).2.2.2=true):1≤((pPick c k 4).run s).2.2.1.length∧((pPick c k 4).run s).2.2.1.length≤4∧∀x∈((pPick c k 4).run s).2.2.1,0≤x∧x<kSlots k:=by
 unfold pPick at h ⊢
 cases hc:(decide (k<0)||decide (9≤k)||decide ((4:Int)<1)||decide ((4:Int)<4)) with
 |true=>rw [hc] at h;cases h
 |false=>
  rw [hc] at h
  simp only [cond_false,Pg.run_bind] at h ⊢
  generalize (pOpen c k).run s=r at h ⊢
  obtain ⟨s1,g,ok⟩:=r
  cases ok with
  |false=>cases h
  |true=>
   simp only [cond_true,Pg.run_get] at h ⊢
   generalize s1.get (c.taken g)=T at h ⊢
   generalize s1.read (c.taken g)=u at h ⊢
   unfold pTakeS at h ⊢
   cases hz:(((frL T (kSlots k)).length:Int)==0) with
   |true=>rw [hz] at h;cases h
   |false=>
    simp only [cond_false,pPutS,Pg.run_put,Pg.run_bind,Pg.run_ret]
    have hz:(frL T (kSlots k)).length≠0:= λe=>by rw [e] at hz;cases hz
    refine ⟨?_,?_, λx hx=>?_⟩
    ·rw [mL];simp;omega
    ·rw [mL];simp;omega
    ·have:=frL_mem (pJ hx);exact ⟨this.1,this.2.1⟩
theorem kSlots_32 (k:Int):kSlots k≤32:=(kSlots_bd k).2
def pgA (t p h a:Int):Int:=(r06_Page t p h a).1
def slA (t p h k a:Int):Int:=(r06_Slot t p h k (r06_Page t p h a).2.1).1
end
section
open Go.Sl
theorem getD_mem' {l:LI} {i:Nat} (h:i<l.length):l.getD i 0∈l:=by
 rw [iD,iN h];exact List.getElem_mem h
theorem drop_getD {l:LI} {i:Nat} (h:i<l.length):l.drop i=l.getD i 0::l.drop (i+1):=by
 rw [oJ h,iD,iN h];rfl
theorem lastI_i64 {l:LI} (h:lB l):i64R (lastI l).1:=by
 unfold lastI
 cases hc:iM l.length 0 with
 |true=>exact (show i64R 0 by decide)
 |false=>
  have:l.length≠0:= λe=>by rw [e] at hc;cases hc
  exact h.2 _ (getD_mem' (by omega))
def flushF (u:VS) (t p h k pg:Int) (l:LI):VS:=l.foldl (λu a=>slab_Give u t p h pg (slA t p h k a)) u
def flushR (s:VS) (t p h:Int) (x0 x1 x2 x3 x4 x5 x6 x7 x8:LI) (k:Int):VS×Int×LI×LI×LI×LI×LI×LI×LI×LI×LI:=
 bif (lastI (pkGet k x0 x1 x2 x3 x4 x5 x6 x7 x8)).2 then (flushF s t p h k (pgA t p h (lastI (pkGet k x0 x1 x2 x3 x4 x5 x6 x7 x8)).1) ((pkGet k x0 x1 x2 x3 x4 x5 x6 x7 x8).filter (onP t p h (pgA t p h (lastI (pkGet k x0 x1 x2 x3 x4 x5 x6 x7 x8)).1))),(((pkGet k x0 x1 x2 x3 x4 x5 x6 x7 x8).filter (onP t p h (pgA t p h (lastI (pkGet k x0 x1 x2 x3 x4 x5 x6 x7 x8)).1))).length:Int),pkSel k 0 ((pkGet k x0 x1 x2 x3 x4 x5 x6 x7 x8).filter λa=>!onP t p h (pgA t p h (lastI (pkGet k x0 x1 x2 x3 x4 x5 x6 x7 x8)).1) a) x0,pkSel k 1 ((pkGet k x0 x1 x2 x3 x4 x5 x6 x7 x8).filter λa=>!onP t p h (pgA t p h (lastI (pkGet k x0 x1 x2 x3 x4 x5 x6 x7 x8)).1) a) x1,pkSel k 2 ((pkGet k x0 x1 x2 x3 x4 x5 x6 x7 x8).filter λa=>!onP t p h (pgA t p h (lastI (pkGet k x0 x1 x2 x3 x4 x5 x6 x7 x8)).1) a) x2,pkSel k 3 ((pkGet k x0 x1 x2 x3 x4 x5 x6 x7 x8).filter λa=>!onP t p h (pgA t p h (lastI (pkGet k x0 x1 x2 x3 x4 x5 x6 x7 x8)).1) a) x3,pkSel k 4 ((pkGet k x0 x1 x2 x3 x4 x5 x6 x7 x8).filter λa=>!onP t p h (pgA t p h (lastI (pkGet k x0 x1 x2 x3 x4 x5 x6 x7 x8)).1) a) x4,pkSel k 5 ((pkGet k x0 x1 x2 x3 x4 x5 x6 x7 x8).filter λa=>!onP t p h (pgA t p h (lastI (pkGet k x0 x1 x2 x3 x4 x5 x6 x7 x8)).1) a) x5,pkSel k 6 ((pkGet k x0 x1 x2 x3 x4 x5 x6 x7 x8).filter λa=>!onP t p h (pgA t p h (lastI (pkGet k x0 x1 x2 x3 x4 x5 x6 x7 x8)).1) a) x6,pkSel k 7 ((pkGet k x0 x1 x2 x3 x4 x5 x6 x7 x8).filter λa=>!onP t p h (pgA t p h (lastI (pkGet k x0 x1 x2 x3 x4 x5 x6 x7 x8)).1) a) x7,pkSel k 8 ((pkGet k x0 x1 x2 x3 x4 x5 x6 x7 x8).filter λa=>!onP t p h (pgA t p h (lastI (pkGet k x0 x1 x2 x3 x4 x5 x6 x7 x8)).1) a) x8) else (s,0,x0,x1,x2,x3,x4,x5,x6,x7,x8)
def T_small_Free:Tb:=T_r01_Longs
theorem T_small_Free_ok:TOk T_small_Free:=T_r01_Longs_ok
def small_Flush (s:VS) (t p h:Int) (x0 x1 x2 x3 x4 x5 x6 x7 x8:LI) (k:Int):VS×Int×LI×LI×LI×LI×LI×LI×LI×LI×LI:=flushR s t p h x0 x1 x2 x3 x4 x5 x6 x7 x8 k
abbrev c_small_Flush:Ct Sg:=⟨some wView,false,[.agg [.i .i64, .i .i64, .i .i64], .agg [.ro [some .i8], .ro [some .i8], .ro [some .i8], .ro [some .i8], .ro [some .i8], .ro [some .i8], .ro [some .i8], .ro [some .i8], .ro [some .i8]], .i .i64], .tup [.i .i64, .agg [.new 2 [some .i8], .new 2 [some .i8], .new 2 [some .i8], .new 2 [some .i8], .new 2 [some .i8], .new 2 [some .i8], .new 2 [some .i8], .new 2 [some .i8], .new 2 [some .i8]]]⟩
def e_small_Flush:Entry Sg:=entC c_small_Flush small_Flush (λs t p h x0 x1 x2 x3 x4 x5 x6 x7 x8 k=>[p≤1024,pkB x0 x1 x2 x3 x4 x5 x6 x7 x8])
def small_Flush_w (s:VS) (t p h:Int) (x0 x1 x2 x3 x4 x5 x6 x7 x8:LI) (k:Int) (Q0:VS→LI→LI→LI→LI→LI→LI→LI→LI→LI→LI→Nat→Int→Int→Int→Prop) (R_:VS×Int×LI×LI×LI×LI×LI×LI×LI×LI×LI→Prop):Prop:=(∀r4:Int×Bool,r4=(p_Last x0 x1 x2 x3 x4 x5 x6 x7 x8 k)→(aw_ (pkB x0 x1 x2 x3 x4 x5 x6 x7 x8) (bw_ (!r4.2) (R_ ((s,0,x0,x1,x2,x3,x4,x5,x6,x7,x8))) (∀r7:Int×Int×Bool,r7=(addr_Page t p h r4.1)→(∀r8:Int×Bool,r8=(addr_Slot t p h k r7.2.1)→(∀r9:LI,r9=(p_On t p h x0 x1 x2 x3 x4 x5 x6 x7 x8 k r7.1)→(aw_ (pkB x0 x1 x2 x3 x4 x5 x6 x7 x8) (Q0 (s) ([]) ([]) ([]) ([]) ([]) ([]) ([]) ([]) ([]) (r9) (lenC [iS r9]) r7.1 ((↑(lenC [iS r9]):Int)) (0)))))))))
def small_Flush_w0 (s:VS) (t p h:Int) (x0 x1 x2 x3 x4 x5 x6 x7 x8:LI) (k:Int) (u:VS) (z0 z1 z2 z3 z4 z5 z6 z7 z8 l:LI) (mm:Nat) (pg n1 i:Int) (Q0:VS→LI→LI→LI→LI→LI→LI→LI→LI→LI→LI→Nat→Int→Int→Int→Prop) (R_:VS×Int×LI×LI×LI×LI×LI×LI×LI×LI×LI→Prop):Prop:=(bw_ (decide (i<n1)) (aw_ (0≤i∧i<(↑mm:Int)) (∀r2:Int×Int×Bool,r2=(addr_Page t p h (iI l (iL i) 0))→(∀r3:Int×Bool,r3=(addr_Slot t p h k r2.2.1)→(∀r4:VS,r4=(slab_Give u t p h pg r3.1)→(aw_ (p≤1024) (aw_ (0≤pg) (Q0 (r4) (z0) (z1) (z2) (z3) (z4) (z5) (z6) (z7) (z8) (l) (mm) (pg) (n1) (iA iB (i+1))))))))) (∀r1:LI×LI×LI×LI×LI×LI×LI×LI×LI,r1=(p_Off t p h x0 x1 x2 x3 x4 x5 x6 x7 x8 k pg)→(aw_ (pkB x0 x1 x2 x3 x4 x5 x6 x7 x8) (R_ ((u,(↑(lenC [iS l]):Int),r1.1,r1.2.1,r1.2.2.1,r1.2.2.2.1,r1.2.2.2.2.1,r1.2.2.2.2.2.1,r1.2.2.2.2.2.2.1,r1.2.2.2.2.2.2.2.1,r1.2.2.2.2.2.2.2.2))))))
def small_Flush_I0 (s:VS) (t p h:Int) (x0 x1 x2 x3 x4 x5 x6 x7 x8:LI) (k:Int) (u:VS) (z0 z1 z2 z3 z4 z5 z6 z7 z8 l:LI) (mm:Nat) (pg n1 i:Int) (r_:VS×Int×LI×LI×LI×LI×LI×LI×LI×LI×LI):Prop:=n1=l.length∧0≤i∧i≤l.length∧l.length≤1000000∧0≤pg∧(∀a∈l,i64R a)∧mm=l.length∧r_=(flushF u t p h k pg (l.drop i.toNat),(l.length:Int),pkSel k 0 ((pkGet k x0 x1 x2 x3 x4 x5 x6 x7 x8).filter λa=>!onP t p h pg a) x0,pkSel k 1 ((pkGet k x0 x1 x2 x3 x4 x5 x6 x7 x8).filter λa=>!onP t p h pg a) x1,pkSel k 2 ((pkGet k x0 x1 x2 x3 x4 x5 x6 x7 x8).filter λa=>!onP t p h pg a) x2,pkSel k 3 ((pkGet k x0 x1 x2 x3 x4 x5 x6 x7 x8).filter λa=>!onP t p h pg a) x3,pkSel k 4 ((pkGet k x0 x1 x2 x3 x4 x5 x6 x7 x8).filter λa=>!onP t p h pg a) x4,pkSel k 5 ((pkGet k x0 x1 x2 x3 x4 x5 x6 x7 x8).filter λa=>!onP t p h pg a) x5,pkSel k 6 ((pkGet k x0 x1 x2 x3 x4 x5 x6 x7 x8).filter λa=>!onP t p h pg a) x6,pkSel k 7 ((pkGet k x0 x1 x2 x3 x4 x5 x6 x7 x8).filter λa=>!onP t p h pg a) x7,pkSel k 8 ((pkGet k x0 x1 x2 x3 x4 x5 x6 x7 x8).filter λa=>!onP t p h pg a) x8)
abbrev small_Flush_h0 (p0:Addr) (s:VS) (t p h:Int) (x0 x1 x2 x3 x4 x5 x6 x7 x8:LI) (k:Int):Hd Sg:=⟨none,[0,1,0,1,1,1,1,1,1],[.blk 0, .code [1,1,1,1,1,1,1]],[0,6,10,5,9,3,15,46,13,47,48],[.objc wView p0, .box 40 [.roc [.fz (x0)], .roc [.fz (x1)], .roc [.fz (x2)], .roc [.fz (x3)], .roc [.fz (x4)], .roc [.fz (x5)], .roc [.fz (x6)], .roc [.fz (x7)], .roc [.fz (x8)]], .box 78 [.ago 0, .ic .i64 (t), .ic .i64 (p), .ic .i64 (h), .ags 2 (x0.length), .ags 3 (x1.length), .ags 4 (x2.length), .ags 5 (x3.length), .ags 6 (x4.length), .ags 7 (x5.length), .ags 8 (x6.length), .ags 9 (x7.length), .ags 10 (x8.length)], .box 23 [.ic .i64 (t), .ic .i64 (p), .ic .i64 (h)], .box 40 [.ro [some .i8], .ro [some .i8], .ro [some .i8], .ro [some .i8], .ro [some .i8], .ro [some .i8], .ro [some .i8], .ro [some .i8], .ro [some .i8]], .ic .i64 (k), .ro [some .i8], .agn 23, .i .i64, .i .i64, .i .i64]⟩
theorem small_Flush_begin (s:VS) (t p h:Int) (x0 x1 x2 x3 x4 x5 x6 x7 x8:LI) (k:Int) (hp0:p≤1024) (hp1:pkB x0 x1 x2 x3 x4 x5 x6 x7 x8):small_Flush_w s t p h x0 x1 x2 x3 x4 x5 x6 x7 x8 k (λu' z0' z1' z2' z3' z4' z5' z6' z7' z8' l' mm' pg' n1' i'=>small_Flush_I0 s t p h x0 x1 x2 x3 x4 x5 x6 x7 x8 k u' z0' z1' z2' z3' z4' z5' z6' z7' z8' l' mm' pg' n1' i' (small_Flush s t p h x0 x1 x2 x3 x4 x5 x6 x7 x8 k)) (λr__=>r__=(small_Flush s t p h x0 x1 x2 x3 x4 x5 x6 x7 x8 k)):=by
 unfold small_Flush_w
 try unfold small_Flush_I0
 have hb:=pkB_get hp1 k
 have hP:addr_Page t p h (p_Last x0 x1 x2 x3 x4 x5 x6 x7 x8 k).1=r06_Page t p h (lastI (pkGet k x0 x1 x2 x3 x4 x5 x6 x7 x8)).1:=Page_eq (lastI_i64 hb)
 rintro r4 rfl
 refine ⟨hp1, λ_=>⟨λhc=>?_, λhc=>?_⟩⟩
 ·have hc:(lastI (pkGet k x0 x1 x2 x3 x4 x5 x6 x7 x8)).2=false:=(jO _).mp hc
  show _=small_Flush s t p h x0 x1 x2 x3 x4 x5 x6 x7 x8 k
  unfold small_Flush flushR
  rw [hc];rfl
 ·have hc:(lastI (pkGet k x0 x1 x2 x3 x4 x5 x6 x7 x8)).2=true:=(jY _).mp hc
  rw [hP]
  rintro r7 rfl r8 rfl r9 rfl
  have hlen:(p_On t p h x0 x1 x2 x3 x4 x5 x6 x7 x8 k (r06_Page t p h (lastI (pkGet k x0 x1 x2 x3 x4 x5 x6 x7 x8)).1).1).length≤1000000:=mE (mB _ _) hb.1
  refine ⟨hp1, λ_=>⟨rfl,by omega,?_,hlen,page_nn t p h _ (lastI_i64 hb), λa ha=>hb.2 a (lS.mp ha).1,rfl,?_⟩⟩
  ·omega
  ·unfold small_Flush flushR
   rw [hc];rfl
theorem small_Flush_step0 (s:VS) (t p h:Int) (x0 x1 x2 x3 x4 x5 x6 x7 x8:LI) (k:Int) (hp0:p≤1024) (hp1:pkB x0 x1 x2 x3 x4 x5 x6 x7 x8) (u:VS) (z0 z1 z2 z3 z4 z5 z6 z7 z8 l:LI) (mm:Nat) (pg n1 i:Int) {r_:VS×Int×LI×LI×LI×LI×LI×LI×LI×LI×LI} (hI:small_Flush_I0 s t p h x0 x1 x2 x3 x4 x5 x6 x7 x8 k u z0 z1 z2 z3 z4 z5 z6 z7 z8 l mm pg n1 i r_):small_Flush_w0 s t p h x0 x1 x2 x3 x4 x5 x6 x7 x8 k u z0 z1 z2 z3 z4 z5 z6 z7 z8 l mm pg n1 i (λu' z0' z1' z2' z3' z4' z5' z6' z7' z8' l' mm' pg' n1' i'=>small_Flush_I0 s t p h x0 x1 x2 x3 x4 x5 x6 x7 x8 k u' z0' z1' z2' z3' z4' z5' z6' z7' z8' l' mm' pg' n1' i' r_∧lx (((l'.length:Int)-i').toNat,0,0) (((l.length:Int)-i).toNat,0,0)) (λr__=>r__=r_):=by
 unfold small_Flush_I0 at hI
 unfold small_Flush_w0
 try unfold small_Flush_I0
 obtain ⟨hn,h0,h1,hl,hpg,ha,hmm,hr⟩:=hI
 refine ⟨λhc=>?_, λhc=>?_⟩
 ·simp only [decide_eq_true_eq] at hc
  have hlt:i.toNat<l.length:=by omega
  refine ⟨⟨h0,by omega⟩, λ_=>?_⟩
  rintro r2 rfl r3 rfl r4 rfl
  rw [w64 (n:=i+1) (by omega)]
  refine ⟨hp0, λ_=>⟨hpg, λ_=>⟨⟨hn,by omega,by omega,hl,hpg,ha,hmm,?_⟩,lxo_⟩⟩⟩
  rw [hr,drop_getD hlt,show (i+1).toNat=i.toNat+1 by omega,Page_eq (ha _ (getD_mem' hlt)),Slot_eq]
  rfl
 ·simp only [decide_eq_false_iff_not] at hc
  rintro r1 rfl
  refine ⟨hp1, λ_=>?_⟩
  show _=r_
  rw [hr,List.drop_eq_nil_of_le (by omega)]
  rfl
theorem small_Flush_ok:EOk 20 e_small_Flush:=
 ent_wp Dg T_small_Free_ok (I:=[46,32,59,30,47,69,60,2999998,5401000000000,5401000000006,5401000000010,5401000000005,5401000000009,5401000000003,5401000000015,5401000000046,5401000000013,5401000000047,5401000000048]) Tryz.func20 mix (B:=bodyOf Tryz.f20) (by kernel_rfl) rfl (by kernel_rfl) 400
  λp0 s t p h x0 x1 x2 x3 x4 x5 x6 x7 x8 k hb hp=>have hp0:p≤1024:=hp _ (.head _);have hp1:pkB x0 x1 x2 x3 x4 x5 x6 x7 x8:=hp _ (.tail _ (.head _));⟨[small_Flush_h0 p0 s t p h x0 x1 x2 x3 x4 x5 x6 x7 x8 k], λj=>iI [appC (Hd.kd (small_Flush_h0 p0 s t p h x0 x1 x2 x3 x4 x5 x6 x7 x8 k)) (λu' z0' z1' z2' z3' z4' z5' z6' z7' z8' l' mm' pg' n1' i'=>small_Flush_I0 s t p h x0 x1 x2 x3 x4 x5 x6 x7 x8 k u' z0' z1' z2' z3' z4' z5' z6' z7' z8' l' mm' pg' n1' i' (small_Flush s t p h x0 x1 x2 x3 x4 x5 x6 x7 x8 k))] j (λ_=>False), λj=>iI [appC (Hd.kd (small_Flush_h0 p0 s t p h x0 x1 x2 x3 x4 x5 x6 x7 x8 k)) (λu' z0' z1' z2' z3' z4' z5' z6' z7' z8' l' mm' pg' n1' i'=>(((l'.length:Int)-i').toNat,0,0))] j (λ_=>(0,0,0)),by kernel_rfl,⟨_, λ_ _ _=>by kernel_rfl,small_Flush_begin s t p h x0 x1 x2 x3 x4 x5 x6 x7 x8 k hp0 hp1⟩,⟨λu z0 z1 z2 z3 z4 z5 z6 z7 z8 l mm pg n1 i hI=>⟨_, λ_ _ _=>by kernel_rfl,small_Flush_step0 s t p h x0 x1 x2 x3 x4 x5 x6 x7 x8 k hp0 hp1 u z0 z1 z2 z3 z4 z5 z6 z7 z8 l mm pg n1 i hI⟩,trivial⟩⟩
def T_small_Flush:Tb:=(20,e_small_Flush)::T_small_Free
theorem T_small_Flush_ok:TOk T_small_Flush:=tc_ small_Flush_ok T_small_Free_ok
end
end Go.Proofs.YtinpgnomkmmfdaaGreat
namespace Go.Sl
section
open Go.RowKit
def recOf (fn:FuncId) (tmps:Array Value) (ps:Array Tmp) (assign body:Code) (D:Nat) (st:LoopState) (pe:Option Code):Loop:=
 {state:=st,pending:=pe,fn,tmps,params:=ps,assign,body,defers:=D}
def mark (D:Nat):Deferred:={target:= .collected D,args:= #[]}
def rfWorld (w:World) (fn:FuncId) (tmps:Array Value) (ps:Array Tmp) (assign body:Code):World:=
 (w.alloc (.deferred (some []))).alloc (.loop (recOf fn tmps ps assign body w.heap.size .ready none))
section
variable {P:Program} {f:Fq} {R:Ending→World→Prop} {k:List Item} {a:Act} {w:World}
theorem WT.rangeFunc {g:Operand} {ps:Array Tmp} {assign body:Code} {gf:Nat} {lb:Array Value} (hro:f.ro=none) (hg:a.eval g= .func (.func gf) #[] lb) (eg:∀args w,(callFunc gf args).run P w= .ok (.enter gf args) w)
 (h:Calls P gf (#[.func (.yield (w.heap.size+1)) #[] #[]]++lb) (rfWorld w f.id a.tmps ps assign body) λe w3=>(∃v,e= .returned v)∧∃jump w4,(Instr.endLoop (w.heap.size+1)).run P w3= .ok jump w4∧
   WT P {f with df:=mark w.heap.size::f.df} R ((jump.map Item.code).toList++k) a w4):
 WT P f R (.code (.rangeFunc g ps assign body)::k) a w:= λcs hcs=>by
 have hb:(bfr f).roundOf=none:=hro
 have he:(Instr.enterLoop (bfr f).fn (f.act a).tmps ps assign body (bfr f).roundOf).run P w= .ok (w.heap.size+1,[mark w.heap.size]) (rfWorld w f.id a.tmps ps assign body):=by
  rw [hb];exact run_enterLoop_outer _ _ _ _ _
 have hres:(resolve (f.act a).eval (rangeCall g (w.heap.size+1)) 0).run P (rfWorld w f.id a.tmps ps assign body)= .ok {target:= .fn (.func gf) lb,args:= #[.func (.yield (w.heap.size+1)) #[] #[]]} (rfWorld w f.id a.tmps ps assign body):=by
  simp only [resolve,Fq.act_eval,hg]
  simp [go_sem]
 have hinv:(invoke (Target.fn (.func gf) lb) #[.func (.yield (w.heap.size+1)) #[] #[]]).run P (rfWorld w f.id a.tmps ps assign body)= .ok (.enter gf (#[.func (.yield (w.heap.size+1)) #[] #[]]++lb)) (rfWorld w f.id a.tmps ps assign body):=by
  simp [invoke,go_sem,eg]
 have henter:=stepR_rangeFunc (P:=P) (b:=bfr f) (a:=f.act a) (k:=k) (cs:=cs) (w:=w) he hres hinv
 obtain ⟨e,w3,fr,⟨⟨v,rfl⟩,jump,w4,hend,hW⟩,hsteps,_,hleave⟩:=h ((bfr f).atR {f.act a with defers:=[mark w.heap.size]++(f.act a).defers} (.inRangeFunc (w.heap.size+1)::k)::cs)
 have s1:=step_leave_returned (c:=(bfr f).atR {f.act a with defers:=[mark w.heap.size]++(f.act a).defers} (.inRangeFunc (w.heap.size+1)::k)) (cs:=cs) hleave
 rw [finish_atR_inRangeFunc] at s1
 have s2:=stepR_endRangeFunc (P:=P) (b:=bfr f) (a:={f.act a with defers:=[mark w.heap.size]++(f.act a).defers}) (k:=k) (cs:=cs) hend
 obtain ⟨e2,w5,S,h1,h2,h3⟩:=hW cs hcs
 exact ⟨e2,w5,S,h1,Comes.of_steps (.head henter (Steps.trans hsteps (.head s1 (.one s2)))) h2,h3⟩
theorem WT.round_begin {l:Nat} {w':World} (hro:f.ro=some l) (hr:(Instr.beginRound l).run P w= .ok () w') (H:WT P f R k a w'):WT P f R (.beginRound::k) a w:=
 WT.step (λ_=>stepR_beginRound (b:=bfr f) hro hr) H
theorem WT.round_of {l:Nat} {v:Value} {t:List Item} {w':World} (hro:f.ro=some l) (hs:∀c cs,Go.step P (lone ((bfr f).atR (f.act a) t) (c::cs) w)= .next (lone (c.finish v) cs w')) (hR:R (.returned v) w'):WT P f R t a w:= λcs hcs=>by
 cases cs with
 |nil=>rcases hcs with h|h
       ·rw [hro] at h;cases h
       ·exact absurd rfl h
 |cons c cs=>
  refine ⟨.returned v,w',_,hR,Steps.one (hs c cs),?_⟩
  unfold Fq.fin
  rw [hro]
  exact ⟨v,c,cs,rfl,rfl,rfl⟩
theorem WT.round_end {l:Nat} {v:Value} {w':World} (hro:f.ro=some l) (hr:(Instr.endRound l none).run P w= .ok v w') (hR:R (.returned v) w'):WT P f R [] a w:=
 WT.round_of hro (λ_ _=>stepR_round_end (b:=bfr f) hro rfl hr) hR
theorem WT.round_ret {l:Nat} {v:Value} {w':World} (hro:f.ro=some l) (hr:(Instr.endRound l (some .ret)).run P w= .ok v w') (hR:R (.returned v) w'):WT P f R (.code .ret::k) a w:=
 WT.round_of hro (λ_ _=>stepR_round_ret (b:=bfr f) hro rfl hr) hR
theorem ycalls_of {l:Nat} {fn:FuncId} {tmps:Array Value} {ps:Array Tmp} {assign body:Code} {D:Nat} {asv:Array Value} (h:w.heap[l]? =some (.loop (recOf fn tmps ps assign body D .ready none))) (hs:asv.size=ps.size)
 (H:WT P ⟨fn,some l,[]⟩ R [.code assign, .beginRound, .code body] {tmps:=(ps.zip asv).foldl (λt (p,v)=>t.setIfInBounds p v) tmps,defers:=[]} w):YCalls P l asv w R:=
 ⟨fn,_,assign,body,run_yield h hs,H⟩
theorem WT.round_busy {l:Nat} {r:Loop} (hro:f.ro=some l) (h:w.heap[l]? =some (.loop r)) (hr:r.state= .ready) (H:WT P f R k a (w.putObj l (.loop {r with state:= .busy}))):WT P f R (.beginRound::k) a w:=
 WT.round_begin hro (run_beginRound h hr) H
theorem WT.round_on {l:Nat} {r:Loop} (hro:f.ro=some l) (h:w.heap[l]? =some (.loop r)) (hR:R (.returned (.bool true)) (w.putObj l (.loop {r with state:= .ready,pending:=none}))):WT P f R [] a w:=
 WT.round_end hro (run_endRound none h) hR
theorem WT.round_off {l:Nat} {r:Loop} (hro:f.ro=some l) (h:w.heap[l]? =some (.loop r)) (hR:R (.returned (.bool false)) (w.putObj l (.loop {r with state:= .done,pending:=some .ret}))):WT P f R (.code .ret::k) a w:=
 WT.round_ret hro (run_endRound (some .ret) h) hR
theorem WT.finish_mark {fn:Func} {t:List Item} {v:Value} {D:Nat} {w':World} (hro:f.ro=none) (hdf:f.df=[mark D]) (hfn:P.funcs[f.id]? =some fn) (ht:t=[]∨∃k,t= .code .ret::k) (hd:a.defers=[])
 (hk:(Instr.takeDeferred D).run P w= .ok [] w') (hr:(results fn a.tmps).run P w'= .ok v w') (hR:R (.returned v) w'):WT P f R t a w:= λcs _=>by
 have hb:(bfr f).roundOf=none:=hro
 have hfin:∀fr,fr.fn=f.id→fr.leaving P w' (.returned v)→f.fin P cs (lone fr cs w') (.returned v) w':= λfr h1 h2=>by
  unfold Fq.fin;rw [hro];exact ⟨fr,rfl,h1,h2⟩
 have hc:∀t,Go.step P (lone {(bfr f).atR (f.act a) t with mode:= .returning} cs w)= .next (lone {(bfr f).atR (f.act a) t with mode:= .returning,defers:=[]} cs w'):= λt=>
  step_collected (fr:={(bfr f).atR (f.act a) t with mode:= .returning}) (by simp) (by show f.df++a.defers=_;rw [hdf,hd];rfl) rfl hk
 rcases ht with rfl|⟨k,rfl⟩
 ·exact ⟨.returned v,w',_,hR,Steps.head (stepR_end hb) (.one (hc _)),hfin _ rfl ⟨rfl,rfl,rfl,fn,hfn,hr⟩⟩
 ·exact ⟨.returned v,w',_,hR,Steps.head (stepR_ret hb) (.one (hc _)),hfin _ rfl ⟨rfl,rfl,rfl,fn,hfn,hr⟩⟩
end
end
section
open Go.RowKit
variable {σ:Type} (D:Addr→σ→Asn)
section
variable {P:Program} {R:Ending→World→Prop} {B:Code} {n:Nat} {E:Ev} {G:Hp} {td:List Ab} {L L':List Ent} {K K':List (Chunk σ)}
theorem SatK.putObj {w:World} {j l:Nat} {q:Addr} {s s':σ} {x y:Obj} (hS:SatK D E G w K) (hj:K[j]? =some (.obj q s)) (hd:D q s=pt l x) (hd':D q s'=pt l y):SatK D E G (w.putObj l y) (K.set j (.obj q s')):=by
 have hi:(K.map (den D G))[j]? =some (pt l x):=by rw [iR,hj];simp only [iT,den,hd]
 have hl:=Sat.pt hS hi
 have hlt:=lt_of_heap hl
 have:=Sat.write hS hi (w':=w.putObj l y) (A':=pt l y) ⟨rfl,rfl,rfl⟩ World.putObj_size (λc hc=>World.putObj_heap_other hc) (λY k hk=>by unfold Sl.pt;rw [hk];exact World.putObj_heap_same hlt)
 unfold SatK
 rw [kW]
 simp only [den,hd']
 exact this
theorem KExt.setObj {j:Nat} {q:Addr} {s s':σ} (hj:K[j]? =some (.obj q s)):KExt K (K.set j (.obj q s')):=KExt.set hj λv pk h=>by cases pk<;>first|exact h|exact h.elim
theorem KOk.setObj {j:Nat} {q:Addr} {s s':σ} (hk:KOk K) (hj:K[j]? =some (.obj q s)):KOk (K.set j (.obj q s')):=hk.set hj (λv pk h=>by cases pk<;>first|exact h|exact h.elim) λ_ _ _ h=>by cases h
theorem SatK.objPt {w:World} {j l:Nat} {q:Addr} {s:σ} {x:Obj} (hS:SatK D E G w K) (hj:K[j]? =some (.obj q s)) (hd:D q s=pt l x):w.heap[l]? =some x:=
 Sat.pt hS (i:=j) (by rw [iR,hj];simp only [iT,den,hd])
theorem Fr.round2 {a:Act} {p1 p2:Nat} {v1 v2:Value} (hF:Fr n L K a) (hK:KExt K K') (hk:KOk K') (h1:p1<n) (h2:p2<n) (hne:p1≠p2) (hL:∀e∈L',e.g=none∧e.s≠p1∧e.s≠p2∧e∈L):
 Fr n (⟨p1,none,v1, .no⟩::⟨p2,none,v2, .no⟩::L') K' {tmps:=(a.tmps.setIfInBounds p1 v1).setIfInBounds p2 v2,defers:=[]}:=by
 refine ⟨hk,rfl,by simp [hF.size], λe he hg=>?_, λe he hg=>?_⟩
 ·simp only [iG] at he
  rcases he with rfl|rfl|he
  ·refine ⟨?_,pOk_no⟩
   rw [jK,oQ (λh=>hne h.symm),Array.getElem?_setIfInBounds_self_of_lt (by rw [hF.size];exact h1)];rfl
  ·refine ⟨?_,pOk_no⟩
   rw [jK,Array.getElem?_setIfInBounds_self_of_lt (by simp only [Array.size_setIfInBounds];rw [hF.size];exact h2)];rfl
  ·obtain ⟨h3,h4,h5,h6⟩:=hL e he
   have:=(hF.ext hK hk).ents e h6 (by rw [h3];trivial)
   refine ⟨?_,this.2⟩
   rw [←this.1]
   rw [jK,jK,oQ (λh=>h5 h.symm),oQ (λh=>h4 h.symm)]
 ·exfalso
  apply hg
  simp only [iG] at he
  rcases he with rfl|rfl|he
  ·trivial
  ·trivial
  ·rw [(hL e he).1];trivial
theorem ycalls_sw {f:FuncId} {a:Act} {w:World} {p:List Nat} {p1 p2:Nat} {v1 v2:Value} {l Dm:Nat} (hF:Fr n L K a) (hK:KExt K K') (hk:KOk K') (h1:p1<n) (h2:p2<n) (hne:p1≠p2) (hL:∀e∈L',e.g=none∧e.s≠p1∧e.s≠p2∧e∈L)
 (hr:w.heap[l]? =some (.loop (recOf f a.tmps #[p1,p2] (Sl.sub B (0::p)) (Sl.sub B (1::p)) Dm .ready none))) (hS:SatK D E G w K')
 (H:SW D P ⟨f,some l,[]⟩ R B n E G [.code (0::p), .raw .beginRound, .code (1::p)] (⟨p1,none,v1, .no⟩::⟨p2,none,v2, .no⟩::L') K'):YCalls P l #[v1,v2] w R:=by
 refine ycalls_of hr rfl ?_
 have e:(#[p1,p2].zip #[v1,v2]).foldl (λ(t:Array Value) (p,v)=>t.setIfInBounds p v) a.tmps=(a.tmps.setIfInBounds p1 v1).setIfInBounds p2 v2:=by simp
 rw [e]
 exact H _ w (hF.round2 hK hk h1 h2 hne hL) hS
theorem SW.busy {f:Fq} {l j:Nat} {q:Addr} {s s':σ} {r:Loop} (hro:f.ro=some l) (hj:K[j]? =some (.obj q s)) (hd:D q s=pt l (.loop r)) (hr:r.state= .ready) (hd':D q s'=pt l (.loop {r with state:= .busy}))
 (H:SW D P f R B n E G td L (K.set j (.obj q s'))):SW D P f R B n E G (.raw .beginRound::td) L K:= λa w hF hS=>
 WT.round_busy hro (hS.objPt D hj hd) hr (H a _ (hF.ext (KExt.setObj hj) (hF.kok.setObj hj)) (hS.putObj D hj hd hd'))
theorem SW.on {f:Fq} {l j:Nat} {q:Addr} {s s':σ} {r:Loop} (hro:f.ro=some l) (hj:K[j]? =some (.obj q s)) (hd:D q s=pt l (.loop r)) (hd':D q s'=pt l (.loop {r with state:= .ready,pending:=none}))
 (H:∀w',KOk (K.set j (.obj q s'))→SatK D E G w' (K.set j (.obj q s'))→R (.returned (.bool true)) w'):SW D P f R B n E G [] L K:= λ_ _ hF hS=>
 WT.round_on hro (hS.objPt D hj hd) (H _ (hF.kok.setObj hj) (hS.putObj D hj hd hd'))
theorem SW.off {f:Fq} {l j:Nat} {q:Addr} {s s':σ} {r:Loop} {q0:List Nat} (hro:f.ro=some l) (hc:Sl.sub B q0= .ret) (hj:K[j]? =some (.obj q s)) (hd:D q s=pt l (.loop r)) (hd':D q s'=pt l (.loop {r with state:= .done,pending:=some .ret}))
 (H:∀w',KOk (K.set j (.obj q s'))→SatK D E G w' (K.set j (.obj q s'))→R (.returned (.bool false)) w'):SW D P f R B n E G (.code q0::td) L K:= λa w hF hS=>by
 show WT P f R (.code (Sl.sub B q0)::td.map (item B)) a w
 rw [hc]
 exact WT.round_off hro (hS.objPt D hj hd) (H _ (hF.kok.setObj hj) (hS.putObj D hj hd hd'))
theorem SW.rangeFunc {f:FuncId} {p:List Nat} {t gf:Nat} {ps:Array Tmp} {lb:Array Value} {pr:Pr} (hc:Sl.sub B p= .rangeFunc (.tmp t) ps (Sl.sub B (0::p)) (Sl.sub B (1::p))) (hL:(⟨t,none, .func (.func gf) #[] lb,pr⟩:Ent)∈L)
 (eg:∀args w,(callFunc gf args).run P w= .ok (.enter gf args) w)
 (H:∀a w,Fr n L K a→Sat E G (rfWorld w f a.tmps ps (Sl.sub B (0::p)) (Sl.sub B (1::p))) (K.map (den D G)++[pt w.heap.size (.deferred (some [])),pt (w.heap.size+1) (.loop (recOf f a.tmps ps (Sl.sub B (0::p)) (Sl.sub B (1::p)) w.heap.size .ready none))])→
   Calls P gf (#[.func (.yield (w.heap.size+1)) #[] #[]]++lb) (rfWorld w f a.tmps ps (Sl.sub B (0::p)) (Sl.sub B (1::p))) λe w3=>(∃v,e= .returned v)∧∃r w4,w3.heap[w.heap.size+1]? =some (.loop r)∧r.state≠ .busy∧w4=w3.putObj (w.heap.size+1) (.loop {r with state:= .exhausted})∧
    WT P ⟨f,none,[mark w.heap.size]⟩ R ((r.pending.map Item.code).toList++td.map (item B)) a w4):
 SW D P f R B n E G (.code p::td) L K:= λa w hF hS=>by
 show WT P (f:Fq) R (.code (Sl.sub B p)::td.map (item B)) a w
 rw [hc]
 have hv:=hF.ents _ hL trivial
 refine WT.rangeFunc (f:=(f:Fq)) rfl (lb:=lb) hv.1 eg ?_
 have h1:=Sat.alloc (Sat.alloc hS (.deferred (some []))) (.loop (recOf f a.tmps ps (Sl.sub B (0::p)) (Sl.sub B (1::p)) w.heap.size .ready none))
 rw [jX] at h1
 have hsz:(w.alloc (.deferred (some []))).heap.size=w.heap.size+1:=by simp
 rw [hsz] at h1
 refine (H a w hF h1).mono λe w3 ⟨hv,r,w4,h2,h3,h4,h5⟩=>⟨hv,r.pending,w4,?_,h5⟩
 rw [h4]
 exact run_endLoop h2 h3
theorem SW.finish_mark {f:Fq} {fn:Func} {Dm j:Nat} {q:Addr} {s s':σ} {vs:List (Value×Pr)} (hro:f.ro=none) (hdf:f.df=[mark Dm]) (hfn:P.funcs[f.id]? =some fn) (ht:td.map (item B)=[]∨∃k,td.map (item B)= .code .ret::k)
 (hj:K[j]? =some (.obj q s)) (hd:D q s=pt Dm (.deferred (some []))) (hd':D q s'=pt Dm (.deferred none)) (hres:resVals P L (K.set j (.obj q s')) fn.results.toList=some vs)
 (H:∀w',SatK D E G w' (K.set j (.obj q s'))→R (.returned (match vs with|[v]=>v.1|vs=> .tuple (vs.map (·.1)).toArray)) w'):SW D P f R B n E G td L K:= λa w hF hS=>by
 have hS':=hS.putObj D hj hd hd'
 have hF':=hF.ext (KExt.setObj (s':=s') hj) (hF.kok.setObj hj)
 refine WT.finish_mark hro hdf hfn ht hF.defers (run_takeDeferred (hS.objPt D hj hd)) ?_ (H _ hS')
 ·have hrun:=(resVals_run D hF' hS' _ _ hres).1
  unfold results
  rw [pS]
  simp only [jU,Sem.run_map]
  erw [hrun]
  simp only [Result.andThen_ok,kB]
  match vs with
  |[]=>rfl
  |[v]=>rfl
  |_::_::_=>simp
theorem resVals_never {t:TypeId} (h:aggB P t=none) (L:List Ent) (K:List (Chunk σ)):resVals P L K [.cell 0 t]=none:=by
 have hc:∀cs off,cellsLoad P t cs off=none:= λcs off=>by unfold cellsLoad;rw [h]
 simp only [resVals]
 split
 ·split
  ·rw [hc]
  ·rfl
 ·rfl
theorem SatK.order {w:World} {Ks:List (Chunk σ)} (h:SatK D E G w K) (is:List Nat) (hn:nodupB is=true) (hg:Ks.map some=is.map (λj=>K[j]?)):SatK D E G w Ks:=by
 refine Sat.pick h is (nodupB_ok hn) λi B hi=> .inl ?_
 rw [iR] at hi
 cases hc:Ks[i]? with
 |none=>rw [hc] at hi;cases hi
 |some c=>
  rw [hc] at hi;injection hi with hi;subst hi
  have:=congrArg (λl=>l[i]?) hg
  simp only [iR,hc,iT] at this
  cases hj:is[i]? with
  |none=>rw [hj] at this;cases this
  |some j=>
   rw [hj] at this
   simp only [iT,iC] at this
   exact ⟨j,rfl,by rw [iR,←this];rfl⟩
theorem SatK.pack {w:World} {Ks K1:List (Chunk σ)} {c:Chunk σ} (h:SatK D E G w (Ks++K1)) (hc:den D G c=star (Ks.map (den D G))):SatK D E G w (c::K1):=by
 unfold SatK at h ⊢
 rw [jG] at h
 rw [iK,hc]
 exact Sat.star_append h
theorem SatK.unpack {w:World} {k:Nat} {k0:Chunk σ} {ks:List (Chunk σ)} {c:Chunk σ} (h:SatK D E G w K) (hk:K[k]? =some c) (hc:den D G c=star ((k0::ks).map (den D G))):SatK D E G w (K.set k k0++ks):=by
 unfold SatK at h ⊢
 obtain ⟨_,_,h1⟩:=Sat.openAt (α:=Unit) (p:= λ_=>True) (A0:= λ_=>den D G k0) (Bs:= λ_=>ks.map (den D G)) (k:=k) h (by
  rw [iR,hk]
  simp only [iT,iC,hc]
  funext Y h
  apply propext
  exact ⟨λx=>⟨(),trivial,x⟩, λ⟨_,_,x⟩=>x⟩)
 rw [jG,kW]
 exact h1
end
end
section
open Go.RowKit
variable {σ:Type} (D:Addr→σ→Asn)
section
variable {P:Program} {R:Ending→World→Prop} {B:Code} {n:Nat} {E:Ev} {G:Hp} {td:List Ab} {L L':List Ent} {K K':List (Chunk σ)}
def reOk (L:List Ent) (K':List (Chunk σ)) (e:Ent):Prop:=e.g=none∧(∃p,(⟨e.s,none,e.v,p⟩:Ent)∈L)∧pOk K' e.v e.p
theorem Fr.re {a:Act} (hF:Fr n L K a) (hk:KOk K') (hL:∀e∈L',reOk L K' e):Fr n L' K' a:=by
 refine ⟨hk,hF.defers,hF.size, λe he _=>?_, λe he hg=>?_⟩
 ·obtain ⟨_,⟨p,hp⟩,h3⟩:=hL e he
  exact ⟨(hF.ents _ hp trivial).1,h3⟩
 ·exact absurd (by rw [(hL e he).1];trivial) hg
theorem SW.re {f:Fq} {α:Type} {Kf:α→List (Chunk σ)} (hS:∀w,SatK D E G w K→∃x,SatK D E G w (Kf x)) (hk:∀x,KOk (Kf x)) (hL:∀x,∀e∈L',reOk L (Kf x) e) (H:∀x,SW D P f R B n E G td L' (Kf x)):SW D P f R B n E G td L K:= λa w hF hw=>
 let ⟨x,hx⟩:=hS w hw
 H x a w (hF.re (hk x) (hL x)) hx
theorem SatK.ord {w:World} {Ks:List (Chunk σ)} (h:SatK D E G w K) (is:List Nat) (hn:nodupB is=true) (hg:Ks.map (λc=>some (den D G c))=is.map (λj=>K[j]?.map (den D G))):SatK D E G w Ks:=by
 refine Sat.pick h is (nodupB_ok hn) λi B hi=> .inl ?_
 have e:=congrArg (λl=>l[i]?) hg
 simp only [iR] at e hi
 cases hc:Ks[i]? with
 |none=>rw [hc] at hi;cases hi
 |some c=>
  rw [hc] at hi e
  simp only [iT,iC] at hi e
  subst hi
  cases hj:is[i]? with
  |none=>rw [hj] at e;cases e
  |some j=>
   rw [hj] at e
   simp only [iT,iC] at e
   exact ⟨j,rfl,by rw [iR];exact e.symm⟩
theorem SatK.packEx {w:World} {Ks K1:List (Chunk σ)} {c:Chunk σ} (h:SatK D E G w (Ks++K1)) (hc:∀Y k,Sl.star (Ks.map (den D G)) Y k→den D G c Y k):SatK D E G w (c::K1):=by
 unfold SatK at h ⊢
 rw [jG] at h
 have h1:=Sat.star_append h
 refine Sat.imp h1 λi B hi=>?_
 cases i with
 |zero=>simp only [iK,jJ,iC] at hi;exact ⟨_,rfl, λY k hx=>by rw [←hi];exact hc Y k hx⟩
 |succ i=>exact ⟨B,by simpa using hi, λ_ _ hx=>hx⟩
theorem SatK.unpackEx {w:World} {α:Type} {k:Nat} {k0:α→Chunk σ} {ks:α→List (Chunk σ)} {c:Chunk σ} (h:SatK D E G w K) (hk:K[k]? =some c) (hc:den D G c= λY h=>∃x,Sl.star ((k0 x::ks x).map (den D G)) Y h):∃x,SatK D E G w (K.set k (k0 x)++ks x):=by
 unfold SatK at h
 obtain ⟨x,_,h1⟩:=Sat.openAt (α:=α) (p:= λ_=>True) (A0:= λx=>den D G (k0 x)) (Bs:= λx=>(ks x).map (den D G)) (k:=k) h (by
  rw [iR,hk]
  simp only [iT,iC,hc]
  funext Y h
  apply propext
  exact ⟨λ⟨x,hx⟩=>⟨x,trivial,hx⟩, λ⟨x,_,hx⟩=>⟨x,hx⟩⟩)
 refine ⟨x,?_⟩
 unfold SatK
 rw [jG,kW]
 exact h1
theorem SatK.dup {w:World} {j:Nat} {a:Option Addr} {n cap:Nat} {xs:LI} (h:SatK D E G w K) (hj:K[j]? =some (.ro a n cap [.fz xs])):SatK D E G w (K++[.ro a n cap [.fz xs]]):=by
 obtain ⟨Z,hz,hw,h0⟩:=h
 refine ⟨Z,hz,hw,?_⟩
 have hA:∀k,upZ Z (den D G (.ro a n cap [.fz xs])) k:= λk Y hY=>by
  obtain ⟨_,_,o,_,h4⟩:=h0
  exact h4 j _ (map_get (map_get hj)) Y hY
 refine Sat0.pick h0 (jQ K.length) pO λi B hi=>?_
 rw [jG,jG] at hi
 by_cases hl:i<K.length
 ·rw [iO (by simpa using hl)] at hi
  exact .inl ⟨i,oR hl,hi⟩
 ·rw [iQ (by simpa using hl)] at hi
  refine .inr λk=>?_
  cases hk:i-((K.map (den D G)).map (upZ Z)).length with
  |zero=>rw [hk] at hi;simp only [iK,mA,jJ,iC] at hi;rw [←hi];exact hA k
  |succ m=>rw [hk] at hi;simp at hi
theorem holdsE {t:Tree σ} {R':Value→Pr→List (Chunk σ)→Prop} {S S':List Ab→List Ent→List (Chunk σ)→Prop} {X:Prop} (he:t.holds R' S'=X) (hS:∀td L K,S' td L K→S td L K) (hX:X):t.holds R' S:=
 Tree.holds_imp (λ_ _ _ h=>h) hS (he.mpr hX)
theorem ycalls_re {f:FuncId} {a:Act} {w:World} {p:List Nat} {p1 p2:Nat} {v1 v2:Value} {l Dm:Nat} (hF:Fr n L K a) (hk:KOk K') (h1:p1<n) (h2:p2<n) (hne:p1≠p2) (hL:∀e∈L',e.s≠p1∧e.s≠p2∧reOk L K' e)
 (hr:w.heap[l]? =some (.loop (recOf f a.tmps #[p1,p2] (Sl.sub B (0::p)) (Sl.sub B (1::p)) Dm .ready none))) (hS:SatK D E G w K')
 (H:SW D P ⟨f,some l,[]⟩ R B n E G [.code (0::p), .raw .beginRound, .code (1::p)] (⟨p1,none,v1, .no⟩::⟨p2,none,v2, .no⟩::L') K'):YCalls P l #[v1,v2] w R:=
 ycalls_sw D (hF.re hk λe he=>(hL e he).2.2) (KExt.refl K') hk h1 h2 hne (λe he=>⟨(hL e he).2.2.1,(hL e he).1,(hL e he).2.1,he⟩) hr hS H
end
end
end Go.Sl
namespace Go.Proofs.YtinpgnomkmmfdaaGreat
section
open Go Go.Sl
abbrev LL:=List (LI)
abbrev Bf:=LL→Int→Int→LL
def bwJ (xs:LI) (i x:Int):Prop:=0≤i∧i<xs.length∧x=xs.getD i.toNat 0
def bwK (A:LL→Asn) (ra:Option Addr) (rc:Nat) (xs:LI) (q2:Addr) (bb:Nat) (st:LL):List (Chunk Sg):=[.ro ra xs.length rc [.fz xs], .obj q2 (.any A st), .cells bb 73 [(.slice ra xs.length rc, .pt 0 .slice)]]
def bwN (A:LL→Asn) (ra:Option Addr) (rc:Nat) (xs:LI) (q2:Addr) (bb l:Nat) (I:LL→Prop) (v0 v1 v2:Value) (i x:Int) (K:List (Chunk Sg)) (st:LL):Prop:=
 v0= .func (.yield l) #[] #[]∧v1= .int .i64 i∧v2= .int .i64 x∧K=bwK A ra rc xs q2 bb st∧I st∧bwJ xs i x
def bHook (A:LL→Asn) (ra:Option Addr) (rc:Nat) (xs:LI) (q2:Addr) (bb l:Nat) (I:LL→Prop) (yf:Bf):List (Value×Pr)→List (Chunk Sg)→Option (Tree Sg)
 |[(v0,_),(.int k1 i,_),(.int k2 x,_)], .ro a' n' c' cs':: .obj q3 (.any A' st)::K=>some (.need (bwN A ra rc xs q2 bb l I v0 (.int k1 i) (.int k2 x) i x (.ro a' n' c' cs':: .obj q3 (.any A' st)::K) st) (.bind (yf st i x) λr=> .ret (.bool true) .no (.ro a' n' c' cs':: .obj q3 (.any A' r)::K)))
 |_,_=>none
def BOk (E:Ev) (G:Hp) (A:LL→Asn) (ra:Option Addr) (rc:Nat) (xs:LI) (q2:Addr) (bb l:Nat) (I:LL→Prop) (yf:Bf):Prop:=
 ∀st i x,I st→bwJ xs i x→∀w,SatK Dg E G w (bwK A ra rc xs q2 bb st)→YCalls Tryz.prog l #[.int .i64 i, .int .i64 x] w λen w'=>en= .returned (.bool true)∧SatK Dg E G w' (bwK A ra rc xs q2 bb (yf st i x))
theorem bw_kok {A:LL→Asn} {ra:Option Addr} {rc:Nat} {xs:LI} {q2:Addr} {bb:Nat} (st:LL):KOk (bwK A ra rc xs q2 bb st):=by
 intro k b t cs hk
 match k,hk with
 |2,hk=>
  simp only [bwK,kD,jJ,iC,Chunk.cells.injEq] at hk
  obtain ⟨rfl,rfl,rfl⟩:=hk
  intro x hx
  simp only [iG,kL,or_false] at hx
  subst hx
  exact (pOk_pt).2 ⟨_,rfl,rfl⟩
 |0,hk=>cases hk
 |1,hk=>cases hk
 |k+3,hk=>cases hk
theorem bHook_ok {E:Ev} {G:Hp} {A:LL→Asn} {ra:Option Addr} {rc:Nat} {xs:LI} {q2:Addr} {bb l:Nat} {I:LL→Prop} {yf:Bf} (h:BOk E G A ra rc xs q2 bb l I yf):HookOk Dg Tryz.prog (bHook A ra rc xs q2 bb l I yf) E G:=by
 intro args prs K t ht w hps hk hS Q hQ l' av hav
 have hz:=(zip_pOk hps).2
 generalize hzz:mP args prs=z at ht hz
 unfold bHook at ht
 split at ht
 ·rename_i v0 p0 k1 i p1 k2 x p2 a' n' c' cs' q3 A' st K0
  injection ht with ht;subst ht
  obtain ⟨⟨h0,h1,h2,h3,h4,h5⟩,hb⟩:=hQ
  have hq:=hb ⟨h0,h1,h2,h3,h4,h5⟩ _ rfl
  simp only [iK,mA] at hz
  subst hz
  injection h1 with h1;subst h1
  injection h2 with h2;subst h2
  subst h0
  rw [bwK,lE,lE] at h3
  obtain ⟨e1,e2,e3⟩:=h3
  injection e1 with e1 e5 e6 e7;subst e1;subst e5;subst e6;subst e7
  injection e2 with e2 e4;subst e2
  injection e4 with e4 _;subst e4
  subst e3
  have ha:l'=l∧av= #[.int .i64 i, .int .i64 x]:=by
   have:=congrArg Array.toList hav
   simp only [Array.toList_append,kA,nL,lE] at this
   obtain ⟨e5,e6⟩:=this
   injection e5 with e5 _ _
   injection e5 with e5
   exact ⟨e5.symm,by apply Array.toList_inj.1;exact e6.symm⟩
  obtain ⟨rfl,rfl⟩:=ha
  obtain ⟨fn,tmps,assign,body,g1,g2⟩:=h st i x h4 h5 w hS
  refine ⟨fn,tmps,assign,body,g1, λcs hcs=>?_⟩
  obtain ⟨e,w',S,⟨g3,g4⟩,g5⟩:=g2 cs hcs
  refine ⟨e,w',S,⟨_,_,_,g3,hq,?_,bw_kok _,pOk_no,g4⟩,g5⟩
  exact KExt.setObj (K:=bwK A' a' c' xs q3 bb st) (j:=1) (q:=q3) (s:= .any A' st) (s':= .any A' (yf st i x)) rfl
 ·cases ht
def bwF (yf:Bf) (xs:LI):Nat→LL→LL
 |0,st=>st
 |k+1,st=>bwF yf xs k (yf st (k:Int) (xs.getD k 0))
def bwL (l bb:Nat) (i:Int):List Ent:=[⟨3,none, .int .i64 i, .no⟩,⟨0,none, .func (.yield l) #[] #[], .no⟩,⟨1,none, .pointer (some ⟨bb,0,none⟩), .pt 2 (.cell 0)⟩]
section
variable {yf:Bf} {A:LL→Asn} {ra:Option Addr} {rc:Nat} {xs:LI} {q2:Addr} {bb l:Nat} {E:Ev} {G:Hp} {I:LL→Prop}
abbrev bwFn:FuncId:=98
theorem bw_tree (R':Value→Pr→List (Chunk Sg)→Prop) (S0:List Ab→Option Ent→Option Ent→Option Ent→List (Chunk Sg)→Prop) (st:LL) (i:Int):
 (runY Tryz.prog T_nil (bHook A ra rc xs q2 bb l I yf) [2999998,2999996] 60 (bodyOf Tryz.f98) Tryz.f98.results.toList Tryz.f98.ntmps [.code [0,0,1], .again [0,1], .blk 0] (bwL l bb i) (bwK A ra rc xs q2 bb st)).holds R' (λtd L K=>S0 td (Sl.look L 3) (Sl.look L 0) (Sl.look L 1) K)=
 ((decide (i≥0)=true→aw_ (0≤i∧i<(xs.length:Int)) (aw_ (bwN A ra rc xs q2 bb l I (.func (.yield l) #[] #[]) (.int .i64 i) (.int .i64 (xs.getD i.toNat 0)) i (xs.getD i.toNat 0) (bwK A ra rc xs q2 bb st) st)
   (∀a2,a2=yf st i (xs.getD i.toNat 0)→((!true)=true→R' (.tuple #[]) .no (bwK A ra rc xs q2 bb a2))∧((!true)=false→S0 [.again [0,1], .blk 0] (some ⟨3,none, .int .i64 (iB.wrap (i-1)), .no⟩) (some ⟨0,none, .func (.yield l) #[] #[], .no⟩) (some ⟨1,none, .pointer (some ⟨bb,0,none⟩), .pt 2 (.cell 0)⟩) (bwK A ra rc xs q2 bb a2)))))∧
  (decide (i≥0)=false→R' (.tuple #[]) .no (bwK A ra rc xs q2 bb st))):=by
 kernel_rfl
theorem bw_begin (R':Value→Pr→List (Chunk Sg)→Prop) (S0:List Ab→Option Ent→Option Ent→Option Ent→List (Chunk Sg)→Prop) (st:LL):
 (runY Tryz.prog T_nil (bHook A ra rc xs q2 bb l I yf) [2999998,2999996] 60 (bodyOf Tryz.f98) Tryz.f98.results.toList Tryz.f98.ntmps [.code []] (argEnts 0 [(.func (.yield l) #[] #[], .no),(.pointer (some ⟨bb,0,none⟩), .pt 2 (.cell 0))]) (bwK A ra rc xs q2 bb st)).holds R' (λtd L K=>S0 td (Sl.look L 3) (Sl.look L 0) (Sl.look L 1) K)=
 S0 [.code [0,1], .blk 0] (some ⟨3,none, .int .i64 (iB.wrap ((xs.length:Int)-1)), .no⟩) (some ⟨0,none, .func (.yield l) #[] #[], .no⟩) (some ⟨1,none, .pointer (some ⟨bb,0,none⟩), .pt 2 (.cell 0)⟩) (bwK A ra rc xs q2 bb st):=by
 kernel_rfl
theorem bw_sw (hY:BOk E G A ra rc xs q2 bb l I yf) (hI:∀st i x,I st→bwJ xs i x→I (yf st i x)) (hn:xs.length≤9223372036854775807) {R:Ending→World→Prop}:∀(k:Nat) (i:Int) (st:LL),i=(k:Int)-1→k≤xs.length→I st→
 (∀v w',SatK Dg E G w' (bwK A ra rc xs q2 bb (bwF yf xs k st))→R (.returned v) w')→
 SW Dg Tryz.prog bwFn R (bodyOf Tryz.f98) Tryz.f98.ntmps E G [.code [0,0,1], .again [0,1], .blk 0] (bwL l bb i) (bwK A ra rc xs q2 bb st):=by
 intro k
 induction k with
 |zero=>
  intro i st hi hk hI0 hR
  have hi':decide (i≥0)=false:=by simp only [decide_eq_false_iff_not];omega
  refine runY_sound Dg T_nil_ok (Y:=bHook A ra rc xs q2 bb l I yf) (I:=[2999998,2999996]) mix 60 (f:=bwFn) (bHook_ok hY) (.inl ⟨rfl,Tryz.f98,Tryz.func98,rfl⟩) (Q:= λ_=>True) (λ_ _ _ _=>trivial)
   (R':= λv p K=>K=bwK A ra rc xs q2 bb st) (λv p K w h _ _ _ hS=>hR v w (by rw [h] at hS;exact hS)) _ _ _ trivial ?_
  refine Tree.holds_imp (λ_ _ _ h=>h) (λtd L K (h:False)=>h.elim) ((bw_tree (yf:=yf) (A:=A) (ra:=ra) (rc:=rc) (xs:=xs) (q2:=q2) (bb:=bb) (l:=l) (I:=I) (λv p K=>K=bwK A ra rc xs q2 bb st) (λ_ _ _ _ _=>False) st i).mpr ⟨λh=>?_, λ_=>rfl⟩)
  rw [hi'] at h;cases h
 |succ k ih=>
  intro i st hi hk hI0 hR
  have hi:i=(k:Int):=by omega
  subst hi
  refine runY_sound Dg T_nil_ok (Y:=bHook A ra rc xs q2 bb l I yf) (I:=[2999998,2999996]) mix 60 (f:=bwFn) (bHook_ok hY) (.inl ⟨rfl,Tryz.f98,Tryz.func98,rfl⟩) (Q:= λ_=>True) (λ_ _ _ _=>trivial)
   (R':= λv p K=>K=bwK A ra rc xs q2 bb (bwF yf xs (k+1) st)) (λv p K w h _ _ _ hS=>hR v w (by rw [h] at hS;exact hS)) _ _ _ trivial ?_
  refine Tree.holds_imp (λ_ _ _ h=>h) (λtd L K h=>?_) ((bw_tree (yf:=yf) (A:=A) (ra:=ra) (rc:=rc) (xs:=xs) (q2:=q2) (bb:=bb) (l:=l) (I:=I) (λv p K=>K=bwK A ra rc xs q2 bb (bwF yf xs (k+1) st))
   (λtd e3 e0 e1 K=>∃j st',td=[.again [0,1], .blk 0]∧e3=some ⟨3,none, .int .i64 j, .no⟩∧e0=some ⟨0,none, .func (.yield l) #[] #[], .no⟩∧e1=some ⟨1,none, .pointer (some ⟨bb,0,none⟩), .pt 2 (.cell 0)⟩∧K=bwK A ra rc xs q2 bb st'∧
     SW Dg Tryz.prog bwFn R (bodyOf Tryz.f98) Tryz.f98.ntmps E G [.code [0,0,1], .again [0,1], .blk 0] (bwL l bb j) (bwK A ra rc xs q2 bb st')) st (k:Int)).mpr ?_)
  ·obtain ⟨j,st',rfl,e3,e0,e1,rfl,hsw⟩:=h
   refine SW.sub Dg (SW.again Dg hsw) λe he=>?_
   simp only [bwL,iG,kL,or_false] at he
   rcases he with rfl|rfl|rfl
   ·exact (look_mem e3).1
   ·exact (look_mem e0).1
   ·exact (look_mem e1).1
  ·have hJ:bwJ xs (k:Int) (xs.getD k 0):=⟨by omega,by omega,by rw [kT]⟩
   refine ⟨λ_=>⟨by omega, λ_=>⟨⟨rfl,rfl,rfl,rfl,hI0,by rw [kT];exact hJ⟩, λ_ a2 ha2=>?_⟩⟩, λh=>by simp only [decide_eq_false_iff_not] at h;omega⟩
   rw [kT] at ha2
   subst ha2
   rw [w64 (n:=(k:Int)-1) (by omega)]
   exact ⟨λh=>(by cases h), λ_=>⟨(k:Int)-1,_,rfl,rfl,rfl,rfl,rfl,ih ((k:Int)-1) _ (by omega) (by omega) (hI _ _ _ hI0 hJ) λv w' hS=>hR v w' hS⟩⟩
set_option maxRecDepth 100000 in
theorem bw_calls (hY:BOk E G A ra rc xs q2 bb l I yf) (hI:∀st i x,I st→bwJ xs i x→I (yf st i x)) (hn:xs.length≤9223372036854775807) {R:Ending→World→Prop} {w:World} {st:LL} (hS:SatK Dg E G w (bwK A ra rc xs q2 bb st)) (hI0:I st)
 (hR:∀v w',SatK Dg E G w' (bwK A ra rc xs q2 bb (bwF yf xs xs.length st))→R (.returned v) w'):
 Calls Tryz.prog 98 #[.func (.yield l) #[] #[], .pointer (some ⟨bb,0,none⟩)] w R:=by
 refine calls_of_WT Tryz.func98 (c:=bodyOf Tryz.f98) (by kernel_rfl) ?_
 have hgo:=runY_sound Dg T_nil_ok (Y:=bHook A ra rc xs q2 bb l I yf) (I:=[2999998,2999996]) mix 60 (f:=bwFn) (rs:=Tryz.f98.results.toList) (B:=bodyOf Tryz.f98) (R:=R) (n:=Tryz.f98.ntmps) (E:=E) (G:=G) (bHook_ok hY) (.inl ⟨rfl,Tryz.f98,Tryz.func98,rfl⟩) (Q:= λ_=>True) (λ_ _ _ _=>trivial)
  (R':= λ_ _ _=>False) (λ_ _ _ _ h=>h.elim) [.code []] (argEnts 0 [(.func (.yield l) #[] #[], .no),(.pointer (some ⟨bb,0,none⟩), .pt 2 (.cell 0))]) (bwK A ra rc xs q2 bb st) trivial ?_
 ·exact hgo _ w (Fr.start (n:=Tryz.f98.ntmps) [(.func (.yield l) #[] #[], .no),(.pointer (some ⟨bb,0,none⟩), .pt 2 (.cell 0))] (iU (by kernel_rfl)) (λx hx=>by
   simp only [iG,kL,or_false] at hx
   rcases hx with rfl|rfl
   ·exact pOk_no
   ·exact (pOk_pt).2 ⟨_,rfl,rfl⟩) (bw_kok st)) hS
 ·refine Tree.holds_imp (λ_ _ _ h=>h) (λtd L K h=>?_) ((bw_begin (yf:=yf) (A:=A) (ra:=ra) (rc:=rc) (xs:=xs) (q2:=q2) (bb:=bb) (l:=l) (I:=I) (λ_ _ _=>False)
   (λtd e3 e0 e1 K=>td=[.code [0,1], .blk 0]∧e3=some ⟨3,none, .int .i64 (iB.wrap ((xs.length:Int)-1)), .no⟩∧e0=some ⟨0,none, .func (.yield l) #[] #[], .no⟩∧e1=some ⟨1,none, .pointer (some ⟨bb,0,none⟩), .pt 2 (.cell 0)⟩∧K=bwK A ra rc xs q2 bb st) st).mpr ⟨rfl,rfl,rfl,rfl,rfl⟩)
  obtain ⟨rfl,e3,e0,e1,rfl⟩:=h
  rw [w64 (n:=(xs.length:Int)-1) (by omega)] at e3
  refine SW.sub Dg (L':=bwL l bb ((xs.length:Int)-1)) (SW.enter Dg (by kernel_rfl) ?_) λe he=>?_
  ·exact bw_sw hY hI hn xs.length _ st rfl (kF _) hI0 hR
  ·simp only [bwL,iG,kL,or_false] at he
   rcases he with rfl|rfl|rfl
   ·exact (look_mem e3).1
   ·exact (look_mem e0).1
   ·exact (look_mem e1).1
end
end
section
open Go Go.Sl
def ptC (b:Nat) (x:Obj):Chunk Sg:= .obj ⟨0,0,none⟩ (.any (λ_=>pt b x) [])
abbrev kb (ra:Option Addr) (rc:Nat) (xs:LI) (bb Dm l:Nat) (o1 o2:Obj) (bs:List (Chunk Sg)):List (Chunk Sg):= .ro ra xs.length rc [.fz xs]:: .cells bb 73 [(.slice ra xs.length rc, .pt 0 .slice)]::ptC Dm o1::ptC l o2::bs
theorem bw_enters (args:Array Value) (w:World):(callFunc 98 args).run Tryz.prog w= .ok (.enter 98 args) w:=
 callable_run (by kernel_rfl) args w
theorem never:aggB Tryz.prog 1000000=none:=by kernel_rfl
theorem pieceE {T:Tb} (hT:TOk T) {I:List Nat} (hI:rounds I=true) {f:Fq} {R:Ending→World→Prop} {B:Code} {n:Nat} {E:Ev} {G:Hp} {td:List Ab} {L:List Ent} {K:List (Chunk Sg)} {fuel:Nat} {S':List Ab→List Ent→List (Chunk Sg)→Prop} {X:Prop}
 (he:(run Tryz.prog T I fuel B [.cell 0 1000000] n td L K).holds (λ_ _ _=>False) S'=X) (hS:∀td L K,S' td L K→SW Dg Tryz.prog f R B n E G td L K) (hX:X):SW Dg Tryz.prog f R B n E G td L K:=
 run_sound Dg hT mix fuel (.inr ⟨hI,resVals_never never⟩) (Q:= λ_=>True) (λ_ _ _ _=>trivial) (R':= λ_ _ _=>False) (λ_ _ _ _ h=>h.elim) _ _ _ trivial (Tree.holds_imp (λ_ _ _ h=>h) hS (he.mpr hX))
theorem pieceF {T:Tb} (hT:TOk T) {I:List Nat} {f:FuncId} {fn:Func} (hfn:Tryz.prog.funcs[f]? =some fn) {R:Ending→World→Prop} {B:Code} {E:Ev} {G:Hp} {td:List Ab} {L:List Ent} {K:List (Chunk Sg)} {fuel:Nat} {R':Value→Pr→List (Chunk Sg)→Prop} {S':List Ab→List Ent→List (Chunk Sg)→Prop} {X:Prop}
 (he:(run Tryz.prog T I fuel B fn.results.toList fn.ntmps td L K).holds R' S'=X) (hR:∀v p K w,R' v p K→SatK Dg E G w K→R (.returned v) w) (hS:∀td L K,S' td L K→SW Dg Tryz.prog f R B fn.ntmps E G td L K) (hX:X):SW Dg Tryz.prog f R B fn.ntmps E G td L K:=
 run_sound Dg hT mix fuel (f:=(f:Fq)) (.inl ⟨rfl,fn,hfn,rfl⟩) (Q:= λ_=>True) (λ_ _ _ _=>trivial) (R':=R') (λv p K w h _ _ _ hS=>hR v p K w h hS) _ _ _ trivial (Tree.holds_imp (λ_ _ _ h=>h) hS (he.mpr hX))
theorem bw_range {f:FuncId} {R:Ending→World→Prop} {B:Code} {n:Nat} {E:Ev} {G:Hp} {p:List Nat} {t p1 p2:Nat} {td:List Ab} {L L':List Ent} {pr:Pr} {ra:Option Addr} {rc:Nat} {xs:LI} {bb:Nat} {yf:Bf} {α:Type} {bx:LL→α→List (Chunk Sg)} {I:LL→Prop} {st0:LL} {x0:α} {bs:List (Chunk Sg)} {isP isU isB:List Nat}
 (hc:Sl.sub B p= .rangeFunc (.tmp t) #[p1,p2] (Sl.sub B (0::p)) (Sl.sub B (1::p))) (hL:(⟨t,none, .func (.func 98) #[] #[.pointer (some ⟨bb,0,none⟩)],pr⟩:Ent)∈L)
 (h1:p1<n) (h2:p2<n) (hne:p1≠p2) (hn:xs.length≤9223372036854775807) (hI0:I st0) (hI:∀st i x,I st→bwJ xs i x→I (yf st i x))
 (nB:nodupB isB=true) (hB:∀Dm l o1 o2,(kb ra rc xs bb Dm l o1 o2 (bx st0 x0)).map (λc=>some (den Dg G c))=isB.map λj=>(((jV ra xs.length rc [.fz xs]:: .cells bb 73 [(.slice ra xs.length rc, .pt 0 .slice)]::bs)++[ptC Dm o1,ptC l o2])[j]?).map (den Dg G))
 (hL':∀st x Dm l o1 o2,∀e∈L',e.s≠p1∧e.s≠p2∧reOk L (kb ra rc xs bb Dm l o1 o2 (bx st x)) e) (hk:∀st x Dm l o1 o2,KOk (kb ra rc xs bb Dm l o1 o2 (bx st x)))
 (nP:nodupB isP=true) (hP:∀st x Dm l o1 o2,((ptC Dm o1::ptC l o2::bx st x)++[jV ra xs.length rc [.fz xs], .cells bb 73 [(.slice ra xs.length rc, .pt 0 .slice)]]).map some=isP.map λj=>(kb ra rc xs bb Dm l o1 o2 (bx st x))[j]?)
 (nU:nodupB isU=true) (hU:∀st x Dm l o1 o2,(kb ra rc xs bb Dm l o1 o2 (bx st x)).map some=isU.map λj=>([jV ra xs.length rc [.fz xs],ptC Dm o1, .cells bb 73 [(.slice ra xs.length rc, .pt 0 .slice)]]++(ptC l o2::bx st x))[j]?)
 (hround:∀(tmps:Array Value) Dm l st x i v,I st→bwJ xs i v→∀Rr:Ending→World→Prop,(∀w' x',SatK Dg E G w' (kb ra rc xs bb Dm l (.deferred (some [])) (.loop (recOf f tmps #[p1,p2] (Sl.sub B (0::p)) (Sl.sub B (1::p)) Dm .ready none)) (bx (yf st i v) x'))→Rr (.returned (.bool true)) w')→
   SW Dg Tryz.prog ⟨f,some l,[]⟩ Rr B n E G [.code (0::p), .raw .beginRound, .code (1::p)] (⟨p1,none, .int .i64 i, .no⟩::⟨p2,none, .int .i64 v, .no⟩::L') (kb ra rc xs bb Dm l (.deferred (some [])) (.loop (recOf f tmps #[p1,p2] (Sl.sub B (0::p)) (Sl.sub B (1::p)) Dm .ready none)) (bx st x)))
 (hafter:∀Dm l x o2,SW Dg Tryz.prog ⟨f,none,[Sl.mark Dm]⟩ R B n E G td L' (kb ra rc xs bb Dm l (.deferred (some [])) o2 (bx (bwF yf xs xs.length st0) x))):
 SW Dg Tryz.prog f R B n E G (.code p::td) L (.ro ra xs.length rc [.fz xs]:: .cells bb 73 [(.slice ra xs.length rc, .pt 0 .slice)]::bs):=by
 refine SW.rangeFunc Dg hc hL bw_enters λa w hF hS=>?_
 generalize hDm:w.heap.size=Dm at hS ⊢
 generalize hl:Dm+1=l at hS ⊢
 generalize rfWorld w f a.tmps #[p1,p2] (Sl.sub B (0::p)) (Sl.sub B (1::p))=w1 at hS ⊢
 let rc0:Obj:= .loop (recOf f a.tmps #[p1,p2] (Sl.sub B (0::p)) (Sl.sub B (1::p)) Dm .ready none)
 let A:LL→Asn:= λst Y h=>∃x,Sl.star ((ptC Dm (.deferred (some []))::ptC l rc0::bx st x).map (den Dg G)) Y h
 have pack:∀w st x,SatK Dg E G w (kb ra rc xs bb Dm l (.deferred (some [])) rc0 (bx st x))→SatK Dg E G w (bwK A ra rc xs ⟨0,0,none⟩ bb st):= λw st x h=>
  SatK.order Dg (SatK.packEx Dg (c:= .obj ⟨0,0,none⟩ (.any A st)) (h.order Dg isP nP (hP st x Dm l _ _)) λY k hx=>⟨x,hx⟩) [1,0,2] rfl rfl
 have unpack:∀w st,SatK Dg E G w (bwK A ra rc xs ⟨0,0,none⟩ bb st)→∃x,SatK Dg E G w (kb ra rc xs bb Dm l (.deferred (some [])) rc0 (bx st x)):= λw st h=>by
  obtain ⟨x,hx⟩:=SatK.unpackEx Dg (k0:= λ_=>ptC Dm (.deferred (some []))) (ks:= λx=>ptC l rc0::bx st x) h (k:=1) (c:= .obj ⟨0,0,none⟩ (.any A st)) rfl rfl
  exact ⟨x,SatK.order Dg hx isU nU (hU st x Dm l _ _)⟩
 have recAt:∀w st x,SatK Dg E G w (kb ra rc xs bb Dm l (.deferred (some [])) rc0 (bx st x))→w.heap[l]? =some rc0:= λw st x h=>
  SatK.objPt Dg (q:=⟨0,0,none⟩) (s:= .any (λ_=>pt l rc0) []) h (j:=3) rfl rfl
 have hY:BOk E G A ra rc xs ⟨0,0,none⟩ bb l I yf:=by
  intro st i v hst hJ w2 hS2
  obtain ⟨x,h3⟩:=unpack _ _ hS2
  have h4:=recAt _ _ _ h3
  refine ycalls_re Dg (L':=L') (p:=p) (Dm:=Dm) (f:=f) (v1:= .int .i64 i) (v2:= .int .i64 v) hF (hk st x Dm l _ _) h1 h2 hne (hL' st x Dm l _ _) h4 h3 ?_
  exact hround a.tmps Dm l st x i v hst hJ _ λw' x' h5=>⟨rfl,pack _ _ x' h5⟩
 have hS1:SatK Dg E G w1 (kb ra rc xs bb Dm l (.deferred (some [])) rc0 (bx st0 x0)):=by
  refine SatK.ord Dg (K:=(jV ra xs.length rc [.fz xs]:: .cells bb 73 [(.slice ra xs.length rc, .pt 0 .slice)]::bs)++[ptC Dm (.deferred (some [])),ptC l rc0]) ?_ isB nB (hB Dm l _ _)
  unfold SatK
  rw [jG]
  exact hS
 have hq:=bw_calls (bb:=bb) hY hI hn (pack _ _ _ hS1) hI0 (R:= λe w3=>(∃v,e= .returned v)∧SatK Dg E G w3 (bwK A ra rc xs ⟨0,0,none⟩ bb (bwF yf xs xs.length st0))) λv w' h=>⟨⟨v,rfl⟩,h⟩
 refine hq.mono λe w3 ⟨hv,h6⟩=>⟨hv,?_⟩
 obtain ⟨x,h7⟩:=unpack _ _ h6
 have h8:=recAt _ _ _ h7
 refine ⟨_,_,h8,(λh=>by simp [recOf] at h),rfl,?_⟩
 have h9:=SatK.putObj Dg (q:=⟨0,0,none⟩) (s:= .any (λ_=>pt l rc0) []) (l:=l) (x:=rc0) (y:= .loop {recOf f a.tmps #[p1,p2] (Sl.sub B (0::p)) (Sl.sub B (1::p)) Dm .ready none with state:= .exhausted}) (s':= .any (λ_=>pt l (.loop {recOf f a.tmps #[p1,p2] (Sl.sub B (0::p)) (Sl.sub B (1::p)) Dm .ready none with state:= .exhausted})) []) h7 (j:=3) rfl rfl rfl
 exact hafter Dm l x (.loop {recOf f a.tmps #[p1,p2] (Sl.sub B (0::p)) (Sl.sub B (1::p)) Dm .ready none with state:= .exhausted}) a _ (hF.re (hk _ x Dm l _ _) λe he=>(hL' _ x Dm l _ _ e he).2.2) h9
end
section
open Go Go.Sl
abbrev Ad9:=Nat→Option Addr×Nat
def gL (pk:LL) (i:Nat):LI:=pk.getD i []
def hC (pv:Addr) (v o:Nat) (t p h:Int) (pk:LL) (ad:Ad9):List (Value×Pr):=[(.pointer (some pv), .pt v .obj),(.int .i64 t, .no),(.int .i64 p, .no),(.int .i64 h, .no),
 (.slice (ad 0).1 (gL pk 0).length (ad 0).2, .pt o .slice),(.slice (ad 1).1 (gL pk 1).length (ad 1).2, .pt (o+1) .slice),(.slice (ad 2).1 (gL pk 2).length (ad 2).2, .pt (o+2) .slice),
 (.slice (ad 3).1 (gL pk 3).length (ad 3).2, .pt (o+3) .slice),(.slice (ad 4).1 (gL pk 4).length (ad 4).2, .pt (o+4) .slice),(.slice (ad 5).1 (gL pk 5).length (ad 5).2, .pt (o+5) .slice),
 (.slice (ad 6).1 (gL pk 6).length (ad 6).2, .pt (o+6) .slice),(.slice (ad 7).1 (gL pk 7).length (ad 7).2, .pt (o+7) .slice),(.slice (ad 8).1 (gL pk 8).length (ad 8).2, .pt (o+8) .slice)]
def ro9 (pk:LL) (ad:Ad9):List (Chunk Sg):=[.ro (ad 0).1 (gL pk 0).length (ad 0).2 [.fz (gL pk 0)], .ro (ad 1).1 (gL pk 1).length (ad 1).2 [.fz (gL pk 1)], .ro (ad 2).1 (gL pk 2).length (ad 2).2 [.fz (gL pk 2)],
 .ro (ad 3).1 (gL pk 3).length (ad 3).2 [.fz (gL pk 3)], .ro (ad 4).1 (gL pk 4).length (ad 4).2 [.fz (gL pk 4)], .ro (ad 5).1 (gL pk 5).length (ad 5).2 [.fz (gL pk 5)],
 .ro (ad 6).1 (gL pk 6).length (ad 6).2 [.fz (gL pk 6)], .ro (ad 7).1 (gL pk 7).length (ad 7).2 [.fz (gL pk 7)], .ro (ad 8).1 (gL pk 8).length (ad 8).2 [.fz (gL pk 8)]]
def hK (pv:Addr) (hb:Nat) (s:VS) (t p h:Int) (pk:LL) (ad:Ad9):List (Chunk Sg):= .obj pv (.view s):: .cells hb 78 (hC pv 0 2 t p h pk ad)::ro9 pk ad
abbrev fillI:List Nat:=[2999998,stopC [0,0,1,1,1] 0]
abbrev OX:=(Value.tuple ⟨[jT iB (0:Int),jT iB (0:Int),Value.bool false]⟩)
abbrev OY (b0_0 hb b1_0:Nat) (k:Int) (b2_0:Nat) (r3:VS×Int×LI×Bool) (b5_0:Option Nat) (b5_1:Nat):List (Chunk Sg):=[jA b0_0 76 [(jB (some ⟨hb,0,none⟩),jW 1 (mF 0))],jA b1_0 3 [(jT iB k,kI)],jA b2_0 3 [(jT iB r3.2.1,kI)],nI b5_0 3 (iF r3.2.2.1) b5_1 [Col.ints iB r3.2.2.1]]
abbrev OZ (b0_0 hb b1_0:Nat) (k:Int) (b4_0:Option Nat) (r2:VS×Int×LI×Bool) (b4_1 b5_0:Nat):List (Chunk Sg):=[jA b0_0 76 [(jB (some ⟨hb,0,none⟩),jW 1 (mF 0))],jA b1_0 3 [(jT iB k,kI)],nI b4_0 3 (iF r2.2.2.1) b4_1 [Col.ints iB r2.2.2.1],jA b5_0 3 [(jT iB r2.2.1,kI)]]
abbrev NP (pv:Addr) (r2:VS×Int×LI×Bool) (s:VS) (hb:Nat) (t p h:Int) (pk:LL) (ad:Ad9):List (Chunk Sg):=[kQ pv (kS (some (Wr.inj wView r2.1)) (Sg.view s)),jA hb 78 (hC pv 0 2 t p h pk ad)]
theorem fill_begin (R':Value→Pr→List (Chunk Sg)→Prop) (S0:List Ab→Option Ent→Option Ent→Option Ent→Option Ent→Option Ent→List (Chunk Sg)→Prop) (pv:Addr) (hb:Nat) (s:VS) (t p h k:Int) (pk:LL) (ad:Ad9):
 (run Tryz.prog T_r01_Longs fillI 60 (bodyOf Tryz.f31) Tryz.f31.results.toList Tryz.f31.ntmps [.code []] (argEnts 0 [(.pointer (some ⟨hb,0,none⟩), .pt 1 (.cell 0)),(.int .i64 k, .no)]) (hK pv hb s t p h pk ad)).holds R' (λtd L K=>S0 td (Sl.look L 2) (Sl.look L 3) (Sl.look L 7) (Sl.look L 8) (Sl.look L 30) K)=
 (∀b0_0:Nat,(∀b1_0:Nat,((∀r2:VS×Int×LI×Bool,r2=(slab_Pick s t p h k (4:Int))→(aw_ (p≤(1024:Int)) (∀(b4_0:Option Nat) (b4_1:Nat),(∀b5_0:Nat,(bw_ (!r2.2.2.2) (R' OX (kI) (((NP pv r2 s hb t p h pk ad)++ro9 pk ad++(OZ b0_0 hb b1_0 k b4_0 r2 b4_1 b5_0)))) (S0 ([Ab.ops [0,0,1,1,1] 0,Ab.code [1,0,1,1,1],Ab.code [1,1,1,1]]) (some ⟨2,none,jB (some ⟨b0_0,0,none⟩),jW 11 (mF 0)⟩) (some ⟨3,none,jB (some ⟨b1_0,0,none⟩),jW 12 (mF 0)⟩) (some ⟨7,none,jB (some ⟨b5_0,0,none⟩),jW 14 (mF 0)⟩) (some ⟨8,none,iH (jE (λb=>⟨b,0,none⟩) b4_0) (iF r2.2.2.1) b4_1,jW 13 jF⟩) (none) (((NP pv r2 s hb t p h pk ad)++ro9 pk ad++(OZ b0_0 hb b1_0 k b4_0 r2 b4_1 b5_0)))))))))∧(∀b2_0:Nat,(∀r3:VS×Int×LI×Bool,r3=(slab_Pick s t p h k (4:Int))→(aw_ (p≤(1024:Int)) (∀(b5_0:Option Nat) (b5_1:Nat),(bw_ (!r3.2.2.2) (R' OX (kI) (((NP pv r3 s hb t p h pk ad)++ro9 pk ad++(OY b0_0 hb b1_0 k b2_0 r3 b5_0 b5_1)))) (S0 ([Ab.ops [0,0,1,1,1] 0,Ab.code [1,0,1,1,1],Ab.code [1,1,1,1]]) (some ⟨2,none,jB (some ⟨b0_0,0,none⟩),jW 11 (mF 0)⟩) (some ⟨3,none,jB (some ⟨b1_0,0,none⟩),jW 12 (mF 0)⟩) (some ⟨7,none,jB (some ⟨b2_0,0,none⟩),jW 13 (mF 0)⟩) (some ⟨8,none,iH (jE (λb=>⟨b,0,none⟩) b5_0) (iF r3.2.2.1) b5_1,jW 14 jF⟩) (none) (((NP pv r3 s hb t p h pk ad)++ro9 pk ad++(OY b0_0 hb b1_0 k b2_0 r3 b5_0 b5_1)))))))))))):=by
 kernel_rfl
def fK1 (pv:Addr) (hb b0 b1 b2:Nat) (s:VS) (t p h k pg:Int) (pk:LL) (ad:Ad9) (la:Option Addr) (lc:Nat) (l:LI):List (Chunk Sg):=
 hK pv hb s t p h pk ad++[.cells b0 76 [(.pointer (some ⟨hb,0,none⟩), .pt 1 (.cell 0))], .cells b1 3 [(.int .i64 k, .no)], .cells b2 3 [(.int .i64 pg, .no)], .ro la l.length lc [.fz l]]
abbrev ptE (t b k:Nat):Ent:=⟨t,none, .pointer (some ⟨b,0,none⟩), .pt k (.cell 0)⟩
def fL1 (b0 b1 b2:Nat) (la:Option Addr) (lc:Nat) (l:LI):List Ent:=[ptE 2 b0 11,ptE 3 b1 12,ptE 7 b2 13,⟨8,none, .slice la l.length lc, .pt 14 .slice⟩]
theorem fill_on (R':Value→Pr→List (Chunk Sg)→Prop) (S0:List Ab→Option Ent→Option Ent→Option Ent→Option Ent→Option Ent→List (Chunk Sg)→Prop) (pv:Addr) (hb b0 b1 b2:Nat) (s:VS) (t p h k pg:Int) (pk:LL) (ad:Ad9) (la:Option Addr) (lc:Nat) (l:LI):
 (run Tryz.prog T_r01_Longs [2999998,58] 60 (bodyOf Tryz.f31) Tryz.f31.results.toList Tryz.f31.ntmps [.ops [0,0,1,1,1] 0, .code [1,0,1,1,1], .code [1,1,1,1]] (fL1 b0 b1 b2 la lc l) (fK1 pv hb b0 b1 b2 s t p h k pg pk ad la lc l)).holds R' (λtd L K=>S0 td (Sl.look L 2) (Sl.look L 3) (Sl.look L 7) (Sl.look L 8) (Sl.look L 30) K)=
 (aw_ ((0:Int)≤(1:Int)∧(1:Int)≤(↑(iF l):Int)) (∀b1_0:Nat,(S0 ([Ab.code [0,1,0,1,1,1],Ab.blk 0,Ab.code [1,1,1,1]]) (some ⟨2,none,jB (some ⟨b0,0,none⟩),jW 11 (mF 0)⟩) (some ⟨3,none,jB (some ⟨b1,0,none⟩),jW 12 (mF 0)⟩) (some ⟨7,none,jB (some ⟨b2,0,none⟩),jW 13 (mF 0)⟩) (some ⟨8,none,iH la (iF l) lc,jW 14 jF⟩) (some ⟨30,none,Value.func (Fn.func 98) ⟨[]⟩ ⟨[jB (some ⟨b1_0,0,none⟩)]⟩,Pr.many [jW 16 (mF 0)]⟩) (([kQ pv (Sg.view s),jA hb 78 (hC pv 0 2 t p h pk ad)]++ro9 pk ad++[jA b0 76 [(jB (some ⟨hb,0,none⟩),jW 1 (mF 0))],jA b1 3 [(jT iB k,kI)],jA b2 3 [(jT iB pg,kI)],jV la (iF l) lc [iS l],jV (dropA la lc 1 1) (iF l-1) (lc-1) [iS (List.drop 1 l)],jA b1_0 73 [(iH (dropA la lc 1 1) (iF l-1) (lc-1),jW 15 jF)]]))))):=by
 kernel_rfl
def fB (pv:Addr) (hb b0 b1 b2:Nat) (s:VS) (t p h k pg:Int) (la:Option Addr) (lc:Nat) (l:LI) (v:Nat) (pk:LL) (ad:Ad9):List (Chunk Sg):=
 .obj pv (.view s):: .cells hb 78 (hC pv v (v+6) t p h pk ad):: .cells b0 76 [(.pointer (some ⟨hb,0,none⟩), .pt (v+1) (.cell 0))]:: .cells b1 3 [(.int .i64 k, .no)]:: .cells b2 3 [(.int .i64 pg, .no)]:: .ro la l.length lc [.fz l]::ro9 pk ad
def fL2 (b0 b1 b2:Nat) (la:Option Addr) (lc:Nat) (l:LI) (v:Nat):List Ent:=[ptE 2 b0 (v+2),ptE 3 b1 (v+3),ptE 7 b2 (v+4),⟨8,none, .slice la l.length lc, .pt (v+5) .slice⟩]
abbrev fP:List Nat:=[0,1,0,1,1,1]
theorem fill_r1 (R':Value→Pr→List (Chunk Sg)→Prop) (S0:List Ab→Option Ent→Option Ent→Option Ent→Option Ent→Option Ent→List (Chunk Sg)→Prop) (pv:Addr) (hb b0 b1 b2 bb Dm lr:Nat) (s:VS) (t p h k pg i x:Int) (pk:LL) (ad:Ad9) (ra la:Option Addr) (rc lc:Nat) (xs l:LI) (o1 o2:Obj):
 (run Tryz.prog T_r01_Longs [2999998,2999997] 60 (bodyOf Tryz.f31) [.cell 0 1000000] Tryz.f31.ntmps [.code (0::fP), .raw .beginRound, .code (1::fP)] (⟨31,none, .int .i64 i, .no⟩::⟨32,none, .int .i64 x, .no⟩::fL2 b0 b1 b2 la lc l 4) (kb ra rc xs bb Dm lr o1 o2 (fB pv hb b0 b1 b2 s t p h k pg la lc l 4 pk ad))).holds R' (λtd L K=>S0 td (Sl.look L 2) (Sl.look L 3) (Sl.look L 7) (Sl.look L 8) (Sl.look L 11) K)=
 (S0 ([Ab.raw Item.beginRound,Ab.code [1,0,1,0,1,1,1]]) (some ⟨2,none,jB (some ⟨b0,0,none⟩),jW 6 (mF 0)⟩) (some ⟨3,none,jB (some ⟨b1,0,none⟩),jW 7 (mF 0)⟩) (some ⟨7,none,jB (some ⟨b2,0,none⟩),jW 8 (mF 0)⟩) (some ⟨8,none,iH la (iF l) lc,jW 9 jF⟩) (some ⟨11,none,jT iB x,kI⟩) (([jV ra (iF xs) rc [iS xs],jA bb 73 [(iH ra (iF xs) rc,jW 0 jF)],kQ ⟨0,0,none⟩ (Sg.any (λx=>pt Dm o1) []),kQ ⟨0,0,none⟩ (Sg.any (λx=>pt lr o2) []),kQ pv (Sg.view s),jA hb 78 (hC pv 4 10 t p h pk ad),jA b0 76 [(jB (some ⟨hb,0,none⟩),jW 5 (mF 0))],jA b1 3 [(jT iB k,kI)],jA b2 3 [(jT iB pg,kI)],jV la (iF l) lc [iS l]]++ro9 pk ad))):=by
 kernel_rfl
theorem fill_r2 (R':Value→Pr→List (Chunk Sg)→Prop) (S0:List Ab→Option Ent→List (Chunk Sg)→Prop) (pv:Addr) (hb b0 b1 b2 bb Dm lr:Nat) (s:VS) (t p h k pg x:Int) (pk:LL) (ad:Ad9) (ra la:Option Addr) (rc lc:Nat) (xs l:LI) (o1 o2:Obj):
 (run Tryz.prog T_r01_Longs [2999998,2999997,47] 60 (bodyOf Tryz.f31) [.cell 0 1000000] Tryz.f31.ntmps [.code (1::fP)] (⟨11,none, .int .i64 x, .no⟩::fL2 b0 b1 b2 la lc l 4) (kb ra rc xs bb Dm lr o1 o2 (fB pv hb b0 b1 b2 s t p h k pg la lc l 4 pk ad))).holds R' (λtd L K=>S0 td (Sl.look L 2) K)=
 (∀r0:Int×Bool,r0=(addr_At t p h k pg x)→(∀r1:LI×LI×LI×LI×LI×LI×LI×LI×LI×Bool,r1=(p_Push (gL pk 0) (gL pk 1) (gL pk 2) (gL pk 3) (gL pk 4) (gL pk 5) (gL pk 6) (gL pk 7) (gL pk 8) k r0.1)→(aw_ (pkB (gL pk 0) (gL pk 1) (gL pk 2) (gL pk 3) (gL pk 4) (gL pk 5) (gL pk 6) (gL pk 7) (gL pk 8)) (∀(b3_0:Option Nat) (b3_1:Nat),(∀(b4_0:Option Nat) (b4_1:Nat),(∀(b5_0:Option Nat) (b5_1:Nat),(∀(b6_0:Option Nat) (b6_1:Nat),(∀(b7_0:Option Nat) (b7_1:Nat),(∀(b8_0:Option Nat) (b8_1:Nat),(∀(b9_0:Option Nat) (b9_1:Nat),(∀(b10_0:Option Nat) (b10_1:Nat),(∀(b11_0:Option Nat) (b11_1:Nat),(∀b12_0:Nat,(S0 ([]) (some ⟨2,none,jB (some ⟨b0,0,none⟩),jW 6 (mF 0)⟩) (([jV ra (iF xs) rc [iS xs],jA bb 73 [(iH ra (iF xs) rc,jW 0 jF)],kQ ⟨0,0,none⟩ (Sg.any (λx=>pt Dm o1) []),kQ ⟨0,0,none⟩ (Sg.any (λx=>pt lr o2) []),kQ pv (Sg.view s),jA hb 78 [(jB (some pv),jW 4 PK.obj),(jT iB t,kI),(jT iB p,kI),(jT iB h,kI),(iH (jE decA b3_0) (lenC [iS r1.1]) b3_1,jW 19 jF),(iH (jE decA b4_0) (lenC [iS r1.2.1]) b4_1,jW 20 jF),(iH (jE decA b5_0) (lenC [iS r1.2.2.1]) b5_1,jW 21 jF),(iH (jE decA b6_0) (lenC [iS r1.2.2.2.1]) b6_1,jW 22 jF),(iH (jE decA b7_0) (lenC [iS r1.2.2.2.2.1]) b7_1,jW 23 jF),(iH (jE decA b8_0) (lenC [iS r1.2.2.2.2.2.1]) b8_1,jW 24 jF),(iH (jE decA b9_0) (lenC [iS r1.2.2.2.2.2.2.1]) b9_1,jW 25 jF),(iH (jE decA b10_0) (lenC [iS r1.2.2.2.2.2.2.2.1]) b10_1,jW 26 jF),(iH (jE decA b11_0) (lenC [iS r1.2.2.2.2.2.2.2.2.1]) b11_1,jW 27 jF)],jA b0 76 [(jB (some ⟨hb,0,none⟩),jW 5 (mF 0))],jA b1 3 [(jT iB k,kI)],jA b2 3 [(jT iB pg,kI)],jV la (iF l) lc [iS l]]++ro9 pk ad++[jV (jE decA b3_0) (lenC [iS r1.1]) b3_1 [iS r1.1],jV (jE decA b4_0) (lenC [iS r1.2.1]) b4_1 [iS r1.2.1],jV (jE decA b5_0) (lenC [iS r1.2.2.1]) b5_1 [iS r1.2.2.1],jV (jE decA b6_0) (lenC [iS r1.2.2.2.1]) b6_1 [iS r1.2.2.2.1],jV (jE decA b7_0) (lenC [iS r1.2.2.2.2.1]) b7_1 [iS r1.2.2.2.2.1],jV (jE decA b8_0) (lenC [iS r1.2.2.2.2.2.1]) b8_1 [iS r1.2.2.2.2.2.1],jV (jE decA b9_0) (lenC [iS r1.2.2.2.2.2.2.1]) b9_1 [iS r1.2.2.2.2.2.2.1],jV (jE decA b10_0) (lenC [iS r1.2.2.2.2.2.2.2.1]) b10_1 [iS r1.2.2.2.2.2.2.2.1],jV (jE decA b11_0) (lenC [iS r1.2.2.2.2.2.2.2.2.1]) b11_1 [iS r1.2.2.2.2.2.2.2.2.1],jA b12_0 40 [(iH (jE decA b3_0) (lenC [iS r1.1]) b3_1,jW 19 jF),(iH (jE decA b4_0) (lenC [iS r1.2.1]) b4_1,jW 20 jF),(iH (jE decA b5_0) (lenC [iS r1.2.2.1]) b5_1,jW 21 jF),(iH (jE decA b6_0) (lenC [iS r1.2.2.2.1]) b6_1,jW 22 jF),(iH (jE decA b7_0) (lenC [iS r1.2.2.2.2.1]) b7_1,jW 23 jF),(iH (jE decA b8_0) (lenC [iS r1.2.2.2.2.2.1]) b8_1,jW 24 jF),(iH (jE decA b9_0) (lenC [iS r1.2.2.2.2.2.2.1]) b9_1,jW 25 jF),(iH (jE decA b10_0) (lenC [iS r1.2.2.2.2.2.2.2.1]) b10_1,jW 26 jF),(iH (jE decA b11_0) (lenC [iS r1.2.2.2.2.2.2.2.2.1]) b11_1,jW 27 jF)]])))))))))))))))):=by
 kernel_rfl
theorem fill_end (R':Value→Pr→List (Chunk Sg)→Prop) (S0:List Ab→Option Ent→Option Ent→Option Ent→List (Chunk Sg)→Prop) (pv:Addr) (hb b0 b1 b2 bb Dm lr:Nat) (s:VS) (t p h k pg:Int) (pk:LL) (ad:Ad9) (ra la:Option Addr) (rc lc:Nat) (xs l:LI) (o1 o2:Obj):
 (run Tryz.prog T_r01_Longs [2999998,2999997] 60 (bodyOf Tryz.f31) [.cell 0 1000000] Tryz.f31.ntmps [.blk 0, .code [1,1,1,1]] (fL2 b0 b1 b2 la lc l 4) (kb ra rc xs bb Dm lr o1 o2 (fB pv hb b0 b1 b2 s t p h k pg la lc l 4 pk ad))).holds R' (λtd L K=>S0 td (Sl.look L 4) (Sl.look L 5) (Sl.look L 6) K)=
 (aw_ ((0:Int)≤(0:Int)∧(0:Int)<(↑(iF l):Int)) (S0 ([Ab.code [1,1,1,1,1]]) (some ⟨4,none,jT iB pg,kI⟩) (some ⟨5,none,jT iB (iI l 0 (0:Int)),kI⟩) (some ⟨6,none,Value.bool true,kI⟩) (([jV ra (iF xs) rc [iS xs],jA bb 73 [(iH ra (iF xs) rc,jW 0 jF)],kQ ⟨0,0,none⟩ (Sg.any (λx=>pt Dm o1) []),kQ ⟨0,0,none⟩ (Sg.any (λx=>pt lr o2) []),kQ pv (Sg.view s),jA hb 78 (hC pv 4 10 t p h pk ad),jA b0 76 [(jB (some ⟨hb,0,none⟩),jW 5 (mF 0))],jA b1 3 [(jT iB k,kI)],jA b2 3 [(jT iB pg,kI)],jV la (iF l) lc [iS l]]++ro9 pk ad)))):=by
 kernel_rfl
def pkk (pk:LL) (k:Int):LI:=pkGet k (gL pk 0) (gL pk 1) (gL pk 2) (gL pk 3) (gL pk 4) (gL pk 5) (gL pk 6) (gL pk 7) (gL pk 8)
def pkS (pk:LL) (k:Int) (l:LI):LL:=[pkSel k 0 l (gL pk 0),pkSel k 1 l (gL pk 1),pkSel k 2 l (gL pk 2),pkSel k 3 l (gL pk 3),pkSel k 4 l (gL pk 4),pkSel k 5 l (gL pk 5),pkSel k 6 l (gL pk 6),pkSel k 7 l (gL pk 7),pkSel k 8 l (gL pk 8)]
def pkO (pk:LL):Prop:=pkB (gL pk 0) (gL pk 1) (gL pk 2) (gL pk 3) (gL pk 4) (gL pk 5) (gL pk 6) (gL pk 7) (gL pk 8)
def fillY (t p h k pg:Int):Bf:= λst _ x=>pkS st k (pushL (pkk st k) (addr_At t p h k pg x).1)
def fillR (s:VS) (t p h k:Int) (pk:LL):VS×LL×Int×Int×Bool:=
 bif (slab_Pick s t p h k 4).2.2.2 then ((slab_Pick s t p h k 4).1,bwF (fillY t p h k (slab_Pick s t p h k 4).2.1) ((slab_Pick s t p h k 4).2.2.1.drop 1) ((slab_Pick s t p h k 4).2.2.1.drop 1).length pk,(slab_Pick s t p h k 4).2.1,(slab_Pick s t p h k 4).2.2.1.getD 0 0,true)
 else ((slab_Pick s t p h k 4).1,pk,0,0,false)
def fillP (s:VS) (t p h k:Int):Prop:=(slab_Pick s t p h k 4).2.2.2=true→1≤(slab_Pick s t p h k 4).2.2.1.length∧(slab_Pick s t p h k 4).2.2.1.length≤1000000
theorem of_i64 (t p h pg o:Int): -9223372036854775808≤(addr_Of t p h pg o).1∧(addr_Of t p h pg o).1<9223372036854775808:=by
 by_cases ho:r04_Right t p h=true∧0≤pg∧pg<p∧0≤o∧o<r04_Page t p h
 ·have hr:=rt_of ho.1
  rw [hr.pg] at ho
  have hP:=spot_le hr.pp hr.P0 ⟨ho.2.1,ho.2.2.1⟩ ⟨ho.2.2.2.1,ho.2.2.2.2⟩
  rw [(of_in hr ⟨ho.2.1,ho.2.2.1⟩ ⟨ho.2.2.2.1,ho.2.2.2.2⟩).1]
  have:=hr.P0
  dsimp only
  omega
 ·rw [(of_out ho).1];decide
theorem at_i64 (t p h k pg x:Int):i64R (addr_At t p h k pg x).1:=by
 unfold addr_At
 cases (addr_first t p h k x).2.2
 ·exact (show i64R 0 by decide)
 ·exact of_i64 ..
theorem push_lB {l:LI} {a:Int} (h:lB l) (ha:i64R a):lB (pushL l a):=by
 unfold pushL
 cases hc:decide (l.length<4) with
 |false=>exact h
 |true=>
  have:=of_decide_eq_true hc
  refine ⟨by rw [cond_true,jM,mN];omega, λx hx=>?_⟩
  rw [cond_true,kC,iY] at hx
  rcases hx with hx|rfl
  ·exact h.2 x hx
  ·exact ha
theorem sel_lB {k i:Int} {l x:LI} (hl:lB l) (hx:lB x):lB (pkSel k i l x):=by
 unfold pkSel
 cases k==i
 ·exact hx
 ·exact hl
theorem pkO_S {pk:LL} {k:Int} {l:LI} (h:pkO pk) (hl:lB l):pkO (pkS pk k l):=by
 obtain ⟨h0,h1,h2,h3,h4,h5,h6,h7,h8⟩:=h
 exact ⟨sel_lB hl h0,sel_lB hl h1,sel_lB hl h2,sel_lB hl h3,sel_lB hl h4,sel_lB hl h5,sel_lB hl h6,sel_lB hl h7,sel_lB hl h8⟩
theorem pkO_get {pk:LL} (h:pkO pk) (k:Int):lB (pkk pk k):=pkB_get h k
theorem fillY_O {t p h k pg:Int} {st:LL} {i x:Int} (hs:pkO st):pkO (fillY t p h k pg st i x):=pkO_S hs (push_lB (pkO_get hs k) (at_i64 ..))
abbrev fillF:FuncId:=31
noncomputable abbrev fillB:Code:=bodyOf Tryz.f31
noncomputable abbrev fillN:Nat:=Tryz.f31.ntmps
theorem fillLen (la:Option Addr) (lc:Nat) (l:LI) (bb:Nat) (K:List (Chunk Sg)):(jV (dropA la lc 1 1) (l.length-1) (lc-1) [.fz (l.drop 1)]:: .cells bb 73 [(.slice (dropA la lc 1 1) (l.length-1) (lc-1), .pt 0 .slice)]::K:List (Chunk Sg))=(.ro (dropA la lc 1 1) (l.drop 1).length (lc-1) [.fz (l.drop 1)]:: .cells bb 73 [(.slice (dropA la lc 1 1) (l.drop 1).length (lc-1), .pt 0 .slice)]::K):=by
 rw [List.length_drop]
theorem fL2_re {L:List Ent} {K:List (Chunk Sg)} {b0 b1 b2 v:Nat} {la:Option Addr} {lc:Nat} {l:LI} {q2 q3 q7 q8:Pr} (h2:(⟨2,none, .pointer (some ⟨b0,0,none⟩),q2⟩:Ent)∈L) (h3:(⟨3,none, .pointer (some ⟨b1,0,none⟩),q3⟩:Ent)∈L) (h7:(⟨7,none, .pointer (some ⟨b2,0,none⟩),q7⟩:Ent)∈L) (h8:(⟨8,none, .slice la l.length lc,q8⟩:Ent)∈L)
 (k2:pOk K (.pointer (some ⟨b0,0,none⟩)) (.pt (v+2) (.cell 0))) (k3:pOk K (.pointer (some ⟨b1,0,none⟩)) (.pt (v+3) (.cell 0))) (k7:pOk K (.pointer (some ⟨b2,0,none⟩)) (.pt (v+4) (.cell 0))) (k8:pOk K (.slice la l.length lc) (.pt (v+5) .slice)):∀e∈fL2 b0 b1 b2 la lc l v,reOk L K e:= λe he=>by
 simp only [fL2,iG,kL,or_false] at he
 rcases he with rfl|rfl|rfl|rfl
 ·exact ⟨rfl,⟨_,h2⟩,k2⟩
 ·exact ⟨rfl,⟨_,h3⟩,k3⟩
 ·exact ⟨rfl,⟨_,h7⟩,k7⟩
 ·exact ⟨rfl,⟨_,h8⟩,k8⟩
theorem fB_kok (ra:Option Addr) (rc:Nat) (xs:LI) (bb Dm lr:Nat) (o1 o2:Obj) (pv:Addr) (hb b0 b1 b2:Nat) (s:VS) (t p h k pg:Int) (la:Option Addr) (lc:Nat) (l:LI) (pk:LL) (ad:Ad9):KOk (kb ra rc xs bb Dm lr o1 o2 (fB pv hb b0 b1 b2 s t p h k pg la lc l 4 pk ad)):=
 KOk_all (by simp [kb,fB,hC,ro9,ptC,cellsAll,psOk,pOk,cOk])
variable {E:Ev} {G:Hp} {pv:Addr} {hb:Nat} {t p h k:Int}
theorem fillY_eq {t p h k pg i x:Int} {st:LL} {r0:Int×Bool} {q0 q1 q2 q3 q4 q5 q6 q7 q8:LI} {qb:Bool} (h0:r0=addr_At t p h k pg x) (h1:(q0,q1,q2,q3,q4,q5,q6,q7,q8,qb)=p_Push (gL st 0) (gL st 1) (gL st 2) (gL st 3) (gL st 4) (gL st 5) (gL st 6) (gL st 7) (gL st 8) k r0.1):
 fillY t p h k pg st i x=[q0,q1,q2,q3,q4,q5,q6,q7,q8]:=by
 unfold p_Push at h1
 simp only [iV] at h1
 obtain ⟨rfl,rfl,rfl,rfl,rfl,rfl,rfl,rfl,rfl,_⟩:=h1
 subst h0
 rfl
noncomputable abbrev fRec (tmps:Array Value) (Dm:Nat):Loop:=recOf fillF tmps #[31,32] (Sl.sub fillB (0::fP)) (Sl.sub fillB (1::fP)) Dm .ready none
def rdP (G:Hp) (ra:Option Addr) (rc:Nat) (xs:LI) (bb Dm lr:Nat) (tmps:Array Value) (pv:Addr) (hb b0 b1 b2:Nat) (s:VS) (t p h k pg:Int) (la:Option Addr) (lc:Nat) (l:LI) (st':LL) (td:List Ab) (K:List (Chunk Sg)):Prop:=
 td=[]∧K[3]? =some (ptC lr (.loop {fRec tmps Dm with state:= .busy}))∧∃(ad':Ad9) (is:List Nat),nodupB is=true∧
  (kb ra rc xs bb Dm lr (.deferred (some [])) (.loop (fRec tmps Dm)) (fB pv hb b0 b1 b2 s t p h k pg la lc l 4 st' ad')).map (λc=>some (den Dg G c))=is.map (λj=>(K.set 3 (ptC lr (.loop (fRec tmps Dm))))[j]?.map (den Dg G))
set_option maxRecDepth 100000 in
theorem fill_round {b0 b1 b2 bb Dm lr:Nat} {s:VS} {pg i x:Int} {st:LL} {ad:Ad9} {ra la:Option Addr} {rc lc:Nat} {xs l:LI} {tmps:Array Value} (hO:pkO st) (Rr:Ending→World→Prop)
 (H:∀w' ad',SatK Dg E G w' (kb ra rc xs bb Dm lr (.deferred (some [])) (.loop (recOf fillF tmps #[31,32] (Sl.sub fillB (0::fP)) (Sl.sub fillB (1::fP)) Dm .ready none)) (fB pv hb b0 b1 b2 s t p h k pg la lc l 4 (fillY t p h k pg st i x) ad'))→Rr (.returned (.bool true)) w'):
 SW Dg Tryz.prog ⟨fillF,some lr,[]⟩ Rr fillB fillN E G [.code (0::fP), .raw .beginRound, .code (1::fP)] (⟨31,none, .int .i64 i, .no⟩::⟨32,none, .int .i64 x, .no⟩::fL2 b0 b1 b2 la lc l 4)
  (kb ra rc xs bb Dm lr (.deferred (some [])) (.loop (recOf fillF tmps #[31,32] (Sl.sub fillB (0::fP)) (Sl.sub fillB (1::fP)) Dm .ready none)) (fB pv hb b0 b1 b2 s t p h k pg la lc l 4 st ad)):=by
 refine pieceE (I:=[2999998,2999997]) T_r01_Longs_ok rfl (fill_r1 (λ_ _ _=>False) (λtd e2 e3 e7 e8 e11 K=>td=[.raw .beginRound, .code (1::fP)]∧e2=some (ptE 2 b0 6)∧e3=some (ptE 3 b1 7)∧e7=some (ptE 7 b2 8)∧e8=some ⟨8,none, .slice la l.length lc, .pt 9 .slice⟩∧e11=some ⟨11,none, .int .i64 x, .no⟩∧
  K=kb ra rc xs bb Dm lr (.deferred (some [])) (.loop (recOf fillF tmps #[31,32] (Sl.sub fillB (0::fP)) (Sl.sub fillB (1::fP)) Dm .ready none)) (fB pv hb b0 b1 b2 s t p h k pg la lc l 4 st ad)) pv hb b0 b1 b2 bb Dm lr s t p h k pg i x st ad ra la rc lc xs l (.deferred (some [])) (.loop (fRec tmps Dm))) (λtd L K h=>?_) ⟨rfl,rfl,rfl,rfl,rfl,rfl,rfl⟩
 obtain ⟨rfl,e2,e3,e7,e8,e11,rfl⟩:=h
 refine SW.sub Dg (L':=⟨11,none, .int .i64 x, .no⟩::fL2 b0 b1 b2 la lc l 4) ?_ (λe he=>by
  simp only [fL2,iG,kL,or_false] at he
  rcases he with rfl|rfl|rfl|rfl|rfl
  ·exact (look_mem e11).1
  ·exact (look_mem e2).1
  ·exact (look_mem e3).1
  ·exact (look_mem e7).1
  ·exact (look_mem e8).1)
 refine SW.busy Dg (f:=⟨fillF,some lr,[]⟩) (l:=lr) (j:=3) (s':= .any (λ_=>pt lr (.loop {recOf fillF tmps #[31,32] (Sl.sub fillB (0::fP)) (Sl.sub fillB (1::fP)) Dm .ready none with state:= .busy})) []) rfl rfl rfl rfl rfl ?_
 show SW Dg Tryz.prog ⟨fillF,some lr,[]⟩ Rr fillB fillN E G [.code (1::fP)] (⟨11,none, .int .i64 x, .no⟩::fL2 b0 b1 b2 la lc l 4) (kb ra rc xs bb Dm lr (.deferred (some [])) (.loop {fRec tmps Dm with state:= .busy}) (fB pv hb b0 b1 b2 s t p h k pg la lc l 4 st ad))
 refine pieceE (I:=[2999998,2999997,47]) T_r01_Longs_ok rfl (fill_r2 (λ_ _ _=>False) (λtd _ K=>rdP G ra rc xs bb Dm lr tmps pv hb b0 b1 b2 s t p h k pg la lc l (fillY t p h k pg st i x) td K)
  pv hb b0 b1 b2 bb Dm lr s t p h k pg x st ad ra la rc lc xs l (.deferred (some [])) (.loop {fRec tmps Dm with state:= .busy})) (λtd L K hz=>?_) ?_
 ·obtain ⟨rfl,h3,ad',is,hn,hg⟩:=(hz:rdP G ra rc xs bb Dm lr tmps pv hb b0 b1 b2 s t p h k pg la lc l (fillY t p h k pg st i x) td K)
  exact SW.on Dg (f:=⟨fillF,some lr,[]⟩) (l:=lr) (j:=3) (q:=⟨0,0,none⟩) (s:= .any (λ_=>pt lr (.loop {fRec tmps Dm with state:= .busy})) []) (s':= .any (λ_=>pt lr (.loop (fRec tmps Dm))) []) rfl h3 rfl rfl λw' _ hS=>H w' ad' (hS.ord Dg is hn hg)
 ·intro r0 h0 ⟨q0,q1,q2,q3,q4,q5,q6,q7,q8,qb⟩ h1
  refine ⟨hO, λ_ a0 c0 a1 c1 a2 c2 a3 c3 a4 c4 a5 c5 a6 c6 a7 c7 a8 c8 b12=>⟨rfl,rfl, λn=>match n with
   |0=>(a0.map decA,c0)|1=>(a1.map decA,c1)|2=>(a2.map decA,c2)|3=>(a3.map decA,c3)|4=>(a4.map decA,c4)|5=>(a5.map decA,c5)|6=>(a6.map decA,c6)|7=>(a7.map decA,c7)|_=>(a8.map decA,c8),
   [0,1,2,3,4,5,6,7,8,9,19,20,21,22,23,24,25,26,27],rfl,?_⟩⟩
  rw [fillY_eq h0 h1]
  kernel_rfl
theorem fill_on_sw {b0 b1 b2:Nat} {s:VS} {pg:Int} {pk:LL} {ad:Ad9} {la:Option Addr} {lc:Nat} {l:LI} {R:Ending→World→Prop} (hO:pkO pk) (hl:1≤l.length∧l.length≤1000000)
 (hR:∀w' ad',SatK Dg E G w' (hK pv hb s t p h (bwF (fillY t p h k pg) (l.drop 1) (l.drop 1).length pk) ad')→R (.returned (.tuple #[.int .i64 pg, .int .i64 (l.getD 0 0), .bool true])) w'):
 SW Dg Tryz.prog fillF R fillB fillN E G [.ops [0,0,1,1,1] 0, .code [1,0,1,1,1], .code [1,1,1,1]] (fL1 b0 b1 b2 la lc l) (fK1 pv hb b0 b1 b2 s t p h k pg pk ad la lc l):=by
 refine pieceF (f:=fillF) T_r01_Longs_ok Tryz.func31 (fill_on (λ_ _ _=>False) (λtd e2 e3 e7 e8 e30 K=>∃bb,td=[.code fP, .blk 0, .code [1,1,1,1]]∧e2=some (ptE 2 b0 11)∧e3=some (ptE 3 b1 12)∧e7=some (ptE 7 b2 13)∧e8=some ⟨8,none, .slice la l.length lc, .pt 14 .slice⟩∧
  e30=some ⟨30,none, .func (.func 98) #[] #[.pointer (some ⟨bb,0,none⟩)], .many [.pt 16 (.cell 0)]⟩∧
  K=fK1 pv hb b0 b1 b2 s t p h k pg pk ad la lc l++[.ro (dropA la lc 1 1) (l.length-1) (lc-1) [.fz (l.drop 1)], .cells bb 73 [(.slice (dropA la lc 1 1) (l.length-1) (lc-1), .pt 15 .slice)]])
  pv hb b0 b1 b2 s t p h k pg pk ad la lc l) (λ_ _ _ _ h=>h.elim) (λtd L K h=>?_) ⟨⟨by decide,by omega⟩, λ_ bb=>⟨bb,rfl,rfl,rfl,rfl,rfl,rfl,rfl⟩⟩
 obtain ⟨bb,rfl,e2,e3,e7,e8,e30,rfl⟩:=h
 refine SW.re Dg (α:=Unit) (Kf:= λ_=> .ro (dropA la lc 1 1) (l.drop 1).length (lc-1) [.fz (l.drop 1)]:: .cells bb 73 [(.slice (dropA la lc 1 1) (l.drop 1).length (lc-1), .pt 0 .slice)]::fB pv hb b0 b1 b2 s t p h k pg la lc l 2 pk ad)
  (L':=⟨30,none, .func (.func 98) #[] #[.pointer (some ⟨bb,0,none⟩)], .many [.pt 1 (.cell 0)]⟩::fL2 b0 b1 b2 la lc l 2)
  (λw hS=>⟨(),?_⟩) (λ_=>KOk_all (by simp [fB,hC,ro9,cellsAll,psOk,pOk,cOk])) (λ_ e he=>?_) λ_=>?_
 ·rw [←fillLen]
  exact hS.ord Dg [15,16,0,1,11,12,13,14,2,3,4,5,6,7,8,9,10] rfl rfl
 ·rcases iG.1 he with rfl|he
  ·exact ⟨rfl,⟨_,(look_mem e30).1⟩,⟨(pOk_pt).2 ⟨_,rfl,rfl⟩,trivial⟩⟩
  ·refine fL2_re (look_mem e2).1 (look_mem e3).1 (look_mem e7).1 (look_mem e8).1 ?_ ?_ ?_ ?_ e he<;>exact (pOk_pt).2 ⟨_,rfl,rfl⟩
 refine bw_range (f:=fillF) (p:=fP) (t:=30) (p1:=31) (p2:=32) (yf:=fillY t p h k pg) (α:=Ad9) (bx:= λst ad=>fB pv hb b0 b1 b2 s t p h k pg la lc l 4 st ad) (I:=pkO) (st0:=pk) (x0:=ad) (L':=fL2 b0 b1 b2 la lc l 4) (pr:= .many [.pt 1 (.cell 0)])
  (isP:=[2,3,4,5,6,7,8,9,10,11,12,13,14,15,16,17,18,0,1]) (isU:=[0,2,1,3,4,5,6,7,8,9,10,11,12,13,14,15,16,17,18]) (isB:=[0,1,17,18,2,3,4,5,6,7,8,9,10,11,12,13,14,15,16])
  (by kernel_rfl) (by simp) (iU (by kernel_rfl)) (iU (by kernel_rfl)) (by decide) (by rw [List.length_drop];omega) hO (λst i x hst _=>fillY_O hst) rfl (λ_ _ _ _=>rfl)
  (λst ad Dm lr o1 o2 e he=>?_) (λ_ _ _ _ _ _=>fB_kok _ _ _ _ _ _ _ _ _ _ _ _ _ _ _ _ _ _ _ _ _ _ _ _) rfl (λ_ _ _ _ _ _=>rfl) rfl (λ_ _ _ _ _ _=>rfl) (λtmps Dm lr st ad i x hst _ Rr H=>fill_round hst Rr H) λDm lr ad o2=>?_
 ·have he':=he
  simp only [fL2,iG,kL,or_false] at he'
  refine ⟨?_,?_,fL2_re (b0:=b0) (b1:=b1) (b2:=b2) (la:=la) (lc:=lc) (l:=l) (v:=4) (q2:= .pt 4 (.cell 0)) (q3:= .pt 5 (.cell 0)) (q7:= .pt 6 (.cell 0)) (q8:= .pt 7 .slice) (by simp [fL2]) (by simp [fL2]) (by simp [fL2]) (by simp [fL2]) ?_ ?_ ?_ ?_ e he⟩
  ·rcases he' with rfl|rfl|rfl|rfl<;>simp
  ·rcases he' with rfl|rfl|rfl|rfl<;>simp
  all_goals exact (pOk_pt).2 ⟨_,rfl,rfl⟩
 ·generalize bwF (fillY t p h k pg) (l.drop 1) (l.drop 1).length pk=st at hR ⊢
  refine pieceE (I:=[2999998,2999997]) T_r01_Longs_ok rfl (fill_end (λ_ _ _=>False) (λtd e4 e5 e6 K=>td=[.code [1,1,1,1,1]]∧e4=some ⟨4,none, .int .i64 pg, .no⟩∧e5=some ⟨5,none, .int .i64 (l.getD 0 0), .no⟩∧e6=some ⟨6,none, .bool true, .no⟩∧
   K=kb (dropA la lc 1 1) (lc-1) (l.drop 1) bb Dm lr (.deferred (some [])) o2 (fB pv hb b0 b1 b2 s t p h k pg la lc l 4 st ad)) pv hb b0 b1 b2 bb Dm lr s t p h k pg st ad (dropA la lc 1 1) la (lc-1) lc (l.drop 1) l (.deferred (some [])) o2) (λtd L K h=>?_) ⟨⟨by decide,by omega⟩, λ_=>⟨rfl,rfl,rfl,rfl,rfl⟩⟩
  obtain ⟨rfl,e4,e5,e6,rfl⟩:=h
  refine SW.sub Dg (L':=[⟨4,none, .int .i64 pg, .no⟩,⟨5,none, .int .i64 (l.getD 0 0), .no⟩,⟨6,none, .bool true, .no⟩]) ?_ (λe he=>by
   simp only [iG,kL,or_false] at he
   rcases he with rfl|rfl|rfl
   ·exact (look_mem e4).1
   ·exact (look_mem e5).1
   ·exact (look_mem e6).1)
  exact SW.finish_mark Dg (f:=⟨fillF,none,[Sl.mark Dm]⟩) (Dm:=Dm) (j:=2) (q:=⟨0,0,none⟩) (s:= .any (λ_=>pt Dm (.deferred (some []))) []) (s':= .any (λ_=>pt Dm (.deferred none)) []) (vs:=[(.int .i64 pg, .no),(.int .i64 (l.getD 0 0), .no),(.bool true, .no)]) rfl rfl Tryz.func31 (.inr ⟨[],by kernel_rfl⟩) rfl rfl rfl (by kernel_rfl)
   λw' hS=>hR w' ad (hS.ord Dg [4,5,10,11,12,13,14,15,16,17,18] rfl rfl)
def stP (E:Ev) (G:Hp) (pv:Addr) (hb:Nat) (t p h k:Int) (pk:LL) (ad:Ad9) (r:VS×Int×LI×Bool) (td:List Ab) (e2 e3 e7 e8:Option Ent) (K:List (Chunk Sg)):Prop:=
 r.2.2.2=true∧td=[.ops [0,0,1,1,1] 0, .code [1,0,1,1,1], .code [1,1,1,1]]∧∃(b0 b1 b2:Nat) (la:Option Addr) (lc:Nat) (q7 q8:Pr),e2=some (ptE 2 b0 11)∧e3=some (ptE 3 b1 12)∧e7=some ⟨7,none, .pointer (some ⟨b2,0,none⟩),q7⟩∧e8=some ⟨8,none, .slice la r.2.2.1.length lc,q8⟩∧
  ∀w,SatK Dg E G w K→SatK Dg E G w (fK1 pv hb b0 b1 b2 r.1 t p h k r.2.1 pk ad la lc r.2.2.1)
theorem fill_calls {w:World} {s:VS} {pk:LL} {ad:Ad9} {R:Ending→World→Prop} (hO:pkO pk) (hp:p≤1024) (hP:fillP s t p h k) (hS:SatK Dg E G w (hK pv hb s t p h pk ad))
 (hR:∀w' ad',SatK Dg E G w' (hK pv hb (fillR s t p h k pk).1 t p h (fillR s t p h k pk).2.1 ad')→R (.returned (.tuple #[.int .i64 (fillR s t p h k pk).2.2.1, .int .i64 (fillR s t p h k pk).2.2.2.1, .bool (fillR s t p h k pk).2.2.2.2])) w'):
 Calls Tryz.prog 31 #[.pointer (some ⟨hb,0,none⟩), .int .i64 k] w R:=by
 refine calls_of_WT Tryz.func31 (c:=fillB) (by kernel_rfl) ?_
 have hk:KOk (hK pv hb s t p h pk ad):=KOk_all (by simp [hK,hC,ro9,cellsAll,psOk,pOk,cOk])
 have hgo:SW Dg Tryz.prog fillF R fillB fillN E G [.code []] (argEnts 0 [(.pointer (some ⟨hb,0,none⟩), .pt 1 (.cell 0)),(.int .i64 k, .no)]) (hK pv hb s t p h pk ad):=by
  refine pieceF (f:=fillF) T_r01_Longs_ok Tryz.func31 (fill_begin (λv _ K=>(slab_Pick s t p h k 4).2.2.2=false∧v= .tuple #[.int .i64 0, .int .i64 0, .bool false]∧∀w,SatK Dg E G w K→SatK Dg E G w (hK pv hb (slab_Pick s t p h k 4).1 t p h pk ad))
   (λtd e2 e3 e7 e8 _ K=>stP E G pv hb t p h k pk ad (slab_Pick s t p h k 4) td e2 e3 e7 e8 K) pv hb s t p h k pk ad) (λv _ K w hz hS=>?_) (λtd L K hz=>?_) ?_
  ·obtain ⟨h1,rfl,h2⟩:=hz
   have e:fillR s t p h k pk=((slab_Pick s t p h k 4).1,pk,0,0,false):=by unfold fillR;rw [h1];rfl
   rw [e] at hR
   exact hR w ad (h2 w hS)
  ·obtain ⟨h1,rfl,b0,b1,b2,la,lc,q7,q8,e2,e3,e7,e8,h2⟩:=(hz:stP E G pv hb t p h k pk ad (slab_Pick s t p h k 4) td (Sl.look L 2) (Sl.look L 3) (Sl.look L 7) (Sl.look L 8) K)
   have e:fillR s t p h k pk=((slab_Pick s t p h k 4).1,bwF (fillY t p h k (slab_Pick s t p h k 4).2.1) ((slab_Pick s t p h k 4).2.2.1.drop 1) ((slab_Pick s t p h k 4).2.2.1.drop 1).length pk,(slab_Pick s t p h k 4).2.1,(slab_Pick s t p h k 4).2.2.1.getD 0 0,true):=by unfold fillR;rw [h1];rfl
   rw [e] at hR
   have hl:=hP h1
   generalize slab_Pick s t p h k 4=r at hR h2 hl e8
   obtain ⟨s1,pg,l,ok⟩:=r
   refine SW.re Dg (α:=Unit) (Kf:= λ_=>fK1 pv hb b0 b1 b2 s1 t p h k pg pk ad la lc l) (L':=fL1 b0 b1 b2 la lc l) (λw hS=>⟨(),h2 w hS⟩) (λ_=>KOk_all (by simp [fK1,hK,hC,ro9,cellsAll,psOk,pOk,cOk])) (λ_ e he=>?_) λ_=>?_
   ·simp only [fL1,iG,kL,or_false] at he
    rcases he with rfl|rfl|rfl|rfl
    ·exact ⟨rfl,⟨_,(look_mem e2).1⟩,(pOk_pt).2 ⟨_,rfl,rfl⟩⟩
    ·exact ⟨rfl,⟨_,(look_mem e3).1⟩,(pOk_pt).2 ⟨_,rfl,rfl⟩⟩
    ·exact ⟨rfl,⟨_,(look_mem e7).1⟩,(pOk_pt).2 ⟨_,rfl,rfl⟩⟩
    ·exact ⟨rfl,⟨_,(look_mem e8).1⟩,(pOk_pt).2 ⟨_,rfl,rfl⟩⟩
   ·exact fill_on_sw hO hl hR
  ·intro b0 b1
   refine ⟨λr2 hr=>⟨hp, λ_ b4 c4 b5=>⟨λhc=>?_, λhc=>?_⟩⟩, λb2 r2 hr=>⟨hp, λ_ b5 c5=>⟨λhc=>?_, λhc=>?_⟩⟩⟩
   ·rw [←hr]
    exact ⟨(jO _).mp hc,rfl, λw hS=>hS.ord Dg [0,1,2,3,4,5,6,7,8,9,10] rfl (by kernel_rfl)⟩
   ·rw [←hr]
    exact ⟨(jY _).mp hc,rfl,b0,b1,b5,_,_,_,_,rfl,rfl,rfl,rfl, λw hS=>(hS.fz Dg (i:=13) rfl).ord Dg [0,1,2,3,4,5,6,7,8,9,10,11,12,14,13] rfl (by kernel_rfl)⟩
   ·rw [←hr]
    exact ⟨(jO _).mp hc,rfl, λw hS=>hS.ord Dg [0,1,2,3,4,5,6,7,8,9,10] rfl (by kernel_rfl)⟩
   ·rw [←hr]
    exact ⟨(jY _).mp hc,rfl,b0,b1,b2,_,_,_,_,rfl,rfl,rfl,rfl, λw hS=>(hS.fz Dg (i:=14) rfl).ord Dg [0,1,2,3,4,5,6,7,8,9,10,11,12,13,14] rfl (by kernel_rfl)⟩
 exact hgo _ w (Fr.start (n:=fillN) [(.pointer (some ⟨hb,0,none⟩), .pt 1 (.cell 0)),(.int .i64 k, .no)] (iU (by kernel_rfl)) (λx hx=>by
  simp only [iG,kL,or_false] at hx
  rcases hx with rfl|rfl
  ·exact (pOk_pt).2 ⟨_,rfl,rfl⟩
  ·exact pOk_no) hk) hS
end
section
open Go.Sl
def tup9 (b:Bool) (a:Int) (u:VS) (st:LL):VS×Int×LI×LI×LI×LI×LI×LI×LI×LI×LI×Bool:=(u,a,gL st 0,gL st 1,gL st 2,gL st 3,gL st 4,gL st 5,gL st 6,gL st 7,gL st 8,b)
def T_r18_Slot:Tb:=T_small_Flush
theorem T_r18_Slot_ok:TOk T_r18_Slot:=T_small_Flush_ok
end
end Go.Proofs.YtinpgnomkmmfdaaGreat
