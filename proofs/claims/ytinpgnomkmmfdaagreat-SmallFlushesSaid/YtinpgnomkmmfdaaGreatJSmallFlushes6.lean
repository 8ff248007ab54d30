/-
  Of every heap, and pockets that fit it: flushing changes nothing that the heap holds, and the pockets fit; flushing again and again empties the pocket: the law's function answers true for every configuration, values and ask. Conditions: none.
-/
import Derived.Test.YtinpgnomkmmfdaaGreatJSmallFlushes5
import Derived.Test.YtinpgnomkmmfdaaGreatRows
set_option linter.unusedSimpArgs false
set_option linter.unusedVariables false
open Go.IntKind renaming wrap → iA, i64 → iB, u32 → iW, wrap_u32 → nO
open List renaming getD_eq_getElem?_getD → iD, length → iF, mem_cons → iG, getD → iI, getElem?_eq_getElem → iN, getElem?_set_self → iX, mem_singleton → iY, getElem?_set_ne → jD, length_append → jM, length_cons → jR, append_assoc → jX, cons_append → kA, mem_append → kC, length_map → kK, not_mem_nil → kL, mem_map → kZ, append_nil → lF, take_of_length_le → lI, nodup_cons → lK, mem_filter → lS, eq_nil_of_length_eq_zero → lW, length_filter_le → mB, set → mO, filter_cons → mT, singleton_append → mU, length_set → mY, nil_append → nL, filter_cons_of_pos → nX, filter_cons_of_neg → nY
open Bool renaming and_eq_true → iE, or_eq_false_iff → jH, not_eq_true' → jO, not_eq_false' → jY, or_eq_true → lG, and_eq_false_iff → mD, true_and → nR, or_false → pG
open Go.Value renaming okWide → qF
open Nat renaming eq_of_beq_eq_true → iJ, beq → iM, le_refl → kF, ble → kH, zero_add → lV, le_trans → mE, beq_refl → oO
open Int renaming toNat → iL, mul_le_mul_of_nonneg_right → kJ, add_mul → nM, one_mul → nV, mul_comm → oP, mul_le_mul_of_nonneg_left → oZ
open Go.Sl.Col renaming sls → kG
open Prod.mk renaming injEq → iV
open Prod renaming fst → jZ, snd → lD
namespace Go.Proofs.YtinpgnomkmmfdaaGreat
section
open Go Go.Sl
theorem oft_cons (x:Int) (l:LI) (a:Int):oft (x::l) a=(bif x==a then 1 else 0)+oft l a:=by
 unfold oft
 rw [mT]
 cases x==a with
 |true=>simp only [if_true,jR,cond_true];push_cast;omega
 |false=>simp
theorem oft_out {l:LI} {a:Int} (h:a ∉ l):oft l a=0:=by
 unfold oft
 rw [List.filter_eq_nil_iff.2 λx hx=>by
  have:x≠a:= λe=>h (e▸hx)
  simpa using this]
 rfl
theorem oft_pos {l:LI} {a:Int} (h:a∈l):1≤oft l a:=by
 unfold oft
 have:0<(l.filter (· ==a)).length:=List.length_pos_of_mem (lS.2 ⟨h,by simp⟩)
 omega
theorem nodup_oft:∀{l:LI},(∀a∈l,oft l a=1)→l.Nodup
 |[],_=>List.nodup_nil
 |x::l,h=>by
  have hx:=h x (by simp)
  rw [oft_cons] at hx
  have e:(x==x)=true:=by simp
  rw [e,cond_true] at hx
  have hn:x ∉ l:= λhm=>by have:=oft_pos hm;omega
  refine lK.2 ⟨hn,nodup_oft λa ha=>?_⟩
  have h1:=h a (by simp [ha])
  rw [oft_cons] at h1
  have e2:(x==a)=false:=by
   have:x≠a:= λe=>hn (e▸ha)
   simpa using this
  rw [e2] at h1;simpa using h1
theorem oft_nodup:∀{l:LI} {a:Int},l.Nodup→a∈l→oft l a=1
 |[],_,_,h=>by cases h
 |x::l,a,hn,h=>by
  obtain ⟨h1,h2⟩:=lK.1 hn
  rw [oft_cons]
  by_cases e:x=a
  ·subst e;rw [oft_out h1];simp
  ·have e2:(x==a)=false:=by simpa using e
   rw [e2,oft_nodup h2 ((iG.1 h).resolve_left λq=>e q.symm)];rfl
def othL (c:LI) (T:Nat):Nat→LI
 |0=>[]
 |n+1=>othL c T n++(bif iM n T then [] else slR (c.getD n 0))
theorem beqN_ne {a b:Nat} (h:a≠b):iM a b=false:=by
 cases hh:iM a b with
 |false=>rfl
 |true=>exact absurd (iJ hh) h
theorem othL_hi {c:LI} {T:Nat}:∀{n:Nat},n≤T→othL c T n=allL c n
 |0,_=>rfl
 |n+1,h=>by rw [othL,allL,othL_hi (by omega),beqN_ne (by omega)];rfl
theorem oth_perm {c:LI} {T:Nat}:∀{n:Nat},T<n→(allL c n).Perm (slR (c.getD T 0)++othL c T n)
 |0,h=>by omega
 |n+1,h=>by
  rw [allL,othL]
  by_cases e:n=T
  ·subst e
   rw [oO,cond_true,lF,othL_hi (kF _)]
   exact List.perm_append_comm
  ·rw [beqN_ne e,cond_false,←jX]
   exact (oth_perm (by omega)).append_right _
theorem othL_set {c:LI} {T:Nat} {e:Int}:∀{n:Nat},othL (c.set T e) T n=othL c T n
 |0=>rfl
 |n+1=>by
  rw [othL,othL,othL_set]
  by_cases h:n=T
  ·subst h;rw [oO];rfl
  ·rw [beqN_ne h,cond_false,cond_false,iD,jD (λe=>h e.symm),←iD]
theorem set_getD {c:LI} {T:Nat} {e:Int} (h:T<c.length):(c.set T e).getD T 0=e:=by rw [iD,iX h];rfl
theorem lenB_iff {c:LI}:∀{N:Nat},lenB c N=true↔∀τ,τ<N→(slR (c.getD τ 0)).length≤4
 |0=>⟨λ_ τ h=>by omega, λ_=>rfl⟩
 |n+1=>⟨λh τ hτ=>lenB_all h τ hτ, λh=>by
  rw [lenB,lenB_iff.2 λτ hτ=>h τ (by omega),nR,decide_eq_true_eq]
  exact h n (by omega)⟩
theorem lenB_set {c:LI} {T:Nat} {e:Int} {N:Nat} (hl:N=c.length) (h:lenB c N=true) (he:(slR e).length≤4):lenB (c.set T e) N=true:=by
 rw [lenB_iff] at h ⊢
 intro τ hτ
 by_cases ht:τ=T
 ·subst ht;rw [set_getD (by omega)];exact he
 ·rw [iD,jD (λe=>ht e.symm),←iD];exact h τ hτ
section
variable {c:Cf} {m m':Mm} {xs:LI} {k g j a:Int}
def adS (c:Cf) (k g j:Int):Int:=(g+1)*pgB c.s+j*szB c.s k
structure IdS (c:Cf) (m:Mm) (k g j:Int):Prop where
 pg:0≤g∧g<c.p
 sl:0≤j∧j<kSlots k
 k3:(ifM m g).k=3
 cl:(ifM m g).c=k
 tk:bitAt (m.taken g) j=true
 lv:bitAt (m.slots g) j=false
def IdM (c:Cf) (m:Mm) (k a:Int):Prop:=∃g j:Int,IdS c m k g j∧a=adS c k g j
theorem IdS.kb (h:IdS c m k g j):0≤k∧k≤8:=cls_of h.sl.1 h.sl.2
theorem ad_rng (hs:10≤c.s∧c.s≤20) (h:0≤j∧j<kSlots k):(g+1)*pgB c.s≤adS c k g j∧adS c k g j<(g+2)*pgB c.s:=by
 have:=slot_rng (c:=c) (xs:=[]) hs (g:=g) (k:=k) (j:=j.toNat) (by omega)
 rw [show ((j.toNat:Nat):Int)=j by omega] at this
 exact this
theorem ad_pg (hs:10≤c.s∧c.s≤20) {k' g' j':Int} (h:0≤j∧j<kSlots k) (h':0≤j'∧j'<kSlots k') (e:adS c k g j=adS c k' g' j'):g=g':=by
 have a1:=ad_rng hs (g:=g) h
 have a2:=ad_rng hs (g:=g') h'
 have hp:1024≤pgB c.s:=(szB_ok hs (k:=0) (by omega)).2.2.2.2.1
 have lt:∀x y:Int,x<y→(x+2)*pgB c.s≤(y+1)*pgB c.s:= λx y h=>kJ (by omega) (by omega)
 rcases Int.lt_trichotomy g g' with q|q|q
 ·have:=lt _ _ q;omega
 ·exact q
 ·have:=lt _ _ q;omega
theorem ad_inj (hs:10≤c.s∧c.s≤20) {g' j':Int} (h:0≤j∧j<kSlots k) (h':0≤j'∧j'<kSlots k) (e:adS c k g j=adS c k g' j'):g=g'∧j=j':=by
 have eg:=ad_pg hs h h' e
 subst eg
 refine ⟨rfl,?_⟩
 have hz:=(szB_ok hs (cls_of h.1 h.2)).2.1
 unfold adS at e
 have e:j*szB c.s k=j'*szB c.s k:=by omega
 exact Int.eq_of_mul_eq_mul_right (by omega) e
theorem mem_partsF {x:Pt}:∀{n:Nat},x∈partsF c xs n↔∃g:Nat,g<n∧x∈partsOf c xs g
 |0=>⟨λh=>(by cases h), λh=>by obtain ⟨g,h,_⟩:=h;omega⟩
 |n+1=>by
  rw [partsF,kC,mem_partsF (n:=n)]
  constructor
  ·rintro (⟨g,h1,h2⟩|h)
   ·exact ⟨g,by omega,h2⟩
   ·exact ⟨n,by omega,h⟩
  ·rintro ⟨g,h1,h2⟩
   by_cases e:g=n
   ·subst e;exact .inr h2
   ·exact .inl ⟨g,by omega,h2⟩
theorem mem_slabF {x:Pt}:∀{n:Nat},x∈slabF c xs g k n↔∃j:Nat,j<n∧x=slabPt c xs g k j
 |0=>⟨λh=>(by cases h), λh=>by obtain ⟨g,h,_⟩:=h;omega⟩
 |n+1=>by
  rw [slabF,kC,mem_slabF (n:=n),iY]
  constructor
  ·rintro (⟨g,h1,h2⟩|h)
   ·exact ⟨g,by omega,h2⟩
   ·exact ⟨n,by omega,h⟩
  ·rintro ⟨g,h1,h2⟩
   by_cases e:g=n
   ·subst e;exact .inr h2
   ·exact .inl ⟨g,by omega,h2⟩
theorem mem_idP (hs:10≤c.s∧c.s≤20) (hp:0≤c.p) (hk:0≤k∧k≤8) {x:Pt}:x∈(partsL c xs).filter (idP (r05_Size c.s k))↔∃g j,IdS c (Mm.of c xs) k g j∧x=⟨4,adS c k g j,szB c.s k⟩:=by
 rw [lS,(szB_ok hs hk).1]
 constructor
 ·rintro ⟨h1,h2⟩
  unfold idP at h2
  simp only [iE,beq_iff_eq] at h2
  obtain ⟨g,g1,g2⟩:=mem_partsF.1 h1
  have hin:x∈(partsOf c xs g).filter idl:=lS.2 ⟨g2,by unfold idl;rw [h2.1];rfl⟩
  cases h12:((aInfo c xs g).k==1||(aInfo c xs g).k==2) with
  |true=>
   rw [partsOf_one c xs h12,iY] at g2
   subst g2
   simp only [lG,beq_iff_eq] at h12
   rcases h12 with h|h<;>(dsimp only at h2;omega)
  |false=>
   cases h3:((aInfo c xs g).k==3) with
   |false=>
    simp only [jH] at h12
    rw [partsOf_none c xs h12.1 h12.2 h3] at g2;cases g2
   |true=>
    rw [partsOf_slab c xs h3,slabL_idl] at hin
    obtain ⟨j,j1,rfl⟩:=mem_slabF.1 (lS.1 hin).1
    have hj:((j:Nat):Int)<kSlots (aInfo c xs g).c:=by omega
    have hk':=cls_of (by omega) hj
    have e:=szB_in hs hk' hk h2.2
    have h4:slabKind c xs g j=4:=h2.1
    unfold slabKind at h4
    cases hsl:bitAt (cel xs (c.slots g)) j with
    |true=>rw [hsl] at h4;simp at h4
    |false=>
     rw [hsl] at h4
     cases htk:bitAt (cel xs (c.taken g)) j with
     |false=>rw [htk] at h4;simp at h4
     |true=>
      have hk3:(aInfo c xs g).k=3:=by simpa using h3
      refine ⟨g,j,⟨⟨by omega,by omega⟩,⟨by omega,e▸hj⟩,hk3,e,htk,hsl⟩,?_⟩
      unfold slabPt
      rw [slabKind_of c xs hsl htk,e];rfl
 ·rintro ⟨g,j,h,rfl⟩
  have hg:=h.pg
  have hj:=h.sl
  have eg:((g.toNat:Nat):Int)=g:=by omega
  have ej:((j.toNat:Nat):Int)=j:=by omega
  refine ⟨mem_partsF.2 ⟨g.toNat,by omega,?_⟩,by unfold idP;simp⟩
  have hk3:(aInfo c xs g).k=3:=h.k3
  have hcl:(aInfo c xs g).c=k:=h.cl
  rw [eg,partsOf_slab c xs (by rw [hk3];rfl),hcl]
  have:(⟨4,adS c k g j,szB c.s k⟩:Pt)∈slabF c xs g k (kSlots k).toNat:=mem_slabF.2 ⟨j.toNat,by omega,by
   rw [ej]
   unfold slabPt
   rw [slabKind_of c xs (b1:=false) (b2:=true) h.lv h.tk];rfl⟩
  unfold slabL
  cases decide (0<slabRest c k) with
  |false=>exact this
  |true=>rw [cond_true,kC];exact .inl this
theorem idl_nodup (hs:10≤c.s∧c.s≤20) (sz:Int):(((partsL c xs).filter (idP sz)).map (·.a)).Nodup:=by
 have:=(idP_idl (sz:=sz) (partsL c xs)).mpr ((partsF_sorted hs _).filter _)
 rw [List.Nodup,List.pairwise_map]
 exact this.imp λ{x y} h=>by omega
def FitK (c:Cf) (m:Mm) (k:Int) (l:LI):Prop:=l.Nodup∧∀a,a∈l↔IdM c m k a
theorem FitK.perm {l l':LI} (h:FitK c m k l) (e:l.Perm l'):FitK c m k l':=⟨e.nodup_iff.1 h.1, λa=>e.mem_iff.symm.trans (h.2 a)⟩
theorem fitK_len (hs:10≤c.s∧c.s≤20) (hp:0≤c.p) (hk:0≤k∧k≤8) {l:LI} (h:FitK c (Mm.of c xs) k l):((partsL c xs).filter (idP (r05_Size c.s k))).length=l.length∧∀x∈(partsL c xs).filter (idP (r05_Size c.s k)),oft l x.a=1:=by
 have hS:=idl_nodup (xs:=xs) hs (r05_Size c.s k)
 have hm:∀a,a∈((partsL c xs).filter (idP (r05_Size c.s k))).map (·.a)↔a∈l:= λa=>by
  rw [h.2 a,kZ]
  constructor
  ·rintro ⟨x,hx,rfl⟩
   obtain ⟨g,j,h1,rfl⟩:=(mem_idP hs hp hk).1 hx
   exact ⟨g,j,h1,rfl⟩
  ·rintro ⟨g,j,h1,rfl⟩
   exact ⟨_,(mem_idP hs hp hk).2 ⟨g,j,h1,rfl⟩,rfl⟩
 have a1:=(nodup_cnt _ hS l λa ha=>(hm a).1 ha).1
 have a2:=(nodup_cnt _ h.1 _ λa ha=>(hm a).2 ha).1
 rw [kK] at a1 a2
 exact ⟨by omega, λx hx=>oft_nodup h.1 ((hm _).1 (kZ.2 ⟨x,hx,rfl⟩))⟩
theorem fitK_of (hs:10≤c.s∧c.s≤20) (hp:0≤c.p) (hk:0≤k∧k≤8) {l:LI} (h1:((partsL c xs).filter (idP (r05_Size c.s k))).length=l.length) (h2:∀x∈(partsL c xs).filter (idP (r05_Size c.s k)),oft l x.a=1):FitK c (Mm.of c xs) k l:=by
 have hS:=idl_nodup (xs:=xs) hs (r05_Size c.s k)
 have hin:∀a,a∈((partsL c xs).filter (idP (r05_Size c.s k))).map (·.a)↔IdM c (Mm.of c xs) k a:= λa=>by
  rw [kZ]
  constructor
  ·rintro ⟨x,hx,rfl⟩
   obtain ⟨g,j,h1,rfl⟩:=(mem_idP hs hp hk).1 hx
   exact ⟨g,j,h1,rfl⟩
  ·rintro ⟨g,j,h1,rfl⟩
   exact ⟨_,(mem_idP hs hp hk).2 ⟨g,j,h1,rfl⟩,rfl⟩
 have ho:∀a∈((partsL c xs).filter (idP (r05_Size c.s k))).map (·.a),oft l a=1:= λa ha=>by
  obtain ⟨x,hx,rfl⟩:=kZ.1 ha
  exact h2 x hx
 have hc:=(nodup_cnt _ hS l λa ha=>oft_mem (ho a ha)).2 (by rw [kK];exact h1)
 refine ⟨nodup_oft λa ha=>ho a (hc a ha), λa=>?_⟩
 rw [←hin]
 exact ⟨λha=>hc a ha, λha=>oft_mem (ho a ha)⟩
theorem fitIn_eq {sz:Int} {H:LI}:∀{L:List Pt} {n:Int}, -1000000000≤n-L.length→n≤1000000000→(∀x∈L.filter (idP sz),oft H x.a=1)→fitIn sz H L n=some (n-((L.filter (idP sz)).length:Int))
 |[],n,_,_,_=>by simp [fitIn]
 |x::r,n,h1,h2,h=>by
  rw [jR] at h1
  rw [fitIn]
  cases hp:idP sz x with
  |false=>
   rw [mT,hp] at h ⊢
   exact fitIn_eq (L:=r) (by push_cast at h1;omega) h2 h
  |true=>
   rw [mT,hp] at h ⊢
   simp only [if_true] at h ⊢
   have ho:(oft H x.a==1)=true:=by rw [h x (by simp)];rfl
   rw [ho,cond_true,cond_true,w64 (n:=n-1) (by push_cast at h1;omega),fitIn_eq (L:=r) (by push_cast at h1;omega) (by omega) λy hy=>h y (by simp [hy]),jR]
   congr 1;push_cast;omega
theorem fitOut_of {h:Int} {L:List Pt} {C:Int→LI} {N:Nat} (hL:L.length≤100000) (hN:N≤100000):∀(j:Nat),j≤9→(∀i:Nat,i<j→lenB (C (8-i)) N=true∧(L.filter (idP (r05_Size h (8-i)))).length=(allL (C (8-i)) N).length∧∀x∈L.filter (idP (r05_Size h (8-i))),oft (allL (C (8-i)) N) x.a=1)→fitOut h L C N j 0=true
 |0,_,_=>rfl
 |j+1,hj,hall=>by
  obtain ⟨hb,h1,h2⟩:=hall j (by omega)
  rw [fitOut,hb,cond_true]
  have hl:=allL_len hb
  rw [w64 (n:=0+((allL (C (8-j)) N).length:Int)) (by omega),fitIn_eq (by omega) (by omega) h2,h1]
  show fitOut h L C N j _=true
  rw [show (0+((allL (C (8-j)) N).length:Int))-((allL (C (8-j)) N).length:Int)=0 by omega]
  exact fitOut_of hL hN j (by omega) λi hi=>hall i (by omega)
theorem fit_iff (hc:c.ok=true) {C:Int→LI} {N:Nat} (hN:N≤100000):fitOut c.s (partsL c xs) C N 9 0=true↔∀k,0≤k∧k≤8→lenB (C k) N=true∧FitK c (Mm.of c xs) k (allL (C k) N):=by
 have hok:=Cf.ok_iff.1 hc
 have hs:=hok.2.2
 have hl:=partsL_len c xs
 constructor
 ·intro hf k hk
  obtain ⟨h1,h2⟩:=fitOut_true (L:=partsL c xs) (by omega) hN 9 0 (by omega) (by decide) (by decide) hf
  have hle:∀i:Nat,i<9→((partsL c xs).filter (idP (r05_Size c.s (8-i)))).length≤(allL (C (8-i)) N).length:= λi hi=>by
   have:=(nodup_cnt _ (idl_nodup (xs:=xs) hs _) (allL (C (8-i)) N) λb hb=>by
    obtain ⟨x,hx,rfl⟩:=kZ.mp hb
    exact oft_mem ((h2 i hi).2 x hx)).1
   rwa [kK] at this
  have he:=dfS_zero (h:=c.s) (L:=partsL c xs) (C:=C) (N:=N) (j:=9) hle (by omega)
  have hi:(8-k).toNat<9:=by omega
  have ek:(8:Int)-((8-k).toNat:Nat)=k:=by omega
  have e1:=he _ hi
  have e2:=h2 _ hi
  rw [ek] at e1 e2
  exact ⟨e2.1,fitK_of hs (by omega) hk e1 e2.2⟩
 ·intro h
  refine fitOut_of (by omega) hN 9 (by omega) λi hi=>?_
  obtain ⟨h1,h2⟩:=h (8-i) (by omega)
  obtain ⟨h3,h4⟩:=fitK_len hs (by omega) (k:=8-i) (by omega) h2
  exact ⟨h1,h3,h4⟩
end
end
section
open Go Go.Sl
theorem w32_nv (x:Int):iA iW x=nv x:=by rw [nO];rfl
theorem clr_set {v b:Int} (hv:bd32 v) (hb:0≤b∧b<32) (h:bitAt v b=false):clrB (setB v b) b=v:=by
 obtain ⟨h1,h2⟩:=bitAt_setB hv hb
 obtain ⟨g1,g2⟩:=bitAt_clrB h1 hb
 refine bits_ext g1 hv λi=>?_
 rw [g2,h2]
 by_cases e:i=b
 ·subst e;rw [h];simp
 ·simp [e]
theorem addB_left {b:Pt}:∀{l1 l2:List Pt},(∀x∈l2,b.a<x.a)→addB b (l1++l2)=addB b l1++l2
 |[],[],_=>rfl
 |[],y::l2,h=>by
  have:decide (y.a>b.a)=true:=by simpa using h y (by simp)
  simp only [nL,addB,this,cond_true,mU]
 |x::l1,l2,h=>by
  have ih:=addB_left (l1:=l1) h
  simp only [kA,addB,ih]
  cases decide (x.a>b.a)<;>rfl
theorem addB_right {b:Pt}:∀{l1 l2:List Pt},(∀x∈l1,x.a≤b.a)→addB b (l1++l2)=l1++addB b l2
 |[],_,_=>rfl
 |x::l1,l2,h=>by
  have e:decide (x.a>b.a)=false:=by have:=h x (by simp);simpa using this
  have ih:=addB_right (l1:=l1) (l2:=l2) λy hy=>h y (by simp [hy])
  simp only [kA,addB,e,cond_false,ih]
section
variable {c:Cf} {m m':Mm} {s:VS} {L:List Sp} {k g j a:Int}
theorem u3 (h:(ifM m g).k=3):uM m g=ifM m g:=by unfold uM uI;rw [h];rfl
theorem u3' (h:(uM m g).k=3):(ifM m g).k=3:=by
 unfold uM uI at h
 cases e:((ifM m g).k==2||(ifM m g).k==3) with
 |true=>rw [e] at h;exact h
 |false=>rw [e] at h;cases h
theorem IdS.eq (h:IdS c m k g j) (h1:uM m' g=uM m g) (h2:m'.taken g=m.taken g) (h3:m'.slots g=m.slots g):IdS c m' k g j:=by
 have hu:=u3 h.k3
 have k3:(ifM m' g).k=3:=u3' (by rw [h1,hu];exact h.k3)
 have e:ifM m' g=ifM m g:=by rw [←u3 k3,h1,hu]
 exact ⟨h.pg,h.sl,k3,by rw [e];exact h.cl,by rw [h2];exact h.tk,by rw [h3];exact h.lv⟩
theorem IdM.congr (e:MEq c m m'):IdM c m' k a↔IdM c m k a:=by
 constructor
 ·rintro ⟨g,j,h,rfl⟩
  have hg:=h.pg
  exact ⟨g,j,h.eq (uM_eq (e.info g hg.1 hg.2).symm) (e.taken g hg.1 hg.2).symm (e.slots g hg.1 hg.2).symm,rfl⟩
 ·rintro ⟨g,j,h,rfl⟩
  have hg:=h.pg
  exact ⟨g,j,h.eq (uM_eq (e.info g hg.1 hg.2)) (e.taken g hg.1 hg.2) (e.slots g hg.1 hg.2),rfl⟩
theorem FitK.congr {l:LI} (h:FitK c m k l) (e:MEq c m m'):FitK c m' k l:=⟨h.1, λa=>(h.2 a).trans (IdM.congr e).symm⟩
theorem idM_ne (hs:10≤c.s∧c.s≤20) {k':Int} (I:IdS c m k g j) (h:IdM c m k' a) (hk:k'≠k):a≠adS c k g j:=by
 obtain ⟨g',j',h',rfl⟩:=h
 intro e
 have:=ad_pg hs h'.sl I.sl e
 subst this
 exact hk (h'.cl.symm.trans I.cl)
def mBeg (m:Mm) (g b:Int):Mm:={m with slots:=fset m.slots g (setB (m.slots g) b),lv:=nv (m.lv+1)}
theorem beg_at (h:At c s m) (hg:0≤g∧g<c.p) {b:Int} (hb:0≤b∧b<32):At c ((pBeg c g b).run s).1 (mBeg m g b):=by
 unfold pBeg
 simp only [Pg.run_get,Pg.run_put,Pg.run_ret]
 rw [h.get_slots hg]
 have h1:=(h.read (c.slots g)).set_slots hg (setB (m.slots g) b)
 rw [nv_id (bitAt_setB (slt_bd h hg) hb).1] at h1
 have h2:=(h1.read 1).set_lv (iA iW (((s.read (c.slots g)).set (c.slots g) (setB (m.slots g) b)).get 1+1))
 rw [h1.get_lv,w32_nv,nvnv] at h2
 rw [h1.get_lv,w32_nv]
 exact h2
theorem mem_slF {sl q:Int} {x:Pt}:∀{n:Nat},x∈blkU.slF c sl q k n→∃i:Nat,i<n∧bitAt sl i=true∧x=⟨2,adS c k q i,szB c.s k⟩
 |0,h=>by cases h
 |n+1,h=>by
  rw [blkU.slF,kC] at h
  rcases h with h|h
  ·obtain ⟨i,h1,h2⟩:=mem_slF h
   exact ⟨i,by omega,h2⟩
  ·cases hb:bitAt sl n with
   |false=>rw [hb] at h;cases h
   |true=>
    rw [hb,cond_true,iY] at h
    exact ⟨n,by omega,hb,h⟩
theorem ad_lt (hz:0<szB c.s k) {q i i':Int} (h:i<i'):adS c k q i<adS c k q i':=by
 unfold adS
 have:=Int.mul_lt_mul_of_pos_right h hz
 omega
theorem slF_set {sl q:Int} (hv:bd32 sl) (hj:0≤j∧j<32) (hbit:bitAt sl j=false) (hz:0<szB c.s k):∀n:Nat,blkU.slF c (setB sl j) q k n=bif decide (j<n) then addB ⟨2,adS c k q j,szB c.s k⟩ (blkU.slF c sl q k n) else blkU.slF c sl q k n
 |0=>by
  have:decide (j<((0:Nat):Int))=false:=by simp;omega
  rw [this];rfl
 |n+1=>by
  have hb:=(bitAt_setB hv hj).2
  rw [blkU.slF,blkU.slF,slF_set hv hj hbit hz n,hb]
  by_cases e:(n:Int)=j
  ·have d1:decide (j<(n:Int))=false:=by simp;omega
   have d2:decide (j<((n+1:Nat):Int))=true:=by simp;omega
   have d3:decide ((n:Int)=j)=true:=by simpa using e
   rw [d1,d2,d3,Bool.or_true,cond_true,cond_true,cond_false,e,hbit,cond_false,lF]
   have:=addB_app (b:=⟨2,adS c k q j,szB c.s k⟩) (l1:=blkU.slF c sl q k n) (l2:=[]) (λx hx=>by
    obtain ⟨i,h1,_,rfl⟩:=mem_slF hx
    have:=ad_lt (c:=c) (k:=k) (q:=q) hz (show (i:Int)<j by omega)
    show adS c k q i≤adS c k q j
    omega) (λx hx=>by cases hx)
   rw [lF] at this
   exact this.symm
  ·have d3:decide ((n:Int)=j)=false:=by simpa using e
   have d2:decide (j<((n+1:Nat):Int))=decide (j<(n:Int)):=decide_eq_decide.2 (by push_cast;omega)
   rw [d3,pG,d2]
   cases hd:decide (j<(n:Int)) with
   |false=>rfl
   |true=>
    have hd:=of_decide_eq_true hd
    rw [cond_true,cond_true]
    refine (addB_left λx hx=>?_).symm
    cases hbn:bitAt sl n with
    |false=>rw [hbn] at hx;cases hx
    |true=>
     rw [hbn,cond_true,iY] at hx
     subst hx
     exact ad_lt hz hd
theorem slab_blkP (h:(ifM m g).k=3):blkP c m g=blkU.slF c (m.slots g) g (ifM m g).c (kSlots (ifM m g).c).toNat:=by
 rw [blkP_u,u3 h]
 unfold blkU
 rw [h];rfl
theorem beg_sound (hok:c.ok=true) (S:SoundM c m L) (I:IdS c m k g j) (hbd:bd32 (m.slots g)):SoundM c (mBeg m g j) L∧blkF c (mBeg m g j) c.p.toNat=addB ⟨2,adS c k g j,szB c.s k⟩ (blkF c m c.p.toNat)∧∀x∈blkF c m c.p.toNat,x.a≠adS c k g j:=by
 have hs:=(Cf.ok_iff.1 hok).2.2
 have hks:=kSlots_bd k
 have hsl:=I.sl
 have hg:=I.pg
 have hb32:0≤j∧j<32:=⟨hsl.1,by omega⟩
 have hz:=(szB_ok hs I.kb).2.1
 have hset:=bitAt_setB hbd hb32
 have hinf:∀q,(mBeg m g j).info q=m.info q:= λ_=>rfl
 have hsg:(mBeg m g j).slots g=setB (m.slots g) j:=fset_same _ _ _
 have hsn:∀q,q≠g→(mBeg m g j).slots q=m.slots q:= λq h=>fset_ne h
 obtain ⟨S1,S2⟩:=snd_iff.1 S.snd
 have hP:∀q,q≠g→blkP c (mBeg m g j) q=blkP c m q:= λq h=>by rw [blkP_u,blkP_u,hsn q h];rfl
 have hPg:blkP c (mBeg m g j) g=addB ⟨2,adS c k g j,szB c.s k⟩ (blkP c m g):=by
  have k3:=I.k3
  rw [slab_blkP (m:=mBeg m g j) k3,slab_blkP k3,hsg]
  show blkU.slF c (setB (m.slots g) j) g (ifM m g).c (kSlots (ifM m g).c).toNat=addB _ (blkU.slF c (m.slots g) g (ifM m g).c (kSlots (ifM m g).c).toNat)
  rw [I.cl,slF_set hbd hb32 I.lv (by omega)]
  have:decide (j<(((kSlots k).toNat:Nat):Int))=true:=by simp;omega
  rw [this,cond_true]
 have hrg:=ad_rng hs (g:=g) hsl
 have hP2:(g+2)*pgB c.s=(g+1)*pgB c.s+pgB c.s:=by rw [show g+2=(g+1)+1 by omega,nM,nV]
 have hblk:blkF c (mBeg m g j) c.p.toNat=addB ⟨2,adS c k g j,szB c.s k⟩ (blkF c m c.p.toNat):=by
  rw [blkF_split (m:=mBeg m g j) hg.1 hg.2,blkF_split (m:=m) hg.1 hg.2,hPg,
   blkF_congr (m:=m) (m':=mBeg m g j) (n:=g.toNat) λq q0 q1=>hP q (by omega),
   blkT_congr (m:=m) (m':=mBeg m g j) λq q0 q1=>hP q (by omega)]
  rw [addB_right λx hx=>by
      have:=blkF_lt hok hg.1 hx
      show x.a≤adS c k g j
      omega,
   addB_left λx hx=>by
    have:=blkT_ge hok hx
    show adS c k g j<x.a
    omega]
 have hno:∀x∈blkF c m c.p.toNat,x.a≠adS c k g j:= λx hx e=>by
  rw [blkF_split hg.1 hg.2,kC,kC] at hx
  rcases hx with hx|hx|hx
  ·have:=blkF_lt hok hg.1 hx;omega
  ·rw [slab_blkP I.k3,I.cl] at hx
   obtain ⟨i,h1,h2,rfl⟩:=mem_slF hx
   have:=(ad_inj hs (g:=g) (j:=(i:Int)) (k:=k) ⟨by omega,by omega⟩ hsl e).2
   rw [this,I.lv] at h2;cases h2
  ·have:=blkT_ge hok hx;omega
 refine ⟨⟨snd_iff.2 ⟨⟨S1.tl.of_eq (λ_ _ _=>rfl) (λ_ _ _=>rfl),S1.ap, λq q0 q1 b b0 b1=>?_,S1.some⟩,S2.of_eq (λh=>by cases h<;>rfl) rfl rfl λh _ q _ _=>by cases h<;>rfl⟩,⟨S.cnt.1,?_⟩, λi i0 i1=>?_⟩,hblk,hno⟩
 ·have hold:=S1.bits q q0 q1 b b0 b1
  by_cases e:q=g
  ·subst e
   unfold badM at hold ⊢
   rw [hsg,hset.2]
   show (_&&!bitAt (m.taken q) b||(bitAt (m.taken q) b&&((ifM m q).k !=3||decide (b≥kSlots (ifM m q).c))))=false
   by_cases eb:b=j
   ·subst eb
    rw [I.tk] at hold ⊢
    simpa using hold
   ·have:decide (b=j)=false:=by simpa using eb
    rw [this,pG];exact hold
  ·rw [badM_eq (m:=m) (m':=mBeg m g j) rfl (hsn q e) rfl];exact hold
 ·show nv (m.lv+1)=_
  rw [smF_one (f:=lvP (mBeg m g j)) (g:=lvP m) (a:=g) hg.1 (by omega) λq q0 q1 q2=>lvP_eq (m:=m) (m':=mBeg m g j) rfl (hsn q q2),S.cnt.2]
  have e1:lvP (mBeg m g j) g=lvP m g+1:=by
   rw [lvP_u,lvP_u,hsg]
   have:=(clr_ones hset.1 hb32 (by rw [hset.2];simp)).1
   rw [clr_set hbd hb32 I.lv] at this
   rw [this]
   show (bif (uM m g).k==2 then 1 else 0)+(ones (m.slots g)+1)=_
   omega
  rw [e1]
  unfold nv;omega
 ·show m.root i=0∨_
  rcases S.rts i i0 i1 with h|⟨x,x1,x2⟩
  ·exact .inl h
  ·exact .inr ⟨x,by rw [hblk];exact mem_addB.2 (.inr x1),x2⟩
theorem beg_id (hs:10≤c.s∧c.s≤20) (I:IdS c m k g j) (hbd:bd32 (m.slots g)) {k' a':Int}:IdM c (mBeg m g j) k' a'↔IdM c m k' a'∧a'≠adS c k g j:=by
 have hks:=kSlots_bd k
 have hsl:=I.sl
 have hset:=bitAt_setB hbd (s:=j) ⟨hsl.1,by omega⟩
 constructor
 ·rintro ⟨g',j',h,rfl⟩
  have hlv:=h.lv
  by_cases e:g'=g
  ·subst e
   have e1:(mBeg m g' j).slots g'=setB (m.slots g') j:=fset_same _ _ _
   rw [e1,hset.2] at hlv
   simp only [jH,decide_eq_false_iff_not] at hlv
   have hc:k'=k:=h.cl.symm.trans I.cl
   subst hc
   exact ⟨⟨g',j',⟨h.pg,h.sl,h.k3,h.cl,h.tk,hlv.1⟩,rfl⟩, λe=>hlv.2 (ad_inj hs h.sl hsl e).2⟩
  ·exact ⟨⟨g',j',⟨h.pg,h.sl,h.k3,h.cl,h.tk,by rw [show (mBeg m g j).slots g'=m.slots g' from fset_ne e] at hlv;exact hlv⟩,rfl⟩, λe2=>e (ad_pg hs h.sl hsl e2)⟩
 ·rintro ⟨⟨g',j',h,rfl⟩,hne⟩
  refine ⟨g',j',⟨h.pg,h.sl,h.k3,h.cl,h.tk,?_⟩,rfl⟩
  by_cases e:g'=g
  ·subst e
   have hc:k'=k:=h.cl.symm.trans I.cl
   subst hc
   have e1:(mBeg m g' j).slots g'=setB (m.slots g') j:=fset_same _ _ _
   rw [e1,hset.2,h.lv]
   have:j'≠j:= λe=>hne (by rw [e])
   simpa using this
  ·rw [show (mBeg m g j).slots g'=m.slots g' from fset_ne e];exact h.lv
theorem give_id (hs:10≤c.s∧c.s≤20) {b d:Int} (I:IdS c m k g b) (C:Slc c m m' g d) (ht:bd32 (m.taken g)) (htk:m'.taken=fset m.taken g (clrB (m.taken g) b)) (hu:(clrB (m.taken g) b=0∧d=1∧uM m' g=⟨0,0,0⟩)∨(clrB (m.taken g) b≠0∧d=0∧uM m' g=uM m g)) {k' a':Int}:IdM c m' k' a'↔IdM c m k' a'∧a'≠adS c k g b:=by
 have hks:=kSlots_bd k
 have hsl:=I.sl
 have hclr:=bitAt_clrB ht (s:=b) ⟨hsl.1,by omega⟩
 have htg:m'.taken g=clrB (m.taken g) b:=by rw [htk,fset_same]
 constructor
 ·rintro ⟨g',j',h,rfl⟩
  by_cases e:g'=g
  ·subst e
   have h1:=h.tk
   rw [htg,hclr.2] at h1
   simp only [iE,jO,decide_eq_false_iff_not] at h1
   have hu2:uM m' g'=uM m g':=by
    rcases hu with ⟨_,_,h2⟩|⟨_,_,h2⟩
    ·exact absurd h.k3 (uM_kind h2).2
    ·exact h2
   have k3:=I.k3
   have e2:ifM m' g'=ifM m g':=by rw [←u3 h.k3,←u3 k3,hu2]
   have hc:k'=k:=by rw [←h.cl,e2];exact I.cl
   subst hc
   exact ⟨⟨g',j',⟨h.pg,h.sl,k3,I.cl,h1.1,by have:=h.lv;rwa [C.slots] at this⟩,rfl⟩, λe=>h1.2 (ad_inj hs h.sl hsl e).2⟩
  ·exact ⟨⟨g',j',h.eq (C.u g' h.pg.1 h.pg.2 e).symm (C.tk g' e).symm (by rw [C.slots]),rfl⟩, λe2=>e (ad_pg hs h.sl hsl e2)⟩
 ·rintro ⟨⟨g',j',h,rfl⟩,hne⟩
  by_cases e:g'=g
  ·subst e
   have hc:k'=k:=h.cl.symm.trans I.cl
   subst hc
   have hjb:j'≠b:= λe=>hne (by rw [e])
   have ht':bitAt (clrB (m.taken g') b) j'=true:=by rw [hclr.2,h.tk];simpa using hjb
   have hu2:uM m' g'=uM m g':=by
    rcases hu with ⟨h2,_,_⟩|⟨_,_,h2⟩
    ·rw [h2,bitAt_zero] at ht';cases ht'
    ·exact h2
   have k3:(ifM m' g').k=3:=u3' (by rw [hu2,u3 h.k3];exact h.k3)
   have e2:ifM m' g'=ifM m g':=by rw [←u3 h.k3,←u3 k3,hu2]
   exact ⟨g',j',⟨h.pg,h.sl,k3,by rw [e2];exact h.cl,by rw [htg];exact ht',by rw [C.slots];exact h.lv⟩,rfl⟩
  ·exact ⟨g',j',h.eq (C.u g' h.pg.1 h.pg.2 e) (C.tk g' e) (by rw [C.slots]),rfl⟩
end
end
section
open Go Go.Sl
theorem filter_parts (f:Int→Bool):∀l:LI,(l.filter f++l.filter λa=>!f a).Perm l
 |[]=>List.Perm.refl _
 |x::l=>by
  have ih:=filter_parts f l
  cases h:f x with
  |true=>
   rw [nX (p:=f) h,nY (p:= λa=>!f a) (by simp [h]),kA]
   exact ih.cons x
  |false=>
   rw [nY (p:=f) (by simp [h]),nX (p:= λa=>!f a) (by simp [h])]
   exact List.perm_middle.trans (ih.cons x)
theorem pop_last {l:LI} (h:(lastI l).2=true):popL l++[(lastI l).1]=l:=by
 cases l with
 |nil=>cases h
 |cons a r=>
  have hl:(lastI (a::r)).1=(a::r).getD r.length 0:=rfl
  have e:(a::r).getD r.length 0=(a::r)[r.length]'(by simp):=by
   rw [iD,iN (by simp)];rfl
  rw [hl,e]
  have:popL (a::r)=(a::r).take r.length:=rfl
  rw [this]
  have h2:=List.take_append_getElem (l:=a::r) (i:=r.length) (by simp)
  rw [h2,lI (by simp)]
theorem last_in {l:LI} (h:(lastI l).2=true):(lastI l).1∈l:=by
 have e:=pop_last h
 have hm:(lastI l).1∈popL l++[(lastI l).1]:=by simp
 rw [e] at hm;exact hm
theorem pkk_S {st:LL} {k:Int} {l:LI} (hk:0≤k∧k≤8) {k':Int} (hk':0≤k'∧k'≤8):pkk (pkS st k l) k'=bif k==k' then l else pkk st k':=by
 have:k'=0∨k'=1∨k'=2∨k'=3∨k'=4∨k'=5∨k'=6∨k'=7∨k'=8:=by omega
 rcases this with rfl|rfl|rfl|rfl|rfl|rfl|rfl|rfl|rfl<;>rfl
theorem pkk_same {st:LL} {k:Int} {l:LI} (hk:0≤k∧k≤8):pkk (pkS st k l) k=l:=by rw [pkk_S hk hk,beq_self_eq_true];rfl
theorem pkk_other {st:LL} {k k':Int} {l:LI} (hk:0≤k∧k≤8) (hk':0≤k'∧k'≤8) (h:k'≠k):pkk (pkS st k l) k'=pkk st k':=by
 rw [pkk_S hk hk',show (k==k')=false by simpa using λe:k=k'=>h e.symm];rfl
section
variable {c:Cf} {m m':Mm} {s:VS} {L:List Sp} {k g j a:Int} {st:LL} {O:Int→LI}
theorem at_ad (hc:c.ok=true) (hk:0≤k∧k≤8) (hg:0≤g∧g<c.p) (hj:0≤j∧j<kSlots k):(addr_At c.t c.p c.s k g j).1=adS c k g j:=by
 rw [At_eq];exact (at_pgB hc hk hg hj).1
theorem pg_sl (hc:c.ok=true) (hk:0≤k∧k≤8) (hg:0≤g∧g<c.p) (hj:0≤j∧j<kSlots k):r06_Page c.t c.p c.s (adS c k g j)=(g,j*class_Size c.s k,true)∧pgA c.t c.p c.s (adS c k g j)=g∧slA c.t c.p c.s k (adS c k g j)=j:=by
 have hr:=rt_of (Cf.right hc)
 have e1:=at_in hr (by omega) hj hg
 have e2:=(at_pgB hc hk hg hj).1
 rw [←At_eq,e1.1] at e2
 have hP:(2:Int)^c.s.toNat=pgB c.s:=rfl
 have ea:adS c k g j=(g+1)*pgB c.s+j*class_Size c.s k:=by dsimp only at e2;unfold adS;rw [←e2,hP]
 have hp0:=hr.P0
 rw [hP] at hp0 e1
 have hcs:=(cls hr (k:=k) (by omega)).1
 generalize adS c k g j=a at ea ⊢
 have d1:a/pgB c.s=g+1:=by
  rw [ea,Int.add_comm,Int.add_mul_ediv_right _ _ (by omega),Int.ediv_eq_zero_of_lt e1.2.1 (by omega)];omega
 have d2:a%pgB c.s=j*class_Size c.s k:=by
  rw [ea,Int.add_comm,Int.add_mul_emod_self_right,Int.emod_eq_of_lt e1.2.1 (by omega)]
 have b1:pgB c.s≤a∧a<pgB c.s*c.p+pgB c.s:=by
  have f1:pgB c.s*1≤pgB c.s*(g+1):=oZ (by omega) (by omega)
  have f2:pgB c.s*(g+1)≤pgB c.s*c.p:=oZ (by omega) (by omega)
  have f3:(g+1)*pgB c.s=pgB c.s*(g+1):=oP _ _
  omega
 have hpg:=(pageIn hr (a:=a) (by rw [hP];exact b1)).2
 rw [hP,d1,d2,show g+1-1=g by omega] at hpg
 refine ⟨hpg,by unfold pgA;rw [hpg],?_⟩
 unfold slA;rw [hpg,(slot_in hr (by omega) hj).2]
def FitX (c:Cf) (m:Mm) (st:LL) (O:Int→LI) (k:Int) (e:LI):Prop:=FitK c m k ((pkk st k++e)++O k)∧∀k',0≤k'∧k'≤8→k'≠k→FitK c m k' (pkk st k'++O k')
def FitS (c:Cf) (m:Mm) (st:LL) (O:Int→LI):Prop:=∀k,0≤k∧k≤8→FitK c m k (pkk st k++O k)
theorem FitS.x (h:FitS c m st O) (hk:0≤k∧k≤8):FitX c m st O k []:=⟨by rw [lF];exact h k hk, λk' h1 _=>h k' h1⟩
theorem FitX.congr {e:LI} (h:FitX c m st O k e) (q:MEq c m m'):FitX c m' st O k e:=⟨h.1.congr q, λk' h1 h2=>(h.2 k' h1 h2).congr q⟩
theorem FitS.congr (h:FitS c m st O) (q:MEq c m m'):FitS c m' st O:= λk hk=>(h k hk).congr q
structure Hnd (c:Cf) (S0:StT) (O:Int→LI) (k:Int) (s:VS) (st:LL) (g j:Int) (m:Mm) (L:List Sp):Prop where
 h:At c s m
 all:s.all=true
 snd:SoundM c m L
 stm:stM c m=S0
 id:IdS c m k g j
 fit:FitX c m st O k [adS c k g j]
 len:(pkk st k).length≤3∧∀k',0≤k'∧k'≤8→(pkk st k').length≤4
theorem fitK_del {l r:LI} {x:Int} (h:FitK c m k (l++x::r)) (hm:∀a,IdM c m' k a↔IdM c m k a∧a≠x):FitK c m' k (l++r):=by
 have hp:(l++x::r).Perm (x::(l++r)):=List.perm_middle
 have h':=h.perm hp
 obtain ⟨n1,n2⟩:=lK.1 h'.1
 refine ⟨n2, λa=>?_⟩
 rw [hm,←h'.2 a,iG]
 constructor
 ·exact λha=>⟨.inr ha, λe=>n1 (e▸ha)⟩
 ·rintro ⟨ha|ha,hne⟩
  ·exact absurd ha hne
  ·exact ha
theorem Hnd.beg {S0:StT} (H:Hnd c S0 O k s st g j m L):At c (begS s c.t c.p c.s g j) (mBeg m g j)∧(begS s c.t c.p c.s g j).all=true∧SoundM c (mBeg m g j) L∧stM c (mBeg m g j)=stWith S0 (insA (adS c k g j) S0.1) (insZ (adS c k g j) (szB c.s k) S0.1 S0.2.1)∧(∀x∈S0.1,x≠adS c k g j)∧FitS c (mBeg m g j) st O:=by
 have I:=H.id
 have hks:=kSlots_bd k
 have hsl:=I.sl
 have hok:=H.h.ok
 have hs:=(Cf.ok_iff.1 hok).2.2
 have hbd:=slt_bd H.h I.pg
 obtain ⟨b1,b2,b3⟩:=beg_sound hok H.snd I hbd
 refine ⟨beg_at H.h I.pg ⟨hsl.1,by omega⟩,?_,b1,?_,?_, λk' hk'=>?_⟩
 ·show ((pBeg c g j).run s).1.all=true
  rw [run_all];exact H.all
 ·rw [stM_add b2 rfl,H.stm]
 ·rw [←H.stm]
  intro x hx
  obtain ⟨y,y1,rfl⟩:=kZ.1 hx
  exact b3 y y1
 ·by_cases e:k'=k
  ·subst e
   have:=H.fit.1
   rw [jX,mU] at this
   exact fitK_del this λa=>beg_id hs I hbd
  ·have h:=H.fit.2 k' hk' e
   refine ⟨h.1, λa=>?_⟩
   rw [beg_id hs I hbd,←h.2]
   exact ⟨λha=>⟨ha,idM_ne hs I ((h.2 a).1 ha) e⟩, λha=>ha.1⟩
def Flu (c:Cf) (S0:StT) (O:Int→LI) (s:VS) (st:LL):Prop:=∃m L,At c s m∧s.all=true∧SoundM c m L∧stM c m=S0∧FitS c m st O
theorem flushF_ok {S0:StT} (hk:0≤k∧k≤8) {pg:Int} {R:LI} {oth:Int→LI}:∀(l:LI) (s:VS) (m:Mm) (L:List Sp),At c s m→s.all=true→SoundM c m L→stM c m=S0→(∀a∈l,onP c.t c.p c.s pg a=true)→FitK c m k (l++R)→(∀k',0≤k'∧k'≤8→k'≠k→FitK c m k' (oth k'))→
 ∃m' L',At c (flushF s c.t c.p c.s k pg l) m'∧(flushF s c.t c.p c.s k pg l).all=true∧SoundM c m' L'∧stM c m'=S0∧FitK c m' k R∧∀k',0≤k'∧k'≤8→k'≠k→FitK c m' k' (oth k')
 |[],s,m,L,h,ha,S,hm,_,hF,hO=>⟨m,L,h,ha,S,hm,hF,hO⟩
 |a::l,s,m,L,h,ha,S,hm,hon,hF,hO=>by
  have hok:=h.ok
  have hs:=(Cf.ok_iff.1 hok).2.2
  obtain ⟨g,j,I,rfl⟩:=(hF.2 a).1 (by simp)
  obtain ⟨e1,e2,e3⟩:=pg_sl hok hk I.pg I.sl
  have hg:g=pg:=by
   have:=hon (adS c k g j) (by simp)
   unfold onP at this
   rw [e1] at this
   simpa using this
  subst hg
  have hks:=kSlots_bd k
  have hsl:=I.sl
  obtain ⟨m',L',d,r1,r2,r3,C,r5,r6⟩:=give_at h S.snd I.pg I.k3 (b:=j) ⟨hsl.1,by omega⟩ I.tk I.lv
  have hid:= λk' a'=>give_id (k':=k') (a':=a') hs I C (tkn_bd h I.pg) r5 r6
  have hal:((pGive c g j).run s).1.all=true:=by rw [run_all];exact ha
  have step:flushF s c.t c.p c.s k g (adS c k g j::l)=flushF ((pGive c g j).run s).1 c.t c.p c.s k g l:=by
   show flushF (slab_Give s c.t c.p c.s g (slA c.t c.p c.s k (adS c k g j))) c.t c.p c.s k g l=_
   rw [e3];rfl
  rw [step]
  refine flushF_ok hk l _ m' L' r1 hal (C.sound S r2 r3) (by rw [stM_eq C.blk C.root,hm]) (λx hx=>hon x (by simp [hx])) ?_ λk' h1 h2=>?_
  ·exact fitK_del (l:=[]) hF λa=>hid k a
  ·have h3:=hO k' h1 h2
   refine ⟨h3.1, λx=>?_⟩
   rw [hid,←h3.2]
   exact ⟨λhx=>⟨hx,idM_ne hs I ((h3.2 x).1 hx) h2⟩, λhx=>hx.1⟩
theorem flush_ok {S0:StT} (hk:0≤k∧k≤8) (F:Flu c S0 O s st) (hne:pkk st k≠[]) (hl:(pkk st k).length≤4):
 (lastI (pkk st k)).2=true∧1≤((pkk st k).filter (onP c.t c.p c.s (pgA c.t c.p c.s (lastI (pkk st k)).1))).length∧
 Flu c S0 O (flushF s c.t c.p c.s k (pgA c.t c.p c.s (lastI (pkk st k)).1) ((pkk st k).filter (onP c.t c.p c.s (pgA c.t c.p c.s (lastI (pkk st k)).1)))) (pkS st k ((pkk st k).filter λa=>!onP c.t c.p c.s (pgA c.t c.p c.s (lastI (pkk st k)).1) a)):=by
 obtain ⟨m,L,h,ha,S,hm,hF⟩:=F
 have ho:(lastI (pkk st k)).2=true:=by
  cases hq:(lastI (pkk st k)).2 with
  |true=>rfl
  |false=>exact absurd (lastI_f hq) hne
 have hmem:(lastI (pkk st k)).1∈pkk st k:=last_in ho
 generalize (lastI (pkk st k)).1=a at hmem ⊢
 have hok:=h.ok
 obtain ⟨g,j,I,rfl⟩:=((hF k hk).2 a).1 (kC.2 (.inl hmem))
 obtain ⟨e1,e2,_⟩:=pg_sl hok hk I.pg I.sl
 rw [e2]
 refine ⟨ho,?_,?_⟩
 ·exact List.length_pos_of_mem (lS.2 ⟨hmem,by unfold onP;rw [e1];simp⟩)
 ·have hp:=(filter_parts (onP c.t c.p c.s g) (pkk st k)).append_right (O k)
  rw [jX] at hp
  obtain ⟨m',L',f1,f2,f3,f4,f5,f6⟩:=flushF_ok (S0:=S0) hk (pg:=g) (oth:= λk'=>pkk st k'++O k') _ s m L h ha S hm (λx hx=>(lS.1 hx).2) ((hF k hk).perm hp.symm) λk' h1 _=>hF k' h1
  refine ⟨m',L',f1,f2,f3,f4, λk' hk'=>?_⟩
  by_cases e:k'=k
  ·subst e;rw [pkk_same hk];exact f5
  ·rw [pkk_other hk hk' e];exact f6 k' hk' e
end
end
section
open Go Go.Sl
def PV (a0 a1 a2 a3 a4 a5 a6 a7 a8:LI) (T:Int):Int→LI:= λk=>othL (pkGet k a0 a1 a2 a3 a4 a5 a6 a7 a8) T.toNat a0.length
theorem pk_len {a0 a1 a2 a3 a4 a5 a6 a7 a8:LI} (hl:a1.length=a0.length∧a2.length=a0.length∧a3.length=a0.length∧a4.length=a0.length∧a5.length=a0.length∧a6.length=a0.length∧a7.length=a0.length∧a8.length=a0.length) {k:Int} (hk:0≤k∧k≤8):(pkGet k a0 a1 a2 a3 a4 a5 a6 a7 a8).length=a0.length:=by
 obtain ⟨h1,h2,h3,h4,h5,h6,h7,h8⟩:=hl
 rcases (by omega:k=0∨k=1∨k=2∨k=3∨k=4∨k=5∨k=6∨k=7∨k=8) with rfl|rfl|rfl|rfl|rfl|rfl|rfl|rfl|rfl
 ·rfl
 ·exact h1
 ·exact h2
 ·exact h3
 ·exact h4
 ·exact h5
 ·exact h6
 ·exact h7
 ·exact h8
theorem PW {a0 a1 a2 a3 a4 a5 a6 a7 a8:LI} {T k:Int} (hk:0≤k∧k≤8):pkk [slR (a0.getD T.toNat 0),slR (a1.getD T.toNat 0),slR (a2.getD T.toNat 0),slR (a3.getD T.toNat 0),slR (a4.getD T.toNat 0),slR (a5.getD T.toNat 0),slR (a6.getD T.toNat 0),slR (a7.getD T.toNat 0),slR (a8.getD T.toNat 0)] k=slR ((pkGet k a0 a1 a2 a3 a4 a5 a6 a7 a8).getD T.toNat 0):=by
 rcases (by omega:k=0∨k=1∨k=2∨k=3∨k=4∨k=5∨k=6∨k=7∨k=8) with rfl|rfl|rfl|rfl|rfl|rfl|rfl|rfl|rfl<;>rfl
theorem Qa {t p h:Int} {xs a0 a1 a2 a3 a4 a5 a6 a7 a8:LI} {T k g b:Int} (hf:l18_fit t p h xs a0 a1 a2 a3 a4 a5 a6 a7 a8 T k g b=true) (hs:slO a0.length a0∧slO a0.length a1∧slO a0.length a2∧slO a0.length a3∧slO a0.length a4∧slO a0.length a5∧slO a0.length a6∧slO a0.length a7∧slO a0.length a8) (hl:a1.length=a0.length∧a2.length=a0.length∧a3.length=a0.length∧a4.length=a0.length∧a5.length=a0.length∧a6.length=a0.length∧a7.length=a0.length∧a8.length=a0.length) (hb:bdAll xs):FitS ⟨t,p,h⟩ (Mm.of ⟨t,p,h⟩ xs) [slR (a0.getD T.toNat 0),slR (a1.getD T.toNat 0),slR (a2.getD T.toNat 0),slR (a3.getD T.toNat 0),slR (a4.getD T.toNat 0),slR (a5.getD T.toNat 0),slR (a6.getD T.toNat 0),slR (a7.getD T.toNat 0),slR (a8.getD T.toNat 0)] (PV a0 a1 a2 a3 a4 a5 a6 a7 a8 T)∧∀k',0≤k'∧k'≤8→(pkk [slR (a0.getD T.toNat 0),slR (a1.getD T.toNat 0),slR (a2.getD T.toNat 0),slR (a3.getD T.toNat 0),slR (a4.getD T.toNat 0),slR (a5.getD T.toNat 0),slR (a6.getD T.toNat 0),slR (a7.getD T.toNat 0),slR (a8.getD T.toNat 0)] k').length≤4:=by
 obtain ⟨⟨h1,_⟩,h2,_,h4,h5⟩:=fit_all hf hs
 have hok:Cf.ok ⟨t,p,h⟩=true:=(sound_good h1 hb).ok
 have hT:T.toNat<a0.length:=by omega
 have h6:=(fit_iff (c:=⟨t,p,h⟩) (xs:=xs) hok (C:=(λk=>pkGet k a0 a1 a2 a3 a4 a5 a6 a7 a8)) (by omega)).1 h5
 refine ⟨λk hk=>?_, λk hk=>?_⟩
 ·rw [PW hk]
  exact (h6 k hk).2.perm (oth_perm hT)
 ·rw [PW hk]
  exact lenB_all (h6 k hk).1 T.toNat hT
theorem PH {t p h:Int} {ys a0 a1 a2 a3 a4 a5 a6 a7 a8:LI} {T:Int} {st:LL} (hs:soundA ⟨t,p,h⟩ ys=true) (hb:bdAll ys) (hl:a1.length=a0.length∧a2.length=a0.length∧a3.length=a0.length∧a4.length=a0.length∧a5.length=a0.length∧a6.length=a0.length∧a7.length=a0.length∧a8.length=a0.length) (ht:(a0.length:Int)=t) (hT:0≤T∧T<(a0.length:Int))
 (hF:FitS ⟨t,p,h⟩ (Mm.of ⟨t,p,h⟩ ys) st (PV a0 a1 a2 a3 a4 a5 a6 a7 a8 T)) (hn:∀k,0≤k∧k≤8→(pkk st k).length≤4∧lenB (pkGet k a0 a1 a2 a3 a4 a5 a6 a7 a8) a0.length=true) (u:Nat→Option Addr) (n:Nat→Nat):
 r17_Fits t p h ys (a0.set T.toNat (slE (u 0) (n 0) (gL st 0))) (a1.set T.toNat (slE (u 1) (n 1) (gL st 1))) (a2.set T.toNat (slE (u 2) (n 2) (gL st 2))) (a3.set T.toNat (slE (u 3) (n 3) (gL st 3))) (a4.set T.toNat (slE (u 4) (n 4) (gL st 4))) (a5.set T.toNat (slE (u 5) (n 5) (gL st 5))) (a6.set T.toNat (slE (u 6) (n 6) (gL st 6))) (a7.set T.toNat (slE (u 7) (n 7) (gL st 7))) (a8.set T.toNat (slE (u 8) (n 8) (gL st 8)))=true:=by
 have hok:Cf.ok ⟨t,p,h⟩=true:=(sound_good hs hb).ok
 have h2:=Cf.ok_iff.1 hok
 dsimp only at h2
 have hT':T.toNat<a0.length:=by omega
 unfold r17_Fits
 have hc:(!soundA ⟨t,p,h⟩ ys||((a0.set T.toNat (slE (u 0) (n 0) (gL st 0))).length:Int) !=t)=false:=by
  rw [hs,mY,ht];simp
 rw [hc,cond_false,mY]
 have hg:∀k,0≤k∧k≤8→∃(i:Nat),pkGet k (a0.set T.toNat (slE (u 0) (n 0) (gL st 0))) (a1.set T.toNat (slE (u 1) (n 1) (gL st 1))) (a2.set T.toNat (slE (u 2) (n 2) (gL st 2))) (a3.set T.toNat (slE (u 3) (n 3) (gL st 3))) (a4.set T.toNat (slE (u 4) (n 4) (gL st 4))) (a5.set T.toNat (slE (u 5) (n 5) (gL st 5))) (a6.set T.toNat (slE (u 6) (n 6) (gL st 6))) (a7.set T.toNat (slE (u 7) (n 7) (gL st 7))) (a8.set T.toNat (slE (u 8) (n 8) (gL st 8)))=(pkGet k a0 a1 a2 a3 a4 a5 a6 a7 a8).set T.toNat (slE (u i) (n i) (pkk st k)):= λk hk=>by
  rcases (by omega:k=0∨k=1∨k=2∨k=3∨k=4∨k=5∨k=6∨k=7∨k=8) with rfl|rfl|rfl|rfl|rfl|rfl|rfl|rfl|rfl
  ·exact ⟨0,rfl⟩
  ·exact ⟨1,rfl⟩
  ·exact ⟨2,rfl⟩
  ·exact ⟨3,rfl⟩
  ·exact ⟨4,rfl⟩
  ·exact ⟨5,rfl⟩
  ·exact ⟨6,rfl⟩
  ·exact ⟨7,rfl⟩
  ·exact ⟨8,rfl⟩
 refine (fit_iff (c:=⟨t,p,h⟩) (xs:=ys) hok (C:= λk=>pkGet k (a0.set T.toNat (slE (u 0) (n 0) (gL st 0))) (a1.set T.toNat (slE (u 1) (n 1) (gL st 1))) (a2.set T.toNat (slE (u 2) (n 2) (gL st 2))) (a3.set T.toNat (slE (u 3) (n 3) (gL st 3))) (a4.set T.toNat (slE (u 4) (n 4) (gL st 4))) (a5.set T.toNat (slE (u 5) (n 5) (gL st 5))) (a6.set T.toNat (slE (u 6) (n 6) (gL st 6))) (a7.set T.toNat (slE (u 7) (n 7) (gL st 7))) (a8.set T.toNat (slE (u 8) (n 8) (gL st 8)))) (by omega)).2 λk hk=>?_
 obtain ⟨i,hi⟩:=hg k hk
 have hlen:=pk_len hl hk
 rw [hi]
 refine ⟨lenB_set hlen.symm (hn k hk).2 (by rw [slR_E];exact (hn k hk).1),?_⟩
 have hp:=oth_perm (c:=(pkGet k a0 a1 a2 a3 a4 a5 a6 a7 a8).set T.toNat (slE (u i) (n i) (pkk st k))) hT'
 rw [set_getD (by rw [hlen];exact hT'),slR_E,othL_set] at hp
 exact (hF k hk).perm hp.symm
theorem PP {t p h:Int} {xs a0 a1 a2 a3 a4 a5 a6 a7 a8:LI} {T k g b:Int} (hf:l18_fit t p h xs a0 a1 a2 a3 a4 a5 a6 a7 a8 T k g b=true) (hs:slO a0.length a0∧slO a0.length a1∧slO a0.length a2∧slO a0.length a3∧slO a0.length a4∧slO a0.length a5∧slO a0.length a6∧slO a0.length a7∧slO a0.length a8) (hl:a1.length=a0.length∧a2.length=a0.length∧a3.length=a0.length∧a4.length=a0.length∧a5.length=a0.length∧a6.length=a0.length∧a7.length=a0.length∧a8.length=a0.length) (hb:bdAll xs):(a0.length:Int)=t∧∀k,0≤k∧k≤8→lenB (pkGet k a0 a1 a2 a3 a4 a5 a6 a7 a8) a0.length=true:=by
 obtain ⟨⟨h1,_⟩,h2,_,h4,h5⟩:=fit_all hf hs
 have hok:Cf.ok ⟨t,p,h⟩=true:=(sound_good h1 hb).ok
 refine ⟨?_, λk hk=>((fit_iff (c:=⟨t,p,h⟩) (xs:=xs) hok (C:=(λk=>pkGet k a0 a1 a2 a3 a4 a5 a6 a7 a8)) (by omega)).1 h5 k hk).1⟩
 unfold l18_fit at hf
 simp only [iE] at hf
 have hf:=hf.2
 unfold r17_Fits at hf
 cases hc:(!soundA ⟨t,p,h⟩ xs||(a0.length:Int) !=t) with
 |true=>rw [hc] at hf;cases hf
 |false=>
  simp only [jH,bne_eq_false_iff_eq] at hc
  exact hc.2
section
variable {c:Cf} {m:Mm} {s:VS} {L:List Sp} {st:LL} {O:Int→LI} {k g j:Int}
theorem PI (hok:c.ok=true) (hF:FitS c m st O) (hl:∀k',0≤k'∧k'≤8→(pkk st k').length≤4):pkB (gL st 0) (gL st 1) (gL st 2) (gL st 3) (gL st 4) (gL st 5) (gL st 6) (gL st 7) (gL st 8):=by
 have key:∀k',0≤k'∧k'≤8→lB (pkk st k'):= λk' hk=>⟨by have:=hl k' hk;omega, λa ha=>by
  obtain ⟨g,j,I,rfl⟩:=((hF k' hk).2 a).1 (kC.2 (.inl ha))
  rw [←at_ad hok hk I.pg I.sl];exact at_i64 ..⟩
 exact ⟨key 0 (by decide),key 1 (by decide),key 2 (by decide),key 3 (by decide),key 4 (by decide),key 5 (by decide),key 6 (by decide),key 7 (by decide),key 8 (by decide)⟩
theorem Hnd.congr {S0:StT} {st':LL} (H:Hnd c S0 O k s st g j m L) (e:pkk st'=pkk st):Hnd c S0 O k s st' g j m L:=by
 refine ⟨H.h,H.all,H.snd,H.stm,H.id,?_,by rw [e];exact H.len⟩
 have:=H.fit
 unfold FitX at this ⊢
 rw [e];exact this
end
theorem PX {st st':LL} (h:∀i,i<9→gL st' i=gL st i):pkk st'=pkk st:=by
 funext k
 unfold pkk
 rw [h 0 (by decide),h 1 (by decide),h 2 (by decide),h 3 (by decide),h 4 (by decide),h 5 (by decide),h 6 (by decide),h 7 (by decide),h 8 (by decide)]
end
end Go.Proofs.YtinpgnomkmmfdaaGreat
namespace Go.Sl
section
open Go.RowKit
variable {σ:Type}
def OQ (c:Ct σ) (P:Program) (T:List (Nat×Entry σ)) (I:List Nat) (fuel:Nat) (fn:Func) (B:Code) (p0:Addr) (cs:List (Cm σ)) (hs:List (Hd σ)) (r0:Ty c.RK) (Inv:Nat→List (Cm σ)→Prop) (ms:Nat→List (Cm σ)→Nat×Nat×Nat):List (Hd σ)→Nat→Prop
 |[],_=>True
 |h::r,j=>(AllC h.kd λx=>Inv j x→∀ad,∃W:Prop,(∀β γ,c.lhsW p0 cs hs (λr=>r=r0) (λj' x'=>Inv j' x'∧lx (ms j' x') (ms j x)) (run P T (h.stp I) fuel B fn.results.toList fn.ntmps h.tds (h.L ad x) (h.K ad x)) β γ=
   c.rhsW p0 cs hs (run P T (h.stp I) fuel B fn.results.toList fn.ntmps h.tds (h.L ad x) (h.K ad x)) W β γ)∧W)∧OQ c P T I fuel fn B p0 cs hs r0 Inv ms r (j+1)
theorem O0 {c:Ct σ} {P:Program} {T:List (Nat×Entry σ)} {I:List Nat} {fuel:Nat} {fn:Func} {B:Code} {p0:Addr} {cs:List (Cm σ)} {hs:List (Hd σ)} {r0:Ty c.RK} {Inv:Nat→List (Cm σ)→Prop} {ms:Nat→List (Cm σ)→Nat×Nat×Nat}:∀{l:List (Hd σ)} {m:Nat} {i:Nat} {h:Hd σ},OQ c P T I fuel fn B p0 cs hs r0 Inv ms l m→l[i]? =some h→
 AllC h.kd λx=>Inv (m+i) x→∀ad,∃W:Prop,(∀β γ,c.lhsW p0 cs hs (λr=>r=r0) (λj' x'=>Inv j' x'∧lx (ms j' x') (ms (m+i) x)) (run P T (h.stp I) fuel B fn.results.toList fn.ntmps h.tds (h.L ad x) (h.K ad x)) β γ=
  c.rhsW p0 cs hs (run P T (h.stp I) fuel B fn.results.toList fn.ntmps h.tds (h.L ad x) (h.K ad x)) W β γ)∧W
 |[],_,_,_,_,h=>by simp at h
 |h0::r,m,0,h,hs,hg=>by simp at hg;subst hg;exact hs.1
 |h0::r,m,i+1,h,hs,hg=>by
  have:=O0 hs.2 (i:=i) (by simpa using hg)
  rw [show m+1+i=m+(i+1) by omega] at this
  exact this
variable (D:Addr→σ→Asn)
theorem PQ {c:Ct σ} {P:Program} {T:List (Nat×Entry σ)} (hT:TableOk D P T) {I:List Nat} {f:FuncId} {fn:Func} {B:Code} (hfn:P.funcs[f]? =some fn) (hmix:P.follows .mixedOrders=true) (hB:fn.body=some B)
 (ha:isArgs c.ash=true) (hl:kH c.full.length fn.ntmps=true) {F:Cur c.AK (Ty c.RK)} {pre:Cur c.AK (List Prop)} (fuel:Nat)
 (H:∀p0,AllC c.AK λcs=>bds c.full cs→(∀p∈appC c.AK pre cs,p)→∃(hs:List (Hd σ)) (Inv:Nat→List (Cm σ)→Prop) (ms:Nat→List (Cm σ)→Nat×Nat×Nat),hcode B hs=hcode' B hs∧
   (∃W:Prop,(∀ad β γ,c.lhsW p0 cs hs (λr=>r=appC c.AK F cs) Inv (c.tree P T I fuel fn B p0 cs ad) β γ=c.rhsW p0 cs hs (c.tree P T I fuel fn B p0 cs ad) W β γ)∧W)∧
   OQ c P T I fuel fn B p0 cs hs (appC c.AK F cs) Inv ms hs 0):EntryOk D P f (entC c F pre):=by
 refine ent_of D (mk:=[]) hT (I:=I) hfn hmix hB ha hl fuel λp0=>?_
 have key:∀{ks:List (Kd σ)} {p q:List (Cm σ)→Prop},(∀cs,p cs→q cs)→AllC ks p→AllC ks q:=by
  intro ks
  induction ks with
  |nil=>exact λh hp=>h [] hp
  |cons k ks ih=>exact λh hp a=>ih (λcs=>h _) (hp a)
 refine key (λcs hH hb hp ad E G=>?_) (H p0)
 obtain ⟨hs,Inv,ms,hc,⟨W,hW,hW'⟩,hst⟩:=hH hb hp
 have loop:∀x:Nat×Nat×Nat,∀j h,hs[j]? =some h→∀s,fitsC h.kd s=true→Inv j s→ms j s=x→∀ad,SW D P f (Post D E G (c.outC (appC c.AK F cs)) (c.nwC p0 cs (appC c.AK F cs)) (c.mksC (appC c.AK F cs))) B fn.ntmps E G h.tds (h.L ad s) (h.K ad s):=by
  refine lx_rec λx ih j h hg s hf hI hm ad=>?_
  have hq:=O0 hst hg
  rw [lV] at hq
  obtain ⟨W1,hW1,hW2⟩:=hq.at s hf hI ad
  exact SW.go D hT (I:=h.stp I) hfn hmix fuel rfl (wp_tree D hW1 hW2 hc λj' h' hg' s' hf' hI' ad'=>ih _ (by rw [←hm];exact hI'.2) j' h' hg' s' hf' hI'.1 rfl ad')
 exact wp_tree D (hW ad) hW' hc λj h hg s hf hI ad=>loop _ j h hg s hf hI rfl ad
end
end Go.Sl
namespace Go.Proofs.YtinpgnomkmmfdaaGreat
section
open Go.Sl
abbrev MO (a0 a1 a2 a3 a4 a5 a6 a7 a8:LI):Prop:=slO a0.length a0∧slO a0.length a1∧slO a0.length a2∧slO a0.length a3∧slO a0.length a4∧slO a0.length a5∧slO a0.length a6∧slO a0.length a7∧slO a0.length a8
abbrev MP (a0 a1 a2 a3 a4 a5 a6 a7 a8:LI):Prop:=a1.length=a0.length∧a2.length=a0.length∧a3.length=a0.length∧a4.length=a0.length∧a5.length=a0.length∧a6.length=a0.length∧a7.length=a0.length∧a8.length=a0.length
theorem OC (s:VS):bdAll s.vals:=by
 intro v hv
 unfold VS.vals at hv
 cases ha:s.all with
 |false=>rw [ha] at hv;cases hv
 |true=>
  rw [ha,cond_true,kZ] at hv
  obtain ⟨i,_,rfl⟩:=hv
  unfold VS.cur
  split
  ·exact nv_bd _
  ·split
   ·exact nv_bd _
   ·exact ⟨by decide,by decide⟩
theorem st_len (c:Cf) (xs:LI):(stateA c xs).1.length=(stateA c xs).2.1.length:=by
 unfold stateA
 cases soundA c xs<;>simp
theorem PD (xa xz:LI) (u0 u1 u2 u3 u4 u5 u6 u7:Int):Me xa xz u0 u1 u2 u3 u4 u5 u6 u7 xa xz u0 u1 u2 u3 u4 u5 u6 u7=true:=by simp [Me]
theorem PL {c:Cf} {xs:LI} (h:soundA c xs=true):(stateA c xs).2.2.2.2.2.2.2.2.2.2=true:=by unfold stateA;rw [h];rfl
theorem PY {x:StT} (h:x.2.2.2.2.2.2.2.2.2.2=true):(x.1,x.2.1,x.2.2.1,x.2.2.2.1,x.2.2.2.2.1,x.2.2.2.2.2.1,x.2.2.2.2.2.2.1,x.2.2.2.2.2.2.2.1,x.2.2.2.2.2.2.2.2.1,x.2.2.2.2.2.2.2.2.2.1,true)=x:=by rw [←h]
end
section
open Go Go.Sl
def N8 (t p h:Int) (xs a0 a1 a2 a3 a4 a5 a6 a7 a8:LI) (T:Int) (sv:VS) (st:LL):Prop:=Flu ⟨t,p,h⟩ (stateA ⟨t,p,h⟩ xs) (PV a0 a1 a2 a3 a4 a5 a6 a7 a8 T) sv st∧∀k',0≤k'∧k'≤8→(pkk st k').length≤4
theorem PE {t p h:Int} {xs a0 a1 a2 a3 a4 a5 a6 a7 a8:LI} {T k g b:Int} (hf:l18_fit t p h xs a0 a1 a2 a3 a4 a5 a6 a7 a8 T k g b=true) (hs:slO a0.length a0∧slO a0.length a1∧slO a0.length a2∧slO a0.length a3∧slO a0.length a4∧slO a0.length a5∧slO a0.length a6∧slO a0.length a7∧slO a0.length a8) (hl:a1.length=a0.length∧a2.length=a0.length∧a3.length=a0.length∧a4.length=a0.length∧a5.length=a0.length∧a6.length=a0.length∧a7.length=a0.length∧a8.length=a0.length) (hb:bdAll xs):N8 t p h xs a0 a1 a2 a3 a4 a5 a6 a7 a8 T (VS.whole xs) [slR (a0.getD T.toNat 0),slR (a1.getD T.toNat 0),slR (a2.getD T.toNat 0),slR (a3.getD T.toNat 0),slR (a4.getD T.toNat 0),slR (a5.getD T.toNat 0),slR (a6.getD T.toNat 0),slR (a7.getD T.toNat 0),slR (a8.getD T.toNat 0)]:=by
 obtain ⟨hF,hn⟩:=Qa hf hs hl hb
 have h1:=(fit_all hf hs).1.1
 obtain ⟨L,S⟩:=sound_xs h1 hb
 have hx:=((sound_iff hb).1 h1).1
 exact ⟨⟨Mm.of _ xs,L,at_whole hx,rfl,S,(state_xs h1).symm,hF⟩,hn⟩
theorem NZ {t p h:Int} {xs a0 a1 a2 a3 a4 a5 a6 a7 a8:LI} {T k g b:Int} (hf:l18_fit t p h xs a0 a1 a2 a3 a4 a5 a6 a7 a8 T k g b=true) (hs:slO a0.length a0∧slO a0.length a1∧slO a0.length a2∧slO a0.length a3∧slO a0.length a4∧slO a0.length a5∧slO a0.length a6∧slO a0.length a7∧slO a0.length a8) (hl:a1.length=a0.length∧a2.length=a0.length∧a3.length=a0.length∧a4.length=a0.length∧a5.length=a0.length∧a6.length=a0.length∧a7.length=a0.length∧a8.length=a0.length) (hb:bdAll xs) {sv:VS} {y0 y1 y2 y3 y4 y5 y6 y7 y8:LI} (F:N8 t p h xs a0 a1 a2 a3 a4 a5 a6 a7 a8 T sv [y0,y1,y2,y3,y4,y5,y6,y7,y8]):soundA ⟨t,p,h⟩ sv.vals=true∧stateA ⟨t,p,h⟩ sv.vals=stateA ⟨t,p,h⟩ xs∧pkB y0 y1 y2 y3 y4 y5 y6 y7 y8∧∀(u:Nat→Option Addr) (n:Nat→Nat),r17_Fits t p h sv.vals (a0.set T.toNat (slE (u 0) (n 0) y0)) (a1.set T.toNat (slE (u 1) (n 1) y1)) (a2.set T.toNat (slE (u 2) (n 2) y2)) (a3.set T.toNat (slE (u 3) (n 3) y3)) (a4.set T.toNat (slE (u 4) (n 4) y4)) (a5.set T.toNat (slE (u 5) (n 5) y5)) (a6.set T.toNat (slE (u 6) (n 6) y6)) (a7.set T.toNat (slE (u 7) (n 7) y7)) (a8.set T.toNat (slE (u 8) (n 8) y8))=true:=by
 obtain ⟨⟨m,L,f2,f3,S,e,f4⟩,hn⟩:=F
 obtain ⟨_,hT,_,_,_⟩:=fit_all hf hs
 obtain ⟨ht,hlb⟩:=PP hf hs hl hb
 have g1:=sound_of f2 f3 S
 refine ⟨g1,by rw [state_of f2 f3 S,e],PI f2.ok f4 hn, λu n=>?_⟩
 exact PH (st:=[y0,y1,y2,y3,y4,y5,y6,y7,y8]) g1 (good_vals f2 f3).bd hl ht hT (f4.congr (meq_vals f2 f3)) (λk' hk'=>⟨hn k' hk',hlb k' hk'⟩) u n
theorem PM {t p h:Int} {xs a0 a1 a2 a3 a4 a5 a6 a7 a8:LI} {T k cn:Int} {s0 sv:VS} {y0 y1 y2 y3 y4 y5 y6 y7 y8 z0 z1 z2 z3 z4 z5 z6 z7 z8:LI} (hk:0≤k∧k≤8) (F:N8 t p h xs a0 a1 a2 a3 a4 a5 a6 a7 a8 T s0 [y0,y1,y2,y3,y4,y5,y6,y7,y8]) (hne:pkk [y0,y1,y2,y3,y4,y5,y6,y7,y8] k≠[]) (he:(sv,cn,z0,z1,z2,z3,z4,z5,z6,z7,z8)=small_Flush s0 t p h y0 y1 y2 y3 y4 y5 y6 y7 y8 k):
 1≤cn∧cn≤4∧((pkk [z0,z1,z2,z3,z4,z5,z6,z7,z8] k).length:Int)=(pkk [y0,y1,y2,y3,y4,y5,y6,y7,y8] k).length-cn∧N8 t p h xs a0 a1 a2 a3 a4 a5 a6 a7 a8 T sv [z0,z1,z2,z3,z4,z5,z6,z7,z8]:=by
 obtain ⟨f1,f2,f3⟩:=flush_ok hk F.1 hne (F.2 k hk)
 have hn:=F.2 k hk
 have hp:=(filter_parts (onP t p h (pgA t p h (lastI (pkk [y0,y1,y2,y3,y4,y5,y6,y7,y8] k)).1)) (pkk [y0,y1,y2,y3,y4,y5,y6,y7,y8] k)).length_eq
 rw [jM] at hp
 unfold small_Flush flushR at he
 rw [show (lastI (pkGet k y0 y1 y2 y3 y4 y5 y6 y7 y8)).2=true from f1,cond_true] at he
 simp only [iV] at he
 obtain ⟨rfl,rfl,w0,w1,w2,w3,w4,w5,w6,w7,w8⟩:=he
 have ez:pkk [z0,z1,z2,z3,z4,z5,z6,z7,z8]=pkk (pkS [y0,y1,y2,y3,y4,y5,y6,y7,y8] k ((pkk [y0,y1,y2,y3,y4,y5,y6,y7,y8] k).filter λa=>!onP t p h (pgA t p h (lastI (pkk [y0,y1,y2,y3,y4,y5,y6,y7,y8] k)).1) a)):=PX λi hi=>by
  match i,hi with
  |0,_=>exact w0
  |1,_=>exact w1
  |2,_=>exact w2
  |3,_=>exact w3
  |4,_=>exact w4
  |5,_=>exact w5
  |6,_=>exact w6
  |7,_=>exact w7
  |8,_=>exact w8
 have ek:pkk [z0,z1,z2,z3,z4,z5,z6,z7,z8] k=(pkk [y0,y1,y2,y3,y4,y5,y6,y7,y8] k).filter λa=>!onP t p h (pgA t p h (lastI (pkk [y0,y1,y2,y3,y4,y5,y6,y7,y8] k)).1) a:=by rw [ez,pkk_same hk]
 dsimp only at f2
 refine ⟨?_,?_,?_,?_, λk' hk'=>?_⟩
 ·show (1:Int)≤(((pkk [y0,y1,y2,y3,y4,y5,y6,y7,y8] k).filter (onP t p h (pgA t p h (lastI (pkk [y0,y1,y2,y3,y4,y5,y6,y7,y8] k)).1))).length:Int)
  omega
 ·show (((pkk [y0,y1,y2,y3,y4,y5,y6,y7,y8] k).filter (onP t p h (pgA t p h (lastI (pkk [y0,y1,y2,y3,y4,y5,y6,y7,y8] k)).1))).length:Int)≤4
  omega
 ·rw [ek]
  show (_:Int)=((pkk [y0,y1,y2,y3,y4,y5,y6,y7,y8] k).length:Int)-(((pkk [y0,y1,y2,y3,y4,y5,y6,y7,y8] k).filter (onP t p h (pgA t p h (lastI (pkk [y0,y1,y2,y3,y4,y5,y6,y7,y8] k)).1))).length:Int)
  omega
 ·obtain ⟨m,L,g1,g2,g3,g4,g5⟩:=f3
  refine ⟨m,L,g1,g2,g3,g4,?_⟩
  unfold FitS at g5 ⊢
  rw [ez];exact g5
 ·by_cases e:k'=k
  ·subst e;rw [ek];exact mE (mB _ _) hn
  ·rw [ez,pkk_other hk hk' e];exact F.2 k' hk'
theorem PR {t p h k:Int} {sv:VS} {y0 y1 y2 y3 y4 y5 y6 y7 y8:LI} (he:pkk [y0,y1,y2,y3,y4,y5,y6,y7,y8] k=[]):small_Flush sv t p h y0 y1 y2 y3 y4 y5 y6 y7 y8 k=(sv,0,y0,y1,y2,y3,y4,y5,y6,y7,y8):=by
 have he:pkGet k y0 y1 y2 y3 y4 y5 y6 y7 y8=[]:=he
 unfold small_Flush flushR
 rw [he];rfl
end
section
open Go.Sl
def SmallFlushes (t p h:Int) (xs a0 a1 a2 a3 a4 a5 a6 a7 a8:LI) (T k g b:Int):Bool:=true
abbrev Nz:Ct Sg:=⟨none,false,[.agg [.i .i64, .i .i64, .i .i64], .ro [some .u32], .agg [.ro [some .i16,some .i16,some .i16,some .i16,some .i16,some .i16,some .i16,some .i16,some .i16], .i .i64, .i .i64, .i .i64, .i .i64]], .b⟩
def OD:Entry Sg:=entC Nz SmallFlushes (λt p h xs a0 a1 a2 a3 a4 a5 a6 a7 a8 T k g b=>[bdAll xs,MO a0 a1 a2 a3 a4 a5 a6 a7 a8,MP a0 a1 a2 a3 a4 a5 a6 a7 a8])
def N7 (t p h:Int) (xs a0 a1 a2 a3 a4 a5 a6 a7 a8:LI) (T k g b:Int) (Q0:Int→Nat→LI→LI→Int→Int→Int→Int→Int→Int→Int→Int→VS→LI→LI→LI→LI→LI→LI→LI→LI→LI→Prop) (Q1:Int→Nat→LI→LI→Int→Int→Int→Int→Int→Int→Int→Int→VS→LI→LI→LI→LI→LI→LI→LI→LI→LI→Int→Int→Prop) (Q2:Int→Nat→LI→LI→Int→Int→Int→Int→Int→Int→Int→Int→VS→LI→LI→LI→LI→LI→LI→LI→LI→LI→Int→Int→Int→LI→LI→LI→LI→LI→LI→LI→LI→LI→Prop) (Q3:Int→Nat→LI→LI→Int→Int→Int→Int→Int→Int→Int→Int→VS→LI→LI→LI→LI→LI→LI→LI→LI→LI→Int→Prop) (Q4:Int→Nat→LI→LI→Int→Int→Int→Int→Int→Int→Int→Int→VS→LI→LI→LI→LI→LI→LI→LI→LI→LI→Int→Nat→LI→LI→Int→Int→Int→Int→Int→Int→Int→Int→Bool→Prop) (Q5:Int→Nat→LI→LI→Int→Int→Int→Int→Int→Int→Int→Int→LI→LI→LI→LI→LI→LI→LI→LI→LI→Int→Nat→LI→LI→Int→Int→Int→Int→Int→Int→Int→Int→Bool→Int→LI→LI→LI→LI→LI→LI→LI→LI→LI→Prop) (R_:Bool→Prop):Prop:=(∀r2:Bool,r2=(l18_fit t p h xs a0 a1 a2 a3 a4 a5 a6 a7 a8 T k g b)→(aw_ (bdAll xs) (bw_ (!r2||decide (k<0)||decide (k>8)) (∀r5:Bool,r5=(true)→(R_ (r5))) (∀r5:LI×LI×Int×Int×Int×Int×Int×Int×Int×Int×Bool,r5=(MI t p h xs)→(aw_ (bdAll xs) (∀r9:VS,r9=(VS.whole xs)→(aw_ (iF xs≤1000000) (aw_ (bdL xs) (aw_ (0≤T∧T<(↑(lenC [kG a0,kG a1,kG a2,kG a3,kG a4,kG a5,kG a6,kG a7,kG a8]):Int)) (Q0 (k) (iF r5.1) r5.1 r5.2.1 r5.2.2.1 r5.2.2.2.1 r5.2.2.2.2.1 r5.2.2.2.2.2.1 r5.2.2.2.2.2.2.1 r5.2.2.2.2.2.2.2.1 r5.2.2.2.2.2.2.2.2.1 r5.2.2.2.2.2.2.2.2.2.1 (r9) (slR (iI a0 (iL T) 0)) (slR (iI a1 (iL T) 0)) (slR (iI a2 (iL T) 0)) (slR (iI a3 (iL T) 0)) (slR (iI a4 (iL T) 0)) (slR (iI a5 (iL T) 0)) (slR (iI a6 (iL T) 0)) (slR (iI a7 (iL T) 0)) (slR (iI a8 (iL T) 0))))))))))))
def LJ (t p h:Int) (xs a0 a1 a2 a3 a4 a5 a6 a7 a8:LI) (T k g b kk:Int) (nw:Nat) (wa wz:LI) (w0 w1 w2 w3 w4 w5 w6 w7:Int) (sv:VS) (y0 y1 y2 y3 y4 y5 y6 y7 y8:LI) (r_:Bool):Prop:=l18_fit t p h xs a0 a1 a2 a3 a4 a5 a6 a7 a8 T k g b=true∧kk=k∧0≤k∧k≤8∧(wa,wz,w0,w1,w2,w3,w4,w5,w6,w7,true)=stateA ⟨t,p,h⟩ xs∧nw=wa.length∧N8 t p h xs a0 a1 a2 a3 a4 a5 a6 a7 a8 T sv [y0,y1,y2,y3,y4,y5,y6,y7,y8]∧r_=true
def LK (t p h:Int) (xs a0 a1 a2 a3 a4 a5 a6 a7 a8:LI) (T k g b kk:Int) (nw:Nat) (wa wz:LI) (w0 w1 w2 w3 w4 w5 w6 w7:Int) (sv:VS) (y0 y1 y2 y3 y4 y5 y6 y7 y8:LI) (al i:Int) (r_:Bool):Prop:=l18_fit t p h xs a0 a1 a2 a3 a4 a5 a6 a7 a8 T k g b=true∧kk=k∧0≤k∧k≤8∧(wa,wz,w0,w1,w2,w3,w4,w5,w6,w7,true)=stateA ⟨t,p,h⟩ xs∧nw=wa.length∧N8 t p h xs a0 a1 a2 a3 a4 a5 a6 a7 a8 T sv [y0,y1,y2,y3,y4,y5,y6,y7,y8]∧al=((pkk [y0,y1,y2,y3,y4,y5,y6,y7,y8] kk).length:Int)∧0≤i∧i+al≤4∧r_=true
def LM (t p h:Int) (xs a0 a1 a2 a3 a4 a5 a6 a7 a8:LI) (T k g b kk:Int) (nw:Nat) (wa wz:LI) (w0 w1 w2 w3 w4 w5 w6 w7:Int) (sv:VS) (y0 y1 y2 y3 y4 y5 y6 y7 y8:LI) (al i cn:Int) (z0 z1 z2 z3 z4 z5 z6 z7 z8:LI) (r_:Bool):Prop:=l18_fit t p h xs a0 a1 a2 a3 a4 a5 a6 a7 a8 T k g b=true∧kk=k∧0≤k∧k≤8∧(wa,wz,w0,w1,w2,w3,w4,w5,w6,w7,true)=stateA ⟨t,p,h⟩ xs∧nw=wa.length∧(∃sv0_,N8 t p h xs a0 a1 a2 a3 a4 a5 a6 a7 a8 T sv0_ [y0,y1,y2,y3,y4,y5,y6,y7,y8]∧pkk [y0,y1,y2,y3,y4,y5,y6,y7,y8] kk≠[]∧(sv,cn,z0,z1,z2,z3,z4,z5,z6,z7,z8)=small_Flush sv0_ t p h y0 y1 y2 y3 y4 y5 y6 y7 y8 kk)∧al=((pkk [y0,y1,y2,y3,y4,y5,y6,y7,y8] kk).length:Int)∧0≤i∧i+al≤4∧r_=true
abbrev N9 (t p h:Int) (r0:LI) (Q4:Int→Nat→LI→LI→Int→Int→Int→Int→Int→Int→Int→Int→VS→LI→LI→LI→LI→LI→LI→LI→LI→LI→Int→Nat→LI→LI→Int→Int→Int→Int→Int→Int→Int→Int→Bool→Prop) (kk:Int) (nw:Nat) (wa wz:LI) (w0 w1 w2 w3 w4 w5 w6 w7:Int) (sv:VS) (y0 y1 y2 y3 y4 y5 y6 y7 y8:LI) (al:Int):Prop:=(∀r2:LI×LI×Int×Int×Int×Int×Int×Int×Int×Int×Bool,r2=(MI t p h r0)→(aw_ (bdAll r0) (Q4 (kk) (nw) (wa) (wz) (w0) (w1) (w2) (w3) (w4) (w5) (w6) (w7) (sv) (y0) (y1) (y2) (y3) (y4) (y5) (y6) (y7) (y8) (al) (iF r2.1) r2.1 r2.2.1 r2.2.2.1 r2.2.2.2.1 r2.2.2.2.2.1 r2.2.2.2.2.2.1 r2.2.2.2.2.2.2.1 r2.2.2.2.2.2.2.2.1 r2.2.2.2.2.2.2.2.2.1 r2.2.2.2.2.2.2.2.2.2.1 r2.2.2.2.2.2.2.2.2.2.2)))
def Nk (ad:Nat→Ad) (t p h:Int) (xs a0 a1 a2 a3 a4 a5 a6 a7 a8:LI) (T k g b kk:Int) (nw:Nat) (wa wz:LI) (w0 w1 w2 w3 w4 w5 w6 w7:Int) (sv:VS) (y0 y1 y2 y3 y4 y5 y6 y7 y8:LI) (al:Int) (Q0:Int→Nat→LI→LI→Int→Int→Int→Int→Int→Int→Int→Int→VS→LI→LI→LI→LI→LI→LI→LI→LI→LI→Prop) (Q1:Int→Nat→LI→LI→Int→Int→Int→Int→Int→Int→Int→Int→VS→LI→LI→LI→LI→LI→LI→LI→LI→LI→Int→Int→Prop) (Q2:Int→Nat→LI→LI→Int→Int→Int→Int→Int→Int→Int→Int→VS→LI→LI→LI→LI→LI→LI→LI→LI→LI→Int→Int→Int→LI→LI→LI→LI→LI→LI→LI→LI→LI→Prop) (Q3:Int→Nat→LI→LI→Int→Int→Int→Int→Int→Int→Int→Int→VS→LI→LI→LI→LI→LI→LI→LI→LI→LI→Int→Prop) (Q4:Int→Nat→LI→LI→Int→Int→Int→Int→Int→Int→Int→Int→VS→LI→LI→LI→LI→LI→LI→LI→LI→LI→Int→Nat→LI→LI→Int→Int→Int→Int→Int→Int→Int→Int→Bool→Prop) (Q5:Int→Nat→LI→LI→Int→Int→Int→Int→Int→Int→Int→Int→LI→LI→LI→LI→LI→LI→LI→LI→LI→Int→Nat→LI→LI→Int→Int→Int→Int→Int→Int→Int→Int→Bool→Int→LI→LI→LI→LI→LI→LI→LI→LI→LI→Prop) (R_:Bool→Prop):Prop:=((∀r0:LI,r0=(VS.vals sv)→((N9 t p h r0 Q4 kk nw wa wz w0 w1 w2 w3 w4 w5 w6 w7 sv y0 y1 y2 y3 y4 y5 y6 y7 y8 al)∧(N9 t p h r0 Q4 kk nw wa wz w0 w1 w2 w3 w4 w5 w6 w7 sv y0 y1 y2 y3 y4 y5 y6 y7 y8 al)))∧(∀r1:LI,r1=(VS.vals sv)→(N9 t p h r1 Q4 kk nw wa wz w0 w1 w2 w3 w4 w5 w6 w7 sv y0 y1 y2 y3 y4 y5 y6 y7 y8 al)))
def LU (t p h:Int) (xs a0 a1 a2 a3 a4 a5 a6 a7 a8:LI) (T k g b kk:Int) (nw:Nat) (wa wz:LI) (w0 w1 w2 w3 w4 w5 w6 w7:Int) (sv:VS) (y0 y1 y2 y3 y4 y5 y6 y7 y8:LI) (al:Int) (r_:Bool):Prop:=l18_fit t p h xs a0 a1 a2 a3 a4 a5 a6 a7 a8 T k g b=true∧kk=k∧0≤k∧k≤8∧(wa,wz,w0,w1,w2,w3,w4,w5,w6,w7,true)=stateA ⟨t,p,h⟩ xs∧nw=wa.length∧N8 t p h xs a0 a1 a2 a3 a4 a5 a6 a7 a8 T sv [y0,y1,y2,y3,y4,y5,y6,y7,y8]∧al=0∧pkk [y0,y1,y2,y3,y4,y5,y6,y7,y8] kk=[]∧r_=true
def Nl (ad:Nat→Ad) (t p h:Int) (xs a0 a1 a2 a3 a4 a5 a6 a7 a8:LI) (T k g b kk:Int) (nw:Nat) (wa wz:LI) (w0 w1 w2 w3 w4 w5 w6 w7:Int) (sv:VS) (y0 y1 y2 y3 y4 y5 y6 y7 y8:LI) (al:Int) (nu:Nat) (ua uz:LI) (u0 u1 u2 u3 u4 u5 u6 u7:Int) (is:Bool) (Q0:Int→Nat→LI→LI→Int→Int→Int→Int→Int→Int→Int→Int→VS→LI→LI→LI→LI→LI→LI→LI→LI→LI→Prop) (Q1:Int→Nat→LI→LI→Int→Int→Int→Int→Int→Int→Int→Int→VS→LI→LI→LI→LI→LI→LI→LI→LI→LI→Int→Int→Prop) (Q2:Int→Nat→LI→LI→Int→Int→Int→Int→Int→Int→Int→Int→VS→LI→LI→LI→LI→LI→LI→LI→LI→LI→Int→Int→Int→LI→LI→LI→LI→LI→LI→LI→LI→LI→Prop) (Q3:Int→Nat→LI→LI→Int→Int→Int→Int→Int→Int→Int→Int→VS→LI→LI→LI→LI→LI→LI→LI→LI→LI→Int→Prop) (Q4:Int→Nat→LI→LI→Int→Int→Int→Int→Int→Int→Int→Int→VS→LI→LI→LI→LI→LI→LI→LI→LI→LI→Int→Nat→LI→LI→Int→Int→Int→Int→Int→Int→Int→Int→Bool→Prop) (Q5:Int→Nat→LI→LI→Int→Int→Int→Int→Int→Int→Int→Int→LI→LI→LI→LI→LI→LI→LI→LI→LI→Int→Nat→LI→LI→Int→Int→Int→Int→Int→Int→Int→Int→Bool→Int→LI→LI→LI→LI→LI→LI→LI→LI→LI→Prop) (R_:Bool→Prop):Prop:=(∀r0:VS×Int×LI×LI×LI×LI×LI×LI×LI×LI×LI,r0=(small_Flush sv t p h y0 y1 y2 y3 y4 y5 y6 y7 y8 kk)→(aw_ (p≤1024) (aw_ (pkB y0 y1 y2 y3 y4 y5 y6 y7 y8) (Q5 (kk) (nw) (wa) (wz) (w0) (w1) (w2) (w3) (w4) (w5) (w6) (w7) (y0) (y1) (y2) (y3) (y4) (y5) (y6) (y7) (y8) (al) (nu) (ua) (uz) (u0) (u1) (u2) (u3) (u4) (u5) (u6) (u7) (is) r0.2.1 r0.2.2.1 r0.2.2.2.1 r0.2.2.2.2.1 r0.2.2.2.2.2.1 r0.2.2.2.2.2.2.1 r0.2.2.2.2.2.2.2.1 r0.2.2.2.2.2.2.2.2.1 r0.2.2.2.2.2.2.2.2.2.1 r0.2.2.2.2.2.2.2.2.2.2))))
def LV (t p h:Int) (xs a0 a1 a2 a3 a4 a5 a6 a7 a8:LI) (T k g b kk:Int) (nw:Nat) (wa wz:LI) (w0 w1 w2 w3 w4 w5 w6 w7:Int) (sv:VS) (y0 y1 y2 y3 y4 y5 y6 y7 y8:LI) (al:Int) (nu:Nat) (ua uz:LI) (u0 u1 u2 u3 u4 u5 u6 u7:Int) (is r_:Bool):Prop:=l18_fit t p h xs a0 a1 a2 a3 a4 a5 a6 a7 a8 T k g b=true∧kk=k∧0≤k∧k≤8∧(wa,wz,w0,w1,w2,w3,w4,w5,w6,w7,true)=stateA ⟨t,p,h⟩ xs∧nw=wa.length∧N8 t p h xs a0 a1 a2 a3 a4 a5 a6 a7 a8 T sv [y0,y1,y2,y3,y4,y5,y6,y7,y8]∧al=0∧pkk [y0,y1,y2,y3,y4,y5,y6,y7,y8] kk=[]∧(ua,uz,u0,u1,u2,u3,u4,u5,u6,u7,is)=stateA ⟨t,p,h⟩ sv.vals∧r_=true
def LP (t p h:Int) (xs a0 a1 a2 a3 a4 a5 a6 a7 a8:LI) (T k g b kk:Int) (nw:Nat) (wa wz:LI) (w0 w1 w2 w3 w4 w5 w6 w7:Int) (y0 y1 y2 y3 y4 y5 y6 y7 y8:LI) (al:Int) (nu:Nat) (ua uz:LI) (u0 u1 u2 u3 u4 u5 u6 u7:Int) (is:Bool) (cn:Int) (z0 z1 z2 z3 z4 z5 z6 z7 z8:LI) (r_:Bool):Prop:=kk=k∧0≤k∧k≤8∧al=0∧pkk [y0,y1,y2,y3,y4,y5,y6,y7,y8] kk=[]∧cn=0∧(z0,z1,z2,z3,z4,z5,z6,z7,z8)=(y0,y1,y2,y3,y4,y5,y6,y7,y8)∧(ua,uz,u0,u1,u2,u3,u4,u5,u6,u7,is)=(wa,wz,w0,w1,w2,w3,w4,w5,w6,w7,true)∧wa.length=wz.length∧r_=true
abbrev MC (t p h:Int) (xs a0 a1 a2 a3 a4 a5 a6 a7 a8:LI) (T k g b:Int) (r_:Bool) (m_:Nat×Nat×Nat) (kk:Int) (nw:Nat) (wa wz:LI) (w0 w1 w2 w3 w4 w5 w6 w7:Int) (sv:VS) (y0 y1 y2 y3 y4 y5 y6 y7 y8:LI):Prop:=LJ t p h xs a0 a1 a2 a3 a4 a5 a6 a7 a8 T k g b kk nw wa wz w0 w1 w2 w3 w4 w5 w6 w7 sv y0 y1 y2 y3 y4 y5 y6 y7 y8 r_∧lx (9000,0,0) m_
abbrev LZ (t p h:Int) (xs a0 a1 a2 a3 a4 a5 a6 a7 a8:LI) (T k g b:Int) (r_:Bool) (m_:Nat×Nat×Nat) (kk:Int) (nw:Nat) (wa wz:LI) (w0 w1 w2 w3 w4 w5 w6 w7:Int) (sv:VS) (y0 y1 y2 y3 y4 y5 y6 y7 y8:LI) (al i:Int):Prop:=LK t p h xs a0 a1 a2 a3 a4 a5 a6 a7 a8 T k g b kk nw wa wz w0 w1 w2 w3 w4 w5 w6 w7 sv y0 y1 y2 y3 y4 y5 y6 y7 y8 al i r_∧lx (20,(4-i).toNat,2) m_
abbrev Mc (t p h:Int) (xs a0 a1 a2 a3 a4 a5 a6 a7 a8:LI) (T k g b:Int) (r_:Bool) (m_:Nat×Nat×Nat) (kk:Int) (nw:Nat) (wa wz:LI) (w0 w1 w2 w3 w4 w5 w6 w7:Int) (sv:VS) (y0 y1 y2 y3 y4 y5 y6 y7 y8:LI) (al i cn:Int) (z0 z1 z2 z3 z4 z5 z6 z7 z8:LI):Prop:=LM t p h xs a0 a1 a2 a3 a4 a5 a6 a7 a8 T k g b kk nw wa wz w0 w1 w2 w3 w4 w5 w6 w7 sv y0 y1 y2 y3 y4 y5 y6 y7 y8 al i cn z0 z1 z2 z3 z4 z5 z6 z7 z8 r_∧lx (20,(4-i).toNat,1) m_
abbrev Md (t p h:Int) (xs a0 a1 a2 a3 a4 a5 a6 a7 a8:LI) (T k g b:Int) (r_:Bool) (m_:Nat×Nat×Nat) (kk:Int) (nw:Nat) (wa wz:LI) (w0 w1 w2 w3 w4 w5 w6 w7:Int) (sv:VS) (y0 y1 y2 y3 y4 y5 y6 y7 y8:LI) (al:Int):Prop:=LU t p h xs a0 a1 a2 a3 a4 a5 a6 a7 a8 T k g b kk nw wa wz w0 w1 w2 w3 w4 w5 w6 w7 sv y0 y1 y2 y3 y4 y5 y6 y7 y8 al r_∧lx (8,0,0) m_
abbrev MF (t p h:Int) (xs a0 a1 a2 a3 a4 a5 a6 a7 a8:LI) (T k g b:Int) (r_:Bool) (m_:Nat×Nat×Nat) (kk:Int) (nw:Nat) (wa wz:LI) (w0 w1 w2 w3 w4 w5 w6 w7:Int) (sv:VS) (y0 y1 y2 y3 y4 y5 y6 y7 y8:LI) (al:Int) (nu:Nat) (ua uz:LI) (u0 u1 u2 u3 u4 u5 u6 u7:Int) (is:Bool):Prop:=LV t p h xs a0 a1 a2 a3 a4 a5 a6 a7 a8 T k g b kk nw wa wz w0 w1 w2 w3 w4 w5 w6 w7 sv y0 y1 y2 y3 y4 y5 y6 y7 y8 al nu ua uz u0 u1 u2 u3 u4 u5 u6 u7 is r_∧lx (7,0,0) m_
abbrev MG (t p h:Int) (xs a0 a1 a2 a3 a4 a5 a6 a7 a8:LI) (T k g b:Int) (r_:Bool) (m_:Nat×Nat×Nat) (kk:Int) (nw:Nat) (wa wz:LI) (w0 w1 w2 w3 w4 w5 w6 w7:Int) (y0 y1 y2 y3 y4 y5 y6 y7 y8:LI) (al:Int) (nu:Nat) (ua uz:LI) (u0 u1 u2 u3 u4 u5 u6 u7:Int) (is:Bool) (cn:Int) (z0 z1 z2 z3 z4 z5 z6 z7 z8:LI):Prop:=LP t p h xs a0 a1 a2 a3 a4 a5 a6 a7 a8 T k g b kk nw wa wz w0 w1 w2 w3 w4 w5 w6 w7 y0 y1 y2 y3 y4 y5 y6 y7 y8 al nu ua uz u0 u1 u2 u3 u4 u5 u6 u7 is cn z0 z1 z2 z3 z4 z5 z6 z7 z8 r_∧lx (6,0,0) m_
abbrev MQ (p0:Addr) (t p h:Int) (xs a0 a1 a2 a3 a4 a5 a6 a7 a8:LI) (T k g b:Int):Hd Sg:=⟨some 0,[0,1,1,1,1,1],[.code [1,1,1,1,1,1]],[3,1,5,7,9,10],[.box 23 [.ic .i64 (t), .ic .i64 (p), .ic .i64 (h)], .roc [.ints .u32 (xs)], .box 27 [.roc [.sls (a0), .sls (a1), .sls (a2), .sls (a3), .sls (a4), .sls (a5), .sls (a6), .sls (a7), .sls (a8)], .ic .i64 (T), .i .i64, .ic .i64 (g), .ic .i64 (b)], .box 33 [.own 51 [some .i64,some .i64], .i .i64, .i .i64, .i .i64, .i .i64, .i .i64, .i .i64, .i .i64, .i .i64], .obj wView, .box 40 [.ro [some .i8], .ro [some .i8], .ro [some .i8], .ro [some .i8], .ro [some .i8], .ro [some .i8], .ro [some .i8], .ro [some .i8], .ro [some .i8]]]⟩
abbrev MR (p0:Addr) (t p h:Int) (xs a0 a1 a2 a3 a4 a5 a6 a7 a8:LI) (T k g b:Int):Hd Sg:=⟨none,[0,1,0,1,1,1,1,1,1],[.blk 0, .code [1,1,1,1,1,1,1]],[3,5,7,9,10,11,12],[.box 23 [.ic .i64 (t), .ic .i64 (p), .ic .i64 (h)], .box 27 [.roc [.sls (a0), .sls (a1), .sls (a2), .sls (a3), .sls (a4), .sls (a5), .sls (a6), .sls (a7), .sls (a8)], .ic .i64 (T), .i .i64, .ic .i64 (g), .ic .i64 (b)], .box 33 [.own 51 [some .i64,some .i64], .i .i64, .i .i64, .i .i64, .i .i64, .i .i64, .i .i64, .i .i64, .i .i64], .obj wView, .box 40 [.ro [some .i8], .ro [some .i8], .ro [some .i8], .ro [some .i8], .ro [some .i8], .ro [some .i8], .ro [some .i8], .ro [some .i8], .ro [some .i8]], .i .i64, .i .i64]⟩
abbrev MS (p0:Addr) (t p h:Int) (xs a0 a1 a2 a3 a4 a5 a6 a7 a8:LI) (T k g b:Int):Hd Sg:=⟨some 900,[0,0,1,0,0,1,0,0,1,0,1,1,1,1,1,1],[.code [1,0,1,0,0,1,0,0,1,0,1,1,1,1,1,1], .code [1,1,0,0,1,0,0,1,0,1,1,1,1,1,1], .blk 1, .code [1,1,0,0,1,0,1,1,1,1,1,1], .again [0,1,0,1,1,1,1,1,1], .blk 0, .code [1,1,1,1,1,1,1]],[3,5,7,9,10,11,12,13,14],[.box 23 [.ic .i64 (t), .ic .i64 (p), .ic .i64 (h)], .box 27 [.roc [.sls (a0), .sls (a1), .sls (a2), .sls (a3), .sls (a4), .sls (a5), .sls (a6), .sls (a7), .sls (a8)], .ic .i64 (T), .i .i64, .ic .i64 (g), .ic .i64 (b)], .box 33 [.own 51 [some .i64,some .i64], .i .i64, .i .i64, .i .i64, .i .i64, .i .i64, .i .i64, .i .i64, .i .i64], .obj wView, .box 40 [.ro [some .i8], .ro [some .i8], .ro [some .i8], .ro [some .i8], .ro [some .i8], .ro [some .i8], .ro [some .i8], .ro [some .i8], .ro [some .i8]], .i .i64, .i .i64, .i .i64, .box 40 [.ro [some .i8], .ro [some .i8], .ro [some .i8], .ro [some .i8], .ro [some .i8], .ro [some .i8], .ro [some .i8], .ro [some .i8], .ro [some .i8]]]⟩
abbrev MV (p0:Addr) (t p h:Int) (xs a0 a1 a2 a3 a4 a5 a6 a7 a8:LI) (T k g b:Int):Hd Sg:=⟨some 900,[0,1,1,1,1,1,1,1],[.code [1,1,1,1,1,1,1,1]],[3,5,7,9,10,11],[.box 23 [.ic .i64 (t), .ic .i64 (p), .ic .i64 (h)], .box 27 [.roc [.sls (a0), .sls (a1), .sls (a2), .sls (a3), .sls (a4), .sls (a5), .sls (a6), .sls (a7), .sls (a8)], .ic .i64 (T), .i .i64, .ic .i64 (g), .ic .i64 (b)], .box 33 [.own 51 [some .i64,some .i64], .i .i64, .i .i64, .i .i64, .i .i64, .i .i64, .i .i64, .i .i64, .i .i64], .obj wView, .box 40 [.ro [some .i8], .ro [some .i8], .ro [some .i8], .ro [some .i8], .ro [some .i8], .ro [some .i8], .ro [some .i8], .ro [some .i8], .ro [some .i8]], .i .i64]⟩
abbrev MW (p0:Addr) (t p h:Int) (xs a0 a1 a2 a3 a4 a5 a6 a7 a8:LI) (T k g b:Int):Hd Sg:=⟨some 0,[0,1,1,1,1,1,1,1,1],[.code [1,1,1,1,1,1,1,1,1]],[3,5,7,9,10,11,15,16],[.box 23 [.ic .i64 (t), .ic .i64 (p), .ic .i64 (h)], .box 27 [.roc [.sls (a0), .sls (a1), .sls (a2), .sls (a3), .sls (a4), .sls (a5), .sls (a6), .sls (a7), .sls (a8)], .ic .i64 (T), .i .i64, .ic .i64 (g), .ic .i64 (b)], .box 33 [.own 51 [some .i64,some .i64], .i .i64, .i .i64, .i .i64, .i .i64, .i .i64, .i .i64, .i .i64, .i .i64], .obj wView, .box 40 [.ro [some .i8], .ro [some .i8], .ro [some .i8], .ro [some .i8], .ro [some .i8], .ro [some .i8], .ro [some .i8], .ro [some .i8], .ro [some .i8]], .i .i64, .box 33 [.own 51 [some .i64,some .i64], .i .i64, .i .i64, .i .i64, .i .i64, .i .i64, .i .i64, .i .i64, .i .i64], .b]⟩
abbrev MX (p0:Addr) (t p h:Int) (xs a0 a1 a2 a3 a4 a5 a6 a7 a8:LI) (T k g b:Int):Hd Sg:=⟨some 0,[0,1,1,1,1,1,1,1,1,1],[.code [1,1,1,1,1,1,1,1,1,1]],[5,7,10,11,15,16,17,18],[.box 27 [.roc [.sls (a0), .sls (a1), .sls (a2), .sls (a3), .sls (a4), .sls (a5), .sls (a6), .sls (a7), .sls (a8)], .ic .i64 (T), .i .i64, .ic .i64 (g), .ic .i64 (b)], .box 33 [.own 51 [some .i64,some .i64], .i .i64, .i .i64, .i .i64, .i .i64, .i .i64, .i .i64, .i .i64, .i .i64], .box 40 [.ro [some .i8], .ro [some .i8], .ro [some .i8], .ro [some .i8], .ro [some .i8], .ro [some .i8], .ro [some .i8], .ro [some .i8], .ro [some .i8]], .i .i64, .box 33 [.own 51 [some .i64,some .i64], .i .i64, .i .i64, .i .i64, .i .i64, .i .i64, .i .i64, .i .i64, .i .i64], .b, .i .i64, .box 40 [.ro [some .i8], .ro [some .i8], .ro [some .i8], .ro [some .i8], .ro [some .i8], .ro [some .i8], .ro [some .i8], .ro [some .i8], .ro [some .i8]]]⟩
theorem NI (t p h:Int) (xs a0 a1 a2 a3 a4 a5 a6 a7 a8:LI) (T k g b:Int) (hp0:bdAll xs) (hp1:MO a0 a1 a2 a3 a4 a5 a6 a7 a8) (hp2:MP a0 a1 a2 a3 a4 a5 a6 a7 a8):N7 t p h xs a0 a1 a2 a3 a4 a5 a6 a7 a8 T k g b (λkk' nw' wa' wz' w0' w1' w2' w3' w4' w5' w6' w7' sv' y0' y1' y2' y3' y4' y5' y6' y7' y8'=>LJ t p h xs a0 a1 a2 a3 a4 a5 a6 a7 a8 T k g b kk' nw' wa' wz' w0' w1' w2' w3' w4' w5' w6' w7' sv' y0' y1' y2' y3' y4' y5' y6' y7' y8' (SmallFlushes t p h xs a0 a1 a2 a3 a4 a5 a6 a7 a8 T k g b)) (λkk' nw' wa' wz' w0' w1' w2' w3' w4' w5' w6' w7' sv' y0' y1' y2' y3' y4' y5' y6' y7' y8' al' i'=>LK t p h xs a0 a1 a2 a3 a4 a5 a6 a7 a8 T k g b kk' nw' wa' wz' w0' w1' w2' w3' w4' w5' w6' w7' sv' y0' y1' y2' y3' y4' y5' y6' y7' y8' al' i' (SmallFlushes t p h xs a0 a1 a2 a3 a4 a5 a6 a7 a8 T k g b)) (λkk' nw' wa' wz' w0' w1' w2' w3' w4' w5' w6' w7' sv' y0' y1' y2' y3' y4' y5' y6' y7' y8' al' i' cn' z0' z1' z2' z3' z4' z5' z6' z7' z8'=>LM t p h xs a0 a1 a2 a3 a4 a5 a6 a7 a8 T k g b kk' nw' wa' wz' w0' w1' w2' w3' w4' w5' w6' w7' sv' y0' y1' y2' y3' y4' y5' y6' y7' y8' al' i' cn' z0' z1' z2' z3' z4' z5' z6' z7' z8' (SmallFlushes t p h xs a0 a1 a2 a3 a4 a5 a6 a7 a8 T k g b)) (λkk' nw' wa' wz' w0' w1' w2' w3' w4' w5' w6' w7' sv' y0' y1' y2' y3' y4' y5' y6' y7' y8' al'=>LU t p h xs a0 a1 a2 a3 a4 a5 a6 a7 a8 T k g b kk' nw' wa' wz' w0' w1' w2' w3' w4' w5' w6' w7' sv' y0' y1' y2' y3' y4' y5' y6' y7' y8' al' (SmallFlushes t p h xs a0 a1 a2 a3 a4 a5 a6 a7 a8 T k g b)) (λkk' nw' wa' wz' w0' w1' w2' w3' w4' w5' w6' w7' sv' y0' y1' y2' y3' y4' y5' y6' y7' y8' al' nu' ua' uz' u0' u1' u2' u3' u4' u5' u6' u7' is'=>LV t p h xs a0 a1 a2 a3 a4 a5 a6 a7 a8 T k g b kk' nw' wa' wz' w0' w1' w2' w3' w4' w5' w6' w7' sv' y0' y1' y2' y3' y4' y5' y6' y7' y8' al' nu' ua' uz' u0' u1' u2' u3' u4' u5' u6' u7' is' (SmallFlushes t p h xs a0 a1 a2 a3 a4 a5 a6 a7 a8 T k g b)) (λkk' nw' wa' wz' w0' w1' w2' w3' w4' w5' w6' w7' y0' y1' y2' y3' y4' y5' y6' y7' y8' al' nu' ua' uz' u0' u1' u2' u3' u4' u5' u6' u7' is' cn' z0' z1' z2' z3' z4' z5' z6' z7' z8'=>LP t p h xs a0 a1 a2 a3 a4 a5 a6 a7 a8 T k g b kk' nw' wa' wz' w0' w1' w2' w3' w4' w5' w6' w7' y0' y1' y2' y3' y4' y5' y6' y7' y8' al' nu' ua' uz' u0' u1' u2' u3' u4' u5' u6' u7' is' cn' z0' z1' z2' z3' z4' z5' z6' z7' z8' (SmallFlushes t p h xs a0 a1 a2 a3 a4 a5 a6 a7 a8 T k g b)) (λr__=>r__=(SmallFlushes t p h xs a0 a1 a2 a3 a4 a5 a6 a7 a8 T k g b)):=by
 unfold N7
 try unfold MC
 try unfold LJ
 try unfold LZ
 try unfold LK
 try unfold Mc
 try unfold LM
 try unfold Md
 try unfold LU
 try unfold MF
 try unfold LV
 try unfold MG
 try unfold LP
 rintro r2 rfl
 refine ⟨hp0, λ_=>⟨λ_=>(by rintro r5 rfl;rfl), λhc=>?_⟩⟩
 simp only [jH,decide_eq_false_iff_not,jY] at hc
 obtain ⟨⟨hf,hk0⟩,hk8⟩:=hc
 have hS:=(fit_all hf hp1).1.1
 have hlen:=good_len (sound_good hS hp0)
 obtain ⟨⟨_,hp64⟩,hT,hB,h16,_⟩:=fit_all hf hp1
 rintro r5 rfl
 refine ⟨hp0, λ_=>?_⟩
 rintro r9 rfl
 exact ⟨hlen, λ_=>⟨hp0, λ_=>⟨hT, λ_=>⟨hf,rfl,by omega,by omega,PY (PL hS),rfl,PE hf hp1 hp2 hp0,rfl⟩⟩⟩⟩
theorem Oa (t p h:Int) (xs a0 a1 a2 a3 a4 a5 a6 a7 a8:LI) (T k g b:Int) (hp0:bdAll xs) (hp1:MO a0 a1 a2 a3 a4 a5 a6 a7 a8) (hp2:MP a0 a1 a2 a3 a4 a5 a6 a7 a8) (kk:Int) (nw:Nat) (wa wz:LI) (w0 w1 w2 w3 w4 w5 w6 w7:Int) (sv:VS) (y0 y1 y2 y3 y4 y5 y6 y7 y8:LI) {r_:Bool} (hI:LJ t p h xs a0 a1 a2 a3 a4 a5 a6 a7 a8 T k g b kk nw wa wz w0 w1 w2 w3 w4 w5 w6 w7 sv y0 y1 y2 y3 y4 y5 y6 y7 y8 r_):kk=0∨kk=1∨kk=2∨kk=3∨kk=4∨kk=5∨kk=6∨kk=7∨kk=8:=by
 unfold LJ at hI
 obtain ⟨_,h1,h2,h3,_⟩:=hI
 omega
theorem LC {ad:Nat→Ad} (t p h:Int) (xs a0 a1 a2 a3 a4 a5 a6 a7 a8:LI) (T k g b:Int) (hp0:bdAll xs) (hp1:MO a0 a1 a2 a3 a4 a5 a6 a7 a8) (hp2:MP a0 a1 a2 a3 a4 a5 a6 a7 a8) (kk:Int) (nw:Nat) (wa wz:LI) (w0 w1 w2 w3 w4 w5 w6 w7:Int) (sv:VS) (y0 y1 y2 y3 y4 y5 y6 y7 y8:LI) {r_:Bool} (hI:LJ t p h xs a0 a1 a2 a3 a4 a5 a6 a7 a8 T k g b kk nw wa wz w0 w1 w2 w3 w4 w5 w6 w7 sv y0 y1 y2 y3 y4 y5 y6 y7 y8 r_):aw_ ((0:Int)≤kk∧kk<9) (LZ t p h xs a0 a1 a2 a3 a4 a5 a6 a7 a8 T k g b r_ (9000,0,0) kk nw wa wz w0 w1 w2 w3 w4 w5 w6 w7 sv y0 y1 y2 y3 y4 y5 y6 y7 y8 ((pkGet kk y0 y1 y2 y3 y4 y5 y6 y7 y8).length:Int) 0):=by
 unfold LJ at hI
 obtain ⟨hf,hk,hk0,hk8,hw,hnw,F,rfl⟩:=hI
 subst hk
 have h4:(pkGet kk y0 y1 y2 y3 y4 y5 y6 y7 y8).length≤4:=F.2 kk ⟨hk0,hk8⟩
 exact ⟨⟨by omega,by omega⟩, λ_=>⟨⟨hf,rfl,hk0,hk8,hw,hnw,F,rfl,by omega,by omega,rfl⟩,lxo_⟩⟩
theorem Oc (t p h:Int) (xs a0 a1 a2 a3 a4 a5 a6 a7 a8:LI) (T k g b:Int) (hp0:bdAll xs) (hp1:MO a0 a1 a2 a3 a4 a5 a6 a7 a8) (hp2:MP a0 a1 a2 a3 a4 a5 a6 a7 a8) (kk:Int) (nw:Nat) (wa wz:LI) (w0 w1 w2 w3 w4 w5 w6 w7:Int) (sv:VS) (y0 y1 y2 y3 y4 y5 y6 y7 y8:LI) (al i:Int) {r_:Bool} (hI:LK t p h xs a0 a1 a2 a3 a4 a5 a6 a7 a8 T k g b kk nw wa wz w0 w1 w2 w3 w4 w5 w6 w7 sv y0 y1 y2 y3 y4 y5 y6 y7 y8 al i r_):kk=0∨kk=1∨kk=2∨kk=3∨kk=4∨kk=5∨kk=6∨kk=7∨kk=8:=by
 unfold LK at hI
 obtain ⟨_,h1,h2,h3,_⟩:=hI
 omega
theorem LD {ad:Nat→Ad} (t p h:Int) (xs a0 a1 a2 a3 a4 a5 a6 a7 a8:LI) (T k g b:Int) (hp0:bdAll xs) (hp1:MO a0 a1 a2 a3 a4 a5 a6 a7 a8) (hp2:MP a0 a1 a2 a3 a4 a5 a6 a7 a8) (kk:Int) (nw:Nat) (wa wz:LI) (w0 w1 w2 w3 w4 w5 w6 w7:Int) (sv:VS) (y0 y1 y2 y3 y4 y5 y6 y7 y8:LI) (al i:Int) {r_:Bool} (hI:LK t p h xs a0 a1 a2 a3 a4 a5 a6 a7 a8 T k g b kk nw wa wz w0 w1 w2 w3 w4 w5 w6 w7 sv y0 y1 y2 y3 y4 y5 y6 y7 y8 al i r_):aw_ (decide (i<4)=true→((0:Int)≤kk∧kk<9)) (bw_ (decide (i<4)&&decide (((pkGet kk y0 y1 y2 y3 y4 y5 y6 y7 y8).length:Int)>0)) (∀r2:VS×Int×LI×LI×LI×LI×LI×LI×LI×LI×LI,r2=(small_Flush sv t p h y0 y1 y2 y3 y4 y5 y6 y7 y8 kk)→(aw_ (p≤1024) (aw_ (pkB y0 y1 y2 y3 y4 y5 y6 y7 y8) (Mc t p h xs a0 a1 a2 a3 a4 a5 a6 a7 a8 T k g b r_ (20,(4-i).toNat,2) kk nw wa wz w0 w1 w2 w3 w4 w5 w6 w7 r2.1 y0 y1 y2 y3 y4 y5 y6 y7 y8 al i r2.2.1 r2.2.2.1 r2.2.2.2.1 r2.2.2.2.2.1 r2.2.2.2.2.2.1 r2.2.2.2.2.2.2.1 r2.2.2.2.2.2.2.2.1 r2.2.2.2.2.2.2.2.2.1 r2.2.2.2.2.2.2.2.2.2.1 r2.2.2.2.2.2.2.2.2.2.2)))) (Md t p h xs a0 a1 a2 a3 a4 a5 a6 a7 a8 T k g b r_ (20,(4-i).toNat,2) kk nw wa wz w0 w1 w2 w3 w4 w5 w6 w7 sv y0 y1 y2 y3 y4 y5 y6 y7 y8 al)):=by
 unfold LK at hI
 obtain ⟨hf,hk,hk0,hk8,hw,hnw,F,hal,h0,h1,rfl⟩:=hI
 subst hk
 obtain ⟨⟨_,hp64⟩,hT,hB,h16,_⟩:=fit_all hf hp1
 obtain ⟨s1,s2,s3,s5⟩:=NZ hf hp1 hp2 hp0 F
 have hal:al=((pkGet kk y0 y1 y2 y3 y4 y5 y6 y7 y8).length:Int):=hal
 refine ⟨λ_=>⟨by omega,by omega⟩, λ_=>⟨λhx=>?_, λhx=>?_⟩⟩
 ·simp only [iE,decide_eq_true_eq] at hx
  rintro r2 rfl
  refine ⟨by omega, λ_=>⟨s3, λ_=>⟨⟨hf,rfl,hk0,hk8,hw,hnw,⟨sv,F, λe=>?_,rfl⟩,hal,h0,h1,rfl⟩,lxo_⟩⟩⟩
  have e:pkGet kk y0 y1 y2 y3 y4 y5 y6 y7 y8=[]:=e
  rw [e] at hx;simp at hx
 ·simp only [mD,decide_eq_false_iff_not] at hx
  have hl:(pkGet kk y0 y1 y2 y3 y4 y5 y6 y7 y8).length=0:=by omega
  exact ⟨⟨hf,rfl,hk0,hk8,hw,hnw,F,by omega,lW hl,rfl⟩,lxo_⟩
theorem Oe (t p h:Int) (xs a0 a1 a2 a3 a4 a5 a6 a7 a8:LI) (T k g b:Int) (hp0:bdAll xs) (hp1:MO a0 a1 a2 a3 a4 a5 a6 a7 a8) (hp2:MP a0 a1 a2 a3 a4 a5 a6 a7 a8) (kk:Int) (nw:Nat) (wa wz:LI) (w0 w1 w2 w3 w4 w5 w6 w7:Int) (sv:VS) (y0 y1 y2 y3 y4 y5 y6 y7 y8:LI) (al i cn:Int) (z0 z1 z2 z3 z4 z5 z6 z7 z8:LI) {r_:Bool} (hI:LM t p h xs a0 a1 a2 a3 a4 a5 a6 a7 a8 T k g b kk nw wa wz w0 w1 w2 w3 w4 w5 w6 w7 sv y0 y1 y2 y3 y4 y5 y6 y7 y8 al i cn z0 z1 z2 z3 z4 z5 z6 z7 z8 r_):kk=0∨kk=1∨kk=2∨kk=3∨kk=4∨kk=5∨kk=6∨kk=7∨kk=8:=by
 unfold LM at hI
 obtain ⟨_,h1,h2,h3,_⟩:=hI
 omega
theorem LG {ad:Nat→Ad} (t p h:Int) (xs a0 a1 a2 a3 a4 a5 a6 a7 a8:LI) (T k g b:Int) (hp0:bdAll xs) (hp1:MO a0 a1 a2 a3 a4 a5 a6 a7 a8) (hp2:MP a0 a1 a2 a3 a4 a5 a6 a7 a8) (kk:Int) (nw:Nat) (wa wz:LI) (w0 w1 w2 w3 w4 w5 w6 w7:Int) (sv:VS) (y0 y1 y2 y3 y4 y5 y6 y7 y8:LI) (al i cn:Int) (z0 z1 z2 z3 z4 z5 z6 z7 z8:LI) {r_:Bool} (hI:LM t p h xs a0 a1 a2 a3 a4 a5 a6 a7 a8 T k g b kk nw wa wz w0 w1 w2 w3 w4 w5 w6 w7 sv y0 y1 y2 y3 y4 y5 y6 y7 y8 al i cn z0 z1 z2 z3 z4 z5 z6 z7 z8 r_):aw_ (decide (cn<1)=false→((0:Int)≤kk∧kk<9)) (aw_ (decide (cn<1)=false→((0:Int)≤kk∧kk<9)) (tw_ (bw_ (decide (cn<1)) ((λr__=>r__=r_) false) (bw_ (((pkGet kk z0 z1 z2 z3 z4 z5 z6 z7 z8).length:Int) !=iA iB (((pkGet kk y0 y1 y2 y3 y4 y5 y6 y7 y8).length:Int)-cn)) ((λr__=>r__=r_) false) (∀r4:LI,r4=(VS.vals sv)→(∀r6:PUnit,r6=(())→(aw_ (lenC [kG a0,kG a1,kG a2,kG a3,kG a4,kG a5,kG a6,kG a7,kG a8]≤1000) (aw_ (0≤T∧T<(↑(lenC [kG a0,kG a1,kG a2,kG a3,kG a4,kG a5,kG a6,kG a7,kG a8]):Int)) (∀r10:Bool,r10=(r17_Fits t p h r4 (mO a0 (iL T) (slE (Ad.a (ad 17)) (Ad.c (ad 17)) z0)) (mO a1 (iL T) (slE (Ad.a (ad 18)) (Ad.c (ad 18)) z1)) (mO a2 (iL T) (slE (Ad.a (ad 19)) (Ad.c (ad 19)) z2)) (mO a3 (iL T) (slE (Ad.a (ad 20)) (Ad.c (ad 20)) z3)) (mO a4 (iL T) (slE (Ad.a (ad 21)) (Ad.c (ad 21)) z4)) (mO a5 (iL T) (slE (Ad.a (ad 22)) (Ad.c (ad 22)) z5)) (mO a6 (iL T) (slE (Ad.a (ad 23)) (Ad.c (ad 23)) z6)) (mO a7 (iL T) (slE (Ad.a (ad 24)) (Ad.c (ad 24)) z7)) (mO a8 (iL T) (slE (Ad.a (ad 25)) (Ad.c (ad 25)) z8)))→(aw_ (bdAll r4) (aw_ (iF (mO a0 (iL T) (slE (Ad.a (ad 17)) (jZ (Ad.c (ad 17),z0)) (lD (Ad.c (ad 17),z0))))≤1000) (bw_ (!r10) ((λr__=>r__=r_) false) (LZ t p h xs a0 a1 a2 a3 a4 a5 a6 a7 a8 T k g b r_ (20,(4-i).toNat,1) kk nw wa wz w0 w1 w2 w3 w4 w5 w6 w7 sv z0 z1 z2 z3 z4 z5 z6 z7 z8 (iA iB (al-cn)) (iA iB (i+1))))))))))))))):=by
 unfold LM at hI
 obtain ⟨hf,hk,hk0,hk8,hw,hnw,⟨s0,F0,hne,he⟩,hal,h0,h1,rfl⟩:=hI
 subst hk
 obtain ⟨⟨_,hp64⟩,hT,hB,h16,_⟩:=fit_all hf hp1
 obtain ⟨c1,c4,c2,F⟩:=PM ⟨hk0,hk8⟩ F0 hne he
 obtain ⟨s1,s2,s3,s5⟩:=NZ hf hp1 hp2 hp0 F
 have hal:al=((pkGet kk y0 y1 y2 y3 y4 y5 y6 y7 y8).length:Int):=hal
 have c2:((pkGet kk z0 z1 z2 z3 z4 z5 z6 z7 z8).length:Int)=((pkGet kk y0 y1 y2 y3 y4 y5 y6 y7 y8).length:Int)-cn:=c2
 have hi4:i<4:=by omega
 refine ⟨λ_=>⟨by omega,by omega⟩, λ_=>⟨λ_=>⟨by omega,by omega⟩, λ_=>?_⟩⟩
 refine (λ(q:_)=>⟨q,q⟩) ?_
 refine ⟨λhx=>?_, λ_=>⟨λhx=>?_, λ_=>?_⟩⟩
 ·exfalso;have:=of_decide_eq_true hx;omega
 ·exfalso
  rw [w64 (n:=((pkGet kk y0 y1 y2 y3 y4 y5 y6 y7 y8).length:Int)-cn) (by omega),c2] at hx
  simp at hx
 ·rintro r4 rfl r6 rfl
  refine ⟨(show a0.length≤1000 by omega), λ_=>⟨hT, λ_=>?_⟩⟩
  rintro r10 rfl
  refine ⟨OC _, λ_=>⟨by rw [mY];omega, λ_=>⟨λhx=>?_, λ_=>?_⟩⟩⟩
  ·have hq:=s5 (λi=>(ad (i+17)).a) (λi=>(ad (i+17)).c)
   exact absurd (hx.symm.trans (congrArg (λb=>!b) hq)) (by decide)
  ·rw [w64 (n:=al-cn) (by omega),w64 (n:=i+1) (by omega)]
   exact ⟨⟨hf,rfl,hk0,hk8,hw,hnw,F,(show al-cn=((pkGet kk z0 z1 z2 z3 z4 z5 z6 z7 z8).length:Int) by omega),by omega,by omega,rfl⟩,lxo_⟩
theorem NJ {ad:Nat→Ad} (t p h:Int) (xs a0 a1 a2 a3 a4 a5 a6 a7 a8:LI) (T k g b:Int) (hp0:bdAll xs) (hp1:MO a0 a1 a2 a3 a4 a5 a6 a7 a8) (hp2:MP a0 a1 a2 a3 a4 a5 a6 a7 a8) (kk:Int) (nw:Nat) (wa wz:LI) (w0 w1 w2 w3 w4 w5 w6 w7:Int) (sv:VS) (y0 y1 y2 y3 y4 y5 y6 y7 y8:LI) (al:Int) {r_:Bool} (hI:LU t p h xs a0 a1 a2 a3 a4 a5 a6 a7 a8 T k g b kk nw wa wz w0 w1 w2 w3 w4 w5 w6 w7 sv y0 y1 y2 y3 y4 y5 y6 y7 y8 al r_):Nk ad t p h xs a0 a1 a2 a3 a4 a5 a6 a7 a8 T k g b kk nw wa wz w0 w1 w2 w3 w4 w5 w6 w7 sv y0 y1 y2 y3 y4 y5 y6 y7 y8 al (MC t p h xs a0 a1 a2 a3 a4 a5 a6 a7 a8 T k g b r_ (8,0,0)) (LZ t p h xs a0 a1 a2 a3 a4 a5 a6 a7 a8 T k g b r_ (8,0,0)) (Mc t p h xs a0 a1 a2 a3 a4 a5 a6 a7 a8 T k g b r_ (8,0,0)) (Md t p h xs a0 a1 a2 a3 a4 a5 a6 a7 a8 T k g b r_ (8,0,0)) (MF t p h xs a0 a1 a2 a3 a4 a5 a6 a7 a8 T k g b r_ (8,0,0)) (MG t p h xs a0 a1 a2 a3 a4 a5 a6 a7 a8 T k g b r_ (8,0,0)) (λr__=>r__=r_):=by
 unfold LU at hI
 unfold Nk N9
 try unfold MC
 try unfold LJ
 try unfold LZ
 try unfold LK
 try unfold Mc
 try unfold LM
 try unfold Md
 try unfold LU
 try unfold MF
 try unfold LV
 try unfold MG
 try unfold LP
 obtain ⟨hf,hk,hk0,hk8,hw,hnw,F,hal,he,rfl⟩:=hI
 refine ⟨?_,?_⟩
 ·rintro r1 rfl
  refine ⟨?_,?_⟩<;>(rintro r3 rfl;exact ⟨OC _, λ_=>⟨⟨hf,hk,hk0,hk8,hw,hnw,F,hal,he,rfl,rfl⟩,lxo_⟩⟩)
 ·rintro r1 rfl r3 rfl
  exact ⟨OC _, λ_=>⟨⟨hf,hk,hk0,hk8,hw,hnw,F,hal,he,rfl,rfl⟩,lxo_⟩⟩
theorem NK {ad:Nat→Ad} (t p h:Int) (xs a0 a1 a2 a3 a4 a5 a6 a7 a8:LI) (T k g b:Int) (hp0:bdAll xs) (hp1:MO a0 a1 a2 a3 a4 a5 a6 a7 a8) (hp2:MP a0 a1 a2 a3 a4 a5 a6 a7 a8) (kk:Int) (nw:Nat) (wa wz:LI) (w0 w1 w2 w3 w4 w5 w6 w7:Int) (sv:VS) (y0 y1 y2 y3 y4 y5 y6 y7 y8:LI) (al:Int) (nu:Nat) (ua uz:LI) (u0 u1 u2 u3 u4 u5 u6 u7:Int) (is:Bool) {r_:Bool} (hI:LV t p h xs a0 a1 a2 a3 a4 a5 a6 a7 a8 T k g b kk nw wa wz w0 w1 w2 w3 w4 w5 w6 w7 sv y0 y1 y2 y3 y4 y5 y6 y7 y8 al nu ua uz u0 u1 u2 u3 u4 u5 u6 u7 is r_):Nl ad t p h xs a0 a1 a2 a3 a4 a5 a6 a7 a8 T k g b kk nw wa wz w0 w1 w2 w3 w4 w5 w6 w7 sv y0 y1 y2 y3 y4 y5 y6 y7 y8 al nu ua uz u0 u1 u2 u3 u4 u5 u6 u7 is (MC t p h xs a0 a1 a2 a3 a4 a5 a6 a7 a8 T k g b r_ (7,0,0)) (LZ t p h xs a0 a1 a2 a3 a4 a5 a6 a7 a8 T k g b r_ (7,0,0)) (Mc t p h xs a0 a1 a2 a3 a4 a5 a6 a7 a8 T k g b r_ (7,0,0)) (Md t p h xs a0 a1 a2 a3 a4 a5 a6 a7 a8 T k g b r_ (7,0,0)) (MF t p h xs a0 a1 a2 a3 a4 a5 a6 a7 a8 T k g b r_ (7,0,0)) (MG t p h xs a0 a1 a2 a3 a4 a5 a6 a7 a8 T k g b r_ (7,0,0)) (λr__=>r__=r_):=by
 unfold LV at hI
 unfold Nl
 try unfold MC
 try unfold LJ
 try unfold LZ
 try unfold LK
 try unfold Mc
 try unfold LM
 try unfold Md
 try unfold LU
 try unfold MF
 try unfold LV
 try unfold MG
 try unfold LP
 obtain ⟨hf,hk,hk0,hk8,hw,hnw,F,hal,he,hu,rfl⟩:=hI
 obtain ⟨⟨_,hp64⟩,hT,hB,h16,_⟩:=fit_all hf hp1
 obtain ⟨s1,s2,s3,s5⟩:=NZ hf hp1 hp2 hp0 F
 have hw1:wa=(stateA ⟨t,p,h⟩ xs).1:=congrArg (·.1) hw
 have hw2:wz=(stateA ⟨t,p,h⟩ xs).2.1:=congrArg (·.2.1) hw
 have hl1:wa.length=wz.length:=by rw [hw1,hw2];exact st_len _ _
 have e1:=hu.trans (s2.trans hw.symm)
 rintro r0 rfl
 rw [PR he]
 exact ⟨by omega, λ_=>⟨s3, λ_=>⟨⟨hk,hk0,hk8,hal,he,rfl,rfl,e1,hl1,rfl⟩,lxo_⟩⟩⟩
theorem Og (t p h:Int) (xs a0 a1 a2 a3 a4 a5 a6 a7 a8:LI) (T k g b:Int) (hp0:bdAll xs) (hp1:MO a0 a1 a2 a3 a4 a5 a6 a7 a8) (hp2:MP a0 a1 a2 a3 a4 a5 a6 a7 a8) (kk:Int) (nw:Nat) (wa wz:LI) (w0 w1 w2 w3 w4 w5 w6 w7:Int) (y0 y1 y2 y3 y4 y5 y6 y7 y8:LI) (al:Int) (nu:Nat) (ua uz:LI) (u0 u1 u2 u3 u4 u5 u6 u7:Int) (is:Bool) (cn:Int) (z0 z1 z2 z3 z4 z5 z6 z7 z8:LI) {r_:Bool} (hI:LP t p h xs a0 a1 a2 a3 a4 a5 a6 a7 a8 T k g b kk nw wa wz w0 w1 w2 w3 w4 w5 w6 w7 y0 y1 y2 y3 y4 y5 y6 y7 y8 al nu ua uz u0 u1 u2 u3 u4 u5 u6 u7 is cn z0 z1 z2 z3 z4 z5 z6 z7 z8 r_):kk=0∨kk=1∨kk=2∨kk=3∨kk=4∨kk=5∨kk=6∨kk=7∨kk=8:=by
 unfold LP at hI
 obtain ⟨h1,h2,h3,_⟩:=hI
 omega
theorem LH {ad:Nat→Ad} (t p h:Int) (xs a0 a1 a2 a3 a4 a5 a6 a7 a8:LI) (T k g b:Int) (hp0:bdAll xs) (hp1:MO a0 a1 a2 a3 a4 a5 a6 a7 a8) (hp2:MP a0 a1 a2 a3 a4 a5 a6 a7 a8) (kk:Int) (nw:Nat) (wa wz:LI) (w0 w1 w2 w3 w4 w5 w6 w7:Int) (y0 y1 y2 y3 y4 y5 y6 y7 y8:LI) (al:Int) (nu:Nat) (ua uz:LI) (u0 u1 u2 u3 u4 u5 u6 u7:Int) (is:Bool) (cn:Int) (z0 z1 z2 z3 z4 z5 z6 z7 z8:LI) {r_:Bool} (hI:LP t p h xs a0 a1 a2 a3 a4 a5 a6 a7 a8 T k g b kk nw wa wz w0 w1 w2 w3 w4 w5 w6 w7 y0 y1 y2 y3 y4 y5 y6 y7 y8 al nu ua uz u0 u1 u2 u3 u4 u5 u6 u7 is cn z0 z1 z2 z3 z4 z5 z6 z7 z8 r_):aw_ (is=true→iF wa=iF wz) (aw_ (is=true→iF ua=iF uz) (aw_ ((is&&Me wa wz w0 w1 w2 w3 w4 w5 w6 w7 ua uz u0 u1 u2 u3 u4 u5 u6 u7&&al==0)=true→((0:Int)≤kk∧kk<9)) ((λr__=>r__=r_) (is&&Me wa wz w0 w1 w2 w3 w4 w5 w6 w7 ua uz u0 u1 u2 u3 u4 u5 u6 u7&&al==0&&((pkGet kk y0 y1 y2 y3 y4 y5 y6 y7 y8).length:Int)==0&&cn==0&&r17_Same y0 y1 y2 y3 y4 y5 y6 y7 y8 z0 z1 z2 z3 z4 z5 z6 z7 z8&&true)))):=by
 unfold LP at hI
 obtain ⟨hk,hk0,hk8,hal,he,rfl,hz,hu,hl1,rfl⟩:=hI
 subst hk
 simp only [iV] at hz hu
 obtain ⟨rfl,rfl,rfl,rfl,rfl,rfl,rfl,rfl,rfl⟩:=hz
 obtain ⟨rfl,rfl,rfl,rfl,rfl,rfl,rfl,rfl,rfl,rfl,rfl⟩:=hu
 have he:pkGet kk z0 z1 z2 z3 z4 z5 z6 z7 z8=[]:=he
 refine ⟨λ_=>hl1, λ_=>⟨λ_=>hl1, λ_=>⟨λ_=>⟨by omega,by omega⟩, λ_=>?_⟩⟩⟩
 rw [PD,he,hal]
 simp [r17_Same]
theorem O1:EOk 4 OD:=
 PQ Dg T_l18_live_ok (I:=[2706000,1499831954900,28306900,110226000,437906000,2999998,5401000000003,5401000000005,5401000000007,5401000000009,5401000000010,5401000000011,5401000000012]) Tryz.func4 mix (B:=bodyOf Tryz.f4) (by kernel_rfl) rfl (by kernel_rfl) 400
  λp0 t p h xs a0 a1 a2 a3 a4 a5 a6 a7 a8 T k g b hb hp=>have hp0:bdAll xs:=hp _ (.head _);have hp1:MO a0 a1 a2 a3 a4 a5 a6 a7 a8:=hp _ (.tail _ (.head _));have hp2:MP a0 a1 a2 a3 a4 a5 a6 a7 a8:=hp _ (.tail _ (.tail _ (.head _)));⟨[MQ p0 t p h xs a0 a1 a2 a3 a4 a5 a6 a7 a8 T k g b,MR p0 t p h xs a0 a1 a2 a3 a4 a5 a6 a7 a8 T k g b,MS p0 t p h xs a0 a1 a2 a3 a4 a5 a6 a7 a8 T k g b,MV p0 t p h xs a0 a1 a2 a3 a4 a5 a6 a7 a8 T k g b,MW p0 t p h xs a0 a1 a2 a3 a4 a5 a6 a7 a8 T k g b,MX p0 t p h xs a0 a1 a2 a3 a4 a5 a6 a7 a8 T k g b], λj=>iI [appC (Hd.kd (MQ p0 t p h xs a0 a1 a2 a3 a4 a5 a6 a7 a8 T k g b)) (λkk' nw' wa' wz' w0' w1' w2' w3' w4' w5' w6' w7' sv' y0' y1' y2' y3' y4' y5' y6' y7' y8'=>LJ t p h xs a0 a1 a2 a3 a4 a5 a6 a7 a8 T k g b kk' nw' wa' wz' w0' w1' w2' w3' w4' w5' w6' w7' sv' y0' y1' y2' y3' y4' y5' y6' y7' y8' (SmallFlushes t p h xs a0 a1 a2 a3 a4 a5 a6 a7 a8 T k g b)),appC (Hd.kd (MR p0 t p h xs a0 a1 a2 a3 a4 a5 a6 a7 a8 T k g b)) (λkk' nw' wa' wz' w0' w1' w2' w3' w4' w5' w6' w7' sv' y0' y1' y2' y3' y4' y5' y6' y7' y8' al' i'=>LK t p h xs a0 a1 a2 a3 a4 a5 a6 a7 a8 T k g b kk' nw' wa' wz' w0' w1' w2' w3' w4' w5' w6' w7' sv' y0' y1' y2' y3' y4' y5' y6' y7' y8' al' i' (SmallFlushes t p h xs a0 a1 a2 a3 a4 a5 a6 a7 a8 T k g b)),appC (Hd.kd (MS p0 t p h xs a0 a1 a2 a3 a4 a5 a6 a7 a8 T k g b)) (λkk' nw' wa' wz' w0' w1' w2' w3' w4' w5' w6' w7' sv' y0' y1' y2' y3' y4' y5' y6' y7' y8' al' i' cn' z0' z1' z2' z3' z4' z5' z6' z7' z8'=>LM t p h xs a0 a1 a2 a3 a4 a5 a6 a7 a8 T k g b kk' nw' wa' wz' w0' w1' w2' w3' w4' w5' w6' w7' sv' y0' y1' y2' y3' y4' y5' y6' y7' y8' al' i' cn' z0' z1' z2' z3' z4' z5' z6' z7' z8' (SmallFlushes t p h xs a0 a1 a2 a3 a4 a5 a6 a7 a8 T k g b)),appC (Hd.kd (MV p0 t p h xs a0 a1 a2 a3 a4 a5 a6 a7 a8 T k g b)) (λkk' nw' wa' wz' w0' w1' w2' w3' w4' w5' w6' w7' sv' y0' y1' y2' y3' y4' y5' y6' y7' y8' al'=>LU t p h xs a0 a1 a2 a3 a4 a5 a6 a7 a8 T k g b kk' nw' wa' wz' w0' w1' w2' w3' w4' w5' w6' w7' sv' y0' y1' y2' y3' y4' y5' y6' y7' y8' al' (SmallFlushes t p h xs a0 a1 a2 a3 a4 a5 a6 a7 a8 T k g b)),appC (Hd.kd (MW p0 t p h xs a0 a1 a2 a3 a4 a5 a6 a7 a8 T k g b)) (λkk' nw' wa' wz' w0' w1' w2' w3' w4' w5' w6' w7' sv' y0' y1' y2' y3' y4' y5' y6' y7' y8' al' nu' ua' uz' u0' u1' u2' u3' u4' u5' u6' u7' is'=>LV t p h xs a0 a1 a2 a3 a4 a5 a6 a7 a8 T k g b kk' nw' wa' wz' w0' w1' w2' w3' w4' w5' w6' w7' sv' y0' y1' y2' y3' y4' y5' y6' y7' y8' al' nu' ua' uz' u0' u1' u2' u3' u4' u5' u6' u7' is' (SmallFlushes t p h xs a0 a1 a2 a3 a4 a5 a6 a7 a8 T k g b)),appC (Hd.kd (MX p0 t p h xs a0 a1 a2 a3 a4 a5 a6 a7 a8 T k g b)) (λkk' nw' wa' wz' w0' w1' w2' w3' w4' w5' w6' w7' y0' y1' y2' y3' y4' y5' y6' y7' y8' al' nu' ua' uz' u0' u1' u2' u3' u4' u5' u6' u7' is' cn' z0' z1' z2' z3' z4' z5' z6' z7' z8'=>LP t p h xs a0 a1 a2 a3 a4 a5 a6 a7 a8 T k g b kk' nw' wa' wz' w0' w1' w2' w3' w4' w5' w6' w7' y0' y1' y2' y3' y4' y5' y6' y7' y8' al' nu' ua' uz' u0' u1' u2' u3' u4' u5' u6' u7' is' cn' z0' z1' z2' z3' z4' z5' z6' z7' z8' (SmallFlushes t p h xs a0 a1 a2 a3 a4 a5 a6 a7 a8 T k g b))] j (λ_=>False), λj=>iI [appC (Hd.kd (MQ p0 t p h xs a0 a1 a2 a3 a4 a5 a6 a7 a8 T k g b)) (λkk' nw' wa' wz' w0' w1' w2' w3' w4' w5' w6' w7' sv' y0' y1' y2' y3' y4' y5' y6' y7' y8'=>(9000,0,0)),appC (Hd.kd (MR p0 t p h xs a0 a1 a2 a3 a4 a5 a6 a7 a8 T k g b)) (λkk' nw' wa' wz' w0' w1' w2' w3' w4' w5' w6' w7' sv' y0' y1' y2' y3' y4' y5' y6' y7' y8' al' i'=>(20,(4-i').toNat,2)),appC (Hd.kd (MS p0 t p h xs a0 a1 a2 a3 a4 a5 a6 a7 a8 T k g b)) (λkk' nw' wa' wz' w0' w1' w2' w3' w4' w5' w6' w7' sv' y0' y1' y2' y3' y4' y5' y6' y7' y8' al' i' cn' z0' z1' z2' z3' z4' z5' z6' z7' z8'=>(20,(4-i').toNat,1)),appC (Hd.kd (MV p0 t p h xs a0 a1 a2 a3 a4 a5 a6 a7 a8 T k g b)) (λkk' nw' wa' wz' w0' w1' w2' w3' w4' w5' w6' w7' sv' y0' y1' y2' y3' y4' y5' y6' y7' y8' al'=>(8,0,0)),appC (Hd.kd (MW p0 t p h xs a0 a1 a2 a3 a4 a5 a6 a7 a8 T k g b)) (λkk' nw' wa' wz' w0' w1' w2' w3' w4' w5' w6' w7' sv' y0' y1' y2' y3' y4' y5' y6' y7' y8' al' nu' ua' uz' u0' u1' u2' u3' u4' u5' u6' u7' is'=>(7,0,0)),appC (Hd.kd (MX p0 t p h xs a0 a1 a2 a3 a4 a5 a6 a7 a8 T k g b)) (λkk' nw' wa' wz' w0' w1' w2' w3' w4' w5' w6' w7' y0' y1' y2' y3' y4' y5' y6' y7' y8' al' nu' ua' uz' u0' u1' u2' u3' u4' u5' u6' u7' is' cn' z0' z1' z2' z3' z4' z5' z6' z7' z8'=>(6,0,0))] j (λ_=>(0,0,0)),by kernel_rfl,⟨_, λ_ _ _=>by kernel_rfl,NI t p h xs a0 a1 a2 a3 a4 a5 a6 a7 a8 T k g b hp0 hp1 hp2⟩,⟨λkk nw wa wz w0 w1 w2 w3 w4 w5 w6 w7 sv y0 y1 y2 y3 y4 y5 y6 y7 y8 hI ad=>(by
   rcases Oa t p h xs a0 a1 a2 a3 a4 a5 a6 a7 a8 T k g b hp0 hp1 hp2 kk nw wa wz w0 w1 w2 w3 w4 w5 w6 w7 sv y0 y1 y2 y3 y4 y5 y6 y7 y8 hI with rfl|rfl|rfl|rfl|rfl|rfl|rfl|rfl|rfl
   ·exact ⟨_, λ_ _=>by kernel_rfl,LC (ad:=ad) t p h xs a0 a1 a2 a3 a4 a5 a6 a7 a8 T k g b hp0 hp1 hp2 0 nw wa wz w0 w1 w2 w3 w4 w5 w6 w7 sv y0 y1 y2 y3 y4 y5 y6 y7 y8 hI⟩
   ·exact ⟨_, λ_ _=>by kernel_rfl,LC (ad:=ad) t p h xs a0 a1 a2 a3 a4 a5 a6 a7 a8 T k g b hp0 hp1 hp2 1 nw wa wz w0 w1 w2 w3 w4 w5 w6 w7 sv y0 y1 y2 y3 y4 y5 y6 y7 y8 hI⟩
   ·exact ⟨_, λ_ _=>by kernel_rfl,LC (ad:=ad) t p h xs a0 a1 a2 a3 a4 a5 a6 a7 a8 T k g b hp0 hp1 hp2 2 nw wa wz w0 w1 w2 w3 w4 w5 w6 w7 sv y0 y1 y2 y3 y4 y5 y6 y7 y8 hI⟩
   ·exact ⟨_, λ_ _=>by kernel_rfl,LC (ad:=ad) t p h xs a0 a1 a2 a3 a4 a5 a6 a7 a8 T k g b hp0 hp1 hp2 3 nw wa wz w0 w1 w2 w3 w4 w5 w6 w7 sv y0 y1 y2 y3 y4 y5 y6 y7 y8 hI⟩
   ·exact ⟨_, λ_ _=>by kernel_rfl,LC (ad:=ad) t p h xs a0 a1 a2 a3 a4 a5 a6 a7 a8 T k g b hp0 hp1 hp2 4 nw wa wz w0 w1 w2 w3 w4 w5 w6 w7 sv y0 y1 y2 y3 y4 y5 y6 y7 y8 hI⟩
   ·exact ⟨_, λ_ _=>by kernel_rfl,LC (ad:=ad) t p h xs a0 a1 a2 a3 a4 a5 a6 a7 a8 T k g b hp0 hp1 hp2 5 nw wa wz w0 w1 w2 w3 w4 w5 w6 w7 sv y0 y1 y2 y3 y4 y5 y6 y7 y8 hI⟩
   ·exact ⟨_, λ_ _=>by kernel_rfl,LC (ad:=ad) t p h xs a0 a1 a2 a3 a4 a5 a6 a7 a8 T k g b hp0 hp1 hp2 6 nw wa wz w0 w1 w2 w3 w4 w5 w6 w7 sv y0 y1 y2 y3 y4 y5 y6 y7 y8 hI⟩
   ·exact ⟨_, λ_ _=>by kernel_rfl,LC (ad:=ad) t p h xs a0 a1 a2 a3 a4 a5 a6 a7 a8 T k g b hp0 hp1 hp2 7 nw wa wz w0 w1 w2 w3 w4 w5 w6 w7 sv y0 y1 y2 y3 y4 y5 y6 y7 y8 hI⟩
   ·exact ⟨_, λ_ _=>by kernel_rfl,LC (ad:=ad) t p h xs a0 a1 a2 a3 a4 a5 a6 a7 a8 T k g b hp0 hp1 hp2 8 nw wa wz w0 w1 w2 w3 w4 w5 w6 w7 sv y0 y1 y2 y3 y4 y5 y6 y7 y8 hI⟩),⟨λkk nw wa wz w0 w1 w2 w3 w4 w5 w6 w7 sv y0 y1 y2 y3 y4 y5 y6 y7 y8 al i hI ad=>(by
   rcases Oc t p h xs a0 a1 a2 a3 a4 a5 a6 a7 a8 T k g b hp0 hp1 hp2 kk nw wa wz w0 w1 w2 w3 w4 w5 w6 w7 sv y0 y1 y2 y3 y4 y5 y6 y7 y8 al i hI with rfl|rfl|rfl|rfl|rfl|rfl|rfl|rfl|rfl
   ·exact ⟨_, λ_ _=>by kernel_rfl,LD (ad:=ad) t p h xs a0 a1 a2 a3 a4 a5 a6 a7 a8 T k g b hp0 hp1 hp2 0 nw wa wz w0 w1 w2 w3 w4 w5 w6 w7 sv y0 y1 y2 y3 y4 y5 y6 y7 y8 al i hI⟩
   ·exact ⟨_, λ_ _=>by kernel_rfl,LD (ad:=ad) t p h xs a0 a1 a2 a3 a4 a5 a6 a7 a8 T k g b hp0 hp1 hp2 1 nw wa wz w0 w1 w2 w3 w4 w5 w6 w7 sv y0 y1 y2 y3 y4 y5 y6 y7 y8 al i hI⟩
   ·exact ⟨_, λ_ _=>by kernel_rfl,LD (ad:=ad) t p h xs a0 a1 a2 a3 a4 a5 a6 a7 a8 T k g b hp0 hp1 hp2 2 nw wa wz w0 w1 w2 w3 w4 w5 w6 w7 sv y0 y1 y2 y3 y4 y5 y6 y7 y8 al i hI⟩
   ·exact ⟨_, λ_ _=>by kernel_rfl,LD (ad:=ad) t p h xs a0 a1 a2 a3 a4 a5 a6 a7 a8 T k g b hp0 hp1 hp2 3 nw wa wz w0 w1 w2 w3 w4 w5 w6 w7 sv y0 y1 y2 y3 y4 y5 y6 y7 y8 al i hI⟩
   ·exact ⟨_, λ_ _=>by kernel_rfl,LD (ad:=ad) t p h xs a0 a1 a2 a3 a4 a5 a6 a7 a8 T k g b hp0 hp1 hp2 4 nw wa wz w0 w1 w2 w3 w4 w5 w6 w7 sv y0 y1 y2 y3 y4 y5 y6 y7 y8 al i hI⟩
   ·exact ⟨_, λ_ _=>by kernel_rfl,LD (ad:=ad) t p h xs a0 a1 a2 a3 a4 a5 a6 a7 a8 T k g b hp0 hp1 hp2 5 nw wa wz w0 w1 w2 w3 w4 w5 w6 w7 sv y0 y1 y2 y3 y4 y5 y6 y7 y8 al i hI⟩
   ·exact ⟨_, λ_ _=>by kernel_rfl,LD (ad:=ad) t p h xs a0 a1 a2 a3 a4 a5 a6 a7 a8 T k g b hp0 hp1 hp2 6 nw wa wz w0 w1 w2 w3 w4 w5 w6 w7 sv y0 y1 y2 y3 y4 y5 y6 y7 y8 al i hI⟩
   ·exact ⟨_, λ_ _=>by kernel_rfl,LD (ad:=ad) t p h xs a0 a1 a2 a3 a4 a5 a6 a7 a8 T k g b hp0 hp1 hp2 7 nw wa wz w0 w1 w2 w3 w4 w5 w6 w7 sv y0 y1 y2 y3 y4 y5 y6 y7 y8 al i hI⟩
   ·exact ⟨_, λ_ _=>by kernel_rfl,LD (ad:=ad) t p h xs a0 a1 a2 a3 a4 a5 a6 a7 a8 T k g b hp0 hp1 hp2 8 nw wa wz w0 w1 w2 w3 w4 w5 w6 w7 sv y0 y1 y2 y3 y4 y5 y6 y7 y8 al i hI⟩),⟨λkk nw wa wz w0 w1 w2 w3 w4 w5 w6 w7 sv y0 y1 y2 y3 y4 y5 y6 y7 y8 al i cn z0 z1 z2 z3 z4 z5 z6 z7 z8 hI ad=>(by
   rcases Oe t p h xs a0 a1 a2 a3 a4 a5 a6 a7 a8 T k g b hp0 hp1 hp2 kk nw wa wz w0 w1 w2 w3 w4 w5 w6 w7 sv y0 y1 y2 y3 y4 y5 y6 y7 y8 al i cn z0 z1 z2 z3 z4 z5 z6 z7 z8 hI with rfl|rfl|rfl|rfl|rfl|rfl|rfl|rfl|rfl
   ·exact ⟨_, λ_ _=>by kernel_rfl,LG (ad:=ad) t p h xs a0 a1 a2 a3 a4 a5 a6 a7 a8 T k g b hp0 hp1 hp2 0 nw wa wz w0 w1 w2 w3 w4 w5 w6 w7 sv y0 y1 y2 y3 y4 y5 y6 y7 y8 al i cn z0 z1 z2 z3 z4 z5 z6 z7 z8 hI⟩
   ·exact ⟨_, λ_ _=>by kernel_rfl,LG (ad:=ad) t p h xs a0 a1 a2 a3 a4 a5 a6 a7 a8 T k g b hp0 hp1 hp2 1 nw wa wz w0 w1 w2 w3 w4 w5 w6 w7 sv y0 y1 y2 y3 y4 y5 y6 y7 y8 al i cn z0 z1 z2 z3 z4 z5 z6 z7 z8 hI⟩
   ·exact ⟨_, λ_ _=>by kernel_rfl,LG (ad:=ad) t p h xs a0 a1 a2 a3 a4 a5 a6 a7 a8 T k g b hp0 hp1 hp2 2 nw wa wz w0 w1 w2 w3 w4 w5 w6 w7 sv y0 y1 y2 y3 y4 y5 y6 y7 y8 al i cn z0 z1 z2 z3 z4 z5 z6 z7 z8 hI⟩
   ·exact ⟨_, λ_ _=>by kernel_rfl,LG (ad:=ad) t p h xs a0 a1 a2 a3 a4 a5 a6 a7 a8 T k g b hp0 hp1 hp2 3 nw wa wz w0 w1 w2 w3 w4 w5 w6 w7 sv y0 y1 y2 y3 y4 y5 y6 y7 y8 al i cn z0 z1 z2 z3 z4 z5 z6 z7 z8 hI⟩
   ·exact ⟨_, λ_ _=>by kernel_rfl,LG (ad:=ad) t p h xs a0 a1 a2 a3 a4 a5 a6 a7 a8 T k g b hp0 hp1 hp2 4 nw wa wz w0 w1 w2 w3 w4 w5 w6 w7 sv y0 y1 y2 y3 y4 y5 y6 y7 y8 al i cn z0 z1 z2 z3 z4 z5 z6 z7 z8 hI⟩
   ·exact ⟨_, λ_ _=>by kernel_rfl,LG (ad:=ad) t p h xs a0 a1 a2 a3 a4 a5 a6 a7 a8 T k g b hp0 hp1 hp2 5 nw wa wz w0 w1 w2 w3 w4 w5 w6 w7 sv y0 y1 y2 y3 y4 y5 y6 y7 y8 al i cn z0 z1 z2 z3 z4 z5 z6 z7 z8 hI⟩
   ·exact ⟨_, λ_ _=>by kernel_rfl,LG (ad:=ad) t p h xs a0 a1 a2 a3 a4 a5 a6 a7 a8 T k g b hp0 hp1 hp2 6 nw wa wz w0 w1 w2 w3 w4 w5 w6 w7 sv y0 y1 y2 y3 y4 y5 y6 y7 y8 al i cn z0 z1 z2 z3 z4 z5 z6 z7 z8 hI⟩
   ·exact ⟨_, λ_ _=>by kernel_rfl,LG (ad:=ad) t p h xs a0 a1 a2 a3 a4 a5 a6 a7 a8 T k g b hp0 hp1 hp2 7 nw wa wz w0 w1 w2 w3 w4 w5 w6 w7 sv y0 y1 y2 y3 y4 y5 y6 y7 y8 al i cn z0 z1 z2 z3 z4 z5 z6 z7 z8 hI⟩
   ·exact ⟨_, λ_ _=>by kernel_rfl,LG (ad:=ad) t p h xs a0 a1 a2 a3 a4 a5 a6 a7 a8 T k g b hp0 hp1 hp2 8 nw wa wz w0 w1 w2 w3 w4 w5 w6 w7 sv y0 y1 y2 y3 y4 y5 y6 y7 y8 al i cn z0 z1 z2 z3 z4 z5 z6 z7 z8 hI⟩),⟨λkk nw wa wz w0 w1 w2 w3 w4 w5 w6 w7 sv y0 y1 y2 y3 y4 y5 y6 y7 y8 al hI ad=>⟨_, λ_ _=>by kernel_rfl,NJ (ad:=ad) t p h xs a0 a1 a2 a3 a4 a5 a6 a7 a8 T k g b hp0 hp1 hp2 kk nw wa wz w0 w1 w2 w3 w4 w5 w6 w7 sv y0 y1 y2 y3 y4 y5 y6 y7 y8 al hI⟩,⟨λkk nw wa wz w0 w1 w2 w3 w4 w5 w6 w7 sv y0 y1 y2 y3 y4 y5 y6 y7 y8 al nu ua uz u0 u1 u2 u3 u4 u5 u6 u7 is hI ad=>⟨_, λ_ _=>by kernel_rfl,NK (ad:=ad) t p h xs a0 a1 a2 a3 a4 a5 a6 a7 a8 T k g b hp0 hp1 hp2 kk nw wa wz w0 w1 w2 w3 w4 w5 w6 w7 sv y0 y1 y2 y3 y4 y5 y6 y7 y8 al nu ua uz u0 u1 u2 u3 u4 u5 u6 u7 is hI⟩,⟨λkk nw wa wz w0 w1 w2 w3 w4 w5 w6 w7 y0 y1 y2 y3 y4 y5 y6 y7 y8 al nu ua uz u0 u1 u2 u3 u4 u5 u6 u7 is cn z0 z1 z2 z3 z4 z5 z6 z7 z8 hI ad=>(by
   rcases Og t p h xs a0 a1 a2 a3 a4 a5 a6 a7 a8 T k g b hp0 hp1 hp2 kk nw wa wz w0 w1 w2 w3 w4 w5 w6 w7 y0 y1 y2 y3 y4 y5 y6 y7 y8 al nu ua uz u0 u1 u2 u3 u4 u5 u6 u7 is cn z0 z1 z2 z3 z4 z5 z6 z7 z8 hI with rfl|rfl|rfl|rfl|rfl|rfl|rfl|rfl|rfl
   ·exact ⟨_, λ_ _=>by kernel_rfl,LH (ad:=ad) t p h xs a0 a1 a2 a3 a4 a5 a6 a7 a8 T k g b hp0 hp1 hp2 0 nw wa wz w0 w1 w2 w3 w4 w5 w6 w7 y0 y1 y2 y3 y4 y5 y6 y7 y8 al nu ua uz u0 u1 u2 u3 u4 u5 u6 u7 is cn z0 z1 z2 z3 z4 z5 z6 z7 z8 hI⟩
   ·exact ⟨_, λ_ _=>by kernel_rfl,LH (ad:=ad) t p h xs a0 a1 a2 a3 a4 a5 a6 a7 a8 T k g b hp0 hp1 hp2 1 nw wa wz w0 w1 w2 w3 w4 w5 w6 w7 y0 y1 y2 y3 y4 y5 y6 y7 y8 al nu ua uz u0 u1 u2 u3 u4 u5 u6 u7 is cn z0 z1 z2 z3 z4 z5 z6 z7 z8 hI⟩
   ·exact ⟨_, λ_ _=>by kernel_rfl,LH (ad:=ad) t p h xs a0 a1 a2 a3 a4 a5 a6 a7 a8 T k g b hp0 hp1 hp2 2 nw wa wz w0 w1 w2 w3 w4 w5 w6 w7 y0 y1 y2 y3 y4 y5 y6 y7 y8 al nu ua uz u0 u1 u2 u3 u4 u5 u6 u7 is cn z0 z1 z2 z3 z4 z5 z6 z7 z8 hI⟩
   ·exact ⟨_, λ_ _=>by kernel_rfl,LH (ad:=ad) t p h xs a0 a1 a2 a3 a4 a5 a6 a7 a8 T k g b hp0 hp1 hp2 3 nw wa wz w0 w1 w2 w3 w4 w5 w6 w7 y0 y1 y2 y3 y4 y5 y6 y7 y8 al nu ua uz u0 u1 u2 u3 u4 u5 u6 u7 is cn z0 z1 z2 z3 z4 z5 z6 z7 z8 hI⟩
   ·exact ⟨_, λ_ _=>by kernel_rfl,LH (ad:=ad) t p h xs a0 a1 a2 a3 a4 a5 a6 a7 a8 T k g b hp0 hp1 hp2 4 nw wa wz w0 w1 w2 w3 w4 w5 w6 w7 y0 y1 y2 y3 y4 y5 y6 y7 y8 al nu ua uz u0 u1 u2 u3 u4 u5 u6 u7 is cn z0 z1 z2 z3 z4 z5 z6 z7 z8 hI⟩
   ·exact ⟨_, λ_ _=>by kernel_rfl,LH (ad:=ad) t p h xs a0 a1 a2 a3 a4 a5 a6 a7 a8 T k g b hp0 hp1 hp2 5 nw wa wz w0 w1 w2 w3 w4 w5 w6 w7 y0 y1 y2 y3 y4 y5 y6 y7 y8 al nu ua uz u0 u1 u2 u3 u4 u5 u6 u7 is cn z0 z1 z2 z3 z4 z5 z6 z7 z8 hI⟩
   ·exact ⟨_, λ_ _=>by kernel_rfl,LH (ad:=ad) t p h xs a0 a1 a2 a3 a4 a5 a6 a7 a8 T k g b hp0 hp1 hp2 6 nw wa wz w0 w1 w2 w3 w4 w5 w6 w7 y0 y1 y2 y3 y4 y5 y6 y7 y8 al nu ua uz u0 u1 u2 u3 u4 u5 u6 u7 is cn z0 z1 z2 z3 z4 z5 z6 z7 z8 hI⟩
   ·exact ⟨_, λ_ _=>by kernel_rfl,LH (ad:=ad) t p h xs a0 a1 a2 a3 a4 a5 a6 a7 a8 T k g b hp0 hp1 hp2 7 nw wa wz w0 w1 w2 w3 w4 w5 w6 w7 y0 y1 y2 y3 y4 y5 y6 y7 y8 al nu ua uz u0 u1 u2 u3 u4 u5 u6 u7 is cn z0 z1 z2 z3 z4 z5 z6 z7 z8 hI⟩
   ·exact ⟨_, λ_ _=>by kernel_rfl,LH (ad:=ad) t p h xs a0 a1 a2 a3 a4 a5 a6 a7 a8 T k g b hp0 hp1 hp2 8 nw wa wz w0 w1 w2 w3 w4 w5 w6 w7 y0 y1 y2 y3 y4 y5 y6 y7 y8 al nu ua uz u0 u1 u2 u3 u4 u5 u6 u7 is cn z0 z1 z2 z3 z4 z5 z6 z7 z8 hI⟩),trivial⟩⟩⟩⟩⟩⟩⟩
theorem NL (t p h:Int) (xs a0 a1 a2 a3 a4 a5 a6 a7 a8:LI) (T k g b:Int) (a_0:Option Addr) (c_0:Nat) (a_1:Option Addr) (c_1:Nat) {E_:Ev} {G_:Hp} {w_:World} (hr0:RowAt G_ a_0 xs.length [.ints .u32 xs]∧xs.length≤c_0) (hr1:(RowAt G_ a_1 a0.length [.sls a0, .sls a1, .sls a2, .sls a3, .sls a4, .sls a5, .sls a6, .sls a7, .sls a8]∧a0.length≤c_1)∧RowAt E_.z a_1 a0.length [.sls a0, .sls a1, .sls a2, .sls a3, .sls a4, .sls a5, .sls a6, .sls a7, .sls a8]∧subs E_.z a0.length [.sls a0, .sls a1, .sls a2, .sls a3, .sls a4, .sls a5, .sls a6, .sls a7, .sls a8]) (hp0:bdAll xs) (hp1:MO a0 a1 a2 a3 a4 a5 a6 a7 a8) (hp2:MP a0 a1 a2 a3 a4 a5 a6 a7 a8) (hS:Sat E_ G_ w_ []):Calls Tryz.prog 4 #[(.agg #[.int .i64 t, .int .i64 p, .int .i64 h]),(.slice a_0 xs.length c_0),(.agg #[.slice a_1 a0.length c_1, .int .i64 T, .int .i64 k, .int .i64 g, .int .i64 b])] w_ (λen w'=>en= .returned (.bool (SmallFlushes t p h xs a0 a1 a2 a3 a4 a5 a6 a7 a8 T k g b))∧Sat E_ G_ w' []):=by
 refine law_of Dg (c:=Nz) (F:=SmallFlushes) (pre:= λt p h xs a0 a1 a2 a3 a4 a5 a6 a7 a8 T k g b=>[bdAll xs,MO a0 a1 a2 a3 a4 a5 a6 a7 a8,MP a0 a1 a2 a3 a4 a5 a6 a7 a8]) O1 [((.agg #[.int .i64 t, .int .i64 p, .int .i64 h]),(.none)),((.slice a_0 xs.length c_0),(.row xs.length [.ints .u32 xs])),((.agg #[.slice a_1 a0.length c_1, .int .i64 T, .int .i64 k, .int .i64 g, .int .i64 b]),(.many [.row a0.length [.sls a0, .sls a1, .sls a2, .sls a3, .sls a4, .sls a5, .sls a6, .sls a7, .sls a8], .none, .none, .none, .none]))] [.i t, .i p, .i h, .li xs, .li a0, .li a1, .li a2, .li a3, .li a4, .li a5, .li a6, .li a7, .li a8, .i T, .i k, .i g, .i b] (by kernel_rfl) _ (by kernel_rfl) (by kernel_rfl) (by kernel_rfl) ?_ ?_ hS
 ·intro p hp
  have hp:p∈[(bdAll xs:Prop),(MO a0 a1 a2 a3 a4 a5 a6 a7 a8:Prop),(MP a0 a1 a2 a3 a4 a5 a6 a7 a8:Prop)]:=hp
  simp only [iG,kL,or_false] at hp
  rcases hp with rfl|rfl|rfl
  ·exact hp0
  ·exact hp1
  ·exact hp2
 ·intro x hx
  simp only [iG,kL,or_false] at hx
  rcases hx with rfl|rfl|rfl
  ·first|(simp only [iOk,isOk,and_true,true_and];done)|(simp only [iOk,isOk,and_true,true_and];exact ⟨_,_,rfl,trivial⟩)|simp [iOk,isOk]
  ·first|(simp only [iOk,isOk,and_true,true_and];done)|(simp only [iOk,isOk,and_true,true_and];exact ⟨_,_,rfl,hr0.1,hr0.2, λh=>by cases h⟩)|simp [iOk,isOk]
  ·first|(simp only [iOk,isOk,and_true,true_and];done)|(simp only [iOk,isOk,and_true,true_and];exact ⟨_,_,rfl,hr1.1.1,hr1.1.2, λ_=>hr1.2⟩)|simp [iOk,isOk]
end
section
open Go.ChangeShapes Go.WideShapes Go.ChangeAt Go.RowKit Go.Joins Go.Sl
theorem Oh:ownKnob Tryz.prog.godebug=none:=by kernel_rfl
theorem NC:laidOutB Tryz.prog=true:=by kernel_rfl
set_option maxRecDepth 100000 in
theorem NG (os:Os) (started:os.Started) (H:Type) (enc:TypeId×Value→H):
 ReturnsInHanded {} Tryz.checked os 4 .any (Rows.smallFlushesSpec.pre6 enc Tryz.prog Tryz.f4 Rows.smallFlushesRow.domain false) (Rows.smallFlushesSpec.post enc Tryz.prog Tryz.f4 false true false false):=by
 refine returnsInHanded_of_change (C:=Tryz.checked) Oh started (by kernel_rfl) Tryz.func4
  (ChangeSpec.witness6 (enc:=enc) (C:=Tryz.checked) false ⟨#[], #[.agg #[.int .i64 0, .int .i64 0, .int .i64 0], .slice none 0 0, .agg #[.slice none 0 0, .int .i64 0, .int .i64 0, .int .i64 0, .int .i64 0]],[]⟩ 8 (by kernel_rfl) (by kernel_rfl) (by kernel_rfl) (by kernel_rfl)) ?_
 intro W base args ds gs before hval0 hW _ _
 have hval:∀(j:Nat) t v,Tryz.f4.params[j]? =some t→args[j]? =some v→qF Tryz.prog W .any base t v:=hval0
 have hW':=hW
 obtain ⟨p,q,hA0,_,_,_,_⟩:=hW
 have hA:DataW.TrodAll enc Tryz.prog W 0 (λ_=>true) true Tryz.f4.params.toList args.toList ds p:=hA0
 rw [Tryz.params4] at hA hval
 obtain ⟨v0,v1,v2,d0,d1,d2,p0,p1,p2,rfl,rfl,_,h0,h1,h2⟩:=trodAll_three hA
 obtain ⟨k0,rfl,hk0⟩:=open_flat 8 (by kernel_rfl) (sh:=[.int .i64, .int .i64, .int .i64]) (by kernel_rfl) (hval 0 23 v0 rfl rfl) h0
 obtain ⟨_,r0_0,rfl,⟨a0_0,rfl,wa0_0⟩,hk0⟩:=hk0
 have ba0_0:=bd_i64 wa0_0
 obtain ⟨_,r0_1,rfl,⟨a0_1,rfl,wa0_1⟩,hk0⟩:=hk0
 have ba0_1:=bd_i64 wa0_1
 obtain ⟨_,r0_2,rfl,⟨a0_2,rfl,wa0_2⟩,hk0⟩:=hk0
 have ba0_2:=bd_i64 wa0_2
 obtain rfl:=hk0
 obtain ⟨s1,n1,c1,k1,rfl,hk1,hr1⟩:=open_rows 8 Tryz.underlying24 (sh:=[.int .u32]) (by kernel_rfl) (by kernel_rfl) (hval 1 24 v1 rfl rfl) h1
 obtain ⟨_,r1_0,rfl,⟨x1_0,rfl,hl1_0,hw1_0⟩,hk1⟩:=hk1
 obtain rfl:=hk1
 subst hl1_0
 obtain ⟨s2,n2,c2,F,y1,y2,y3,y4,rfl,⟨wy1,wy2,wy3,wy4⟩,hl,hr2,hsb,hbd⟩:=open_ask (tI:=3) Tryz.underlying27 rfl ⟨rfl,rfl⟩ ⟨rfl,rfl⟩ ⟨rfl,rfl⟩ ⟨rfl,rfl⟩ ⟨rfl,rfl⟩ (by kernel_rfl) (by kernel_rfl) (by kernel_rfl) Tryz.underlying3 Tryz.underlying25 Tryz.underlying40 Tryz.underlying38 Tryz.underlying2 (by kernel_rfl) (by kernel_rfl) (by kernel_rfl) (hval 2 27 v2 rfl rfl) h2
 obtain rfl:=hl 0
 clear hA0 hval0
 refine (NL a0_0 a0_1 a0_2 x1_0 (F 0) (F 1) (F 2) (F 3) (F 4) (F 5) (F 6) (F 7) (F 8) y1 y2 y3 y4 s1 c1 s2 c2 hr1 ⟨hr2,hr2.1,hsb⟩ (λv hv=>bd_u32 (hw1_0 v hv)) ⟨λi hi=>hbd 0 i (by decide) hi, λi hi=>hbd 1 i (by decide) hi, λi hi=>hbd 2 i (by decide) hi, λi hi=>hbd 3 i (by decide) hi, λi hi=>hbd 4 i (by decide) hi, λi hi=>hbd 5 i (by decide) hi, λi hi=>hbd 6 i (by decide) hi, λi hi=>hbd 7 i (by decide) hi, λi hi=>hbd 8 i (by decide) hi⟩ ⟨hl 1,hl 2,hl 3,hl 4,hl 5,hl 6,hl 7,hl 8⟩ (Sat.start W)).mono λe W' ⟨he,hS⟩=>?_
 rw [show SmallFlushes a0_0 a0_1 a0_2 x1_0 (F 0) (F 1) (F 2) (F 3) (F 4) (F 5) (F 6) (F 7) (F 8) y1 y2 y3 y4=true from rfl] at he
 subst he
 exact ⟨_,rfl,law_post 4 NC hW' rfl rfl Tryz.underlying4 (by kernel_rfl) ⟨rfl,rfl,rfl⟩ hS.below⟩
theorem SmallFlushes_holds:Rows.SmallFlushesSaid:=
 OpenClaim.holds_of_wide 4 Tryz.f4 rfl rfl rfl rfl rfl rfl rfl ⟨rfl,rfl,rfl,rfl,rfl⟩ rfl rfl rfl rfl rfl (by kernel_rfl) Tryz.func4 (by kernel_rfl)
  (of_decide_eq_true (by kernel_rfl)) (by unfold Func.isWrapper;rw [if_neg (of_decide_eq_false (by kernel_rfl))];exact ⟨rfl,rfl⟩)
  (λos started H enc _=>NG os started H enc)
#print axioms SmallFlushes_holds
end
end Go.Proofs.YtinpgnomkmmfdaaGreat
