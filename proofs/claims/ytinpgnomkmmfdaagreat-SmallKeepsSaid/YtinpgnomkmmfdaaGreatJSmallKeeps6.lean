/-
  Of every heap, and pockets that fit it: behind allocating the pockets fit, and just one block more is live, of the class's size, that was not live before; freed, the heap holds what it held, and the pockets fit: the law's function answers true for every configuration, values and ask. Conditions: none.
-/
import Derived.Test.YtinpgnomkmmfdaaGreatJSmallKeeps5
import Derived.Test.YtinpgnomkmmfdaaGreatRows
set_option linter.unusedSimpArgs false
set_option linter.unusedVariables false
open Go.IntKind renaming wrap → iA, i64 → iB, u32 → iS, wrap_u32 → nQ
open List renaming getD_eq_getElem?_getD → iD, length → iF, getD → iG, mem_cons → iH, getElem?_eq_getElem → iM, getElem?_set_self → iX, mem_singleton → iY, getElem?_set_ne → jE, map_append → jH, length_cons → jJ, length_append → jL, append_assoc → jX, getElem?_cons_succ → kB, mem_append → kC, cons_append → kE, length_map → kG, not_mem_nil → kM, mem_map → kW, append_nil → lF, take_of_length_le → lH, set → lI, length_singleton → lK, contains_iff_mem → lL, nodup_cons → lN, mem_filter → mK, nil_append → mT, length_set → mU, filter_cons → mW, singleton_append → mX, length_nil → nY, getD_cons_succ → oT, take_add_one → pK, nodup_append → pM, getElem_mem → pS
open Bool renaming and_eq_true → iE, or_eq_false_iff → jB, not_eq_true' → jP, not_eq_false' → jZ, or_eq_true → kZ, true_and → nT, or_true → pH, or_false → pJ
open Int renaming toNat → iI, mul_le_mul_of_nonneg_right → kK, add_mul → nN, one_mul → nW, mul_comm → oQ, mul_le_mul_of_nonneg_left → pB
open Go.Value renaming okWide → qH
open Nat renaming eq_of_beq_eq_true → iK, beq → iN, le_refl → kA, ble → kI, zero_add → lX, zero_le → oG, beq_refl → oO
open Go.Sl.Col renaming sls → kH
open Prod.mk renaming injEq → iU
open Prod renaming fst → jY, snd → lD
namespace Go.Proofs.YtinpgnomkmmfdaaGreat
section
open Go Go.Sl
theorem oft_cons (x:Int) (l:LI) (a:Int):oft (x::l) a=(bif x==a then 1 else 0)+oft l a:=by
 unfold oft
 rw [mW]
 cases x==a with
 |true=>simp only [if_true,jJ,cond_true];push_cast;omega
 |false=>simp
theorem oft_out {l:LI} {a:Int} (h:a ∉ l):oft l a=0:=by
 unfold oft
 rw [List.filter_eq_nil_iff.2 λx hx=>by
  have:x≠a:= λe=>h (e▸hx)
  simpa using this]
 rfl
theorem oft_pos {l:LI} {a:Int} (h:a∈l):1≤oft l a:=by
 unfold oft
 have:0<(l.filter (· ==a)).length:=List.length_pos_of_mem (mK.2 ⟨h,by simp⟩)
 omega
theorem nodup_oft:∀{l:LI},(∀a∈l,oft l a=1)→l.Nodup
 |[],_=>List.nodup_nil
 |x::l,h=>by
  have hx:=h x (by simp)
  rw [oft_cons] at hx
  have e:(x==x)=true:=by simp
  rw [e,cond_true] at hx
  have hn:x ∉ l:= λhm=>by have:=oft_pos hm;omega
  refine lN.2 ⟨hn,nodup_oft λa ha=>?_⟩
  have h1:=h a (by simp [ha])
  rw [oft_cons] at h1
  have e2:(x==a)=false:=by
   have:x≠a:= λe=>hn (e▸ha)
   simpa using this
  rw [e2] at h1;simpa using h1
theorem oft_nodup:∀{l:LI} {a:Int},l.Nodup→a∈l→oft l a=1
 |[],_,_,h=>by cases h
 |x::l,a,hn,h=>by
  obtain ⟨h1,h2⟩:=lN.1 hn
  rw [oft_cons]
  by_cases e:x=a
  ·subst e;rw [oft_out h1];simp
  ·have e2:(x==a)=false:=by simpa using e
   rw [e2,oft_nodup h2 ((iH.1 h).resolve_left λq=>e q.symm)];rfl
def othL (c:LI) (T:Nat):Nat→LI
 |0=>[]
 |n+1=>othL c T n++(bif iN n T then [] else slR (c.getD n 0))
theorem beqN_ne {a b:Nat} (h:a≠b):iN a b=false:=by
 cases hh:iN a b with
 |false=>rfl
 |true=>exact absurd (iK hh) h
theorem othL_hi {c:LI} {T:Nat}:∀{n:Nat},n≤T→othL c T n=allL c n
 |0,_=>rfl
 |n+1,h=>by rw [othL,allL,othL_hi (by omega),beqN_ne (by omega)];rfl
theorem oth_perm {c:LI} {T:Nat}:∀{n:Nat},T<n→(allL c n).Perm (slR (c.getD T 0)++othL c T n)
 |0,h=>by omega
 |n+1,h=>by
  rw [allL,othL]
  by_cases e:n=T
  ·subst e
   rw [oO,cond_true,lF,othL_hi (kA _)]
   exact List.perm_append_comm
  ·rw [beqN_ne e,cond_false,←jX]
   exact (oth_perm (by omega)).append_right _
theorem othL_set {c:LI} {T:Nat} {e:Int}:∀{n:Nat},othL (c.set T e) T n=othL c T n
 |0=>rfl
 |n+1=>by
  rw [othL,othL,othL_set]
  by_cases h:n=T
  ·subst h;rw [oO];rfl
  ·rw [beqN_ne h,cond_false,cond_false,iD,jE (λe=>h e.symm),←iD]
theorem set_getD {c:LI} {T:Nat} {e:Int} (h:T<c.length):(c.set T e).getD T 0=e:=by rw [iD,iX h];rfl
theorem lenB_iff {c:LI}:∀{N:Nat},lenB c N=true↔∀τ,τ<N→(slR (c.getD τ 0)).length≤4
 |0=>⟨λ_ τ h=>by omega, λ_=>rfl⟩
 |n+1=>⟨λh τ hτ=>lenB_all h τ hτ, λh=>by
  rw [lenB,lenB_iff.2 λτ hτ=>h τ (by omega),nT,decide_eq_true_eq]
  exact h n (by omega)⟩
theorem lenB_set {c:LI} {T:Nat} {e:Int} {N:Nat} (hl:N=c.length) (h:lenB c N=true) (he:(slR e).length≤4):lenB (c.set T e) N=true:=by
 rw [lenB_iff] at h ⊢
 intro τ hτ
 by_cases ht:τ=T
 ·subst ht;rw [set_getD (by omega)];exact he
 ·rw [iD,jE (λe=>ht e.symm),←iD];exact h τ hτ
section
variable {c:Cf} {m m':Mm} {xs:LI} {k g j a:Int}
def adS (c:Cf) (k g j:Int):Int:=(g+1)*pgB c.s+j*szB c.s k
structure IdS (c:Cf) (m:Mm) (k g j:Int):Prop where
 pg:0≤g∧g<c.p
 sl:0≤j∧j<kSlots k
 k3:(ifM m g).k=3
 cl:(ifM m g).c=k
 tk:bitAt (m.taken g) j=true
 lv:bitAt (m.slots g) j=false
def IdM (c:Cf) (m:Mm) (k a:Int):Prop:=∃g j:Int,IdS c m k g j∧a=adS c k g j
theorem IdS.kb (h:IdS c m k g j):0≤k∧k≤8:=cls_of h.sl.1 h.sl.2
theorem ad_rng (hs:10≤c.s∧c.s≤20) (h:0≤j∧j<kSlots k):(g+1)*pgB c.s≤adS c k g j∧adS c k g j<(g+2)*pgB c.s:=by
 have:=slot_rng (c:=c) (xs:=[]) hs (g:=g) (k:=k) (j:=j.toNat) (by omega)
 rw [show ((j.toNat:Nat):Int)=j by omega] at this
 exact this
theorem ad_pg (hs:10≤c.s∧c.s≤20) {k' g' j':Int} (h:0≤j∧j<kSlots k) (h':0≤j'∧j'<kSlots k') (e:adS c k g j=adS c k' g' j'):g=g':=by
 have a1:=ad_rng hs (g:=g) h
 have a2:=ad_rng hs (g:=g') h'
 have hp:1024≤pgB c.s:=(szB_ok hs (k:=0) (by omega)).2.2.2.2.1
 have lt:∀x y:Int,x<y→(x+2)*pgB c.s≤(y+1)*pgB c.s:= λx y h=>kK (by omega) (by omega)
 rcases Int.lt_trichotomy g g' with q|q|q
 ·have:=lt _ _ q;omega
 ·exact q
 ·have:=lt _ _ q;omega
theorem ad_inj (hs:10≤c.s∧c.s≤20) {g' j':Int} (h:0≤j∧j<kSlots k) (h':0≤j'∧j'<kSlots k) (e:adS c k g j=adS c k g' j'):g=g'∧j=j':=by
 have eg:=ad_pg hs h h' e
 subst eg
 refine ⟨rfl,?_⟩
 have hz:=(szB_ok hs (cls_of h.1 h.2)).2.1
 unfold adS at e
 have e:j*szB c.s k=j'*szB c.s k:=by omega
 exact Int.eq_of_mul_eq_mul_right (by omega) e
theorem mem_partsF {x:Pt}:∀{n:Nat},x∈partsF c xs n↔∃g:Nat,g<n∧x∈partsOf c xs g
 |0=>⟨λh=>(by cases h), λh=>by obtain ⟨g,h,_⟩:=h;omega⟩
 |n+1=>by
  rw [partsF,kC,mem_partsF (n:=n)]
  constructor
  ·rintro (⟨g,h1,h2⟩|h)
   ·exact ⟨g,by omega,h2⟩
   ·exact ⟨n,by omega,h⟩
  ·rintro ⟨g,h1,h2⟩
   by_cases e:g=n
   ·subst e;exact .inr h2
   ·exact .inl ⟨g,by omega,h2⟩
theorem mem_slabF {x:Pt}:∀{n:Nat},x∈slabF c xs g k n↔∃j:Nat,j<n∧x=slabPt c xs g k j
 |0=>⟨λh=>(by cases h), λh=>by obtain ⟨g,h,_⟩:=h;omega⟩
 |n+1=>by
  rw [slabF,kC,mem_slabF (n:=n),iY]
  constructor
  ·rintro (⟨g,h1,h2⟩|h)
   ·exact ⟨g,by omega,h2⟩
   ·exact ⟨n,by omega,h⟩
  ·rintro ⟨g,h1,h2⟩
   by_cases e:g=n
   ·subst e;exact .inr h2
   ·exact .inl ⟨g,by omega,h2⟩
theorem mem_idP (hs:10≤c.s∧c.s≤20) (hp:0≤c.p) (hk:0≤k∧k≤8) {x:Pt}:x∈(partsL c xs).filter (idP (r05_Size c.s k))↔∃g j,IdS c (Mm.of c xs) k g j∧x=⟨4,adS c k g j,szB c.s k⟩:=by
 rw [mK,(szB_ok hs hk).1]
 constructor
 ·rintro ⟨h1,h2⟩
  unfold idP at h2
  simp only [iE,beq_iff_eq] at h2
  obtain ⟨g,g1,g2⟩:=mem_partsF.1 h1
  have hin:x∈(partsOf c xs g).filter idl:=mK.2 ⟨g2,by unfold idl;rw [h2.1];rfl⟩
  cases h12:((aInfo c xs g).k==1||(aInfo c xs g).k==2) with
  |true=>
   rw [partsOf_one c xs h12,iY] at g2
   subst g2
   simp only [kZ,beq_iff_eq] at h12
   rcases h12 with h|h<;>(dsimp only at h2;omega)
  |false=>
   cases h3:((aInfo c xs g).k==3) with
   |false=>
    simp only [jB] at h12
    rw [partsOf_none c xs h12.1 h12.2 h3] at g2;cases g2
   |true=>
    rw [partsOf_slab c xs h3,slabL_idl] at hin
    obtain ⟨j,j1,rfl⟩:=mem_slabF.1 (mK.1 hin).1
    have hj:((j:Nat):Int)<kSlots (aInfo c xs g).c:=by omega
    have hk':=cls_of (by omega) hj
    have e:=szB_in hs hk' hk h2.2
    have h4:slabKind c xs g j=4:=h2.1
    unfold slabKind at h4
    cases hsl:bitAt (cel xs (c.slots g)) j with
    |true=>rw [hsl] at h4;simp at h4
    |false=>
     rw [hsl] at h4
     cases htk:bitAt (cel xs (c.taken g)) j with
     |false=>rw [htk] at h4;simp at h4
     |true=>
      have hk3:(aInfo c xs g).k=3:=by simpa using h3
      refine ⟨g,j,⟨⟨by omega,by omega⟩,⟨by omega,e▸hj⟩,hk3,e,htk,hsl⟩,?_⟩
      unfold slabPt
      rw [slabKind_of c xs hsl htk,e];rfl
 ·rintro ⟨g,j,h,rfl⟩
  have hg:=h.pg
  have hj:=h.sl
  have eg:((g.toNat:Nat):Int)=g:=by omega
  have ej:((j.toNat:Nat):Int)=j:=by omega
  refine ⟨mem_partsF.2 ⟨g.toNat,by omega,?_⟩,by unfold idP;simp⟩
  have hk3:(aInfo c xs g).k=3:=h.k3
  have hcl:(aInfo c xs g).c=k:=h.cl
  rw [eg,partsOf_slab c xs (by rw [hk3];rfl),hcl]
  have:(⟨4,adS c k g j,szB c.s k⟩:Pt)∈slabF c xs g k (kSlots k).toNat:=mem_slabF.2 ⟨j.toNat,by omega,by
   rw [ej]
   unfold slabPt
   rw [slabKind_of c xs (b1:=false) (b2:=true) h.lv h.tk];rfl⟩
  unfold slabL
  cases decide (0<slabRest c k) with
  |false=>exact this
  |true=>rw [cond_true,kC];exact .inl this
theorem idl_nodup (hs:10≤c.s∧c.s≤20) (sz:Int):(((partsL c xs).filter (idP sz)).map (·.a)).Nodup:=by
 have:=(idP_idl (sz:=sz) (partsL c xs)).mpr ((partsF_sorted hs _).filter _)
 rw [List.Nodup,List.pairwise_map]
 exact this.imp λ{x y} h=>by omega
def FitK (c:Cf) (m:Mm) (k:Int) (l:LI):Prop:=l.Nodup∧∀a,a∈l↔IdM c m k a
theorem FitK.perm {l l':LI} (h:FitK c m k l) (e:l.Perm l'):FitK c m k l':=⟨e.nodup_iff.1 h.1, λa=>e.mem_iff.symm.trans (h.2 a)⟩
theorem fitK_len (hs:10≤c.s∧c.s≤20) (hp:0≤c.p) (hk:0≤k∧k≤8) {l:LI} (h:FitK c (Mm.of c xs) k l):((partsL c xs).filter (idP (r05_Size c.s k))).length=l.length∧∀x∈(partsL c xs).filter (idP (r05_Size c.s k)),oft l x.a=1:=by
 have hS:=idl_nodup (xs:=xs) hs (r05_Size c.s k)
 have hm:∀a,a∈((partsL c xs).filter (idP (r05_Size c.s k))).map (·.a)↔a∈l:= λa=>by
  rw [h.2 a,kW]
  constructor
  ·rintro ⟨x,hx,rfl⟩
   obtain ⟨g,j,h1,rfl⟩:=(mem_idP hs hp hk).1 hx
   exact ⟨g,j,h1,rfl⟩
  ·rintro ⟨g,j,h1,rfl⟩
   exact ⟨_,(mem_idP hs hp hk).2 ⟨g,j,h1,rfl⟩,rfl⟩
 have a1:=(nodup_cnt _ hS l λa ha=>(hm a).1 ha).1
 have a2:=(nodup_cnt _ h.1 _ λa ha=>(hm a).2 ha).1
 rw [kG] at a1 a2
 exact ⟨by omega, λx hx=>oft_nodup h.1 ((hm _).1 (kW.2 ⟨x,hx,rfl⟩))⟩
theorem fitK_of (hs:10≤c.s∧c.s≤20) (hp:0≤c.p) (hk:0≤k∧k≤8) {l:LI} (h1:((partsL c xs).filter (idP (r05_Size c.s k))).length=l.length) (h2:∀x∈(partsL c xs).filter (idP (r05_Size c.s k)),oft l x.a=1):FitK c (Mm.of c xs) k l:=by
 have hS:=idl_nodup (xs:=xs) hs (r05_Size c.s k)
 have hin:∀a,a∈((partsL c xs).filter (idP (r05_Size c.s k))).map (·.a)↔IdM c (Mm.of c xs) k a:= λa=>by
  rw [kW]
  constructor
  ·rintro ⟨x,hx,rfl⟩
   obtain ⟨g,j,h1,rfl⟩:=(mem_idP hs hp hk).1 hx
   exact ⟨g,j,h1,rfl⟩
  ·rintro ⟨g,j,h1,rfl⟩
   exact ⟨_,(mem_idP hs hp hk).2 ⟨g,j,h1,rfl⟩,rfl⟩
 have ho:∀a∈((partsL c xs).filter (idP (r05_Size c.s k))).map (·.a),oft l a=1:= λa ha=>by
  obtain ⟨x,hx,rfl⟩:=kW.1 ha
  exact h2 x hx
 have hc:=(nodup_cnt _ hS l λa ha=>oft_mem (ho a ha)).2 (by rw [kG];exact h1)
 refine ⟨nodup_oft λa ha=>ho a (hc a ha), λa=>?_⟩
 rw [←hin]
 exact ⟨λha=>hc a ha, λha=>oft_mem (ho a ha)⟩
theorem fitIn_eq {sz:Int} {H:LI}:∀{L:List Pt} {n:Int}, -1000000000≤n-L.length→n≤1000000000→(∀x∈L.filter (idP sz),oft H x.a=1)→fitIn sz H L n=some (n-((L.filter (idP sz)).length:Int))
 |[],n,_,_,_=>by simp [fitIn]
 |x::r,n,h1,h2,h=>by
  rw [jJ] at h1
  rw [fitIn]
  cases hp:idP sz x with
  |false=>
   rw [mW,hp] at h ⊢
   exact fitIn_eq (L:=r) (by push_cast at h1;omega) h2 h
  |true=>
   rw [mW,hp] at h ⊢
   simp only [if_true] at h ⊢
   have ho:(oft H x.a==1)=true:=by rw [h x (by simp)];rfl
   rw [ho,cond_true,cond_true,w64 (n:=n-1) (by push_cast at h1;omega),fitIn_eq (L:=r) (by push_cast at h1;omega) (by omega) λy hy=>h y (by simp [hy]),jJ]
   congr 1;push_cast;omega
theorem fitOut_of {h:Int} {L:List Pt} {C:Int→LI} {N:Nat} (hL:L.length≤100000) (hN:N≤100000):∀(j:Nat),j≤9→(∀i:Nat,i<j→lenB (C (8-i)) N=true∧(L.filter (idP (r05_Size h (8-i)))).length=(allL (C (8-i)) N).length∧∀x∈L.filter (idP (r05_Size h (8-i))),oft (allL (C (8-i)) N) x.a=1)→fitOut h L C N j 0=true
 |0,_,_=>rfl
 |j+1,hj,hall=>by
  obtain ⟨hb,h1,h2⟩:=hall j (by omega)
  rw [fitOut,hb,cond_true]
  have hl:=allL_len hb
  rw [w64 (n:=0+((allL (C (8-j)) N).length:Int)) (by omega),fitIn_eq (by omega) (by omega) h2,h1]
  show fitOut h L C N j _=true
  rw [show (0+((allL (C (8-j)) N).length:Int))-((allL (C (8-j)) N).length:Int)=0 by omega]
  exact fitOut_of hL hN j (by omega) λi hi=>hall i (by omega)
theorem fit_iff (hc:c.ok=true) {C:Int→LI} {N:Nat} (hN:N≤100000):fitOut c.s (partsL c xs) C N 9 0=true↔∀k,0≤k∧k≤8→lenB (C k) N=true∧FitK c (Mm.of c xs) k (allL (C k) N):=by
 have hok:=Cf.ok_iff.1 hc
 have hs:=hok.2.2
 have hl:=partsL_len c xs
 constructor
 ·intro hf k hk
  obtain ⟨h1,h2⟩:=fitOut_true (L:=partsL c xs) (by omega) hN 9 0 (by omega) (by decide) (by decide) hf
  have hle:∀i:Nat,i<9→((partsL c xs).filter (idP (r05_Size c.s (8-i)))).length≤(allL (C (8-i)) N).length:= λi hi=>by
   have:=(nodup_cnt _ (idl_nodup (xs:=xs) hs _) (allL (C (8-i)) N) λb hb=>by
    obtain ⟨x,hx,rfl⟩:=kW.mp hb
    exact oft_mem ((h2 i hi).2 x hx)).1
   rwa [kG] at this
  have he:=dfS_zero (h:=c.s) (L:=partsL c xs) (C:=C) (N:=N) (j:=9) hle (by omega)
  have hi:(8-k).toNat<9:=by omega
  have ek:(8:Int)-((8-k).toNat:Nat)=k:=by omega
  have e1:=he _ hi
  have e2:=h2 _ hi
  rw [ek] at e1 e2
  exact ⟨e2.1,fitK_of hs (by omega) hk e1 e2.2⟩
 ·intro h
  refine fitOut_of (by omega) hN 9 (by omega) λi hi=>?_
  obtain ⟨h1,h2⟩:=h (8-i) (by omega)
  obtain ⟨h3,h4⟩:=fitK_len hs (by omega) (k:=8-i) (by omega) h2
  exact ⟨h1,h3,h4⟩
end
end
section
open Go Go.Sl
theorem w32_nv (x:Int):iA iS x=nv x:=by rw [nQ];rfl
theorem clr_set {v b:Int} (hv:bd32 v) (hb:0≤b∧b<32) (h:bitAt v b=false):clrB (setB v b) b=v:=by
 obtain ⟨h1,h2⟩:=bitAt_setB hv hb
 obtain ⟨g1,g2⟩:=bitAt_clrB h1 hb
 refine bits_ext g1 hv λi=>?_
 rw [g2,h2]
 by_cases e:i=b
 ·subst e;rw [h];simp
 ·simp [e]
theorem addB_left {b:Pt}:∀{l1 l2:List Pt},(∀x∈l2,b.a<x.a)→addB b (l1++l2)=addB b l1++l2
 |[],[],_=>rfl
 |[],y::l2,h=>by
  have:decide (y.a>b.a)=true:=by simpa using h y (by simp)
  simp only [mT,addB,this,cond_true,mX]
 |x::l1,l2,h=>by
  have ih:=addB_left (l1:=l1) h
  simp only [kE,addB,ih]
  cases decide (x.a>b.a)<;>rfl
theorem addB_right {b:Pt}:∀{l1 l2:List Pt},(∀x∈l1,x.a≤b.a)→addB b (l1++l2)=l1++addB b l2
 |[],_,_=>rfl
 |x::l1,l2,h=>by
  have e:decide (x.a>b.a)=false:=by have:=h x (by simp);simpa using this
  have ih:=addB_right (l1:=l1) (l2:=l2) λy hy=>h y (by simp [hy])
  simp only [kE,addB,e,cond_false,ih]
section
variable {c:Cf} {m m':Mm} {s:VS} {L:List Sp} {k g j a:Int}
theorem u3 (h:(ifM m g).k=3):uM m g=ifM m g:=by unfold uM uI;rw [h];rfl
theorem u3' (h:(uM m g).k=3):(ifM m g).k=3:=by
 unfold uM uI at h
 cases e:((ifM m g).k==2||(ifM m g).k==3) with
 |true=>rw [e] at h;exact h
 |false=>rw [e] at h;cases h
theorem IdS.eq (h:IdS c m k g j) (h1:uM m' g=uM m g) (h2:m'.taken g=m.taken g) (h3:m'.slots g=m.slots g):IdS c m' k g j:=by
 have hu:=u3 h.k3
 have k3:(ifM m' g).k=3:=u3' (by rw [h1,hu];exact h.k3)
 have e:ifM m' g=ifM m g:=by rw [←u3 k3,h1,hu]
 exact ⟨h.pg,h.sl,k3,by rw [e];exact h.cl,by rw [h2];exact h.tk,by rw [h3];exact h.lv⟩
theorem IdM.congr (e:MEq c m m'):IdM c m' k a↔IdM c m k a:=by
 constructor
 ·rintro ⟨g,j,h,rfl⟩
  have hg:=h.pg
  exact ⟨g,j,h.eq (uM_eq (e.info g hg.1 hg.2).symm) (e.taken g hg.1 hg.2).symm (e.slots g hg.1 hg.2).symm,rfl⟩
 ·rintro ⟨g,j,h,rfl⟩
  have hg:=h.pg
  exact ⟨g,j,h.eq (uM_eq (e.info g hg.1 hg.2)) (e.taken g hg.1 hg.2) (e.slots g hg.1 hg.2),rfl⟩
theorem FitK.congr {l:LI} (h:FitK c m k l) (e:MEq c m m'):FitK c m' k l:=⟨h.1, λa=>(h.2 a).trans (IdM.congr e).symm⟩
theorem idM_ne (hs:10≤c.s∧c.s≤20) {k':Int} (I:IdS c m k g j) (h:IdM c m k' a) (hk:k'≠k):a≠adS c k g j:=by
 obtain ⟨g',j',h',rfl⟩:=h
 intro e
 have:=ad_pg hs h'.sl I.sl e
 subst this
 exact hk (h'.cl.symm.trans I.cl)
def mBeg (m:Mm) (g b:Int):Mm:={m with slots:=fset m.slots g (setB (m.slots g) b),lv:=nv (m.lv+1)}
def mEnd (m:Mm) (g b:Int):Mm:={m with slots:=fset m.slots g (clrB (m.slots g) b),lv:=nv (m.lv-1)}
theorem beg_at (h:At c s m) (hg:0≤g∧g<c.p) {b:Int} (hb:0≤b∧b<32):At c ((pBeg c g b).run s).1 (mBeg m g b):=by
 unfold pBeg
 simp only [Pg.run_get,Pg.run_put,Pg.run_ret]
 rw [h.get_slots hg]
 have h1:=(h.read (c.slots g)).set_slots hg (setB (m.slots g) b)
 rw [nv_id (bitAt_setB (slt_bd h hg) hb).1] at h1
 have h2:=(h1.read 1).set_lv (iA iS (((s.read (c.slots g)).set (c.slots g) (setB (m.slots g) b)).get 1+1))
 rw [h1.get_lv,w32_nv,nvnv] at h2
 rw [h1.get_lv,w32_nv]
 exact h2
theorem end_at (h:At c s m) (hg:0≤g∧g<c.p) {b:Int} (hb:0≤b∧b<32):At c ((pEnd c g b).run s).1 (mEnd m g b):=by
 unfold pEnd
 simp only [Pg.run_get,Pg.run_put,Pg.run_ret]
 rw [h.get_slots hg]
 have h1:=(h.read (c.slots g)).set_slots hg (clrB (m.slots g) b)
 rw [nv_id (bitAt_clrB (slt_bd h hg) hb).1] at h1
 have h2:=(h1.read 1).set_lv (iA iS (((s.read (c.slots g)).set (c.slots g) (clrB (m.slots g) b)).get 1-1))
 rw [h1.get_lv,w32_nv,nvnv] at h2
 rw [h1.get_lv,w32_nv]
 exact h2
theorem lv_bd (h:At c s m):nv m.lv=m.lv:=by rw [←h.get_lv];exact nv_id (VS.get_bd _ _)
theorem end_beg (h:At c s m) (I:IdS c m k g j):mEnd (mBeg m g j) g j=m:=by
 have hks:=kSlots_bd k
 have hsl:=I.sl
 have e1:clrB ((mBeg m g j).slots g) j=m.slots g:=by
  show clrB (fset m.slots g (setB (m.slots g) j) g) j=_
  rw [fset_same];exact clr_set (slt_bd h I.pg) ⟨hsl.1,by omega⟩ I.lv
 have e2:nv (nv (m.lv+1)-1)=m.lv:=by
  have:=lv_bd h
  unfold nv at this ⊢;omega
 have e3:fset (fset m.slots g (setB (m.slots g) j)) g (m.slots g)=m.slots:=by
  funext q
  by_cases e:q=g
  ·subst e;rw [fset_same]
  ·rw [fset_ne e,fset_ne e]
 unfold mEnd
 rw [e1]
 show ({m with slots:=fset (fset m.slots g (setB (m.slots g) j)) g (m.slots g),lv:=nv (nv (m.lv+1)-1)}:Mm)=m
 rw [e2,e3]
theorem mem_slF {sl q:Int} {x:Pt}:∀{n:Nat},x∈blkU.slF c sl q k n→∃i:Nat,i<n∧bitAt sl i=true∧x=⟨2,adS c k q i,szB c.s k⟩
 |0,h=>by cases h
 |n+1,h=>by
  rw [blkU.slF,kC] at h
  rcases h with h|h
  ·obtain ⟨i,h1,h2⟩:=mem_slF h
   exact ⟨i,by omega,h2⟩
  ·cases hb:bitAt sl n with
   |false=>rw [hb] at h;cases h
   |true=>
    rw [hb,cond_true,iY] at h
    exact ⟨n,by omega,hb,h⟩
theorem ad_lt (hz:0<szB c.s k) {q i i':Int} (h:i<i'):adS c k q i<adS c k q i':=by
 unfold adS
 have:=Int.mul_lt_mul_of_pos_right h hz
 omega
theorem slF_set {sl q:Int} (hv:bd32 sl) (hj:0≤j∧j<32) (hbit:bitAt sl j=false) (hz:0<szB c.s k):∀n:Nat,blkU.slF c (setB sl j) q k n=bif decide (j<n) then addB ⟨2,adS c k q j,szB c.s k⟩ (blkU.slF c sl q k n) else blkU.slF c sl q k n
 |0=>by
  have:decide (j<((0:Nat):Int))=false:=by simp;omega
  rw [this];rfl
 |n+1=>by
  have hb:=(bitAt_setB hv hj).2
  rw [blkU.slF,blkU.slF,slF_set hv hj hbit hz n,hb]
  by_cases e:(n:Int)=j
  ·have d1:decide (j<(n:Int))=false:=by simp;omega
   have d2:decide (j<((n+1:Nat):Int))=true:=by simp;omega
   have d3:decide ((n:Int)=j)=true:=by simpa using e
   rw [d1,d2,d3,pH,cond_true,cond_true,cond_false,e,hbit,cond_false,lF]
   have:=addB_app (b:=⟨2,adS c k q j,szB c.s k⟩) (l1:=blkU.slF c sl q k n) (l2:=[]) (λx hx=>by
    obtain ⟨i,h1,_,rfl⟩:=mem_slF hx
    have:=ad_lt (c:=c) (k:=k) (q:=q) hz (show (i:Int)<j by omega)
    show adS c k q i≤adS c k q j
    omega) (λx hx=>by cases hx)
   rw [lF] at this
   exact this.symm
  ·have d3:decide ((n:Int)=j)=false:=by simpa using e
   have d2:decide (j<((n+1:Nat):Int))=decide (j<(n:Int)):=decide_eq_decide.2 (by push_cast;omega)
   rw [d3,pJ,d2]
   cases hd:decide (j<(n:Int)) with
   |false=>rfl
   |true=>
    have hd:=of_decide_eq_true hd
    rw [cond_true,cond_true]
    refine (addB_left λx hx=>?_).symm
    cases hbn:bitAt sl n with
    |false=>rw [hbn] at hx;cases hx
    |true=>
     rw [hbn,cond_true,iY] at hx
     subst hx
     exact ad_lt hz hd
theorem slab_blkP (h:(ifM m g).k=3):blkP c m g=blkU.slF c (m.slots g) g (ifM m g).c (kSlots (ifM m g).c).toNat:=by
 rw [blkP_u,u3 h]
 unfold blkU
 rw [h];rfl
theorem beg_sound (hok:c.ok=true) (S:SoundM c m L) (I:IdS c m k g j) (hbd:bd32 (m.slots g)):SoundM c (mBeg m g j) L∧blkF c (mBeg m g j) c.p.toNat=addB ⟨2,adS c k g j,szB c.s k⟩ (blkF c m c.p.toNat)∧∀x∈blkF c m c.p.toNat,x.a≠adS c k g j:=by
 have hs:=(Cf.ok_iff.1 hok).2.2
 have hks:=kSlots_bd k
 have hsl:=I.sl
 have hg:=I.pg
 have hb32:0≤j∧j<32:=⟨hsl.1,by omega⟩
 have hz:=(szB_ok hs I.kb).2.1
 have hset:=bitAt_setB hbd hb32
 have hinf:∀q,(mBeg m g j).info q=m.info q:= λ_=>rfl
 have hsg:(mBeg m g j).slots g=setB (m.slots g) j:=fset_same _ _ _
 have hsn:∀q,q≠g→(mBeg m g j).slots q=m.slots q:= λq h=>fset_ne h
 obtain ⟨S1,S2⟩:=snd_iff.1 S.snd
 have hP:∀q,q≠g→blkP c (mBeg m g j) q=blkP c m q:= λq h=>by rw [blkP_u,blkP_u,hsn q h];rfl
 have hPg:blkP c (mBeg m g j) g=addB ⟨2,adS c k g j,szB c.s k⟩ (blkP c m g):=by
  have k3:=I.k3
  rw [slab_blkP (m:=mBeg m g j) k3,slab_blkP k3,hsg]
  show blkU.slF c (setB (m.slots g) j) g (ifM m g).c (kSlots (ifM m g).c).toNat=addB _ (blkU.slF c (m.slots g) g (ifM m g).c (kSlots (ifM m g).c).toNat)
  rw [I.cl,slF_set hbd hb32 I.lv (by omega)]
  have:decide (j<(((kSlots k).toNat:Nat):Int))=true:=by simp;omega
  rw [this,cond_true]
 have hrg:=ad_rng hs (g:=g) hsl
 have hP2:(g+2)*pgB c.s=(g+1)*pgB c.s+pgB c.s:=by rw [show g+2=(g+1)+1 by omega,nN,nW]
 have hblk:blkF c (mBeg m g j) c.p.toNat=addB ⟨2,adS c k g j,szB c.s k⟩ (blkF c m c.p.toNat):=by
  rw [blkF_split (m:=mBeg m g j) hg.1 hg.2,blkF_split (m:=m) hg.1 hg.2,hPg,
   blkF_congr (m:=m) (m':=mBeg m g j) (n:=g.toNat) λq q0 q1=>hP q (by omega),
   blkT_congr (m:=m) (m':=mBeg m g j) λq q0 q1=>hP q (by omega)]
  rw [addB_right λx hx=>by
      have:=blkF_lt hok hg.1 hx
      show x.a≤adS c k g j
      omega,
   addB_left λx hx=>by
    have:=blkT_ge hok hx
    show adS c k g j<x.a
    omega]
 have hno:∀x∈blkF c m c.p.toNat,x.a≠adS c k g j:= λx hx e=>by
  rw [blkF_split hg.1 hg.2,kC,kC] at hx
  rcases hx with hx|hx|hx
  ·have:=blkF_lt hok hg.1 hx;omega
  ·rw [slab_blkP I.k3,I.cl] at hx
   obtain ⟨i,h1,h2,rfl⟩:=mem_slF hx
   have:=(ad_inj hs (g:=g) (j:=(i:Int)) (k:=k) ⟨by omega,by omega⟩ hsl e).2
   rw [this,I.lv] at h2;cases h2
  ·have:=blkT_ge hok hx;omega
 refine ⟨⟨snd_iff.2 ⟨⟨S1.tl.of_eq (λ_ _ _=>rfl) (λ_ _ _=>rfl),S1.ap, λq q0 q1 b b0 b1=>?_,S1.some⟩,S2.of_eq (λh=>by cases h<;>rfl) rfl rfl λh _ q _ _=>by cases h<;>rfl⟩,⟨S.cnt.1,?_⟩, λi i0 i1=>?_⟩,hblk,hno⟩
 ·have hold:=S1.bits q q0 q1 b b0 b1
  by_cases e:q=g
  ·subst e
   unfold badM at hold ⊢
   rw [hsg,hset.2]
   show (_&&!bitAt (m.taken q) b||(bitAt (m.taken q) b&&((ifM m q).k !=3||decide (b≥kSlots (ifM m q).c))))=false
   by_cases eb:b=j
   ·subst eb
    rw [I.tk] at hold ⊢
    simpa using hold
   ·have:decide (b=j)=false:=by simpa using eb
    rw [this,pJ];exact hold
  ·rw [badM_eq (m:=m) (m':=mBeg m g j) rfl (hsn q e) rfl];exact hold
 ·show nv (m.lv+1)=_
  rw [smF_one (f:=lvP (mBeg m g j)) (g:=lvP m) (a:=g) hg.1 (by omega) λq q0 q1 q2=>lvP_eq (m:=m) (m':=mBeg m g j) rfl (hsn q q2),S.cnt.2]
  have e1:lvP (mBeg m g j) g=lvP m g+1:=by
   rw [lvP_u,lvP_u,hsg]
   have:=(clr_ones hset.1 hb32 (by rw [hset.2];simp)).1
   rw [clr_set hbd hb32 I.lv] at this
   rw [this]
   show (bif (uM m g).k==2 then 1 else 0)+(ones (m.slots g)+1)=_
   omega
  rw [e1]
  unfold nv;omega
 ·show m.root i=0∨_
  rcases S.rts i i0 i1 with h|⟨x,x1,x2⟩
  ·exact .inl h
  ·exact .inr ⟨x,by rw [hblk];exact mem_addB.2 (.inr x1),x2⟩
theorem beg_id (hs:10≤c.s∧c.s≤20) (I:IdS c m k g j) (hbd:bd32 (m.slots g)) {k' a':Int}:IdM c (mBeg m g j) k' a'↔IdM c m k' a'∧a'≠adS c k g j:=by
 have hks:=kSlots_bd k
 have hsl:=I.sl
 have hset:=bitAt_setB hbd (s:=j) ⟨hsl.1,by omega⟩
 constructor
 ·rintro ⟨g',j',h,rfl⟩
  have hlv:=h.lv
  by_cases e:g'=g
  ·subst e
   have e1:(mBeg m g' j).slots g'=setB (m.slots g') j:=fset_same _ _ _
   rw [e1,hset.2] at hlv
   simp only [jB,decide_eq_false_iff_not] at hlv
   have hc:k'=k:=h.cl.symm.trans I.cl
   subst hc
   exact ⟨⟨g',j',⟨h.pg,h.sl,h.k3,h.cl,h.tk,hlv.1⟩,rfl⟩, λe=>hlv.2 (ad_inj hs h.sl hsl e).2⟩
  ·exact ⟨⟨g',j',⟨h.pg,h.sl,h.k3,h.cl,h.tk,by rw [show (mBeg m g j).slots g'=m.slots g' from fset_ne e] at hlv;exact hlv⟩,rfl⟩, λe2=>e (ad_pg hs h.sl hsl e2)⟩
 ·rintro ⟨⟨g',j',h,rfl⟩,hne⟩
  refine ⟨g',j',⟨h.pg,h.sl,h.k3,h.cl,h.tk,?_⟩,rfl⟩
  by_cases e:g'=g
  ·subst e
   have hc:k'=k:=h.cl.symm.trans I.cl
   subst hc
   have e1:(mBeg m g' j).slots g'=setB (m.slots g') j:=fset_same _ _ _
   rw [e1,hset.2,h.lv]
   have:j'≠j:= λe=>hne (by rw [e])
   simpa using this
  ·rw [show (mBeg m g j).slots g'=m.slots g' from fset_ne e];exact h.lv
theorem pick_id {l:LI} {p d:Int} (hp:0≤p∧p<c.p) (C:Pk c m m' p k d l) (ht:bd32 (m.taken p)) (hb:∀b:Int,0≤b→b<32→badM m p b=false) {k' a':Int}:IdM c m' k' a'↔IdM c m k' a'∨(k'=k∧∃x∈l,a'=adS c k p x):=by
 have hks:=kSlots_bd k
 have hset:=bitAt_setL ht λx hx=>by have:=C.free x hx;omega
 have htk:m'.taken p=setL (m.taken p) l:=by rw [C.tk,fset_same]
 have hsl:∀x∈l,bitAt (m.slots p) x=false:= λx hx=>by
  have hf:=C.free x hx
  cases hq:bitAt (m.slots p) x with
  |false=>rfl
  |true=>have:=bad_live (hb x hf.1 (by omega)) hq;rw [hf.2.2] at this;cases this
 have k3:(ifM m' p).k=3:=by rw [C.inf]
 have cl:(ifM m' p).c=k:=by rw [C.inf]
 constructor
 ·rintro ⟨g',j',h,rfl⟩
  by_cases e:g'=p
  ·subst e
   have hc:k'=k:=h.cl.symm.trans cl
   subst hc
   have h1:=h.tk
   rw [htk,hset.2,kZ] at h1
   rcases h1 with h1|h1
   ·refine .inl ⟨g',j',?_,rfl⟩
    rcases C.old with ho|⟨_,ho⟩
    ·exact ⟨h.pg,h.sl,by rw [ho],by rw [ho],h1,by have:=h.lv;rwa [C.s.slots] at this⟩
    ·rw [ho,bitAt_zero] at h1;cases h1
   ·exact .inr ⟨rfl,j',lL.1 h1,rfl⟩
  ·refine .inl ⟨g',j',h.eq (C.s.u g' h.pg.1 h.pg.2 e).symm (C.s.tk g' e).symm (by rw [C.s.slots]),rfl⟩
 ·rintro (⟨g',j',h,rfl⟩|⟨rfl,x,hx,rfl⟩)
  ·by_cases e:g'=p
   ·subst e
    have ho:ifM m g'=⟨3,1,k⟩:=by
     rcases C.old with ho|⟨ho,_⟩
     ·exact ho
     ·exact absurd h.k3 (uM_kind ho).2
    have hc:k'=k:=by rw [←h.cl,ho]
    subst hc
    exact ⟨g',j',⟨h.pg,h.sl,k3,cl,by rw [htk,hset.2,h.tk];rfl,by rw [C.s.slots];exact h.lv⟩,rfl⟩
   ·exact ⟨g',j',h.eq (C.s.u g' h.pg.1 h.pg.2 e) (C.s.tk g' e) (by rw [C.s.slots]),rfl⟩
  ·have hf:=C.free x hx
   exact ⟨p,x,⟨hp,⟨hf.1,hf.2.1⟩,k3,cl,by rw [htk,hset.2,lL.2 hx,pH],by rw [C.s.slots];exact hsl x hx⟩,rfl⟩
theorem pick_ids {l:LI} {p d:Int} (hp:0≤p∧p<c.p) (C:Pk c m m' p k d l) (ht:bd32 (m.taken p)) (hb:∀b:Int,0≤b→b<32→badM m p b=false) {x:Int} (hx:x∈l):IdS c m' k p x:=by
 have hks:=kSlots_bd k
 have hset:=bitAt_setL ht λx hx=>by have:=C.free x hx;omega
 have htk:m'.taken p=setL (m.taken p) l:=by rw [C.tk,fset_same]
 have hf:=C.free x hx
 refine ⟨hp,⟨hf.1,hf.2.1⟩,by rw [C.inf],by rw [C.inf],by rw [htk,hset.2,lL.2 hx,pH],?_⟩
 rw [C.s.slots]
 cases hq:bitAt (m.slots p) x with
 |false=>rfl
 |true=>have:=bad_live (hb x hf.1 (by omega)) hq;rw [hf.2.2] at this;cases this
end
end
section
open Go Go.Sl
theorem pop_last {l:LI} (h:(lastI l).2=true):popL l++[(lastI l).1]=l:=by
 cases l with
 |nil=>cases h
 |cons a r=>
  have hl:(lastI (a::r)).1=(a::r).getD r.length 0:=rfl
  have e:(a::r).getD r.length 0=(a::r)[r.length]'(by simp):=by
   rw [iD,iM (by simp)];rfl
  rw [hl,e]
  have:popL (a::r)=(a::r).take r.length:=rfl
  rw [this]
  have h2:=List.take_append_getElem (l:=a::r) (i:=r.length) (by simp)
  rw [h2,lH (by simp)]
theorem last_in {l:LI} (h:(lastI l).2=true):(lastI l).1∈l:=by
 have e:=pop_last h
 have hm:(lastI l).1∈popL l++[(lastI l).1]:=by simp
 rw [e] at hm;exact hm
theorem pkk_S {st:LL} {k:Int} {l:LI} (hk:0≤k∧k≤8) {k':Int} (hk':0≤k'∧k'≤8):pkk (pkS st k l) k'=bif k==k' then l else pkk st k':=by
 have:k'=0∨k'=1∨k'=2∨k'=3∨k'=4∨k'=5∨k'=6∨k'=7∨k'=8:=by omega
 rcases this with rfl|rfl|rfl|rfl|rfl|rfl|rfl|rfl|rfl<;>rfl
theorem pkk_same {st:LL} {k:Int} {l:LI} (hk:0≤k∧k≤8):pkk (pkS st k l) k=l:=by rw [pkk_S hk hk,beq_self_eq_true];rfl
theorem pkk_other {st:LL} {k k':Int} {l:LI} (hk:0≤k∧k≤8) (hk':0≤k'∧k'≤8) (h:k'≠k):pkk (pkS st k l) k'=pkk st k':=by
 rw [pkk_S hk hk',show (k==k')=false by simpa using λe:k=k'=>h e.symm];rfl
theorem pkk_out {st:LL} {k:Int} (h:¬(0≤k∧k≤8)):pkk st k=[]:=pkGet_out (by omega)
section
variable {c:Cf} {m m':Mm} {s:VS} {L:List Sp} {k g j a:Int} {st:LL} {O:Int→LI}
theorem at_ad (hc:c.ok=true) (hk:0≤k∧k≤8) (hg:0≤g∧g<c.p) (hj:0≤j∧j<kSlots k):(addr_At c.t c.p c.s k g j).1=adS c k g j:=by
 rw [At_eq];exact (at_pgB hc hk hg hj).1
theorem pg_sl (hc:c.ok=true) (hk:0≤k∧k≤8) (hg:0≤g∧g<c.p) (hj:0≤j∧j<kSlots k):r06_Page c.t c.p c.s (adS c k g j)=(g,j*class_Size c.s k,true)∧pgA c.t c.p c.s (adS c k g j)=g∧slA c.t c.p c.s k (adS c k g j)=j:=by
 have hr:=rt_of (Cf.right hc)
 have e1:=at_in hr (by omega) hj hg
 have e2:=(at_pgB hc hk hg hj).1
 rw [←At_eq,e1.1] at e2
 have hP:(2:Int)^c.s.toNat=pgB c.s:=rfl
 have ea:adS c k g j=(g+1)*pgB c.s+j*class_Size c.s k:=by dsimp only at e2;unfold adS;rw [←e2,hP]
 have hp0:=hr.P0
 rw [hP] at hp0 e1
 have hcs:=(cls hr (k:=k) (by omega)).1
 generalize adS c k g j=a at ea ⊢
 have d1:a/pgB c.s=g+1:=by
  rw [ea,Int.add_comm,Int.add_mul_ediv_right _ _ (by omega),Int.ediv_eq_zero_of_lt e1.2.1 (by omega)];omega
 have d2:a%pgB c.s=j*class_Size c.s k:=by
  rw [ea,Int.add_comm,Int.add_mul_emod_self_right,Int.emod_eq_of_lt e1.2.1 (by omega)]
 have b1:pgB c.s≤a∧a<pgB c.s*c.p+pgB c.s:=by
  have f1:pgB c.s*1≤pgB c.s*(g+1):=pB (by omega) (by omega)
  have f2:pgB c.s*(g+1)≤pgB c.s*c.p:=pB (by omega) (by omega)
  have f3:(g+1)*pgB c.s=pgB c.s*(g+1):=oQ _ _
  omega
 have hpg:=(pageIn hr (a:=a) (by rw [hP];exact b1)).2
 rw [hP,d1,d2,show g+1-1=g by omega] at hpg
 refine ⟨hpg,by unfold pgA;rw [hpg],?_⟩
 unfold slA;rw [hpg,(slot_in hr (by omega) hj).2]
theorem info_k3 (h:At c s m) (hg:0≤g∧g<c.p):iGet (s.get (c.info g))=ifM m g:=by rw [h.get_info hg];rfl
def FitX (c:Cf) (m:Mm) (st:LL) (O:Int→LI) (k:Int) (e:LI):Prop:=FitK c m k ((pkk st k++e)++O k)∧∀k',0≤k'∧k'≤8→k'≠k→FitK c m k' (pkk st k'++O k')
def FitS (c:Cf) (m:Mm) (st:LL) (O:Int→LI):Prop:=∀k,0≤k∧k≤8→FitK c m k (pkk st k++O k)
theorem FitS.x (h:FitS c m st O) (hk:0≤k∧k≤8):FitX c m st O k []:=⟨by rw [lF];exact h k hk, λk' h1 _=>h k' h1⟩
theorem FitX.congr {e:LI} (h:FitX c m st O k e) (q:MEq c m m'):FitX c m' st O k e:=⟨h.1.congr q, λk' h1 h2=>(h.2 k' h1 h2).congr q⟩
theorem FitS.congr (h:FitS c m st O) (q:MEq c m m'):FitS c m' st O:= λk hk=>(h k hk).congr q
structure Hnd (c:Cf) (S0:StT) (O:Int→LI) (k:Int) (s:VS) (st:LL) (g j:Int) (m:Mm) (L:List Sp):Prop where
 h:At c s m
 all:s.all=true
 snd:SoundM c m L
 stm:stM c m=S0
 id:IdS c m k g j
 fit:FitX c m st O k [adS c k g j]
 len:(pkk st k).length≤3∧∀k',0≤k'∧k'≤8→(pkk st k').length≤4
theorem fitK_del {l r:LI} {x:Int} (h:FitK c m k (l++x::r)) (hm:∀a,IdM c m' k a↔IdM c m k a∧a≠x):FitK c m' k (l++r):=by
 have hp:(l++x::r).Perm (x::(l++r)):=List.perm_middle
 have h':=h.perm hp
 obtain ⟨n1,n2⟩:=lN.1 h'.1
 refine ⟨n2, λa=>?_⟩
 rw [hm,←h'.2 a,iH]
 constructor
 ·exact λha=>⟨.inr ha, λe=>n1 (e▸ha)⟩
 ·rintro ⟨ha|ha,hne⟩
  ·exact absurd ha hne
  ·exact ha
theorem Hnd.beg {S0:StT} (H:Hnd c S0 O k s st g j m L):At c (begS s c.t c.p c.s g j) (mBeg m g j)∧(begS s c.t c.p c.s g j).all=true∧SoundM c (mBeg m g j) L∧stM c (mBeg m g j)=stWith S0 (insA (adS c k g j) S0.1) (insZ (adS c k g j) (szB c.s k) S0.1 S0.2.1)∧(∀x∈S0.1,x≠adS c k g j)∧FitS c (mBeg m g j) st O:=by
 have I:=H.id
 have hks:=kSlots_bd k
 have hsl:=I.sl
 have hok:=H.h.ok
 have hs:=(Cf.ok_iff.1 hok).2.2
 have hbd:=slt_bd H.h I.pg
 obtain ⟨b1,b2,b3⟩:=beg_sound hok H.snd I hbd
 refine ⟨beg_at H.h I.pg ⟨hsl.1,by omega⟩,?_,b1,?_,?_, λk' hk'=>?_⟩
 ·show ((pBeg c g j).run s).1.all=true
  rw [run_all];exact H.all
 ·rw [stM_add b2 rfl,H.stm]
 ·rw [←H.stm]
  intro x hx
  obtain ⟨y,y1,rfl⟩:=kW.1 hx
  exact b3 y y1
 ·by_cases e:k'=k
  ·subst e
   have:=H.fit.1
   rw [jX,mX] at this
   exact fitK_del this λa=>beg_id hs I hbd
  ·have h:=H.fit.2 k' hk' e
   refine ⟨h.1, λa=>?_⟩
   rw [beg_id hs I hbd,←h.2]
   exact ⟨λha=>⟨ha,idM_ne hs I ((h.2 a).1 ha) e⟩, λha=>ha.1⟩
theorem Hnd.free {S0:StT} (H:Hnd c S0 O k s st g j m L):∃(s':VS),freeR (freeU (begS s c.t c.p c.s g j) c.t c.p c.s g j) c.t c.p c.s g j (freeK (begS s c.t c.p c.s g j) c.t c.p c.s g) (addr_At c.t c.p c.s (freeK (begS s c.t c.p c.s g j) c.t c.p c.s g) g j).1 (gL st 0) (gL st 1) (gL st 2) (gL st 3) (gL st 4) (gL st 5) (gL st 6) (gL st 7) (gL st 8)=
 (s',gL (pkS st k (pkk st k++[adS c k g j])) 0,gL (pkS st k (pkk st k++[adS c k g j])) 1,gL (pkS st k (pkk st k++[adS c k g j])) 2,gL (pkS st k (pkk st k++[adS c k g j])) 3,gL (pkS st k (pkk st k++[adS c k g j])) 4,gL (pkS st k (pkk st k++[adS c k g j])) 5,gL (pkS st k (pkk st k++[adS c k g j])) 6,gL (pkS st k (pkk st k++[adS c k g j])) 7,gL (pkS st k (pkk st k++[adS c k g j])) 8)∧
 At c s' m∧s'.all=true∧FitS c m (pkS st k (pkk st k++[adS c k g j])) O:=by
 have I:=H.id
 have hks:=kSlots_bd k
 have hsl:=I.sl
 have hk:=I.kb
 have hok:=H.h.ok
 obtain ⟨b1,b2,_⟩:=H.beg
 have hfk:freeK (begS s c.t c.p c.s g j) c.t c.p c.s g=k:=by
  show (iGet ((begS s c.t c.p c.s g j).get (c.info g))).c=k
  rw [info_k3 b1 I.pg];exact I.cl
 have hfu:At c (freeU (begS s c.t c.p c.s g j) c.t c.p c.s g j) m:=by
  have:=end_at (b1.read (c.info g)) I.pg (b:=j) ⟨hsl.1,by omega⟩
  rw [end_beg H.h I] at this
  exact this
 refine ⟨_,?_,hfu,?_,?_⟩
 ·rw [hfk,at_ad hok hk I.pg hsl]
  have hp:pushL (pkk st k) (adS c k g j)=pkk st k++[adS c k g j]:=(pushL_t (by have:=H.len.1;omega)).1
  have hd:(kIn k&&decide ((pkk st k).length<4))=true:=by
   unfold kIn
   simp only [iE,decide_eq_true_eq]
   have:=H.len.1;omega
  unfold freeR
  show (bif (kIn k&&decide ((pkk st k).length<4)) then freeU (begS s c.t c.p c.s g j) c.t c.p c.s g j else _,pkSel k 0 (pushL (pkk st k) (adS c k g j)) (gL st 0),pkSel k 1 (pushL (pkk st k) (adS c k g j)) (gL st 1),pkSel k 2 (pushL (pkk st k) (adS c k g j)) (gL st 2),pkSel k 3 (pushL (pkk st k) (adS c k g j)) (gL st 3),pkSel k 4 (pushL (pkk st k) (adS c k g j)) (gL st 4),pkSel k 5 (pushL (pkk st k) (adS c k g j)) (gL st 5),pkSel k 6 (pushL (pkk st k) (adS c k g j)) (gL st 6),pkSel k 7 (pushL (pkk st k) (adS c k g j)) (gL st 7),pkSel k 8 (pushL (pkk st k) (adS c k g j)) (gL st 8))=_
  rw [hd,cond_true,hp]
  rfl
 ·show ((pEnd c g j).run _).1.all=true
  rw [run_all,read_all];exact b2
 ·intro k' hk'
  by_cases e:k'=k
  ·subst e;rw [pkk_same hk];exact H.fit.1
  ·rw [pkk_other hk hk' e];exact H.fit.2 k' hk' e
theorem bw_fill (hc:c.ok=true) (hk:0≤k∧k≤8) (hg:0≤g∧g<c.p) {l:LI} (hl:∀x∈l,0≤x∧x<kSlots k):∀(n:Nat) (st:LL),n≤l.length→(pkk st k).length+n≤4→
 pkk (bwF (fillY c.t c.p c.s k g) l n st) k=pkk st k++((l.take n).reverse.map (adS c k g))∧∀k',0≤k'∧k'≤8→k'≠k→pkk (bwF (fillY c.t c.p c.s k g) l n st) k'=pkk st k'
 |0,st,_,_=>⟨by simp [bwF], λ_ _ _=>rfl⟩
 |n+1,st,hn,h4=>by
  have hx:=getD_mem' (l:=l) (i:=n) (by omega)
  have ha:(addr_At c.t c.p c.s k g (l.getD n 0)).1=adS c k g (l.getD n 0):=at_ad hc hk hg (hl _ hx)
  have hy:fillY c.t c.p c.s k g st (n:Int) (l.getD n 0)=pkS st k (pkk st k++[adS c k g (l.getD n 0)]):=by
   unfold fillY
   rw [ha,(pushL_t (by omega)).1]
  obtain ⟨i1,i2⟩:=bw_fill hc hk hg hl n (pkS st k (pkk st k++[adS c k g (l.getD n 0)])) (by omega) (by rw [pkk_same hk,jL,lK];omega)
  rw [bwF,hy]
  refine ⟨?_, λk' h1 h2=>by rw [i2 k' h1 h2,pkk_other hk h1 h2]⟩
  have et:l.take (n+1)=l.take n++[l.getD n 0]:=by
   rw [pK]
   congr 1
   rw [iD,iM (by omega)];rfl
  rw [i1,pkk_same hk,et,List.reverse_append,jH,jX];rfl
theorem alloc_hand {xs:LI} (hb:bdAll xs) (hs:soundA c xs=true) (hF:FitS c (Mm.of c xs) st O) (hl:∀k',0≤k'∧k'≤8→(pkk st k').length≤4) (k:Int):
 (∃u:VS,allocC (VS.whole xs) c.t c.p c.s st k=tup9 false 0 u st∧u.wrote=[])∨
 (∃s0 st' g j m L,allocC (VS.whole xs) c.t c.p c.s st k=tup9 true (adS c k g j) (begS s0 c.t c.p c.s g j) st'∧Hnd c (stateA c xs) O k s0 st' g j m L):=by
 obtain ⟨L,S⟩:=sound_xs hs hb
 have hx:=((sound_iff hb).1 hs).1
 have h:=at_whole hx
 have hok:=hx.ok
 have hS0:=state_xs hs
 cases ho:(lastI (pkk st k)).2 with
 |true=>
  right
  have hk:0≤k∧k≤8:=by
   apply Classical.byContradiction
   intro hk
   rw [pkk_out hk] at ho;cases ho
  have hp:=pop_last ho
  have hm:(lastI (pkk st k)).1∈pkk st k++O k:=kC.2 (.inl (last_in ho))
  obtain ⟨g,j,I,ha⟩:=((hF k hk).2 _).1 hm
  obtain ⟨_,e2,e3⟩:=pg_sl hok hk I.pg I.sl
  refine ⟨VS.whole xs,pkS st k (popL (pkk st k)),g,j,Mm.of c xs,L,?_,⟨h,rfl,S,hS0.symm,I,⟨?_, λk' h1 h2=>?_⟩,?_, λk' h1=>?_⟩⟩
  ·unfold allocC
   rw [ho,cond_true,ha,e2,e3,at_ad hok hk I.pg I.sl]
  ·rw [pkk_same hk,←ha,hp];exact hF k hk
  ·rw [pkk_other hk h1 h2];exact hF k' h1
  ·rw [pkk_same hk]
   have h1:=hl k hk
   have h2:=congrArg iF hp
   rw [jL,lK] at h2;omega
  ·have h3:=popL_len (pkk st k)
   by_cases e:k'=k
   ·subst e;rw [pkk_same hk];have:=hl k' hk;omega
   ·rw [pkk_other hk h1 e];exact hl k' h1
 |false=>
  have hnil:=lastI_f ho
  have hpk:slab_Pick (VS.whole xs) c.t c.p c.s k 4=(pPick c k 4).run (VS.whole xs):=rfl
  obtain ⟨P1,P2⟩:=pick_at (k:=k) (want:=4) h S.snd
  cases hr:((pPick c k 4).run (VS.whole xs)).2.2.2 with
  |false=>
   left
   refine ⟨((pPick c k 4).run (VS.whole xs)).1,?_,(P1 hr).2⟩
   unfold allocC fillR
   rw [ho,hpk,hr];rfl
  |true=>
   right
   obtain ⟨hk9,_,m',L',d,r1,r2,r3,r4,r5,r6,r7,r8⟩:=P2 hr
   have hall:((pPick c k 4).run (VS.whole xs)).1.all=true:=by rw [run_all];rfl
   have hk:0≤k∧k≤8:=by omega
   have hin:allocC (VS.whole xs) c.t c.p c.s st k=tup9 true (addr_At c.t c.p c.s k ((pPick c k 4).run (VS.whole xs)).2.1 (((pPick c k 4).run (VS.whole xs)).2.2.1.getD 0 0)).1 (begS ((pPick c k 4).run (VS.whole xs)).1 c.t c.p c.s ((pPick c k 4).run (VS.whole xs)).2.1 (((pPick c k 4).run (VS.whole xs)).2.2.1.getD 0 0)) (bwF (fillY c.t c.p c.s k ((pPick c k 4).run (VS.whole xs)).2.1) (((pPick c k 4).run (VS.whole xs)).2.2.1.drop 1) (((pPick c k 4).run (VS.whole xs)).2.2.1.drop 1).length st):=by
    unfold allocC fillR
    rw [ho,hpk,hr];rfl
   rw [hin]
   generalize ((pPick c k 4).run (VS.whole xs)).2.1=p at r4 r5 ⊢
   generalize ((pPick c k 4).run (VS.whole xs)).2.2.1=l at r5 r6 r7 r8 ⊢
   generalize ((pPick c k 4).run (VS.whole xs)).1=s0 at r1 hall ⊢
   obtain ⟨x,r,rfl⟩:∃x r,l=x::r:=by
    cases l with
    |nil=>simp at r6
    |cons x r=>exact ⟨x,r,rfl⟩
   have ht:=tkn_bd h r4
   have hbad:=S.snd.bits p r4.1 r4.2
   have hrg:∀y∈x::r,0≤y∧y<kSlots k:= λy hy=>by have:=r5.free y hy;exact ⟨this.1,this.2.1⟩
   have hI:=pick_ids r4 r5 ht hbad (x:=x) (by simp)
   have hss:=(Cf.ok_iff.1 hok).2.2
   have hbw:=bw_fill hok hk r4 (l:=r) (λy hy=>hrg y (by simp [hy])) r.length st (kA _) (by rw [hnil];simp only [jJ] at r7;simp only [nY];omega)
   rw [hnil,mT,lH (kA _)] at hbw
   have e0:(x::r).getD 0 0=x:=rfl
   have e1:(x::r).drop 1=r:=rfl
   rw [e0,e1,at_ad hok hk r4 (hrg x (by simp))]
   refine ⟨s0,_,p,x,m',L',rfl,⟨r1,hall,r5.s.sound S r2 r3,?_,hI,⟨?_, λk' h1 h2=>?_⟩,?_, λk' h1=>?_⟩⟩
   ·rw [stM_eq r5.s.blk r5.s.root,hS0]
   ·rw [hbw.1]
    have hP:(r.reverse.map (adS c k p)++[adS c k p x])++O k=(x::r).reverse.map (adS c k p)++O k:=by simp
    rw [hP]
    have hold:=hF k hk
    rw [hnil,mT] at hold
    have hnew:∀y∈x::r,¬IdM c (Mm.of c xs) k (adS c k p y):= λy hy hI=>by
     obtain ⟨g',j',I',e⟩:=hI
     obtain ⟨rfl,rfl⟩:=ad_inj hss (hrg y hy) I'.sl e
     have:=I'.tk
     rw [(r5.free y hy).2.2] at this;cases this
    have hperm:((x::r).map (adS c k p)++O k).Perm ((x::r).reverse.map (adS c k p)++O k):=((List.reverse_perm (x::r)).symm.map _).append_right _
    refine FitK.perm ⟨?_, λa=>?_⟩ hperm
    ·rw [pM]
     refine ⟨?_,hold.1, λa ha b hb e=>?_⟩
     ·rw [List.Nodup,List.pairwise_map]
      refine List.Pairwise.imp_of_mem (R:= λa b:Int=>a<b) (λ{u v} hu hv huv e=>?_) r5.srt
      have:=(ad_inj hss (hrg u hu) (hrg v hv) e).2;omega
     ·subst e
      obtain ⟨y,hy,rfl⟩:=kW.1 ha
      exact hnew y hy ((hold.2 _).1 hb)
    ·rw [pick_id r4 r5 ht hbad,kC,hold.2,kW]
     constructor
     ·rintro (⟨y,hy,rfl⟩|h)
      ·exact .inr ⟨rfl,y,hy,rfl⟩
      ·exact .inl h
     ·rintro (h|⟨_,y,hy,rfl⟩)
      ·exact .inr h
      ·exact .inl ⟨y,hy,rfl⟩
   ·rw [hbw.2 k' h1 h2]
    have hold:=hF k' h1
    refine ⟨hold.1, λa=>?_⟩
    rw [pick_id r4 r5 ht hbad,hold.2]
    exact ⟨.inl, λh=>h.resolve_right λq=>h2 q.1⟩
   ·rw [hbw.1,kG,List.length_reverse];simp only [jJ] at r7;omega
   ·by_cases e:k'=k
    ·subst e;rw [hbw.1,kG,List.length_reverse];simp only [jJ] at r7;omega
    ·rw [hbw.2 k' h1 e];exact hl k' h1
end
end
section
open Go Go.Sl
def Qb (a0 a1 a2 a3 a4 a5 a6 a7 a8:LI) (T:Int):Int→LI:= λk=>othL (pkGet k a0 a1 a2 a3 a4 a5 a6 a7 a8) T.toNat a0.length
theorem pk_len {a0 a1 a2 a3 a4 a5 a6 a7 a8:LI} (hl:a1.length=a0.length∧a2.length=a0.length∧a3.length=a0.length∧a4.length=a0.length∧a5.length=a0.length∧a6.length=a0.length∧a7.length=a0.length∧a8.length=a0.length) {k:Int} (hk:0≤k∧k≤8):(pkGet k a0 a1 a2 a3 a4 a5 a6 a7 a8).length=a0.length:=by
 obtain ⟨h1,h2,h3,h4,h5,h6,h7,h8⟩:=hl
 rcases (by omega:k=0∨k=1∨k=2∨k=3∨k=4∨k=5∨k=6∨k=7∨k=8) with rfl|rfl|rfl|rfl|rfl|rfl|rfl|rfl|rfl
 ·rfl
 ·exact h1
 ·exact h2
 ·exact h3
 ·exact h4
 ·exact h5
 ·exact h6
 ·exact h7
 ·exact h8
theorem Qc {a0 a1 a2 a3 a4 a5 a6 a7 a8:LI} {T k:Int} (hk:0≤k∧k≤8):pkk [slR (a0.getD T.toNat 0),slR (a1.getD T.toNat 0),slR (a2.getD T.toNat 0),slR (a3.getD T.toNat 0),slR (a4.getD T.toNat 0),slR (a5.getD T.toNat 0),slR (a6.getD T.toNat 0),slR (a7.getD T.toNat 0),slR (a8.getD T.toNat 0)] k=slR ((pkGet k a0 a1 a2 a3 a4 a5 a6 a7 a8).getD T.toNat 0):=by
 rcases (by omega:k=0∨k=1∨k=2∨k=3∨k=4∨k=5∨k=6∨k=7∨k=8) with rfl|rfl|rfl|rfl|rfl|rfl|rfl|rfl|rfl<;>rfl
theorem Qg {t p h:Int} {xs a0 a1 a2 a3 a4 a5 a6 a7 a8:LI} {T k g b:Int} (hf:l18_fit t p h xs a0 a1 a2 a3 a4 a5 a6 a7 a8 T k g b=true) (hs:slO a0.length a0∧slO a0.length a1∧slO a0.length a2∧slO a0.length a3∧slO a0.length a4∧slO a0.length a5∧slO a0.length a6∧slO a0.length a7∧slO a0.length a8) (hl:a1.length=a0.length∧a2.length=a0.length∧a3.length=a0.length∧a4.length=a0.length∧a5.length=a0.length∧a6.length=a0.length∧a7.length=a0.length∧a8.length=a0.length) (hb:bdAll xs):FitS ⟨t,p,h⟩ (Mm.of ⟨t,p,h⟩ xs) [slR (a0.getD T.toNat 0),slR (a1.getD T.toNat 0),slR (a2.getD T.toNat 0),slR (a3.getD T.toNat 0),slR (a4.getD T.toNat 0),slR (a5.getD T.toNat 0),slR (a6.getD T.toNat 0),slR (a7.getD T.toNat 0),slR (a8.getD T.toNat 0)] (Qb a0 a1 a2 a3 a4 a5 a6 a7 a8 T)∧∀k',0≤k'∧k'≤8→(pkk [slR (a0.getD T.toNat 0),slR (a1.getD T.toNat 0),slR (a2.getD T.toNat 0),slR (a3.getD T.toNat 0),slR (a4.getD T.toNat 0),slR (a5.getD T.toNat 0),slR (a6.getD T.toNat 0),slR (a7.getD T.toNat 0),slR (a8.getD T.toNat 0)] k').length≤4:=by
 obtain ⟨⟨h1,_⟩,h2,_,h4,h5⟩:=fit_all hf hs
 have hok:Cf.ok ⟨t,p,h⟩=true:=(sound_good h1 hb).ok
 have hT:T.toNat<a0.length:=by omega
 have h6:=(fit_iff (c:=⟨t,p,h⟩) (xs:=xs) hok (C:=(λk=>pkGet k a0 a1 a2 a3 a4 a5 a6 a7 a8)) (by omega)).1 h5
 refine ⟨λk hk=>?_, λk hk=>?_⟩
 ·rw [Qc hk]
  exact (h6 k hk).2.perm (oth_perm hT)
 ·rw [Qc hk]
  exact lenB_all (h6 k hk).1 T.toNat hT
theorem OW {t p h:Int} {ys a0 a1 a2 a3 a4 a5 a6 a7 a8:LI} {T:Int} {st:LL} (hs:soundA ⟨t,p,h⟩ ys=true) (hb:bdAll ys) (hl:a1.length=a0.length∧a2.length=a0.length∧a3.length=a0.length∧a4.length=a0.length∧a5.length=a0.length∧a6.length=a0.length∧a7.length=a0.length∧a8.length=a0.length) (ht:(a0.length:Int)=t) (hT:0≤T∧T<(a0.length:Int))
 (hF:FitS ⟨t,p,h⟩ (Mm.of ⟨t,p,h⟩ ys) st (Qb a0 a1 a2 a3 a4 a5 a6 a7 a8 T)) (hn:∀k,0≤k∧k≤8→(pkk st k).length≤4∧lenB (pkGet k a0 a1 a2 a3 a4 a5 a6 a7 a8) a0.length=true) (u:Nat→Option Addr) (n:Nat→Nat):
 r17_Fits t p h ys (a0.set T.toNat (slE (u 0) (n 0) (gL st 0))) (a1.set T.toNat (slE (u 1) (n 1) (gL st 1))) (a2.set T.toNat (slE (u 2) (n 2) (gL st 2))) (a3.set T.toNat (slE (u 3) (n 3) (gL st 3))) (a4.set T.toNat (slE (u 4) (n 4) (gL st 4))) (a5.set T.toNat (slE (u 5) (n 5) (gL st 5))) (a6.set T.toNat (slE (u 6) (n 6) (gL st 6))) (a7.set T.toNat (slE (u 7) (n 7) (gL st 7))) (a8.set T.toNat (slE (u 8) (n 8) (gL st 8)))=true:=by
 have hok:Cf.ok ⟨t,p,h⟩=true:=(sound_good hs hb).ok
 have h2:=Cf.ok_iff.1 hok
 dsimp only at h2
 have hT':T.toNat<a0.length:=by omega
 unfold r17_Fits
 have hc:(!soundA ⟨t,p,h⟩ ys||((a0.set T.toNat (slE (u 0) (n 0) (gL st 0))).length:Int) !=t)=false:=by
  rw [hs,mU,ht];simp
 rw [hc,cond_false,mU]
 have hg:∀k,0≤k∧k≤8→∃(i:Nat),pkGet k (a0.set T.toNat (slE (u 0) (n 0) (gL st 0))) (a1.set T.toNat (slE (u 1) (n 1) (gL st 1))) (a2.set T.toNat (slE (u 2) (n 2) (gL st 2))) (a3.set T.toNat (slE (u 3) (n 3) (gL st 3))) (a4.set T.toNat (slE (u 4) (n 4) (gL st 4))) (a5.set T.toNat (slE (u 5) (n 5) (gL st 5))) (a6.set T.toNat (slE (u 6) (n 6) (gL st 6))) (a7.set T.toNat (slE (u 7) (n 7) (gL st 7))) (a8.set T.toNat (slE (u 8) (n 8) (gL st 8)))=(pkGet k a0 a1 a2 a3 a4 a5 a6 a7 a8).set T.toNat (slE (u i) (n i) (pkk st k)):= λk hk=>by
  rcases (by omega:k=0∨k=1∨k=2∨k=3∨k=4∨k=5∨k=6∨k=7∨k=8) with rfl|rfl|rfl|rfl|rfl|rfl|rfl|rfl|rfl
  ·exact ⟨0,rfl⟩
  ·exact ⟨1,rfl⟩
  ·exact ⟨2,rfl⟩
  ·exact ⟨3,rfl⟩
  ·exact ⟨4,rfl⟩
  ·exact ⟨5,rfl⟩
  ·exact ⟨6,rfl⟩
  ·exact ⟨7,rfl⟩
  ·exact ⟨8,rfl⟩
 refine (fit_iff (c:=⟨t,p,h⟩) (xs:=ys) hok (C:= λk=>pkGet k (a0.set T.toNat (slE (u 0) (n 0) (gL st 0))) (a1.set T.toNat (slE (u 1) (n 1) (gL st 1))) (a2.set T.toNat (slE (u 2) (n 2) (gL st 2))) (a3.set T.toNat (slE (u 3) (n 3) (gL st 3))) (a4.set T.toNat (slE (u 4) (n 4) (gL st 4))) (a5.set T.toNat (slE (u 5) (n 5) (gL st 5))) (a6.set T.toNat (slE (u 6) (n 6) (gL st 6))) (a7.set T.toNat (slE (u 7) (n 7) (gL st 7))) (a8.set T.toNat (slE (u 8) (n 8) (gL st 8)))) (by omega)).2 λk hk=>?_
 obtain ⟨i,hi⟩:=hg k hk
 have hlen:=pk_len hl hk
 rw [hi]
 refine ⟨lenB_set hlen.symm (hn k hk).2 (by rw [slR_E];exact (hn k hk).1),?_⟩
 have hp:=oth_perm (c:=(pkGet k a0 a1 a2 a3 a4 a5 a6 a7 a8).set T.toNat (slE (u i) (n i) (pkk st k))) hT'
 rw [set_getD (by rw [hlen];exact hT'),slR_E,othL_set] at hp
 exact (hF k hk).perm hp.symm
theorem PW {t p h:Int} {xs a0 a1 a2 a3 a4 a5 a6 a7 a8:LI} {T k g b:Int} (hf:l18_fit t p h xs a0 a1 a2 a3 a4 a5 a6 a7 a8 T k g b=true) (hs:slO a0.length a0∧slO a0.length a1∧slO a0.length a2∧slO a0.length a3∧slO a0.length a4∧slO a0.length a5∧slO a0.length a6∧slO a0.length a7∧slO a0.length a8) (hl:a1.length=a0.length∧a2.length=a0.length∧a3.length=a0.length∧a4.length=a0.length∧a5.length=a0.length∧a6.length=a0.length∧a7.length=a0.length∧a8.length=a0.length) (hb:bdAll xs):(a0.length:Int)=t∧∀k,0≤k∧k≤8→lenB (pkGet k a0 a1 a2 a3 a4 a5 a6 a7 a8) a0.length=true:=by
 obtain ⟨⟨h1,_⟩,h2,_,h4,h5⟩:=fit_all hf hs
 have hok:Cf.ok ⟨t,p,h⟩=true:=(sound_good h1 hb).ok
 refine ⟨?_, λk hk=>((fit_iff (c:=⟨t,p,h⟩) (xs:=xs) hok (C:=(λk=>pkGet k a0 a1 a2 a3 a4 a5 a6 a7 a8)) (by omega)).1 h5 k hk).1⟩
 unfold l18_fit at hf
 simp only [iE] at hf
 have hf:=hf.2
 unfold r17_Fits at hf
 cases hc:(!soundA ⟨t,p,h⟩ xs||(a0.length:Int) !=t) with
 |true=>rw [hc] at hf;cases hf
 |false=>
  simp only [jB,bne_eq_false_iff_eq] at hc
  exact hc.2
section
variable {c:Cf} {m:Mm} {s:VS} {L:List Sp} {st:LL} {O:Int→LI} {k g j:Int}
theorem PR (hok:c.ok=true) (hF:FitS c m st O) (hl:∀k',0≤k'∧k'≤8→(pkk st k').length≤4):pkB (gL st 0) (gL st 1) (gL st 2) (gL st 3) (gL st 4) (gL st 5) (gL st 6) (gL st 7) (gL st 8):=by
 have key:∀k',0≤k'∧k'≤8→lB (pkk st k'):= λk' hk=>⟨by have:=hl k' hk;omega, λa ha=>by
  obtain ⟨g,j,I,rfl⟩:=((hF k' hk).2 a).1 (kC.2 (.inl ha))
  rw [←at_ad hok hk I.pg I.sl];exact at_i64 ..⟩
 exact ⟨key 0 (by decide),key 1 (by decide),key 2 (by decide),key 3 (by decide),key 4 (by decide),key 5 (by decide),key 6 (by decide),key 7 (by decide),key 8 (by decide)⟩
theorem Hnd.congr {S0:StT} {st':LL} (H:Hnd c S0 O k s st g j m L) (e:pkk st'=pkk st):Hnd c S0 O k s st' g j m L:=by
 refine ⟨H.h,H.all,H.snd,H.stm,H.id,?_,by rw [e];exact H.len⟩
 have:=H.fit
 unfold FitX at this ⊢
 rw [e];exact this
end
theorem PO {st st':LL} (h:∀i,i<9→gL st' i=gL st i):pkk st'=pkk st:=by
 funext k
 unfold pkk
 rw [h 0 (by decide),h 1 (by decide),h 2 (by decide),h 3 (by decide),h 4 (by decide),h 5 (by decide),h 6 (by decide),h 7 (by decide),h 8 (by decide)]
theorem OH {t p h:Int} {xs a0 a1 a2 a3 a4 a5 a6 a7 a8:LI} {T k g b:Int} (hf:l18_fit t p h xs a0 a1 a2 a3 a4 a5 a6 a7 a8 T k g b=true) (hs:slO a0.length a0∧slO a0.length a1∧slO a0.length a2∧slO a0.length a3∧slO a0.length a4∧slO a0.length a5∧slO a0.length a6∧slO a0.length a7∧slO a0.length a8) (hl:a1.length=a0.length∧a2.length=a0.length∧a3.length=a0.length∧a4.length=a0.length∧a5.length=a0.length∧a6.length=a0.length∧a7.length=a0.length∧a8.length=a0.length) (hb:bdAll xs) {sv:VS} {e y0 y1 y2 y3 y4 y5 y6 y7 y8:_} {ok:Bool} (he:(sv,e,y0,y1,y2,y3,y4,y5,y6,y7,y8,ok)=small_Alloc (VS.whole xs) t p h (slR (a0.getD T.toNat 0)) (slR (a1.getD T.toNat 0)) (slR (a2.getD T.toNat 0)) (slR (a3.getD T.toNat 0)) (slR (a4.getD T.toNat 0)) (slR (a5.getD T.toNat 0)) (slR (a6.getD T.toNat 0)) (slR (a7.getD T.toNat 0)) (slR (a8.getD T.toNat 0)) k):
 (ok=false∧e=0∧sv.wrote=[]∧y0=slR (a0.getD T.toNat 0)∧y1=slR (a1.getD T.toNat 0)∧y2=slR (a2.getD T.toNat 0)∧y3=slR (a3.getD T.toNat 0)∧y4=slR (a4.getD T.toNat 0)∧y5=slR (a5.getD T.toNat 0)∧y6=slR (a6.getD T.toNat 0)∧y7=slR (a7.getD T.toNat 0)∧y8=slR (a8.getD T.toNat 0))∨
 (ok=true∧∃s0 g j m L,e=adS ⟨t,p,h⟩ k g j∧sv=begS s0 t p h g j∧Hnd ⟨t,p,h⟩ (stateA ⟨t,p,h⟩ xs) (Qb a0 a1 a2 a3 a4 a5 a6 a7 a8 T) k s0 [y0,y1,y2,y3,y4,y5,y6,y7,y8] g j m L):=by
 obtain ⟨hF,hn⟩:=Qg hf hs hl hb
 have h1:=(fit_all hf hs).1.1
 have key:small_Alloc (VS.whole xs) t p h (slR (a0.getD T.toNat 0)) (slR (a1.getD T.toNat 0)) (slR (a2.getD T.toNat 0)) (slR (a3.getD T.toNat 0)) (slR (a4.getD T.toNat 0)) (slR (a5.getD T.toNat 0)) (slR (a6.getD T.toNat 0)) (slR (a7.getD T.toNat 0)) (slR (a8.getD T.toNat 0)) k=allocC (VS.whole xs) t p h [slR (a0.getD T.toNat 0),slR (a1.getD T.toNat 0),slR (a2.getD T.toNat 0),slR (a3.getD T.toNat 0),slR (a4.getD T.toNat 0),slR (a5.getD T.toNat 0),slR (a6.getD T.toNat 0),slR (a7.getD T.toNat 0),slR (a8.getD T.toNat 0)] k:=rfl
 rcases alloc_hand (c:=⟨t,p,h⟩) hb h1 hF hn k with ⟨u,e1,e2⟩|⟨s0,st',g,j,m,L,e1,H⟩
 ·left
  rw [key] at he
  have he:=he.trans e1
  unfold tup9 at he
  simp only [iU] at he
  obtain ⟨rfl,rfl,rfl,rfl,rfl,rfl,rfl,rfl,rfl,rfl,rfl,rfl⟩:=he
  exact ⟨rfl,rfl,e2,rfl,rfl,rfl,rfl,rfl,rfl,rfl,rfl,rfl⟩
 ·right
  rw [key] at he
  have he:=he.trans e1
  unfold tup9 at he
  simp only [iU] at he
  obtain ⟨rfl,rfl,rfl,rfl,rfl,rfl,rfl,rfl,rfl,rfl,rfl,rfl⟩:=he
  refine ⟨rfl,s0,g,j,m,L,rfl,rfl,H.congr (PO λi hi=>?_)⟩
  match i,hi with
  |0,_=>rfl
  |1,_=>rfl
  |2,_=>rfl
  |3,_=>rfl
  |4,_=>rfl
  |5,_=>rfl
  |6,_=>rfl
  |7,_=>rfl
  |8,_=>rfl
theorem NY {t p h:Int} {xs a0 a1 a2 a3 a4 a5 a6 a7 a8:LI} {T k g b:Int} (hf:l18_fit t p h xs a0 a1 a2 a3 a4 a5 a6 a7 a8 T k g b=true) (hs:slO a0.length a0∧slO a0.length a1∧slO a0.length a2∧slO a0.length a3∧slO a0.length a4∧slO a0.length a5∧slO a0.length a6∧slO a0.length a7∧slO a0.length a8) (hl:a1.length=a0.length∧a2.length=a0.length∧a3.length=a0.length∧a4.length=a0.length∧a5.length=a0.length∧a6.length=a0.length∧a7.length=a0.length∧a8.length=a0.length) (hb:bdAll xs) {sv:VS} {e y0 y1 y2 y3 y4 y5 y6 y7 y8:_} (he:(sv,e,y0,y1,y2,y3,y4,y5,y6,y7,y8,true)=small_Alloc (VS.whole xs) t p h (slR (a0.getD T.toNat 0)) (slR (a1.getD T.toNat 0)) (slR (a2.getD T.toNat 0)) (slR (a3.getD T.toNat 0)) (slR (a4.getD T.toNat 0)) (slR (a5.getD T.toNat 0)) (slR (a6.getD T.toNat 0)) (slR (a7.getD T.toNat 0)) (slR (a8.getD T.toNat 0)) k):
 soundA ⟨t,p,h⟩ sv.vals=true∧stateA ⟨t,p,h⟩ sv.vals=stWith (stateA ⟨t,p,h⟩ xs) (insA e (stateA ⟨t,p,h⟩ xs).1) (insZ e (r05_Size h k) (stateA ⟨t,p,h⟩ xs).1 (stateA ⟨t,p,h⟩ xs).2.1)∧(∀x∈(stateA ⟨t,p,h⟩ xs).1,x≠e)∧pkB y0 y1 y2 y3 y4 y5 y6 y7 y8∧0≤(r18_Slot t p h k e).1∧
 (∀(u:Nat→Option Addr) (n:Nat→Nat),r17_Fits t p h sv.vals (a0.set T.toNat (slE (u 0) (n 0) y0)) (a1.set T.toNat (slE (u 1) (n 1) y1)) (a2.set T.toNat (slE (u 2) (n 2) y2)) (a3.set T.toNat (slE (u 3) (n 3) y3)) (a4.set T.toNat (slE (u 4) (n 4) y4)) (a5.set T.toNat (slE (u 5) (n 5) y5)) (a6.set T.toNat (slE (u 6) (n 6) y6)) (a7.set T.toNat (slE (u 7) (n 7) y7)) (a8.set T.toNat (slE (u 8) (n 8) y8))=true)∧
 ∀{su:VS} {z0 z1 z2 z3 z4 z5 z6 z7 z8:LI},(su,z0,z1,z2,z3,z4,z5,z6,z7,z8)=small_Free sv t p h y0 y1 y2 y3 y4 y5 y6 y7 y8 (r18_Slot t p h k e).1 (r18_Slot t p h k e).2→
  soundA ⟨t,p,h⟩ su.vals=true∧stateA ⟨t,p,h⟩ su.vals=stateA ⟨t,p,h⟩ xs∧∀(u:Nat→Option Addr) (n:Nat→Nat),r17_Fits t p h su.vals (a0.set T.toNat (slE (u 0) (n 0) z0)) (a1.set T.toNat (slE (u 1) (n 1) z1)) (a2.set T.toNat (slE (u 2) (n 2) z2)) (a3.set T.toNat (slE (u 3) (n 3) z3)) (a4.set T.toNat (slE (u 4) (n 4) z4)) (a5.set T.toNat (slE (u 5) (n 5) z5)) (a6.set T.toNat (slE (u 6) (n 6) z6)) (a7.set T.toNat (slE (u 7) (n 7) z7)) (a8.set T.toNat (slE (u 8) (n 8) z8))=true:=by
 rcases OH hf hs hl hb he with ⟨h0,_⟩|⟨_,s0,g',j,m,L,rfl,rfl,H⟩
 ·cases h0
 have I:=H.id
 have hk:=I.kb
 have hks:=kSlots_bd k
 have hsl:=I.sl
 have hok:=H.h.ok
 have hss:=(Cf.ok_iff.1 hok).2.2
 obtain ⟨b1,b2,b3,b4,b5,b6⟩:=H.beg
 have b1:At ⟨t,p,h⟩ (begS s0 t p h g' j) (mBeg m g' j):=b1
 have b2:(begS s0 t p h g' j).all=true:=b2
 obtain ⟨_,hT,_,_,_⟩:=fit_all hf hs
 obtain ⟨ht,hlb⟩:=PW hf hs hl hb
 obtain ⟨e0,e1,e2⟩:=pg_sl hok hk I.pg hsl
 have eS:r18_Slot t p h k (adS ⟨t,p,h⟩ k g' j)=(g',j):=by
  show (pgA t p h (adS ⟨t,p,h⟩ k g' j),slA t p h k (adS ⟨t,p,h⟩ k g' j))=(g',j)
  rw [show pgA t p h (adS ⟨t,p,h⟩ k g' j)=g' from e1,show slA t p h k (adS ⟨t,p,h⟩ k g' j)=j from e2]
 have hsv:=sound_of b1 b2 b3
 have eq:=meq_vals b1 b2
 refine ⟨hsv,?_,b5,PR hok b6 H.len.2,by rw [eS];exact I.pg.1, λu n=>?_, λ{su} {z0 z1 z2 z3 z4 z5 z6 z7 z8} hsu=>?_⟩
 ·rw [state_of b1 b2 b3,b4,(szB_ok hss hk).1]
 ·exact OW (st:=[y0,y1,y2,y3,y4,y5,y6,y7,y8]) hsv (good_vals b1 b2).bd hl ht hT (b6.congr eq) (λk' hk'=>⟨H.len.2 k' hk',hlb k' hk'⟩) u n
 ·obtain ⟨s2,f1,f2,f3,f4⟩:=H.free
  rw [eS] at hsu
  have hc:(decide (j<0)||decide (j≥32))=false:=by simp only [jB,decide_eq_false_iff_not];omega
  unfold small_Free at hsu
  dsimp only at hsu
  rw [hc,cond_false] at hsu
  have hsu:=hsu.trans f1
  simp only [iU] at hsu
  obtain ⟨rfl,w0,w1,w2,w3,w4,w5,w6,w7,w8⟩:=hsu
  have g1:=sound_of f2 f3 H.snd
  have ez:pkk [z0,z1,z2,z3,z4,z5,z6,z7,z8]=pkk (pkS [y0,y1,y2,y3,y4,y5,y6,y7,y8] k (pkk [y0,y1,y2,y3,y4,y5,y6,y7,y8] k++[adS ⟨t,p,h⟩ k g' j])):=PO λi hi=>by
   match i,hi with
   |0,_=>exact w0
   |1,_=>exact w1
   |2,_=>exact w2
   |3,_=>exact w3
   |4,_=>exact w4
   |5,_=>exact w5
   |6,_=>exact w6
   |7,_=>exact w7
   |8,_=>exact w8
  refine ⟨g1,by rw [state_of f2 f3 H.snd,H.stm], λu n=>?_⟩
  refine OW (st:=[z0,z1,z2,z3,z4,z5,z6,z7,z8]) g1 (good_vals f2 f3).bd hl ht hT ?_ (λk' hk'=>⟨?_,hlb k' hk'⟩) u n
  ·have f5:=f4.congr (meq_vals f2 f3)
   unfold FitS at f5 ⊢
   rw [ez];exact f5
  ·rw [ez]
   by_cases e:k'=k
   ·subst e;rw [pkk_same hk,jL,lK];have:=H.len.1;omega
   ·rw [pkk_other hk hk' e];exact H.len.2 k' hk'
theorem PV {b z:Int}:∀{l k:LI},l.length=k.length→(∀x∈l,x≠b)→∀i:Nat,i<(insA b l).length→((insA b l).getD i 0=b∧(insZ b z l k).getD i 0=z)∨((insA b l).getD i 0≠b∧(insA b l).getD i 0∈l)
 |[],[],_,_,i,hi=>by
  have:i=0:=by simp [insA] at hi;omega
  subst this;exact .inl ⟨rfl,rfl⟩
 |[],_::_,h,_,_,_=>by simp at h
 |_::_,[],h,_,_,_=>by simp at h
 |x::l,y::k,h,hne,i,hi=>by
  unfold insA insZ at*
  cases hd:decide (x>b) with
  |true=>
   rw [hd,cond_true] at hi
   rw [cond_true,cond_true]
   cases i with
   |zero=>exact .inl ⟨rfl,rfl⟩
   |succ i=>
    right
    have hi:i<(x::l).length:=by simpa using hi
    have e:(b::x::l).getD (i+1) 0=(x::l)[i]:=by
     rw [iD,kB,iM hi];rfl
    rw [e]
    exact ⟨hne _ (pS hi),pS hi⟩
  |false=>
   rw [hd,cond_false] at hi
   rw [cond_false,cond_false]
   cases i with
   |zero=>exact .inr ⟨hne x (by simp),by simp⟩
   |succ i=>
    have:=PV (b:=b) (z:=z) (l:=l) (k:=k) (by simpa using h) (λx hx=>hne x (by simp [hx])) i (by simpa using hi)
    simp only [oT,iH]
    rcases this with h|h
    ·exact .inl h
    ·exact .inr ⟨h.1, .inr h.2⟩
theorem PD {b:Int}:∀{l:LI},b∈insA b l
 |[]=>by simp [insA]
 |x::l=>by
  unfold insA
  cases decide (x>b) with
  |true=>simp
  |false=>rw [cond_false];exact List.mem_cons_of_mem _ PD
end
end Go.Proofs.YtinpgnomkmmfdaaGreat
namespace Go.Sl
section
open Go.RowKit
variable {σ:Type}
def OX (c:Ct σ) (P:Program) (T:List (Nat×Entry σ)) (I:List Nat) (fuel:Nat) (fn:Func) (B:Code) (p0:Addr) (cs:List (Cm σ)) (hs:List (Hd σ)) (r0:Ty c.RK) (Inv:Nat→List (Cm σ)→Prop) (ms:Nat→List (Cm σ)→Nat×Nat×Nat):List (Hd σ)→Nat→Prop
 |[],_=>True
 |h::r,j=>(AllC h.kd λx=>Inv j x→∀ad,∃W:Prop,(∀β γ,c.lhsW p0 cs hs (λr=>r=r0) (λj' x'=>Inv j' x'∧lx (ms j' x') (ms j x)) (run P T (h.stp I) fuel B fn.results.toList fn.ntmps h.tds (h.L ad x) (h.K ad x)) β γ=
   c.rhsW p0 cs hs (run P T (h.stp I) fuel B fn.results.toList fn.ntmps h.tds (h.L ad x) (h.K ad x)) W β γ)∧W)∧OX c P T I fuel fn B p0 cs hs r0 Inv ms r (j+1)
theorem O3 {c:Ct σ} {P:Program} {T:List (Nat×Entry σ)} {I:List Nat} {fuel:Nat} {fn:Func} {B:Code} {p0:Addr} {cs:List (Cm σ)} {hs:List (Hd σ)} {r0:Ty c.RK} {Inv:Nat→List (Cm σ)→Prop} {ms:Nat→List (Cm σ)→Nat×Nat×Nat}:∀{l:List (Hd σ)} {m:Nat} {i:Nat} {h:Hd σ},OX c P T I fuel fn B p0 cs hs r0 Inv ms l m→l[i]? =some h→
 AllC h.kd λx=>Inv (m+i) x→∀ad,∃W:Prop,(∀β γ,c.lhsW p0 cs hs (λr=>r=r0) (λj' x'=>Inv j' x'∧lx (ms j' x') (ms (m+i) x)) (run P T (h.stp I) fuel B fn.results.toList fn.ntmps h.tds (h.L ad x) (h.K ad x)) β γ=
  c.rhsW p0 cs hs (run P T (h.stp I) fuel B fn.results.toList fn.ntmps h.tds (h.L ad x) (h.K ad x)) W β γ)∧W
 |[],_,_,_,_,h=>by simp at h
 |h0::r,m,0,h,hs,hg=>by simp at hg;subst hg;exact hs.1
 |h0::r,m,i+1,h,hs,hg=>by
  have:=O3 hs.2 (i:=i) (by simpa using hg)
  rw [show m+1+i=m+(i+1) by omega] at this
  exact this
variable (D:Addr→σ→Asn)
theorem PX {c:Ct σ} {P:Program} {T:List (Nat×Entry σ)} (hT:TableOk D P T) {I:List Nat} {f:FuncId} {fn:Func} {B:Code} (hfn:P.funcs[f]? =some fn) (hmix:P.follows .mixedOrders=true) (hB:fn.body=some B)
 (ha:isArgs c.ash=true) (hl:kI c.full.length fn.ntmps=true) {F:Cur c.AK (Ty c.RK)} {pre:Cur c.AK (List Prop)} (fuel:Nat)
 (H:∀p0,AllC c.AK λcs=>bds c.full cs→(∀p∈appC c.AK pre cs,p)→∃(hs:List (Hd σ)) (Inv:Nat→List (Cm σ)→Prop) (ms:Nat→List (Cm σ)→Nat×Nat×Nat),hcode B hs=hcode' B hs∧
   (∃W:Prop,(∀ad β γ,c.lhsW p0 cs hs (λr=>r=appC c.AK F cs) Inv (c.tree P T I fuel fn B p0 cs ad) β γ=c.rhsW p0 cs hs (c.tree P T I fuel fn B p0 cs ad) W β γ)∧W)∧
   OX c P T I fuel fn B p0 cs hs (appC c.AK F cs) Inv ms hs 0):EntryOk D P f (entC c F pre):=by
 refine ent_of D (mk:=[]) hT (I:=I) hfn hmix hB ha hl fuel λp0=>?_
 have key:∀{ks:List (Kd σ)} {p q:List (Cm σ)→Prop},(∀cs,p cs→q cs)→AllC ks p→AllC ks q:=by
  intro ks
  induction ks with
  |nil=>exact λh hp=>h [] hp
  |cons k ks ih=>exact λh hp a=>ih (λcs=>h _) (hp a)
 refine key (λcs hH hb hp ad E G=>?_) (H p0)
 obtain ⟨hs,Inv,ms,hc,⟨W,hW,hW'⟩,hst⟩:=hH hb hp
 have loop:∀x:Nat×Nat×Nat,∀j h,hs[j]? =some h→∀s,fitsC h.kd s=true→Inv j s→ms j s=x→∀ad,SW D P f (Post D E G (c.outC (appC c.AK F cs)) (c.nwC p0 cs (appC c.AK F cs)) (c.mksC (appC c.AK F cs))) B fn.ntmps E G h.tds (h.L ad s) (h.K ad s):=by
  refine lx_rec λx ih j h hg s hf hI hm ad=>?_
  have hq:=O3 hst hg
  rw [lX] at hq
  obtain ⟨W1,hW1,hW2⟩:=hq.at s hf hI ad
  exact SW.go D hT (I:=h.stp I) hfn hmix fuel rfl (wp_tree D hW1 hW2 hc λj' h' hg' s' hf' hI' ad'=>ih _ (by rw [←hm];exact hI'.2) j' h' hg' s' hf' hI'.1 rfl ad')
 exact wp_tree D (hW ad) hW' hc λj h hg s hf hI ad=>loop _ j h hg s hf hI rfl ad
end
end Go.Sl
namespace Go.Proofs.YtinpgnomkmmfdaaGreat
section
open Go.Sl
abbrev MQ (a0 a1 a2 a3 a4 a5 a6 a7 a8:LI):Prop:=slO a0.length a0∧slO a0.length a1∧slO a0.length a2∧slO a0.length a3∧slO a0.length a4∧slO a0.length a5∧slO a0.length a6∧slO a0.length a7∧slO a0.length a8
abbrev MR (a0 a1 a2 a3 a4 a5 a6 a7 a8:LI):Prop:=a1.length=a0.length∧a2.length=a0.length∧a3.length=a0.length∧a4.length=a0.length∧a5.length=a0.length∧a6.length=a0.length∧a7.length=a0.length∧a8.length=a0.length
theorem Nb (s:VS):bdAll s.vals:=by
 intro v hv
 unfold VS.vals at hv
 cases ha:s.all with
 |false=>rw [ha] at hv;cases hv
 |true=>
  rw [ha,cond_true,kW] at hv
  obtain ⟨i,_,rfl⟩:=hv
  unfold VS.cur
  split
  ·exact nv_bd _
  ·split
   ·exact nv_bd _
   ·exact ⟨by decide,by decide⟩
theorem st_len (c:Cf) (xs:LI):(stateA c xs).1.length=(stateA c xs).2.1.length:=by
 unfold stateA
 cases soundA c xs<;>simp
theorem PP (xa xz:LI) (u0 u1 u2 u3 u4 u5 u6 u7:Int):MB xa xz u0 u1 u2 u3 u4 u5 u6 u7 xa xz u0 u1 u2 u3 u4 u5 u6 u7=true:=by simp [MB]
theorem PS {c:Cf} {xs:LI} (h:soundA c xs=true):(stateA c xs).2.2.2.2.2.2.2.2.2.2=true:=by unfold stateA;rw [h];rfl
theorem Qd {x:StT} (h:x.2.2.2.2.2.2.2.2.2.2=true):(x.1,x.2.1,x.2.2.1,x.2.2.2.1,x.2.2.2.2.1,x.2.2.2.2.2.1,x.2.2.2.2.2.2.1,x.2.2.2.2.2.2.2.1,x.2.2.2.2.2.2.2.2.1,x.2.2.2.2.2.2.2.2.2.1,true)=x:=by rw [←h]
theorem OY {c:Cf} (xs:LI) (h:c.p≤64):(stateA c xs).1.length≤40000:=by
 unfold stateA
 cases soundA c xs with
 |false=>exact oG _
 |true=>
  have:=blocksL_len c xs
  simp only [cond_true,kG];omega
def SmallKeeps (t p h:Int) (xs a0 a1 a2 a3 a4 a5 a6 a7 a8:LI) (T k g b:Int):Bool:=true
abbrev NH:Ct Sg:=⟨none,false,[.agg [.i .i64, .i .i64, .i .i64], .ro [some .u32], .agg [.ro [some .i16,some .i16,some .i16,some .i16,some .i16,some .i16,some .i16,some .i16,some .i16], .i .i64, .i .i64, .i .i64, .i .i64]], .b⟩
def OZ:Entry Sg:=entC NH SmallKeeps (λt p h xs a0 a1 a2 a3 a4 a5 a6 a7 a8 T k g b=>[bdAll xs,MQ a0 a1 a2 a3 a4 a5 a6 a7 a8,MR a0 a1 a2 a3 a4 a5 a6 a7 a8])
def NI (t p h:Int) (xs a0 a1 a2 a3 a4 a5 a6 a7 a8:LI) (T k g b:Int) (Q0:Nat→LI→LI→Int→Int→Int→Int→Int→Int→Int→Int→VS→Prop) (Q1:Nat→LI→LI→Int→Int→Int→Int→Int→Int→Int→Int→VS→Int→LI→LI→LI→LI→LI→LI→LI→LI→LI→Bool→Prop) (Q2:Nat→LI→LI→Int→Int→Int→Int→Int→Int→Int→Int→VS→Int→LI→LI→LI→LI→LI→LI→LI→LI→LI→Nat→LI→LI→Int→Int→Int→Int→Int→Int→Int→Int→Bool→Prop) (Q3:Nat→LI→LI→Int→Int→Int→Int→Int→Int→Int→Int→VS→Int→LI→LI→LI→LI→LI→LI→LI→LI→LI→Nat→LI→LI→Int→Int→Int→Int→Int→Int→Int→Int→Int→Prop) (Q4:Nat→LI→LI→Int→Int→Int→Int→Int→Int→Int→Int→VS→LI→LI→LI→LI→LI→LI→LI→LI→LI→Prop) (Q5:Nat→LI→LI→Int→Int→Int→Int→Int→Int→Int→Int→VS→LI→LI→LI→LI→LI→LI→LI→LI→LI→Nat→LI→LI→Int→Int→Int→Int→Int→Int→Int→Int→Bool→Prop) (R_:Bool→Prop):Prop:=(∀r2:Bool,r2=(l18_fit t p h xs a0 a1 a2 a3 a4 a5 a6 a7 a8 T k g b)→(aw_ (bdAll xs) (bw_ (!r2) (∀r5:Bool,r5=(true)→(R_ (r5))) (∀r5:LI×LI×Int×Int×Int×Int×Int×Int×Int×Int×Bool,r5=(Me t p h xs)→(aw_ (bdAll xs) (∀r9:VS,r9=(VS.whole xs)→(aw_ (iF xs≤1000000) (aw_ (bdL xs) (Q0 (iF r5.1) r5.1 r5.2.1 r5.2.2.1 r5.2.2.2.1 r5.2.2.2.2.1 r5.2.2.2.2.2.1 r5.2.2.2.2.2.2.1 r5.2.2.2.2.2.2.2.1 r5.2.2.2.2.2.2.2.2.1 r5.2.2.2.2.2.2.2.2.2.1 (r9))))))))))
abbrev MF (a0 a1 a2 a3 a4 a5 a6 a7 a8:LI):=(lenC [kH a0,kH a1,kH a2,kH a3,kH a4,kH a5,kH a6,kH a7,kH a8])
abbrev Nh (sv:VS) (t p h:Int) (a0:LI) (T:Int) (a1 a2 a3 a4 a5 a6 a7 a8:LI) (k:Int) (Q1:Nat→LI→LI→Int→Int→Int→Int→Int→Int→Int→Int→VS→Int→LI→LI→LI→LI→LI→LI→LI→LI→LI→Bool→Prop) (nw:Nat) (wa wz:LI) (w0 w1 w2 w3 w4 w5 w6 w7:Int):Prop:=(∀r1:VS×Int×LI×LI×LI×LI×LI×LI×LI×LI×LI×Bool,r1=(small_Alloc sv t p h (slR (iG a0 (iI T) 0)) (slR (iG a1 (iI T) 0)) (slR (iG a2 (iI T) 0)) (slR (iG a3 (iI T) 0)) (slR (iG a4 (iI T) 0)) (slR (iG a5 (iI T) 0)) (slR (iG a6 (iI T) 0)) (slR (iG a7 (iI T) 0)) (slR (iG a8 (iI T) 0)) k)→(aw_ (p≤1024) (aw_ (pkB (slR (iG a0 (iI T) 0)) (slR (iG a1 (iI T) 0)) (slR (iG a2 (iI T) 0)) (slR (iG a3 (iI T) 0)) (slR (iG a4 (iI T) 0)) (slR (iG a5 (iI T) 0)) (slR (iG a6 (iI T) 0)) (slR (iG a7 (iI T) 0)) (slR (iG a8 (iI T) 0))) (Q1 (nw) (wa) (wz) (w0) (w1) (w2) (w3) (w4) (w5) (w6) (w7) r1.1 r1.2.1 r1.2.2.1 r1.2.2.2.1 r1.2.2.2.2.1 r1.2.2.2.2.2.1 r1.2.2.2.2.2.2.1 r1.2.2.2.2.2.2.2.1 r1.2.2.2.2.2.2.2.2.1 r1.2.2.2.2.2.2.2.2.2.1 r1.2.2.2.2.2.2.2.2.2.2.1 r1.2.2.2.2.2.2.2.2.2.2.2))))
def N8 (ad:Nat→Ad) (t p h:Int) (xs a0 a1 a2 a3 a4 a5 a6 a7 a8:LI) (T k g b:Int) (nw:Nat) (wa wz:LI) (w0 w1 w2 w3 w4 w5 w6 w7:Int) (sv:VS) (Q0:Nat→LI→LI→Int→Int→Int→Int→Int→Int→Int→Int→VS→Prop) (Q1:Nat→LI→LI→Int→Int→Int→Int→Int→Int→Int→Int→VS→Int→LI→LI→LI→LI→LI→LI→LI→LI→LI→Bool→Prop) (Q2:Nat→LI→LI→Int→Int→Int→Int→Int→Int→Int→Int→VS→Int→LI→LI→LI→LI→LI→LI→LI→LI→LI→Nat→LI→LI→Int→Int→Int→Int→Int→Int→Int→Int→Bool→Prop) (Q3:Nat→LI→LI→Int→Int→Int→Int→Int→Int→Int→Int→VS→Int→LI→LI→LI→LI→LI→LI→LI→LI→LI→Nat→LI→LI→Int→Int→Int→Int→Int→Int→Int→Int→Int→Prop) (Q4:Nat→LI→LI→Int→Int→Int→Int→Int→Int→Int→Int→VS→LI→LI→LI→LI→LI→LI→LI→LI→LI→Prop) (Q5:Nat→LI→LI→Int→Int→Int→Int→Int→Int→Int→Int→VS→LI→LI→LI→LI→LI→LI→LI→LI→LI→Nat→LI→LI→Int→Int→Int→Int→Int→Int→Int→Int→Bool→Prop) (R_:Bool→Prop):Prop:=((aw_ (0≤T∧T<(↑(MF a0 a1 a2 a3 a4 a5 a6 a7 a8):Int)) (((Nh sv t p h a0 T a1 a2 a3 a4 a5 a6 a7 a8 k Q1 nw wa wz w0 w1 w2 w3 w4 w5 w6 w7)∧(Nh sv t p h a0 T a1 a2 a3 a4 a5 a6 a7 a8 k Q1 nw wa wz w0 w1 w2 w3 w4 w5 w6 w7))∧(Nh sv t p h a0 T a1 a2 a3 a4 a5 a6 a7 a8 k Q1 nw wa wz w0 w1 w2 w3 w4 w5 w6 w7)))∧(aw_ (0≤T∧T<(↑(MF a0 a1 a2 a3 a4 a5 a6 a7 a8):Int)) (Nh sv t p h a0 T a1 a2 a3 a4 a5 a6 a7 a8 k Q1 nw wa wz w0 w1 w2 w3 w4 w5 w6 w7)))
def LM (t p h:Int) (xs a0 a1 a2 a3 a4 a5 a6 a7 a8:LI) (T k g b:Int) (nw:Nat) (wa wz:LI) (w0 w1 w2 w3 w4 w5 w6 w7:Int) (sv:VS) (r_:Bool):Prop:=l18_fit t p h xs a0 a1 a2 a3 a4 a5 a6 a7 a8 T k g b=true∧(wa,wz,w0,w1,w2,w3,w4,w5,w6,w7,true)=stateA ⟨t,p,h⟩ xs∧nw=wa.length∧sv=VS.whole xs∧r_=true
abbrev Nv (t p h:Int) (r1:LI) (Q2:Nat→LI→LI→Int→Int→Int→Int→Int→Int→Int→Int→VS→Int→LI→LI→LI→LI→LI→LI→LI→LI→LI→Nat→LI→LI→Int→Int→Int→Int→Int→Int→Int→Int→Bool→Prop) (nw:Nat) (wa wz:LI) (w0 w1 w2 w3 w4 w5 w6 w7:Int) (sv:VS) (e:Int) (y0 y1 y2 y3 y4 y5 y6 y7 y8:LI):Prop:=(∀r3:LI×LI×Int×Int×Int×Int×Int×Int×Int×Int×Bool,r3=(Me t p h r1)→(aw_ (bdAll r1) (Q2 (nw) (wa) (wz) (w0) (w1) (w2) (w3) (w4) (w5) (w6) (w7) (sv) (e) (y0) (y1) (y2) (y3) (y4) (y5) (y6) (y7) (y8) (iF r3.1) r3.1 r3.2.1 r3.2.2.1 r3.2.2.2.1 r3.2.2.2.2.1 r3.2.2.2.2.2.1 r3.2.2.2.2.2.2.1 r3.2.2.2.2.2.2.2.1 r3.2.2.2.2.2.2.2.2.1 r3.2.2.2.2.2.2.2.2.2.1 r3.2.2.2.2.2.2.2.2.2.2)))
def N9 (ad:Nat→Ad) (t p h:Int) (xs a0 a1 a2 a3 a4 a5 a6 a7 a8:LI) (T k g b:Int) (nw:Nat) (wa wz:LI) (w0 w1 w2 w3 w4 w5 w6 w7:Int) (sv:VS) (e:Int) (y0 y1 y2 y3 y4 y5 y6 y7 y8:LI) (ok:Bool) (Q0:Nat→LI→LI→Int→Int→Int→Int→Int→Int→Int→Int→VS→Prop) (Q1:Nat→LI→LI→Int→Int→Int→Int→Int→Int→Int→Int→VS→Int→LI→LI→LI→LI→LI→LI→LI→LI→LI→Bool→Prop) (Q2:Nat→LI→LI→Int→Int→Int→Int→Int→Int→Int→Int→VS→Int→LI→LI→LI→LI→LI→LI→LI→LI→LI→Nat→LI→LI→Int→Int→Int→Int→Int→Int→Int→Int→Bool→Prop) (Q3:Nat→LI→LI→Int→Int→Int→Int→Int→Int→Int→Int→VS→Int→LI→LI→LI→LI→LI→LI→LI→LI→LI→Nat→LI→LI→Int→Int→Int→Int→Int→Int→Int→Int→Int→Prop) (Q4:Nat→LI→LI→Int→Int→Int→Int→Int→Int→Int→Int→VS→LI→LI→LI→LI→LI→LI→LI→LI→LI→Prop) (Q5:Nat→LI→LI→Int→Int→Int→Int→Int→Int→Int→Int→VS→LI→LI→LI→LI→LI→LI→LI→LI→LI→Nat→LI→LI→Int→Int→Int→Int→Int→Int→Int→Int→Bool→Prop) (R_:Bool→Prop):Prop:=(bw_ (!ok) (bw_ (e==0) (∀r2:LI×LI,r2=((VS.wrote sv,VS.puts sv))→(aw_ (((↑(iF r2.1):Int)==0)=true→0≤T∧T<(↑(MF a0 a1 a2 a3 a4 a5 a6 a7 a8):Int)) (bw_ ((↑(iF r2.1):Int)==0) (∀r6:Bool,r6=(r17_Same y0 y1 y2 y3 y4 y5 y6 y7 y8 (slR (iG a0 (iI T) 0)) (slR (iG a1 (iI T) 0)) (slR (iG a2 (iI T) 0)) (slR (iG a3 (iI T) 0)) (slR (iG a4 (iI T) 0)) (slR (iG a5 (iI T) 0)) (slR (iG a6 (iI T) 0)) (slR (iG a7 (iI T) 0)) (slR (iG a8 (iI T) 0)))→(bw_ (r6) (∀r8:Bool,r8=(true)→(R_ (r8))) (R_ (false)))) (R_ (false))))) (R_ (false))) ((∀r1:LI,r1=(VS.vals sv)→((Nv t p h r1 Q2 nw wa wz w0 w1 w2 w3 w4 w5 w6 w7 sv e y0 y1 y2 y3 y4 y5 y6 y7 y8)∧(Nv t p h r1 Q2 nw wa wz w0 w1 w2 w3 w4 w5 w6 w7 sv e y0 y1 y2 y3 y4 y5 y6 y7 y8)))∧(∀r2:LI,r2=(VS.vals sv)→(Nv t p h r2 Q2 nw wa wz w0 w1 w2 w3 w4 w5 w6 w7 sv e y0 y1 y2 y3 y4 y5 y6 y7 y8))))
def LP (t p h:Int) (xs a0 a1 a2 a3 a4 a5 a6 a7 a8:LI) (T k g b:Int) (nw:Nat) (wa wz:LI) (w0 w1 w2 w3 w4 w5 w6 w7:Int) (sv:VS) (e:Int) (y0 y1 y2 y3 y4 y5 y6 y7 y8:LI) (ok r_:Bool):Prop:=l18_fit t p h xs a0 a1 a2 a3 a4 a5 a6 a7 a8 T k g b=true∧(sv,e,y0,y1,y2,y3,y4,y5,y6,y7,y8,ok)=small_Alloc (VS.whole xs) t p h (slR (a0.getD T.toNat 0)) (slR (a1.getD T.toNat 0)) (slR (a2.getD T.toNat 0)) (slR (a3.getD T.toNat 0)) (slR (a4.getD T.toNat 0)) (slR (a5.getD T.toNat 0)) (slR (a6.getD T.toNat 0)) (slR (a7.getD T.toNat 0)) (slR (a8.getD T.toNat 0)) k∧(wa,wz,w0,w1,w2,w3,w4,w5,w6,w7,true)=stateA ⟨t,p,h⟩ xs∧nw=wa.length∧r_=true
def NC (ad:Nat→Ad) (t p h:Int) (xs a0 a1 a2 a3 a4 a5 a6 a7 a8:LI) (T k g b:Int) (nw:Nat) (wa wz:LI) (w0 w1 w2 w3 w4 w5 w6 w7:Int) (sv:VS) (e:Int) (y0 y1 y2 y3 y4 y5 y6 y7 y8:LI) (nv_:Nat) (va vz:LI) (v0 v1 v2 v3 v4 v5 v6 v7:Int) (is:Bool) (Q0:Nat→LI→LI→Int→Int→Int→Int→Int→Int→Int→Int→VS→Prop) (Q1:Nat→LI→LI→Int→Int→Int→Int→Int→Int→Int→Int→VS→Int→LI→LI→LI→LI→LI→LI→LI→LI→LI→Bool→Prop) (Q2:Nat→LI→LI→Int→Int→Int→Int→Int→Int→Int→Int→VS→Int→LI→LI→LI→LI→LI→LI→LI→LI→LI→Nat→LI→LI→Int→Int→Int→Int→Int→Int→Int→Int→Bool→Prop) (Q3:Nat→LI→LI→Int→Int→Int→Int→Int→Int→Int→Int→VS→Int→LI→LI→LI→LI→LI→LI→LI→LI→LI→Nat→LI→LI→Int→Int→Int→Int→Int→Int→Int→Int→Int→Prop) (Q4:Nat→LI→LI→Int→Int→Int→Int→Int→Int→Int→Int→VS→LI→LI→LI→LI→LI→LI→LI→LI→LI→Prop) (Q5:Nat→LI→LI→Int→Int→Int→Int→Int→Int→Int→Int→VS→LI→LI→LI→LI→LI→LI→LI→LI→LI→Nat→LI→LI→Int→Int→Int→Int→Int→Int→Int→Int→Bool→Prop) (R_:Bool→Prop):Prop:=(bw_ (!is) (R_ (false)) (∀r1:Bool,r1=(r12_Has wa wz e)→(bw_ (r1) (R_ (false)) (∀r3:Bool,r3=(r12_Has va vz e)→(tw_ (bw_ (!r3) (R_ (false)) (bw_ ((↑nv_:Int) !=iA iB ((↑nw:Int)+1)||!(v0==w0&&(v1==w1&&(v2==w2&&(v3==w3&&(v4==w4&&(v5==w5&&(v6==w6&&(v7==w7&&true))))))))) (R_ (false)) (∀r6:LI,r6=(VS.vals sv)→(∀r8:PUnit,r8=(())→(aw_ (lenC [kH a0,kH a1,kH a2,kH a3,kH a4,kH a5,kH a6,kH a7,kH a8]≤1000) (aw_ (0≤T∧T<(↑(MF a0 a1 a2 a3 a4 a5 a6 a7 a8):Int)) (∀r12:Bool,r12=(r17_Fits t p h r6 (lI a0 (iI T) (slE (Ad.a (ad 8)) (Ad.c (ad 8)) y0)) (lI a1 (iI T) (slE (Ad.a (ad 9)) (Ad.c (ad 9)) y1)) (lI a2 (iI T) (slE (Ad.a (ad 10)) (Ad.c (ad 10)) y2)) (lI a3 (iI T) (slE (Ad.a (ad 11)) (Ad.c (ad 11)) y3)) (lI a4 (iI T) (slE (Ad.a (ad 12)) (Ad.c (ad 12)) y4)) (lI a5 (iI T) (slE (Ad.a (ad 13)) (Ad.c (ad 13)) y5)) (lI a6 (iI T) (slE (Ad.a (ad 14)) (Ad.c (ad 14)) y6)) (lI a7 (iI T) (slE (Ad.a (ad 15)) (Ad.c (ad 15)) y7)) (lI a8 (iI T) (slE (Ad.a (ad 16)) (Ad.c (ad 16)) y8)))→(aw_ (bdAll r6) (aw_ (iF (lI a0 (iI T) (slE (Ad.a (ad 8)) (jY (Ad.c (ad 8),y0)) (lD (Ad.c (ad 8),y0))))≤1000) (bw_ (!r12) (R_ (false)) (Q3 (nw) (wa) (wz) (w0) (w1) (w2) (w3) (w4) (w5) (w6) (w7) (sv) (e) (y0) (y1) (y2) (y3) (y4) (y5) (y6) (y7) (y8) (nv_) (va) (vz) (v0) (v1) (v2) (v3) (v4) (v5) (v6) (v7) (0)))))))))))))))))
def LQ (t p h:Int) (xs a0 a1 a2 a3 a4 a5 a6 a7 a8:LI) (T k g b:Int) (nw:Nat) (wa wz:LI) (w0 w1 w2 w3 w4 w5 w6 w7:Int) (sv:VS) (e:Int) (y0 y1 y2 y3 y4 y5 y6 y7 y8:LI) (nv_:Nat) (va vz:LI) (v0 v1 v2 v3 v4 v5 v6 v7:Int) (is r_:Bool):Prop:=l18_fit t p h xs a0 a1 a2 a3 a4 a5 a6 a7 a8 T k g b=true∧(sv,e,y0,y1,y2,y3,y4,y5,y6,y7,y8,true)=small_Alloc (VS.whole xs) t p h (slR (a0.getD T.toNat 0)) (slR (a1.getD T.toNat 0)) (slR (a2.getD T.toNat 0)) (slR (a3.getD T.toNat 0)) (slR (a4.getD T.toNat 0)) (slR (a5.getD T.toNat 0)) (slR (a6.getD T.toNat 0)) (slR (a7.getD T.toNat 0)) (slR (a8.getD T.toNat 0)) k∧(wa,wz,w0,w1,w2,w3,w4,w5,w6,w7,true)=stateA ⟨t,p,h⟩ xs∧nw=wa.length∧(va,vz,v0,v1,v2,v3,v4,v5,v6,v7,is)=stateA ⟨t,p,h⟩ sv.vals∧nv_=va.length∧r_=true
def ND (ad:Nat→Ad) (t p h:Int) (xs a0 a1 a2 a3 a4 a5 a6 a7 a8:LI) (T k g b:Int) (nw:Nat) (wa wz:LI) (w0 w1 w2 w3 w4 w5 w6 w7:Int) (sv:VS) (e:Int) (y0 y1 y2 y3 y4 y5 y6 y7 y8:LI) (nv_:Nat) (va vz:LI) (v0 v1 v2 v3 v4 v5 v6 v7 i:Int) (Q0:Nat→LI→LI→Int→Int→Int→Int→Int→Int→Int→Int→VS→Prop) (Q1:Nat→LI→LI→Int→Int→Int→Int→Int→Int→Int→Int→VS→Int→LI→LI→LI→LI→LI→LI→LI→LI→LI→Bool→Prop) (Q2:Nat→LI→LI→Int→Int→Int→Int→Int→Int→Int→Int→VS→Int→LI→LI→LI→LI→LI→LI→LI→LI→LI→Nat→LI→LI→Int→Int→Int→Int→Int→Int→Int→Int→Bool→Prop) (Q3:Nat→LI→LI→Int→Int→Int→Int→Int→Int→Int→Int→VS→Int→LI→LI→LI→LI→LI→LI→LI→LI→LI→Nat→LI→LI→Int→Int→Int→Int→Int→Int→Int→Int→Int→Prop) (Q4:Nat→LI→LI→Int→Int→Int→Int→Int→Int→Int→Int→VS→LI→LI→LI→LI→LI→LI→LI→LI→LI→Prop) (Q5:Nat→LI→LI→Int→Int→Int→Int→Int→Int→Int→Int→VS→LI→LI→LI→LI→LI→LI→LI→LI→LI→Nat→LI→LI→Int→Int→Int→Int→Int→Int→Int→Int→Bool→Prop) (R_:Bool→Prop):Prop:=(bw_ (decide (i<(↑nv_:Int))) (aw_ (0≤i∧i<(↑nv_:Int)) (bw_ (iG va (iI i) 0==e&&iG vz (iI i) 0 !=r05_Size h k||iG va (iI i) 0 !=e&&!r12_Has wa wz (iG va (iI i) 0)) (R_ (false)) (Q3 (nw) (wa) (wz) (w0) (w1) (w2) (w3) (w4) (w5) (w6) (w7) (sv) (e) (y0) (y1) (y2) (y3) (y4) (y5) (y6) (y7) (y8) (nv_) (va) (vz) (v0) (v1) (v2) (v3) (v4) (v5) (v6) (v7) (iA iB (i+1))))) (∀r1:Int×Int,r1=(r18_Slot t p h k e)→(∀r2:VS×LI×LI×LI×LI×LI×LI×LI×LI×LI,r2=(small_Free sv t p h y0 y1 y2 y3 y4 y5 y6 y7 y8 r1.1 r1.2)→(aw_ (p≤1024) (aw_ (pkB y0 y1 y2 y3 y4 y5 y6 y7 y8) (aw_ (0≤r1.1) (Q4 (nw) (wa) (wz) (w0) (w1) (w2) (w3) (w4) (w5) (w6) (w7) r2.1 r2.2.1 r2.2.2.1 r2.2.2.2.1 r2.2.2.2.2.1 r2.2.2.2.2.2.1 r2.2.2.2.2.2.2.1 r2.2.2.2.2.2.2.2.1 r2.2.2.2.2.2.2.2.2.1 r2.2.2.2.2.2.2.2.2.2)))))))
def LU (t p h:Int) (xs a0 a1 a2 a3 a4 a5 a6 a7 a8:LI) (T k g b:Int) (nw:Nat) (wa wz:LI) (w0 w1 w2 w3 w4 w5 w6 w7:Int) (sv:VS) (e:Int) (y0 y1 y2 y3 y4 y5 y6 y7 y8:LI) (nv_:Nat) (va vz:LI) (v0 v1 v2 v3 v4 v5 v6 v7 i:Int) (r_:Bool):Prop:=l18_fit t p h xs a0 a1 a2 a3 a4 a5 a6 a7 a8 T k g b=true∧(sv,e,y0,y1,y2,y3,y4,y5,y6,y7,y8,true)=small_Alloc (VS.whole xs) t p h (slR (a0.getD T.toNat 0)) (slR (a1.getD T.toNat 0)) (slR (a2.getD T.toNat 0)) (slR (a3.getD T.toNat 0)) (slR (a4.getD T.toNat 0)) (slR (a5.getD T.toNat 0)) (slR (a6.getD T.toNat 0)) (slR (a7.getD T.toNat 0)) (slR (a8.getD T.toNat 0)) k∧(wa,wz,w0,w1,w2,w3,w4,w5,w6,w7,true)=stateA ⟨t,p,h⟩ xs∧nw=wa.length∧(va,vz,v0,v1,v2,v3,v4,v5,v6,v7,true)=stateA ⟨t,p,h⟩ sv.vals∧nv_=va.length∧0≤i∧i≤nv_∧r_=true
abbrev Nw (t p h:Int) (r0:LI) (Q5:Nat→LI→LI→Int→Int→Int→Int→Int→Int→Int→Int→VS→LI→LI→LI→LI→LI→LI→LI→LI→LI→Nat→LI→LI→Int→Int→Int→Int→Int→Int→Int→Int→Bool→Prop) (nw:Nat) (wa wz:LI) (w0 w1 w2 w3 w4 w5 w6 w7:Int) (su:VS) (z0 z1 z2 z3 z4 z5 z6 z7 z8:LI):Prop:=(∀r2:LI×LI×Int×Int×Int×Int×Int×Int×Int×Int×Bool,r2=(Me t p h r0)→(aw_ (bdAll r0) (Q5 (nw) (wa) (wz) (w0) (w1) (w2) (w3) (w4) (w5) (w6) (w7) (su) (z0) (z1) (z2) (z3) (z4) (z5) (z6) (z7) (z8) (iF r2.1) r2.1 r2.2.1 r2.2.2.1 r2.2.2.2.1 r2.2.2.2.2.1 r2.2.2.2.2.2.1 r2.2.2.2.2.2.2.1 r2.2.2.2.2.2.2.2.1 r2.2.2.2.2.2.2.2.2.1 r2.2.2.2.2.2.2.2.2.2.1 r2.2.2.2.2.2.2.2.2.2.2)))
def NE (ad:Nat→Ad) (t p h:Int) (xs a0 a1 a2 a3 a4 a5 a6 a7 a8:LI) (T k g b:Int) (nw:Nat) (wa wz:LI) (w0 w1 w2 w3 w4 w5 w6 w7:Int) (su:VS) (z0 z1 z2 z3 z4 z5 z6 z7 z8:LI) (Q0:Nat→LI→LI→Int→Int→Int→Int→Int→Int→Int→Int→VS→Prop) (Q1:Nat→LI→LI→Int→Int→Int→Int→Int→Int→Int→Int→VS→Int→LI→LI→LI→LI→LI→LI→LI→LI→LI→Bool→Prop) (Q2:Nat→LI→LI→Int→Int→Int→Int→Int→Int→Int→Int→VS→Int→LI→LI→LI→LI→LI→LI→LI→LI→LI→Nat→LI→LI→Int→Int→Int→Int→Int→Int→Int→Int→Bool→Prop) (Q3:Nat→LI→LI→Int→Int→Int→Int→Int→Int→Int→Int→VS→Int→LI→LI→LI→LI→LI→LI→LI→LI→LI→Nat→LI→LI→Int→Int→Int→Int→Int→Int→Int→Int→Int→Prop) (Q4:Nat→LI→LI→Int→Int→Int→Int→Int→Int→Int→Int→VS→LI→LI→LI→LI→LI→LI→LI→LI→LI→Prop) (Q5:Nat→LI→LI→Int→Int→Int→Int→Int→Int→Int→Int→VS→LI→LI→LI→LI→LI→LI→LI→LI→LI→Nat→LI→LI→Int→Int→Int→Int→Int→Int→Int→Int→Bool→Prop) (R_:Bool→Prop):Prop:=((∀r0:LI,r0=(VS.vals su)→((Nw t p h r0 Q5 nw wa wz w0 w1 w2 w3 w4 w5 w6 w7 su z0 z1 z2 z3 z4 z5 z6 z7 z8)∧(Nw t p h r0 Q5 nw wa wz w0 w1 w2 w3 w4 w5 w6 w7 su z0 z1 z2 z3 z4 z5 z6 z7 z8)))∧(∀r1:LI,r1=(VS.vals su)→(Nw t p h r1 Q5 nw wa wz w0 w1 w2 w3 w4 w5 w6 w7 su z0 z1 z2 z3 z4 z5 z6 z7 z8)))
def LV (t p h:Int) (xs a0 a1 a2 a3 a4 a5 a6 a7 a8:LI) (T k g b:Int) (nw:Nat) (wa wz:LI) (w0 w1 w2 w3 w4 w5 w6 w7:Int) (su:VS) (z0 z1 z2 z3 z4 z5 z6 z7 z8:LI) (r_:Bool):Prop:=(∃sv e y0 y1 y2 y3 y4 y5 y6 y7 y8,l18_fit t p h xs a0 a1 a2 a3 a4 a5 a6 a7 a8 T k g b=true∧(sv,e,y0,y1,y2,y3,y4,y5,y6,y7,y8,true)=small_Alloc (VS.whole xs) t p h (slR (a0.getD T.toNat 0)) (slR (a1.getD T.toNat 0)) (slR (a2.getD T.toNat 0)) (slR (a3.getD T.toNat 0)) (slR (a4.getD T.toNat 0)) (slR (a5.getD T.toNat 0)) (slR (a6.getD T.toNat 0)) (slR (a7.getD T.toNat 0)) (slR (a8.getD T.toNat 0)) k∧(su,z0,z1,z2,z3,z4,z5,z6,z7,z8)=small_Free sv t p h y0 y1 y2 y3 y4 y5 y6 y7 y8 (r18_Slot t p h k e).1 (r18_Slot t p h k e).2)∧(wa,wz,w0,w1,w2,w3,w4,w5,w6,w7,true)=stateA ⟨t,p,h⟩ xs∧nw=wa.length∧r_=true
def NF (ad:Nat→Ad) (t p h:Int) (xs a0 a1 a2 a3 a4 a5 a6 a7 a8:LI) (T k g b:Int) (nw:Nat) (wa wz:LI) (w0 w1 w2 w3 w4 w5 w6 w7:Int) (su:VS) (z0 z1 z2 z3 z4 z5 z6 z7 z8:LI) (nu:Nat) (ua uz:LI) (u0 u1 u2 u3 u4 u5 u6 u7:Int) (is:Bool) (Q0:Nat→LI→LI→Int→Int→Int→Int→Int→Int→Int→Int→VS→Prop) (Q1:Nat→LI→LI→Int→Int→Int→Int→Int→Int→Int→Int→VS→Int→LI→LI→LI→LI→LI→LI→LI→LI→LI→Bool→Prop) (Q2:Nat→LI→LI→Int→Int→Int→Int→Int→Int→Int→Int→VS→Int→LI→LI→LI→LI→LI→LI→LI→LI→LI→Nat→LI→LI→Int→Int→Int→Int→Int→Int→Int→Int→Bool→Prop) (Q3:Nat→LI→LI→Int→Int→Int→Int→Int→Int→Int→Int→VS→Int→LI→LI→LI→LI→LI→LI→LI→LI→LI→Nat→LI→LI→Int→Int→Int→Int→Int→Int→Int→Int→Int→Prop) (Q4:Nat→LI→LI→Int→Int→Int→Int→Int→Int→Int→Int→VS→LI→LI→LI→LI→LI→LI→LI→LI→LI→Prop) (Q5:Nat→LI→LI→Int→Int→Int→Int→Int→Int→Int→Int→VS→LI→LI→LI→LI→LI→LI→LI→LI→LI→Nat→LI→LI→Int→Int→Int→Int→Int→Int→Int→Int→Bool→Prop) (R_:Bool→Prop):Prop:=(bw_ (is) (∀r1:Bool,r1=(MB ua uz u0 u1 u2 u3 u4 u5 u6 u7 wa wz w0 w1 w2 w3 w4 w5 w6 w7)→(aw_ (iF ua=iF uz) (aw_ (iF wa=iF wz) (bw_ (r1) (∀r5:LI,r5=(VS.vals su)→(∀r7:PUnit,r7=(())→(aw_ (lenC [kH a0,kH a1,kH a2,kH a3,kH a4,kH a5,kH a6,kH a7,kH a8]≤1000) (aw_ (0≤T∧T<(↑(MF a0 a1 a2 a3 a4 a5 a6 a7 a8):Int)) (∀r11:Bool,r11=(r17_Fits t p h r5 (lI a0 (iI T) (slE (Ad.a (ad 7)) (Ad.c (ad 7)) z0)) (lI a1 (iI T) (slE (Ad.a (ad 8)) (Ad.c (ad 8)) z1)) (lI a2 (iI T) (slE (Ad.a (ad 9)) (Ad.c (ad 9)) z2)) (lI a3 (iI T) (slE (Ad.a (ad 10)) (Ad.c (ad 10)) z3)) (lI a4 (iI T) (slE (Ad.a (ad 11)) (Ad.c (ad 11)) z4)) (lI a5 (iI T) (slE (Ad.a (ad 12)) (Ad.c (ad 12)) z5)) (lI a6 (iI T) (slE (Ad.a (ad 13)) (Ad.c (ad 13)) z6)) (lI a7 (iI T) (slE (Ad.a (ad 14)) (Ad.c (ad 14)) z7)) (lI a8 (iI T) (slE (Ad.a (ad 15)) (Ad.c (ad 15)) z8)))→(aw_ (bdAll r5) (aw_ (iF (lI a0 (iI T) (slE (Ad.a (ad 7)) (jY (Ad.c (ad 7),z0)) (lD (Ad.c (ad 7),z0))))≤1000) (bw_ (r11) (∀r15:Bool,r15=(true)→(R_ (r15))) (R_ (false)))))))))) (R_ (false)))))) (R_ (false)))
def LW (t p h:Int) (xs a0 a1 a2 a3 a4 a5 a6 a7 a8:LI) (T k g b:Int) (nw:Nat) (wa wz:LI) (w0 w1 w2 w3 w4 w5 w6 w7:Int) (su:VS) (z0 z1 z2 z3 z4 z5 z6 z7 z8:LI) (nu:Nat) (ua uz:LI) (u0 u1 u2 u3 u4 u5 u6 u7:Int) (is r_:Bool):Prop:=(∃sv e y0 y1 y2 y3 y4 y5 y6 y7 y8,l18_fit t p h xs a0 a1 a2 a3 a4 a5 a6 a7 a8 T k g b=true∧(sv,e,y0,y1,y2,y3,y4,y5,y6,y7,y8,true)=small_Alloc (VS.whole xs) t p h (slR (a0.getD T.toNat 0)) (slR (a1.getD T.toNat 0)) (slR (a2.getD T.toNat 0)) (slR (a3.getD T.toNat 0)) (slR (a4.getD T.toNat 0)) (slR (a5.getD T.toNat 0)) (slR (a6.getD T.toNat 0)) (slR (a7.getD T.toNat 0)) (slR (a8.getD T.toNat 0)) k∧(su,z0,z1,z2,z3,z4,z5,z6,z7,z8)=small_Free sv t p h y0 y1 y2 y3 y4 y5 y6 y7 y8 (r18_Slot t p h k e).1 (r18_Slot t p h k e).2)∧(wa,wz,w0,w1,w2,w3,w4,w5,w6,w7,true)=stateA ⟨t,p,h⟩ xs∧nw=wa.length∧(ua,uz,u0,u1,u2,u3,u4,u5,u6,u7,is)=stateA ⟨t,p,h⟩ su.vals∧nu=ua.length∧r_=true
abbrev LC (t p h:Int) (xs a0 a1 a2 a3 a4 a5 a6 a7 a8:LI) (T k g b:Int) (r_:Bool) (m_:Nat×Nat×Nat) (nw:Nat) (wa wz:LI) (w0 w1 w2 w3 w4 w5 w6 w7:Int) (sv:VS):Prop:=LM t p h xs a0 a1 a2 a3 a4 a5 a6 a7 a8 T k g b nw wa wz w0 w1 w2 w3 w4 w5 w6 w7 sv r_∧lx (100070,0,0) m_
abbrev LD (t p h:Int) (xs a0 a1 a2 a3 a4 a5 a6 a7 a8:LI) (T k g b:Int) (r_:Bool) (m_:Nat×Nat×Nat) (nw:Nat) (wa wz:LI) (w0 w1 w2 w3 w4 w5 w6 w7:Int) (sv:VS) (e:Int) (y0 y1 y2 y3 y4 y5 y6 y7 y8:LI) (ok:Bool):Prop:=LP t p h xs a0 a1 a2 a3 a4 a5 a6 a7 a8 T k g b nw wa wz w0 w1 w2 w3 w4 w5 w6 w7 sv e y0 y1 y2 y3 y4 y5 y6 y7 y8 ok r_∧lx (100060,0,0) m_
abbrev LG (t p h:Int) (xs a0 a1 a2 a3 a4 a5 a6 a7 a8:LI) (T k g b:Int) (r_:Bool) (m_:Nat×Nat×Nat) (nw:Nat) (wa wz:LI) (w0 w1 w2 w3 w4 w5 w6 w7:Int) (sv:VS) (e:Int) (y0 y1 y2 y3 y4 y5 y6 y7 y8:LI) (nv_:Nat) (va vz:LI) (v0 v1 v2 v3 v4 v5 v6 v7:Int) (is:Bool):Prop:=LQ t p h xs a0 a1 a2 a3 a4 a5 a6 a7 a8 T k g b nw wa wz w0 w1 w2 w3 w4 w5 w6 w7 sv e y0 y1 y2 y3 y4 y5 y6 y7 y8 nv_ va vz v0 v1 v2 v3 v4 v5 v6 v7 is r_∧lx (100050,0,0) m_
abbrev LH (t p h:Int) (xs a0 a1 a2 a3 a4 a5 a6 a7 a8:LI) (T k g b:Int) (r_:Bool) (m_:Nat×Nat×Nat) (nw:Nat) (wa wz:LI) (w0 w1 w2 w3 w4 w5 w6 w7:Int) (sv:VS) (e:Int) (y0 y1 y2 y3 y4 y5 y6 y7 y8:LI) (nv_:Nat) (va vz:LI) (v0 v1 v2 v3 v4 v5 v6 v7 i:Int):Prop:=LU t p h xs a0 a1 a2 a3 a4 a5 a6 a7 a8 T k g b nw wa wz w0 w1 w2 w3 w4 w5 w6 w7 sv e y0 y1 y2 y3 y4 y5 y6 y7 y8 nv_ va vz v0 v1 v2 v3 v4 v5 v6 v7 i r_∧lx ((nv_-i).toNat+5,0,0) m_
abbrev LJ (t p h:Int) (xs a0 a1 a2 a3 a4 a5 a6 a7 a8:LI) (T k g b:Int) (r_:Bool) (m_:Nat×Nat×Nat) (nw:Nat) (wa wz:LI) (w0 w1 w2 w3 w4 w5 w6 w7:Int) (su:VS) (z0 z1 z2 z3 z4 z5 z6 z7 z8:LI):Prop:=LV t p h xs a0 a1 a2 a3 a4 a5 a6 a7 a8 T k g b nw wa wz w0 w1 w2 w3 w4 w5 w6 w7 su z0 z1 z2 z3 z4 z5 z6 z7 z8 r_∧lx (3,0,0) m_
abbrev LK (t p h:Int) (xs a0 a1 a2 a3 a4 a5 a6 a7 a8:LI) (T k g b:Int) (r_:Bool) (m_:Nat×Nat×Nat) (nw:Nat) (wa wz:LI) (w0 w1 w2 w3 w4 w5 w6 w7:Int) (su:VS) (z0 z1 z2 z3 z4 z5 z6 z7 z8:LI) (nu:Nat) (ua uz:LI) (u0 u1 u2 u3 u4 u5 u6 u7:Int) (is:Bool):Prop:=LW t p h xs a0 a1 a2 a3 a4 a5 a6 a7 a8 T k g b nw wa wz w0 w1 w2 w3 w4 w5 w6 w7 su z0 z1 z2 z3 z4 z5 z6 z7 z8 nu ua uz u0 u1 u2 u3 u4 u5 u6 u7 is r_∧lx (2,0,0) m_
abbrev MS (p0:Addr) (t p h:Int) (xs a0 a1 a2 a3 a4 a5 a6 a7 a8:LI) (T k g b:Int):Hd Sg:=⟨some 900,[0,1,1,1,1],[.code [1,1,1,1,1]],[3,1,5,7,9],[.box 23 [.ic .i64 (t), .ic .i64 (p), .ic .i64 (h)], .roc [.ints .u32 (xs)], .box 27 [.roc [.sls (a0), .sls (a1), .sls (a2), .sls (a3), .sls (a4), .sls (a5), .sls (a6), .sls (a7), .sls (a8)], .ic .i64 (T), .ic .i64 (k), .ic .i64 (g), .ic .i64 (b)], .box 33 [.own 51 [some .i64,some .i64], .i .i64, .i .i64, .i .i64, .i .i64, .i .i64, .i .i64, .i .i64, .i .i64], .obj wView]⟩
abbrev MV (p0:Addr) (t p h:Int) (xs a0 a1 a2 a3 a4 a5 a6 a7 a8:LI) (T k g b:Int):Hd Sg:=⟨some 0,[0,0,1,1,1,1,1],[.code [1,0,1,1,1,1,1], .code [1,1,1,1,1,1]],[3,1,5,7,9,10,11,12],[.box 23 [.ic .i64 (t), .ic .i64 (p), .ic .i64 (h)], .roc [.ints .u32 (xs)], .box 27 [.roc [.sls (a0), .sls (a1), .sls (a2), .sls (a3), .sls (a4), .sls (a5), .sls (a6), .sls (a7), .sls (a8)], .ic .i64 (T), .ic .i64 (k), .ic .i64 (g), .ic .i64 (b)], .box 33 [.own 51 [some .i64,some .i64], .i .i64, .i .i64, .i .i64, .i .i64, .i .i64, .i .i64, .i .i64, .i .i64], .obj wView, .i .i64, .box 40 [.ro [some .i8], .ro [some .i8], .ro [some .i8], .ro [some .i8], .ro [some .i8], .ro [some .i8], .ro [some .i8], .ro [some .i8], .ro [some .i8]], .b]⟩
abbrev MW (p0:Addr) (t p h:Int) (xs a0 a1 a2 a3 a4 a5 a6 a7 a8:LI) (T k g b:Int):Hd Sg:=⟨some 900,[0,0,1,1,1,1,1,1,1],[.code [1,0,1,1,1,1,1,1,1], .code [1,1,1,1,1,1,1,1]],[3,1,5,7,9,10,11,13,14],[.box 23 [.ic .i64 (t), .ic .i64 (p), .ic .i64 (h)], .roc [.ints .u32 (xs)], .box 27 [.roc [.sls (a0), .sls (a1), .sls (a2), .sls (a3), .sls (a4), .sls (a5), .sls (a6), .sls (a7), .sls (a8)], .ic .i64 (T), .ic .i64 (k), .ic .i64 (g), .ic .i64 (b)], .box 33 [.own 51 [some .i64,some .i64], .i .i64, .i .i64, .i .i64, .i .i64, .i .i64, .i .i64, .i .i64, .i .i64], .obj wView, .i .i64, .box 40 [.ro [some .i8], .ro [some .i8], .ro [some .i8], .ro [some .i8], .ro [some .i8], .ro [some .i8], .ro [some .i8], .ro [some .i8], .ro [some .i8]], .box 33 [.own 51 [some .i64,some .i64], .i .i64, .i .i64, .i .i64, .i .i64, .i .i64, .i .i64, .i .i64, .i .i64], .b]⟩
abbrev MX (p0:Addr) (t p h:Int) (xs a0 a1 a2 a3 a4 a5 a6 a7 a8:LI) (T k g b:Int):Hd Sg:=⟨none,[0,1,0,1,1,1,1,1,1,1,1],[.blk 0, .code [1,1,1,1,1,1,1,1,1]],[3,1,5,7,9,10,11,13,15],[.box 23 [.ic .i64 (t), .ic .i64 (p), .ic .i64 (h)], .roc [.ints .u32 (xs)], .box 27 [.roc [.sls (a0), .sls (a1), .sls (a2), .sls (a3), .sls (a4), .sls (a5), .sls (a6), .sls (a7), .sls (a8)], .ic .i64 (T), .ic .i64 (k), .ic .i64 (g), .ic .i64 (b)], .box 33 [.own 51 [some .i64,some .i64], .i .i64, .i .i64, .i .i64, .i .i64, .i .i64, .i .i64, .i .i64, .i .i64], .obj wView, .i .i64, .box 40 [.ro [some .i8], .ro [some .i8], .ro [some .i8], .ro [some .i8], .ro [some .i8], .ro [some .i8], .ro [some .i8], .ro [some .i8], .ro [some .i8]], .box 33 [.own 51 [some .i64,some .i64], .i .i64, .i .i64, .i .i64, .i .i64, .i .i64, .i .i64, .i .i64, .i .i64], .i .i64]⟩
abbrev MZ (p0:Addr) (t p h:Int) (xs a0 a1 a2 a3 a4 a5 a6 a7 a8:LI) (T k g b:Int):Hd Sg:=⟨some 900,[0,1,1,1,1,1,1,1,1,1,1,1],[.code [1,1,1,1,1,1,1,1,1,1,1,1]],[3,5,7,9,19],[.box 23 [.ic .i64 (t), .ic .i64 (p), .ic .i64 (h)], .box 27 [.roc [.sls (a0), .sls (a1), .sls (a2), .sls (a3), .sls (a4), .sls (a5), .sls (a6), .sls (a7), .sls (a8)], .ic .i64 (T), .ic .i64 (k), .ic .i64 (g), .ic .i64 (b)], .box 33 [.own 51 [some .i64,some .i64], .i .i64, .i .i64, .i .i64, .i .i64, .i .i64, .i .i64, .i .i64, .i .i64], .obj wView, .box 40 [.ro [some .i8], .ro [some .i8], .ro [some .i8], .ro [some .i8], .ro [some .i8], .ro [some .i8], .ro [some .i8], .ro [some .i8], .ro [some .i8]]]⟩
abbrev Na (p0:Addr) (t p h:Int) (xs a0 a1 a2 a3 a4 a5 a6 a7 a8:LI) (T k g b:Int):Hd Sg:=⟨some 900,[0,1,1,1,1,1,1,1,1,1,1,1,1],[.code [1,1,1,1,1,1,1,1,1,1,1,1,1]],[3,5,7,9,19,20,21],[.box 23 [.ic .i64 (t), .ic .i64 (p), .ic .i64 (h)], .box 27 [.roc [.sls (a0), .sls (a1), .sls (a2), .sls (a3), .sls (a4), .sls (a5), .sls (a6), .sls (a7), .sls (a8)], .ic .i64 (T), .ic .i64 (k), .ic .i64 (g), .ic .i64 (b)], .box 33 [.own 51 [some .i64,some .i64], .i .i64, .i .i64, .i .i64, .i .i64, .i .i64, .i .i64, .i .i64, .i .i64], .obj wView, .box 40 [.ro [some .i8], .ro [some .i8], .ro [some .i8], .ro [some .i8], .ro [some .i8], .ro [some .i8], .ro [some .i8], .ro [some .i8], .ro [some .i8]], .box 33 [.own 51 [some .i64,some .i64], .i .i64, .i .i64, .i .i64, .i .i64, .i .i64, .i .i64, .i .i64, .i .i64], .b]⟩
theorem NZ (t p h:Int) (xs a0 a1 a2 a3 a4 a5 a6 a7 a8:LI) (T k g b:Int) (hp0:bdAll xs) (hp1:MQ a0 a1 a2 a3 a4 a5 a6 a7 a8) (hp2:MR a0 a1 a2 a3 a4 a5 a6 a7 a8):NI t p h xs a0 a1 a2 a3 a4 a5 a6 a7 a8 T k g b (λnw' wa' wz' w0' w1' w2' w3' w4' w5' w6' w7' sv'=>LM t p h xs a0 a1 a2 a3 a4 a5 a6 a7 a8 T k g b nw' wa' wz' w0' w1' w2' w3' w4' w5' w6' w7' sv' (SmallKeeps t p h xs a0 a1 a2 a3 a4 a5 a6 a7 a8 T k g b)) (λnw' wa' wz' w0' w1' w2' w3' w4' w5' w6' w7' sv' e' y0' y1' y2' y3' y4' y5' y6' y7' y8' ok'=>LP t p h xs a0 a1 a2 a3 a4 a5 a6 a7 a8 T k g b nw' wa' wz' w0' w1' w2' w3' w4' w5' w6' w7' sv' e' y0' y1' y2' y3' y4' y5' y6' y7' y8' ok' (SmallKeeps t p h xs a0 a1 a2 a3 a4 a5 a6 a7 a8 T k g b)) (λnw' wa' wz' w0' w1' w2' w3' w4' w5' w6' w7' sv' e' y0' y1' y2' y3' y4' y5' y6' y7' y8' nv_' va' vz' v0' v1' v2' v3' v4' v5' v6' v7' is'=>LQ t p h xs a0 a1 a2 a3 a4 a5 a6 a7 a8 T k g b nw' wa' wz' w0' w1' w2' w3' w4' w5' w6' w7' sv' e' y0' y1' y2' y3' y4' y5' y6' y7' y8' nv_' va' vz' v0' v1' v2' v3' v4' v5' v6' v7' is' (SmallKeeps t p h xs a0 a1 a2 a3 a4 a5 a6 a7 a8 T k g b)) (λnw' wa' wz' w0' w1' w2' w3' w4' w5' w6' w7' sv' e' y0' y1' y2' y3' y4' y5' y6' y7' y8' nv_' va' vz' v0' v1' v2' v3' v4' v5' v6' v7' i'=>LU t p h xs a0 a1 a2 a3 a4 a5 a6 a7 a8 T k g b nw' wa' wz' w0' w1' w2' w3' w4' w5' w6' w7' sv' e' y0' y1' y2' y3' y4' y5' y6' y7' y8' nv_' va' vz' v0' v1' v2' v3' v4' v5' v6' v7' i' (SmallKeeps t p h xs a0 a1 a2 a3 a4 a5 a6 a7 a8 T k g b)) (λnw' wa' wz' w0' w1' w2' w3' w4' w5' w6' w7' su' z0' z1' z2' z3' z4' z5' z6' z7' z8'=>LV t p h xs a0 a1 a2 a3 a4 a5 a6 a7 a8 T k g b nw' wa' wz' w0' w1' w2' w3' w4' w5' w6' w7' su' z0' z1' z2' z3' z4' z5' z6' z7' z8' (SmallKeeps t p h xs a0 a1 a2 a3 a4 a5 a6 a7 a8 T k g b)) (λnw' wa' wz' w0' w1' w2' w3' w4' w5' w6' w7' su' z0' z1' z2' z3' z4' z5' z6' z7' z8' nu' ua' uz' u0' u1' u2' u3' u4' u5' u6' u7' is'=>LW t p h xs a0 a1 a2 a3 a4 a5 a6 a7 a8 T k g b nw' wa' wz' w0' w1' w2' w3' w4' w5' w6' w7' su' z0' z1' z2' z3' z4' z5' z6' z7' z8' nu' ua' uz' u0' u1' u2' u3' u4' u5' u6' u7' is' (SmallKeeps t p h xs a0 a1 a2 a3 a4 a5 a6 a7 a8 T k g b)) (λr__=>r__=(SmallKeeps t p h xs a0 a1 a2 a3 a4 a5 a6 a7 a8 T k g b)):=by
 unfold NI
 try unfold LC
 try unfold LM
 try unfold LD
 try unfold LP
 try unfold LG
 try unfold LQ
 try unfold LH
 try unfold LU
 try unfold LJ
 try unfold LV
 try unfold LK
 try unfold LW
 rintro r2 rfl
 refine ⟨hp0, λ_=>⟨λ_=>(by rintro r5 rfl;rfl), λhc=>?_⟩⟩
 have hf:l18_fit t p h xs a0 a1 a2 a3 a4 a5 a6 a7 a8 T k g b=true:=by simpa using hc
 have hS:=(fit_all hf hp1).1.1
 have hlen:=good_len (sound_good hS hp0)
 rintro r5 rfl
 refine ⟨hp0, λ_=>?_⟩
 rintro r9 rfl
 exact ⟨hlen, λ_=>⟨hp0, λ_=>⟨hf,Qd (PS hS),rfl,rfl,rfl⟩⟩⟩
theorem Oa {ad:Nat→Ad} (t p h:Int) (xs a0 a1 a2 a3 a4 a5 a6 a7 a8:LI) (T k g b:Int) (hp0:bdAll xs) (hp1:MQ a0 a1 a2 a3 a4 a5 a6 a7 a8) (hp2:MR a0 a1 a2 a3 a4 a5 a6 a7 a8) (nw:Nat) (wa wz:LI) (w0 w1 w2 w3 w4 w5 w6 w7:Int) (sv:VS) {r_:Bool} (hI:LM t p h xs a0 a1 a2 a3 a4 a5 a6 a7 a8 T k g b nw wa wz w0 w1 w2 w3 w4 w5 w6 w7 sv r_):N8 ad t p h xs a0 a1 a2 a3 a4 a5 a6 a7 a8 T k g b nw wa wz w0 w1 w2 w3 w4 w5 w6 w7 sv (LC t p h xs a0 a1 a2 a3 a4 a5 a6 a7 a8 T k g b r_ (100070,0,0)) (LD t p h xs a0 a1 a2 a3 a4 a5 a6 a7 a8 T k g b r_ (100070,0,0)) (LG t p h xs a0 a1 a2 a3 a4 a5 a6 a7 a8 T k g b r_ (100070,0,0)) (LH t p h xs a0 a1 a2 a3 a4 a5 a6 a7 a8 T k g b r_ (100070,0,0)) (LJ t p h xs a0 a1 a2 a3 a4 a5 a6 a7 a8 T k g b r_ (100070,0,0)) (LK t p h xs a0 a1 a2 a3 a4 a5 a6 a7 a8 T k g b r_ (100070,0,0)) (λr__=>r__=r_):=by
 unfold LM at hI
 unfold N8 Nh MF
 try unfold LC
 try unfold LM
 try unfold LD
 try unfold LP
 try unfold LG
 try unfold LQ
 try unfold LH
 try unfold LU
 try unfold LJ
 try unfold LV
 try unfold LK
 try unfold LW
 obtain ⟨hf,hw,hnw,rfl,rfl⟩:=hI
 obtain ⟨⟨_,hp64⟩,hT,hB,h16,_⟩:=fit_all hf hp1
 refine (λ(q:_)=>⟨⟨hT, λ_=>⟨⟨q,q⟩,q⟩⟩,hT, λ_=>q⟩) ?_
 rintro r rfl
 exact ⟨by omega, λ_=>⟨hB, λ_=>⟨⟨hf,rfl,hw,hnw,rfl⟩,lxo_⟩⟩⟩
theorem Oc {ad:Nat→Ad} (t p h:Int) (xs a0 a1 a2 a3 a4 a5 a6 a7 a8:LI) (T k g b:Int) (hp0:bdAll xs) (hp1:MQ a0 a1 a2 a3 a4 a5 a6 a7 a8) (hp2:MR a0 a1 a2 a3 a4 a5 a6 a7 a8) (nw:Nat) (wa wz:LI) (w0 w1 w2 w3 w4 w5 w6 w7:Int) (sv:VS) (e:Int) (y0 y1 y2 y3 y4 y5 y6 y7 y8:LI) (ok:Bool) {r_:Bool} (hI:LP t p h xs a0 a1 a2 a3 a4 a5 a6 a7 a8 T k g b nw wa wz w0 w1 w2 w3 w4 w5 w6 w7 sv e y0 y1 y2 y3 y4 y5 y6 y7 y8 ok r_):N9 ad t p h xs a0 a1 a2 a3 a4 a5 a6 a7 a8 T k g b nw wa wz w0 w1 w2 w3 w4 w5 w6 w7 sv e y0 y1 y2 y3 y4 y5 y6 y7 y8 ok (LC t p h xs a0 a1 a2 a3 a4 a5 a6 a7 a8 T k g b r_ (100060,0,0)) (LD t p h xs a0 a1 a2 a3 a4 a5 a6 a7 a8 T k g b r_ (100060,0,0)) (LG t p h xs a0 a1 a2 a3 a4 a5 a6 a7 a8 T k g b r_ (100060,0,0)) (LH t p h xs a0 a1 a2 a3 a4 a5 a6 a7 a8 T k g b r_ (100060,0,0)) (LJ t p h xs a0 a1 a2 a3 a4 a5 a6 a7 a8 T k g b r_ (100060,0,0)) (LK t p h xs a0 a1 a2 a3 a4 a5 a6 a7 a8 T k g b r_ (100060,0,0)) (λr__=>r__=r_):=by
 unfold LP at hI
 unfold N9 Nv MF
 try unfold LC
 try unfold LM
 try unfold LD
 try unfold LP
 try unfold LG
 try unfold LQ
 try unfold LH
 try unfold LU
 try unfold LJ
 try unfold LV
 try unfold LK
 try unfold LW
 obtain ⟨hf,he,hw,hnw,rfl⟩:=hI
 obtain ⟨⟨_,hp64⟩,hT,hB,h16,_⟩:=fit_all hf hp1
 refine ⟨λhk=>?_, λhk=>?_⟩
 ·have hk:ok=false:=(jP _).mp hk
  subst hk
  rcases OH hf hp1 hp2 hp0 he with ⟨_,rfl,hwr,rfl,rfl,rfl,rfl,rfl,rfl,rfl,rfl,rfl⟩|⟨hx,_⟩
  ·refine ⟨λ_=>?_, λhx=>(by simp at hx)⟩
   rintro r2 rfl
   refine ⟨λ_=>hT, λ_=>⟨λ_=>?_, λhx=>?_⟩⟩
   ·rintro r6 rfl
    refine ⟨λ_=>(by rintro r8 rfl;rfl), λhx=>?_⟩
    exfalso;simp [r17_Same] at hx
   ·exfalso;dsimp only at hx;rw [hwr] at hx;simp at hx
  ·cases hx
 ·have hk:ok=true:=(jZ _).mp hk
  subst hk
  refine ⟨?_,?_⟩
  ·rintro r1 rfl
   refine ⟨?_,?_⟩<;>(rintro r3 rfl;exact ⟨Nb _, λ_=>⟨⟨hf,he,hw,hnw,rfl,rfl,rfl⟩,lxo_⟩⟩)
  ·rintro r1 rfl r3 rfl
   exact ⟨Nb _, λ_=>⟨⟨hf,he,hw,hnw,rfl,rfl,rfl⟩,lxo_⟩⟩
theorem Oe {ad:Nat→Ad} (t p h:Int) (xs a0 a1 a2 a3 a4 a5 a6 a7 a8:LI) (T k g b:Int) (hp0:bdAll xs) (hp1:MQ a0 a1 a2 a3 a4 a5 a6 a7 a8) (hp2:MR a0 a1 a2 a3 a4 a5 a6 a7 a8) (nw:Nat) (wa wz:LI) (w0 w1 w2 w3 w4 w5 w6 w7:Int) (sv:VS) (e:Int) (y0 y1 y2 y3 y4 y5 y6 y7 y8:LI) (nv_:Nat) (va vz:LI) (v0 v1 v2 v3 v4 v5 v6 v7:Int) (is:Bool) {r_:Bool} (hI:LQ t p h xs a0 a1 a2 a3 a4 a5 a6 a7 a8 T k g b nw wa wz w0 w1 w2 w3 w4 w5 w6 w7 sv e y0 y1 y2 y3 y4 y5 y6 y7 y8 nv_ va vz v0 v1 v2 v3 v4 v5 v6 v7 is r_):NC ad t p h xs a0 a1 a2 a3 a4 a5 a6 a7 a8 T k g b nw wa wz w0 w1 w2 w3 w4 w5 w6 w7 sv e y0 y1 y2 y3 y4 y5 y6 y7 y8 nv_ va vz v0 v1 v2 v3 v4 v5 v6 v7 is (LC t p h xs a0 a1 a2 a3 a4 a5 a6 a7 a8 T k g b r_ (100050,0,0)) (LD t p h xs a0 a1 a2 a3 a4 a5 a6 a7 a8 T k g b r_ (100050,0,0)) (LG t p h xs a0 a1 a2 a3 a4 a5 a6 a7 a8 T k g b r_ (100050,0,0)) (LH t p h xs a0 a1 a2 a3 a4 a5 a6 a7 a8 T k g b r_ (100050,0,0)) (LJ t p h xs a0 a1 a2 a3 a4 a5 a6 a7 a8 T k g b r_ (100050,0,0)) (LK t p h xs a0 a1 a2 a3 a4 a5 a6 a7 a8 T k g b r_ (100050,0,0)) (λr__=>r__=r_):=by
 unfold LQ at hI
 unfold NC MF
 try unfold LC
 try unfold LM
 try unfold LD
 try unfold LP
 try unfold LG
 try unfold LQ
 try unfold LH
 try unfold LU
 try unfold LJ
 try unfold LV
 try unfold LK
 try unfold LW
 obtain ⟨hf,he,hw,hnw,hv,hnv,rfl⟩:=hI
 obtain ⟨⟨_,hp64⟩,hT,hB,h16,_⟩:=fit_all hf hp1
 obtain ⟨s1,s2,s3,_,_,s5,_⟩:=NY hf hp1 hp2 hp0 he
 have hw1:wa=(stateA ⟨t,p,h⟩ xs).1:=congrArg (·.1) hw
 have hw2:wz=(stateA ⟨t,p,h⟩ xs).2.1:=congrArg (·.2.1) hw
 have hl1:wa.length=wz.length:=by rw [hw1,hw2];exact st_len _ _
 have hb4:wa.length≤40000:=by rw [hw1];exact OY xs hp64
 have hne:∀x∈wa,x≠e:=by rw [hw1];exact s3
 have e1:(va,vz,v0,v1,v2,v3,v4,v5,v6,v7,is)=(insA e wa,insZ e (r05_Size h k) wa wz,w0,w1,w2,w3,w4,w5,w6,w7,true):=by
  rw [hv,s2,←hw];rfl
 simp only [iU] at e1
 obtain ⟨rfl,rfl,rfl,rfl,rfl,rfl,rfl,rfl,rfl,rfl,rfl⟩:=e1
 have hl2:=insA_len e wa
 have c1:r12_Has wa wz e=false:=by
  show wa.contains e=false
  cases hc:wa.contains e with
  |false=>rfl
  |true=>exact absurd rfl (hne _ (lL.1 hc))
 have c2:r12_Has (insA e wa) (insZ e (r05_Size h k) wa wz) e=true:=lL.2 PD
 refine ⟨λhx=>absurd hx (by decide), λ_=>?_⟩
 rintro r1 rfl
 refine ⟨λhx=>(by rw [c1] at hx;cases hx), λ_=>?_⟩
 rintro r3 rfl
 refine (λ(q:_)=>⟨q,q⟩) ?_
 refine ⟨λhx=>(by rw [c2] at hx;cases hx), λ_=>⟨λhx=>?_, λ_=>?_⟩⟩
 ·exfalso
  rw [w64 (n:=(nw:Int)+1) (by omega),show (nv_:Int)=(nw:Int)+1 by rw [hnv,hl2,hnw];push_cast;rfl] at hx
  simp at hx
 ·rintro r6 rfl r8 rfl
  refine ⟨(show a0.length≤1000 by omega), λ_=>⟨hT, λ_=>?_⟩⟩
  rintro r12 rfl
  refine ⟨Nb _, λ_=>⟨by rw [mU];omega, λ_=>⟨λhx=>?_, λ_=>⟨⟨hf,he,hw,hnw,hv,hnv,by omega,by omega,rfl⟩,lxo_⟩⟩⟩⟩
  have hq:=s5 (λi=>(ad (i+8)).a) (λi=>(ad (i+8)).c)
  exact absurd (hx.symm.trans (congrArg (λb=>!b) hq)) (by decide)
theorem Og {ad:Nat→Ad} (t p h:Int) (xs a0 a1 a2 a3 a4 a5 a6 a7 a8:LI) (T k g b:Int) (hp0:bdAll xs) (hp1:MQ a0 a1 a2 a3 a4 a5 a6 a7 a8) (hp2:MR a0 a1 a2 a3 a4 a5 a6 a7 a8) (nw:Nat) (wa wz:LI) (w0 w1 w2 w3 w4 w5 w6 w7:Int) (sv:VS) (e:Int) (y0 y1 y2 y3 y4 y5 y6 y7 y8:LI) (nv_:Nat) (va vz:LI) (v0 v1 v2 v3 v4 v5 v6 v7 i:Int) {r_:Bool} (hI:LU t p h xs a0 a1 a2 a3 a4 a5 a6 a7 a8 T k g b nw wa wz w0 w1 w2 w3 w4 w5 w6 w7 sv e y0 y1 y2 y3 y4 y5 y6 y7 y8 nv_ va vz v0 v1 v2 v3 v4 v5 v6 v7 i r_):ND ad t p h xs a0 a1 a2 a3 a4 a5 a6 a7 a8 T k g b nw wa wz w0 w1 w2 w3 w4 w5 w6 w7 sv e y0 y1 y2 y3 y4 y5 y6 y7 y8 nv_ va vz v0 v1 v2 v3 v4 v5 v6 v7 i (LC t p h xs a0 a1 a2 a3 a4 a5 a6 a7 a8 T k g b r_ ((nv_-i).toNat+5,0,0)) (LD t p h xs a0 a1 a2 a3 a4 a5 a6 a7 a8 T k g b r_ ((nv_-i).toNat+5,0,0)) (LG t p h xs a0 a1 a2 a3 a4 a5 a6 a7 a8 T k g b r_ ((nv_-i).toNat+5,0,0)) (LH t p h xs a0 a1 a2 a3 a4 a5 a6 a7 a8 T k g b r_ ((nv_-i).toNat+5,0,0)) (LJ t p h xs a0 a1 a2 a3 a4 a5 a6 a7 a8 T k g b r_ ((nv_-i).toNat+5,0,0)) (LK t p h xs a0 a1 a2 a3 a4 a5 a6 a7 a8 T k g b r_ ((nv_-i).toNat+5,0,0)) (λr__=>r__=r_):=by
 unfold LU at hI
 unfold ND
 try unfold LC
 try unfold LM
 try unfold LD
 try unfold LP
 try unfold LG
 try unfold LQ
 try unfold LH
 try unfold LU
 try unfold LJ
 try unfold LV
 try unfold LK
 try unfold LW
 obtain ⟨hf,he,hw,hnw,hv,hnv,h0,h1,rfl⟩:=hI
 obtain ⟨⟨_,hp64⟩,hT,hB,h16,_⟩:=fit_all hf hp1
 obtain ⟨s1,s2,s3,s4,s4',s5,_⟩:=NY hf hp1 hp2 hp0 he
 have hw1:wa=(stateA ⟨t,p,h⟩ xs).1:=congrArg (·.1) hw
 have hw2:wz=(stateA ⟨t,p,h⟩ xs).2.1:=congrArg (·.2.1) hw
 have hl1:wa.length=wz.length:=by rw [hw1,hw2];exact st_len _ _
 have hb4:wa.length≤40000:=by rw [hw1];exact OY xs hp64
 have hne:∀x∈wa,x≠e:=by rw [hw1];exact s3
 have e1:(va,vz,v0,v1,v2,v3,v4,v5,v6,v7,true)=(insA e wa,insZ e (r05_Size h k) wa wz,w0,w1,w2,w3,w4,w5,w6,w7,true):=by
  rw [hv,s2,←hw];rfl
 simp only [iU,and_true] at e1
 obtain ⟨rfl,rfl,rfl,rfl,rfl,rfl,rfl,rfl,rfl,rfl⟩:=e1
 have hl2:=insA_len e wa
 refine ⟨λhx=>?_, λhx=>?_⟩
 ·have hi:i<(nv_:Int):=of_decide_eq_true hx
  refine ⟨⟨h0,hi⟩, λ_=>⟨λhc=>?_, λ_=>?_⟩⟩
  ·exfalso
   rcases PV (b:=e) (z:=r05_Size h k) hl1 hne i.toNat (by omega) with ⟨q1,q2⟩|⟨q1,q2⟩
   ·rw [q1,q2] at hc;simp at hc
   ·have q3:r12_Has wa wz ((insA e wa).getD i.toNat 0)=true:=lL.2 q2
    have q4:((insA e wa).getD i.toNat 0==e)=false:=beq_eq_false_iff_ne.2 q1
    have q5:((insA e wa).getD i.toNat 0 !=e)=true:=bne_iff_ne.2 q1
    rw [q3,q4,q5] at hc;cases hc
  ·rw [w64 (n:=i+1) (by omega)]
   exact ⟨⟨hf,he,hw,hnw,hv,hnv,by omega,by omega,rfl⟩,lxo_⟩
 ·rintro r1 rfl r2 rfl
  exact ⟨by omega, λ_=>⟨s4, λ_=>⟨s4', λ_=>⟨⟨⟨sv,e,y0,y1,y2,y3,y4,y5,y6,y7,y8,hf,he,rfl⟩,hw,hnw,rfl⟩,lxo_⟩⟩⟩⟩
theorem Oh {ad:Nat→Ad} (t p h:Int) (xs a0 a1 a2 a3 a4 a5 a6 a7 a8:LI) (T k g b:Int) (hp0:bdAll xs) (hp1:MQ a0 a1 a2 a3 a4 a5 a6 a7 a8) (hp2:MR a0 a1 a2 a3 a4 a5 a6 a7 a8) (nw:Nat) (wa wz:LI) (w0 w1 w2 w3 w4 w5 w6 w7:Int) (su:VS) (z0 z1 z2 z3 z4 z5 z6 z7 z8:LI) {r_:Bool} (hI:LV t p h xs a0 a1 a2 a3 a4 a5 a6 a7 a8 T k g b nw wa wz w0 w1 w2 w3 w4 w5 w6 w7 su z0 z1 z2 z3 z4 z5 z6 z7 z8 r_):NE ad t p h xs a0 a1 a2 a3 a4 a5 a6 a7 a8 T k g b nw wa wz w0 w1 w2 w3 w4 w5 w6 w7 su z0 z1 z2 z3 z4 z5 z6 z7 z8 (LC t p h xs a0 a1 a2 a3 a4 a5 a6 a7 a8 T k g b r_ (3,0,0)) (LD t p h xs a0 a1 a2 a3 a4 a5 a6 a7 a8 T k g b r_ (3,0,0)) (LG t p h xs a0 a1 a2 a3 a4 a5 a6 a7 a8 T k g b r_ (3,0,0)) (LH t p h xs a0 a1 a2 a3 a4 a5 a6 a7 a8 T k g b r_ (3,0,0)) (LJ t p h xs a0 a1 a2 a3 a4 a5 a6 a7 a8 T k g b r_ (3,0,0)) (LK t p h xs a0 a1 a2 a3 a4 a5 a6 a7 a8 T k g b r_ (3,0,0)) (λr__=>r__=r_):=by
 unfold LV at hI
 unfold NE Nw
 try unfold LC
 try unfold LM
 try unfold LD
 try unfold LP
 try unfold LG
 try unfold LQ
 try unfold LH
 try unfold LU
 try unfold LJ
 try unfold LV
 try unfold LK
 try unfold LW
 obtain ⟨⟨sv,e,y0,y1,y2,y3,y4,y5,y6,y7,y8,hf,he,hz⟩,hw,hnw,rfl⟩:=hI
 refine ⟨?_,?_⟩
 ·rintro r1 rfl
  refine ⟨?_,?_⟩<;>(rintro r3 rfl;exact ⟨Nb _, λ_=>⟨⟨⟨sv,e,y0,y1,y2,y3,y4,y5,y6,y7,y8,hf,he,hz⟩,hw,hnw,rfl,rfl,rfl⟩,lxo_⟩⟩)
 ·rintro r1 rfl r3 rfl
  exact ⟨Nb _, λ_=>⟨⟨⟨sv,e,y0,y1,y2,y3,y4,y5,y6,y7,y8,hf,he,hz⟩,hw,hnw,rfl,rfl,rfl⟩,lxo_⟩⟩
theorem Oi {ad:Nat→Ad} (t p h:Int) (xs a0 a1 a2 a3 a4 a5 a6 a7 a8:LI) (T k g b:Int) (hp0:bdAll xs) (hp1:MQ a0 a1 a2 a3 a4 a5 a6 a7 a8) (hp2:MR a0 a1 a2 a3 a4 a5 a6 a7 a8) (nw:Nat) (wa wz:LI) (w0 w1 w2 w3 w4 w5 w6 w7:Int) (su:VS) (z0 z1 z2 z3 z4 z5 z6 z7 z8:LI) (nu:Nat) (ua uz:LI) (u0 u1 u2 u3 u4 u5 u6 u7:Int) (is:Bool) {r_:Bool} (hI:LW t p h xs a0 a1 a2 a3 a4 a5 a6 a7 a8 T k g b nw wa wz w0 w1 w2 w3 w4 w5 w6 w7 su z0 z1 z2 z3 z4 z5 z6 z7 z8 nu ua uz u0 u1 u2 u3 u4 u5 u6 u7 is r_):NF ad t p h xs a0 a1 a2 a3 a4 a5 a6 a7 a8 T k g b nw wa wz w0 w1 w2 w3 w4 w5 w6 w7 su z0 z1 z2 z3 z4 z5 z6 z7 z8 nu ua uz u0 u1 u2 u3 u4 u5 u6 u7 is (LC t p h xs a0 a1 a2 a3 a4 a5 a6 a7 a8 T k g b r_ (2,0,0)) (LD t p h xs a0 a1 a2 a3 a4 a5 a6 a7 a8 T k g b r_ (2,0,0)) (LG t p h xs a0 a1 a2 a3 a4 a5 a6 a7 a8 T k g b r_ (2,0,0)) (LH t p h xs a0 a1 a2 a3 a4 a5 a6 a7 a8 T k g b r_ (2,0,0)) (LJ t p h xs a0 a1 a2 a3 a4 a5 a6 a7 a8 T k g b r_ (2,0,0)) (LK t p h xs a0 a1 a2 a3 a4 a5 a6 a7 a8 T k g b r_ (2,0,0)) (λr__=>r__=r_):=by
 unfold LW at hI
 unfold NF MF
 try unfold LC
 try unfold LM
 try unfold LD
 try unfold LP
 try unfold LG
 try unfold LQ
 try unfold LH
 try unfold LU
 try unfold LJ
 try unfold LV
 try unfold LK
 try unfold LW
 obtain ⟨⟨sv,e,y0,y1,y2,y3,y4,y5,y6,y7,y8,hf,he,hz⟩,hw,hnw,hu,hnu,rfl⟩:=hI
 obtain ⟨⟨_,hp64⟩,hT,hB,h16,_⟩:=fit_all hf hp1
 obtain ⟨_,_,_,_,_,_,s6⟩:=NY hf hp1 hp2 hp0 he
 obtain ⟨g1,g2,g3⟩:=s6 hz
 have hw1:wa=(stateA ⟨t,p,h⟩ xs).1:=congrArg (·.1) hw
 have hw2:wz=(stateA ⟨t,p,h⟩ xs).2.1:=congrArg (·.2.1) hw
 have hl1:wa.length=wz.length:=by rw [hw1,hw2];exact st_len _ _
 have hb4:wa.length≤40000:=by rw [hw1];exact OY xs hp64
 have e1:(ua,uz,u0,u1,u2,u3,u4,u5,u6,u7,is)=(wa,wz,w0,w1,w2,w3,w4,w5,w6,w7,true):=hu.trans (g2.trans hw.symm)
 simp only [iU] at e1
 obtain ⟨rfl,rfl,rfl,rfl,rfl,rfl,rfl,rfl,rfl,rfl,rfl⟩:=e1
 refine ⟨λ_=>?_, λhx=>(by cases hx)⟩
 rintro r1 rfl
 refine ⟨hl1, λ_=>⟨hl1, λ_=>⟨λ_=>?_, λhx=>?_⟩⟩⟩
 ·rintro r5 rfl r7 rfl
  refine ⟨(show a0.length≤1000 by omega), λ_=>⟨hT, λ_=>?_⟩⟩
  rintro r11 rfl
  refine ⟨Nb _, λ_=>⟨by rw [mU];omega, λ_=>⟨λ_=>(by rintro r15 rfl;rfl), λhx=>?_⟩⟩⟩
  have hq:=g3 (λi=>(ad (i+7)).a) (λi=>(ad (i+7)).c)
  exact absurd (hx.symm.trans hq) (by decide)
 ·rw [PP] at hx;cases hx
theorem OI:EOk 3 OZ:=
 PX Dg T_l18_live_ok (I:=[1426900,6802000,93842900,6991506900,27963026900,2999998,6627000000003,6627000000001,6627000000005,6627000000007,6627000000009,6627000000010,6627000000011,6627000000013,6627000000015]) Tryz.func3 mix (B:=bodyOf Tryz.f3) (by kernel_rfl) rfl (by kernel_rfl) 400
  λp0 t p h xs a0 a1 a2 a3 a4 a5 a6 a7 a8 T k g b hb hp=>have hp0:bdAll xs:=hp _ (.head _);have hp1:MQ a0 a1 a2 a3 a4 a5 a6 a7 a8:=hp _ (.tail _ (.head _));have hp2:MR a0 a1 a2 a3 a4 a5 a6 a7 a8:=hp _ (.tail _ (.tail _ (.head _)));⟨[MS p0 t p h xs a0 a1 a2 a3 a4 a5 a6 a7 a8 T k g b,MV p0 t p h xs a0 a1 a2 a3 a4 a5 a6 a7 a8 T k g b,MW p0 t p h xs a0 a1 a2 a3 a4 a5 a6 a7 a8 T k g b,MX p0 t p h xs a0 a1 a2 a3 a4 a5 a6 a7 a8 T k g b,MZ p0 t p h xs a0 a1 a2 a3 a4 a5 a6 a7 a8 T k g b,Na p0 t p h xs a0 a1 a2 a3 a4 a5 a6 a7 a8 T k g b], λj=>iG [appC (Hd.kd (MS p0 t p h xs a0 a1 a2 a3 a4 a5 a6 a7 a8 T k g b)) (λnw' wa' wz' w0' w1' w2' w3' w4' w5' w6' w7' sv'=>LM t p h xs a0 a1 a2 a3 a4 a5 a6 a7 a8 T k g b nw' wa' wz' w0' w1' w2' w3' w4' w5' w6' w7' sv' (SmallKeeps t p h xs a0 a1 a2 a3 a4 a5 a6 a7 a8 T k g b)),appC (Hd.kd (MV p0 t p h xs a0 a1 a2 a3 a4 a5 a6 a7 a8 T k g b)) (λnw' wa' wz' w0' w1' w2' w3' w4' w5' w6' w7' sv' e' y0' y1' y2' y3' y4' y5' y6' y7' y8' ok'=>LP t p h xs a0 a1 a2 a3 a4 a5 a6 a7 a8 T k g b nw' wa' wz' w0' w1' w2' w3' w4' w5' w6' w7' sv' e' y0' y1' y2' y3' y4' y5' y6' y7' y8' ok' (SmallKeeps t p h xs a0 a1 a2 a3 a4 a5 a6 a7 a8 T k g b)),appC (Hd.kd (MW p0 t p h xs a0 a1 a2 a3 a4 a5 a6 a7 a8 T k g b)) (λnw' wa' wz' w0' w1' w2' w3' w4' w5' w6' w7' sv' e' y0' y1' y2' y3' y4' y5' y6' y7' y8' nv_' va' vz' v0' v1' v2' v3' v4' v5' v6' v7' is'=>LQ t p h xs a0 a1 a2 a3 a4 a5 a6 a7 a8 T k g b nw' wa' wz' w0' w1' w2' w3' w4' w5' w6' w7' sv' e' y0' y1' y2' y3' y4' y5' y6' y7' y8' nv_' va' vz' v0' v1' v2' v3' v4' v5' v6' v7' is' (SmallKeeps t p h xs a0 a1 a2 a3 a4 a5 a6 a7 a8 T k g b)),appC (Hd.kd (MX p0 t p h xs a0 a1 a2 a3 a4 a5 a6 a7 a8 T k g b)) (λnw' wa' wz' w0' w1' w2' w3' w4' w5' w6' w7' sv' e' y0' y1' y2' y3' y4' y5' y6' y7' y8' nv_' va' vz' v0' v1' v2' v3' v4' v5' v6' v7' i'=>LU t p h xs a0 a1 a2 a3 a4 a5 a6 a7 a8 T k g b nw' wa' wz' w0' w1' w2' w3' w4' w5' w6' w7' sv' e' y0' y1' y2' y3' y4' y5' y6' y7' y8' nv_' va' vz' v0' v1' v2' v3' v4' v5' v6' v7' i' (SmallKeeps t p h xs a0 a1 a2 a3 a4 a5 a6 a7 a8 T k g b)),appC (Hd.kd (MZ p0 t p h xs a0 a1 a2 a3 a4 a5 a6 a7 a8 T k g b)) (λnw' wa' wz' w0' w1' w2' w3' w4' w5' w6' w7' su' z0' z1' z2' z3' z4' z5' z6' z7' z8'=>LV t p h xs a0 a1 a2 a3 a4 a5 a6 a7 a8 T k g b nw' wa' wz' w0' w1' w2' w3' w4' w5' w6' w7' su' z0' z1' z2' z3' z4' z5' z6' z7' z8' (SmallKeeps t p h xs a0 a1 a2 a3 a4 a5 a6 a7 a8 T k g b)),appC (Hd.kd (Na p0 t p h xs a0 a1 a2 a3 a4 a5 a6 a7 a8 T k g b)) (λnw' wa' wz' w0' w1' w2' w3' w4' w5' w6' w7' su' z0' z1' z2' z3' z4' z5' z6' z7' z8' nu' ua' uz' u0' u1' u2' u3' u4' u5' u6' u7' is'=>LW t p h xs a0 a1 a2 a3 a4 a5 a6 a7 a8 T k g b nw' wa' wz' w0' w1' w2' w3' w4' w5' w6' w7' su' z0' z1' z2' z3' z4' z5' z6' z7' z8' nu' ua' uz' u0' u1' u2' u3' u4' u5' u6' u7' is' (SmallKeeps t p h xs a0 a1 a2 a3 a4 a5 a6 a7 a8 T k g b))] j (λ_=>False), λj=>iG [appC (Hd.kd (MS p0 t p h xs a0 a1 a2 a3 a4 a5 a6 a7 a8 T k g b)) (λnw' wa' wz' w0' w1' w2' w3' w4' w5' w6' w7' sv'=>(100070,0,0)),appC (Hd.kd (MV p0 t p h xs a0 a1 a2 a3 a4 a5 a6 a7 a8 T k g b)) (λnw' wa' wz' w0' w1' w2' w3' w4' w5' w6' w7' sv' e' y0' y1' y2' y3' y4' y5' y6' y7' y8' ok'=>(100060,0,0)),appC (Hd.kd (MW p0 t p h xs a0 a1 a2 a3 a4 a5 a6 a7 a8 T k g b)) (λnw' wa' wz' w0' w1' w2' w3' w4' w5' w6' w7' sv' e' y0' y1' y2' y3' y4' y5' y6' y7' y8' nv_' va' vz' v0' v1' v2' v3' v4' v5' v6' v7' is'=>(100050,0,0)),appC (Hd.kd (MX p0 t p h xs a0 a1 a2 a3 a4 a5 a6 a7 a8 T k g b)) (λnw' wa' wz' w0' w1' w2' w3' w4' w5' w6' w7' sv' e' y0' y1' y2' y3' y4' y5' y6' y7' y8' nv_' va' vz' v0' v1' v2' v3' v4' v5' v6' v7' i'=>((nv_'-i').toNat+5,0,0)),appC (Hd.kd (MZ p0 t p h xs a0 a1 a2 a3 a4 a5 a6 a7 a8 T k g b)) (λnw' wa' wz' w0' w1' w2' w3' w4' w5' w6' w7' su' z0' z1' z2' z3' z4' z5' z6' z7' z8'=>(3,0,0)),appC (Hd.kd (Na p0 t p h xs a0 a1 a2 a3 a4 a5 a6 a7 a8 T k g b)) (λnw' wa' wz' w0' w1' w2' w3' w4' w5' w6' w7' su' z0' z1' z2' z3' z4' z5' z6' z7' z8' nu' ua' uz' u0' u1' u2' u3' u4' u5' u6' u7' is'=>(2,0,0))] j (λ_=>(0,0,0)),by kernel_rfl,⟨_, λ_ _ _=>by kernel_rfl,NZ t p h xs a0 a1 a2 a3 a4 a5 a6 a7 a8 T k g b hp0 hp1 hp2⟩,⟨λnw wa wz w0 w1 w2 w3 w4 w5 w6 w7 sv hI ad=>⟨_, λ_ _=>by kernel_rfl,Oa (ad:=ad) t p h xs a0 a1 a2 a3 a4 a5 a6 a7 a8 T k g b hp0 hp1 hp2 nw wa wz w0 w1 w2 w3 w4 w5 w6 w7 sv hI⟩,⟨λnw wa wz w0 w1 w2 w3 w4 w5 w6 w7 sv e y0 y1 y2 y3 y4 y5 y6 y7 y8 ok hI ad=>⟨_, λ_ _=>by kernel_rfl,Oc (ad:=ad) t p h xs a0 a1 a2 a3 a4 a5 a6 a7 a8 T k g b hp0 hp1 hp2 nw wa wz w0 w1 w2 w3 w4 w5 w6 w7 sv e y0 y1 y2 y3 y4 y5 y6 y7 y8 ok hI⟩,⟨λnw wa wz w0 w1 w2 w3 w4 w5 w6 w7 sv e y0 y1 y2 y3 y4 y5 y6 y7 y8 nv_ va vz v0 v1 v2 v3 v4 v5 v6 v7 is hI ad=>⟨_, λ_ _=>by kernel_rfl,Oe (ad:=ad) t p h xs a0 a1 a2 a3 a4 a5 a6 a7 a8 T k g b hp0 hp1 hp2 nw wa wz w0 w1 w2 w3 w4 w5 w6 w7 sv e y0 y1 y2 y3 y4 y5 y6 y7 y8 nv_ va vz v0 v1 v2 v3 v4 v5 v6 v7 is hI⟩,⟨λnw wa wz w0 w1 w2 w3 w4 w5 w6 w7 sv e y0 y1 y2 y3 y4 y5 y6 y7 y8 nv_ va vz v0 v1 v2 v3 v4 v5 v6 v7 i hI ad=>⟨_, λ_ _=>by kernel_rfl,Og (ad:=ad) t p h xs a0 a1 a2 a3 a4 a5 a6 a7 a8 T k g b hp0 hp1 hp2 nw wa wz w0 w1 w2 w3 w4 w5 w6 w7 sv e y0 y1 y2 y3 y4 y5 y6 y7 y8 nv_ va vz v0 v1 v2 v3 v4 v5 v6 v7 i hI⟩,⟨λnw wa wz w0 w1 w2 w3 w4 w5 w6 w7 su z0 z1 z2 z3 z4 z5 z6 z7 z8 hI ad=>⟨_, λ_ _=>by kernel_rfl,Oh (ad:=ad) t p h xs a0 a1 a2 a3 a4 a5 a6 a7 a8 T k g b hp0 hp1 hp2 nw wa wz w0 w1 w2 w3 w4 w5 w6 w7 su z0 z1 z2 z3 z4 z5 z6 z7 z8 hI⟩,⟨λnw wa wz w0 w1 w2 w3 w4 w5 w6 w7 su z0 z1 z2 z3 z4 z5 z6 z7 z8 nu ua uz u0 u1 u2 u3 u4 u5 u6 u7 is hI ad=>⟨_, λ_ _=>by kernel_rfl,Oi (ad:=ad) t p h xs a0 a1 a2 a3 a4 a5 a6 a7 a8 T k g b hp0 hp1 hp2 nw wa wz w0 w1 w2 w3 w4 w5 w6 w7 su z0 z1 z2 z3 z4 z5 z6 z7 z8 nu ua uz u0 u1 u2 u3 u4 u5 u6 u7 is hI⟩,trivial⟩⟩⟩⟩⟩⟩⟩
theorem Oj (t p h:Int) (xs a0 a1 a2 a3 a4 a5 a6 a7 a8:LI) (T k g b:Int) (a_0:Option Addr) (c_0:Nat) (a_1:Option Addr) (c_1:Nat) {E_:Ev} {G_:Hp} {w_:World} (hr0:RowAt G_ a_0 xs.length [.ints .u32 xs]∧xs.length≤c_0) (hr1:(RowAt G_ a_1 a0.length [.sls a0, .sls a1, .sls a2, .sls a3, .sls a4, .sls a5, .sls a6, .sls a7, .sls a8]∧a0.length≤c_1)∧RowAt E_.z a_1 a0.length [.sls a0, .sls a1, .sls a2, .sls a3, .sls a4, .sls a5, .sls a6, .sls a7, .sls a8]∧subs E_.z a0.length [.sls a0, .sls a1, .sls a2, .sls a3, .sls a4, .sls a5, .sls a6, .sls a7, .sls a8]) (hp0:bdAll xs) (hp1:MQ a0 a1 a2 a3 a4 a5 a6 a7 a8) (hp2:MR a0 a1 a2 a3 a4 a5 a6 a7 a8) (hS:Sat E_ G_ w_ []):Calls Tryz.prog 3 #[(.agg #[.int .i64 t, .int .i64 p, .int .i64 h]),(.slice a_0 xs.length c_0),(.agg #[.slice a_1 a0.length c_1, .int .i64 T, .int .i64 k, .int .i64 g, .int .i64 b])] w_ (λen w'=>en= .returned (.bool (SmallKeeps t p h xs a0 a1 a2 a3 a4 a5 a6 a7 a8 T k g b))∧Sat E_ G_ w' []):=by
 refine law_of Dg (c:=NH) (F:=SmallKeeps) (pre:= λt p h xs a0 a1 a2 a3 a4 a5 a6 a7 a8 T k g b=>[bdAll xs,MQ a0 a1 a2 a3 a4 a5 a6 a7 a8,MR a0 a1 a2 a3 a4 a5 a6 a7 a8]) OI [((.agg #[.int .i64 t, .int .i64 p, .int .i64 h]),(.none)),((.slice a_0 xs.length c_0),(.row xs.length [.ints .u32 xs])),((.agg #[.slice a_1 a0.length c_1, .int .i64 T, .int .i64 k, .int .i64 g, .int .i64 b]),(.many [.row a0.length [.sls a0, .sls a1, .sls a2, .sls a3, .sls a4, .sls a5, .sls a6, .sls a7, .sls a8], .none, .none, .none, .none]))] [.i t, .i p, .i h, .li xs, .li a0, .li a1, .li a2, .li a3, .li a4, .li a5, .li a6, .li a7, .li a8, .i T, .i k, .i g, .i b] (by kernel_rfl) _ (by kernel_rfl) (by kernel_rfl) (by kernel_rfl) ?_ ?_ hS
 ·intro p hp
  have hp:p∈[(bdAll xs:Prop),(MQ a0 a1 a2 a3 a4 a5 a6 a7 a8:Prop),(MR a0 a1 a2 a3 a4 a5 a6 a7 a8:Prop)]:=hp
  simp only [iH,kM,or_false] at hp
  rcases hp with rfl|rfl|rfl
  ·exact hp0
  ·exact hp1
  ·exact hp2
 ·intro x hx
  simp only [iH,kM,or_false] at hx
  rcases hx with rfl|rfl|rfl
  ·first|(simp only [iOk,isOk,and_true,true_and];done)|(simp only [iOk,isOk,and_true,true_and];exact ⟨_,_,rfl,trivial⟩)|simp [iOk,isOk]
  ·first|(simp only [iOk,isOk,and_true,true_and];done)|(simp only [iOk,isOk,and_true,true_and];exact ⟨_,_,rfl,hr0.1,hr0.2, λh=>by cases h⟩)|simp [iOk,isOk]
  ·first|(simp only [iOk,isOk,and_true,true_and];done)|(simp only [iOk,isOk,and_true,true_and];exact ⟨_,_,rfl,hr1.1.1,hr1.1.2, λ_=>hr1.2⟩)|simp [iOk,isOk]
end
section
open Go.ChangeShapes Go.WideShapes Go.ChangeAt Go.RowKit Go.Joins Go.Sl
theorem OG:ownKnob Tryz.prog.godebug=none:=by kernel_rfl
theorem NJ:laidOutB Tryz.prog=true:=by kernel_rfl
set_option maxRecDepth 100000 in
theorem NM (os:Os) (started:os.Started) (H:Type) (enc:TypeId×Value→H):
 ReturnsInHanded {} Tryz.checked os 3 .any (Rows.smallKeepsSpec.pre6 enc Tryz.prog Tryz.f3 Rows.smallKeepsRow.domain false) (Rows.smallKeepsSpec.post enc Tryz.prog Tryz.f3 false true false false):=by
 refine returnsInHanded_of_change (C:=Tryz.checked) OG started (by kernel_rfl) Tryz.func3
  (ChangeSpec.witness6 (enc:=enc) (C:=Tryz.checked) false ⟨#[], #[.agg #[.int .i64 0, .int .i64 0, .int .i64 0], .slice none 0 0, .agg #[.slice none 0 0, .int .i64 0, .int .i64 0, .int .i64 0, .int .i64 0]],[]⟩ 8 (by kernel_rfl) (by kernel_rfl) (by kernel_rfl) (by kernel_rfl)) ?_
 intro W base args ds gs before hval0 hW _ _
 have hval:∀(j:Nat) t v,Tryz.f3.params[j]? =some t→args[j]? =some v→qH Tryz.prog W .any base t v:=hval0
 have hW':=hW
 obtain ⟨p,q,hA0,_,_,_,_⟩:=hW
 have hA:DataW.TrodAll enc Tryz.prog W 0 (λ_=>true) true Tryz.f3.params.toList args.toList ds p:=hA0
 rw [Tryz.params3] at hA hval
 obtain ⟨v0,v1,v2,d0,d1,d2,p0,p1,p2,rfl,rfl,_,h0,h1,h2⟩:=trodAll_three hA
 obtain ⟨k0,rfl,hk0⟩:=open_flat 8 (by kernel_rfl) (sh:=[.int .i64, .int .i64, .int .i64]) (by kernel_rfl) (hval 0 23 v0 rfl rfl) h0
 obtain ⟨_,r0_0,rfl,⟨a0_0,rfl,wa0_0⟩,hk0⟩:=hk0
 have ba0_0:=bd_i64 wa0_0
 obtain ⟨_,r0_1,rfl,⟨a0_1,rfl,wa0_1⟩,hk0⟩:=hk0
 have ba0_1:=bd_i64 wa0_1
 obtain ⟨_,r0_2,rfl,⟨a0_2,rfl,wa0_2⟩,hk0⟩:=hk0
 have ba0_2:=bd_i64 wa0_2
 obtain rfl:=hk0
 obtain ⟨s1,n1,c1,k1,rfl,hk1,hr1⟩:=open_rows 8 Tryz.underlying24 (sh:=[.int .u32]) (by kernel_rfl) (by kernel_rfl) (hval 1 24 v1 rfl rfl) h1
 obtain ⟨_,r1_0,rfl,⟨x1_0,rfl,hl1_0,hw1_0⟩,hk1⟩:=hk1
 obtain rfl:=hk1
 subst hl1_0
 obtain ⟨s2,n2,c2,F,y1,y2,y3,y4,rfl,⟨wy1,wy2,wy3,wy4⟩,hl,hr2,hsb,hbd⟩:=open_ask (tI:=3) Tryz.underlying27 rfl ⟨rfl,rfl⟩ ⟨rfl,rfl⟩ ⟨rfl,rfl⟩ ⟨rfl,rfl⟩ ⟨rfl,rfl⟩ (by kernel_rfl) (by kernel_rfl) (by kernel_rfl) Tryz.underlying3 Tryz.underlying25 Tryz.underlying40 Tryz.underlying38 Tryz.underlying2 (by kernel_rfl) (by kernel_rfl) (by kernel_rfl) (hval 2 27 v2 rfl rfl) h2
 obtain rfl:=hl 0
 clear hA0 hval0
 refine (Oj a0_0 a0_1 a0_2 x1_0 (F 0) (F 1) (F 2) (F 3) (F 4) (F 5) (F 6) (F 7) (F 8) y1 y2 y3 y4 s1 c1 s2 c2 hr1 ⟨hr2,hr2.1,hsb⟩ (λv hv=>bd_u32 (hw1_0 v hv)) ⟨λi hi=>hbd 0 i (by decide) hi, λi hi=>hbd 1 i (by decide) hi, λi hi=>hbd 2 i (by decide) hi, λi hi=>hbd 3 i (by decide) hi, λi hi=>hbd 4 i (by decide) hi, λi hi=>hbd 5 i (by decide) hi, λi hi=>hbd 6 i (by decide) hi, λi hi=>hbd 7 i (by decide) hi, λi hi=>hbd 8 i (by decide) hi⟩ ⟨hl 1,hl 2,hl 3,hl 4,hl 5,hl 6,hl 7,hl 8⟩ (Sat.start W)).mono λe W' ⟨he,hS⟩=>?_
 rw [show SmallKeeps a0_0 a0_1 a0_2 x1_0 (F 0) (F 1) (F 2) (F 3) (F 4) (F 5) (F 6) (F 7) (F 8) y1 y2 y3 y4=true from rfl] at he
 subst he
 exact ⟨_,rfl,law_post 4 NJ hW' rfl rfl Tryz.underlying4 (by kernel_rfl) ⟨rfl,rfl,rfl⟩ hS.below⟩
theorem SmallKeeps_holds:Rows.SmallKeepsSaid:=
 OpenClaim.holds_of_wide 3 Tryz.f3 rfl rfl rfl rfl rfl rfl rfl ⟨rfl,rfl,rfl,rfl,rfl⟩ rfl rfl rfl rfl rfl (by kernel_rfl) Tryz.func3 (by kernel_rfl)
  (of_decide_eq_true (by kernel_rfl)) (by unfold Func.isWrapper;rw [if_neg (of_decide_eq_false (by kernel_rfl))];exact ⟨rfl,rfl⟩)
  (λos started H enc _=>NM os started H enc)
#print axioms SmallKeeps_holds
end
end Go.Proofs.YtinpgnomkmmfdaaGreat
