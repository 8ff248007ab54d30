/-
  DERIVED. Part 3 of the texts of this claim.
-/
import Derived.Test.YtinpgnomkmmfdaaGreatJSmallFlushes2
import Derived.Test.YtinpgnomkmmfdaaGreatProg
set_option linter.unusedSimpArgs false
set_option linter.unusedVariables false
open Go.IntKind renaming wrap → iA, i64 → iB, u32 → iW, u8 → kR, u64 → lQ, wrap_u32 → nO, wrap_i64 → nQ, wrap_u64 → pP
open Option.some renaming injEq → iC
open List renaming getD_eq_getElem?_getD → iD, length → iF, mem_cons → iG, getD → iI, map_cons → iK, getElem?_eq_getElem → iN, getElem?_append_left → iO, getElem?_append_right → iQ, getElem?_map → iR, getElem?_set_self → iX, mem_singleton → iY, mem_of_getElem? → jC, getElem?_set_ne → jD, map_append → jG, zipWith → jI, getElem?_cons_zero → jJ, length_append → jM, getElem?_eq_none → jP, range → jQ, append_assoc → jX, cons_append → kA, mem_append → kC, getElem?_cons_succ → kD, map_set → kW, filter_append → kX, append_nil → lF, zipWith_cons_cons → lH, take_of_length_le → lI, nodup_cons → lK, range' → lN, eq_nil_of_length_eq_zero → lW, length_filter_le → mB, length_take → mL, length_singleton → mN, set → mO, filter_cons → mT, length_set → mY, idxOf?_eq_some_iff → nW, ext_getElem? → nZ, length_nil → oK, getElem?_range → oR, mem_or_eq_of_mem_set → pR, take_add_one → qA, nodup_append → qC
open Bool renaming and_eq_true → iE, or_eq_false_iff → jH, not_eq_true' → jO, not_eq_false' → jY, not_true → kU, or_eq_true → lG, eq_iff_iff → lT, false_or → lY, and_eq_false_iff → mD, and_self → nG, true_and → nR, false_and → oW, or_false → pG
open Go.Value renaming slice → iH, pointer → jB
open Nat renaming eq_of_beq_eq_true → iJ, beq → iM, lt_or_ge → jN, le_refl → kF, ble → kH, pow_le_pow_right → lO, mod_eq_of_lt → lR, zero_add → lV, not_lt_zero → mX, lt_of_lt_of_le → nD, eq_zero_or_pos → nN, eq_of_testBit_eq → nT, testBit_lt_two_pow → oB, mul_comm → oC, beq_refl → oO, and_two_pow_sub_one_eq_mod → oU, lt_of_le_of_lt → pB, lt_two_pow_self → pT, mod_lt → pX, sub_self → pZ
open Int renaming toNat → iL, fdiv → jS, toNat_natCast → kT, le_refl → mC, tdiv_eq_ediv_of_nonneg → mG, fdiv_eq_ediv_of_nonneg → mH, tdiv → mJ, tmod_eq_emod_of_nonneg → oI, tmod → qD
open BitVec renaming ofInt → iP, toNat → kN, toNat_ofNat → lM, ofNat → mZ, toNat_and → oY
open Go.Sl.Col renaming len → lJ
open Option renaming map_some → iT, getD → kS, getD_some → lA, isNone → mW
open Prod.mk renaming injEq → iV
open Go.Sl.Chunk renaming cells → jA, ro → jV, obj → kQ
open Prod renaming fst → jZ, snd → lD
namespace Go.Sl
section
open Go.RowKit
theorem Sat0.openAt {E:World} {G:Hp} {w:World} {As:List Asn0} {k:Nat} {α:Type} {p:α→Prop} {A0:α→Asn0} {Bs:α→List Asn0} (h:Sat0 E G w As) (hk:As[k]? =some (λh=>∃x,p x∧Sl.star0 (A0 x::Bs x) h)):
 ∃x,p x∧Sat0 E G w (As.set k (A0 x)++Bs x):=by
 obtain ⟨h1,h2,o,h3,h4⟩:=h
 obtain ⟨x,hp,o2,h5⟩:=h4 k _ hk
 have hkl:k<As.length:=lt_of_get hk
 let o':Nat→Option Nat:= λb=>match o b with
  |some i=>if i=k then (match o2 b with|some 0=>some k|some (j+1)=>some (As.length+j)|none=>none) else if i<As.length then some i else none
  |none=>none
 refine ⟨x,hp,h1,h2,o', λb i hb=>?_, λi A hi=>?_⟩
 ·simp only [o'] at hb
  cases ho:o b with
  |none=>simp [ho] at hb
  |some j=>exact h3 b j ho
 ·rcases jN i As.length with hl|hl
  ·rw [iO (by simpa using hl)] at hi
   by_cases hik:k=i
   ·subst hik
    rw [iX hkl] at hi
    injection hi with hi;subst hi
    have:=h5 0 _ rfl
    have e:part w o' k= λb=>if o2 b=some 0 then part w o k b else none:=by
     funext b
     unfold part
     by_cases ho:o b=some k
     ·by_cases h0:o2 b=some 0
      ·simp [o',ho,h0]
      ·have hne:o' b≠some k:=by
        simp only [o',ho,if_true]
        cases hq:o2 b with
        |none=>simp
        |some j=>
         cases j with
         |zero=>exact absurd hq h0
         |succ j=>simp;omega
       rw [if_neg hne,if_neg h0]
     ·have hne:o' b≠some k:=by
       simp only [o']
       cases hq:o b with
       |none=>simp
       |some j=>
        have hjk:j≠k:= λe=>ho (by rw [hq,e])
        simp only [hjk,if_false]
        split<;>simp [hjk]
      rw [if_neg hne];simp [ho]
    rw [e];exact this
   ·rw [jD hik] at hi
    have:=h4 i A hi
    rw [part_congr (w':=w) (o':=o') (j:=i)] at this
    ·exact this
    ·refine λb=>⟨⟨λhb=>?_, λhb=>?_⟩, λ_=>rfl⟩
     ·have:¬i=k:= λe=>hik e.symm
      simp only [o',hb,this,if_false,hl,if_true]
     ·simp only [o'] at hb
      cases ho:o b with
      |none=>simp [ho] at hb
      |some j=>
       rw [ho] at hb
       dsimp only at hb
       split at hb
       ·cases hq:o2 b with
        |none=>rw [hq] at hb;cases hb
        |some m=>
         rw [hq] at hb
         cases m with
         |zero=>injection hb with hb;exact absurd hb hik
         |succ m=>injection hb with hb;omega
       ·split at hb
        ·exact hb
        ·cases hb
  ·rw [iQ (by simpa using hl)] at hi
   simp only [mY] at hi
   have:=h5 (i-As.length+1) A (by simpa using hi)
   have e:part w o' i= λb=>if o2 b=some (i-As.length+1) then part w o k b else none:=by
    funext b
    unfold part
    by_cases ho:o b=some k
    ·by_cases h0:o2 b=some (i-As.length+1)
     ·have:o' b=some i:=by
       simp only [o',ho,h0,if_true];congr 1;omega
      rw [if_pos this,if_pos h0,if_pos ho]
     ·have hne:o' b≠some i:=by
       simp only [o',ho,if_true]
       cases hq:o2 b with
       |none=>simp
       |some j=>
        cases j with
        |zero=>simp;omega
        |succ j=>
         simp only [ne_eq,iC]
         intro e2
         exact h0 (by rw [hq];congr 1;omega)
      rw [if_neg hne,if_neg h0]
    ·have hne:o' b≠some i:=by
      simp only [o']
      cases hq:o b with
      |none=>simp
      |some j=>
       have hjk:j≠k:= λe=>ho (by rw [hq,e])
       simp only [hjk,if_false]
       split
       ·simp;omega
       ·simp
     rw [if_neg hne];simp [ho]
   rw [e];exact this
theorem upZ_ex {Z:Hp} {α:Type} {p:α→Prop} {A0:α→Asn} {Bs:α→List Asn}:upZ Z (λY h=>∃x,p x∧Sl.star (A0 x::Bs x) Y h)= λh=>∃x,p x∧Sl.star0 (upZ Z (A0 x)::(Bs x).map (upZ Z)) h:=by
 funext k
 apply propext
 have e:∀x,upZ Z (Sl.star (A0 x::Bs x))=Sl.star0 (upZ Z (A0 x)::(Bs x).map (upZ Z)):= λx=>by rw [upZ_star,iK]
 constructor
 ·intro h
  obtain ⟨x,hp,hs⟩:=h Z (Hp.le_refl Z)
  refine ⟨x,hp,?_⟩
  rw [←e x]
  exact λY hY=>star_up hY hs
 ·rintro ⟨x,hp,hs⟩ Y hY
  rw [←e x] at hs
  exact ⟨x,hp,hs Y hY⟩
theorem Sat.openAt {E:Ev} {G:Hp} {w:World} {As:List Asn} {k:Nat} {α:Type} {p:α→Prop} {A0:α→Asn} {Bs:α→List Asn} (h:Sat E G w As) (hk:As[k]? =some (λY h=>∃x,p x∧Sl.star (A0 x::Bs x) Y h)):
 ∃x,p x∧Sat E G w (As.set k (A0 x)++Bs x):=by
 obtain ⟨Z,hz,hw,h0⟩:=h
 obtain ⟨x,hp,h1⟩:=Sat0.openAt (k:=k) (A0:= λx=>upZ Z (A0 x)) (Bs:= λx=>(Bs x).map (upZ Z)) h0 (by rw [map_get hk,upZ_ex])
 refine ⟨x,hp,Z,hz,hw,?_⟩
 rw [jG,kW]
 exact h1
mutual
def opP (k:Nat):Pr→Pr
 | .no=> .no
 | .pt j pk=>match pk with
   | .obj=>bif iM j k then .pt j (.cell 0) else .pt j .obj
   |pk=> .pt j pk
 | .many ps=> .many (opPs k ps)
 | .box p=> .box (opP k p)
def opPs (k:Nat):List Pr→List Pr
 |[]=>[]
 |p::ps=>opP k p::opPs k ps
end
def opCs (k:Nat):List (Value×Pr)→List (Value×Pr)
 |[]=>[]
 |x::r=>(x.1,opP k x.2)::opCs k r
variable {σ:Type} (D:Addr→σ→Asn)
def opC (k:Nat):Chunk σ→Chunk σ
 | .cells b t cs=> .cells b t (opCs k cs)
 |c=>c
def opK (k:Nat):List (Chunk σ)→List (Chunk σ)
 |[]=>[]
 |c::r=>opC k c::opK k r
def opL (k:Nat):List Ent→List Ent
 |[]=>[]
 |e::r=>⟨e.s,e.g,e.v,opP k e.p⟩::opL k r
theorem opCs_fst (k:Nat):∀cs:List (Value×Pr),(opCs k cs).map (·.1)=cs.map (·.1)
 |[]=>rfl
 |x::r=>by simp [opCs,opCs_fst k r]
theorem opC_den {G:Hp} (k:Nat) (c:Chunk σ):den D G (opC k c)=den D G c:=by
 cases c<;>simp [opC,den,opCs_fst]
theorem opC_cOk {k:Nat} {c:Chunk σ} {v:Value} {pk:PK} (h:cOk c v pk):cOk (opC k c) v pk:=by
 cases c<;>first|exact h|(cases pk<;>first|exact h|exact h.elim)
theorem opK_get (k:Nat):∀(K:List (Chunk σ)) (j:Nat),(opK k K)[j]? =(K[j]?).map (opC k)
 |[],j=>by simp [opK]
 |c::r,0=>by simp [opK]
 |c::r,j+1=>by simp [opK,opK_get k r j]
theorem opK_len (k:Nat):∀K:List (Chunk σ),(opK k K).length=K.length
 |[]=>rfl
 |c::r=>by simp [opK,opK_len k r]
theorem opK_map {G:Hp} (k:Nat) (K:List (Chunk σ)):(opK k K).map (den D G)=K.map (den D G):=by
 apply nZ
 intro j
 rw [iR,opK_get,iR]
 cases K[j]? with
 |none=>rfl
 |some c=>simp [opC_den]
section
variable {K K':List (Chunk σ)} {k b:Nat} {s:σ}
mutual
theorem opP_ok (hk:K[k]? =some (.obj ⟨b,0,none⟩ s)) (h0:∃t cs,K'[k]? =some (.cells b t cs)) (h1:∀(j:Nat) (c:Chunk σ),j≠k→K[j]? =some c→∃c',K'[j]? =some c'∧∀v pk,cOk c v pk→cOk c' v pk):∀(v:Value) (p:Pr),pOk K v p→pOk K' v (opP k p)
 |_, .no,_=>by simp [pOk,opP]
 |v, .pt j pk,h=>by
  rw [pOk_pt] at h
  obtain ⟨c,e1,e2⟩:=h
  by_cases hj:j=k
  ·subst hj
   rw [hk] at e1;injection e1 with e1;subst e1
   cases pk<;>simp only [cOk] at e2
   obtain ⟨t,cs,h0⟩:=h0
   have hb:iM j j=true:=oO j
   simp only [opP,hb,cond_true]
   rw [pOk_pt]
   exact ⟨_,h0,e2⟩
  ·obtain ⟨c',e3,e4⟩:=h1 j c hj e1
   have:opP k (.pt j pk)= .pt j pk:=by
    cases pk<;>simp only [opP]
    have:iM j k=false:=by
     cases hb:iM j k with
     |false=>rfl
     |true=>exact absurd (iJ hb) hj
    rw [this];rfl
   rw [this,pOk_pt]
   exact ⟨c',e3,e4 v pk e2⟩
 |v, .many ps,h=>by
  cases v<;>simp only [pOk,opP] at h ⊢
  all_goals exact opPs_ok hk h0 h1 _ ps h
 |v, .box p,h=>by
  cases v<;>simp only [pOk,opP] at h ⊢
  exact opP_ok hk h0 h1 _ p h
theorem opPs_ok (hk:K[k]? =some (.obj ⟨b,0,none⟩ s)) (h0:∃t cs,K'[k]? =some (.cells b t cs)) (h1:∀(j:Nat) (c:Chunk σ),j≠k→K[j]? =some c→∃c',K'[j]? =some c'∧∀v pk,cOk c v pk→cOk c' v pk):∀(vs:List Value) (ps:List Pr),psOk K vs ps→psOk K' vs (opPs k ps)
 |[],[],_=>by simp [psOk,opPs]
 |[],_::_,h=>by simp [psOk] at h
 |_::_,[],h=>by simp [psOk] at h
 |v::vs,p::ps,h=>by
  simp only [psOk,opPs] at h ⊢
  exact ⟨opP_ok hk h0 h1 v p h.1,opPs_ok hk h0 h1 vs ps h.2⟩
end
theorem opCs_mem {k:Nat}:∀{cs:List (Value×Pr)} {x:Value×Pr},x∈opCs k cs→∃y∈cs,x=(y.1,opP k y.2)
 |[],x,h=>by simp [opCs] at h
 |y::r,x,h=>by
  simp only [opCs,iG] at h
  rcases h with rfl|h
  ·exact ⟨y,by simp,rfl⟩
  ·obtain ⟨z,h1,h2⟩:=opCs_mem h
   exact ⟨z,by simp [h1],h2⟩
theorem opL_mem {k:Nat}:∀{L:List Ent} {e:Ent},e∈opL k L→∃y∈L,e=⟨y.s,y.g,y.v,opP k y.p⟩
 |[],x,h=>by simp [opL] at h
 |y::r,x,h=>by
  simp only [opL,iG] at h
  rcases h with rfl|h
  ·exact ⟨y,by simp,rfl⟩
  ·obtain ⟨z,h1,h2⟩:=opL_mem h
   exact ⟨z,by simp [h1],h2⟩
end
theorem SW.open {P:Program} {f:FuncId} {R:Ending→World→Prop} {B:Code} {n:Nat} {E:Ev} {G:Hp} {td:List Ab} {L:List Ent} {K:List (Chunk σ)} (k:Nat) {p0:Addr} {s:σ} (hk:K[k]? =some (.obj p0 s))
 {α:Type} {q:α→Prop} (bf:α→Nat) (tf:α→TypeId) (cf:α→List (Value×Pr)) (rf:α→List (Chunk σ)) (hD:D p0 s= λY h=>∃x,q x∧Sl.star ((jA (bf x) (tf x) (cf x)::rf x).map (den D G)) Y h)
 (hp:∀x,q x→p0=⟨bf x,0,none⟩) (hr:∀x b t cs,jA b t cs∈rf x→cs=[])
 (hc:∀x,q x→∀y∈cf x,pOk ((opK k K).set k (.cells (bf x) (tf x) (cf x))++rf x) y.1 y.2)
 (h:∀x,q x→SW D P f R B n E G td (opL k L) ((opK k K).set k (.cells (bf x) (tf x) (cf x))++rf x)):SW D P f R B n E G td L K:=by
 intro a w hF hS
 have hkl:=lt_of_get hk
 have hS1:Sat E G w (K.map (den D G)):=hS
 obtain ⟨x,hx,hS2⟩:=Sat.openAt (p:=q) (A0:= λx=>den D G (.cells (bf x) (tf x) (cf x))) (Bs:= λx=>(rf x).map (den D G)) (k:=k) hS1 (by rw [map_den_get D hk];simp only [den,hD];rfl)
 have hp0:=hp x hx
 rw [hp0] at hk
 let K':List (Chunk σ):=(opK k K).set k (.cells (bf x) (tf x) (cf x))++rf x
 have hK'k:K'[k]? =some (.cells (bf x) (tf x) (cf x)):=by
  show ((opK k K).set k _++rf x)[k]? =_
  rw [iO (by simp [opK_len,hkl]),iX (by rw [opK_len];exact hkl)]
 have hK'j:∀(j:Nat) (c:Chunk σ),j≠k→K[j]? =some c→∃c',K'[j]? =some c'∧∀v pk,cOk c v pk→cOk c' v pk:= λj c hj hjc=>by
  refine ⟨opC k c,?_, λv pk h=>opC_cOk h⟩
  show ((opK k K).set k _++rf x)[j]? =_
  rw [iO (by simp [opK_len,lt_of_get hjc]),jD (λe=>hj e.symm),opK_get,hjc];rfl
 have hop:= λv p hv=>opP_ok (K:=K) (K':=K') hk ⟨_,_,hK'k⟩ hK'j v p hv
 refine h x hx a w ⟨λj b t cs hj y hy=>?_,hF.defers,hF.size, λe he hg=>?_, λe he hg=>?_⟩ ?_
 ·by_cases hjk:j=k
  ·subst hjk
   have:=hK'k.symm.trans hj
   injection this with this;injection this with _ _ this;subst this
   exact hc x hx y hy
  ·rcases jN j K.length with hl|hl
   ·have hj':((opK k K).set k (jA (bf x) (tf x) (cf x))++rf x)[j]? =some (.cells b t cs):=hj
    rw [iO (by simp [opK_len,hl]),jD (λe=>hjk e.symm),opK_get] at hj'
    cases hq:K[j]? with
    |none=>rw [hq] at hj';cases hj'
    |some c=>
     rw [hq] at hj'
     cases c<;>simp only [iT,opC,iC] at hj'<;>try cases hj'
     obtain ⟨z,hz,rfl⟩:=opCs_mem hy
     exact hop _ _ (hF.kok _ _ _ _ hq z hz)
   ·have hj':((opK k K).set k (jA (bf x) (tf x) (cf x))++rf x)[j]? =some (.cells b t cs):=hj
    rw [iQ (by simpa [opK_len] using hl)] at hj'
    have:=hr x b t cs (jC hj')
    subst this;cases hy
 ·obtain ⟨y,hy,rfl⟩:=opL_mem he
  obtain ⟨e1,e2⟩:=hF.ents y hy hg
  exact ⟨e1,hop _ _ e2⟩
 ·obtain ⟨y,hy,rfl⟩:=opL_mem he
  exact hF.skipd y hy hg
 ·show Sat E G w _
  rw [jG,kW,opK_map]
  exact hS2
def setAll {α:Type} (xs:List α) (v:α):List Nat→List α
 |[]=>xs
 |i::is=>setAll (xs.set i v) v is
theorem setAll_get {α:Type} {v:α}:∀(is:List Nat) (xs:List α) (j:Nat) (x:α),(setAll xs v is)[j]? =some x→(j∈is∧x=v)∨(j ∉ is∧xs[j]? =some x)
 |[],xs,j,x,h=> .inr ⟨by simp,h⟩
 |i::is,xs,j,x,h=>by
  rcases setAll_get is (xs.set i v) j x h with ⟨h1,h2⟩|⟨h1,h2⟩
  ·exact .inl ⟨by simp [h1],h2⟩
  ·by_cases hij:i=j
   ·subst hij
    rcases jN i xs.length with hl|hl
    ·rw [iX hl] at h2
     injection h2 with h2
     exact .inl ⟨by simp,h2.symm⟩
    ·rw [jP (by simpa using hl)] at h2;cases h2
   ·rw [jD hij] at h2
    exact .inr ⟨by simp [h1];exact λe=>hij e.symm,h2⟩
theorem setAll_map {α β:Type} (f:α→β) (v:α):∀(is:List Nat) (xs:List α),(setAll xs v is).map f=setAll (xs.map f) (f v) is
 |[],xs=>rfl
 |i::is,xs=>by rw [setAll,setAll_map f v is,kW];rfl
theorem setAll_len {α:Type} (v:α):∀(is:List Nat) (xs:List α),(setAll xs v is).length=xs.length
 |[],xs=>rfl
 |i::is,xs=>by rw [setAll,setAll_len v is];simp
theorem setAll_not {α:Type} {v:α}:∀{is:List Nat} {xs:List α} {j:Nat},j ∉ is→(setAll xs v is)[j]? =xs[j]?
 |[],xs,j,_=>rfl
 |i::is,xs,j,h=>by
  simp only [iG,not_or] at h
  rw [setAll,setAll_not h.2,jD (λe=>h.1 e.symm)]
theorem Sat0.closeAt {E:World} {G:Hp} {w:World} {As Bs:List Asn0} {k:Nat} {ks:List Nat} (h:Sat0 E G w As) (hn:(k::ks).Nodup) (hB:∀(i:Nat) (B:Asn0),Bs[i]? =some B→∃j,(k::ks)[i]? =some j∧As[j]? =some B):
 Sat0 E G w ((setAll As (λ_=>True) ks).set k (Sl.star0 Bs)):=by
 obtain ⟨h1,h2,o,h3,h4⟩:=h
 have hkn:k ∉ ks:=(lK.1 hn).1
 let o':Nat→Option Nat:= λb=>match o b with
  |some i=>if i∈k::ks then some k else some i
  |none=>none
 have hin:∀b,o' b=some k→∃i,o b=some i∧i∈k::ks:= λb hb=>by
  simp only [o'] at hb
  cases ho:o b with
  |none=>simp [ho] at hb
  |some i=>
   rw [ho] at hb
   dsimp only at hb
   by_cases hi:i∈k::ks
   ·exact ⟨i,rfl,hi⟩
   ·rw [if_neg hi] at hb
    injection hb with hb
    exact absurd (by rw [hb];simp) hi
 refine ⟨h1,h2,o', λb i hb=>?_, λi A hi=>?_⟩
 ·simp only [o'] at hb
  cases ho:o b with
  |none=>simp [ho] at hb
  |some j=>exact h3 b j ho
 ·by_cases hik:k=i
  ·subst hik
   have hl:=lt_of_get hi
   rw [iX (by simpa using hl)] at hi
   injection hi with hi;subst hi
   refine ⟨λb=>match o b with|some i=>(k::ks).idxOf? i|none=>none, λi B hBi=>?_⟩
   obtain ⟨j,e1,e2⟩:=hB i B hBi
   have:=h4 j B e2
   have e:(λb=>if (match o b with|some i=>(k::ks).idxOf? i|none=>none)=some i then part w o' k b else none)=part w o j:=by
    funext b
    unfold part
    cases ho:o b with
    |none=>simp
    |some m=>
     dsimp only
     by_cases hm:(k::ks).idxOf? m=some i
     ·have hmj:m=j:=by
       have:=(idx_of hn).1 hm
       rw [e1] at this;injection this with this;exact this.symm
      subst hmj
      have:o' b=some k:=by
       simp only [o',ho]
       rw [if_pos (jC e1)]
      rw [if_pos hm,if_pos this];simp
     ·rw [if_neg hm,if_neg]
      intro e3
      injection e3 with e3
      subst e3
      exact hm ((idx_of hn).2 e1)
   rw [e];exact this
  ·rw [jD hik] at hi
   rcases setAll_get ks As i A hi with ⟨_,rfl⟩|⟨hni,hA⟩
   ·trivial
   ·have:=h4 i A hA
    rw [part_congr (w':=w) (o':=o') (j:=i)] at this
    ·exact this
    ·have hnk:¬i∈k::ks:=by
      simp only [iG,not_or]
      exact ⟨λe=>hik e.symm,hni⟩
     refine λb=>⟨⟨λhb=>?_, λhb=>?_⟩, λ_=>rfl⟩
     ·simp only [o',hb];rw [if_neg hnk]
     ·simp only [o'] at hb
      cases ho:o b with
      |none=>simp [ho] at hb
      |some j=>
       rw [ho] at hb
       dsimp only at hb
       split at hb
       ·injection hb with hb;exact absurd hb hik
       ·exact hb
theorem Sat.closeAt {E:Ev} {G:Hp} {w:World} {As Bs:List Asn} {k:Nat} {ks:List Nat} (h:Sat E G w As) (hn:(k::ks).Nodup) (hB:∀(i:Nat) (B:Asn),Bs[i]? =some B→∃j,(k::ks)[i]? =some j∧As[j]? =some B):
 Sat E G w ((setAll As (λ_ _=>True) ks).set k (Sl.star Bs)):=by
 obtain ⟨Z,hz,hw,h0⟩:=h
 refine ⟨Z,hz,hw,?_⟩
 have e:upZ Z (λ_ _=>True)= λ_=>True:=by funext k;exact propext ⟨λ_=>trivial, λ_ _ _=>trivial⟩
 rw [kW,setAll_map,upZ_star,e]
 exact h0.closeAt hn λi B hi=>by
  obtain ⟨C,h1,rfl⟩:=get_map hi
  obtain ⟨j,h2,h3⟩:=hB i C h1
  exact ⟨j,h2,map_get h3⟩
mutual
def clP (k:Nat) (ks:List Nat):Pr→Pr
 | .no=> .no
 | .pt j pk=>bif iM j k then (match pk with| .cell 0=> .pt k .obj|_=> .no) else bif ks.any (iM j) then .no else .pt j pk
 | .many ps=> .many (clPs k ks ps)
 | .box p=> .box (clP k ks p)
def clPs (k:Nat) (ks:List Nat):List Pr→List Pr
 |[]=>[]
 |p::ps=>clP k ks p::clPs k ks ps
end
def clL (k:Nat) (ks:List Nat):List Ent→List Ent
 |[]=>[]
 |e::r=>⟨e.s,e.g,e.v,clP k ks e.p⟩::clL k ks r
theorem clL_mem {k:Nat} {ks:List Nat}:∀{L:List Ent} {e:Ent},e∈clL k ks L→∃y∈L,e=⟨y.s,y.g,y.v,clP k ks y.p⟩
 |[],x,h=>by simp [clL] at h
 |y::r,x,h=>by
  simp only [clL,iG] at h
  rcases h with rfl|h
  ·exact ⟨y,by simp,rfl⟩
  ·obtain ⟨z,h1,h2⟩:=clL_mem h
   exact ⟨z,by simp [h1],h2⟩
section
variable {K K':List (Chunk σ)} {k b:Nat} {ks:List Nat} {s:σ}
mutual
theorem clP_ok {t:TypeId} {cs:List (Value×Pr)} (hk:K[k]? =some (.cells b t cs)) (h0:K'[k]? =some (.obj ⟨b,0,none⟩ s)) (h1:∀j:Nat,j≠k→j ∉ ks→K'[j]? =K[j]?):∀(v:Value) (p:Pr),pOk K v p→pOk K' v (clP k ks p)
 |_, .no,_=>by simp [pOk,clP]
 |v, .pt j pk,h=>by
  rw [pOk_pt] at h
  obtain ⟨c,e1,e2⟩:=h
  simp only [clP]
  cases hj:iM j k with
  |true=>
   have:=iJ hj
   subst this
   simp only [cond_true]
   rw [hk] at e1;injection e1 with e1;subst e1
   split
   ·rw [pOk_pt];exact ⟨_,h0,e2⟩
   ·exact pOk_no
  |false=>
   simp only [cond_false]
   cases hm:ks.any (iM j) with
   |true=>exact pOk_no
   |false=>
    have hjk:j≠k:= λe=>by rw [e,oO] at hj;cases hj
    have hjn:j ∉ ks:= λhmem=>by
     rw [List.any_eq_false] at hm
     exact hm j hmem (oO j)
    simp only [cond_false]
    rw [pOk_pt]
    exact ⟨c,by rw [h1 j hjk hjn];exact e1,e2⟩
 |v, .many ps,h=>by
  cases v<;>simp only [pOk,clP] at h ⊢
  all_goals exact clPs_ok hk h0 h1 _ ps h
 |v, .box p,h=>by
  cases v<;>simp only [pOk,clP] at h ⊢
  exact clP_ok hk h0 h1 _ p h
theorem clPs_ok {t:TypeId} {cs:List (Value×Pr)} (hk:K[k]? =some (.cells b t cs)) (h0:K'[k]? =some (.obj ⟨b,0,none⟩ s)) (h1:∀j:Nat,j≠k→j ∉ ks→K'[j]? =K[j]?):∀(vs:List Value) (ps:List Pr),psOk K vs ps→psOk K' vs (clPs k ks ps)
 |[],[],_=>by simp [psOk,clPs]
 |[],_::_,h=>by simp [psOk] at h
 |_::_,[],h=>by simp [psOk] at h
 |v::vs,p::ps,h=>by
  simp only [psOk,clPs] at h ⊢
  exact ⟨clP_ok hk h0 h1 v p h.1,clPs_ok hk h0 h1 vs ps h.2⟩
end
end
theorem SW.close {P:Program} {f:FuncId} {R:Ending→World→Prop} {B:Code} {n:Nat} {E:Ev} {G:Hp} {td:List Ab} {L:List Ent} {K:List (Chunk σ)} (k:Nat) (ks:List Nat) {b:Nat} {t:TypeId} {cs:List (Value×Pr)} {rs:List (Chunk σ)} {s:σ} (hn:(k::ks).Nodup)
 (hk:K[k]? =some (.cells b t cs)) (hr:∀(i:Nat) c,rs[i]? =some c→∃j,ks[i]? =some j∧K[j]? =some c) (hno:∀(j:Nat) b t cs,j≠k→K[j]? ≠some (.cells b t cs))
 (hD:∀Y h,Sl.star ((jA b t cs::rs).map (den D G)) Y h→D ⟨b,0,none⟩ s Y h)
 (h:SW D P f R B n E G td (clL k ks L) ((setAll K .dead ks).set k (.obj ⟨b,0,none⟩ s))):SW D P f R B n E G td L K:=by
 intro a w hF hS
 have hkl:=lt_of_get hk
 have hkn:k ∉ ks:=(lK.1 hn).1
 have hS1:Sat E G w (K.map (den D G)):=hS
 have hS2:=Sat.closeAt (Bs:=(jA b t cs::rs).map (den D G)) hS1 hn λi B hi=>by
  rw [iR] at hi
  cases i with
  |zero=>
   simp only [jJ,iT,iC] at hi
   exact ⟨k,rfl,by rw [map_den_get D hk,hi]⟩
  |succ i=>
   simp only [kD] at hi
   cases hc:rs[i]? with
   |none=>rw [hc] at hi;cases hi
   |some c=>
    rw [hc] at hi;injection hi with hi
    obtain ⟨j,e1,e2⟩:=hr i c hc
    exact ⟨j,by simpa using e1,by rw [map_den_get D e2,hi]⟩
 let K':List (Chunk σ):=(setAll K .dead ks).set k (.obj ⟨b,0,none⟩ s)
 have h0:K'[k]? =some (.obj ⟨b,0,none⟩ s):=iX (by rw [setAll_len];exact hkl)
 have h1:∀j:Nat,j≠k→j ∉ ks→K'[j]? =K[j]? := λj hj hjn=>by
  show ((setAll K .dead ks).set k _)[j]? =_
  rw [jD (λe=>hj e.symm),setAll_not hjn]
 have hcl:= λv p hv=>clP_ok (K:=K) (K':=K') (ks:=ks) hk h0 h1 v p hv
 refine h a w ⟨λj b' t' cs' hj y hy=>?_,hF.defers,hF.size, λe he hg=>?_, λe he hg=>?_⟩ ?_
 ·exfalso
  have hj':((setAll K .dead ks).set k (kQ ⟨b,0,none⟩ s))[j]? =some (.cells b' t' cs'):=hj
  by_cases hjk:k=j
  ·subst hjk
   have:=h0.symm.trans hj
   injection this with this;cases this
  ·rw [jD hjk] at hj'
   rcases setAll_get ks K j _ hj' with ⟨_,e⟩|⟨_,e⟩
   ·cases e
   ·exact hno j b' t' cs' (λe=>hjk e.symm) e
 ·obtain ⟨y,hy,rfl⟩:=clL_mem he
  obtain ⟨e1,e2⟩:=hF.ents y hy hg
  exact ⟨e1,hcl _ _ e2⟩
 ·obtain ⟨y,hy,rfl⟩:=clL_mem he
  exact hF.skipd y hy hg
 ·show Sat E G w _
  rw [kW,setAll_map]
  refine hS2.imp λi B hB=>?_
  by_cases hik:k=i
  ·subst hik
   have hl:=lt_of_get hB
   rw [iX (by simpa using hl)] at hB
   injection hB with hB;subst hB
   exact ⟨_,iX (by simpa [setAll_len] using hkl),hD⟩
  ·rw [jD hik] at hB
   exact ⟨B,by rw [jD hik];exact hB, λ_ _ h=>h⟩
end
section
open Go.RowKit
variable {σ:Type}
structure Bx (σ:Type) (w:Wr σ):Type 1 where
 t:TypeId
 l:List (Sh σ)
 R:w.τ→List (Cm σ)→Prop
def DT:Addr→σ→Asn:= λ_ _ _ _=>True
def GT:Hp:= λ_=>none
variable {wr:Wr σ}
def Bx.bk (b:Bx σ wr) (o:Nat) (ad:Nat→Ad) (k:Nat) (y:List (Cm σ)):List (Chunk σ):= .cells o b.t (tpC (tps ad b.l k 0 y))::tpK (tps ad b.l k 0 y)
def Bx.A (b:Bx σ wr) (s:wr.τ) (p:Addr):Asn:= λY h=>∃x:Nat×(Nat→Ad)×List (Cm σ),(p=⟨x.1,0,none⟩∧fitsC (kds b.l) x.2.2=true∧b.R s x.2.2)∧star ((b.bk x.1 x.2.1 1 x.2.2).map (den DT GT)) Y h
def cellSh:List (Sh σ)→Bool
 |[]=>true
 | .i _::l=>cellSh l
 | .b::l=>cellSh l
 | .ic _ _::l=>cellSh l
 | .bc _::l=>cellSh l
 | .own _ _::l=>cellSh l
 | .mp _ _::l=>cellSh l
 | .nxt _:: .own t ks::l=>cellSh (.own t ks::l)
 |_=>false
theorem tpC_ok (ad:Nat→Ad):∀(l:List (Sh σ)) (k j:Nat) (cs:List (Cm σ)),cellSh l=true→(tpK (tps ad l k j cs)).length=nKs l∧noCells (tpK (tps ad l k j cs))=true∧
 (∀(D D':Addr→σ→Asn) (G G':Hp) (k':Nat),(tpK (tps ad l k j cs)).map (den D G)=(tpK (tps ad l k' j cs)).map (den D' G')∧(tpC (tps ad l k j cs)).map (·.1)=(tpC (tps ad l k' j cs)).map (·.1))∧
 ∀K0 K2:List (Chunk σ),K0.length=k→∀y∈tpC (tps ad l k j cs),pOk (K0++tpK (tps ad l k j cs)++K2) y.1 y.2
 |[],k,j,cs,_=>⟨rfl,rfl, λ_ _ _ _ _=>⟨rfl,rfl⟩, λ_ _ _ y hy=>by simp [tps,tpC] at hy⟩
 |s::l,k,j,cs,h=>by
  have key:cellSh l=true→(∀k,noCells (s.tp ad k j cs).K=true)→(∀k,(s.tp ad k j cs).K.length=s.nK)→(∀(D D':Addr→σ→Asn) (G G':Hp) (k k':Nat),(s.tp ad k j cs).K.map (den D G)=(s.tp ad k' j cs).K.map (den D' G')∧(s.tp ad k j cs).v=(s.tp ad k' j cs).v)→
   (∀K0 K2:List (Chunk σ),K0.length=k→pOk (K0++(s.tp ad k j cs).K++(tpK (tps ad l (k+s.nK) (j+s.nA) (cs.drop s.nC))++K2)) (s.tp ad k j cs).v (s.tp ad k j cs).p)→_:= λhl h1 h2 h3 h4=>by
   obtain ⟨g1,g2,g3,g4⟩:=tpC_ok ad l (k+s.nK) (j+s.nA) (cs.drop s.nC) hl
   refine (?_:(tpK (tps ad (s::l) k j cs)).length=nKs (s::l)∧noCells (tpK (tps ad (s::l) k j cs))=true∧
  (∀(D D':Addr→σ→Asn) (G G':Hp) (k':Nat),(tpK (tps ad (s::l) k j cs)).map (den D G)=(tpK (tps ad (s::l) k' j cs)).map (den D' G')∧(tpC (tps ad (s::l) k j cs)).map (·.1)=(tpC (tps ad (s::l) k' j cs)).map (·.1))∧
  ∀K0 K2:List (Chunk σ),K0.length=k→∀y∈tpC (tps ad (s::l) k j cs),pOk (K0++tpK (tps ad (s::l) k j cs)++K2) y.1 y.2)
   simp only [tps,tpK,tpC,nKs]
   refine ⟨by rw [jM,h2,g1],noCells_app (h1 k) g2, λD D' G G' k'=>?_, λK0 K2 hk y hy=>?_⟩
   ·obtain ⟨a1,a2⟩:=h3 D D' G G' k k'
    obtain ⟨b1,b2⟩:=g3 D D' G G' (k'+s.nK)
    simp only [jG,iK]
    exact ⟨by rw [a1,b1],by rw [a2,b2]⟩
   ·simp only [iG] at hy
    rcases hy with rfl|hy
    ·have:=h4 K0 K2 hk
     simpa [jX] using this
    ·have:=g4 (K0++(s.tp ad k j cs).K) K2 (by rw [jM,hk,h2]) y hy
     simpa [jX] using this
  cases s with
  |i _=>exact key h (λ_=>rfl) (λ_=>rfl) (λ_ _ _ _ _ _=>⟨rfl,rfl⟩) λ_ _ _=>pOk_no
  |b=>exact key h (λ_=>rfl) (λ_=>rfl) (λ_ _ _ _ _ _=>⟨rfl,rfl⟩) λ_ _ _=>pOk_no
  |ic _ _=>exact key h (λ_=>rfl) (λ_=>rfl) (λ_ _ _ _ _ _=>⟨rfl,rfl⟩) λ_ _ _=>pOk_no
  |bc _=>exact key h (λ_=>rfl) (λ_=>rfl) (λ_ _ _ _ _ _=>⟨rfl,rfl⟩) λ_ _ _=>pOk_no
  |own t ks=>exact key h (λ_=>rfl) (λ_=>rfl) (λ_ _ _ _ _ _=>⟨rfl,rfl⟩) λK0 K2 hk=>pOk_pt.2 ⟨.row (ad j).o t (hdC cs).nOf (ad j).c (colsOf ks cs.tail),by subst hk;rw [jX,iQ (kF _),pZ];rfl,rfl⟩
  |mp kk vk=>exact key h (λ_=>rfl) (λ_=>rfl) (λ_ _ _ _ _ _=>⟨rfl,rfl⟩) λK0 K2 hk=>pOk_pt.2 ⟨.map (ad j).b kk vk (hdC cs).mpOf,by subst hk;rw [jX,iQ (kF _),pZ];rfl,rfl⟩
  |nxt t=>
   cases l with
   |nil=>simp [cellSh] at h
   |cons s2 l2=>
    cases s2 with
    |own t2 ks=>exact key (by simpa [cellSh] using h) (λ_=>rfl) (λ_=>rfl) (λ_ _ _ _ _ _=>⟨rfl,rfl⟩) λK0 K2 hk=>(by
      simp only [Sh.tp,pOk]
      exact ⟨.row (ad j).o t2 (hdC cs).nOf (ad j).c (colsOf ks cs.tail),by subst hk;simp only [lF];rw [iQ (kF _),pZ];rfl,rfl⟩)
    |_=>simp [cellSh] at h
  |_=>simp [cellSh] at h
theorem Bx.bk_den {b:Bx σ wr} (hb:cellSh b.l=true) (D D':Addr→σ→Asn) (G G':Hp) (o:Nat) (ad:Nat→Ad) (k k':Nat) (y:List (Cm σ)):(b.bk o ad k y).map (den D G)=(b.bk o ad k' y).map (den D' G'):=by
 obtain ⟨_,_,h3,_⟩:=tpC_ok ad b.l k 0 y hb
 obtain ⟨h1,h2⟩:=h3 D D' G G' k'
 simp only [Bx.bk,iK,h1,den,h2]
def Bx.opK (b:Bx σ wr) (k o:Nat) (ad:Nat→Ad) (y:List (Cm σ)) (K:List (Chunk σ)):List (Chunk σ):=(Sl.opK k K).set k (.cells o b.t (tpC (tps ad b.l K.length 0 y)))++tpK (tps ad b.l K.length 0 y)
def isObj0:List (Chunk σ)→Bool
 | .obj _ _::_=>true
 |_=>false
theorem noCells_mem:∀{K:List (Chunk σ)},noCells K=true→∀c∈K,∀b t cs,c≠ .cells b t cs
 |[],_,c,hc=>by simp at hc
 |x::K,h,c,hc=>by
  intro b t cs e
  subst e
  simp only [iG] at hc
  rcases hc with rfl|hc
  ·simp [noCells] at h
  ·refine noCells_mem (K:=K) ?_ _ hc b t cs rfl
   cases x<;>simp only [noCells] at h<;>first|exact h|cases h
variable (D:Addr→σ→Asn)
structure Bx.Is (b:Bx σ wr):Prop where
 c:cellSh b.l=true
 d:∀p s,D p (wr.inj s)=b.A s p
section
variable {b:Bx σ wr} {P:Program} {f:FuncId} {R:Ending→World→Prop} {B:Code} {n:Nat} {E:Ev} {G:Hp} {td:List Ab} {L:List Ent} {K:List (Chunk σ)}
theorem Bx.open_ok (hb:b.Is D) (k:Nat) {p0:Addr} {s:wr.τ} (hk:K[k]? =some (.obj p0 (wr.inj s)))
 (h:∀o ad y,p0=⟨o,0,none⟩→fitsC (kds b.l) y=true→b.R s y→SW D P f R B n E G td (opL k L) (b.opK k o ad y K)):SW D P f R B n E G td L K:=by
 refine SW.open D k hk (α:=Nat×(Nat→Ad)×List (Cm σ)) (q:= λx=>p0=⟨x.1,0,none⟩∧fitsC (kds b.l) x.2.2=true∧b.R s x.2.2) (λx=>x.1) (λ_=>b.t) (λx=>tpC (tps x.2.1 b.l K.length 0 x.2.2)) (λx=>tpK (tps x.2.1 b.l K.length 0 x.2.2)) ?_ (λx hx=>hx.1) (λx o t cs hm=>?_) (λx hx y hy=>?_) (λx hx=>h x.1 x.2.1 x.2.2 hx.1 hx.2.1 hx.2.2)
 ·rw [hb.d]
  funext Y q
  apply propext
  have e:∀x:Nat×(Nat→Ad)×List (Cm σ),(b.bk x.1 x.2.1 1 x.2.2).map (den DT GT)=(jA x.1 b.t (tpC (tps x.2.1 b.l K.length 0 x.2.2))::tpK (tps x.2.1 b.l K.length 0 x.2.2)).map (den D G):= λx=>Bx.bk_den hb.c DT D GT G x.1 x.2.1 1 K.length x.2.2
  constructor
  ·rintro ⟨x,hx,hs⟩;exact ⟨x,hx,by rw [←e];exact hs⟩
  ·rintro ⟨x,hx,hs⟩;exact ⟨x,hx,by rw [e];exact hs⟩
 ·obtain ⟨_,h2,_⟩:=tpC_ok x.2.1 b.l K.length 0 x.2.2 hb.c
  exact absurd rfl (noCells_mem h2 _ hm o t cs)
 ·obtain ⟨_,_,_,h4⟩:=tpC_ok x.2.1 b.l K.length 0 x.2.2 hb.c
  have:=h4 ((Sl.opK k K).set k (.cells x.1 b.t (tpC (tps x.2.1 b.l K.length 0 x.2.2)))) [] (by simp [opK_len]) y hy
  rw [lF] at this
  exact this
theorem Bx.addr (hb:b.Is D) (k:Nat) {p0:Addr} {s:wr.τ} (hk:K[k]? =some (.obj p0 (wr.inj s))) (h:∀o,p0=⟨o,0,none⟩→SW D P f R B n E G td L K):SW D P f R B n E G td L K:=by
 intro a w hF hS
 obtain ⟨_,q,_,h1,_⟩:=hS.get D hk
 simp only [den,hb.d] at h1
 obtain ⟨x,hx,_⟩:=h1
 exact h x.1 hx.1 a w hF hS
theorem range_get {m i:Nat} (h:i<m):(lN 1 m)[i]? =some (1+i):=by
 rw [List.getElem?_range' h];simp
theorem Bx.close_ok (hb:b.Is D) {o:Nat} {ad:Nat→Ad} {y:List (Cm σ)} {rest:List (Chunk σ)} {s:wr.τ} (hK:K=b.bk o ad 1 y++rest) (hn:noCells rest=true) (hf:fitsC (kds b.l) y=true) (hR:b.R s y)
 (h:SW D P f R B n E G td (clL 0 (lN 1 (nKs b.l)) L) ((setAll K .dead (lN 1 (nKs b.l))).set 0 (.obj ⟨o,0,none⟩ (wr.inj s)))):SW D P f R B n E G td L K:=by
 obtain ⟨h1,h2,_,_⟩:=tpC_ok ad b.l 1 0 y hb.c
 refine SW.close D 0 (lN 1 (nKs b.l)) (b:=o) (t:=b.t) (cs:=tpC (tps ad b.l 1 0 y)) (rs:=tpK (tps ad b.l 1 0 y)) (s:=wr.inj s) ?_ ?_ ?_ ?_ ?_ h
 ·rw [lK]
  exact ⟨λhm=>by rw [List.mem_range'] at hm;obtain ⟨i,_,e⟩:=hm;omega,List.nodup_range'⟩
 ·rw [hK];rfl
 ·intro i c hc
  have hl:=lt_of_get hc
  refine ⟨1+i,range_get (by omega),?_⟩
  rw [hK,Bx.bk,kA,Nat.add_comm,kD,iO hl]
  exact hc
 ·intro j b' t' cs' hj e
  rw [hK,Bx.bk] at e
  cases j with
  |zero=>exact hj rfl
  |succ j=>
   rw [kA,kD] at e
   exact absurd rfl (noCells_mem (noCells_app h2 hn) _ (jC e) b' t' cs')
 ·intro Y q hq
  rw [hb.d]
  refine ⟨(o,ad,y),⟨rfl,hf,hR⟩,?_⟩
  rw [Bx.bk_den hb.c DT D GT G o ad 1 1 y]
  exact hq
theorem Bx.fold (hb:b.Is D) {w:World} {o k:Nat} {ad:Nat→Ad} {y:List (Cm σ)} {s:wr.τ} {Bs:List Asn} (hf:fitsC (kds b.l) y=true) (hR:b.R s y) (h:Sat E G w ((b.bk o ad k y).map (den D G)++Bs)):Sat E G w (D ⟨o,0,none⟩ (wr.inj s)::Bs):=by
 rw [Bx.bk_den hb.c D DT G GT o ad k 1 y] at h
 rw [hb.d]
 exact Sat.to_exists_cons (p:= λx:Nat×(Nat→Ad)×List (Cm σ)=>(⟨o,0,none⟩:Addr)=⟨x.1,0,none⟩∧fitsC (kds b.l) x.2.2=true∧b.R s x.2.2) (A:= λx=>star ((b.bk x.1 x.2.1 1 x.2.2).map (den DT GT))) (o,ad,y) ⟨rfl,hf,hR⟩ h.star_append
theorem Bx.post (hb:b.Is D) {w:World} {o:Nat} {ad:Nat→Ad} {y:List (Cm σ)} {s:wr.τ} {out:List Value→Value} {rows:List (Mk σ)} {v:Value} {p:Pr} (hf:fitsC (kds b.l) y=true) (hR:b.R s y) (h:RetOk out (b.bk o ad 1 y) rows v p K) (hS:SatK D E G w K):
 Post D E G out [.obj ⟨o,0,none⟩ (wr.inj s)] rows (.returned v) w:=by
 obtain ⟨acs,h1,h2,h3⟩:=h.post D hS
 exact ⟨acs,h1,h2,Bx.fold D hb hf hR h3⟩
theorem Bx.post_new (hb:b.Is D) {w:World} {o:Nat} {ad:Nat→Ad} {y:List (Cm σ)} {s:wr.τ} {out:List Value→Value} {v:Value} {p:Pr} (hf:fitsC (kds b.l) y=true) (hR:b.R s y) (h:RetOk (λ_=> .pointer (some ⟨o,0,none⟩)) (b.bk o ad 1 y) [] v p K) (hS:SatK D E G w K)
 (ho:∀x,out [x]=x):Post D E G out [] [.obj (wr.inj s)] (.returned v) w:=by
 obtain ⟨acs,h1,h2,h3⟩:=h.post D hS
 cases acs with
 |cons _ _=>exact h1.elim
 |nil=>
  refine ⟨[(some o,0)],⟨⟨o,rfl⟩,trivial⟩,?_,?_⟩
  ·rw [h2];simp only [lH,List.zipWith_nil_right,ho];rfl
  ·simpa [sliceC,den] using Bx.fold D hb hf hR h3
end
structure Lf (σ:Type) where
 Q:Value→Pr→List (Chunk σ)→Prop
 l:Value→Pr→List (Chunk σ)→Ob σ
 r:Value→Pr→List (Chunk σ)→Ob σ
 b:Value→Pr→List (Chunk σ)→Bool
def Lf.lhs (lf:Lf σ) (hs:List (Hd σ)) (Q:Nat→List (Cm σ)→Prop) (t:Tree σ) (β:BF) (γ:GF):SmW σ:=(t.wp lf.Q (soQ hs Q) β γ,t.obl lf.l (soL hs) β γ,t.okb lf.b (soB hs) β γ)
def Lf.rhs (lf:Lf σ) (hs:List (Hd σ)) (t:Tree σ) (W:Prop) (β:BF) (γ:GF):SmW σ:=(W,t.obl lf.r (soR hs) β γ,true)
inductive Hop where
 |run
 |opn (k:Nat) (o:(Nat→Ad)→Nat) (j:Nat)
 |cls (j:Nat)
section
variable (b:Bx σ wr) (P:Program) (T:List (Nat×Entry σ)) (I:List Nat) (fuel:Nat) (fn:Func) (B:Code) (o:Nat) (lf:Lf σ) (hs:List (Hd σ)) (hk:List Hop) (Inv:Nat→List (Cm σ)→Prop) (ms:Nat→List (Cm σ)→Nat×Nat×Nat)
def stepH (j:Nat) (h:Hd σ):Prop:=
 match hk.getD j .run with
 | .run=>AllC h.kd λx=>Inv j x→∃W:Prop,(∀ad β γ,lf.lhs hs (λj' x'=>Inv j' x'∧lx (ms j' x') (ms j x)) (run P T (h.stp I) fuel B fn.results.toList fn.ntmps h.tds (h.L ad x) (h.K ad x)) β γ=
    lf.rhs hs (run P T (h.stp I) fuel B fn.results.toList fn.ntmps h.tds (h.L ad x) (h.K ad x)) W β γ)∧W
 | .opn k of j2=>match hs[j2]? with
   |some h2=>AllC h.kd λx=>Inv j x→∃s:wr.τ,(∀ad,(h.K ad x)[k]? =some (.obj ⟨of ad,0,none⟩ (wr.inj s)))∧AllC (kds b.l) λy=>b.R s y→∃W:Prop,(∀ad ad2,(soQ [h2] (λ_ x'=>Inv j2 x'∧lx (ms j2 x') (ms j x)) h.tds (opL k (h.L ad x)) (b.opK k (of ad) ad2 y (h.K ad x)),soL [h2] h.tds (opL k (h.L ad x)) (b.opK k (of ad) ad2 y (h.K ad x)),soB [h2] h.tds (opL k (h.L ad x)) (b.opK k (of ad) ad2 y (h.K ad x)))=
     (W,soR [h2] h.tds (opL k (h.L ad x)) (b.opK k (of ad) ad2 y (h.K ad x)),true))∧W
   |none=>False
 | .cls j2=>match hs[j2]? with
   |some h2=>AllC h.kd λx=>Inv j x→∃(s:wr.τ) (W:Prop),b.R s (x.take (nCs b.l))∧(∀ad,((h.K ad x).take (1+nKs b.l),noCells ((h.K ad x).drop (1+nKs b.l)),fitsC (kds b.l) (x.take (nCs b.l)),soQ [h2] (λ_ x'=>Inv j2 x'∧lx (ms j2 x') (ms j x)) h.tds (clL 0 (lN 1 (nKs b.l)) (h.L ad x)) ((setAll (h.K ad x) .dead (lN 1 (nKs b.l))).set 0 (.obj ⟨o,0,none⟩ (wr.inj s))),soL [h2] h.tds (clL 0 (lN 1 (nKs b.l)) (h.L ad x)) ((setAll (h.K ad x) .dead (lN 1 (nKs b.l))).set 0 (.obj ⟨o,0,none⟩ (wr.inj s))),soB [h2] h.tds (clL 0 (lN 1 (nKs b.l)) (h.L ad x)) ((setAll (h.K ad x) .dead (lN 1 (nKs b.l))).set 0 (.obj ⟨o,0,none⟩ (wr.inj s))))=
     (b.bk o ad 1 (x.take (nCs b.l)),true,true,W,soR [h2] h.tds (clL 0 (lN 1 (nKs b.l)) (h.L ad x)) ((setAll (h.K ad x) .dead (lN 1 (nKs b.l))).set 0 (.obj ⟨o,0,none⟩ (wr.inj s))),true))∧W
   |none=>False
def stepsH:List (Hd σ)→Nat→Prop
 |[],_=>True
 |h::r,j=>stepH b P T I fuel fn B o lf hs hk Inv ms j h∧stepsH r (j+1)
end
section
variable {b:Bx σ wr} {P:Program} {T:List (Nat×Entry σ)} {I:List Nat} {fuel:Nat} {fn:Func} {B:Code} {o:Nat} {lf:Lf σ} {hs:List (Hd σ)} {hk:List Hop} {Inv:Nat→List (Cm σ)→Prop} {ms:Nat→List (Cm σ)→Nat×Nat×Nat} {f:FuncId} {R:Ending→World→Prop} {E:Ev} {G:Hp}
theorem stepsH_get:∀{l:List (Hd σ)} {m i:Nat} {h:Hd σ},stepsH b P T I fuel fn B o lf hs hk Inv ms l m→l[i]? =some h→stepH b P T I fuel fn B o lf hs hk Inv ms (m+i) h
 |[],_,_,_,_,h=>by simp at h
 |h0::r,m,0,h,hs,hg=>by simp at hg;subst hg;exact hs.1
 |h0::r,m,i+1,h,hs,hg=>by
  have:=stepsH_get hs.2 (i:=i) (by simpa using hg)
  rw [show m+1+i=m+(i+1) by omega] at this
  exact this
theorem hcode_one {h:Hd σ} {j:Nat} (hc:hcode B hs=hcode' B hs) (hg:hs[j]? =some h):hcode B [h]=hcode' B [h]:=by
 simp only [hcode,hcode']
 cases ho:h.ops with
 |some i=>rfl
 |none=>rw [hcode_get hc hg ho]
def Lf.Ok (lf:Lf σ) (E:Ev) (G:Hp) (R:Ending→World→Prop):Prop:=∀v p K w,lf.l v p K=lf.r v p K→lf.b v p K=true→lf.Q v p K→SatK D E G w K→R (.returned v) w
theorem lf_go (hT:TableOk D P T) (hfn:P.funcs[f]? =some fn) (hmix:P.follows .mixedOrders=true) (hlf:lf.Ok D E G R) (hc:hcode B hs=hcode' B hs) {Q:Nat→List (Cm σ)→Prop}
 (H:∀j h,hs[j]? =some h→∀s,fitsC h.kd s=true→Q j s→∀ad,SW D P f R B fn.ntmps E G h.tds (h.L ad s) (h.K ad s)) {I:List Nat} {td:List Ab} {L:List Ent} {K:List (Chunk σ)} {W:Prop}
 (h:∀β γ,lf.lhs hs Q (run P T I fuel B fn.results.toList fn.ntmps td L K) β γ=lf.rhs hs (run P T I fuel B fn.results.toList fn.ntmps td L K) W β γ) (hW:W):SW D P f R B fn.ntmps E G td L K:=by
 refine SW.run D hT (I:=I) hfn hmix (R':= λv p K=>lf.l v p K=lf.r v p K∧lf.b v p K=true∧lf.Q v p K) (λv p K w h hS=>hlf v p K w h.1 h.2.1 h.2.2 hS) fuel rfl ?_
 refine Tree.wp_holds (RQ:=lf.Q) (SQ:=soQ hs Q) (roL:=lf.l) (roR:=lf.r) (soL:=soL hs) (soR:=soR hs) (rb:=lf.b) (sb:=soB hs)
  (λv p K h1 h2 h3=>⟨h1,h2,h3⟩) (λtd L K h1 h2 h3=>soQ_ok D hc h1 h2 h3 H) _ (λβ γ=>?_) (λβ γ=>congrArg (·.2.1) (h β γ)) (λβ γ=>congrArg (·.2.2) (h β γ))
 have:Tree.wp lf.Q (soQ hs Q) (run P T I fuel B fn.results.toList fn.ntmps td L K) β γ=W:=congrArg (·.1) (h β γ)
 rw [this];exact hW
theorem heads_ok (hb:b.Is D) (hT:TableOk D P T) (hfn:P.funcs[f]? =some fn) (hmix:P.follows .mixedOrders=true) (hlf:lf.Ok D E G R) (hc:hcode B hs=hcode' B hs) (hst:stepsH b P T I fuel fn B o lf hs hk Inv ms hs 0):
 ∀j h,hs[j]? =some h→∀s,fitsC h.kd s=true→Inv j s→∀ad,SW D P f R B fn.ntmps E G h.tds (h.L ad s) (h.K ad s):=by
 have loop:∀x:Nat×Nat×Nat,∀j h,hs[j]? =some h→∀s,fitsC h.kd s=true→Inv j s→ms j s=x→∀ad,SW D P f R B fn.ntmps E G h.tds (h.L ad s) (h.K ad s):=by
  refine lx_rec λx ih j h hg s hf hI hm ad=>?_
  have hq:=stepsH_get hst hg
  rw [lV] at hq
  have H':∀j' h',hs[j']? =some h'→∀s',fitsC h'.kd s'=true→(Inv j' s'∧lx (ms j' s') (ms j s))→∀ad',SW D P f R B fn.ntmps E G h'.tds (h'.L ad' s') (h'.K ad' s'):= λj' h' hg' s' hf' hI' ad'=>ih _ (by rw [←hm];exact hI'.2) j' h' hg' s' hf' hI'.1 rfl ad'
  unfold stepH at hq
  split at hq
  ·obtain ⟨W,hW1,hW2⟩:=hq.at s hf hI
   exact lf_go D hT hfn hmix hlf hc H' (hW1 ad) hW2
  ·rename_i k of j2 _
   split at hq
   ·rename_i h2 hg2
    obtain ⟨st,hk0,hq⟩:=hq.at s hf hI
    refine Bx.open_ok D hb k (hk0 ad) λo' ad2 y e hfy hRy=>?_
    injection e with e;subst e
    obtain ⟨W,hW1,hW2⟩:=hq.at y hfy hRy
    have e:=hW1 ad ad2
    simp only [iV] at e
    refine soQ_ok D (hs:=[h2]) (hcode_one hc hg2) e.2.1 e.2.2 (by rw [e.1];exact hW2) λj' h' hg' s' hf' hI' ad'=>?_
    cases j' with
    |zero=>simp at hg';subst hg';exact H' j2 _ hg2 s' hf' hI' ad'
    |succ j'=>simp at hg'
   ·exact hq.elim
  ·rename_i j2 _
   split at hq
   ·rename_i h2 hg2
    obtain ⟨st,W,hR,hW1,hW2⟩:=hq.at s hf hI
    have e:=hW1 ad
    simp only [iV] at e
    refine Bx.close_ok D hb (o:=o) (ad:=ad) (y:=s.take (nCs b.l)) (rest:=(h.K ad s).drop (1+nKs b.l)) (s:=st) (by rw [←e.1,List.take_append_drop]) e.2.1 e.2.2.1 hR ?_
    refine soQ_ok D (hs:=[h2]) (hcode_one hc hg2) e.2.2.2.2.1 e.2.2.2.2.2 (by rw [e.2.2.2.1];exact hW2) λj' h' hg' s' hf' hI' ad'=>?_
    cases j' with
    |zero=>simp at hg';subst hg';exact H' j2 _ hg2 s' hf' hI' ad'
    |succ j'=>simp at hg'
   ·exact hq.elim
 exact λj h hg s hf hI ad=>loop _ j h hg s hf hI rfl ad
end
def Bx.y (b:Bx σ wr) (v:Value) (p:Pr) (K:List (Chunk σ)):Dc σ:=(Sh.box b.t b.l).dc K v p
def Bx.y0 (b:Bx σ wr) (o:Nat) (K:List (Chunk σ)):Dc σ:=b.y (.pointer (some ⟨o,0,none⟩)) (.pt 0 (.cell 0)) K
def Bx.yK (b:Bx σ wr) (o:Nat) (y:Dc σ):List (Chunk σ):=b.bk o (adF y.ad.tail) 1 y.cs
section
variable (c:Ct σ) (b:Bx σ wr) (o:Nat) (cs:List (Cm σ)) (v:Value) (p:Pr) (K:List (Chunk σ))
def Ct.opR:Ty c.rs.kd:=ofCm c.rs.kd (c.rs.dc K v p).cs
def Ct.opM:List (Mk σ):=c.rs.mks (toCm c.rs.kd (c.opR v p K))
def Ct.opIs:List Nat:=fixIs 0 ((b.y0 o K).is++(c.rs.dc K v p).is)
def Ct.opTm:List (Chunk σ):=b.yK o (b.y0 o K)++jI ancC (c.opM v p K) (c.retAnc v p K)
def Ct.opl:Ob σ:=⟨[],v,[],lhsK K (c.opIs b o v p K) (c.opTm b o v p K)⟩
def Ct.opr:Ob σ:=⟨[],c.rs.out (toCm c.rs.kd (c.opR v p K)) (jI ancV (c.opM v p K) (c.retAnc v p K)),[],rhsK (c.opTm b o v p K)⟩
def Ct.opb:Bool:=nodupB (c.opIs b o v p K)&&ancOk (c.opM v p K) (c.retAnc v p K)&&iM (c.opIs b o v p K).length (c.opTm b o v p K).length&&fitsC (kds b.l) (b.y0 o K).cs
def selfLf (R:Ty c.RK→Prop) (O:List (Cm σ)→Ty c.rs.kd→Prop):Lf σ:=
 ⟨λv p K=>match isObj0 K with|true=>R (c.retR v p K)|false=>O (b.y0 o K).cs (c.opR v p K), λv p K=>bif isObj0 K then c.roL ⟨o,0,none⟩ cs v p K else c.opl b o v p K,
   λv p K=>bif isObj0 K then c.roR ⟨o,0,none⟩ cs v p K else c.opr b o v p K, λv p K=>bif isObj0 K then c.rob_ ⟨o,0,none⟩ cs v p K else c.opb b o v p K⟩
def newl:Ob σ:=⟨[],v,[],lhsK K (fixIs 0 (b.y v p K).is) (b.yK (adF (b.y v p K).ad 0).b (b.y v p K))⟩
def newr:Ob σ:=⟨[], .pointer (some ⟨(adF (b.y v p K).ad 0).b,0,none⟩),[],rhsK (b.yK (adF (b.y v p K).ad 0).b (b.y v p K))⟩
def newb:Bool:=nodupB (fixIs 0 (b.y v p K).is)&&iM (fixIs 0 (b.y v p K).is).length (b.yK (adF (b.y v p K).ad 0).b (b.y v p K)).length&&fitsC (kds b.l) (b.y v p K).cs
def newLf (O:List (Cm σ)→Prop):Lf σ:=⟨λv p K=>O (b.y v p K).cs,newl b,newr b,newb b⟩
end
def Ct.parts (c:Ct σ) (o:Nat) (cs:List (Cm σ)) (r:Ty c.RK):(List Value→Value)×List (Mk σ)×List (Chunk σ):=(c.outC r,c.mksC r,c.nwC ⟨o,0,none⟩ cs r)
theorem selfLf_ok {b:Bx σ wr} (hb:b.Is D) {c:Ct σ} {o:Nat} {cs:List (Cm σ)} {r:Ty c.RK} {s1:wr.τ} {rr:Ty c.rs.kd} (hp:c.parts o cs r=(c.rs.out (toCm c.rs.kd rr),c.rs.mks (toCm c.rs.kd rr),[.obj ⟨o,0,none⟩ (wr.inj s1)])) {E:Ev} {G:Hp}:
 (selfLf c b o cs (λx=>x=r) λy x=>b.R s1 y∧x=rr).Ok D E G (Post D E G (c.outC r) (c.nwC ⟨o,0,none⟩ cs r) (c.mksC r)):=by
 intro v p K w hl hbb hQ hS
 simp only [selfLf] at hl hbb hQ
 cases h0:isObj0 K with
 |true=>
  rw [h0] at hl hbb hQ
  simp only [cond_true] at hl hbb hQ
  have:=Ct.ret_ok hl hbb
  rw [hQ] at this
  exact this.post D hS
 |false=>
  rw [h0] at hl hbb hQ
  simp only [cond_false] at hl hbb hQ
  simp only [Ct.parts,iV] at hp
  rw [hp.1,hp.2.1,hp.2.2]
  simp only [Ct.opb,iE] at hbb
  simp only [Ct.opl,Ct.opr,Ob.mk.injEq] at hl
  rw [←hQ.2]
  exact Bx.post D hb (p:=p) hbb.2 hQ.1 ⟨c.retAnc v p K,c.opIs b o v p K,nodupB_ok hbb.1.1.1,hbb.1.1.2,hl.2.1,got_of hl.2.2.2 hbb.1.2⟩ hS
theorem newLf_ok {b:Bx σ wr} (hb:b.Is D) {c:Ct σ} {s1:wr.τ} {r:Ty c.RK} (h1:∀x,c.outC r [x]=x) (h2:c.mksC r=[.obj (wr.inj s1)]) {E:Ev} {G:Hp}:(newLf b λy=>b.R s1 y).Ok D E G (Post D E G (c.outC r) [] (c.mksC r)):=by
 intro v p K w hl hbb hQ hS
 simp only [newLf,newl,newr,Ob.mk.injEq] at hl
 simp only [newLf,newb,iE] at hbb
 rw [h2]
 have hg:=got_of hl.2.2.2 hbb.1.2
 exact Bx.post_new D hb (o:=(adF (b.y v p K).ad 0).b) (ad:=adF (b.y v p K).ad.tail) (p:=p) hbb.2 hQ ⟨[],fixIs 0 (b.y v p K).is,nodupB_ok hbb.1.1,rfl,hl.2.1,by simpa [Bx.yK] using hg⟩ hS h1
theorem AllC.imp:∀{ks:List (Kd σ)} {p q:List (Cm σ)→Prop},(∀cs,p cs→q cs)→AllC ks p→AllC ks q
 |[],_,_,h,hp=>h [] hp
 |_::_,_,_,h,hp=> λa=>AllC.imp (λcs=>h _) (hp a)
def Ct.sL (c:Ct σ) (p:Addr) (cs:List (Cm σ)) (ad:Nat→Ad):List Ent:=argEnts 0 (tpC (tps (adP p ad) c.full 0 0 cs))
def Ct.sK (c:Ct σ) (p:Addr) (cs:List (Cm σ)) (ad:Nat→Ad):List (Chunk σ):=tpK (tps (adP p ad) c.full 0 0 cs)
theorem ent_ob {c:Ct σ} {b:Bx σ wr} (hb:b.Is D) (beg:Bool) {P:Program} {T:List (Nat×Entry σ)} (hT:TableOk D P T) {I:List Nat} {f:FuncId} {fn:Func} {B:Code} (hfn:P.funcs[f]? =some fn) (hmix:P.follows .mixedOrders=true) (hB:fn.body=some B)
 (ha:isArgs c.ash=true) (hl:kH c.full.length fn.ntmps=true) {F:Cur c.AK (Ty c.RK)} {pre:Cur c.AK (List Prop)} (fuel:Nat)
 (H:∀o:Nat,AllC c.AK λcs=>bds c.full cs→(∀p∈appC c.AK pre cs,p)→∃(s0 s1:wr.τ) (rr:Ty c.rs.kd) (hs:List (Hd σ)) (hk:List Hop) (Inv:Nat→List (Cm σ)→Prop) (ms:Nat→List (Cm σ)→Nat×Nat×Nat),hcode B hs=hcode' B hs∧
   (∀p ad,(c.sK p cs ad)[0]? =some (.obj p (wr.inj s0)))∧
   c.parts o cs (appC c.AK F cs)=(c.rs.out (toCm c.rs.kd rr),c.rs.mks (toCm c.rs.kd rr),[.obj ⟨o,0,none⟩ (wr.inj s1)])∧
   (match beg with
     |false=>∃W:Prop,(∀ad β γ,(selfLf c b o cs (λx=>x=appC c.AK F cs) λy x=>b.R s1 y∧x=rr).lhs hs Inv (run P T I fuel B fn.results.toList fn.ntmps [.code []] (c.sL ⟨o,0,none⟩ cs ad) (c.sK ⟨o,0,none⟩ cs ad)) β γ=
       (selfLf c b o cs (λx=>x=appC c.AK F cs) λy x=>b.R s1 y∧x=rr).rhs hs (run P T I fuel B fn.results.toList fn.ntmps [.code []] (c.sL ⟨o,0,none⟩ cs ad) (c.sK ⟨o,0,none⟩ cs ad)) W β γ)∧W
     |true=>AllC (kds b.l) λy=>b.R s0 y→∃W:Prop,(∀ad ad2 β γ,(selfLf c b o cs (λx=>x=appC c.AK F cs) λy x=>b.R s1 y∧x=rr).lhs hs Inv (run P T I fuel B fn.results.toList fn.ntmps [.code []] (opL 0 (c.sL ⟨o,0,none⟩ cs ad)) (b.opK 0 o ad2 y (c.sK ⟨o,0,none⟩ cs ad))) β γ=
       (selfLf c b o cs (λx=>x=appC c.AK F cs) λy x=>b.R s1 y∧x=rr).rhs hs (run P T I fuel B fn.results.toList fn.ntmps [.code []] (opL 0 (c.sL ⟨o,0,none⟩ cs ad)) (b.opK 0 o ad2 y (c.sK ⟨o,0,none⟩ cs ad))) W β γ)∧W)∧
   stepsH b P T I fuel fn B o (selfLf c b o cs (λx=>x=appC c.AK F cs) λy x=>b.R s1 y∧x=rr) hs hk Inv ms hs 0):EntryOk D P f (entC c F pre):=by
 refine ent_of D (mk:=[]) hT (I:=I) hfn hmix hB ha hl 0 λp0=>?_
 by_cases hp:∃o,p0=⟨o,0,none⟩
 ·obtain ⟨o,rfl⟩:=hp
  refine AllC.imp (λcs hH hbd hpre ad E G=>?_) (H o)
  obtain ⟨s0,s1,rr,hs,hk,Inv,ms,hc,h0,hpt,hbg,hst⟩:=hH hbd hpre
  have hlf:=selfLf_ok D hb hpt (E:=E) (G:=G)
  have loop:=heads_ok D hb hT hfn hmix hlf hc hst
  show SW D P f _ B fn.ntmps E G [.code []] (c.sL ⟨o,0,none⟩ cs ad) (c.sK ⟨o,0,none⟩ cs ad)
  cases beg with
  |false=>
   obtain ⟨W,hW1,hW2⟩:=hbg
   exact lf_go D hT hfn hmix hlf hc loop (hW1 ad) hW2
  |true=>
   refine Bx.open_ok D hb 0 (h0 ⟨o,0,none⟩ ad) λo' ad2 y e hfy hRy=>?_
   injection e with e;subst e
   obtain ⟨W,hW1,hW2⟩:=hbg.at y hfy hRy
   exact lf_go D hT hfn hmix hlf hc loop (hW1 ad ad2) hW2
 ·refine AllC.imp (λcs hH hbd hpre ad E G=>?_) (H 0)
  obtain ⟨s0,s1,rr,hs,hk,Inv,ms,hc,h0,hpt,hbg,hst⟩:=hH hbd hpre
  show SW D P f _ B fn.ntmps E G [.code []] (c.sL p0 cs ad) (c.sK p0 cs ad)
  exact Bx.addr D hb 0 (h0 p0 ad) λo e=>absurd ⟨o,e⟩ hp
theorem ent_nw {c:Ct σ} {b:Bx σ wr} (hb:b.Is D) {P:Program} {T:List (Nat×Entry σ)} (hT:TableOk D P T) {I:List Nat} {f:FuncId} {fn:Func} {B:Code} (hfn:P.funcs[f]? =some fn) (hmix:P.follows .mixedOrders=true) (hB:fn.body=some B)
 (ha:isArgs c.ash=true) (hl:kH c.full.length fn.ntmps=true) {F:Cur c.AK (Ty c.RK)} {pre:Cur c.AK (List Prop)} (fuel:Nat)
 (H:∀p0:Addr,AllC c.AK λcs=>bds c.full cs→(∀p∈appC c.AK pre cs,p)→∃(s1:wr.τ) (hs:List (Hd σ)) (hk:List Hop) (Inv:Nat→List (Cm σ)→Prop) (ms:Nat→List (Cm σ)→Nat×Nat×Nat),hcode B hs=hcode' B hs∧
   (∀x,c.outC (appC c.AK F cs) [x]=x)∧c.mksC (appC c.AK F cs)=[.obj (wr.inj s1)]∧c.nwC p0 cs (appC c.AK F cs)=[]∧
   (∃W:Prop,(∀ad β γ,(newLf b λy=>b.R s1 y).lhs hs Inv (run P T I fuel B fn.results.toList fn.ntmps [.code []] (c.sL p0 cs ad) (c.sK p0 cs ad)) β γ=
     (newLf b λy=>b.R s1 y).rhs hs (run P T I fuel B fn.results.toList fn.ntmps [.code []] (c.sL p0 cs ad) (c.sK p0 cs ad)) W β γ)∧W)∧
   stepsH b P T I fuel fn B 0 (newLf b λy=>b.R s1 y) hs hk Inv ms hs 0):EntryOk D P f (entC c F pre):=by
 refine ent_of D (mk:=[]) hT (I:=I) hfn hmix hB ha hl 0 λp0=>?_
 refine AllC.imp (λcs hH hbd hpre ad E G=>?_) (H p0)
 obtain ⟨s1,hs,hk,Inv,ms,hc,h1,h2,h3,⟨W,hW1,hW2⟩,hst⟩:=hH hbd hpre
 have hlf:=newLf_ok D hb h1 h2 (E:=E) (G:=G)
 have loop:=heads_ok D hb hT hfn hmix hlf hc hst
 rw [h3]
 exact lf_go D hT hfn hmix hlf hc loop (hW1 ad) hW2
theorem ent_w0 {c:Ct σ} {P:Program} {T:List (Nat×Entry σ)} (hT:TableOk D P T) {I:List Nat} {f:FuncId} {fn:Func} {B:Code} (hfn:P.funcs[f]? =some fn) (hmix:P.follows .mixedOrders=true) (hB:fn.body=some B)
 (ha:isArgs c.ash=true) (hl:kH c.full.length fn.ntmps=true) {F:Cur c.AK (Ty c.RK)} {pre:Cur c.AK (List Prop)} (fuel:Nat)
 (H:∀p0,AllC c.AK λcs=>bds c.full cs→(∀p∈appC c.AK pre cs,p)→∃W:Prop,(∀ad β γ,c.lhsW p0 cs [] (λr=>r=appC c.AK F cs) (λ_ _=>False) (c.tree P T I fuel fn B p0 cs ad) β γ=c.rhsW p0 cs [] (c.tree P T I fuel fn B p0 cs ad) W β γ)∧W):EntryOk D P f (entC c F pre):=
 ent_wp D hT (I:=I) hfn hmix hB ha hl fuel λp0=>AllC.imp (λ_ h hb hp=>⟨[], λ_ _=>False, λ_ _=>(0,0,0),rfl,h hb hp,trivial⟩) (H p0)
end
end Go.Sl
namespace Go.Proofs.YtinpgnomkmmfdaaGreat
section
open Go.Sl
inductive Sg where
 |view (s:VS)
 |any (A:List (LI)→Asn) (st:List (LI))
def bd32 (x:Int):Prop:=0≤x∧x<4294967296
abbrev bdL (xs:LI):Prop:=∀v∈xs,bd32 v
abbrev cX (cs:List (Cm Sg)) (i:Nat):Cm Sg:=cs.getD i (.b false)
structure VX where
 n:Int
 nw:Nat
 vals:LI
 fr:Int→Option Int
 nr:Nat
 reads:LI
 fp:Int→Option Int
 nq:Nat
 qc:LI
 qv:LI
 miss:Int
 stuck:Bool
def VX.of (cs:List (Cm Sg)):VX:=⟨(cX cs 0).iOf,(cX cs 1).nOf,(cX cs 2).liOf,(cX cs 3).mpOf,(cX cs 4).nOf,(cX cs 5).liOf,(cX cs 6).mpOf,(cX cs 7).nOf,(cX cs 8).liOf,(cX cs 9).liOf,(cX cs 10).iOf,(cX cs 11).bOf⟩
structure VOk (x:VX) (s:VS):Prop where
 n:s.n=x.n
 nr:x.nr=x.reads.length
 nq:x.nq=x.qc.length
 all:s.all=true
 nw:x.nw=x.vals.length
 len:x.n=x.vals.length
 src:∀i:Int,0≤i→i<x.n→s.src i=some (x.vals.getD i.toNat 0)
 bv:∀v∈x.vals,bd32 v
 reads:s.reads=x.reads
 fr:∀i,(x.fr i).getD 0=bif x.reads.contains i then 1 else 0
 wrote:s.wrote=x.qc
 ql:x.qv.length=x.qc.length
 fp:∀i,x.fp i=(x.qc.idxOf? i).map λk=>(k:Int)
 put:∀i,s.put i=(x.qc.idxOf? i).map λk=>x.qv.getD k 0
 bq:∀v∈x.qv,bd32 v
 miss:s.miss=bif x.stuck then x.miss else-1
 m0:x.stuck=true→0≤x.miss
 rl:x.reads.length≤x.n.toNat
 wl:x.qc.length≤x.n.toNat
 rn:x.reads.Nodup
 wn:x.qc.Nodup
 ri:∀i∈x.reads,0≤i∧i<x.n
 wi:∀i∈x.qc,0≤i∧i<x.n
 nb:x.n≤1000000
def wView:Wr Sg:=⟨VS, .view, λ
 | .view s=>s
 |_=>VS.whole [], λ
 | .view _=>true
 |_=>false,VS.whole [], λs h=>by cases s<;>first|rfl|cases h⟩
def bxV:Bx Sg wView:=⟨75,[.i .i64, .nxt 67, .own 65 [some .u32], .mp .i64 .i64, .own 3 [some .i64], .mp .i64 .i64, .own 88 [some .i64,some .u32], .i .i64, .b], λs y=>VOk (VX.of y) s⟩
def Dg (p:Addr):Sg→Asn
 | .view s=>bxV.A s p
 | .any A st=>A st
theorem bxV_ok:bxV.Is Dg:=⟨rfl, λ_ _=>rfl⟩
theorem mix:Tryz.prog.follows .mixedOrders=true:=by kernel_rfl
abbrev Tb:=List (Nat×Entry Sg)
abbrev TOk (T:Tb):Prop:=TableOk Dg Tryz.prog T
abbrev EOk (n:Nat) (e:Entry Sg):Prop:=EntryOk Dg Tryz.prog n e
theorem tc_ {n:Nat} {e:Entry Sg} {T:Tb} (h:EOk n e) (h2:TOk T):TOk ((n,e)::T):=TableOk.cons Dg h h2
def T_nil:List (Nat×Entry Sg):=[]
theorem T_nil_ok:TableOk Dg Tryz.prog T_nil:=TableOk.nil Dg _
end
end Go.Proofs.YtinpgnomkmmfdaaGreat
namespace Go.Sl
section
theorem w64 {n:Int} (h: -9223372036854775808≤n∧n<9223372036854775808):iA iB n=n:=by rw [nQ];omega
theorem wu64 {n:Int} (h:0≤n∧n<18446744073709551616):iA lQ n=n:=by rw [pP];omega
theorem wu32 {n:Int} (h:0≤n∧n<4294967296):iA iW n=n:=by rw [nO];omega
theorem pow2_pos (k:Nat):(0:Int)<2^k:=Int.pow_pos (by decide)
theorem pow2_le {k m:Nat} (h:k≤m):(2:Int)^k≤2^m:=by
 have:=lO (n:=2) (by decide) h
 exact_mod_cast this
theorem getD_set (xs:LI) (i j:Nat) (v:Int) (hi:i<xs.length):(xs.set i v).getD j 0=if j=i then v else xs.getD j 0:=by
 rw [iD,List.getElem?_set]
 by_cases h:i=j
 ·subst h;simp [hi]
 ·rw [if_neg h,if_neg (λe=>h e.symm)];simp
theorem ext_getD {xs ys:LI} (hl:xs.length=ys.length) (h:∀j,j<xs.length→xs.getD j 0=ys.getD j 0):xs=ys:=by
 apply List.ext_getElem hl
 intro j h1 h2
 have:=h j h1
 rw [iD,iD,iN h1,iN h2] at this
 simpa using this
theorem getD_map_range {n j:Nat} (f:Nat→Int) (h:j<n):((jQ n).map f).getD j 0=f j:=by
 rw [iD,iR,oR h];rfl
theorem toNat_succ {k:Int} (h:0≤k):(k+1).toNat=k.toNat+1:=by omega
end
end Go.Sl
namespace Go.Proofs.YtinpgnomkmmfdaaGreat
section
open Go.Sl Go.RowKit
theorem nodup_len:∀(n:Nat) (l:LI),l.Nodup→(∀x∈l,0≤x∧x<n)→l.length≤n
 |0,l,_,h=>by
  cases l with
  |nil=>simp
  |cons x r=>have:=h x (by simp);omega
 |n+1,l,hn,h=>by
  by_cases hm:(n:Int)∈l
  ·have h1:=nodup_len n (l.erase (n:Int)) (hn.erase _) λx hx=>by
    rw [hn.mem_erase_iff] at hx
    have:=h x hx.2
    have:x≠(n:Int):=hx.1
    omega
   rw [List.length_erase_of_mem hm] at h1
   omega
  ·have h1:=nodup_len n l hn λx hx=>by
    have:=h x hx
    have:x≠(n:Int):= λe=>hm (e▸hx)
    omega
   omega
theorem nodup_len' {n:Int} {l:LI} (hn:l.Nodup) (h:∀x∈l,0≤x∧x<n):l.length≤n.toNat:=by
 refine nodup_len n.toNat l hn λx hx=>?_
 have:=h x hx;omega
theorem nodup_snoc {l:LI} {i:Int} (h:l.Nodup) (hi:¬i∈l):(l++[i]).Nodup:=by
 rw [qC]
 exact ⟨h,by simp, λa ha b hb=>by simp at hb;subst hb;exact λe=>hi (e▸ha)⟩
theorem idx_lt {l:LI} {i:Int} {k:Nat} (h:l.idxOf? i=some k):k<l.length∧l.getD k 0=i:=by
 rw [nW] at h
 obtain ⟨h1,h2,_⟩:=h
 exact ⟨h1,by rw [iD,iN h1];simpa using h2⟩
theorem idx_none {l:LI} {i:Int} (h:l.idxOf? i=none):¬i∈l:=by
 rw [List.idxOf?_eq_none_iff] at h
 exact h
theorem idx_snoc (l:LI) (i j:Int) (hi:¬i∈l):(l++[i]).idxOf? j=bif j==i then some l.length else l.idxOf? j:=by
 rw [List.idxOf?,List.findIdx?_append]
 by_cases hj:j=i
 ·subst hj
  have:List.findIdx? (λx=>x==j) l=none:=by
   rw [List.findIdx?_eq_none_iff]
   intro x hx
   simp only [beq_eq_false_iff_ne,ne_eq]
   intro e;exact hi (e▸hx)
  rw [this]
  simp
 ·have:(j==i)=false:=by simpa using hj
  rw [this]
  have h2:List.findIdx? (λx=>x==j) [i]=none:=by
   rw [List.findIdx?_eq_none_iff]
   intro x hx
   simp at hx;subst hx
   simp;exact λe=>hj e.symm
  rw [h2]
  simp [List.idxOf?]
theorem getD_mem {l:LI} {k:Nat} (h:k<l.length):l.getD k 0∈l:=by
 rw [iD,iN h];exact List.getElem_mem h
theorem set_snoc (l:LI) (y:Int):(l++[0]).set l.length y=l++[y]:=by
 rw [List.set_append_right _ _ (kF _)];simp
theorem getD_snoc (l:LI) (y:Int) (j:Nat):(l++[y]).getD j 0=bif iM j l.length then y else l.getD j 0:=by
 by_cases h:j=l.length
 ·subst h;simp
 ·have e:iM j l.length=false:=by
   cases hb:iM j l.length with
   |false=>rfl
   |true=>exact absurd (iJ hb) h
  rw [e]
  simp only [cond_false,iD]
  rcases jN j l.length with hl|hl
  ·rw [iO hl]
  ·rw [jP (by simp;omega),jP hl]
section
variable {x:VX} {s:VS}
theorem VOk.there (ho:VOk x s) (i:Int):(true&&decide (i≥0)&&decide (i<x.n)&&!x.stuck)=s.there i:=by
 unfold VS.there
 rw [ho.n,ho.miss]
 cases hs:x.stuck with
 |false=>simp
 |true=>
  have:=ho.m0 hs
  simp;omega
theorem VOk.putSome (ho:VOk x s) {i:Int} {j:Nat} (h:x.qc.idxOf? i=some j):x.fp i=some (j:Int)∧s.put i=some (x.qv.getD j 0)∧j<x.nq∧j<x.qv.length∧nv (x.qv.getD j 0)=x.qv.getD j 0:=by
 obtain ⟨h1,h2⟩:=idx_lt h
 have hl:j<x.qv.length:=by rw [ho.ql];exact h1
 refine ⟨by rw [ho.fp,h];rfl,by rw [ho.put,h];rfl,by rw [ho.nq];exact h1,hl,nv_id (ho.bq _ (getD_mem hl))⟩
theorem VOk.putNone (ho:VOk x s) {i:Int} (h:x.qc.idxOf? i=none):x.fp i=none∧s.put i=none:=⟨by rw [ho.fp,h];rfl,by rw [ho.put,h];rfl⟩
theorem VOk.readIs (ho:VOk x s) (i:Int):((x.fr i).getD 0==0)=!s.reads.contains i:=by
 rw [ho.fr,ho.reads]
 cases x.reads.contains i<;>rfl
theorem VOk.more (ho:VOk x s) {i:Int} (h0:0≤i) (h1:i<x.n) (hc:s.reads.contains i=false):
 VOk {x with fr:=mupd x.fr i 1,nr:=x.nr+1,reads:=x.reads++[i]} {s with reads:=s.reads++[i]}:=by
 have hni:¬i∈x.reads:=by
  rw [ho.reads] at hc
  simpa using hc
 have hri:∀j∈x.reads++[i],0≤j∧j<x.n:= λj hj=>by
  simp only [kC,iY] at hj
  rcases hj with hj|rfl
  ·exact ho.ri j hj
  ·exact ⟨h0,h1⟩
 have hn:=nodup_snoc ho.rn hni
 exact {ho with
  nr:=by simp [ho.nr]
  reads:=by simp [ho.reads]
  fr:= λj=>by
   simp only [mupd]
   by_cases hj:j=i
   ·subst hj;simp
   ·have e:(j==i)=false:=by simpa using hj
    rw [e]
    simp only [cond_false,ho.fr]
    congr 1
    simp [hj]
  rl:=nodup_len' hn hri
  rn:=hn
  ri:=hri}
theorem VOk.bound (ho:VOk x s):x.nr≤1000000∧x.nq≤1000000:=by
 have:=ho.rl;have:=ho.wl;have:=ho.nb;have:=ho.nr;have:=ho.nq
 omega
theorem VS.thereOf {s:VS} {i:Int} (h:s.there i=true):0≤i∧i<s.n:=by
 unfold VS.there at h
 simp only [iE,decide_eq_true_eq] at h
 exact ⟨h.1.1,h.1.2⟩
theorem VOk.putNew (ho:VOk x s) {i y:Int} (h0:0≤i) (h1:i<x.n) (hy:bd32 y) (hq:x.qc.idxOf? i=none):
 VOk {x with fp:=mupd x.fp i x.nq,nq:=x.nq+1,qc:=x.qc++[i],qv:=(x.qv++[0]).set (iL (x.nq:Int)) y} {s with put:=mupd s.put i y,wrote:=s.wrote++[i]}:=by
 have hni:=idx_none hq
 have hwi:∀j∈x.qc++[i],0≤j∧j<x.n:= λj hj=>by
  simp only [kC,iY] at hj
  rcases hj with hj|rfl
  ·exact ho.wi j hj
  ·exact ⟨h0,h1⟩
 have hn:=nodup_snoc ho.wn hni
 have hqv:(x.qv++[0]).set (iL (x.nq:Int)) y=x.qv++[y]:=by
  rw [kT,ho.nq,←ho.ql,set_snoc]
 rw [hqv]
 exact {ho with
  nq:=by simp [ho.nq]
  wrote:=by simp [ho.wrote]
  ql:=by simp [ho.ql]
  fp:= λj=>by
   simp only [mupd,idx_snoc _ _ _ hni]
   cases hj:j==i with
   |true=>simp [ho.nq]
   |false=>simpa using ho.fp j
  put:= λj=>by
   simp only [mupd,idx_snoc _ _ _ hni]
   cases hj:j==i with
   |true=>simp [←ho.ql]
   |false=>
    simp only [cond_false,ho.put]
    cases hjj:x.qc.idxOf? j with
    |none=>rfl
    |some m=>
     have:=idx_lt hjj
     simp only [iT,iC,getD_snoc]
     have e:iM m x.qv.length=false:=by
      cases hb:iM m x.qv.length with
      |false=>rfl
      |true=>have:=iJ hb;have:=ho.ql;omega
     rw [e];rfl
  bq:= λv hv=>by
   simp only [kC,iY] at hv
   rcases hv with hv|rfl
   ·exact ho.bq v hv
   ·exact hy
  wl:=nodup_len' hn hwi
  wn:=hn
  wi:=hwi}
theorem VOk.putOld (ho:VOk x s) {i y:Int} {j:Nat} (hy:bd32 y) (hq:x.qc.idxOf? i=some j):
 VOk {x with qv:=x.qv.set (iL (j:Int)) y} {s with put:=mupd s.put i y}:=by
 obtain ⟨h1,h2⟩:=idx_lt hq
 rw [kT]
 exact {ho with
  ql:=by simp [ho.ql]
  put:= λm=>by
   simp only [mupd]
   by_cases hm:m=i
   ·subst hm
    simp only [beq_self_eq_true,cond_true,hq,iT]
    rw [getD_set _ _ _ _ (by rw [ho.ql];exact h1)];simp
   ·have e:(m==i)=false:=by simpa using hm
    rw [e]
    simp only [cond_false,ho.put]
    cases hmm:x.qc.idxOf? m with
    |none=>rfl
    |some q=>
     have hqq:=idx_lt hmm
     simp only [iT,iC]
     rw [getD_set _ _ _ _ (by rw [ho.ql];exact h1),if_neg]
     intro e2
     subst e2
     exact hm (hqq.2.symm.trans h2)
  bq:= λv hv=>by
   rcases pR hv with hv|rfl
   ·exact ho.bq v hv
   ·exact hy}
end
def putsUpto (vals qc qv:LI) (k:Nat):LI:=(jQ k).foldl (λxs j=>xs.set (qc.getD j 0).toNat (qv.getD j 0)) vals
theorem putsUpto_succ (vals qc qv:LI) (k:Nat):putsUpto vals qc qv (k+1)=(putsUpto vals qc qv k).set (qc.getD k 0).toNat (qv.getD k 0):=by
 unfold putsUpto
 rw [List.range_succ,List.foldl_append];rfl
theorem putsUpto_len (vals qc qv:LI):∀k,(putsUpto vals qc qv k).length=vals.length
 |0=>rfl
 |k+1=>by rw [putsUpto_succ,mY];exact putsUpto_len vals qc qv k
theorem idx_at {xs:LI} (hn:xs.Nodup) {k:Nat} (hk:k<xs.length):xs.idxOf? (xs.getD k 0)=some k:=by
 rw [nW]
 rw [iD,iN hk,lA]
 refine ⟨hk,rfl, λm hm e=>?_⟩
 have a:=hn.idxOf_getElem m (by omega)
 have b:=hn.idxOf_getElem k hk
 rw [e] at a;omega
theorem idx_of_some {xs:LI} {i:Int} {j:Nat} (h:xs.idxOf? i=some j):j<xs.length∧xs.getD j 0=i:=by
 rw [nW] at h
 obtain ⟨h1,h2,_⟩:=h
 refine ⟨h1,?_⟩
 rw [iD,iN h1,lA]
 simpa using h2
theorem putsUpto_get {vals qc qv:LI} (hn:qc.Nodup) (hb:∀j∈qc,0≤j∧j<vals.length):∀(k:Nat),k≤qc.length→∀i:Nat,i<vals.length→
 (putsUpto vals qc qv k).getD i 0=match qc.idxOf? (i:Int) with|some j=>if j<k then qv.getD j 0 else vals.getD i 0|none=>vals.getD i 0
 |0,_,i,_=>by
  simp only [putsUpto,List.range_zero,List.foldl_nil]
  split<;>simp
 |k+1,hk,i,hi=>by
  have hq:=hb (qc.getD k 0) (getD_mem (by omega))
  rw [putsUpto_succ,getD_set _ _ _ _ (by rw [putsUpto_len];omega),putsUpto_get hn hb k (by omega) i hi]
  by_cases h:i=(qc.getD k 0).toNat
  ·rw [if_pos h]
   have e:(i:Int)=qc.getD k 0:=by omega
   rw [e,idx_at hn (by omega)]
   simp
  ·rw [if_neg h]
   cases hx:qc.idxOf? (i:Int) with
   |none=>rfl
   |some j=>
    obtain ⟨h1,h2⟩:=idx_of_some hx
    have hjk:j≠k:= λe=>by subst e;omega
    simp only
    by_cases hlt:j<k
    ·rw [if_pos hlt,if_pos (by omega)]
    ·rw [if_neg hlt,if_neg (by omega)]
theorem valsW_eq {x:VX} {s:VS} (ho:VOk x s):putsUpto x.vals x.qc x.qv x.qc.length=s.vals:=by
 have hl:=ho.len
 have hwi:∀j∈x.qc,0≤j∧j<x.vals.length:= λj hj=>by have:=ho.wi j hj;omega
 have hn:s.n.toNat=x.vals.length:=by rw [ho.n,hl];rfl
 unfold VS.vals
 rw [ho.all,cond_true,hn]
 refine ext_getD (by simp [putsUpto_len]) λi hi=>?_
 rw [putsUpto_len] at hi
 rw [putsUpto_get ho.wn hwi _ (kF _) i hi,getD_map_range _ hi]
 unfold VS.cur
 rw [ho.put]
 cases hx:x.qc.idxOf? (i:Int) with
 |some j=>
  obtain ⟨h1,_⟩:=idx_of_some hx
  simp only [iT,h1,if_true]
  exact (nv_id (ho.bq _ (getD_mem (by rw [ho.ql];exact h1)))).symm
 |none=>
  simp only [Option.map_none]
  rw [ho.src i (by omega) (by omega)]
  rw [show (i:Int).toNat=i by omega]
  exact (nv_id (ho.bv _ (getD_mem hi))).symm
end
section
open Go.Sl
theorem row_none {G:Hp} {n:Nat} {cols:List Col} (h:RowAt G none n cols):n=0:=by
 rcases nN n with h0|h0
 ·exact h0
 ·obtain ⟨b,hb,_⟩:=h.2.1 0 h0
  cases hb
theorem row_two {G:Hp} {a:Option Addr} {n:Nat} {k k':IntKind} {xs ys:LI} (h:RowAt G a n [.ints k xs, .ints k' ys]):n=ys.length:=(h.1 (.ints k' ys) (by simp)).symm
def cloneVals (xs:LI):LI:=(xs)
def cloneVals_out (r_:LI):List Value→Value:= λss=>ss.getD 0 undef
def cloneVals_nw (r_:LI):List (Chunk Sg):=[]
def cloneVals_rows (r_:LI):List (Mk Sg):=[.row 65 [.ints .u32 (r_)]]
section
variable (xs:LI) (a_0:Option Addr) (c_0:Nat)
def cloneVals_wp0 (xs:LI) (a_0:Option Addr) (c_0:Nat) (R_:LI→Prop):Prop:=(((mW a_0)=true→(R_ ([])))∧((mW a_0)=false→(∀b1_0:Nat,(((0+iF xs)*4≤140737488355328)∧(((0+iF xs)*4≤140737488355328)→(∀(b3_0:Option Nat) (b3_1:Nat),(R_ ([]++xs))))))))
theorem cloneVals_calls {E_:Ev} {G_:Hp} {w_:World} (hr0:RowAt G_ a_0 xs.length [.ints .u32 xs]∧xs.length≤c_0) (hp0:xs.length*16≤140737488355328) (hS:Sat E_ G_ w_ []):Calls Tryz.prog 27 #[(.slice a_0 xs.length c_0)] w_ (Post Dg E_ G_ (cloneVals_out (cloneVals xs)) (cloneVals_nw (cloneVals xs)) (cloneVals_rows (cloneVals xs))):=by
 have h:cloneVals_wp0 xs a_0 c_0 (λx=>x=(cloneVals xs)):=by
  unfold cloneVals_wp0
  refine ⟨λh=>?_, λ_ _=>⟨by simp only [lV];omega, λ_ _ _=>by simp [cloneVals]⟩⟩
  cases a_0 with
  |some b=>simp at h
  |none=>
   have hz:=row_none hr0.1
   have hx:xs=[]:=lW hz
   subst hx
   rfl
 exact calls_post Dg T_nil_ok (I:=[]) Tryz.func27 mix (B:=bodyOf Tryz.f27) (by kernel_rfl) [(.slice a_0 xs.length c_0)] [.pt 0 .slice] (by kernel_rfl) (objs:=[]) (ros:=[.ro a_0 xs.length c_0 [.ints .u32 xs]]) (psOk_cons (pOk_at rfl rfl) (psOk_nil)) (by kernel_rfl) (⟨hr0,trivial⟩) hS 400
  (t:=Tree.br (mW a_0) (Tree.ret (iH none 0 0) pn_ [jV a_0 (iF xs) c_0 [cu_ xs]]) (Tree.fresh λb=>Tree.need ((0+iF xs)*4≤140737488355328) (Tree.freshS λa cap=>Tree.ret (vs_ (ob_ a) (0+iF xs) cap) (ps_ 2) [jV a_0 (iF xs) c_0 [cu_ xs],Chunk.dead,kr_ a 65 (0+iF xs) cap [cu_ ([]++xs)]])))
  (by kernel_rfl)
  (⟨λz0=>RetOk.at (outf:=cloneVals_out) (nwf:=cloneVals_nw) (rowsf:=cloneVals_rows) (r:=[]) (h.1 z0) ⟨[(none,0,0,none)],[1000],(by decide),rfl,rfl,⟨.inr (by kernel_rfl),trivial⟩⟩, λz0=> λb1_0=>⟨((h.2 z0) b1_0).1, λz2=> λb3_0 b3_1=>RetOk.at (outf:=cloneVals_out) (nwf:=cloneVals_nw) (rowsf:=cloneVals_rows) (r:=[]++xs) ((((h.2 z0) b1_0).2 z2) b3_0 b3_1) ⟨[(b3_0,0+iF xs,b3_1,none)],[2],(by decide),rfl,rfl,⟨.inl rfl,trivial⟩⟩⟩⟩)
end
def cloneVals_e:Entry Sg:= λ
 |[(_, .row n_0 [.ints .u32 xs])]=>some ⟨(cloneVals xs), λ(r_:LI)=>⟨[(xs.length*16≤140737488355328:Prop)],none,[.row 65 [.ints .u32 (r_)]], λss=>ss.getD 0 undef, λk_=> .pt k_ .slice⟩⟩
 |_=>none
theorem cloneVals_ok:EntryOk Dg Tryz.prog 27 cloneVals_e:=by
 intro args c r h hr_
 unfold cloneVals_e at h
 split at h
 ·injection h with h;subst h;subst hr_
  refine ⟨(by
  intro K acs hl
  match acs,hl with
  |[a0_],hl=>
   simp only [acsOk,acOk] at hl
   simp [pOk,psOk,cOk,sliceC,sliceV,sliceVal,lenC,lJ,fzB,Col.isFz]), λhpre E G w hi hS=>?_⟩
  have hi_0:=hi _ (jC (i:=0) rfl)
  simp only [iOk,isOk,and_true,true_and] at hi_0
  obtain ⟨a_0,c_0,e_0,hr0⟩:=hi_0
  replace hr0:=And.intro hr0.1 hr0.2.1
  have l_0:=hr0.1.len
  simp only [lJ] at l_0
  subst l_0
  subst e_0
  exact entry_post Dg (by exact rfl) (cloneVals_calls _ _ _ hr0 (hpre _ (by simp)) hS)
 ·cases h
def T_cloneVals:List (Nat×Entry Sg):=(27,cloneVals_e)::T_nil
theorem T_cloneVals_ok:TableOk Dg Tryz.prog T_cloneVals:=TableOk.cons Dg cloneVals_ok T_nil_ok
def MK (xs:LI):LI:=xs
def Nh (r_:LI):List Value→Value:= λss=>ss.getD 0 undef
def Nj (r_:LI):List (Chunk Sg):=[]
def MZ (r_:LI):List (Mk Sg):=[.row 65 [.ints .u32 (r_)]]
section
variable (xs:LI) (a_0:Option Addr) (c_0:Nat)
def ND (xs:LI) (a_0:Option Addr) (c_0:Nat) (R_:LI→Prop):Prop:=(((mW a_0)=true→(R_ ([])))∧((mW a_0)=false→(∀b1_0:Nat,(((0+iF xs)*4≤140737488355328)∧(((0+iF xs)*4≤140737488355328)→(∀(b3_0:Option Nat) (b3_1:Nat),(R_ ([]++xs))))))))
theorem Oi {E_:Ev} {G_:Hp} {w_:World} (hr0:RowAt G_ a_0 xs.length [.ints .u32 xs]∧xs.length≤c_0) (hp0:xs.length*16≤140737488355328) (hS:Sat E_ G_ w_ []):Calls Tryz.prog 35 #[(.slice a_0 xs.length c_0)] w_ (Post Dg E_ G_ (Nh (MK xs)) (Nj (MK xs)) (MZ (MK xs))):=by
 have h:ND xs a_0 c_0 (λx=>x=(MK xs)):=by
  unfold ND
  refine ⟨λh=>?_, λ_ _=>⟨by simp only [lV];omega, λ_ _ _=>by simp [MK]⟩⟩
  cases a_0 with
  |some b=>simp at h
  |none=>
   have hz:=row_none hr0.1
   have hx:xs=[]:=lW hz
   subst hx
   rfl
 exact calls_post Dg T_cloneVals_ok (I:=[]) Tryz.func35 mix (B:=bodyOf Tryz.f35) (by kernel_rfl) [(.slice a_0 xs.length c_0)] [.pt 0 .slice] (by kernel_rfl) (objs:=[]) (ros:=[.ro a_0 xs.length c_0 [.ints .u32 xs]]) (psOk_cons (pOk_at rfl rfl) (psOk_nil)) (by kernel_rfl) (⟨hr0,trivial⟩) hS 400
  (t:=Tree.br (mW a_0) (Tree.ret (iH none 0 0) pn_ [jV a_0 (iF xs) c_0 [cu_ xs]]) (Tree.fresh λb=>Tree.need ((0+iF xs)*4≤140737488355328) (Tree.freshS λa cap=>Tree.ret (vs_ (ob_ a) (0+iF xs) cap) (ps_ 2) [jV a_0 (iF xs) c_0 [cu_ xs],Chunk.dead,kr_ a 65 (0+iF xs) cap [cu_ ([]++xs)]])))
  (by kernel_rfl)
  (⟨λz0=>RetOk.at (outf:=Nh) (nwf:=Nj) (rowsf:=MZ) (r:=[]) (h.1 z0) ⟨[(none,0,0,none)],[1000],(by decide),rfl,rfl,⟨.inr (by kernel_rfl),trivial⟩⟩, λz0=> λb1_0=>⟨((h.2 z0) b1_0).1, λz2=> λb3_0 b3_1=>RetOk.at (outf:=Nh) (nwf:=Nj) (rowsf:=MZ) (r:=[]++xs) ((((h.2 z0) b1_0).2 z2) b3_0 b3_1) ⟨[(b3_0,0+iF xs,b3_1,none)],[2],(by decide),rfl,rfl,⟨.inl rfl,trivial⟩⟩⟩⟩)
end
def Np:Entry Sg:= λ
 |[(_, .row n_0 [.ints .u32 xs])]=>some ⟨(MK xs), λ(r_:LI)=>⟨[(xs.length*16≤140737488355328:Prop)],none,[.row 65 [.ints .u32 (r_)]], λss=>ss.getD 0 undef, λk_=> .pt k_ .slice⟩⟩
 |_=>none
theorem OE:EntryOk Dg Tryz.prog 35 Np:=by
 intro args c r h hr_
 unfold Np at h
 split at h
 ·injection h with h;subst h;subst hr_
  refine ⟨(by
  intro K acs hl
  match acs,hl with
  |[a0_],hl=>
   simp only [acsOk,acOk] at hl
   simp [pOk,psOk,cOk,sliceC,sliceV,sliceVal,lenC,lJ,fzB,Col.isFz]), λhpre E G w hi hS=>?_⟩
  have hi_0:=hi _ (jC (i:=0) rfl)
  simp only [iOk,isOk,and_true,true_and] at hi_0
  obtain ⟨a_0,c_0,e_0,hr0⟩:=hi_0
  replace hr0:=And.intro hr0.1 hr0.2.1
  have l_0:=hr0.1.len
  simp only [lJ] at l_0
  subst l_0
  subst e_0
  exact entry_post Dg (by exact rfl) (Oi _ _ _ hr0 (hpre _ (by simp)) hS)
 ·cases h
def NQ:List (Nat×Entry Sg):=(35,Np)::T_cloneVals
theorem Nr:TableOk Dg Tryz.prog NQ:=TableOk.cons Dg OE T_cloneVals_ok
def clonePairs (xs ys:LI):LI×LI:=(xs,ys)
def clonePairs_out (r_:LI×LI):List Value→Value:= λss=>ss.getD 0 undef
def clonePairs_nw (r_:LI×LI):List (Chunk Sg):=[]
def clonePairs_rows (r_:LI×LI):List (Mk Sg):=[.row 88 [.ints .i64 (r_.1), .ints .u32 (r_.2)]]
section
variable (xs ys:LI) (a_0:Option Addr) (c_0:Nat)
def clonePairs_wp0 (xs ys:LI) (a_0:Option Addr) (c_0:Nat) (R_:LI×LI→Prop):Prop:=(((mW a_0)=true→(R_ (([],[]))))∧((mW a_0)=false→(∀b1_0:Nat,(((0+iF xs)*16≤140737488355328)∧(((0+iF xs)*16≤140737488355328)→(∀(b3_0:Option Nat) (b3_1:Nat),(R_ (([]++xs,[]++ys)))))))))
theorem clonePairs_calls {E_:Ev} {G_:Hp} {w_:World} (hr0:RowAt G_ a_0 xs.length [.ints .i64 xs, .ints .u32 ys]∧xs.length≤c_0) (hp0:xs.length*16≤140737488355328) (hS:Sat E_ G_ w_ []):Calls Tryz.prog 34 #[(.slice a_0 xs.length c_0)] w_ (Post Dg E_ G_ (clonePairs_out (clonePairs xs ys)) (clonePairs_nw (clonePairs xs ys)) (clonePairs_rows (clonePairs xs ys))):=by
 have h:clonePairs_wp0 xs ys a_0 c_0 (λx=>x=(clonePairs xs ys)):=by
  unfold clonePairs_wp0
  refine ⟨λh=>?_, λ_ _=>⟨by simp only [lV];omega, λ_ _ _=>by simp [clonePairs]⟩⟩
  cases a_0 with
  |some b=>simp at h
  |none=>
   have hz:=row_none hr0.1
   have hx:xs=[]:=lW hz
   have hy:ys=[]:=lW (row_two hr0.1▸hz)
   subst hx;subst hy
   rfl
 exact calls_post Dg Nr (I:=[]) Tryz.func34 mix (B:=bodyOf Tryz.f34) (by kernel_rfl) [(.slice a_0 xs.length c_0)] [.pt 0 .slice] (by kernel_rfl) (objs:=[]) (ros:=[.ro a_0 xs.length c_0 [.ints .i64 xs, .ints .u32 ys]]) (psOk_cons (pOk_at rfl rfl) (psOk_nil)) (by kernel_rfl) (⟨hr0,trivial⟩) hS 400
  (t:=Tree.br (mW a_0) (Tree.ret (iH none 0 0) pn_ [jV a_0 (iF xs) c_0 [ci_ xs,cu_ ys]]) (Tree.fresh λb=>Tree.need ((0+iF xs)*16≤140737488355328) (Tree.freshS λa cap=>Tree.ret (vs_ (ob_ a) (0+iF xs) cap) (ps_ 2) [jV a_0 (iF xs) c_0 [ci_ xs,cu_ ys],Chunk.dead,kr_ a 88 (0+iF xs) cap [ci_ ([]++xs),cu_ ([]++ys)]])))
  (by kernel_rfl)
  (⟨λz0=>RetOk.at (outf:=clonePairs_out) (nwf:=clonePairs_nw) (rowsf:=clonePairs_rows) (r:=([],[])) (h.1 z0) ⟨[(none,0,0,none)],[1000],(by decide),rfl,rfl,⟨.inr (by kernel_rfl),trivial⟩⟩, λz0=> λb1_0=>⟨((h.2 z0) b1_0).1, λz2=> λb3_0 b3_1=>RetOk.at (outf:=clonePairs_out) (nwf:=clonePairs_nw) (rowsf:=clonePairs_rows) (r:=([]++xs,[]++ys)) ((((h.2 z0) b1_0).2 z2) b3_0 b3_1) ⟨[(b3_0,0+iF xs,b3_1,none)],[2],(by decide),rfl,rfl,⟨.inl rfl,trivial⟩⟩⟩⟩)
end
def clonePairs_e:Entry Sg:= λ
 |[(_, .row n_0 [.ints .i64 xs, .ints .u32 ys])]=>some ⟨(clonePairs xs ys), λ(r_:LI×LI)=>⟨[(xs.length*16≤140737488355328:Prop)],none,[.row 88 [.ints .i64 (r_.1), .ints .u32 (r_.2)]], λss=>ss.getD 0 undef, λk_=> .pt k_ .slice⟩⟩
 |_=>none
theorem clonePairs_ok:EntryOk Dg Tryz.prog 34 clonePairs_e:=by
 intro args c r h hr_
 unfold clonePairs_e at h
 split at h
 ·injection h with h;subst h;subst hr_
  refine ⟨(by
  intro K acs hl
  match acs,hl with
  |[a0_],hl=>
   simp only [acsOk,acOk] at hl
   simp [pOk,psOk,cOk,sliceC,sliceV,sliceVal,lenC,lJ,fzB,Col.isFz]), λhpre E G w hi hS=>?_⟩
  have hi_0:=hi _ (jC (i:=0) rfl)
  simp only [iOk,isOk,and_true,true_and] at hi_0
  obtain ⟨a_0,c_0,e_0,hr0⟩:=hi_0
  replace hr0:=And.intro hr0.1 hr0.2.1
  have l_0:=hr0.1.len
  simp only [lJ] at l_0
  subst l_0
  subst e_0
  exact entry_post Dg (by exact rfl) (clonePairs_calls _ _ _ _ hr0 (hpre _ (by simp)) hS)
 ·cases h
def T_clonePairs:List (Nat×Entry Sg):=(34,clonePairs_e)::NQ
theorem T_clonePairs_ok:TableOk Dg Tryz.prog T_clonePairs:=TableOk.cons Dg clonePairs_ok Nr
end
section
open Go.Sl
def view_Get (s:VS) (i:Int):VS×Int:=(s.read i,s.get i)
abbrev c_view_Get:Ct Sg:=⟨some wView,false,[.i .i64], .i .u32⟩
def e_view_Get:Entry Sg:=entC c_view_Get (λ(s:VS) (i:Int)=>(s.read i,s.get i)) (λ_ _=>[])
def view_Get_w (s:VS) (i n:Int) (nw:Nat) (vals:LI) (fr:IMap) (nr:Nat) (reads:LI) (fp:IMap) (nq:Nat) (qc qv:LI) (miss:Int) (stuck:Bool) (R_:VS×Int→Prop) (O_:Int→Nat→LI→IMap→Nat→LI→IMap→Nat→LI→LI→Int→Bool→Int→Prop):Prop:=(bw_ (!(true&&decide (i≥0)&&decide (i<n)&&!stuck)) (O_ (n) (nw) (vals) (fr) (nr) (reads) (fp) (nq) (qc) (qv) (miss) (stuck) (0)) (bw_ (Option.isSome (fp i)) (aw_ (0≤kS (fp i) 0∧kS (fp i) 0<(↑nq:Int)) (O_ (n) (nw) (vals) (fr) (nr) (reads) (fp) (nq) (qc) (qv) (miss) (stuck) (iI qv (iL (kS (fp i) 0)) 0))) (aw_ (0≤i∧i<(↑nw:Int)) (bw_ (false) (O_ (n) (nw) (vals) (fr) (nr) (reads) (fp) (nq) (qc) (qv) (i) (true) (0)) (bw_ (kS (fr i) (0:Int)==0) (aw_ ((nr+1)*8≤140737488355328) (O_ (n) (nw) (vals) (mupd fr i 1) (nr+1) (reads++[i]) (fp) (nq) (qc) (qv) (miss) (stuck) (iI vals (iL i) 0))) (O_ (n) (nw) (vals) (fr) (nr) (reads) (fp) (nq) (qc) (qv) (miss) (stuck) (iI vals (iL i) 0)))))))
theorem view_Get_begin (s:VS) (i n:Int) (nw:Nat) (vals:LI) (fr:IMap) (nr:Nat) (reads:LI) (fp:IMap) (nq:Nat) (qc qv:LI) (miss:Int) (stuck:Bool) (hx:VOk ⟨n,nw,vals,fr,nr,reads,fp,nq,qc,qv,miss,stuck⟩ (s)):view_Get_w s i n nw vals fr nr reads fp nq qc qv miss stuck (λr__=>r__=(view_Get s i)) (λn_ nw_ vals_ fr_ nr_ reads_ fp_ nq_ qc_ qv_ miss_ stuck_ r_=>VOk ⟨n_,nw_,vals_,fr_,nr_,reads_,fp_,nq_,qc_,qv_,miss_,stuck_⟩ ((view_Get s i).1)∧r_=(view_Get s i).2):=by
 have key:∀x:VX,VOk x s→view_Get_w s i x.n x.nw x.vals x.fr x.nr x.reads x.fp x.nq x.qc x.qv x.miss x.stuck (λr__=>r__=(view_Get s i)) (λn_ nw_ vals_ fr_ nr_ reads_ fp_ nq_ qc_ qv_ miss_ stuck_ r_=>VOk ⟨n_,nw_,vals_,fr_,nr_,reads_,fp_,nq_,qc_,qv_,miss_,stuck_⟩ ((view_Get s i).1)∧r_=(view_Get s i).2):=by
  intro x ho
  unfold view_Get_w
  have hb:=ho.bound
  rw [ho.there i]
  cases ht:s.there i with
  |false=>
   refine ⟨λ_=>⟨?_,?_⟩, λh=>by cases h⟩
   ·simp only [view_Get,VS.read,ht,cond_false];exact ho
   ·simp only [view_Get,VS.get,ht,cond_false]
  |true=>
   refine ⟨λh=>(by cases h), λ_=>?_⟩
   obtain ⟨h0,h1⟩:=VS.thereOf ht
   rw [ho.n] at h1
   cases hq:x.qc.idxOf? i with
   |some j=>
    obtain ⟨e1,e2,e3,e4,e5⟩:=ho.putSome hq
    rw [e1]
    refine ⟨λ_=>⟨by simp only [lA];omega, λ_=>⟨?_,?_⟩⟩, λh=>by simp at h⟩
    ·simp only [view_Get,VS.read,ht,e2,cond_true];exact ho
    ·simp only [view_Get,VS.get,ht,e2,cond_true,lA,e5,kT]
   |none=>
    obtain ⟨e1,e2⟩:=ho.putNone hq
    rw [e1]
    have hl:=ho.len
    have hw:=ho.nw
    have hs:=ho.src i h0 h1
    have hin:i.toNat<x.vals.length:=by omega
    have hv:nv (x.vals.getD i.toNat 0)=x.vals.getD i.toNat 0:=nv_id (ho.bv _ (getD_mem hin))
    refine ⟨λh=>(by simp at h), λ_=>⟨by omega, λ_=>⟨λh=>(by simp at h), λ_=>?_⟩⟩⟩
    rw [ho.readIs]
    cases hc:s.reads.contains i with
    |false=>
     refine ⟨λ_=>⟨by omega, λ_=>⟨?_,?_⟩⟩, λh=>by cases h⟩
     ·simp only [view_Get,VS.read,ht,e2,hs,hc,cond_true,cond_false]
      exact ho.more h0 h1 hc
     ·simp only [view_Get,VS.get,ht,e2,hs,cond_true,hv]
    |true=>
     refine ⟨λh=>(by cases h), λ_=>⟨?_,?_⟩⟩
     ·simp only [view_Get,VS.read,ht,e2,hs,hc,cond_true];exact ho
     ·simp only [view_Get,VS.get,ht,e2,hs,cond_true,hv]
 exact key ⟨n,nw,vals,fr,nr,reads,fp,nq,qc,qv,miss,stuck⟩ hx
theorem view_Get_ok:EOk 44 e_view_Get:=
 ent_ob Dg bxV_ok true T_clonePairs_ok (I:=[67,181]) Tryz.func44 mix (B:=bodyOf Tryz.f44) (by kernel_rfl) rfl (by kernel_rfl) 400
  λo s i hb hp=>⟨s,(view_Get s i).1,(view_Get s i).2,[],[], λj=>iI [] j (λ_=>False), λj=>iI [] j (λ_=>(0,0,0)),by kernel_rfl, λ_ _=>by kernel_rfl,by kernel_rfl, λn nw vals fr nr reads fp nq qc qv miss stuck hx=>⟨view_Get_w s i n nw vals fr nr reads fp nq qc qv miss stuck (λr__=>r__=(view_Get s i)) (λn_ nw_ vals_ fr_ nr_ reads_ fp_ nq_ qc_ qv_ miss_ stuck_ r_=>VOk ⟨n_,nw_,vals_,fr_,nr_,reads_,fp_,nq_,qc_,qv_,miss_,stuck_⟩ ((view_Get s i).1)∧r_=(view_Get s i).2), λ_ _ _ _=>by kernel_rfl,view_Get_begin s i n nw vals fr nr reads fp nq qc qv miss stuck hx⟩,trivial⟩
def T_view_Get:Tb:=(44,e_view_Get)::T_clonePairs
theorem T_view_Get_ok:TOk T_view_Get:=tc_ view_Get_ok T_clonePairs_ok
def view_Put (s:VS) (i v:Int):VS:=s.set i v
abbrev c_view_Put:Ct Sg:=⟨some wView,false,[.i .i64, .i .u32], .skip⟩
def e_view_Put:Entry Sg:=entC c_view_Put (λ(s:VS) (i:Int) (v:Int)=>s.set i v) (λs i v=>[bd32 v])
def view_Put_w (s:VS) (i v n:Int) (nw:Nat) (vals:LI) (fr:IMap) (nr:Nat) (reads:LI) (fp:IMap) (nq:Nat) (qc qv:LI) (miss:Int) (stuck:Bool) (R_:VS→Prop) (O_:Int→Nat→LI→IMap→Nat→LI→IMap→Nat→LI→LI→Int→Bool→Unit→Prop):Prop:=(bw_ (!(true&&decide (i≥0)&&decide (i<n)&&!stuck)) (O_ (n) (nw) (vals) (fr) (nr) (reads) (fp) (nq) (qc) (qv) (miss) (stuck) (())) (bw_ (!Option.isSome (fp i)) (aw_ ((nq+1)*16≤140737488355328) (aw_ (0≤(↑nq:Int)∧(↑nq:Int)<(↑(nq+1):Int)) (O_ (n) (nw) (vals) (fr) (nr) (reads) (mupd fp i (↑nq:Int)) (nq+1) (qc++[i]) (mO (qv++[0]) (iL (↑nq:Int)) v) (miss) (stuck) (())))) (aw_ (0≤kS (fp i) 0∧kS (fp i) 0<(↑nq:Int)) (O_ (n) (nw) (vals) (fr) (nr) (reads) (fp) (nq) (qc) (mO qv (iL (kS (fp i) 0)) v) (miss) (stuck) (())))))
theorem view_Put_begin (s:VS) (i v n:Int) (nw:Nat) (vals:LI) (fr:IMap) (nr:Nat) (reads:LI) (fp:IMap) (nq:Nat) (qc qv:LI) (miss:Int) (stuck:Bool) (hp0:bd32 v) (hx:VOk ⟨n,nw,vals,fr,nr,reads,fp,nq,qc,qv,miss,stuck⟩ (s)):view_Put_w s i v n nw vals fr nr reads fp nq qc qv miss stuck (λr__=>r__=(view_Put s i v)) (λn_ nw_ vals_ fr_ nr_ reads_ fp_ nq_ qc_ qv_ miss_ stuck_ r_=>VOk ⟨n_,nw_,vals_,fr_,nr_,reads_,fp_,nq_,qc_,qv_,miss_,stuck_⟩ ((view_Put s i v))∧r_=()):=by
 have key:∀x:VX,VOk x s→view_Put_w s i v x.n x.nw x.vals x.fr x.nr x.reads x.fp x.nq x.qc x.qv x.miss x.stuck (λr__=>r__=(view_Put s i v)) (λn_ nw_ vals_ fr_ nr_ reads_ fp_ nq_ qc_ qv_ miss_ stuck_ r_=>VOk ⟨n_,nw_,vals_,fr_,nr_,reads_,fp_,nq_,qc_,qv_,miss_,stuck_⟩ ((view_Put s i v))∧r_=()):=by
  intro x ho
  unfold view_Put_w
  have hb:=ho.bound
  rw [ho.there i]
  cases ht:s.there i with
  |false=>
   refine ⟨λ_=>⟨?_,rfl⟩, λh=>by cases h⟩
   simp only [view_Put,VS.set,ht,cond_false];exact ho
  |true=>
   refine ⟨λh=>(by cases h), λ_=>?_⟩
   obtain ⟨h0,h1⟩:=VS.thereOf ht
   rw [ho.n] at h1
   cases hq:x.qc.idxOf? i with
   |some j=>
    obtain ⟨e1,e2,e3,e4,e5⟩:=ho.putSome hq
    rw [e1]
    refine ⟨λh=>(by simp at h), λ_=>⟨by simp only [lA];omega, λ_=>⟨?_,rfl⟩⟩⟩
    simp only [view_Put,VS.set,ht,e2,cond_true,Option.isSome_some]
    exact ho.putOld hp0 hq
   |none=>
    obtain ⟨e1,e2⟩:=ho.putNone hq
    have e:=ho.putNew h0 h1 hp0 hq
    rw [e1]
    refine ⟨λ_=>⟨by omega, λ_=>⟨by omega, λ_=>⟨?_,rfl⟩⟩⟩, λh=>by simp at h⟩
    simp only [view_Put,VS.set,ht,e2,cond_true,Option.isSome_none,cond_false]
    exact e
 exact key ⟨n,nw,vals,fr,nr,reads,fp,nq,qc,qv,miss,stuck⟩ hx
theorem view_Put_ok:EOk 75 e_view_Put:=
 ent_ob Dg bxV_ok true T_view_Get_ok (I:=[67,181]) Tryz.func75 mix (B:=bodyOf Tryz.f75) (by kernel_rfl) rfl (by kernel_rfl) 400
  λo s i v hb hp=>have hp0:bd32 v:=hp _ (.head _);⟨s,(view_Put s i v),(),[],[], λj=>iI [] j (λ_=>False), λj=>iI [] j (λ_=>(0,0,0)),by kernel_rfl, λ_ _=>by kernel_rfl,by kernel_rfl, λn nw vals fr nr reads fp nq qc qv miss stuck hx=>⟨view_Put_w s i v n nw vals fr nr reads fp nq qc qv miss stuck (λr__=>r__=(view_Put s i v)) (λn_ nw_ vals_ fr_ nr_ reads_ fp_ nq_ qc_ qv_ miss_ stuck_ r_=>VOk ⟨n_,nw_,vals_,fr_,nr_,reads_,fp_,nq_,qc_,qv_,miss_,stuck_⟩ ((view_Put s i v))∧r_=()), λ_ _ _ _=>by kernel_rfl,view_Put_begin s i v n nw vals fr nr reads fp nq qc qv miss stuck hp0 hx⟩,trivial⟩
def T_view_Put:Tb:=(75,e_view_Put)::T_view_Get
theorem T_view_Put_ok:TOk T_view_Put:=tc_ view_Put_ok T_view_Get_ok
def T_view_Writes:Tb:=T_view_Put
theorem T_view_Writes_ok:TOk T_view_Writes:=T_view_Put_ok
def view_Whole (xs:LI):VS:=VS.whole xs
abbrev c_view_Whole:Ct Sg:=⟨none,false,[.ro [some .u32]], .nobj wView⟩
def e_view_Whole:Entry Sg:=entC c_view_Whole (λ(xs:LI)=>VS.whole xs) (λxs=>[xs.length≤1000000,bdL xs])
def view_Whole_w (xs:LI) (O_:Int→Nat→LI→IMap→Nat→LI→IMap→Nat→LI→LI→Int→Bool→Prop):Prop:=(∀r0:LI,r0=(cloneVals xs)→(aw_ (iF xs*16≤140737488355328) (O_ ((↑(iF r0):Int)) (iF r0) (r0) (mnil) (0) ([]) (mnil) (0) ([]) ([]) ((-1)) (false))))
theorem view_Whole_begin (xs:LI) (hp0:xs.length≤1000000) (hp1:bdL xs) (hl0:xs.length≤9223372036854775807):view_Whole_w xs (λn_ nw_ vals_ fr_ nr_ reads_ fp_ nq_ qc_ qv_ miss_ stuck_=>VOk ⟨n_,nw_,vals_,fr_,nr_,reads_,fp_,nq_,qc_,qv_,miss_,stuck_⟩ ((view_Whole xs))):=by
 unfold view_Whole_w
 intro r0 e
 rw [show r0=xs from e]
 refine ⟨by omega, λ_=>?_⟩
 exact {n:=rfl,nr:=rfl,nq:=rfl,all:=rfl,nw:=rfl,len:=rfl
        src:= λi h0 h1=>by
         have e1:decide (0≤i)=true:=by simpa using h0
         have e2:decide (i<(xs.length:Int))=true:=by simpa using h1
         simp only [VS.whole,view_Whole,e1,e2,nG,cond_true]
        bv:=hp1,reads:=rfl,fr:= λi=>rfl,wrote:=rfl,ql:=rfl,fp:= λi=>rfl,put:= λi=>rfl
        bq:= λv h=>by cases h
        miss:=rfl
        m0:= λh=>by cases h
        rl:=by simp
        wl:=by simp
        rn:=List.nodup_nil
        wn:=List.nodup_nil
        ri:= λi h=>by cases h
        wi:= λi h=>by cases h
        nb:=by show (xs.length:Int)≤1000000;omega}
theorem view_Whole_ok:EOk 8 e_view_Whole:=
 ent_nw Dg bxV_ok T_view_Writes_ok (I:=[28]) Tryz.func8 mix (B:=bodyOf Tryz.f8) (by kernel_rfl) rfl (by kernel_rfl) 400
  λp0 xs hb hp=>have hl0:xs.length≤9223372036854775807:=hb.1;have hp0:xs.length≤1000000:=hp _ (.head _);have hp1:bdL xs:=hp _ (.tail _ (.head _));⟨(view_Whole xs),[],[], λj=>iI [] j (λ_=>False), λj=>iI [] j (λ_=>(0,0,0)),by kernel_rfl, λ_=>rfl,by kernel_rfl,by kernel_rfl,⟨_, λ_ _ _=>by kernel_rfl,view_Whole_begin xs hp0 hp1 hl0⟩,trivial⟩
def T_view_Whole:Tb:=(8,e_view_Whole)::T_view_Writes
theorem T_view_Whole_ok:TOk T_view_Whole:=tc_ view_Whole_ok T_view_Writes_ok
def MB (s:VS):LI:=s.vals
abbrev OT:Ct Sg:=⟨some wView,true,[], .new 65 [some .u32]⟩
def NR:Entry Sg:=entC OT (λ(s:VS)=>s.vals) (λ_=>[])
def Nc (s:VS) (n:Int) (nw:Nat) (vals:LI) (fr:IMap) (nr:Nat) (reads:LI) (fp:IMap) (nq:Nat) (qc qv:LI) (miss:Int) (stuck:Bool) (Q0:Int→Nat→LI→IMap→Nat→LI→IMap→Nat→LI→LI→Int→Bool→Int→Int→Nat→Nat→LI→Prop) (R_:LI→Prop) (O_:Int→Nat→LI→IMap→Nat→LI→IMap→Nat→LI→LI→Int→Bool→LI→Prop):Prop:=(bw_ (false) (O_ (n) (nw) (vals) (fr) (nr) (reads) (fp) (nq) (qc) (qv) (miss) (stuck) ([])) (∀r1:LI,r1=(MK vals)→(aw_ (iF vals*16≤140737488355328) (Q0 (n) (nw) (vals) (fr) (nr) (reads) (fp) (nq) (qc) (qv) (miss) (stuck) (0) ((↑nq:Int)) (nq) (iF r1) (r1)))))
def NH (s:VS) (n:Int) (nw:Nat) (vals:LI) (fr:IMap) (nr:Nat) (reads:LI) (fp:IMap) (nq:Nat) (qc qv:LI) (miss:Int) (stuck:Bool) (i q:Int) (m k:Nat) (xs:LI) (Q0:Int→Nat→LI→IMap→Nat→LI→IMap→Nat→LI→LI→Int→Bool→Int→Int→Nat→Nat→LI→Prop) (R_:LI→Prop) (O_:Int→Nat→LI→IMap→Nat→LI→IMap→Nat→LI→LI→Int→Bool→LI→Prop):Prop:=(bw_ (decide (i<q)) (aw_ (0≤i∧i<(↑m:Int)) (bw_ (decide (iI qc (iL i) 0<(↑k:Int))) (aw_ (0≤iI qc (iL i) 0∧iI qc (iL i) 0<(↑k:Int)) (Q0 (n) (nw) (vals) (fr) (nr) (reads) (fp) (nq) (qc) (qv) (miss) (stuck) (iA iB (i+1)) (q) (m) (k) (mO xs (iL (iI qc (iL i) 0)) (iI qv (iL i) 0)))) (Q0 (n) (nw) (vals) (fr) (nr) (reads) (fp) (nq) (qc) (qv) (miss) (stuck) (iA iB (i+1)) (q) (m) (k) (xs)))) (O_ (n) (nw) (vals) (fr) (nr) (reads) (fp) (nq) (qc) (qv) (miss) (stuck) (xs)))
def LX (s:VS) (n:Int) (nw:Nat) (vals:LI) (fr:IMap) (nr:Nat) (reads:LI) (fp:IMap) (nq:Nat) (qc qv:LI) (miss:Int) (stuck:Bool) (i q:Int) (m k:Nat) (xs:LI):Prop:=VOk ⟨n,nw,vals,fr,nr,reads,fp,nq,qc,qv,miss,stuck⟩ s∧q=nq∧m=nq∧0≤i∧i≤nq∧xs=putsUpto vals qc qv i.toNat∧k=vals.length
theorem Oj (s:VS) (n:Int) (nw:Nat) (vals:LI) (fr:IMap) (nr:Nat) (reads:LI) (fp:IMap) (nq:Nat) (qc qv:LI) (miss:Int) (stuck:Bool) (hx:VOk ⟨n,nw,vals,fr,nr,reads,fp,nq,qc,qv,miss,stuck⟩ (s)):Nc s n nw vals fr nr reads fp nq qc qv miss stuck (λn' nw' vals' fr' nr' reads' fp' nq' qc' qv' miss' stuck' i' q' m' k' xs'=>LX s n' nw' vals' fr' nr' reads' fp' nq' qc' qv' miss' stuck' i' q' m' k' xs') (λr__=>r__=(MB s)) (λn_ nw_ vals_ fr_ nr_ reads_ fp_ nq_ qc_ qv_ miss_ stuck_ r_=>VOk ⟨n_,nw_,vals_,fr_,nr_,reads_,fp_,nq_,qc_,qv_,miss_,stuck_⟩ (s)∧r_=(MB s)):=by
 have key:∀x:VX,VOk x s→Nc s x.n x.nw x.vals x.fr x.nr x.reads x.fp x.nq x.qc x.qv x.miss x.stuck (λn' nw' vals' fr' nr' reads' fp' nq' qc' qv' miss' stuck' i' q' m' k' xs'=>LX s n' nw' vals' fr' nr' reads' fp' nq' qc' qv' miss' stuck' i' q' m' k' xs') (λr__=>r__=(MB s)) (λn_ nw_ vals_ fr_ nr_ reads_ fp_ nq_ qc_ qv_ miss_ stuck_ r_=>VOk ⟨n_,nw_,vals_,fr_,nr_,reads_,fp_,nq_,qc_,qv_,miss_,stuck_⟩ (s)∧r_=(MB s)):=by
  intro x ho
  unfold Nc
  try unfold LX
  have hwn:=ho.wl;have hnb:=ho.nb;have hl:=ho.len;have hnq:=ho.nq
  refine ⟨(λh=>by cases h), λ_ r1 e=>⟨by omega, λ_=>⟨ho,rfl,rfl,by omega,by omega,?_,?_⟩⟩⟩
  ·rw [e];rfl
  ·rw [e];rfl
 exact key ⟨n,nw,vals,fr,nr,reads,fp,nq,qc,qv,miss,stuck⟩ hx
theorem Ol (s:VS) (n:Int) (nw:Nat) (vals:LI) (fr:IMap) (nr:Nat) (reads:LI) (fp:IMap) (nq:Nat) (qc qv:LI) (miss:Int) (stuck:Bool) (i q:Int) (m k:Nat) (xs:LI) (hI:LX s n nw vals fr nr reads fp nq qc qv miss stuck i q m k xs):NH s n nw vals fr nr reads fp nq qc qv miss stuck i q m k xs (λn' nw' vals' fr' nr' reads' fp' nq' qc' qv' miss' stuck' i' q' m' k' xs'=>LX s n' nw' vals' fr' nr' reads' fp' nq' qc' qv' miss' stuck' i' q' m' k' xs'∧lx ((nq'-i').toNat,0,0) ((nq-i).toNat,0,0)) (λr__=>r__=(MB s)) (λn_ nw_ vals_ fr_ nr_ reads_ fp_ nq_ qc_ qv_ miss_ stuck_ r_=>VOk ⟨n_,nw_,vals_,fr_,nr_,reads_,fp_,nq_,qc_,qv_,miss_,stuck_⟩ (s)∧r_=(MB s)):=by
 unfold LX at hI
 unfold NH
 try unfold LX
 obtain ⟨ho,hq0,hm0,h0,h1,h2,h3⟩:=hI
 have hwl:∀j∈qc,0≤j∧j<vals.length:= λj hj=>by
  have a:0≤j∧j<n:=ho.wi j hj
  have b:n=vals.length:=ho.len
  exact ⟨a.1,by omega⟩
 have hnq:nq=qc.length:=ho.nq
 have hwn:qc.length≤n.toNat:=ho.wl
 have hnb:n≤1000000:=ho.nb
 refine ⟨λh=>?_, λh=>?_⟩
 ·simp only [decide_eq_true_eq] at h
  have hq:=hwl (qc.getD i.toNat 0) (getD_mem (by omega))
  rw [w64 (by omega)]
  refine ⟨by omega, λ_=>⟨λhc=>?_, λhc=>?_⟩⟩
  ·refine ⟨by omega, λ_=>⟨⟨ho,hq0,hm0,by omega,by omega,?_,h3⟩,lxo_⟩⟩
   rw [toNat_succ h0,putsUpto_succ,h2]
  ·simp only [decide_eq_false_iff_not] at hc
   omega
 ·simp only [decide_eq_false_iff_not] at h
  refine ⟨ho,?_⟩
  have e:i.toNat=qc.length:=by omega
  rw [h2,e]
  exact valsW_eq (x:=⟨n,nw,vals,fr,nr,reads,fp,nq,qc,qv,miss,stuck⟩) ho
theorem OG:EOk 12 NR:=
 ent_ob Dg bxV_ok true T_view_Whole_ok (I:=[67,181,1643000000000,1643000000018,1643000000017,1643000000016,1643000000003]) Tryz.func12 mix (B:=bodyOf Tryz.f12) (by kernel_rfl) rfl (by kernel_rfl) 400
  λo s hb hp=>⟨s,s,(MB s),[⟨none,[0,1,0,1,1,1],[.blk 0, .code [1,1,1,1]],[0,18,17,16,3],[.boxc o bxV.t bxV.l, .i .i64, .i .i64, .agn 5, .own 65 [some .u32]]⟩],[.run], λj=>iI [appC (Hd.kd (⟨none,[0,1,0,1,1,1],[.blk 0, .code [1,1,1,1]],[0,18,17,16,3],[.boxc o bxV.t bxV.l, .i .i64, .i .i64, .agn 5, .own 65 [some .u32]]⟩:Hd Sg)) (λn' nw' vals' fr' nr' reads' fp' nq' qc' qv' miss' stuck' i' q' m' k' xs'=>LX s n' nw' vals' fr' nr' reads' fp' nq' qc' qv' miss' stuck' i' q' m' k' xs')] j (λ_=>False), λj=>iI [appC (Hd.kd (⟨none,[0,1,0,1,1,1],[.blk 0, .code [1,1,1,1]],[0,18,17,16,3],[.boxc o bxV.t bxV.l, .i .i64, .i .i64, .agn 5, .own 65 [some .u32]]⟩:Hd Sg)) (λn' nw' vals' fr' nr' reads' fp' nq' qc' qv' miss' stuck' i' q' m' k' xs'=>((nq'-i').toNat,0,0))] j (λ_=>(0,0,0)),by kernel_rfl, λ_ _=>by kernel_rfl,by kernel_rfl, λn nw vals fr nr reads fp nq qc qv miss stuck hx=>⟨Nc s n nw vals fr nr reads fp nq qc qv miss stuck (λn' nw' vals' fr' nr' reads' fp' nq' qc' qv' miss' stuck' i' q' m' k' xs'=>LX s n' nw' vals' fr' nr' reads' fp' nq' qc' qv' miss' stuck' i' q' m' k' xs') (λr__=>r__=(MB s)) (λn_ nw_ vals_ fr_ nr_ reads_ fp_ nq_ qc_ qv_ miss_ stuck_ r_=>VOk ⟨n_,nw_,vals_,fr_,nr_,reads_,fp_,nq_,qc_,qv_,miss_,stuck_⟩ (s)∧r_=(MB s)), λ_ _ _ _=>by kernel_rfl,Oj s n nw vals fr nr reads fp nq qc qv miss stuck hx⟩,⟨λn nw vals fr nr reads fp nq qc qv miss stuck i q m k xs hI=>⟨_, λ_ _ _=>by kernel_rfl,Ol s n nw vals fr nr reads fp nq qc qv miss stuck i q m k xs hI⟩,trivial⟩⟩
def NS:Tb:=(12,NR)::T_view_Whole
theorem Ns:TOk NS:=tc_ OG T_view_Whole_ok
end
end Go.Proofs.YtinpgnomkmmfdaaGreat
namespace Go.Sl
section
inductive Pg (α:Type) where
 |ret (a:α)
 |get (i:Int) (k:Int→Pg α)
 |put (i x:Int) (k:Pg α)
def Pg.bind {α β:Type}:Pg α→(α→Pg β)→Pg β
 | .ret a,f=>f a
 | .get i k,f=> .get i λv=>(k v).bind f
 | .put i x k,f=> .put i x (k.bind f)
def Pg.run {α:Type}:Pg α→VS→VS×α
 | .ret a,s=>(s,a)
 | .get i k,s=>(k (s.get i)).run (s.read i)
 | .put i x k,s=>k.run (s.set i x)
theorem Pg.run_ret {α:Type} (a:α) (s:VS):(Pg.ret a).run s=(s,a):=rfl
theorem Pg.run_get {α:Type} (i:Int) (k:Int→Pg α) (s:VS):(Pg.get i k).run s=(k (s.get i)).run (s.read i):=rfl
theorem Pg.run_put {α:Type} (i x:Int) (k:Pg α) (s:VS):(Pg.put i x k).run s=k.run (s.set i x):=rfl
theorem Pg.run_bind {α β:Type} (p:Pg α) (f:α→Pg β):∀s,(p.bind f).run s=(f (p.run s).2).run (p.run s).1:=by
 induction p with
 |ret a=>intro s;rfl
 |get i k ih=>intro s;exact ih _ _
 |put i x k ih=>intro s;exact ih _
theorem Pg.run_cond {α:Type} (b:Bool) (p q:Pg α) (s:VS):(bif b then p else q).run s=bif b then p.run s else q.run s:=by cases b<;>rfl
end
section
structure Cf where
 t:Int
 p:Int
 s:Int
def Cf.ok (c:Cf):Bool:=(decide (1≤c.t)&&decide (c.t≤16))&&(decide (4≤c.p)&&decide (c.p≤1024))&&(decide (10≤c.s)&&decide (c.s≤20))
theorem Cf.ok_iff {c:Cf}:c.ok=true↔(1≤c.t∧c.t≤16)∧(4≤c.p∧c.p≤1024)∧10≤c.s∧c.s≤20:=by
 simp only [Cf.ok,iE,decide_eq_true_eq,and_assoc]
def Cf.page (c:Cf) (p:Int):Bool:=decide (0≤p)&&decide (p<c.p)
def Cf.pc (c:Cf) (p k:Int):Int:=bif c.ok&&c.page p then 30+4*c.t+6*p+k else-1
def Cf.info (c:Cf) (p:Int):Int:=c.pc p 0
def Cf.foot (c:Cf) (p:Int):Int:=c.pc p 1
def Cf.next (c:Cf) (p:Int):Int:=c.pc p 2
def Cf.prev (c:Cf) (p:Int):Int:=c.pc p 3
def Cf.slots (c:Cf) (p:Int):Int:=c.pc p 4
def Cf.taken (c:Cf) (p:Int):Int:=c.pc p 5
def Cf.cells (c:Cf):Int:=bif c.ok then 30+4*c.t+6*c.p else 0
def cBin (k:Int):Int:=bif decide (0≤k)&&decide (k<11) then 2+k else-1
def cRack (k:Int):Int:=bif decide (0≤k)&&decide (k<9) then 13+k else-1
def cRoot (k:Int):Int:=bif decide (0≤k)&&decide (k<8) then 22+k else-1
def Cf.done (c:Cf) (t f:Int):Int:=bif c.ok&&(decide (0≤t)&&decide (t<c.t))&&(decide (0≤f)&&decide (f<4)) then 30+4*t+f else-1
def iRight (k l c:Int):Bool:=
 bif k==0 then l==0&&c==0 else bif k==1||k==2 then decide (1≤l)&&decide (l≤1024)&&(c==0) else bif k==3 then l==1&&(decide (0≤c)&&decide (c≤8)) else false
def iVal (k l c:Int):Int:=bif iRight k l c then k+16*l+65536*c else 0
structure If where
 k:Int
 l:Int
 c:Int
def iGet (v:Int):If:=bif iRight (v%16) (v/16%4096) (v/65536) then ⟨v%16,v/16%4096,v/65536⟩ else ⟨0,0,0⟩
def logI (n:Int):Int:=if n<1 then-1 else (Nat.log2 n.toNat:Int)
def binOf (n:Int):Int:=bif decide (n>1024) then-1 else logI n
section
variable (c:Cf)
def pPush (head p:Int):Pg Unit:=
 bif c.page p then
  .get head λh=> .put (c.next p) h <| .put (c.prev p) 0 <|
   (bif h==0 then Pg.ret () else .put (c.prev (h-1)) (nv (p+1)) (.ret ())).bind λ_=> .put head (nv (p+1)) (.ret ())
 else .ret ()
def pPull (head p:Int):Pg Unit:=
 bif c.page p then
  .get (c.next p) λn=> .get (c.prev p) λb=>
   (bif b==0 then Pg.put head n (.ret ()) else .put (c.next (b-1)) n (.ret ())).bind λ_=>
   (bif n==0 then Pg.ret () else .put (c.prev (n-1)) b (.ret ())).bind λ_=>
   .put (c.next p) 0 <| .put (c.prev p) 0 (.ret ())
 else .ret ()
def pAdd (p n:Int):Pg Unit:=
 bif c.page p&&(decide (1≤n)&&decide (n≤c.p-p)) then
  .put (c.info p) (iVal 1 n 0) <| .put (c.foot (p+n-1)) (nv (p+1)) <| pPush c (cBin (binOf n)) p
 else .ret ()
def pFree (p:Int):Pg Int:= .get (c.info p) λv=> .ret (bif (iGet v).k==1 then (iGet v).l else 0)
def pInfo (p:Int):Pg (Int×Int×Int):= .get (c.info p) λv=> .ret ((iGet v).k,(iGet v).l,(iGet v).c)
def pDrop (p:Int):Pg Int:=
 bif c.page p then
  (pFree c p).bind λn=>(bif decide (0<n) then pPull c (cBin (binOf n)) p else .ret ()).bind λ_=> .ret n
 else .ret 0
def pFirst (n:Int):Nat→Int→Pg (Int×Bool)
 |0,_=> .ret (0,false)
 |f+1,p=>bif c.page p then
   (pFree c p).bind λl=>bif decide (n≤l) then .ret (p,true) else .get (c.next p) λq=>pFirst n f (q-1)
  else .ret (0,false)
def pBins:Nat→Int→Pg (Int×Bool)
 |0,_=> .ret (0,false)
 |f+1,k=>bif decide (k<11) then .get (cBin k) λq=>bif c.page (q-1) then .ret (q-1,true) else pBins f (k+1) else .ret (0,false)
def pFind (n:Int):Pg (Int×Bool):=
 bif decide (1≤n)&&decide (n≤c.p) then
  (Pg.get (cBin (binOf n)) λq=>pFirst c n c.p.toNat (q-1)).bind λr=>
    bif r.2 then .ret r else pBins c 12 (binOf n+1)
 else .ret (0,false)
def pCount (n:Int):Pg Unit:= .get 0 λv=> .put 0 (nv (v+n)) (.ret ())
end
end
end Go.Sl
namespace Go.Proofs.YtinpgnomkmmfdaaGreat
section
open Go.Sl
def SlLow_bytes0:ByteArray:=⟨⟨[0,1,2,2,3,3,3,3,4,4,4,4,4,4,4,4,5,5,5,5,5,5,5,5,5,5,5,5,5,5,5,5,6,6,6,6,6,6,6,6,6,6,6,6,6,6,6,6,6,6,6,6,6,6,6,6,6,6,6,6,6,6,6,6,7,7,7,7,7,7,7,7,7,7,7,7,7,7,7,7,7,7,7,7,7,7,7,7,7,7,7,7,7,7,7,7,7,7,7,7,7,7,7,7,7,7,7,7,7,7,7,7,7,7,7,7,7,7,7,7,7,7,7,7,7,7,7,7,8,8,8,8,8,8,8,8,8,8,8,8,8,8,8,8,8,8,8,8,8,8,8,8,8,8,8,8,8,8,8,8,8,8,8,8,8,8,8,8,8,8,8,8,8,8,8,8,8,8,8,8,8,8,8,8,8,8,8,8,8,8,8,8,8,8,8,8,8,8,8,8,8,8,8,8,8,8,8,8,8,8,8,8,8,8,8,8,8,8,8,8,8,8,8,8,8,8,8,8,8,8,8,8,8,8,8,8,8,8,8,8,8,8,8,8,8,8,8,8,8,8,8,8,8,8,8,8]⟩⟩
def half_field (x y:Int):Bool:=decide (x≥0)&&decide (y≥1)&&decide (y≤64)&&decide (x≤iA iB (64-y))
abbrev c_half_field:Ct Sg:=⟨none,false,[.i .i64, .i .i64], .b⟩
def e_half_field:Entry Sg:=entC c_half_field half_field (λ_ _=>[])
theorem half_field_ok:EOk 103 e_half_field:=
 ent_ok Dg Ns (I:=[]) Tryz.func103 mix (B:=bodyOf Tryz.f103) (by kernel_rfl) rfl (by kernel_rfl) 400
  λ_ x y hb hp=>⟨(half_field x y), .t, λ_ _ _=>by kernel_rfl,trivial,rfl⟩
def T_half_field:Tb:=(103,e_half_field)::NS
theorem T_half_field_ok:TOk T_half_field:=tc_ half_field_ok Ns
def half_mask (x:Int):Int:=jS 18446744073709551615 (2^min (iL (iA iB (64-x))) 64)
abbrev c_half_mask:Ct Sg:=⟨none,false,[.i .i64], .i .u64⟩
def e_half_mask:Entry Sg:=entC c_half_mask half_mask (λx=>[0≤iA iB (64-x)])
theorem half_mask_ok:EOk 104 e_half_mask:=
 ent_ok Dg T_half_field_ok (I:=[]) Tryz.func104 mix (B:=bodyOf Tryz.f104) (by kernel_rfl) rfl (by kernel_rfl) 400
  λ_ x hb hp=>have hp0:0≤iA iB (64-x):=hp _ (.head _);⟨(half_mask x),(.need (0≤iA iB (64-x)) .t), λ_ _ _=>by kernel_rfl,⟨(by exact hp0), λz0=>trivial⟩,rfl⟩
def T_half_mask:Tb:=(104,e_half_mask)::T_half_field
theorem T_half_mask_ok:TOk T_half_mask:=tc_ half_mask_ok T_half_field_ok
theorem half_field_iff {x y:Int}:half_field x y=true↔0≤x∧1≤y∧y≤64∧x≤64-y:=by
 simp only [half_field,iE,decide_eq_true_eq,nQ]
 omega
theorem half_need1 {x y:Int} (h:(!half_field x y)=false):0≤iA iB (64-y):=by
 have:=half_field_iff.1 (by simpa using h)
 rw [nQ];omega
theorem half_need2 {x y:Int} {b:Bool} (h:(!half_field x y||b)=false):0≤iA iB (64-y):=half_need1 (jH.1 h).1
theorem half_need3 {x y:Int} {b:Bool} (h:(!half_field x y||b)=false):0≤x:=(half_field_iff.1 (by simpa using (jH.1 h).1)).1
theorem half_need4 {x y:Int} (h:(!half_field x y)=false):0≤x:=(half_field_iff.1 (by simpa using h)).1
def half_Put (w x y v:Int):Int×Bool:=(bif !half_field x y||decide (v>half_mask y) then (0,false) else (iA lQ (↑(kN (iP 64 (iA lQ (↑(kN (iP 64 w &&& ~~~iP 64 (iA lQ (half_mask y*2^min (iL x) 64)))):Int)) ||| iP 64 (iA lQ (v*2^min (iL x) 64)))):Int),true))
abbrev c_half_Put:Ct Sg:=⟨none,false,[.i .u64, .i .i64, .i .i64, .i .u64], .tup [.i .u64, .b]⟩
def e_half_Put:Entry Sg:=entC c_half_Put half_Put (λ_ _ _ _=>[])
theorem half_Put_ok:EOk 157 e_half_Put:=
 ent_ok Dg T_half_mask_ok (I:=[]) Tryz.func157 mix (B:=bodyOf Tryz.f157) (by kernel_rfl) rfl (by kernel_rfl) 400
  λ_ w x y v hb hp=>⟨(half_Put w x y v),(.need ((!half_field x y)=false→0≤iA iB (64-y)) (.br (!half_field x y||decide (v>half_mask y)) .t (.need (0≤iA iB (64-y)) (.need (0≤x) (.need (0≤x) .t))))), λ_ _ _=>by kernel_rfl,⟨(by first|exact half_need1 (by assumption)|exact half_need2 (by assumption)|exact half_need3 (by assumption)|(intro h_;first|exact half_need1 h_|exact half_need2 h_|exact half_need3 h_)), λz0=>⟨λz1=>trivial, λz1=>⟨(by first|exact half_need1 (by assumption)|exact half_need2 (by assumption)|exact half_need3 (by assumption)|(intro h_;first|exact half_need1 h_|exact half_need2 h_|exact half_need3 h_)), λz2=>⟨(by first|exact half_need1 (by assumption)|exact half_need2 (by assumption)|exact half_need3 (by assumption)|(intro h_;first|exact half_need1 h_|exact half_need2 h_|exact half_need3 h_)), λz3=>⟨(by first|exact half_need1 (by assumption)|exact half_need2 (by assumption)|exact half_need3 (by assumption)|(intro h_;first|exact half_need1 h_|exact half_need2 h_|exact half_need3 h_)), λz4=>trivial⟩⟩⟩⟩⟩,rfl⟩
def T_half_Put:Tb:=(157,e_half_Put)::T_half_mask
theorem T_half_Put_ok:TOk T_half_Put:=tc_ half_Put_ok T_half_mask_ok
def half_Get (w x y:Int):Int:=(bif !half_field x y then 0 else iA lQ (↑(kN (iP 64 (jS w (2^min (iL x) 64)) &&& iP 64 (half_mask y))):Int))
abbrev c_half_Get:Ct Sg:=⟨none,false,[.i .u64, .i .i64, .i .i64], .i .u64⟩
def e_half_Get:Entry Sg:=entC c_half_Get half_Get (λ_ _ _=>[])
theorem half_Get_ok:EOk 65 e_half_Get:=
 ent_ok Dg T_half_Put_ok (I:=[]) Tryz.func65 mix (B:=bodyOf Tryz.f65) (by kernel_rfl) rfl (by kernel_rfl) 400
  λ_ w x y hb hp=>⟨(half_Get w x y),(.br (!half_field x y) .t (.need (0≤x) (.need (0≤iA iB (64-y)) .t))), λ_ _ _=>by kernel_rfl,⟨λz0=>trivial, λz0=>⟨(by first|exact half_need1 (by assumption)|exact half_need4 (by assumption)), λz1=>⟨(by first|exact half_need1 (by assumption)|exact half_need4 (by assumption)), λz2=>trivial⟩⟩⟩,rfl⟩
def T_half_Get:Tb:=(65,e_half_Get)::T_half_Put
theorem T_half_Get_ok:TOk T_half_Get:=tc_ half_Get_ok T_half_Put_ok
def half_Lo (w:Int):Int:=iA iW w
abbrev c_half_Lo:Ct Sg:=⟨none,false,[.i .u64], .i .u32⟩
def e_half_Lo:Entry Sg:=entC c_half_Lo half_Lo (λ_=>[])
theorem half_Lo_ok:EOk 158 e_half_Lo:=
 ent_ok Dg T_half_Get_ok (I:=[]) Tryz.func158 mix (B:=bodyOf Tryz.f158) (by kernel_rfl) rfl (by kernel_rfl) 400
  λ_ w hb hp=>⟨(half_Lo w), .t, λ_ _ _=>by kernel_rfl,trivial,rfl⟩
def T_half_Lo:Tb:=(158,e_half_Lo)::T_half_Get
theorem T_half_Lo_ok:TOk T_half_Lo:=tc_ half_Lo_ok T_half_Get_ok
def info_right (k l c:Int):Bool:=(bif k==0 then k==0&&(l==0&&(c==0&&true)) else (bif k==3 then (bif decide (c<0)||decide (c≥9) then false else decide (l≥1)&&decide (l≤1)&&true) else (bif k==1 then (bif k==1 then decide (l≥1)&&decide (l≤1024)&&c==0 else false) else (bif k==2 then decide (l≥1)&&decide (l≤1024)&&c==0 else false))))
abbrev c_info_right:Ct Sg:=⟨none,false,[.agg [.i .i64, .i .i64, .i .i64]], .b⟩
def e_info_right:Entry Sg:=entC c_info_right info_right (λ_ _ _=>[])
theorem info_right_ok:EOk 66 e_info_right:=
 ent_ok Dg T_half_Lo_ok (I:=[]) Tryz.func66 mix (B:=bodyOf Tryz.f66) (by kernel_rfl) rfl (by kernel_rfl) 400
  λ_ k l c hb hp=>⟨(info_right k l c), .t, λ_ _ _=>by kernel_rfl,trivial,rfl⟩
def T_info_right:Tb:=(66,e_info_right)::T_half_Lo
theorem T_info_right_ok:TOk T_info_right:=tc_ info_right_ok T_half_Lo_ok
def info_Put (k l c:Int):Int×Bool:=(bif !info_right k l c then (0,false) else (half_Lo (jZ (half_Put (jZ (half_Put (iA lQ k) 4 12 (iA lQ l))) 16 4 (iA lQ c))),true))
abbrev c_info_Put:Ct Sg:=⟨none,false,[.agg [.i .i64, .i .i64, .i .i64]], .tup [.i .u32, .b]⟩
def e_info_Put:Entry Sg:=entC c_info_Put info_Put (λ_ _ _=>[])
theorem info_Put_ok:EOk 135 e_info_Put:=
 ent_ok Dg T_info_right_ok (I:=[]) Tryz.func135 mix (B:=bodyOf Tryz.f135) (by kernel_rfl) rfl (by kernel_rfl) 400
  λ_ k l c hb hp=>⟨(info_Put k l c), .t, λ_ _ _=>by kernel_rfl,trivial,rfl⟩
def T_info_Put:Tb:=(135,e_info_Put)::T_info_right
theorem T_info_Put_ok:TOk T_info_Put:=tc_ info_Put_ok T_info_right_ok
def info_Get (v:Int):Int×Int×Int×Bool:=(bif half_Get (iA lQ v) 20 (44:Int) !=0||!info_right (iA iB (half_Get (iA lQ v) 0 4)) (iA iB (half_Get (iA lQ v) 4 12)) (iA iB (half_Get (iA lQ v) 16 4)) then (0,0,0,false) else (iA iB (half_Get (iA lQ v) 0 4),iA iB (half_Get (iA lQ v) 4 12),iA iB (half_Get (iA lQ v) 16 4),true))
abbrev c_info_Get:Ct Sg:=⟨none,false,[.i .u32], .tup [.agg [.i .i64, .i .i64, .i .i64], .b]⟩
def e_info_Get:Entry Sg:=entC c_info_Get info_Get (λ_=>[])
theorem info_Get_ok:EOk 43 e_info_Get:=
 ent_ok Dg T_info_Put_ok (I:=[]) Tryz.func43 mix (B:=bodyOf Tryz.f43) (by kernel_rfl) rfl (by kernel_rfl) 400
  λ_ v hb hp=>⟨(info_Get v), .t, λ_ _ _=>by kernel_rfl,trivial,rfl⟩
def T_info_Get:Tb:=(43,e_info_Get)::T_info_Put
theorem T_info_Get_ok:TOk T_info_Get:=tc_ info_Get_ok T_info_Put_ok
def r09_Right (k l c:Int):Bool:=(bif k==0 then l==0&&c==0 else (bif k==1 then (bif k==1 then decide (l≥1)&&decide (l≤1024)&&c==0 else (bif k==3 then l==1&&decide (c≥0)&&decide (c≤8) else false)) else (bif k==2 then decide (l≥1)&&decide (l≤1024)&&c==0 else (bif k==3 then l==1&&decide (c≥0)&&decide (c≤8) else false))))
abbrev c_r09_Right:Ct Sg:=⟨none,false,[.agg [.i .i64, .i .i64, .i .i64]], .b⟩
def e_r09_Right:Entry Sg:=entC c_r09_Right r09_Right (λ_ _ _=>[])
theorem r09_Right_ok:EOk 159 e_r09_Right:=
 ent_ok Dg T_info_Get_ok (I:=[]) Tryz.func159 mix (B:=bodyOf Tryz.f159) (by kernel_rfl) rfl (by kernel_rfl) 400
  λ_ k l c hb hp=>⟨(r09_Right k l c), .t, λ_ _ _=>by kernel_rfl,trivial,rfl⟩
def T_r09_Right:Tb:=(159,e_r09_Right)::T_info_Get
theorem T_r09_Right_ok:TOk T_r09_Right:=tc_ r09_Right_ok T_info_Get_ok
def r09_Get (v:Int):Int×Int×Int×Bool:=(bif !r09_Right (iA iB (qD v 16)) (iA iB (qD (iA iW (mJ v 16)) 4096)) (iA iB (iA iW (mJ v 65536))) then (0,0,0,false) else (iA iB (qD v 16),iA iB (qD (iA iW (mJ v 16)) 4096),iA iB (iA iW (mJ v 65536)),true))
abbrev c_r09_Get:Ct Sg:=⟨none,false,[.i .u32], .tup [.agg [.i .i64, .i .i64, .i .i64], .b]⟩
def e_r09_Get:Entry Sg:=entC c_r09_Get r09_Get (λ_=>[])
theorem r09_Get_ok:EOk 137 e_r09_Get:=
 ent_ok Dg T_r09_Right_ok (I:=[]) Tryz.func137 mix (B:=bodyOf Tryz.f137) (by kernel_rfl) rfl (by kernel_rfl) 400
  λ_ v hb hp=>⟨(r09_Get v), .t, λ_ _ _=>by kernel_rfl,trivial,rfl⟩
def T_r09_Get:Tb:=(137,e_r09_Get)::T_r09_Right
theorem T_r09_Get_ok:TOk T_r09_Get:=tc_ r09_Get_ok T_r09_Right_ok
def r04_Right (t p s:Int):Bool:=decide (t≥1)&&decide (t≤16)&&decide (p≥4)&&decide (p≤1024)&&decide (s≥10)&&decide (s≤20)
abbrev c_r04_Right:Ct Sg:=⟨none,false,[.agg [.i .i64, .i .i64, .i .i64]], .b⟩
def e_r04_Right:Entry Sg:=entC c_r04_Right r04_Right (λ_ _ _=>[])
theorem r04_Right_ok:EOk 64 e_r04_Right:=
 ent_ok Dg T_r09_Get_ok (I:=[]) Tryz.func64 mix (B:=bodyOf Tryz.f64) (by kernel_rfl) rfl (by kernel_rfl) 400
  λ_ t p s hb hp=>⟨(r04_Right t p s), .t, λ_ _ _=>by kernel_rfl,trivial,rfl⟩
def T_r04_Right:Tb:=(64,e_r04_Right)::T_r09_Get
theorem T_r04_Right_ok:TOk T_r04_Right:=tc_ r04_Right_ok T_r09_Get_ok
def idxOr:Option Nat→Int
 |some i=>(i:Int)
 |none=> -1
def conf_bounds (t p s:Int):LI×LI×LI:=([t,p,s],[1,4,10],[16,1024,20])
abbrev c_conf_bounds:Ct Sg:=⟨none,false,[.agg [.i .i64, .i .i64, .i .i64]], .new 180 [some .i64,some .i64,some .i64]⟩
def e_conf_bounds:Entry Sg:=entC c_conf_bounds conf_bounds (λ_ _ _=>[])
theorem conf_bounds_ok:EOk 153 e_conf_bounds:=
 ent_ok Dg T_r04_Right_ok (I:=[]) Tryz.func153 mix (B:=bodyOf Tryz.f153) (by kernel_rfl) rfl (by kernel_rfl) 400
  λ_ t p s hb hp=>⟨(conf_bounds t p s), .t, λ_ _ _=>by kernel_rfl,trivial,rfl⟩
def T_conf_bounds:Tb:=(153,e_conf_bounds)::T_r04_Right
theorem T_conf_bounds_ok:TOk T_conf_bounds:=tc_ conf_bounds_ok T_r04_Right_ok
def conf_Check1 (n lo hi:Int):Bool:=decide (n<lo)||decide (n>hi)
abbrev c_conf_Check1:Ct Sg:=⟨none,false,[.agg [.i .i64, .i .i64, .i .i64]], .b⟩
def e_conf_Check1:Entry Sg:=entC c_conf_Check1 conf_Check1 (λ_ _ _=>[])
theorem conf_Check1_ok:EOk 154 e_conf_Check1:=
 ent_ok Dg T_conf_bounds_ok (I:=[]) Tryz.func154 mix (B:=bodyOf Tryz.f154) (by kernel_rfl) rfl (by kernel_rfl) 400
  λ_ n lo hi hb hp=>⟨(conf_Check1 n lo hi), .t, λ_ _ _=>by kernel_rfl,trivial,rfl⟩
def T_conf_Check1:Tb:=(154,e_conf_Check1)::T_conf_bounds
theorem T_conf_Check1_ok:TOk T_conf_Check1:=tc_ conf_Check1_ok T_conf_bounds_ok
def firstP (n:Nat) (p:Nat→Bool):Option Nat:=(jQ n).find? p
theorem firstP_some {n i:Nat} {p:Nat→Bool}:firstP n p=some i↔p i=true∧i<n∧∀j,j<i→p j=false:=by
 unfold firstP
 rw [List.find?_range_eq_some]
 simp
theorem firstP_none {n:Nat} {p:Nat→Bool}:firstP n p=none↔∀j,j<n→p j=false:=by
 unfold firstP
 rw [List.find?_range_eq_none]
 simp
def IndexBad (xs ys zs:LI):Int:=idxOr (firstP xs.length λj=>conf_Check1 (xs.getD j 0) (ys.getD j 0) (zs.getD j 0))
abbrev c_IndexBad:Ct Sg:=⟨none,false,[.ro [some .i64,some .i64,some .i64], .fn 154], .i .i64⟩
def e_IndexBad:Entry Sg:=entC c_IndexBad IndexBad (λ_ _ _=>[])
def IndexBad_w (xs ys zs:LI) (Q0:Int→Prop) (R_:Int→Prop):Prop:=(Q0 (0))
def IndexBad_w0 (xs ys zs:LI) (i:Int) (Q0:Int→Prop) (R_:Int→Prop):Prop:=(bw_ (decide (i<(↑(iF xs):Int))) (aw_ (0≤i∧i<(↑(iF xs):Int)) (bw_ (conf_Check1 (iI xs (iL i) 0) (iI ys (iL i) 0) (iI zs (iL i) 0)) (R_ (i)) (Q0 (iA iB (i+1))))) (R_ ((-1))))
def IndexBad_I0 (xs ys zs:LI) (i r_:Int):Prop:=0≤i∧i≤xs.length∧(∀j:Nat,j<i.toNat→conf_Check1 (xs.getD j 0) (ys.getD j 0) (zs.getD j 0)=false)∧r_=IndexBad xs ys zs
abbrev IndexBad_h0 (p0:Addr) (xs ys zs:LI):Hd Sg:=⟨none,[0,1,0,1],[.blk 0, .code [1,1]],[8,7,0,1],[.i .i64, .ic .i64 ((xs.length:Int)), .roc [.ints .i64 (xs), .ints .i64 (ys), .ints .i64 (zs)], .fn 154]⟩
theorem IndexBad_begin (xs ys zs:LI) (hl0:xs.length≤9223372036854775807):IndexBad_w xs ys zs (λi'=>IndexBad_I0 xs ys zs i' (IndexBad xs ys zs)) (λr__=>r__=(IndexBad xs ys zs)):=by
 unfold IndexBad_w
 try unfold IndexBad_I0
 exact ⟨by omega,by omega, λj hj=>absurd hj (mX j),rfl⟩
theorem IndexBad_step0 (xs ys zs:LI) (hl0:xs.length≤9223372036854775807) (i:Int) {r_:Int} (hI:IndexBad_I0 xs ys zs i r_):IndexBad_w0 xs ys zs i (λi'=>IndexBad_I0 xs ys zs i' r_∧lx ((xs.length-i').toNat,0,0) ((xs.length-i).toNat,0,0)) (λr__=>r__=r_):=by
 unfold IndexBad_I0 at hI
 unfold IndexBad_w0
 try unfold IndexBad_I0
 obtain ⟨h0,h1,h2,h3⟩:=hI
 refine ⟨λh=>?_, λh=>?_⟩
 ·simp only [decide_eq_true_eq] at h
  refine ⟨by omega, λ_=>⟨λhg=>?_, λhg=>?_⟩⟩
  ·have:=(firstP_some (n:=xs.length) (p:= λj=>conf_Check1 (xs.getD j 0) (ys.getD j 0) (zs.getD j 0))).2 ⟨hg,by omega,h2⟩
   show i=r_
   simp only [h3,IndexBad,this,idxOr]
   omega
  ·rw [w64 (by omega)]
   refine ⟨⟨by omega,by omega, λj hj=>?_,h3⟩,lxo_⟩
   by_cases hk:j=i.toNat
   ·subst hk;exact hg
   ·exact h2 j (by omega)
 ·simp only [decide_eq_false_iff_not] at h
  show (-1:Int)=r_
  have:=(firstP_none (n:=xs.length) (p:= λj=>conf_Check1 (xs.getD j 0) (ys.getD j 0) (zs.getD j 0))).2 λj hj=>h2 j (by omega)
  simp only [h3,IndexBad,this,idxOr]
theorem IndexBad_ok:EOk 162 e_IndexBad:=
 ent_wp Dg T_conf_Check1_ok (I:=[103000000008,103000000007,103000000000,103000000001]) Tryz.func162 mix (B:=bodyOf Tryz.f162) (by kernel_rfl) rfl (by kernel_rfl) 400
  λp0 xs ys zs hb hp=>have hl0:xs.length≤9223372036854775807:=hb.1;⟨[IndexBad_h0 p0 xs ys zs], λj=>iI [appC (Hd.kd (IndexBad_h0 p0 xs ys zs)) (λi'=>IndexBad_I0 xs ys zs i' (IndexBad xs ys zs))] j (λ_=>False), λj=>iI [appC (Hd.kd (IndexBad_h0 p0 xs ys zs)) (λi'=>((xs.length-i').toNat,0,0))] j (λ_=>(0,0,0)),by kernel_rfl,⟨_, λ_ _ _=>by kernel_rfl,IndexBad_begin xs ys zs hl0⟩,⟨λi hI=>⟨_, λ_ _ _=>by kernel_rfl,IndexBad_step0 xs ys zs hl0 i hI⟩,trivial⟩⟩
def T_IndexBad:Tb:=(162,e_IndexBad)::T_conf_Check1
theorem T_IndexBad_ok:TOk T_IndexBad:=tc_ IndexBad_ok T_conf_Check1_ok
def ContainsBad (xs ys zs:LI):Bool:=decide (IndexBad xs ys zs≥0)
abbrev c_ContainsBad:Ct Sg:=⟨none,false,[.ro [some .i64,some .i64,some .i64], .fn 154], .b⟩
def e_ContainsBad:Entry Sg:=entC c_ContainsBad ContainsBad (λ_ _ _=>[])
theorem ContainsBad_ok:EOk 152 e_ContainsBad:=
 ent_ok Dg T_IndexBad_ok (I:=[]) Tryz.func152 mix (B:=bodyOf Tryz.f152) (by kernel_rfl) rfl (by kernel_rfl) 400
  λ_ xs ys zs hb hp=>have hl0:xs.length≤9223372036854775807:=hb.1;⟨(ContainsBad xs ys zs), .t, λ_ _ _=>by kernel_rfl,trivial,rfl⟩
def T_ContainsBad:Tb:=(152,e_ContainsBad)::T_IndexBad
theorem T_ContainsBad_ok:TOk T_ContainsBad:=tc_ ContainsBad_ok T_IndexBad_ok
def conf_Check (t p s:Int):Int:=(let r1:LI×LI×LI:=conf_bounds t p s;(bif ContainsBad r1.1 r1.2.1 r1.2.2 then 1 else 0))
abbrev c_conf_Check:Ct Sg:=⟨none,false,[.agg [.i .i64, .i .i64, .i .i64]], .i .i64⟩
def e_conf_Check:Entry Sg:=entC c_conf_Check conf_Check (λ_ _ _=>[])
theorem conf_Check_ok:EOk 133 e_conf_Check:=
 ent_ok Dg T_ContainsBad_ok (I:=[]) Tryz.func133 mix (B:=bodyOf Tryz.f133) (by kernel_rfl) rfl (by kernel_rfl) 400
  λ_ t p s hb hp=>⟨(conf_Check t p s), .t, λ_ _ _=>by kernel_rfl,trivial,rfl⟩
def T_conf_Check:Tb:=(133,e_conf_Check)::T_ContainsBad
theorem T_conf_Check_ok:TOk T_conf_Check:=tc_ conf_Check_ok T_ContainsBad_ok
theorem conf_Check_eq (t p s:Int):conf_Check t p s=bif r04_Right t p s then 0 else 1:=by
 have e:∀o:Option Nat,decide (idxOr o≥0)=o.isSome:= λo=>by cases o<;>simp [idxOr]
 have h:ContainsBad [t,p,s] [1,4,10] [16,1024,20]=!r04_Right t p s:=by
  unfold ContainsBad IndexBad
  rw [e]
  cases hf:firstP [t,p,s].length (λj=>conf_Check1 ([t,p,s].getD j 0) ([1,4,10].getD j 0) ([16,1024,20].getD j 0)) with
  |none=>
   have hn:=firstP_none.1 hf
   have h0:=hn 0 (by simp)
   have h1:=hn 1 (by simp)
   have h2:=hn 2 (by simp)
   simp [conf_Check1] at h0 h1 h2
   have:r04_Right t p s=true:=by simp only [r04_Right,iE,decide_eq_true_eq];omega
   rw [this];rfl
  |some j=>
   obtain ⟨h1,h2,_⟩:=firstP_some.1 hf
   have:r04_Right t p s=false:=by
    apply Bool.eq_false_iff.2
    intro hr
    simp only [r04_Right,iE,decide_eq_true_eq] at hr
    have hj:j=0∨j=1∨j=2:=by simp at h2;omega
    rcases hj with rfl|rfl|rfl<;>simp [conf_Check1] at h1<;>omega
   rw [this];rfl
 unfold conf_Check
 simp only [conf_bounds,h]
 cases r04_Right t p s<;>rfl
def laid_cells (t p s mk:Int):Int:=iA iB (iA iB (30+iA iB (4*t))+iA iB (6*p))
abbrev c_laid_cells:Ct Sg:=⟨none,false,[.agg [.i .i64, .i .i64, .i .i64, .i .i64]], .i .i64⟩
def e_laid_cells:Entry Sg:=entC c_laid_cells laid_cells (λ_ _ _ _=>[])
theorem laid_cells_ok:EOk 139 e_laid_cells:=
 ent_ok Dg T_conf_Check_ok (I:=[]) Tryz.func139 mix (B:=bodyOf Tryz.f139) (by kernel_rfl) rfl (by kernel_rfl) 400
  λ_ t p s mk hb hp=>⟨(laid_cells t p s mk), .t, λ_ _ _=>by kernel_rfl,trivial,rfl⟩
def T_laid_cells:Tb:=(139,e_laid_cells)::T_conf_Check
theorem T_laid_cells_ok:TOk T_laid_cells:=tc_ laid_cells_ok T_conf_Check_ok
def place_lay (t p s:Int):Int×Int×Int×Int×Bool:=(bif conf_Check t p s !=0 then (0,0,0,0,false) else (t,p,s,iA iB (iA iB (mJ (iA iB (iA iB (iA iB (16+laid_cells t p s 0)+8)-1)) 8)*8),true))
abbrev c_place_lay:Ct Sg:=⟨none,false,[.agg [.i .i64, .i .i64, .i .i64]], .tup [.agg [.i .i64, .i .i64, .i .i64, .i .i64], .b]⟩
def e_place_lay:Entry Sg:=entC c_place_lay place_lay (λ_ _ _=>[])
theorem place_lay_ok:EOk 105 e_place_lay:=
 ent_ok Dg T_laid_cells_ok (I:=[]) Tryz.func105 mix (B:=bodyOf Tryz.f105) (by kernel_rfl) rfl (by kernel_rfl) 400
  λ_ t p s hb hp=>⟨(place_lay t p s), .t, λ_ _ _=>by kernel_rfl,trivial,rfl⟩
def T_place_lay:Tb:=(105,e_place_lay)::T_laid_cells
theorem T_place_lay_ok:TOk T_place_lay:=tc_ place_lay_ok T_laid_cells_ok
def place_within (a i n:Int):Int:=(bif decide (i<0)||decide (i≥n) then (-1) else iA iB (a+i))
abbrev c_place_within:Ct Sg:=⟨none,false,[.i .i64, .i .i64, .i .i64], .i .i64⟩
def e_place_within:Entry Sg:=entC c_place_within place_within (λ_ _ _=>[])
theorem place_within_ok:EOk 106 e_place_within:=
 ent_ok Dg T_place_lay_ok (I:=[]) Tryz.func106 mix (B:=bodyOf Tryz.f106) (by kernel_rfl) rfl (by kernel_rfl) 400
  λ_ a i n hb hp=>⟨(place_within a i n), .t, λ_ _ _=>by kernel_rfl,trivial,rfl⟩
def T_place_within:Tb:=(106,e_place_within)::T_place_lay
theorem T_place_within_ok:TOk T_place_within:=tc_ place_within_ok T_place_lay_ok
def place_of (t p s pg k:Int):Int:=(bif !Prod.snd (lD (lD (lD (place_lay t p s))))||decide (pg<0)||decide (pg≥jZ (lD (place_lay t p s))) then (-1) else iA iB (iA iB (iA iB (30+iA iB (4*jZ (place_lay t p s)))+iA iB (6*pg))+k))
abbrev c_place_of:Ct Sg:=⟨none,false,[.agg [.i .i64, .i .i64, .i .i64], .i .i64, .i .i64], .i .i64⟩
def e_place_of:Entry Sg:=entC c_place_of place_of (λ_ _ _ _ _=>[])
theorem place_of_ok:EOk 68 e_place_of:=
 ent_ok Dg T_place_within_ok (I:=[]) Tryz.func68 mix (B:=bodyOf Tryz.f68) (by kernel_rfl) rfl (by kernel_rfl) 400
  λ_ t p s pg k hb hp=>⟨(place_of t p s pg k), .t, λ_ _ _=>by kernel_rfl,trivial,rfl⟩
def T_place_of:Tb:=(68,e_place_of)::T_place_within
theorem T_place_of_ok:TOk T_place_of:=tc_ place_of_ok T_place_within_ok
def place_Info (t p s pg:Int):Int:=place_of t p s pg 0
abbrev c_place_Info:Ct Sg:=⟨none,false,[.agg [.i .i64, .i .i64, .i .i64], .i .i64], .i .i64⟩
def e_place_Info:Entry Sg:=entC c_place_Info place_Info (λ_ _ _ _=>[])
theorem place_Info_ok:EOk 45 e_place_Info:=
 ent_ok Dg T_place_of_ok (I:=[]) Tryz.func45 mix (B:=bodyOf Tryz.f45) (by kernel_rfl) rfl (by kernel_rfl) 400
  λ_ t p s pg hb hp=>⟨(place_Info t p s pg), .t, λ_ _ _=>by kernel_rfl,trivial,rfl⟩
def T_place_Info:Tb:=(45,e_place_Info)::T_place_of
theorem T_place_Info_ok:TOk T_place_Info:=tc_ place_Info_ok T_place_of_ok
def place_Foot (t p s pg:Int):Int:=place_of t p s pg 1
abbrev c_place_Foot:Ct Sg:=⟨none,false,[.agg [.i .i64, .i .i64, .i .i64], .i .i64], .i .i64⟩
def e_place_Foot:Entry Sg:=entC c_place_Foot place_Foot (λ_ _ _ _=>[])
theorem place_Foot_ok:EOk 143 e_place_Foot:=
 ent_ok Dg T_place_Info_ok (I:=[]) Tryz.func143 mix (B:=bodyOf Tryz.f143) (by kernel_rfl) rfl (by kernel_rfl) 400
  λ_ t p s pg hb hp=>⟨(place_Foot t p s pg), .t, λ_ _ _=>by kernel_rfl,trivial,rfl⟩
def T_place_Foot:Tb:=(143,e_place_Foot)::T_place_Info
theorem T_place_Foot_ok:TOk T_place_Foot:=tc_ place_Foot_ok T_place_Info_ok
def place_Next (t p s pg:Int):Int:=place_of t p s pg 2
abbrev c_place_Next:Ct Sg:=⟨none,false,[.agg [.i .i64, .i .i64, .i .i64], .i .i64], .i .i64⟩
def e_place_Next:Entry Sg:=entC c_place_Next place_Next (λ_ _ _ _=>[])
theorem place_Next_ok:EOk 141 e_place_Next:=
 ent_ok Dg T_place_Foot_ok (I:=[]) Tryz.func141 mix (B:=bodyOf Tryz.f141) (by kernel_rfl) rfl (by kernel_rfl) 400
  λ_ t p s pg hb hp=>⟨(place_Next t p s pg), .t, λ_ _ _=>by kernel_rfl,trivial,rfl⟩
def T_place_Next:Tb:=(141,e_place_Next)::T_place_Foot
theorem T_place_Next_ok:TOk T_place_Next:=tc_ place_Next_ok T_place_Foot_ok
def place_Prev (t p s pg:Int):Int:=place_of t p s pg 3
abbrev c_place_Prev:Ct Sg:=⟨none,false,[.agg [.i .i64, .i .i64, .i .i64], .i .i64], .i .i64⟩
def e_place_Prev:Entry Sg:=entC c_place_Prev place_Prev (λ_ _ _ _=>[])
theorem place_Prev_ok:EOk 142 e_place_Prev:=
 ent_ok Dg T_place_Next_ok (I:=[]) Tryz.func142 mix (B:=bodyOf Tryz.f142) (by kernel_rfl) rfl (by kernel_rfl) 400
  λ_ t p s pg hb hp=>⟨(place_Prev t p s pg), .t, λ_ _ _=>by kernel_rfl,trivial,rfl⟩
def T_place_Prev:Tb:=(142,e_place_Prev)::T_place_Next
theorem T_place_Prev_ok:TOk T_place_Prev:=tc_ place_Prev_ok T_place_Next_ok
def place_Bin (k:Int):Int:=place_within 2 k 11
abbrev c_place_Bin:Ct Sg:=⟨none,false,[.i .i64], .i .i64⟩
def e_place_Bin:Entry Sg:=entC c_place_Bin place_Bin (λ_=>[])
theorem place_Bin_ok:EOk 146 e_place_Bin:=
 ent_ok Dg T_place_Prev_ok (I:=[]) Tryz.func146 mix (B:=bodyOf Tryz.f146) (by kernel_rfl) rfl (by kernel_rfl) 400
  λ_ k hb hp=>⟨(place_Bin k), .t, λ_ _ _=>by kernel_rfl,trivial,rfl⟩
def T_place_Bin:Tb:=(146,e_place_Bin)::T_place_Prev
theorem T_place_Bin_ok:TOk T_place_Bin:=tc_ place_Bin_ok T_place_Prev_ok
def r07_Page (t p s pg k:Int):Int:=(bif !r04_Right t p s||decide (pg<0)||decide (pg≥p) then (-1) else iA iB (iA iB (iA iB (30+iA iB (4*t))+iA iB (6*pg))+k))
abbrev c_r07_Page:Ct Sg:=⟨none,false,[.agg [.i .i64, .i .i64, .i .i64], .i .i64, .i .i64], .i .i64⟩
def e_r07_Page:Entry Sg:=entC c_r07_Page r07_Page (λ_ _ _ _ _=>[])
theorem r07_Page_ok:EOk 148 e_r07_Page:=
 ent_ok Dg T_place_Bin_ok (I:=[]) Tryz.func148 mix (B:=bodyOf Tryz.f148) (by kernel_rfl) rfl (by kernel_rfl) 400
  λ_ t p s pg k hb hp=>⟨(r07_Page t p s pg k), .t, λ_ _ _=>by kernel_rfl,trivial,rfl⟩
def T_r07_Page:Tb:=(148,e_r07_Page)::T_place_Bin
theorem T_r07_Page_ok:TOk T_r07_Page:=tc_ r07_Page_ok T_place_Bin_ok
def r07_Info (t p s pg:Int):Int:=r07_Page t p s pg 0
abbrev c_r07_Info:Ct Sg:=⟨none,false,[.agg [.i .i64, .i .i64, .i .i64], .i .i64], .i .i64⟩
def e_r07_Info:Entry Sg:=entC c_r07_Info r07_Info (λ_ _ _ _=>[])
theorem r07_Info_ok:EOk 118 e_r07_Info:=
 ent_ok Dg T_r07_Page_ok (I:=[]) Tryz.func118 mix (B:=bodyOf Tryz.f118) (by kernel_rfl) rfl (by kernel_rfl) 400
  λ_ t p s pg hb hp=>⟨(r07_Info t p s pg), .t, λ_ _ _=>by kernel_rfl,trivial,rfl⟩
def T_r07_Info:Tb:=(118,e_r07_Info)::T_r07_Page
theorem T_r07_Info_ok:TOk T_r07_Info:=tc_ r07_Info_ok T_r07_Page_ok
def r07_Foot (t p s pg:Int):Int:=r07_Page t p s pg 1
abbrev c_r07_Foot:Ct Sg:=⟨none,false,[.agg [.i .i64, .i .i64, .i .i64], .i .i64], .i .i64⟩
def e_r07_Foot:Entry Sg:=entC c_r07_Foot r07_Foot (λ_ _ _ _=>[])
theorem r07_Foot_ok:EOk 119 e_r07_Foot:=
 ent_ok Dg T_r07_Info_ok (I:=[]) Tryz.func119 mix (B:=bodyOf Tryz.f119) (by kernel_rfl) rfl (by kernel_rfl) 400
  λ_ t p s pg hb hp=>⟨(r07_Foot t p s pg), .t, λ_ _ _=>by kernel_rfl,trivial,rfl⟩
def T_r07_Foot:Tb:=(119,e_r07_Foot)::T_r07_Info
theorem T_r07_Foot_ok:TOk T_r07_Foot:=tc_ r07_Foot_ok T_r07_Info_ok
def r07_Next (t p s pg:Int):Int:=r07_Page t p s pg 2
abbrev c_r07_Next:Ct Sg:=⟨none,false,[.agg [.i .i64, .i .i64, .i .i64], .i .i64], .i .i64⟩
def e_r07_Next:Entry Sg:=entC c_r07_Next r07_Next (λ_ _ _ _=>[])
theorem r07_Next_ok:EOk 130 e_r07_Next:=
 ent_ok Dg T_r07_Foot_ok (I:=[]) Tryz.func130 mix (B:=bodyOf Tryz.f130) (by kernel_rfl) rfl (by kernel_rfl) 400
  λ_ t p s pg hb hp=>⟨(r07_Next t p s pg), .t, λ_ _ _=>by kernel_rfl,trivial,rfl⟩
def T_r07_Next:Tb:=(130,e_r07_Next)::T_r07_Foot
theorem T_r07_Next_ok:TOk T_r07_Next:=tc_ r07_Next_ok T_r07_Foot_ok
def r07_Prev (t p s pg:Int):Int:=r07_Page t p s pg 3
abbrev c_r07_Prev:Ct Sg:=⟨none,false,[.agg [.i .i64, .i .i64, .i .i64], .i .i64], .i .i64⟩
def e_r07_Prev:Entry Sg:=entC c_r07_Prev r07_Prev (λ_ _ _ _=>[])
theorem r07_Prev_ok:EOk 131 e_r07_Prev:=
 ent_ok Dg T_r07_Next_ok (I:=[]) Tryz.func131 mix (B:=bodyOf Tryz.f131) (by kernel_rfl) rfl (by kernel_rfl) 400
  λ_ t p s pg hb hp=>⟨(r07_Prev t p s pg), .t, λ_ _ _=>by kernel_rfl,trivial,rfl⟩
def T_r07_Prev:Tb:=(131,e_r07_Prev)::T_r07_Next
theorem T_r07_Prev_ok:TOk T_r07_Prev:=tc_ r07_Prev_ok T_r07_Next_ok
def r07_Bin (k:Int):Int:=(bif decide (k<0)||decide (k>10) then (-1) else iA iB (2+k))
abbrev c_r07_Bin:Ct Sg:=⟨none,false,[.i .i64], .i .i64⟩
def e_r07_Bin:Entry Sg:=entC c_r07_Bin r07_Bin (λ_=>[])
theorem r07_Bin_ok:EOk 124 e_r07_Bin:=
 ent_ok Dg T_r07_Prev_ok (I:=[]) Tryz.func124 mix (B:=bodyOf Tryz.f124) (by kernel_rfl) rfl (by kernel_rfl) 400
  λ_ k hb hp=>⟨(r07_Bin k), .t, λ_ _ _=>by kernel_rfl,trivial,rfl⟩
def T_r07_Bin:Tb:=(124,e_r07_Bin)::T_r07_Prev
theorem T_r07_Bin_ok:TOk T_r07_Bin:=tc_ r07_Bin_ok T_r07_Prev_ok
def r07_Root (k:Int):Int:=(bif decide (k<0)||decide (k>7) then (-1) else iA iB (22+k))
abbrev c_r07_Root:Ct Sg:=⟨none,false,[.i .i64], .i .i64⟩
def e_r07_Root:Entry Sg:=entC c_r07_Root r07_Root (λ_=>[])
theorem r07_Root_ok:EOk 26 e_r07_Root:=
 ent_ok Dg T_r07_Bin_ok (I:=[]) Tryz.func26 mix (B:=bodyOf Tryz.f26) (by kernel_rfl) rfl (by kernel_rfl) 400
  λ_ k hb hp=>⟨(r07_Root k), .t, λ_ _ _=>by kernel_rfl,trivial,rfl⟩
def T_r07_Root:Tb:=(26,e_r07_Root)::T_r07_Bin
theorem T_r07_Root_ok:TOk T_r07_Root:=tc_ r07_Root_ok T_r07_Bin_ok
theorem u8_need (z:Int):0≤iA kR z∧iA kR z<((256:Nat):Int):=by
 rw [IntKind.wrap_u8];omega
def bits_Len64 (x:Int):Int:=(bif decide (x≥4294967296) then (bif decide (jS x (4294967296:Int)≥65536) then (bif decide (jS (jS x 4294967296) (65536:Int)≥256) then iA iB (56+iA iB (sAt SlLow_bytes0 (iA kR (jS (jS (jS x 4294967296) 65536) 256)))) else iA iB (48+iA iB (sAt SlLow_bytes0 (iA kR (jS (jS x 4294967296) 65536))))) else (bif decide (jS x (4294967296:Int)≥256) then iA iB (40+iA iB (sAt SlLow_bytes0 (iA kR (jS (jS x 4294967296) 256)))) else iA iB (32+iA iB (sAt SlLow_bytes0 (iA kR (jS x 4294967296)))))) else (bif decide (x≥65536) then (bif decide (jS x (65536:Int)≥256) then iA iB (24+iA iB (sAt SlLow_bytes0 (iA kR (jS (jS x 65536) 256)))) else iA iB (16+iA iB (sAt SlLow_bytes0 (iA kR (jS x 65536))))) else (bif decide (x≥256) then iA iB (8+iA iB (sAt SlLow_bytes0 (iA kR (jS x 256)))) else iA iB (0+iA iB (sAt SlLow_bytes0 (iA kR x))))))
abbrev c_bits_Len64:Ct Sg:=⟨none,false,[.i .u64], .i .i64⟩
def e_bits_Len64:Entry Sg:=entC c_bits_Len64 bits_Len64 (λ_=>[])
theorem bits_Len64_ok:EOk 164 e_bits_Len64:=
 ent_ok Dg T_r07_Root_ok (I:=[]) Tryz.func164 mix (B:=bodyOf Tryz.f164) (by kernel_rfl) rfl (by kernel_rfl) 400
  λ_ x hb hp=>⟨(bits_Len64 x),(.br (decide (x≥4294967296)) (.br (decide (jS x (4294967296:Int)≥65536)) (.br (decide (jS (jS x 4294967296) (65536:Int)≥256)) (.need (0≤iA kR (jS (jS (jS x 4294967296) 65536) 256)∧iA kR (jS (jS (jS x 4294967296) 65536) 256)<256) .t) (.need (0≤iA kR (jS (jS x 4294967296) 65536)∧iA kR (jS (jS x 4294967296) 65536)<256) .t)) (.br (decide (jS x (4294967296:Int)≥256)) (.need (0≤iA kR (jS (jS x 4294967296) 256)∧iA kR (jS (jS x 4294967296) 256)<256) .t) (.need (0≤iA kR (jS x 4294967296)∧iA kR (jS x 4294967296)<256) .t))) (.br (decide (x≥65536)) (.br (decide (jS x (65536:Int)≥256)) (.need (0≤iA kR (jS (jS x 65536) 256)∧iA kR (jS (jS x 65536) 256)<256) .t) (.need (0≤iA kR (jS x 65536)∧iA kR (jS x 65536)<256) .t)) (.br (decide (x≥256)) (.need (0≤iA kR (jS x 256)∧iA kR (jS x 256)<256) .t) (.need (0≤iA kR x∧iA kR x<256) .t)))), λ_ _ _=>by kernel_rfl,⟨λz0=>⟨λz1=>⟨λz2=>⟨(by exact u8_need _), λz3=>trivial⟩, λz2=>⟨(by exact u8_need _), λz3=>trivial⟩⟩, λz1=>⟨λz2=>⟨(by exact u8_need _), λz3=>trivial⟩, λz2=>⟨(by exact u8_need _), λz3=>trivial⟩⟩⟩, λz0=>⟨λz1=>⟨λz2=>⟨(by exact u8_need _), λz3=>trivial⟩, λz2=>⟨(by exact u8_need _), λz3=>trivial⟩⟩, λz1=>⟨λz2=>⟨(by exact u8_need _), λz3=>trivial⟩, λz2=>⟨(by exact u8_need _), λz3=>trivial⟩⟩⟩⟩,rfl⟩
def T_bits_Len64:Tb:=(164,e_bits_Len64)::T_r07_Root
theorem T_bits_Len64_ok:TOk T_bits_Len64:=tc_ bits_Len64_ok T_r07_Root_ok
def half_Log (n:Int):Int:=(bif decide (n<1) then (-1) else iA iB (bits_Len64 (iA lQ n)-1))
abbrev c_half_Log:Ct Sg:=⟨none,false,[.i .i64], .i .i64⟩
def e_half_Log:Entry Sg:=entC c_half_Log half_Log (λ_=>[])
theorem half_Log_ok:EOk 161 e_half_Log:=
 ent_ok Dg T_bits_Len64_ok (I:=[]) Tryz.func161 mix (B:=bodyOf Tryz.f161) (by kernel_rfl) rfl (by kernel_rfl) 400
  λ_ n hb hp=>⟨(half_Log n), .t, λ_ _ _=>by kernel_rfl,trivial,rfl⟩
def T_half_Log:Tb:=(161,e_half_Log)::T_bits_Len64
theorem T_half_Log_ok:TOk T_half_Log:=tc_ half_Log_ok T_bits_Len64_ok
theorem logI_lt {n:Int} (h:n<1):logI n= -1:=by unfold logI;rw [if_pos h]
theorem logI_half {n:Int} (h:1≤n):logI n=logI (n/2)+1:=by
 unfold logI
 rw [if_neg (by omega),Nat.log2_def]
 by_cases h2:n/2<1
 ·rw [if_pos h2,if_neg (by omega)];rfl
 ·rw [if_neg h2,if_pos (by omega)]
  have:(n/2).toNat=n.toNat/2:=by omega
  rw [this];push_cast;rfl
theorem logI_le (k:Nat):∀n:Int,n<2^k→logI n≤(k:Int)-1:=by
 induction k with
 |zero=>intro n h;rw [logI_lt (by simpa using h)];omega
 |succ k ih=>
  intro n h
  by_cases h1:1≤n
  ·rw [logI_half h1]
   have:=ih (n/2) (by rw [Int.pow_succ] at h;omega)
   push_cast;omega
  ·rw [logI_lt (by omega)];push_cast;omega
theorem logI_ge (n:Int): -1≤logI n:=by
 unfold logI
 split<;>omega
def r01_Log (n:Int):Int:=logI n
abbrev c_r01_Log:Ct Sg:=⟨none,false,[.i .i64], .i .i64⟩
def e_r01_Log:Entry Sg:=entC c_r01_Log r01_Log (λn=>[n≤9223372036854775807])
def r01_Log_w (n:Int) (Q0:Int→Int→Prop) (R_:Int→Prop):Prop:=(Q0 ((-1)) (n))
def r01_Log_w0 (n k m:Int) (Q0:Int→Int→Prop) (R_:Int→Prop):Prop:=(bw_ (decide (m≥1)) (Q0 (iA iB (k+1)) (iA iB (mJ m 2))) (R_ (k)))
def r01_Log_I0 (n k m r_:Int):Prop:= -1≤k∧k+logI m≤70∧m≤9223372036854775807∧r_=k+1+logI m
abbrev r01_Log_h0 (p0:Addr) (n:Int):Hd Sg:=⟨none,[0,0,1,1],[.blk 0, .code [1,1,1]],[3,0],[.i .i64, .i .i64]⟩
theorem r01_Log_begin (n:Int) (hp0:n≤9223372036854775807):r01_Log_w n (λk' m'=>r01_Log_I0 n k' m' (r01_Log n)) (λr__=>r__=(r01_Log n)):=by
 unfold r01_Log_w
 try unfold r01_Log_I0
 have:=logI_le 63 n (by omega)
 exact ⟨by omega,by omega,hp0,by simp [r01_Log]⟩
theorem r01_Log_step0 (n:Int) (hp0:n≤9223372036854775807) (k m:Int) {r_:Int} (hI:r01_Log_I0 n k m r_):r01_Log_w0 n k m (λk' m'=>r01_Log_I0 n k' m' r_∧lx (m'.toNat,0,0) (m.toNat,0,0)) (λr__=>r__=r_):=by
 unfold r01_Log_I0 at hI
 unfold r01_Log_w0
 try unfold r01_Log_I0
 obtain ⟨h0,h1,hm,h2⟩:=hI
 refine ⟨λh=>?_, λh=>?_⟩
 ·simp only [decide_eq_true_eq] at h
  have h3:1≤m:=by omega
  have h4:=logI_half h3
  have h5:=logI_ge (m/2)
  have e:mJ m 2=m/2:=mG (by omega)
  rw [e,w64 (by omega),w64 (by omega)]
  exact ⟨⟨by omega,by omega,by omega,by omega⟩,lxo_⟩
 ·simp only [decide_eq_false_iff_not] at h
  show _=_
  rw [h2,logI_lt (by omega)];omega
theorem r01_Log_ok:EOk 151 e_r01_Log:=
 ent_wp Dg T_half_Log_ok (I:=[91000000003,91000000000]) Tryz.func151 mix (B:=bodyOf Tryz.f151) (by kernel_rfl) rfl (by kernel_rfl) 400
  λp0 n hb hp=>have hp0:n≤9223372036854775807:=hp _ (.head _);⟨[r01_Log_h0 p0 n], λj=>iI [appC (Hd.kd (r01_Log_h0 p0 n)) (λk' m'=>r01_Log_I0 n k' m' (r01_Log n))] j (λ_=>False), λj=>iI [appC (Hd.kd (r01_Log_h0 p0 n)) (λk' m'=>(m'.toNat,0,0))] j (λ_=>(0,0,0)),by kernel_rfl,⟨_, λ_ _ _=>by kernel_rfl,r01_Log_begin n hp0⟩,⟨λk m hI=>⟨_, λ_ _ _=>by kernel_rfl,r01_Log_step0 n hp0 k m hI⟩,trivial⟩⟩
def T_r01_Log:Tb:=(151,e_r01_Log)::T_half_Log
theorem T_r01_Log_ok:TOk T_r01_Log:=tc_ r01_Log_ok T_half_Log_ok
end
section
open Go Go.Sl
theorem wrap_u64_nat {n:Nat} (h:n<18446744073709551616):iA lQ (n:Int)=(n:Int):=by rw [pP];omega
theorem wrap_u32_nat {n:Nat} (h:n<4294967296):iA iW (n:Int)=(n:Int):=by rw [nO];omega
theorem wrap_i64_id {n:Int} (h: -9223372036854775808≤n∧n<9223372036854775808):iA iB n=n:=by rw [nQ];omega
theorem half_mask_eq {y:Nat} (h:y≤64):half_mask (y:Int)=((2^y-1:Nat):Int):=by
 have key:∀y:Fin 65,half_mask ((y.val:Nat):Int)=((2^y.val-1:Nat):Int):=by decide+kernel
 exact key ⟨y,by omega⟩
theorem ofInt_nat (n:Nat):iP 64 (n:Int)=mZ 64 n:=by
 apply BitVec.eq_of_toNat_eq
 simp
theorem half_field_true {x y:Nat} (h1:1≤y) (h:x+y≤64):half_field (x:Int) (y:Int)=true:=half_field_iff.2 (by omega)
theorem min_toNat {x:Nat} (h:x≤64):min (iL (x:Int)) 64=x:=by simp;omega
theorem half_Get_eq {W x y:Nat} (hW:W<18446744073709551616) (h1:1≤y) (h:x+y≤64):half_Get (W:Int) (x:Int) (y:Int)=((W/2^x%2^y:Nat):Int):=by
 have hf:=half_field_true h1 h
 unfold half_Get
 rw [hf]
 simp only [kU,cond_false]
 rw [min_toNat (by omega),half_mask_eq (by omega)]
 have e1:jS (W:Int) (2^x)=((W/2^x:Nat):Int):=by
  rw [mH _ (by exact Int.le_of_lt (Int.pow_pos (by omega)))]
  push_cast;rfl
 rw [e1,ofInt_nat,ofInt_nat,oY,lM,lM]
 have h2:2^y≤2^64:=lO (by omega) (by omega)
 have h3:W/2^x<2^64:=pB (Nat.div_le_self _ _) (by omega)
 have h4:0<2^y:=Nat.pow_pos (by omega)
 rw [lR h3,lR (by omega:2^y-1<2^64),oU]
 refine wrap_u64_nat ?_
 have:=pX (W/2^x) h4
 omega
def putW (W x y V:Nat):Nat:=((mZ 64 W &&& ~~~mZ 64 ((2^y-1)*2^x)) ||| mZ 64 (V*2^x)).toNat
theorem putW_lt (W x y V:Nat):putW W x y V<18446744073709551616:=BitVec.isLt _
theorem putW_bit {W x y V:Nat} (hW:W<18446744073709551616) (h:x+y≤64) (hV:V<2^y) (i:Nat):(putW W x y V).testBit i=if x≤i∧i<x+y then V.testBit (i-x) else W.testBit i:=by
 unfold putW
 rw [BitVec.testBit_toNat]
 simp only [BitVec.getLsbD_or,BitVec.getLsbD_and,BitVec.getLsbD_not,BitVec.getLsbD_ofNat,Nat.testBit_mul_two_pow,Nat.testBit_two_pow_sub_one]
 by_cases hi:i<64
 ·by_cases hx:x≤i
  ·by_cases hy:i-x<y
   ·have:x≤i∧i<x+y:=by omega
    simp [hi,hx,hy,this]
   ·have:¬(x≤i∧i<x+y):=by omega
    have hv:V.testBit (i-x)=false:=oB (nD hV (lO (by omega) (by omega)))
    rw [if_neg this];simp [hi,hx,hy,hv]
  ·have:¬(x≤i∧i<x+y):=by omega
   rw [if_neg this];simp [hi,hx]
 ·have h2:W.testBit i=false:=oB (nD hW (by
   have:2^64≤2^i:=lO (by omega) (by omega)
   omega))
  have:¬(x≤i∧i<x+y):=by omega
  rw [if_neg this];simp [hi,h2]
theorem half_Put_eq {W x y V:Nat} (h1:1≤y) (h:x+y≤64) (hV:V<2^y):half_Put (W:Int) (x:Int) (y:Int) (V:Int)=(((putW W x y V:Nat):Int),true):=by
 have hf:=half_field_true h1 h
 have hp:2^y≤2^64:=lO (by omega) (by omega)
 have hpos:0<2^y:=Nat.pow_pos (by omega)
 unfold half_Put
 rw [hf,half_mask_eq (by omega)]
 have hd:decide ((V:Int)>((2^y-1:Nat):Int))=false:=by simp;omega
 rw [hd]
 simp only [kU,pG,cond_false,iV,and_true]
 rw [min_toNat (by omega)]
 have e:∀n:Nat,n*2^x<18446744073709551616→iA lQ ((n:Int)*2^x)=((n*2^x:Nat):Int):= λn hn=>by
  rw [show ((n:Int)*2^x)=((n*2^x:Nat):Int) by push_cast;rfl]
  exact wrap_u64_nat hn
 have b:∀n,n<2^y→n*2^x<18446744073709551616:= λn hn=>by
  have h2:n*2^x<2^y*2^x:=Nat.mul_lt_mul_of_pos_right hn (Nat.pow_pos (by omega))
  rw [←Nat.pow_add] at h2
  have h3:2^(y+x)≤2^64:=lO (by omega) (by omega)
  omega
 rw [e _ (b _ (by omega)),e _ (b _ hV),ofInt_nat,ofInt_nat,ofInt_nat]
 have hand:(mZ 64 W &&& ~~~mZ 64 ((2^y-1)*2^x)).toNat<18446744073709551616:=BitVec.isLt _
 rw [wrap_u64_nat hand,ofInt_nat,BitVec.ofNat_toNat,BitVec.setWidth_eq]
 exact wrap_u64_nat (putW_lt W x y V)
theorem putW_add {W x y V:Nat} (hW:W<2^x) (h:x+y≤64) (hV:V<2^y):putW W x y V=V*2^x+W:=by
 have hW':W<18446744073709551616:=by
  have:2^x≤2^64:=lO (by omega) (by omega)
  omega
 apply nT
 intro i
 rw [putW_bit hW' h hV,oC,Nat.testBit_two_pow_mul_add _ hW]
 by_cases hi:i<x
 ·rw [if_neg (by omega),if_pos hi]
 ·rw [if_neg hi]
  by_cases hy:i<x+y
  ·rw [if_pos (by omega)]
  ·rw [if_neg (by omega)]
   rw [oB (nD hW (lO (by omega) (by omega))),
    oB (nD hV (lO (by omega) (by omega)))]
theorem info_right_iff {k l c:Int}:info_right k l c=true↔(k=0∧l=0∧c=0)∨((k=1∨k=2)∧1≤l∧l≤1024∧c=0)∨(k=3∧l=1∧0≤c∧c≤8):=by
 unfold info_right
 by_cases h0:k=0
 ·subst h0;simp
 ·by_cases h3:k=3
  ·subst h3
   by_cases hc:c<0∨9≤c
   ·rcases hc with hc|hc<;>simp [hc]<;>omega
   ·simp [show ¬c<0 by omega,show ¬c≥9 by omega];omega
  ·by_cases h1:k=1
   ·subst h1;simp;omega
   ·by_cases h2:k=2
    ·subst h2;simp;omega
    ·simp [h0,h1,h2,h3]
theorem r09_Right_iff {k l c:Int}:r09_Right k l c=true↔(k=0∧l=0∧c=0)∨((k=1∨k=2)∧1≤l∧l≤1024∧c=0)∨(k=3∧l=1∧0≤c∧c≤8):=by
 unfold r09_Right
 by_cases h0:k=0
 ·subst h0;simp
 ·by_cases h1:k=1
  ·subst h1;simp;omega
  ·by_cases h2:k=2
   ·subst h2;simp;omega
   ·by_cases h3:k=3
    ·subst h3;simp;omega
    ·simp [h0,h1,h2,h3]
theorem right_same (k l c:Int):info_right k l c=r09_Right k l c:=by
 rw [lT,info_right_iff,r09_Right_iff]
theorem info_Put_eq {k l c:Int} (h:info_right k l c=true):info_Put k l c=(k+16*l+65536*c,true):=by
 have hr:=info_right_iff.1 h
 unfold info_Put
 rw [h]
 obtain ⟨K,rfl⟩:∃K:Nat,k=K:=⟨k.toNat,by omega⟩
 obtain ⟨L,rfl⟩:∃L:Nat,l=L:=⟨l.toNat,by omega⟩
 obtain ⟨C,rfl⟩:∃C:Nat,c=C:=⟨c.toNat,by omega⟩
 rw [wrap_u64_nat (by omega),wrap_u64_nat (by omega),wrap_u64_nat (by omega)]
 have e1:half_Put (K:Int) 4 12 (L:Int)=(((putW K 4 12 L:Nat):Int),true):=half_Put_eq (W:=K) (x:=4) (y:=12) (V:=L) (by omega) (by omega) (by omega)
 have e2:putW K 4 12 L=L*16+K:=putW_add (W:=K) (x:=4) (y:=12) (V:=L) (by omega) (by omega) (by omega)
 have e3:half_Put ((L*16+K:Nat):Int) 16 4 (C:Int)=(((putW (L*16+K) 16 4 C:Nat):Int),true):=half_Put_eq (W:=L*16+K) (x:=16) (y:=4) (V:=C) (by omega) (by omega) (by omega)
 have e4:putW (L*16+K) 16 4 C=C*65536+(L*16+K):=putW_add (W:=L*16+K) (x:=16) (y:=4) (V:=C) (by omega) (by omega) (by omega)
 rw [e1,e2]
 show (bif !true then _ else (half_Lo (half_Put ((L*16+K:Nat):Int) 16 4 (C:Int)).1,true))=_
 rw [e3,e4]
 refine Prod.ext ?_ rfl
 show iA iW _=_
 rw [wrap_u32_nat (by omega)]
 show _=(K:Int)+16*L+65536*C
 omega
theorem info_Put_no {k l c:Int} (h:info_right k l c=false):info_Put k l c=(0,false):=by unfold info_Put;rw [h];rfl
theorem info_Get_eq {v:Int} (h0:0≤v) (hv:v<4294967296):info_Get v=bif info_right (v%16) (v/16%4096) (v/65536) then (v%16,v/16%4096,v/65536,true) else (0,0,0,false):=by
 obtain ⟨n,rfl⟩:∃n:Nat,v=n:=⟨v.toNat,by omega⟩
 have g1:half_Get (n:Int) 20 44=((n/2^20%2^44:Nat):Int):=half_Get_eq (W:=n) (x:=20) (y:=44) (by omega) (by omega) (by omega)
 have g2:half_Get (n:Int) 0 4=((n/2^0%2^4:Nat):Int):=half_Get_eq (W:=n) (x:=0) (y:=4) (by omega) (by omega) (by omega)
 have g3:half_Get (n:Int) 4 12=((n/2^4%2^12:Nat):Int):=half_Get_eq (W:=n) (x:=4) (y:=12) (by omega) (by omega) (by omega)
 have g4:half_Get (n:Int) 16 4=((n/2^16%2^4:Nat):Int):=half_Get_eq (W:=n) (x:=16) (y:=4) (by omega) (by omega) (by omega)
 have e1:((n/2^20%2^44:Nat):Int)=(n:Int)/1048576:=by omega
 have e2:((n/2^0%2^4:Nat):Int)=(n:Int)%16:=by omega
 have e3:((n/2^4%2^12:Nat):Int)=(n:Int)/16%4096:=by omega
 have e4:((n/2^16%2^4:Nat):Int)=(n:Int)/65536%16:=by omega
 rw [e1] at g1;rw [e2] at g2;rw [e3] at g3;rw [e4] at g4
 unfold info_Get
 rw [wrap_u64_nat (by omega),g1,g2,g3,g4,wrap_i64_id (n:=(n:Int)%16) (by omega),wrap_i64_id (n:=(n:Int)/16%4096) (by omega),wrap_i64_id (n:=(n:Int)/65536%16) (by omega)]
 by_cases hz:(n:Int)/1048576=0
 ·have:(n:Int)/65536%16=n/65536:=by omega
  rw [this,hz]
  cases info_right ((n:Int)%16) ((n:Int)/16%4096) ((n:Int)/65536)<;>rfl
 ·have hr:info_right ((n:Int)%16) ((n:Int)/16%4096) ((n:Int)/65536)=false:=by
   rw [Bool.eq_false_iff,Ne,info_right_iff];omega
  have hb:(((n:Int)/1048576) !=0)=true:=bne_iff_ne.2 hz
  rw [hr,hb]
  rfl
theorem r09_Get_eq {v:Int} (h0:0≤v) (hv:v<4294967296):r09_Get v=bif info_right (v%16) (v/16%4096) (v/65536) then (v%16,v/16%4096,v/65536,true) else (0,0,0,false):=by
 unfold r09_Get
 have t1:qD v 16=v%16:=oI h0
 have t2:mJ v 16=v/16:=mG h0
 have t3:mJ v 65536=v/65536:=mG h0
 have t4:qD (v/16) 4096=v/16%4096:=oI (by omega)
 have w1:iA iW (v/16)=v/16:=by rw [nO];omega
 have w2:iA iW (v/65536)=v/65536:=by rw [nO];omega
 rw [t1,t2,t3,w1,w2,t4,wrap_i64_id (n:=v%16) (by omega),wrap_i64_id (n:=v/16%4096) (by omega),wrap_i64_id (n:=v/65536) (by omega),←right_same]
 cases info_right (v%16) (v/16%4096) (v/65536)<;>rfl
theorem r04_Right_eq (t p s:Int):r04_Right t p s=Cf.ok ⟨t,p,s⟩:=by
 apply lT.2
 rw [Cf.ok_iff]
 simp only [r04_Right,iE,decide_eq_true_eq]
 omega
theorem lay_ok (t p s:Int):(place_lay t p s).2.2.2.2=Cf.ok ⟨t,p,s⟩∧(Cf.ok ⟨t,p,s⟩=true→(place_lay t p s).1=t∧(place_lay t p s).2.1=p):=by
 unfold place_lay
 rw [conf_Check_eq,r04_Right_eq]
 cases h:Cf.ok ⟨t,p,s⟩ with
 |true=>exact ⟨rfl, λ_=>⟨rfl,rfl⟩⟩
 |false=>exact ⟨rfl, λh=>by cases h⟩
theorem place_of_eq {t p s g k:Int} (hk:0≤k∧k≤5):place_of t p s g k=Cf.pc ⟨t,p,s⟩ g k:=by
 obtain ⟨h1,h2⟩:=lay_ok t p s
 unfold place_of Cf.pc Cf.page
 rw [h1]
 cases h:Cf.ok ⟨t,p,s⟩ with
 |false=>simp
 |true=>
  obtain ⟨e1,e2⟩:=h2 h
  rw [e1,e2]
  have:=Cf.ok_iff.1 h
  simp only at this
  by_cases hg:0≤g∧g<p
  ·have a1:decide (g<0)=false:=by simp;omega
   have a2:decide (g≥p)=false:=by simp;omega
   have a3:decide (0≤g)=true:=by simp;omega
   have a4:decide (g<p)=true:=by simp;omega
   simp only [a1,a2,a3,a4,kU,Bool.or_self,cond_false,nG,cond_true]
   rw [w64 (n:=4*t) (by omega),w64 (n:=30+4*t) (by omega),w64 (n:=6*g) (by omega),w64 (n:=30+4*t+6*g) (by omega),w64 (by omega)]
  ·have a3:(decide (0≤g)&&decide (g<p))=false:=by simp;omega
   have a1:(!true||decide (g<0)||decide (g≥p))=true:=by simp;omega
   rw [a3,a1];simp
theorem r07_Page_eq {t p s g k:Int} (hk:0≤k∧k≤5):r07_Page t p s g k=Cf.pc ⟨t,p,s⟩ g k:=by
 unfold r07_Page Cf.pc Cf.page
 rw [r04_Right_eq]
 cases h:Cf.ok ⟨t,p,s⟩ with
 |false=>simp
 |true=>
  have:=Cf.ok_iff.1 h
  simp only at this
  by_cases hg:0≤g∧g<p
  ·have a1:decide (g<0)=false:=by simp;omega
   have a2:decide (g≥p)=false:=by simp;omega
   have a3:decide (0≤g)=true:=by simp;omega
   have a4:decide (g<p)=true:=by simp;omega
   simp only [a1,a2,a3,a4,kU,Bool.or_self,cond_false,nG,cond_true]
   rw [w64 (n:=4*t) (by omega),w64 (n:=30+4*t) (by omega),w64 (n:=6*g) (by omega),w64 (n:=30+4*t+6*g) (by omega),w64 (by omega)]
  ·have a3:(decide (0≤g)&&decide (g<p))=false:=by simp;omega
   have a1:(!true||decide (g<0)||decide (g≥p))=true:=by simp;omega
   rw [a3,a1];simp
theorem place_Info_eq (t p s g:Int):place_Info t p s g=Cf.info ⟨t,p,s⟩ g:=place_of_eq (by omega)
theorem place_Foot_eq (t p s g:Int):place_Foot t p s g=Cf.foot ⟨t,p,s⟩ g:=place_of_eq (by omega)
theorem place_Next_eq (t p s g:Int):place_Next t p s g=Cf.next ⟨t,p,s⟩ g:=place_of_eq (by omega)
theorem place_Prev_eq (t p s g:Int):place_Prev t p s g=Cf.prev ⟨t,p,s⟩ g:=place_of_eq (by omega)
theorem r07_Info_eq (t p s g:Int):r07_Info t p s g=Cf.info ⟨t,p,s⟩ g:=r07_Page_eq (by omega)
theorem r07_Foot_eq (t p s g:Int):r07_Foot t p s g=Cf.foot ⟨t,p,s⟩ g:=r07_Page_eq (by omega)
theorem r07_Next_eq (t p s g:Int):r07_Next t p s g=Cf.next ⟨t,p,s⟩ g:=r07_Page_eq (by omega)
theorem r07_Prev_eq (t p s g:Int):r07_Prev t p s g=Cf.prev ⟨t,p,s⟩ g:=r07_Page_eq (by omega)
theorem place_Bin_eq (k:Int):place_Bin k=cBin k:=by
 unfold place_Bin place_within cBin
 by_cases hg:0≤k∧k<11
 ·have a1:(decide (k<0)||decide (k≥11))=false:=by simp;omega
  have a2:(decide (0≤k)&&decide (k<11))=true:=by simp;omega
  rw [a1,a2,w64 (by omega)];rfl
 ·have a1:(decide (k<0)||decide (k≥11))=true:=by simp;omega
  have a2:(decide (0≤k)&&decide (k<11))=false:=by simp;omega
  rw [a1,a2];rfl
theorem r07_Bin_eq (k:Int):r07_Bin k=cBin k:=by
 unfold r07_Bin cBin
 by_cases hg:0≤k∧k<11
 ·have a1:(decide (k<0)||decide (k>10))=false:=by simp;omega
  have a2:(decide (0≤k)&&decide (k<11))=true:=by simp;omega
  rw [a1,a2,w64 (by omega)];rfl
 ·have a1:(decide (k<0)||decide (k>10))=true:=by simp;omega
  have a2:(decide (0≤k)&&decide (k<11))=false:=by simp;omega
  rw [a1,a2];rfl
theorem r07_Root_eq (k:Int):r07_Root k=cRoot k:=by
 unfold r07_Root cRoot
 by_cases hg:0≤k∧k<8
 ·have a1:(decide (k<0)||decide (k>7))=false:=by simp;omega
  have a2:(decide (0≤k)&&decide (k<8))=true:=by simp;omega
  rw [a1,a2,w64 (by omega)];rfl
 ·have a1:(decide (k<0)||decide (k>7))=true:=by simp;omega
  have a2:(decide (0≤k)&&decide (k<8))=false:=by simp;omega
  rw [a1,a2];rfl
theorem iRight_eq (k l c:Int):info_right k l c=iRight k l c:=by
 apply lT.2
 rw [info_right_iff]
 unfold iRight
 by_cases h0:k=0
 ·subst h0;simp
 ·by_cases h1:k=1
  ·subst h1;simp [and_assoc]
  ·by_cases h2:k=2
   ·subst h2;simp [and_assoc]
   ·by_cases h3:k=3
    ·subst h3;simp
    ·simp [h0,h1,h2,h3]
theorem info_Put_val (k l c:Int):(info_Put k l c).1=iVal k l c:=by
 unfold iVal
 rw [←iRight_eq]
 cases h:info_right k l c with
 |true=>rw [info_Put_eq h];rfl
 |false=>rw [info_Put_no h];rfl
theorem iVal_bd (k l c:Int):bd32 (iVal k l c):=by
 unfold iVal
 cases h:iRight k l c with
 |false=>exact (⟨by decide,by decide⟩:(0:Int)≤0∧(0:Int)<4294967296)
 |true=>
  rw [←iRight_eq,info_right_iff] at h
  simp only [cond_true]
  unfold bd32
  omega
theorem info_Get_i {v:Int} (h:bd32 v):(info_Get v).1=(iGet v).k∧(info_Get v).2.1=(iGet v).l∧(info_Get v).2.2.1=(iGet v).c:=by
 rw [info_Get_eq h.1 h.2]
 unfold iGet
 rw [←iRight_eq]
 cases info_right (v%16) (v/16%4096) (v/65536)<;>exact ⟨rfl,rfl,rfl⟩
theorem r09_Get_i {v:Int} (h:bd32 v):(r09_Get v).1=(iGet v).k∧(r09_Get v).2.1=(iGet v).l∧(r09_Get v).2.2.1=(iGet v).c:=by
 rw [r09_Get_eq h.1 h.2]
 unfold iGet
 rw [←iRight_eq]
 cases info_right (v%16) (v/16%4096) (v/65536)<;>exact ⟨rfl,rfl,rfl⟩
theorem iGet_right (v:Int):iRight (iGet v).k (iGet v).l (iGet v).c=true:=by
 unfold iGet
 cases h:iRight (v%16) (v/16%4096) (v/65536) with
 |true=>exact h
 |false=>rfl
def lenN (n:Nat):Int:=if n=0 then 0 else (Nat.log2 n:Int)+1
theorem lenN_tab:∀i:Fin 256,sAt SlLow_bytes0 (i.val:Int)=lenN i.val:=by decide+kernel
theorem lenN_div {n k:Nat} (h:2^k≤n):lenN n=lenN (n/2^k)+k:=by
 induction k generalizing n with
 |zero=>simp
 |succ k ih=>
  have hp:0<2^k:=Nat.pow_pos (by decide)
  rw [Nat.pow_succ] at h
  have h1:2^k≤n/2:=by omega
  have h2:=ih h1
  have e:n/2^(k+1)=n/2/2^k:=by rw [Nat.pow_succ,oC,Nat.div_div_eq_div_mul]
  rw [e]
  have h3:lenN n=lenN (n/2)+1:=by
   unfold lenN
   rw [if_neg (by omega),if_neg (by omega),Nat.log2_def,if_pos (by omega)]
   push_cast;rfl
  rw [h3,h2];push_cast;omega
theorem tab_eq {z:Int} (h0:0≤z) (h1:z<256):sAt SlLow_bytes0 (iA kR z)=lenN z.toNat:=by
 have e:iA kR z=z:=by rw [IntKind.wrap_u8];omega
 rw [e]
 obtain ⟨m,rfl⟩:∃m:Nat,z=m:=⟨z.toNat,by omega⟩
 rw [kT]
 exact lenN_tab ⟨m,by omega⟩
theorem fdiv_nat (z:Int) (k:Nat) (h0:0≤z) (hk:0<k):jS z (k:Int)=((z.toNat/k:Nat):Int):=by
 rw [mH _ (by omega)]
 obtain ⟨m,rfl⟩:∃m:Nat,z=m:=⟨z.toNat,by omega⟩
 simp
theorem lenN_le {n:Nat}:lenN n≤n∧0≤lenN n:=by
 unfold lenN
 split
 ·omega
 ·have:= @Nat.log2_lt n n (by omega)
  have h:=this.2 pT
  omega
theorem lenN_b {n k:Nat} (h:n<2^k):lenN n≤k:=by
 unfold lenN
 split
 ·omega
 ·have:=(@Nat.log2_lt n k (by omega)).2 h
  omega
theorem len64_tail {c x:Int} {n:Nat} (hx:x=(n:Int)) (hn:n<65536) (hc:0≤c∧c≤48):
 (bif decide (x≥256) then iA iB ((c+8)+iA iB (sAt SlLow_bytes0 (iA kR (jS x 256)))) else iA iB (c+iA iB (sAt SlLow_bytes0 (iA kR x))))=c+lenN n:=by
 subst hx
 have hb:=lenN_b (n:=n) (k:=16) (by omega)
 have hb0:=(lenN_le (n:=n)).2
 by_cases h:256≤n
 ·have e:decide ((n:Int)≥256)=true:=by simp;omega
  rw [e,cond_true]
  have e2:jS (n:Int) 256=((n/256:Nat):Int):=fdiv_nat (n:Int) 256 (by omega) (by decide)
  rw [e2,tab_eq (by omega) (by omega)]
  have e3:((n/256:Nat):Int).toNat=n/256:=by omega
  rw [e3]
  have h8:=lenN_div (n:=n) (k:=8) (by omega)
  have hb2:=(lenN_le (n:=n/256)).2
  have:(2:Nat)^8=256:=rfl
  rw [this] at h8
  rw [w64 (n:=lenN (n/256)) (by omega),w64 (by omega)]
  omega
 ·have e:decide ((n:Int)≥256)=false:=by simp;omega
  rw [e,cond_false,tab_eq (by omega) (by omega),kT,w64 (n:=lenN n) (by omega),w64 (by omega)]
theorem bits_Len64_eq {x:Int} (h0:0≤x) (h1:x<18446744073709551616):bits_Len64 x=lenN x.toNat:=by
 obtain ⟨n,rfl⟩:∃n:Nat,x=n:=⟨x.toNat,by omega⟩
 rw [kT]
 unfold bits_Len64
 have f32:∀m:Nat,jS (m:Int) 4294967296=((m/4294967296:Nat):Int):= λm=>fdiv_nat (m:Int) 4294967296 (by omega) (by decide)
 have f16:∀m:Nat,jS (m:Int) 65536=((m/65536:Nat):Int):= λm=>fdiv_nat (m:Int) 65536 (by omega) (by decide)
 by_cases hA:4294967296≤n
 ·have e:decide ((n:Int)≥4294967296)=true:=by simp;omega
  rw [e,cond_true,f32]
  have h32:=lenN_div (n:=n) (k:=32) (by omega)
  have:(2:Nat)^32=4294967296:=rfl
  rw [this] at h32
  generalize hm:n/4294967296=m at*
  have hmb:m<4294967296:=by omega
  by_cases hB:65536≤m
  ·have e:decide ((m:Int)≥65536)=true:=by simp;omega
   rw [e,cond_true,f16]
   have h16:=lenN_div (n:=m) (k:=16) (by omega)
   have:(2:Nat)^16=65536:=rfl
   rw [this] at h16
   have:=len64_tail (c:=48) (x:=((m/65536:Nat):Int)) rfl (by omega) (by omega)
   rw [h32,h16]
   exact this.trans (by push_cast;omega)
  ·have e:decide ((m:Int)≥65536)=false:=by simp;omega
   rw [e,cond_false]
   have:=len64_tail (c:=32) (x:=(m:Int)) rfl (by omega) (by omega)
   rw [h32]
   exact this.trans (by push_cast;omega)
 ·have e:decide ((n:Int)≥4294967296)=false:=by simp;omega
  rw [e,cond_false]
  by_cases hB:65536≤n
  ·have e:decide ((n:Int)≥65536)=true:=by simp;omega
   rw [e,cond_true,f16]
   have h16:=lenN_div (n:=n) (k:=16) (by omega)
   have:(2:Nat)^16=65536:=rfl
   rw [this] at h16
   have:=len64_tail (c:=16) (x:=((n/65536:Nat):Int)) rfl (by omega) (by omega)
   rw [h16]
   exact this.trans (by push_cast;omega)
  ·have e:decide ((n:Int)≥65536)=false:=by simp;omega
   rw [e,cond_false]
   have:=len64_tail (c:=0) (x:=(n:Int)) rfl (by omega) (by omega)
   have h2:=this.trans (Int.zero_add _)
   rw [←h2]
   by_cases h8:256≤n
   ·have e:decide ((n:Int)≥256)=true:=by simp;omega
    rw [e];rfl
   ·have e:decide ((n:Int)≥256)=false:=by simp;omega
    rw [e];simp
theorem half_Log_eq {n:Int} (h:n≤9223372036854775807):half_Log n=logI n:=by
 unfold half_Log
 by_cases h1:n<1
 ·rw [logI_lt h1];simp [h1]
 ·have e:decide (n<1)=false:=by simp;omega
  rw [e,cond_false,wu64 (by omega),bits_Len64_eq (by omega) (by omega)]
  unfold lenN logI
  rw [if_neg (by omega),if_neg (by omega),w64]
  ·omega
  ·have:=(@Nat.log2_lt n.toNat 63 (by omega)).2 (by omega)
   omega
end
section
open Go.Sl
def link_page (s:VS) (t p h hd g:Int):Bool:=decide (g≥(0:Int))&&decide (g<p)
def link_page_out (r_:Bool):List Value→Value:= λss=> .bool (r_)
def link_page_nw (p_0:Addr) (s:VS) (r_:Bool):List (Chunk Sg):=[.obj p_0 (.view s)]
def link_page_rows (r_:Bool):List (Mk Sg):=[]
section
variable (s:VS) (t p h hd g:Int) (p_0:Addr)
theorem link_page_calls {E_:Ev} {G_:Hp} {w_:World} (hS:Sat E_ G_ w_ [Dg p_0 ((.view s))]):Calls Tryz.prog 108 #[(.agg #[.pointer (some p_0), .int .i64 t, .int .i64 p, .int .i64 h, .int .i64 hd]),(.int .i64 g)] w_ (Post Dg E_ G_ (link_page_out (link_page s t p h hd g)) (link_page_nw p_0 s (link_page s t p h hd g)) (link_page_rows (link_page s t p h hd g))):=
 calls_post Dg T_r01_Log_ok (I:=[]) Tryz.func108 mix (B:=bodyOf Tryz.f108) (by kernel_rfl) [(.agg #[.pointer (some p_0), .int .i64 t, .int .i64 p, .int .i64 h, .int .i64 hd]),(.int .i64 g)] [.many [.pt 0 .obj, .no, .no, .no, .no], .no] (by kernel_rfl) (objs:=[.obj p_0 (.view s)]) (ros:=[]) (psOk_cons (by simp [pOk,psOk,cOk]) (psOk_cons pOk_no (psOk_nil))) (by kernel_rfl) (trivial) hS 400
  (t:=Tree.fresh λb=>Tree.ret (Value.bool (decide (g≥(0:Int))&&decide (g<p))) pn_ [kQ p_0 (Sg.view s),kc_ b 158 [(jB (some p_0),po_ 0),(vi_ t,pn_),(vi_ p,pn_),(vi_ h,pn_),(vi_ hd,pn_)]])
  (by kernel_rfl)
  (λb0_0=>RetOk.at (outf:=link_page_out) (nwf:=link_page_nw p_0 _) (rowsf:=link_page_rows) (r:=decide (g≥(0:Int))&&decide (g<p)) (by first|exact Eq.symm rfl|(simp only [link_page,cond_true,cond_false];done)|(exfalso;simp_all;done)|decide) ⟨[],[0],(by decide),rfl,rfl,⟨.inl rfl,trivial⟩⟩)
end
def link_page_e:Entry Sg:= λ
 |[(.agg ⟨[.pointer (some p_0), .int .i64 t, .int .i64 p, .int .i64 h, .int .i64 hd]⟩, .many [.obj (.view s), .none, .none, .none, .none]),(.int .i64 g,_)]=>some ⟨(link_page s t p h hd g), λ(r_:Bool)=>⟨[],none,[], λss=> .bool (r_), λk_=> .no⟩⟩
 |_=>none
theorem link_page_ok:EntryOk Dg Tryz.prog 108 link_page_e:=by
 intro args c r h hr_
 unfold link_page_e at h
 split at h
 ·injection h with h;subst h;subst hr_
  refine ⟨λK acs _=>pOk_no, λhpre E G w hi hS=>?_⟩
  exact entry_post Dg (by exact rfl) (link_page_calls _ _ _ _ _ _ _ hS)
 ·cases h
def T_link_page:List (Nat×Entry Sg):=(108,link_page_e)::T_r01_Log
theorem T_link_page_ok:TableOk Dg Tryz.prog T_link_page:=TableOk.cons Dg link_page_ok T_r01_Log_ok
def link_next (s:VS) (t p h hd g:Int):Int:=place_Next t p h g
def link_next_out (r_:Int):List Value→Value:= λss=> .int .i64 (r_)
def link_next_nw (p_0:Addr) (s:VS) (r_:Int):List (Chunk Sg):=[.obj p_0 (.view s)]
def link_next_rows (r_:Int):List (Mk Sg):=[]
section
variable (s:VS) (t p h hd g:Int) (p_0:Addr)
theorem link_next_calls {E_:Ev} {G_:Hp} {w_:World} (hS:Sat E_ G_ w_ [Dg p_0 ((.view s))]):Calls Tryz.prog 109 #[(.agg #[.pointer (some p_0), .int .i64 t, .int .i64 p, .int .i64 h, .int .i64 hd]),(.int .i64 g)] w_ (Post Dg E_ G_ (link_next_out (link_next s t p h hd g)) (link_next_nw p_0 s (link_next s t p h hd g)) (link_next_rows (link_next s t p h hd g))):=
 calls_post Dg T_link_page_ok (I:=[]) Tryz.func109 mix (B:=bodyOf Tryz.f109) (by kernel_rfl) [(.agg #[.pointer (some p_0), .int .i64 t, .int .i64 p, .int .i64 h, .int .i64 hd]),(.int .i64 g)] [.many [.pt 0 .obj, .no, .no, .no, .no], .no] (by kernel_rfl) (objs:=[.obj p_0 (.view s)]) (ros:=[]) (psOk_cons (by simp [pOk,psOk,cOk]) (psOk_cons pOk_no (psOk_nil))) (by kernel_rfl) (trivial) hS 400
  (t:=Tree.fresh λb=>Tree.ret (vi_ (place_Next t p h g)) pn_ [kQ p_0 (Sg.view s),kc_ b 158 [(jB (some p_0),po_ 0),(vi_ t,pn_),(vi_ p,pn_),(vi_ h,pn_),(vi_ hd,pn_)]])
  (by kernel_rfl)
  (λb0_0=>RetOk.at (outf:=link_next_out) (nwf:=link_next_nw p_0 _) (rowsf:=link_next_rows) (r:=place_Next t p h g) (by first|exact Eq.symm rfl|(simp only [link_next,cond_true,cond_false];done)|(exfalso;simp_all;done)|decide) ⟨[],[0],(by decide),rfl,rfl,⟨.inl rfl,trivial⟩⟩)
end
def link_next_e:Entry Sg:= λ
 |[(.agg ⟨[.pointer (some p_0), .int .i64 t, .int .i64 p, .int .i64 h, .int .i64 hd]⟩, .many [.obj (.view s), .none, .none, .none, .none]),(.int .i64 g,_)]=>some ⟨(link_next s t p h hd g), λ(r_:Int)=>⟨[],none,[], λss=> .int .i64 (r_), λk_=> .no⟩⟩
 |_=>none
theorem link_next_ok:EntryOk Dg Tryz.prog 109 link_next_e:=by
 intro args c r h hr_
 unfold link_next_e at h
 split at h
 ·injection h with h;subst h;subst hr_
  refine ⟨λK acs _=>pOk_no, λhpre E G w hi hS=>?_⟩
  exact entry_post Dg (by exact rfl) (link_next_calls _ _ _ _ _ _ _ hS)
 ·cases h
def T_link_next:List (Nat×Entry Sg):=(109,link_next_e)::T_link_page
theorem T_link_next_ok:TableOk Dg Tryz.prog T_link_next:=TableOk.cons Dg link_next_ok T_link_page_ok
def link_prev (s:VS) (t p h hd g:Int):Int:=place_Prev t p h g
def link_prev_out (r_:Int):List Value→Value:= λss=> .int .i64 (r_)
def link_prev_nw (p_0:Addr) (s:VS) (r_:Int):List (Chunk Sg):=[.obj p_0 (.view s)]
def link_prev_rows (r_:Int):List (Mk Sg):=[]
section
variable (s:VS) (t p h hd g:Int) (p_0:Addr)
theorem link_prev_calls {E_:Ev} {G_:Hp} {w_:World} (hS:Sat E_ G_ w_ [Dg p_0 ((.view s))]):Calls Tryz.prog 110 #[(.agg #[.pointer (some p_0), .int .i64 t, .int .i64 p, .int .i64 h, .int .i64 hd]),(.int .i64 g)] w_ (Post Dg E_ G_ (link_prev_out (link_prev s t p h hd g)) (link_prev_nw p_0 s (link_prev s t p h hd g)) (link_prev_rows (link_prev s t p h hd g))):=
 calls_post Dg T_link_next_ok (I:=[]) Tryz.func110 mix (B:=bodyOf Tryz.f110) (by kernel_rfl) [(.agg #[.pointer (some p_0), .int .i64 t, .int .i64 p, .int .i64 h, .int .i64 hd]),(.int .i64 g)] [.many [.pt 0 .obj, .no, .no, .no, .no], .no] (by kernel_rfl) (objs:=[.obj p_0 (.view s)]) (ros:=[]) (psOk_cons (by simp [pOk,psOk,cOk]) (psOk_cons pOk_no (psOk_nil))) (by kernel_rfl) (trivial) hS 400
  (t:=Tree.fresh λb=>Tree.ret (vi_ (place_Prev t p h g)) pn_ [kQ p_0 (Sg.view s),kc_ b 158 [(jB (some p_0),po_ 0),(vi_ t,pn_),(vi_ p,pn_),(vi_ h,pn_),(vi_ hd,pn_)]])
  (by kernel_rfl)
  (λb0_0=>RetOk.at (outf:=link_prev_out) (nwf:=link_prev_nw p_0 _) (rowsf:=link_prev_rows) (r:=place_Prev t p h g) (by first|exact Eq.symm rfl|(simp only [link_prev,cond_true,cond_false];done)|(exfalso;simp_all;done)|decide) ⟨[],[0],(by decide),rfl,rfl,⟨.inl rfl,trivial⟩⟩)
end
def link_prev_e:Entry Sg:= λ
 |[(.agg ⟨[.pointer (some p_0), .int .i64 t, .int .i64 p, .int .i64 h, .int .i64 hd]⟩, .many [.obj (.view s), .none, .none, .none, .none]),(.int .i64 g,_)]=>some ⟨(link_prev s t p h hd g), λ(r_:Int)=>⟨[],none,[], λss=> .int .i64 (r_), λk_=> .no⟩⟩
 |_=>none
theorem link_prev_ok:EntryOk Dg Tryz.prog 110 link_prev_e:=by
 intro args c r h hr_
 unfold link_prev_e at h
 split at h
 ·injection h with h;subst h;subst hr_
  refine ⟨λK acs _=>pOk_no, λhpre E G w hi hS=>?_⟩
  exact entry_post Dg (by exact rfl) (link_prev_calls _ _ _ _ _ _ _ hS)
 ·cases h
def T_link_prev:List (Nat×Entry Sg):=(110,link_prev_e)::T_link_next
theorem T_link_prev_ok:TableOk Dg Tryz.prog T_link_prev:=TableOk.cons Dg link_prev_ok T_link_next_ok
def link_to (q:Int):Int:=iA iB (iA iB q-(1:Int))
def link_to_out (r_:Int):List Value→Value:= λss=> .int .i64 (r_)
def link_to_nw (r_:Int):List (Chunk Sg):=[]
def link_to_rows (r_:Int):List (Mk Sg):=[]
section
variable (q:Int)
theorem link_to_calls {E_:Ev} {G_:Hp} {w_:World} (hS:Sat E_ G_ w_ []):Calls Tryz.prog 111 #[(.int .u32 q)] w_ (Post Dg E_ G_ (link_to_out (link_to q)) (link_to_nw (link_to q)) (link_to_rows (link_to q))):=
 calls_post Dg T_link_prev_ok (I:=[]) Tryz.func111 mix (B:=bodyOf Tryz.f111) (by kernel_rfl) [(.int .u32 q)] [.no] (by kernel_rfl) (objs:=[]) (ros:=[]) (psOk_cons pOk_no (psOk_nil)) (by kernel_rfl) (trivial) hS 400
  (t:=Tree.ret (vi_ (iA iB (iA iB q-(1:Int)))) pn_ [])
  (by kernel_rfl)
  (RetOk.at (outf:=link_to_out) (nwf:=link_to_nw) (rowsf:=link_to_rows) (r:=iA iB (iA iB q-(1:Int))) (by first|exact Eq.symm rfl|(simp only [link_to,cond_true,cond_false];done)|(exfalso;simp_all;done)|decide) ⟨[],[],(by decide),rfl,rfl,trivial⟩)
end
def link_to_e:Entry Sg:= λ
 |[(.int .u32 q,_)]=>some ⟨(link_to q), λ(r_:Int)=>⟨[],none,[], λss=> .int .i64 (r_), λk_=> .no⟩⟩
 |_=>none
theorem link_to_ok:EntryOk Dg Tryz.prog 111 link_to_e:=by
 intro args c r h hr_
 unfold link_to_e at h
 split at h
 ·injection h with h;subst h;subst hr_
  refine ⟨λK acs _=>pOk_no, λhpre E G w hi hS=>?_⟩
  exact entry_post Dg (by exact rfl) (link_to_calls _ hS)
 ·cases h
def T_link_to:List (Nat×Entry Sg):=(111,link_to_e)::T_link_prev
theorem T_link_to_ok:TableOk Dg Tryz.prog T_link_to:=TableOk.cons Dg link_to_ok T_link_prev_ok
end
section
open Go.Sl
theorem wu32_bd (x:Int):bd32 (iA iW x):=by
 rw [nO]
 exact ⟨by omega,by omega⟩
theorem zero_bd:bd32 0:=⟨by decide,by decide⟩
theorem wrapu_nv (x:Int):iA iW x=nv x:=by rw [nO];rfl
theorem w64g (s:VS) (i:Int):iA iB (s.get i)=s.get i:=by
 have:=s.get_bd i
 exact w64 (by omega)
theorem w64g1 (s:VS) (i:Int):iA iB (s.get i-1)=s.get i-1:=by
 have:=s.get_bd i
 exact w64 (by omega)
theorem nvw (g:Int):nv (iA iB (g+1))=nv (g+1):=by rw [nQ];unfold nv;omega
theorem nvw2 (g:Int):nv (nv g+1)=nv (g+1):=by unfold nv;omega
theorem page_ne (t p h g:Int):(decide (g<0)||decide (g≥p))=!Cf.page ⟨t,p,h⟩ g:=by
 apply lT.2
 simp only [Cf.page,lG,decide_eq_true_eq,jO,mD,decide_eq_false_iff_not]
 omega
theorem page_in (t p h g n:Int) (hp:p≤9223372036854775807):(!Cf.page ⟨t,p,h⟩ g||decide (n<1)||decide (n>iA iB (p-g)))=!(Cf.page ⟨t,p,h⟩ g&&(decide (1≤n)&&decide (n≤p-g))):=by
 cases hc:Cf.page ⟨t,p,h⟩ g with
 |false=>rfl
 |true=>
  simp only [Cf.page,iE,decide_eq_true_eq] at hc
  rw [w64 (n:=p-g) (by omega)]
  apply lT.2
  simp only [kU,lY,nR,lG,decide_eq_true_eq,jO,mD,decide_eq_false_iff_not]
  omega
theorem infoG (s:VS) (i:Int):(info_Get (s.get i)).1=(iGet (s.get i)).k∧(info_Get (s.get i)).2.1=(iGet (s.get i)).l∧(info_Get (s.get i)).2.2.1=(iGet (s.get i)).c:=info_Get_i (VS.get_bd s i)
theorem infoG1 (s:VS) (i:Int):(info_Get (s.get i)).1=(iGet (s.get i)).k:=(infoG s i).1
theorem infoG2 (s:VS) (i:Int):(info_Get (s.get i)).2.1=(iGet (s.get i)).l:=(infoG s i).2.1
theorem infoG3 (s:VS) (i:Int):(info_Get (s.get i)).2.2.1=(iGet (s.get i)).c:=(infoG s i).2.2
theorem rinfoG (s:VS) (i:Int):(r09_Get (s.get i)).1=(iGet (s.get i)).k∧(r09_Get (s.get i)).2.1=(iGet (s.get i)).l∧(r09_Get (s.get i)).2.2.1=(iGet (s.get i)).c:=r09_Get_i (VS.get_bd s i)
theorem rinfoG1 (s:VS) (i:Int):(r09_Get (s.get i)).1=(iGet (s.get i)).k:=(rinfoG s i).1
theorem rinfoG2 (s:VS) (i:Int):(r09_Get (s.get i)).2.1=(iGet (s.get i)).l:=(rinfoG s i).2.1
theorem rinfoG3 (s:VS) (i:Int):(r09_Get (s.get i)).2.2.1=(iGet (s.get i)).c:=(rinfoG s i).2.2
theorem link_page_eq (s:VS) (t p h hd g:Int):link_page s t p h hd g=Cf.page ⟨t,p,h⟩ g:=rfl
def link_Push (s:VS) (t p h hd g:Int):VS:=((pPush ⟨t,p,h⟩ hd g).run s).1
abbrev c_link_Push:Ct Sg:=⟨some wView,false,[.agg [.i .i64, .i .i64, .i .i64], .i .i64, .i .i64], .skip⟩
def e_link_Push:Entry Sg:=entC c_link_Push link_Push (λ_ _ _ _ _ _=>[])
abbrev O3 (r10:VS) (hd g:Int) (R_:VS→Prop):Prop:=(∀r12:VS,r12=(VS.set r10 hd (iA iW (iA iB (g+1))))→(aw_ (bd32 (iA iW (iA iB (g+1)))) (R_ (r12))))
def link_Push_w (s:VS) (t p h hd g:Int) (R_:VS→Prop):Prop:=(∀r2:Bool,r2=(link_page s t p h hd g)→(bw_ (!r2) (R_ (s)) (∀r4:VS×Int,r4=((VS.read s hd,VS.get s hd))→(∀r5:VS,r5=(VS.set r4.1 (link_next r4.1 t p h hd g) r4.2)→(aw_ (bd32 r4.2) (∀r7:VS,r7=(VS.set r5 (link_prev r5 t p h hd g) 0)→(aw_ (bd32 0) (bw_ (r4.2 !=0) (∀r10:VS,r10=(VS.set r7 (link_prev r7 t p h hd (link_to r4.2)) (iA iW (iA iB (g+1))))→(aw_ (bd32 (iA iW (iA iB (g+1)))) (O3 r10 hd g R_))) (O3 r7 hd g R_)))))))))
theorem link_Push_begin (s:VS) (t p h hd g:Int):link_Push_w s t p h hd g (λr__=>r__=(link_Push s t p h hd g)):=by
 unfold link_Push_w O3
 repeat' first
  |(refine λr hr=>?_;subst hr)
  |refine ⟨(by first|exact wu32_bd _|exact VS.get_bd _ _|exact zero_bd|exact iVal_bd _ _ _|exact nv_bd _|(rw [info_Put_val];exact iVal_bd _ _ _)|(rw [r09_Value_eq];exact iVal_bd _ _ _)|assumption|omega), λ_=>?_⟩
  |refine ⟨λhc=>?_, λhc=>?_⟩
  |(refine λhr=>?_;subst hr)
  |fail
 all_goals
  simp only [link_page_eq,page_ne t p h,link_next,link_prev,place_Next_eq,place_Prev_eq,r07_Next_eq,r07_Prev_eq,link_to,w64g,w64g1,wrapu_nv,nvw,nvw2,bne,jO,jY,reduceCtorEq] at*
 all_goals
  skip
 all_goals
  simp only [link_Push,pPush,Pg.run_get,Pg.run_put,Pg.run_ret,Pg.run_bind,Pg.run_cond,gt_iff_lt,cond_true,cond_false, *]
 all_goals
  try rfl
theorem link_Push_ok:EOk 76 e_link_Push:=
 ent_w0 Dg T_link_to_ok (I:=[2999998]) Tryz.func76 mix (B:=bodyOf Tryz.f76) (by kernel_rfl) rfl (by kernel_rfl) 400
  λ_ s t p h hd g hb hp=>⟨_, λ_ _ _=>by kernel_rfl,link_Push_begin s t p h hd g⟩
def T_link_Push:Tb:=(76,e_link_Push)::T_link_to
theorem T_link_Push_ok:TOk T_link_Push:=tc_ link_Push_ok T_link_to_ok
def link_Pull (s:VS) (t p h hd g:Int):VS:=((pPull ⟨t,p,h⟩ hd g).run s).1
abbrev c_link_Pull:Ct Sg:=⟨some wView,false,[.agg [.i .i64, .i .i64, .i .i64], .i .i64, .i .i64], .skip⟩
def e_link_Pull:Entry Sg:=entC c_link_Pull link_Pull (λ_ _ _ _ _ _=>[])
abbrev Nu (r10:VS) (t p h hd g:Int) (R_:VS→Prop):Prop:=(∀r12:VS,r12=(VS.set r10 (link_next r10 t p h hd g) 0)→(aw_ (bd32 0) (∀r14:VS,r14=(VS.set r12 (link_prev r12 t p h hd g) 0)→(aw_ (bd32 0) (R_ (r14))))))
def link_Pull_w (s:VS) (t p h hd g:Int) (R_:VS→Prop):Prop:=(∀r2:Bool,r2=(link_page s t p h hd g)→(bw_ (!r2) (R_ (s)) (∀r4:VS×Int,r4=((VS.read s (link_next s t p h hd g),VS.get s (link_next s t p h hd g)))→(∀r5:VS×Int,r5=((VS.read r4.1 (link_prev r4.1 t p h hd g),VS.get r4.1 (link_prev r4.1 t p h hd g)))→(bw_ (r5.2==0) (∀r7:VS,r7=(VS.set r5.1 hd r4.2)→(aw_ (bd32 r4.2) (bw_ (r4.2 !=0) (∀r10:VS,r10=(VS.set r7 (link_prev r7 t p h hd (link_to r4.2)) r5.2)→(aw_ (bd32 r5.2) (Nu r10 t p h hd g R_))) (Nu r7 t p h hd g R_)))) (∀r7:VS,r7=(VS.set r5.1 (link_next r5.1 t p h hd (link_to r5.2)) r4.2)→(aw_ (bd32 r4.2) (bw_ (r4.2 !=0) (∀r10:VS,r10=(VS.set r7 (link_prev r7 t p h hd (link_to r4.2)) r5.2)→(aw_ (bd32 r5.2) (Nu r10 t p h hd g R_))) (Nu r7 t p h hd g R_)))))))))
theorem link_Pull_begin (s:VS) (t p h hd g:Int):link_Pull_w s t p h hd g (λr__=>r__=(link_Pull s t p h hd g)):=by
 unfold link_Pull_w Nu
 repeat' first
  |(refine λr hr=>?_;subst hr)
  |refine ⟨(by first|exact wu32_bd _|exact VS.get_bd _ _|exact zero_bd|exact iVal_bd _ _ _|exact nv_bd _|(rw [info_Put_val];exact iVal_bd _ _ _)|(rw [r09_Value_eq];exact iVal_bd _ _ _)|assumption|omega), λ_=>?_⟩
  |refine ⟨λhc=>?_, λhc=>?_⟩
  |(refine λhr=>?_;subst hr)
  |fail
 all_goals
  simp only [link_page_eq,page_ne t p h,link_next,link_prev,place_Next_eq,place_Prev_eq,r07_Next_eq,r07_Prev_eq,link_to,w64g,w64g1,wrapu_nv,nvw,nvw2,bne,jO,jY,reduceCtorEq] at*
 all_goals
  skip
 all_goals
  simp only [link_Pull,pPull,Pg.run_get,Pg.run_put,Pg.run_ret,Pg.run_bind,Pg.run_cond,gt_iff_lt,cond_true,cond_false, *]
 all_goals
  try rfl
theorem link_Pull_ok:EOk 77 e_link_Pull:=
 ent_w0 Dg T_link_Push_ok (I:=[2999998]) Tryz.func77 mix (B:=bodyOf Tryz.f77) (by kernel_rfl) rfl (by kernel_rfl) 400
  λ_ s t p h hd g hb hp=>⟨_, λ_ _ _=>by kernel_rfl,link_Pull_begin s t p h hd g⟩
def T_link_Pull:Tb:=(77,e_link_Pull)::T_link_Push
theorem T_link_Pull_ok:TOk T_link_Pull:=tc_ link_Pull_ok T_link_Push_ok
def bin_Of (n:Int):Int:=binOf n
def bin_Of_v (n:Int):Int:=(bif decide (n>1024) then (-1) else half_Log n)
abbrev c_bin_Of:Ct Sg:=⟨none,false,[.i .i64], .i .i64⟩
def e_bin_Of:Entry Sg:=entC c_bin_Of bin_Of (λ_=>[])
theorem bin_Of_eq (n:Int):bin_Of_v n=(bin_Of n):=by
 unfold bin_Of_v bin_Of binOf
 by_cases hn:n>1024
 ·simp [hn]
 ·have e:decide (n>1024)=false:=by simpa using hn
  rw [e];exact half_Log_eq (by omega)
theorem bin_Of_ok:EOk 147 e_bin_Of:=
 ent_ok Dg T_link_Pull_ok (I:=[]) Tryz.func147 mix (B:=bodyOf Tryz.f147) (by kernel_rfl) rfl (by kernel_rfl) 400
  λ_ n hb hp=>⟨(bin_Of_v n), .t, λ_ _ _=>by kernel_rfl,trivial,bin_Of_eq n⟩
def T_bin_Of:Tb:=(147,e_bin_Of)::T_link_Pull
theorem T_bin_Of_ok:TOk T_bin_Of:=tc_ bin_Of_ok T_link_Pull_ok
def bin_page (t p h g:Int):Bool:=Cf.page ⟨t,p,h⟩ g
def bin_page_v (t p h g:Int):Bool:=decide (g≥0)&&decide (g<p)
abbrev c_bin_page:Ct Sg:=⟨none,false,[.agg [.i .i64, .i .i64, .i .i64], .i .i64], .b⟩
def e_bin_page:Entry Sg:=entC c_bin_page bin_page (λ_ _ _ _=>[])
theorem bin_page_eq (t p h g:Int):bin_page_v t p h g=(bin_page t p h g):=by
 rfl
theorem bin_page_ok:EOk 145 e_bin_page:=
 ent_ok Dg T_bin_Of_ok (I:=[]) Tryz.func145 mix (B:=bodyOf Tryz.f145) (by kernel_rfl) rfl (by kernel_rfl) 400
  λ_ t p h g hb hp=>⟨(bin_page_v t p h g), .t, λ_ _ _=>by kernel_rfl,trivial,bin_page_eq t p h g⟩
def T_bin_page:Tb:=(145,e_bin_page)::T_bin_Of
theorem T_bin_page_ok:TOk T_bin_page:=tc_ bin_page_ok T_bin_Of_ok
def bin_Add (s:VS) (t p h g n:Int):VS:=((pAdd ⟨t,p,h⟩ g n).run s).1
abbrev c_bin_Add:Ct Sg:=⟨some wView,false,[.agg [.i .i64, .i .i64, .i .i64], .i .i64, .i .i64], .skip⟩
def e_bin_Add:Entry Sg:=entC c_bin_Add bin_Add (λs t p h g n=>[p≤1024])
def bin_Add_w (s:VS) (t p h g n:Int) (R_:VS→Prop):Prop:=(∀r1:Bool,r1=(bin_page t p h g)→(bw_ (!r1||decide (n<1)||decide (n>iA iB (p-g))) (R_ (s)) (∀r3:Int×Bool,r3=(info_Put 1 n 0)→(∀r4:Int,r4=(place_Info t p h g)→(∀r5:VS,r5=(VS.set s r4 r3.1)→(aw_ (bd32 r3.1) (∀r7:Int,r7=(place_Foot t p h (iA iB (iA iB (g+n)-1)))→(∀r8:VS,r8=(VS.set r5 r7 (iA iW (iA iB (g+1))))→(aw_ (bd32 (iA iW (iA iB (g+1)))) (∀r10:VS,r10=(link_Push r8 t p h (place_Bin (bin_Of n)) g)→(R_ (r10))))))))))))
theorem bin_Add_begin (s:VS) (t p h g n:Int) (hp0:p≤1024):bin_Add_w s t p h g n (λr__=>r__=(bin_Add s t p h g n)):=by
 unfold bin_Add_w
 repeat' first
  |(refine λr hr=>?_;subst hr)
  |refine ⟨(by first|exact wu32_bd _|exact VS.get_bd _ _|exact zero_bd|exact iVal_bd _ _ _|exact nv_bd _|(rw [info_Put_val];exact iVal_bd _ _ _)|(rw [r09_Value_eq];exact iVal_bd _ _ _)|assumption|omega), λ_=>?_⟩
  |refine ⟨λhc=>?_, λhc=>?_⟩
  |(refine λhr=>?_;subst hr)
  |fail
 all_goals
  simp only [link_page_eq,page_ne t p h,link_next,link_prev,place_Next_eq,place_Prev_eq,r07_Next_eq,r07_Prev_eq,link_to,w64g,w64g1,wrapu_nv,nvw,nvw2,bin_page,place_Info_eq,place_Foot_eq,r07_Info_eq,r07_Foot_eq,place_Bin_eq,r07_Bin_eq,info_Put_val,bin_Of,infoG1,infoG2,infoG3,rinfoG1,rinfoG2,rinfoG3,gt_iff_lt,page_in t p h g n (by omega),link_Push,bne,jO,jY,reduceCtorEq] at*
 all_goals
  skip
  try (have hx:=hc;simp only [iE,decide_eq_true_eq,Cf.page] at hx;rw [w64 (n:=g+n) (by omega),w64 (n:=g+n-1) (by omega)];clear hx)
 all_goals
  simp only [bin_Add,pAdd,Pg.run_get,Pg.run_put,Pg.run_ret,Pg.run_bind,Pg.run_cond,gt_iff_lt,cond_true,cond_false, *]
 all_goals
  try rfl
theorem bin_Add_ok:EOk 115 e_bin_Add:=
 ent_w0 Dg T_bin_page_ok (I:=[2999998]) Tryz.func115 mix (B:=bodyOf Tryz.f115) (by kernel_rfl) rfl (by kernel_rfl) 400
  λ_ s t p h g n hb hp=>⟨_, λ_ _ _=>by kernel_rfl,bin_Add_begin s t p h g n (hp _ (.head _))⟩
def T_bin_Add:Tb:=(115,e_bin_Add)::T_bin_page
theorem T_bin_Add_ok:TOk T_bin_Add:=tc_ bin_Add_ok T_bin_page_ok
def bin_free (s:VS) (t p h g:Int):VS×Int:=(pFree ⟨t,p,h⟩ g).run s
abbrev c_bin_free:Ct Sg:=⟨some wView,false,[.agg [.i .i64, .i .i64, .i .i64], .i .i64], .i .i64⟩
def e_bin_free:Entry Sg:=entC c_bin_free bin_free (λ_ _ _ _ _=>[])
def bin_free_w (s:VS) (t p h g:Int) (R_:VS×Int→Prop):Prop:=(∀r1:Int,r1=(place_Info t p h g)→(∀r2:VS×Int,r2=((VS.read s r1,VS.get s r1))→(∀r3:Int×Int×Int×Bool,r3=(info_Get r2.2)→(bw_ (r3.1 !=1) (R_ ((r2.1,0))) (R_ ((r2.1,r3.2.1)))))))
theorem bin_free_begin (s:VS) (t p h g:Int):bin_free_w s t p h g (λr__=>r__=(bin_free s t p h g)):=by
 unfold bin_free_w
 repeat' first
  |(refine λr hr=>?_;subst hr)
  |refine ⟨(by first|exact wu32_bd _|exact VS.get_bd _ _|exact zero_bd|exact iVal_bd _ _ _|exact nv_bd _|(rw [info_Put_val];exact iVal_bd _ _ _)|(rw [r09_Value_eq];exact iVal_bd _ _ _)|assumption|omega), λ_=>?_⟩
  |refine ⟨λhc=>?_, λhc=>?_⟩
  |(refine λhr=>?_;subst hr)
  |fail
 all_goals
  simp only [link_page_eq,page_ne t p h,link_next,link_prev,place_Next_eq,place_Prev_eq,r07_Next_eq,r07_Prev_eq,link_to,w64g,w64g1,wrapu_nv,nvw,nvw2,bin_page,place_Info_eq,place_Foot_eq,r07_Info_eq,r07_Foot_eq,place_Bin_eq,r07_Bin_eq,info_Put_val,bin_Of,infoG1,infoG2,infoG3,rinfoG1,rinfoG2,rinfoG3,gt_iff_lt,bne,jO,jY,reduceCtorEq] at*
 all_goals
  skip
 all_goals
  simp only [bin_free,pFree,Pg.run_get,Pg.run_put,Pg.run_ret,Pg.run_bind,Pg.run_cond,gt_iff_lt,cond_true,cond_false, *]
 all_goals
  try rfl
theorem bin_free_ok:EOk 160 e_bin_free:=
 ent_w0 Dg T_bin_Add_ok (I:=[2999998]) Tryz.func160 mix (B:=bodyOf Tryz.f160) (by kernel_rfl) rfl (by kernel_rfl) 400
  λ_ s t p h g hb hp=>⟨_, λ_ _ _=>by kernel_rfl,bin_free_begin s t p h g⟩
def T_bin_free:Tb:=(160,e_bin_free)::T_bin_Add
theorem T_bin_free_ok:TOk T_bin_free:=tc_ bin_free_ok T_bin_Add_ok
def bin_Drop (s:VS) (t p h g:Int):VS×Int:=(pDrop ⟨t,p,h⟩ g).run s
abbrev c_bin_Drop:Ct Sg:=⟨some wView,false,[.agg [.i .i64, .i .i64, .i .i64], .i .i64], .i .i64⟩
def e_bin_Drop:Entry Sg:=entC c_bin_Drop bin_Drop (λ_ _ _ _ _=>[])
def bin_Drop_w (s:VS) (t p h g:Int) (R_:VS×Int→Prop):Prop:=(∀r1:Bool,r1=(bin_page t p h g)→(bw_ (!r1) (R_ ((s,0))) (∀r3:VS×Int,r3=(bin_free s t p h g)→(bw_ (decide (r3.2>0)) (∀r5:VS,r5=(link_Pull r3.1 t p h (place_Bin (bin_Of r3.2)) g)→(R_ ((r5,r3.2)))) (R_ ((r3.1,r3.2)))))))
theorem bin_Drop_begin (s:VS) (t p h g:Int):bin_Drop_w s t p h g (λr__=>r__=(bin_Drop s t p h g)):=by
 unfold bin_Drop_w
 repeat' first
  |(refine λr hr=>?_;subst hr)
  |refine ⟨(by first|exact wu32_bd _|exact VS.get_bd _ _|exact zero_bd|exact iVal_bd _ _ _|exact nv_bd _|(rw [info_Put_val];exact iVal_bd _ _ _)|(rw [r09_Value_eq];exact iVal_bd _ _ _)|assumption|omega), λ_=>?_⟩
  |refine ⟨λhc=>?_, λhc=>?_⟩
  |(refine λhr=>?_;subst hr)
  |fail
 all_goals
  simp only [link_page_eq,page_ne t p h,link_next,link_prev,place_Next_eq,place_Prev_eq,r07_Next_eq,r07_Prev_eq,link_to,w64g,w64g1,wrapu_nv,nvw,nvw2,bin_page,place_Info_eq,place_Foot_eq,r07_Info_eq,r07_Foot_eq,place_Bin_eq,r07_Bin_eq,info_Put_val,bin_Of,infoG1,infoG2,infoG3,rinfoG1,rinfoG2,rinfoG3,gt_iff_lt,link_Pull,bin_free,bne,jO,jY,reduceCtorEq] at*
 all_goals
  skip
 all_goals
  simp only [bin_Drop,pDrop,Pg.run_get,Pg.run_put,Pg.run_ret,Pg.run_bind,Pg.run_cond,gt_iff_lt,cond_true,cond_false, *]
 all_goals
  try rfl
theorem bin_Drop_ok:EOk 144 e_bin_Drop:=
 ent_w0 Dg T_bin_free_ok (I:=[2999998]) Tryz.func144 mix (B:=bodyOf Tryz.f144) (by kernel_rfl) rfl (by kernel_rfl) 400
  λ_ s t p h g hb hp=>⟨_, λ_ _ _=>by kernel_rfl,bin_Drop_begin s t p h g⟩
def T_bin_Drop:Tb:=(144,e_bin_Drop)::T_bin_free
theorem T_bin_Drop_ok:TOk T_bin_Drop:=tc_ bin_Drop_ok T_bin_free_ok
end
section
open Go.Sl
theorem binOf_e (n:Int):bin_Of n=binOf n:=rfl
theorem free_e (s:VS) (t p h g:Int):bin_free s t p h g=(pFree ⟨t,p,h⟩ g).run s:=rfl
theorem n_in (n p:Int):(decide (1≤n)&&decide (n≤p))=!(decide (n<1)||decide (n>p)):=by
 apply lT.2
 simp only [iE,decide_eq_true_eq,jO,jH,decide_eq_false_iff_not]
 omega
theorem binOf_ge (n:Int): -1≤binOf n:=by
 unfold binOf
 cases decide (n>1024) with
 |true=>exact mC _
 |false=>exact logI_ge n
theorem binOf_le (n:Int):binOf n≤10:=by
 unfold binOf
 cases h:decide (n>1024) with
 |true=>exact (by decide:(-1:Int)≤10)
 |false=>
  have:n<2^11:=by
   have h':¬n>1024:=by simpa using h
   have:(2:Int)^11=2048:=by decide
   omega
  exact logI_le 11 n this
def bin_first (s:VS) (t p sh n:Int):VS×Int×Bool:=(Pg.get (cBin (binOf n)) λq=>pFirst ⟨t,p,sh⟩ n p.toNat (q-1)).run s
abbrev c_bin_first:Ct Sg:=⟨some wView,false,[.agg [.i .i64, .i .i64, .i .i64], .i .i64], .tup [.i .i64, .b]⟩
def e_bin_first:Entry Sg:=entC c_bin_first bin_first (λs t p sh n=>[p≤9223372036854775807])
def bin_first_w (s:VS) (t p sh n:Int) (Q0:VS→Int→Int→Prop) (R_:VS×Int×Bool→Prop):Prop:=(∀r1:VS×Int,r1=((VS.read s (place_Bin (bin_Of n)),VS.get s (place_Bin (bin_Of n))))→(Q0 r1.1 (0) (iA iB (iA iB r1.2-1))))
def bin_first_w0 (s:VS) (t p sh n:Int) (sv:VS) (i g:Int) (Q0:VS→Int→Int→Prop) (R_:VS×Int×Bool→Prop):Prop:=(bw_ (decide (i<p)) (bw_ (!bin_page t p sh g) (R_ ((sv,0,false))) (∀r2:VS×Int,r2=(bin_free sv t p sh g)→(bw_ (decide (r2.2≥n)) (R_ ((r2.1,g,true))) (∀r4:VS×Int,r4=((VS.read r2.1 (place_Next t p sh g),VS.get r2.1 (place_Next t p sh g)))→(Q0 r4.1 (iA iB (i+1)) (iA iB (iA iB r4.2-1))))))) (R_ ((sv,0,false))))
def bin_first_I0 (s:VS) (t p sh n:Int) (sv:VS) (i g:Int) (r_:VS×Int×Bool):Prop:=0≤i∧(i≤p∨i=0)∧(pFirst ⟨t,p,sh⟩ n (p-i).toNat g).run sv=r_
abbrev bin_first_h0 (p0:Addr) (s:VS) (t p sh n:Int):Hd Sg:=⟨none,[0,1,0,1,1,0,1],[.blk 0, .code [1,1,1,0,1], .scp [1]],[0,18,17,8,4,2],[.objc wView p0, .i .i64, .ic .i64 (p), .i .i64, .box 23 [.ic .i64 (t), .ic .i64 (p), .ic .i64 (sh)], .ic .i64 (n)]⟩
theorem bin_first_begin (s:VS) (t p sh n:Int) (hp0:p≤9223372036854775807):bin_first_w s t p sh n (λsv' i' g'=>bin_first_I0 s t p sh n sv' i' g' (bin_first s t p sh n)) (λr__=>r__=(bin_first s t p sh n)):=by
 unfold bin_first_w
 try unfold bin_first_I0
 intro r1 e1
 subst e1
 rw [place_Bin_eq,binOf_e,w64g,w64g1]
 refine ⟨by omega,by omega,?_⟩
 rw [show (p-0).toNat=p.toNat by omega]
 rfl
theorem bin_first_step0 (s:VS) (t p sh n:Int) (hp0:p≤9223372036854775807) (sv:VS) (i g:Int) {r_:VS×Int×Bool} (hI:bin_first_I0 s t p sh n sv i g r_):bin_first_w0 s t p sh n sv i g (λsv' i' g'=>bin_first_I0 s t p sh n sv' i' g' r_∧lx ((p-i').toNat,0,0) ((p-i).toNat,0,0)) (λr__=>r__=r_):=by
 unfold bin_first_I0 at hI
 unfold bin_first_w0
 try unfold bin_first_I0
 obtain ⟨h0,h1,h2⟩:=hI
 refine ⟨λh=>?_, λh=>?_⟩
 ·simp only [decide_eq_true_eq] at h
  have hf:(p-i).toNat=(p-(i+1)).toNat+1:=by omega
  rw [hf] at h2
  simp only [pFirst] at h2
  refine ⟨λhp=>?_, λhp r2 e2=>?_⟩
  ·have hpg:Cf.page ⟨t,p,sh⟩ g=false:=by
    have:bin_page t p sh g=false:=by simpa using hp
    exact this
   rw [hpg] at h2
   exact h2
  ·have hpg:Cf.page ⟨t,p,sh⟩ g=true:=by
    have:bin_page t p sh g=true:=by simpa using hp
    exact this
   rw [hpg,cond_true,Pg.run_bind,←free_e,←e2] at h2
   refine ⟨λhc=>?_, λhc r4 e4=>?_⟩
   ·rw [show decide (n≤r2.2)=true from hc] at h2
    exact h2
   ·rw [show decide (n≤r2.2)=false from hc] at h2
    subst e4
    simp only [cond_false,Pg.run_get] at h2
    rw [place_Next_eq,w64 (n:=i+1) (by omega),w64g,w64g1]
    exact ⟨⟨by omega,by omega,h2⟩,lxo_⟩
 ·simp only [decide_eq_false_iff_not] at h
  rw [show (p-i).toNat=0 by omega] at h2
  exact h2
theorem bin_first_ok:EOk 163 e_bin_first:=
 ent_wp Dg T_bin_Drop_ok (I:=[6567000000000,6567000000018,6567000000017,6567000000008,6567000000004,6567000000002]) Tryz.func163 mix (B:=bodyOf Tryz.f163) (by kernel_rfl) rfl (by kernel_rfl) 400
  λp0 s t p sh n hb hp=>have hp0:p≤9223372036854775807:=hp _ (.head _);⟨[bin_first_h0 p0 s t p sh n], λj=>iI [appC (Hd.kd (bin_first_h0 p0 s t p sh n)) (λsv' i' g'=>bin_first_I0 s t p sh n sv' i' g' (bin_first s t p sh n))] j (λ_=>False), λj=>iI [appC (Hd.kd (bin_first_h0 p0 s t p sh n)) (λsv' i' g'=>((p-i').toNat,0,0))] j (λ_=>(0,0,0)),by kernel_rfl,⟨_, λ_ _ _=>by kernel_rfl,bin_first_begin s t p sh n hp0⟩,⟨λsv i g hI=>⟨_, λ_ _ _=>by kernel_rfl,bin_first_step0 s t p sh n hp0 sv i g hI⟩,trivial⟩⟩
def T_bin_first:Tb:=(163,e_bin_first)::T_bin_Drop
theorem T_bin_first_ok:TOk T_bin_first:=tc_ bin_first_ok T_bin_Drop_ok
def bin_Find (s:VS) (t p sh n:Int):VS×Int×Bool:=(pFind ⟨t,p,sh⟩ n).run s
abbrev c_bin_Find:Ct Sg:=⟨some wView,false,[.agg [.i .i64, .i .i64, .i .i64], .i .i64], .tup [.i .i64, .b]⟩
def e_bin_Find:Entry Sg:=entC c_bin_Find bin_Find (λs t p sh n=>[p≤9223372036854775807])
def bin_Find_w (s:VS) (t p sh n:Int) (Q0:VS→Int→Prop) (R_:VS×Int×Bool→Prop):Prop:=(bw_ (decide (n<1)||decide (n>p)) (R_ ((s,0,false))) (∀r2:VS×Int×Bool,r2=(bin_first s t p sh n)→(aw_ (p≤9223372036854775807) (bw_ r2.2.2 (R_ ((r2.1,r2.2.1,true))) (Q0 r2.1 (iA iB (bin_Of n+1)))))))
def bin_Find_w0 (s:VS) (t p sh n:Int) (sv:VS) (k:Int) (Q0:VS→Int→Prop) (R_:VS×Int×Bool→Prop):Prop:=(bw_ (decide (k<11)) (∀r1:VS×Int,r1=((VS.read sv (place_Bin k),VS.get sv (place_Bin k)))→(bw_ (bin_page t p sh (iA iB (iA iB r1.2-1))) (R_ ((r1.1,iA iB (iA iB r1.2-1),true))) (Q0 r1.1 (iA iB (k+1))))) (R_ ((sv,0,false))))
def bin_Find_I0 (s:VS) (t p sh n:Int) (sv:VS) (k:Int) (r_:VS×Int×Bool):Prop:=0≤k∧∃f:Nat,11-k<f∧(pBins ⟨t,p,sh⟩ f k).run sv=r_
abbrev bin_Find_h0 (p0:Addr) (s:VS) (t p sh n:Int):Hd Sg:=⟨none,[0,1,0,1,1,1],[.blk 0, .code [1,1,1,1]],[0,10,4],[.objc wView p0, .i .i64, .box 23 [.ic .i64 (t), .ic .i64 (p), .ic .i64 (sh)]]⟩
theorem bin_Find_begin (s:VS) (t p sh n:Int) (hp0:p≤9223372036854775807):bin_Find_w s t p sh n (λsv' k'=>bin_Find_I0 s t p sh n sv' k' (bin_Find s t p sh n)) (λr__=>r__=(bin_Find s t p sh n)):=by
 unfold bin_Find_w
 try unfold bin_Find_I0
 have hb:=binOf_ge n
 have hb2:=binOf_le n
 refine ⟨λhc=>?_, λhc r2 e2=>⟨hp0, λ_=>⟨λh3=>?_, λh3=>?_⟩⟩⟩
 ·show (s,0,false)=bin_Find s t p sh n
  unfold bin_Find pFind
  rw [n_in,show (decide (n<1)||decide (n>p))=true from hc]
  rfl
 ·show _=bin_Find s t p sh n
  unfold bin_Find pFind
  have e2':=e2.symm
  unfold bin_first at e2'
  rw [n_in,hc,Bool.not_false,cond_true,Pg.run_bind]
  dsimp only
  rw [e2',h3,cond_true,Pg.run_ret]
  exact Prod.ext rfl (Prod.ext rfl h3.symm)
 ·rw [binOf_e,w64 (by omega)]
  refine ⟨by omega,12,by omega,?_⟩
  show _=bin_Find s t p sh n
  unfold bin_Find pFind
  have e2':=e2.symm
  unfold bin_first at e2'
  rw [n_in,hc,Bool.not_false,cond_true,Pg.run_bind]
  dsimp only
  rw [e2',h3]
  rfl
theorem bin_Find_step0 (s:VS) (t p sh n:Int) (hp0:p≤9223372036854775807) (sv:VS) (k:Int) {r_:VS×Int×Bool} (hI:bin_Find_I0 s t p sh n sv k r_):bin_Find_w0 s t p sh n sv k (λsv' k'=>bin_Find_I0 s t p sh n sv' k' r_∧lx ((11-k').toNat,0,0) ((11-k).toNat,0,0)) (λr__=>r__=r_):=by
 unfold bin_Find_I0 at hI
 unfold bin_Find_w0
 try unfold bin_Find_I0
 obtain ⟨h0,f,hf,h2⟩:=hI
 refine ⟨λh=>?_, λh=>?_⟩
 ·simp only [decide_eq_true_eq] at h
  obtain ⟨f',rfl⟩:∃f',f=f'+1:=⟨f-1,by omega⟩
  have hk:decide (k<11)=true:=by simpa using h
  simp only [pBins,hk,cond_true,Pg.run_get] at h2
  intro r1 e1
  subst e1
  rw [place_Bin_eq,w64g,w64g1]
  refine ⟨λhp=>?_, λhp=>?_⟩
  ·rw [show Cf.page ⟨t,p,sh⟩ (sv.get (cBin k)-1)=true from hp] at h2
   exact h2
  ·rw [show Cf.page ⟨t,p,sh⟩ (sv.get (cBin k)-1)=false from hp] at h2
   rw [w64 (n:=k+1) (by omega)]
   exact ⟨⟨by omega,f',by omega,h2⟩,lxo_⟩
 ·simp only [decide_eq_false_iff_not] at h
  have hk:decide (k<11)=false:=by simpa using h
  cases f with
  |zero=>exact h2
  |succ f=>
   simp only [pBins,hk] at h2
   exact h2
theorem bin_Find_ok:EOk 155 e_bin_Find:=
 ent_wp Dg T_bin_first_ok (I:=[1643000000000,1643000000010,1643000000004]) Tryz.func155 mix (B:=bodyOf Tryz.f155) (by kernel_rfl) rfl (by kernel_rfl) 400
  λp0 s t p sh n hb hp=>have hp0:p≤9223372036854775807:=hp _ (.head _);⟨[bin_Find_h0 p0 s t p sh n], λj=>iI [appC (Hd.kd (bin_Find_h0 p0 s t p sh n)) (λsv' k'=>bin_Find_I0 s t p sh n sv' k' (bin_Find s t p sh n))] j (λ_=>False), λj=>iI [appC (Hd.kd (bin_Find_h0 p0 s t p sh n)) (λsv' k'=>((11-k').toNat,0,0))] j (λ_=>(0,0,0)),by kernel_rfl,⟨_, λ_ _ _=>by kernel_rfl,bin_Find_begin s t p sh n hp0⟩,⟨λsv k hI=>⟨_, λ_ _ _=>by kernel_rfl,bin_Find_step0 s t p sh n hp0 sv k hI⟩,trivial⟩⟩
def T_bin_Find:Tb:=(155,e_bin_Find)::T_bin_first
theorem T_bin_Find_ok:TOk T_bin_Find:=tc_ bin_Find_ok T_bin_first_ok
end
end Go.Proofs.YtinpgnomkmmfdaaGreat
namespace Go.Sl
section
def cel (xs:LI) (i:Int):Int:=xs.getD i.toNat 0
def infoOk (v:Int):Bool:=iRight (v%16) (v/16%4096) (v/65536)
theorem iGet_len {v:Int} (h:infoOk v=true) (hk:((iGet v).k==0)=false):1≤(iGet v).l:=by
 unfold infoOk at h
 have e:iGet v=⟨v%16,v/16%4096,v/65536⟩:=by unfold iGet;rw [h];rfl
 rw [e] at hk ⊢
 simp only at hk ⊢
 unfold iRight at h
 rw [hk,cond_false] at h
 cases h1:(v%16==1||v%16==2) with
 |true=>
  rw [h1] at h
  simp only [cond_true,iE,decide_eq_true_eq] at h
  omega
 |false=>
  rw [h1] at h
  simp only [cond_false] at h
  cases h3:v%16==3 with
  |false=>rw [h3] at h;cases h
  |true=>
   rw [h3] at h
   simp only [cond_true,iE,decide_eq_true_eq,beq_iff_eq] at h
   omega
theorem iGet_bd (v:Int):0≤(iGet v).k∧(iGet v).k≤3∧0≤(iGet v).l∧(iGet v).l≤1024∧0≤(iGet v).c∧(iGet v).c≤8:=by
 unfold iGet
 cases h:iRight (v%16) (v/16%4096) (v/65536) with
 |false=>simp
 |true=>
  simp only [cond_true]
  unfold iRight at h
  cases h0:v%16==0 with
  |true=>
   rw [h0] at h
   simp only [cond_true,iE,beq_iff_eq] at h h0
   omega
  |false=>
   rw [h0] at h
   simp only [cond_false] at h
   cases h1:(v%16==1||v%16==2) with
   |true=>
    rw [h1] at h
    simp only [cond_true,iE,decide_eq_true_eq,beq_iff_eq,lG] at h h1
    omega
   |false=>
    rw [h1] at h
    simp only [cond_false] at h
    cases h3:v%16==3 with
    |false=>rw [h3] at h;cases h
    |true=>
     rw [h3] at h
     simp only [cond_true,iE,decide_eq_true_eq,beq_iff_eq] at h h3
     omega
section
variable (c:Cf) (xs:LI)
def aInfo (p:Int):If:=iGet (cel xs (c.info p))
def startsF:Nat→Int→LI→LI×Bool
 |0,at_,out=>(out,at_==c.p)
 |f+1,at_,out=>bif decide (at_<c.p) then
   (bif !infoOk (cel xs (c.info at_))||(aInfo c xs at_).k==0 then ([],false) else startsF f (at_+(aInfo c xs at_).l) (out++[at_]))
  else (out,at_==c.p)
def starts:LI×Bool:=startsF c xs (c.p.toNat+1) 0 []
def tilesF (l:LI):Nat→Nat→Bool
 |0,_=>true
 |k+1,n=>bif decide (n<l.length)&&l.getD n 0==c.p-(k+1:Nat) then tilesF l k (n+1) else (bif cel xs (c.info (c.p-(k+1:Nat))) !=0 then false else tilesF l k n)
def tiles:Bool:=bif (starts c xs).2 then tilesF c xs (starts c xs).1 c.p.toNat 0 else false
def feetF (l:LI):Nat→Nat→Bool
 |0,_=>true
 |k+1,n=>
  let p:=c.p-(k+1:Nat)
  let n':=bif decide (n+1<l.length)&&l.getD (n+1) 0==p then n+1 else n
  let want:=bif p==l.getD n' 0+(aInfo c xs (l.getD n' 0)).l-1 then nv (l.getD n' 0+1) else 0
  bif cel xs (c.foot p) !=want then false else feetF l k n'
def feet:Bool:=feetF c xs (starts c xs).1 c.p.toNat 0
def apartF (l:LI):Nat→Bool
 |0=>true
 |k+1=>bif (aInfo c xs (l.getD (l.length-(k+1)) 0)).k==1&&(aInfo c xs (l.getD (l.length-(k+1)-1) 0)).k==1 then false else apartF l k
def apart:Bool:=apartF c xs (starts c xs).1 ((starts c xs).1.length-1)
def bitAt (v i:Int):Bool:=decide (i≥0)&&decide (i<32)&&v/2^i.toNat%2==1
def onesF (v:Int):Nat→Int
 |0=>0
 |k+1=>onesF v k+(bif bitAt v k then 1 else 0)
def ones (v:Int):Int:=onesF v 32
def kSlots (k:Int):Int:=bif decide (0≤k) then [32,21,16,10,8,5,4,3,2].getD k.toNat 0 else 0
def slotsB (p:Int) (i:If):Nat→Bool
 |0=>true
 |k+1=>
  let b:Int:=32-(k+1:Nat)
  let live:=bitAt (cel xs (c.slots p)) b
  let taken:=bitAt (cel xs (c.taken p)) b
  bif (live&&!taken)||(taken&&((i.k !=3)||decide (b≥kSlots i.c))) then false else slotsB p i k
def slotsF:Nat→Bool
 |0=>true
 |k+1=>
  let p:=c.p-(k+1:Nat)
  bif slotsB c xs p (aInfo c xs p) 32 then (bif (aInfo c xs p).k==3&&cel xs (c.taken p)==0 then false else slotsF k) else false
def slotsOk:Bool:=slotsF c xs c.p.toNat
def listF:Nat→Int→Int→LI→LI×Bool
 |0,_,_,out=>(out,false)
 |f+1,q,ahead,out=>bif q==0 then (out,true) else
   bif decide (q>c.p)||decide ((out.length:Int)≥c.p) then (out,false) else
   bif cel xs (c.prev (q-1)) !=ahead then (out,false) else listF f (cel xs (c.next (q-1))) q (out++[q-1])
def listA (head:Int):LI×Bool:=listF c xs (c.p.toNat+2) (cel xs head) 0 []
def inA (l:LI) (p:Int):Int:=(l.filter (· ==p)).length
def full (taken k:Int):Bool:=ones taken==kSlots k
def binned (p k:Int):Bool:=(aInfo c xs p).k==1&&logI (aInfo c xs p).l==k
def racked (p k:Int):Bool:=(aInfo c xs p).k==3&&(aInfo c xs p).c==k&&!full (cel xs (c.taken p)) k
def onceF (l:LI) (g:Int→Bool):Nat→Bool
 |0=>true
 |k+1=>
  let p:=c.p-(k+1:Nat)
  bif inA l p !=(bif g p then 1 else 0) then false else onceF l g k
def binsF:Nat→Bool
 |0=>true
 |k+1=>bif (listA c xs (cBin (11-(k+1:Nat)))).2 then (bif onceF c (listA c xs (cBin (11-(k+1:Nat)))).1 (binned c xs · (11-(k+1:Nat))) c.p.toNat then binsF k else false) else false
def bins:Bool:=binsF c xs 11
def racksF:Nat→Bool
 |0=>true
 |k+1=>bif (listA c xs (cRack (9-(k+1:Nat)))).2 then (bif onceF c (listA c xs (cRack (9-(k+1:Nat)))).1 (racked c xs · (9-(k+1:Nat))) c.p.toNat then racksF k else false) else false
def racks:Bool:=racksF c xs 9
def looseF:Nat→Bool
 |0=>true
 |k+1=>
  let p:=c.p-(k+1:Nat)
  let i:=aInfo c xs p
  bif i.k==1||(i.k==3&&!full (cel xs (c.taken p)) i.c) then looseF k else
   bif cel xs (c.next p) !=0||cel xs (c.prev p) !=0 then false else looseF k
def loose:Bool:=looseF c xs c.p.toNat
def countsF:Nat→Int×Int
 |0=>(0,0)
 |k+1=>
  let i:=aInfo c xs k
  ((countsF k).1+(bif i.k==1 then i.l else 0),(countsF k).2+(bif i.k==2 then 1 else 0)+ones (cel xs (c.slots k)))
def counts:Bool:=cel xs 0==nv (countsF c xs c.p.toNat).1&&cel xs 1==nv (countsF c xs c.p.toNat).2
end
end
end Go.Sl
namespace Go.Proofs.YtinpgnomkmmfdaaGreat
section
open Go.Sl
structure AGood (c:Cf) (xs:LI):Prop where
 ok:c.ok=true
 len:(xs.length:Int)=c.cells
 bd:∀v∈xs,bd32 v
theorem cel_bd {c:Cf} {xs:LI} (h:AGood c xs) (i:Int):bd32 (cel xs i):=by
 unfold cel
 rw [iD]
 cases e:xs[i.toNat]? with
 |none=>exact ⟨by decide,by decide⟩
 |some v=>exact h.bd v (jC e)
theorem pc_in {c:Cf} {xs:LI} (h:AGood c xs) {g k:Int} (hg:0≤g∧g<c.p) (hk:0≤k∧k≤5):0≤c.pc g k∧c.pc g k<(xs.length:Int):=by
 have h1:=Cf.ok_iff.1 h.ok
 have h2:=h.len
 have hp:c.page g=true:=by simp [Cf.page,hg.1,hg.2]
 unfold Cf.cells at h2
 rw [h.ok,cond_true] at h2
 unfold Cf.pc
 rw [h.ok,hp]
 simp only [nG,cond_true]
 omega
theorem bin_in {c:Cf} {xs:LI} (h:AGood c xs) {k:Int} (hk:0≤k∧k<11):0≤cBin k∧cBin k<(xs.length:Int):=by
 have h1:=Cf.ok_iff.1 h.ok
 have h2:=h.len
 unfold Cf.cells at h2
 rw [h.ok,cond_true] at h2
 have e:(decide (0≤k)&&decide (k<11))=true:=by simp [hk.1,hk.2]
 unfold cBin
 rw [e,cond_true]
 omega
theorem rack_in {c:Cf} {xs:LI} (h:AGood c xs) {k:Int} (hk:0≤k∧k<9):0≤cRack k∧cRack k<(xs.length:Int):=by
 have h1:=Cf.ok_iff.1 h.ok
 have h2:=h.len
 unfold Cf.cells at h2
 rw [h.ok,cond_true] at h2
 have e:(decide (0≤k)&&decide (k<9))=true:=by simp [hk.1,hk.2]
 unfold cRack
 rw [e,cond_true]
 omega
def r01_Bit (w i:Int):Bool:=decide (i≥0)&&decide (i<32)&&qD (jS w (2^min (iL (iA lQ i)) 32)) (2:Int)==1
abbrev c_r01_Bit:Ct Sg:=⟨none,false,[.i .u32, .i .i64], .b⟩
def e_r01_Bit:Entry Sg:=entC c_r01_Bit r01_Bit (λ_ _=>[])
theorem r01_Bit_ok:EOk 120 e_r01_Bit:=
 ent_ok Dg T_bin_Find_ok (I:=[]) Tryz.func120 mix (B:=bodyOf Tryz.f120) (by kernel_rfl) rfl (by kernel_rfl) 400
  λ_ w i hb hp=>⟨(r01_Bit w i),(.need ((decide (i≥0)&&decide (i<32))=true→0≤iA lQ i) .t), λ_ _ _=>by kernel_rfl,⟨(by first|omega|(rw [pP];omega)|(intro _;rw [pP];omega)), λz0=>trivial⟩,rfl⟩
def T_r01_Bit:Tb:=(120,e_r01_Bit)::T_bin_Find
theorem T_r01_Bit_ok:TOk T_r01_Bit:=tc_ r01_Bit_ok T_bin_Find_ok
def r07_Slots (t p sh g:Int):Int:=r07_Page t p sh g 4
abbrev c_r07_Slots:Ct Sg:=⟨none,false,[.agg [.i .i64, .i .i64, .i .i64], .i .i64], .i .i64⟩
def e_r07_Slots:Entry Sg:=entC c_r07_Slots r07_Slots (λ_ _ _ _=>[])
theorem r07_Slots_ok:EOk 149 e_r07_Slots:=
 ent_ok Dg T_r01_Bit_ok (I:=[]) Tryz.func149 mix (B:=bodyOf Tryz.f149) (by kernel_rfl) rfl (by kernel_rfl) 400
  λ_ t p sh g hb hp=>⟨(r07_Slots t p sh g), .t, λ_ _ _=>by kernel_rfl,trivial,rfl⟩
def T_r07_Slots:Tb:=(149,e_r07_Slots)::T_r01_Bit
theorem T_r07_Slots_ok:TOk T_r07_Slots:=tc_ r07_Slots_ok T_r01_Bit_ok
def r07_Taken (t p sh g:Int):Int:=r07_Page t p sh g 5
abbrev c_r07_Taken:Ct Sg:=⟨none,false,[.agg [.i .i64, .i .i64, .i .i64], .i .i64], .i .i64⟩
def e_r07_Taken:Entry Sg:=entC c_r07_Taken r07_Taken (λ_ _ _ _=>[])
theorem r07_Taken_ok:EOk 150 e_r07_Taken:=
 ent_ok Dg T_r07_Slots_ok (I:=[]) Tryz.func150 mix (B:=bodyOf Tryz.f150) (by kernel_rfl) rfl (by kernel_rfl) 400
  λ_ t p sh g hb hp=>⟨(r07_Taken t p sh g), .t, λ_ _ _=>by kernel_rfl,trivial,rfl⟩
def T_r07_Taken:Tb:=(150,e_r07_Taken)::T_r07_Slots
theorem T_r07_Taken_ok:TOk T_r07_Taken:=tc_ r07_Taken_ok T_r07_Slots_ok
def r07_Rack (k:Int):Int:=(bif decide (k<0)||decide (k>8) then (-1) else iA iB (13+k))
abbrev c_r07_Rack:Ct Sg:=⟨none,false,[.i .i64], .i .i64⟩
def e_r07_Rack:Entry Sg:=entC c_r07_Rack r07_Rack (λ_=>[])
theorem r07_Rack_ok:EOk 127 e_r07_Rack:=
 ent_ok Dg T_r07_Taken_ok (I:=[]) Tryz.func127 mix (B:=bodyOf Tryz.f127) (by kernel_rfl) rfl (by kernel_rfl) 400
  λ_ k hb hp=>⟨(r07_Rack k), .t, λ_ _ _=>by kernel_rfl,trivial,rfl⟩
def T_r07_Rack:Tb:=(127,e_r07_Rack)::T_r07_Taken
theorem T_r07_Rack_ok:TOk T_r07_Rack:=tc_ r07_Rack_ok T_r07_Taken_ok
def r07_Cells (t p sh:Int):Int:=(bif !r04_Right t p sh then 0 else iA iB (iA iB (30+iA iB (4*t))+iA iB (6*p)))
abbrev c_r07_Cells:Ct Sg:=⟨none,false,[.agg [.i .i64, .i .i64, .i .i64]], .i .i64⟩
def e_r07_Cells:Entry Sg:=entC c_r07_Cells r07_Cells (λ_ _ _=>[])
theorem r07_Cells_ok:EOk 81 e_r07_Cells:=
 ent_ok Dg T_r07_Rack_ok (I:=[]) Tryz.func81 mix (B:=bodyOf Tryz.f81) (by kernel_rfl) rfl (by kernel_rfl) 400
  λ_ t p sh hb hp=>⟨(r07_Cells t p sh), .t, λ_ _ _=>by kernel_rfl,trivial,rfl⟩
def T_r07_Cells:Tb:=(81,e_r07_Cells)::T_r07_Rack
theorem T_r07_Cells_ok:TOk T_r07_Cells:=tc_ r07_Cells_ok T_r07_Rack_ok
def r05_Slots (k:Int):Int:=(bif k==0 then 32 else (bif k==1 then 21 else (bif k==2 then 16 else (bif k==3 then 10 else (bif k==4 then 8 else (bif k==5 then 5 else (bif k==6 then 4 else (bif k==7 then 3 else (bif k==8 then 2 else 0)))))))))
abbrev c_r05_Slots:Ct Sg:=⟨none,false,[.i .i64], .i .i64⟩
def e_r05_Slots:Entry Sg:=entC c_r05_Slots r05_Slots (λ_=>[])
theorem r05_Slots_ok:EOk 40 e_r05_Slots:=
 ent_ok Dg T_r07_Cells_ok (I:=[]) Tryz.func40 mix (B:=bodyOf Tryz.f40) (by kernel_rfl) rfl (by kernel_rfl) 400
  λ_ k hb hp=>⟨(r05_Slots k), .t, λ_ _ _=>by kernel_rfl,trivial,rfl⟩
def T_r05_Slots:Tb:=(40,e_r05_Slots)::T_r07_Cells
theorem T_r05_Slots_ok:TOk T_r05_Slots:=tc_ r05_Slots_ok T_r07_Cells_ok
def x_Info (t p sh:Int) (xs:LI) (g:Int):Int×Int×Int:=((aInfo ⟨t,p,sh⟩ xs g).k,(aInfo ⟨t,p,sh⟩ xs g).l,(aInfo ⟨t,p,sh⟩ xs g).c)
abbrev c_x_Info:Ct Sg:=⟨none,false,[.agg [.i .i64, .i .i64, .i .i64, .ro [some .u32]], .i .i64], .agg [.i .i64, .i .i64, .i .i64]⟩
def e_x_Info:Entry Sg:=entC c_x_Info x_Info (λt p sh xs g=>[AGood ⟨t,p,sh⟩ xs,0≤g∧g<p])
abbrev NM (xs:LI) (r2:Int) (R_:Int×Int×Int→Prop):Prop:=(∀r4:Int×Int×Int×Bool,r4=(r09_Get (iI xs (iL r2) 0))→(R_ ((r4.1,r4.2.1,r4.2.2.1))))
def x_Info_w (t p sh:Int) (xs:LI) (g:Int) (R_:Int×Int×Int→Prop):Prop:=((∀r2:Int,r2=(r07_Info t p sh g)→(aw_ (0≤r2∧r2<(↑(iF xs):Int)) ((NM xs r2 R_)∧(NM xs r2 R_))))∧(∀r3:Int,r3=(r07_Info t p sh g)→(aw_ (0≤r3∧r3<(↑(iF xs):Int)) (NM xs r3 R_))))
theorem x_Info_begin (t p sh:Int) (xs:LI) (g:Int) (hp0:AGood ⟨t,p,sh⟩ xs) (hp1:0≤g∧g<p) (hl0:xs.length≤9223372036854775807):x_Info_w t p sh xs g (λr__=>r__=(x_Info t p sh xs g)):=by
 unfold x_Info_w NM
 have hin:=pc_in hp0 hp1 (k:=0) (by omega)
 obtain ⟨e1,e2,e3⟩:=r09_Get_i (cel_bd hp0 (Cf.info ⟨t,p,sh⟩ g))
 have key:∀r2,r2=r07_Info t p sh g→(0≤r2∧r2<(xs.length:Int))∧∀r4:Int×Int×Int×Bool,r4=r09_Get (xs.getD r2.toNat 0)→(r4.1,r4.2.1,r4.2.2.1)=x_Info t p sh xs g:=by
  rintro r2 rfl
  rw [r07_Info_eq]
  refine ⟨hin,?_⟩
  rintro r4 rfl
  exact Prod.ext e1 (Prod.ext e2 e3)
 exact ⟨λr2 h2=>⟨(key r2 h2).1, λ_=>⟨λr4 h4=>(key r2 h2).2 r4 h4, λr5 h5=>(key r2 h2).2 r5 h5⟩⟩, λr3 h3=>⟨(key r3 h3).1, λ_ r5 h5=>(key r3 h3).2 r5 h5⟩⟩
theorem x_Info_ok:EOk 100 e_x_Info:=
 ent_w0 Dg T_r05_Slots_ok (I:=[]) Tryz.func100 mix (B:=bodyOf Tryz.f100) (by kernel_rfl) rfl (by kernel_rfl) 400
  λ_ t p sh xs g hb hp=>⟨_, λ_ _ _=>by kernel_rfl,x_Info_begin t p sh xs g (hp _ (.head _)) (hp _ (.tail _ (.head _))) (hb.1.2.2.2.1)⟩
def T_x_Info:Tb:=(100,e_x_Info)::T_r05_Slots
theorem T_x_Info_ok:TOk T_x_Info:=tc_ x_Info_ok T_r05_Slots_ok
def x_Slots (t p sh:Int) (xs:LI) (g:Int):Int:=cel xs (Cf.slots ⟨t,p,sh⟩ g)
abbrev c_x_Slots:Ct Sg:=⟨none,false,[.agg [.i .i64, .i .i64, .i .i64, .ro [some .u32]], .i .i64], .i .u32⟩
def e_x_Slots:Entry Sg:=entC c_x_Slots x_Slots (λt p sh xs g=>[AGood ⟨t,p,sh⟩ xs,0≤g∧g<p])
def x_Slots_w (t p sh:Int) (xs:LI) (g:Int) (R_:Int→Prop):Prop:=(aw_ (0≤r07_Slots t p sh g∧r07_Slots t p sh g<(↑(iF xs):Int)) (R_ (iI xs (iL (r07_Slots t p sh g)) 0)))
theorem x_Slots_begin (t p sh:Int) (xs:LI) (g:Int) (hp0:AGood ⟨t,p,sh⟩ xs) (hp1:0≤g∧g<p) (hl0:xs.length≤9223372036854775807):x_Slots_w t p sh xs g (λr__=>r__=(x_Slots t p sh xs g)):=by
 unfold x_Slots_w
 have e:r07_Slots t p sh g=Cf.slots ⟨t,p,sh⟩ g:=r07_Page_eq (by omega)
 have hin:=pc_in hp0 hp1 (k:=4) (by omega)
 rw [e]
 exact ⟨hin, λ_=>rfl⟩
theorem x_Slots_ok:EOk 121 e_x_Slots:=
 ent_w0 Dg T_x_Info_ok (I:=[]) Tryz.func121 mix (B:=bodyOf Tryz.f121) (by kernel_rfl) rfl (by kernel_rfl) 400
  λ_ t p sh xs g hb hp=>⟨_, λ_ _ _=>by kernel_rfl,x_Slots_begin t p sh xs g (hp _ (.head _)) (hp _ (.tail _ (.head _))) (hb.1.2.2.2.1)⟩
def T_x_Slots:Tb:=(121,e_x_Slots)::T_x_Info
theorem T_x_Slots_ok:TOk T_x_Slots:=tc_ x_Slots_ok T_x_Info_ok
def x_Taken (t p sh:Int) (xs:LI) (g:Int):Int:=cel xs (Cf.taken ⟨t,p,sh⟩ g)
abbrev c_x_Taken:Ct Sg:=⟨none,false,[.agg [.i .i64, .i .i64, .i .i64, .ro [some .u32]], .i .i64], .i .u32⟩
def e_x_Taken:Entry Sg:=entC c_x_Taken x_Taken (λt p sh xs g=>[AGood ⟨t,p,sh⟩ xs,0≤g∧g<p])
def x_Taken_w (t p sh:Int) (xs:LI) (g:Int) (R_:Int→Prop):Prop:=(aw_ (0≤r07_Taken t p sh g∧r07_Taken t p sh g<(↑(iF xs):Int)) (R_ (iI xs (iL (r07_Taken t p sh g)) 0)))
theorem x_Taken_begin (t p sh:Int) (xs:LI) (g:Int) (hp0:AGood ⟨t,p,sh⟩ xs) (hp1:0≤g∧g<p) (hl0:xs.length≤9223372036854775807):x_Taken_w t p sh xs g (λr__=>r__=(x_Taken t p sh xs g)):=by
 unfold x_Taken_w
 have e:r07_Taken t p sh g=Cf.taken ⟨t,p,sh⟩ g:=r07_Page_eq (by omega)
 have hin:=pc_in hp0 hp1 (k:=5) (by omega)
 rw [e]
 exact ⟨hin, λ_=>rfl⟩
theorem x_Taken_ok:EOk 122 e_x_Taken:=
 ent_w0 Dg T_x_Slots_ok (I:=[]) Tryz.func122 mix (B:=bodyOf Tryz.f122) (by kernel_rfl) rfl (by kernel_rfl) 400
  λ_ t p sh xs g hb hp=>⟨_, λ_ _ _=>by kernel_rfl,x_Taken_begin t p sh xs g (hp _ (.head _)) (hp _ (.tail _ (.head _))) (hb.1.2.2.2.1)⟩
def T_x_Taken:Tb:=(122,e_x_Taken)::T_x_Slots
theorem T_x_Taken_ok:TOk T_x_Taken:=tc_ x_Taken_ok T_x_Slots_ok
end
section
open Go.Sl
theorem r09_ok {v:Int} (h:bd32 v):(r09_Get v).2.2.2=infoOk v:=by
 rw [r09_Get_eq h.1 h.2]
 unfold infoOk
 rw [←iRight_eq]
 cases info_right (v%16) (v/16%4096) (v/65536)<;>rfl
def x_starts (t p sh:Int) (xs:LI):LI×Bool:=starts ⟨t,p,sh⟩ xs
abbrev c_x_starts:Ct Sg:=⟨none,false,[.agg [.i .i64, .i .i64, .i .i64, .ro [some .u32]]], .tup [.new 3 [some .i64], .b]⟩
def e_x_starts:Entry Sg:=entC c_x_starts x_starts (λt p sh xs=>[AGood ⟨t,p,sh⟩ xs])
def x_starts_w (t p sh:Int) (xs:LI) (Q0:Int→Nat→LI→Prop) (R_:LI×Bool→Prop):Prop:=(Q0 (0) (0) ([]))
abbrev O4 (xs:LI) (r1:Int) (R_:LI×Bool→Prop) (n1:Nat) (Q0:Int→Nat→LI→Prop) (i:Int) (out:LI):Prop:=(∀r4:Int×Int×Int×Bool,r4=(r09_Get (iI xs (iL r1) 0))→(bw_ (!r4.2.2.2||r4.1==0) (R_ (([],false))) (aw_ ((n1+1)*8≤140737488355328) (Q0 (iA iB (i+r4.2.1)) (n1+1) (out++[i])))))
def x_starts_w0 (t p sh:Int) (xs:LI) (i:Int) (n1:Nat) (out:LI) (Q0:Int→Nat→LI→Prop) (R_:LI×Bool→Prop):Prop:=(bw_ (decide (i<p)) ((∀r1:Int,r1=(r07_Info t p sh i)→(aw_ (0≤r1∧r1<(↑(iF xs):Int)) ((∀r3:Int×Int×Int×Bool,r3=(r09_Get (iI xs (iL r1) 0))→(bw_ (!r3.2.2.2||r3.1==0) (R_ (([],false))) (aw_ ((n1+1)*8≤140737488355328) (Q0 (iA iB (i+r3.2.1)) (n1+1) (out++[i])))))∧(O4 xs r1 R_ n1 Q0 i out))))∧(∀r2:Int,r2=(r07_Info t p sh i)→(aw_ (0≤r2∧r2<(↑(iF xs):Int)) (O4 xs r2 R_ n1 Q0 i out)))) (R_ ((out,i==p))))
def x_starts_I0 (t p sh:Int) (xs:LI) (i:Int) (n1:Nat) (out:LI) (r_:LI×Bool):Prop:=0≤i∧n1=out.length∧(out.length:Int)≤i∧i≤p+1024∧∃f:Nat,p-i<f∧startsF ⟨t,p,sh⟩ xs f i out=r_
abbrev x_starts_h0 (p0:Addr) (t p sh:Int) (xs:LI):Hd Sg:=⟨none,[0,0,1,1,1],[.blk 0, .code [1,1,1,1]],[5,4,1],[.i .i64, .own 3 [some .i64], .box 114 [.ic .i64 (t), .ic .i64 (p), .ic .i64 (sh), .roc [.ints .u32 (xs)]]]⟩
theorem x_starts_begin (t p sh:Int) (xs:LI) (hp0:AGood ⟨t,p,sh⟩ xs) (hl0:xs.length≤9223372036854775807):x_starts_w t p sh xs (λi' n1' out'=>x_starts_I0 t p sh xs i' n1' out' (x_starts t p sh xs)) (λr__=>r__=(x_starts t p sh xs)):=by
 unfold x_starts_w
 try unfold x_starts_I0
 have hok:=Cf.ok_iff.1 hp0.ok
 simp only at hok
 exact ⟨by omega,rfl,by simp,by omega,p.toNat+1,by omega,rfl⟩
theorem x_starts_step0 (t p sh:Int) (xs:LI) (hp0:AGood ⟨t,p,sh⟩ xs) (hl0:xs.length≤9223372036854775807) (i:Int) (n1:Nat) (out:LI) {r_:LI×Bool} (hI:x_starts_I0 t p sh xs i n1 out r_):x_starts_w0 t p sh xs i n1 out (λi' n1' out'=>x_starts_I0 t p sh xs i' n1' out' r_∧lx ((p+1025-i').toNat,0,0) ((p+1025-i).toNat,0,0)) (λr__=>r__=r_):=by
 unfold x_starts_I0 at hI
 unfold x_starts_w0 O4
 try unfold x_starts_I0
 obtain ⟨h0,h1,h2,h3,f,hf,hr⟩:=hI
 have hok:=Cf.ok_iff.1 hp0.ok
 simp only at hok
 refine ⟨λh=>?_, λh=>?_⟩
 ·simp only [decide_eq_true_eq] at h
  obtain ⟨f',rfl⟩:∃f',f=f'+1:=⟨f-1,by omega⟩
  have hin:=pc_in hp0 (g:=i) (k:=0) ⟨h0,h⟩ (by omega)
  have hb:=cel_bd hp0 (Cf.info ⟨t,p,sh⟩ i)
  obtain ⟨g1,g2,_⟩:=r09_Get_i hb
  have g3:=r09_ok hb
  have hd:decide (i<p)=true:=by simpa using h
  simp only [startsF,hd,cond_true] at hr
  have hw:∀l:Int,0≤l→l≤1024→iB.wrap (i+l)=i+l:= λl h1 h2=>w64 (by omega)
  have key:∀r1,r1=r07_Info t p sh i→(0≤r1∧r1<(xs.length:Int))∧∀r4:Int×Int×Int×Bool,r4=r09_Get (xs.getD r1.toNat 0)→((!r4.2.2.2||r4.1==0)=true→([],false)=r_)∧((!r4.2.2.2||r4.1==0)=false→(n1+1)*8≤140737488355328∧
   ((0≤iB.wrap (i+r4.2.1)∧n1+1=(out++[i]).length∧((out++[i]).length:Int)≤iB.wrap (i+r4.2.1)∧iB.wrap (i+r4.2.1)≤p+1024∧∃f:Nat,p-iB.wrap (i+r4.2.1)<f∧startsF ⟨t,p,sh⟩ xs f (iB.wrap (i+r4.2.1)) (out++[i])=r_)∧lx ((p+1025-iB.wrap (i+r4.2.1)).toNat,0,0) ((p+1025-i).toNat,0,0))):=by
   rintro r1 rfl
   rw [r07_Info_eq]
   refine ⟨hin,?_⟩
   rintro r4 rfl
   have e1:(r09_Get (xs.getD (Cf.info ⟨t,p,sh⟩ i).toNat 0)).1=(aInfo ⟨t,p,sh⟩ xs i).k:=g1
   have e2:(r09_Get (xs.getD (Cf.info ⟨t,p,sh⟩ i).toNat 0)).2.1=(aInfo ⟨t,p,sh⟩ xs i).l:=g2
   have e3:(r09_Get (xs.getD (Cf.info ⟨t,p,sh⟩ i).toNat 0)).2.2.2=infoOk (cel xs (Cf.info ⟨t,p,sh⟩ i)):=g3
   rw [e1,e2,e3]
   refine ⟨λhc=>?_, λhc=>?_⟩
   ·rw [hc] at hr;exact hr
   ·rw [hc,cond_false] at hr
    simp only [jH,jY] at hc
    have hl:1≤(aInfo ⟨t,p,sh⟩ xs i).l:=iGet_len hc.1 hc.2
    have hl2:(aInfo ⟨t,p,sh⟩ xs i).l≤1024:=(iGet_bd _).2.2.2.1
    rw [hw _ (by omega) hl2]
    refine ⟨by omega,⟨by omega,by simp [h1],by simp;omega,by omega,f',by omega,hr⟩,lxo_⟩
  exact ⟨λr1 q1=>⟨(key r1 q1).1, λ_=>⟨λr3 q3=>⟨((key r1 q1).2 r3 q3).1, λhc=>⟨(((key r1 q1).2 r3 q3).2 hc).1, λ_=>(((key r1 q1).2 r3 q3).2 hc).2⟩⟩, λr4 q4=>⟨((key r1 q1).2 r4 q4).1, λhc=>⟨(((key r1 q1).2 r4 q4).2 hc).1, λ_=>(((key r1 q1).2 r4 q4).2 hc).2⟩⟩⟩⟩, λr2 q2=>⟨(key r2 q2).1, λ_ r4 q4=>⟨((key r2 q2).2 r4 q4).1, λhc=>⟨(((key r2 q2).2 r4 q4).2 hc).1, λ_=>(((key r2 q2).2 r4 q4).2 hc).2⟩⟩⟩⟩
 ·have hd:decide (i<p)=false:=h
  show (out,i==p)=r_
  rw [←hr]
  cases f with
  |zero=>rfl
  |succ f=>simp only [startsF,hd,cond_false]
theorem x_starts_ok:EOk 117 e_x_starts:=
 ent_wp Dg T_x_Taken_ok (I:=[363000000005,363000000004,363000000001]) Tryz.func117 mix (B:=bodyOf Tryz.f117) (by kernel_rfl) rfl (by kernel_rfl) 400
  λp0 t p sh xs hb hp=>have hl0:xs.length≤9223372036854775807:=hb.1.2.2.2.1;have hp0:AGood ⟨t,p,sh⟩ xs:=hp _ (.head _);⟨[x_starts_h0 p0 t p sh xs], λj=>iI [appC (Hd.kd (x_starts_h0 p0 t p sh xs)) (λi' n1' out'=>x_starts_I0 t p sh xs i' n1' out' (x_starts t p sh xs))] j (λ_=>False), λj=>iI [appC (Hd.kd (x_starts_h0 p0 t p sh xs)) (λi' n1' out'=>((p+1025-i').toNat,0,0))] j (λ_=>(0,0,0)),by kernel_rfl,⟨_, λ_ _ _=>by kernel_rfl,x_starts_begin t p sh xs hp0 hl0⟩,⟨λi n1 out hI=>⟨_, λ_ _ _=>by kernel_rfl,x_starts_step0 t p sh xs hp0 hl0 i n1 out hI⟩,trivial⟩⟩
def T_x_starts:Tb:=(117,e_x_starts)::T_x_Taken
theorem T_x_starts_ok:TOk T_x_starts:=tc_ x_starts_ok T_x_Taken_ok
end
section
open Go.Sl
theorem startsF_in {c:Cf} {xs:LI}:∀(f:Nat) (a:Int) (out:LI),0≤a→(∀x∈out,0≤x∧x<c.p)→∀x∈(startsF c xs f a out).1,0≤x∧x<c.p
 |0,_,out,_,h,x,hx=>h x hx
 |f+1,a,out,ha,h,x,hx=>by
  simp only [startsF] at hx
  cases hd:decide (a<c.p) with
  |false=>rw [hd] at hx;exact h x hx
  |true=>
   rw [hd,cond_true] at hx
   cases hc:(!infoOk (cel xs (c.info a))||(aInfo c xs a).k==0) with
   |true=>rw [hc] at hx;cases hx
   |false=>
    rw [hc,cond_false] at hx
    have hl:=(iGet_bd (cel xs (c.info a))).2.2.1
    have hl':0≤(aInfo c xs a).l:=hl
    refine startsF_in f _ _ (by omega) (λy hy=>?_) x hx
    rcases kC.1 hy with hy|hy
    ·exact h y hy
    ·rw [iY.1 hy];exact ⟨ha,by simpa using hd⟩
theorem starts_in {c:Cf} {xs:LI}:∀x∈(starts c xs).1,0≤x∧x<c.p:=startsF_in _ _ _ (mC 0) λx hx=>by cases hx
theorem startsF_ne {c:Cf} {xs:LI}:∀(f:Nat) (a:Int) (out:LI),out≠[]→(startsF c xs f a out).2=true→(startsF c xs f a out).1≠[]
 |0,_,out,h,_=>h
 |f+1,a,out,h,ht=>by
  simp only [startsF] at ht ⊢
  cases hd:decide (a<c.p) with
  |false=>exact h
  |true=>
   rw [hd,cond_true] at ht
   rw [cond_true]
   cases hc:(!infoOk (cel xs (c.info a))||(aInfo c xs a).k==0) with
   |true=>rw [hc] at ht;cases ht
   |false=>
    rw [hc,cond_false] at ht
    exact startsF_ne f _ _ (by simp) ht
theorem starts_ne {c:Cf} {xs:LI} (hp:1≤c.p) (h:(starts c xs).2=true):1≤(starts c xs).1.length:=by
 have hd:decide ((0:Int)<c.p)=true:=by simp;omega
 have:(starts c xs).1≠[]:=by
  unfold starts at h ⊢
  simp only [startsF,hd,cond_true] at h ⊢
  cases hc:(!infoOk (cel xs (c.info 0))||(aInfo c xs 0).k==0) with
  |true=>rw [hc] at h;cases h
  |false=>
   rw [hc,cond_false] at h
   exact startsF_ne _ _ _ (by simp) h
 rcases hl:(starts c xs).1 with _|⟨x,r⟩
 ·exact absurd hl this
 ·simp
theorem startsF_len {c:Cf} {xs:LI}:∀(f:Nat) (a:Int) (out:LI),(startsF c xs f a out).1.length≤out.length+f
 |0,_,out=>kF _
 |f+1,a,out=>by
  simp only [startsF]
  cases decide (a<c.p) with
  |false=>simp only [cond_false];omega
  |true=>
   simp only [cond_true]
   cases (!infoOk (cel xs (c.info a))||(aInfo c xs a).k==0) with
   |true=>simp only [cond_true,oK];omega
   |false=>
    simp only [cond_false]
    have:=startsF_len (c:=c) (xs:=xs) f (a+(aInfo c xs a).l) (out++[a])
    simp only [jM,mN] at this
    omega
theorem starts_len {c:Cf} {xs:LI}:(starts c xs).1.length≤c.p.toNat+1:=by
 have:=startsF_len (c:=c) (xs:=xs) (c.p.toNat+1) 0 []
 unfold starts
 simpa using this
theorem getD_memA {l:LI} {j:Nat} (h:j<l.length):l.getD j 0∈l:=by
 rw [iD,iN h];exact List.getElem_mem h
def x_tiles (t p sh:Int) (xs:LI):Bool:=tiles ⟨t,p,sh⟩ xs
abbrev c_x_tiles:Ct Sg:=⟨none,false,[.agg [.i .i64, .i .i64, .i .i64, .ro [some .u32]]], .b⟩
def e_x_tiles:Entry Sg:=entC c_x_tiles x_tiles (λt p sh xs=>[AGood ⟨t,p,sh⟩ xs])
def x_tiles_w (t p sh:Int) (xs:LI) (Q0:Int→Int→Nat→LI→Prop) (R_:Bool→Prop):Prop:=(∀r1:LI×Bool,r1=(x_starts t p sh xs)→(aw_ (AGood {t:=t,p:=p,s:=sh} xs) (bw_ (!r1.2) (R_ (false)) (Q0 (0) (0) (iF r1.1) r1.1))))
def x_tiles_w0 (t p sh:Int) (xs:LI) (i n:Int) (n1:Nat) (ls:LI) (Q0:Int→Int→Nat→LI→Prop) (R_:Bool→Prop):Prop:=(bw_ (decide (i<p)) (aw_ (decide (n<(↑n1:Int))=true→0≤n∧n<(↑n1:Int)) (bw_ (decide (n<(↑n1:Int))&&iI ls (iL n) 0==i) (Q0 (iA iB (i+1)) (iA iB (n+1)) (n1) (ls)) (aw_ (0≤r07_Info t p sh i∧r07_Info t p sh i<(↑(iF xs):Int)) (bw_ (iI xs (iL (r07_Info t p sh i)) (0:Int) !=0) (R_ (false)) (Q0 (iA iB (i+1)) (n) (n1) (ls)))))) (R_ (true)))
def x_tiles_I0 (t p sh:Int) (xs:LI) (i n:Int) (n1:Nat) (ls:LI) (r_:Bool):Prop:=0≤i∧i≤p∧0≤n∧n≤i∧n1=ls.length∧tilesF ⟨t,p,sh⟩ xs ls (p-i).toNat n.toNat=r_
abbrev x_tiles_h0 (p0:Addr) (t p sh:Int) (xs:LI):Hd Sg:=⟨none,[0,1,0,1,1,1,1],[.blk 0, .code [1,1,1,1,1]],[6,5,3,1],[.i .i64, .i .i64, .own 3 [some .i64], .box 114 [.ic .i64 (t), .ic .i64 (p), .ic .i64 (sh), .roc [.ints .u32 (xs)]]]⟩
theorem x_tiles_begin (t p sh:Int) (xs:LI) (hp0:AGood ⟨t,p,sh⟩ xs) (hl0:xs.length≤9223372036854775807):x_tiles_w t p sh xs (λi' n' n1' ls'=>x_tiles_I0 t p sh xs i' n' n1' ls' (x_tiles t p sh xs)) (λr__=>r__=(x_tiles t p sh xs)):=by
 unfold x_tiles_w
 try unfold x_tiles_I0
 have hok:=Cf.ok_iff.1 hp0.ok
 simp only at hok
 rintro r1 rfl
 refine ⟨hp0, λ_=>⟨λhc=>?_, λhc=>?_⟩⟩
 ·have e:(starts ⟨t,p,sh⟩ xs).2=false:=by simpa [x_starts] using hc
  show false=tiles ⟨t,p,sh⟩ xs
  unfold tiles
  rw [e];rfl
 ·have e:(starts ⟨t,p,sh⟩ xs).2=true:=by simpa [x_starts] using hc
  refine ⟨by omega,by omega,by omega,by omega,rfl,?_⟩
  show _=tiles ⟨t,p,sh⟩ xs
  unfold tiles
  rw [e,cond_true,show (p-0).toNat=p.toNat by omega]
  rfl
theorem x_tiles_step0 (t p sh:Int) (xs:LI) (hp0:AGood ⟨t,p,sh⟩ xs) (hl0:xs.length≤9223372036854775807) (i n:Int) (n1:Nat) (ls:LI) {r_:Bool} (hI:x_tiles_I0 t p sh xs i n n1 ls r_):x_tiles_w0 t p sh xs i n n1 ls (λi' n' n1' ls'=>x_tiles_I0 t p sh xs i' n' n1' ls' r_∧lx ((p-i').toNat,0,0) ((p-i).toNat,0,0)) (λr__=>r__=r_):=by
 unfold x_tiles_I0 at hI
 unfold x_tiles_w0
 try unfold x_tiles_I0
 obtain ⟨h0,h1,h2,h3,h4,hr⟩:=hI
 have hok:=Cf.ok_iff.1 hp0.ok
 simp only at hok
 refine ⟨λh=>?_, λh=>?_⟩
 ·simp only [decide_eq_true_eq] at h
  have hin:=pc_in hp0 (g:=i) (k:=0) ⟨h0,h⟩ (by omega)
  have e:(p-i).toNat=(p-(i+1)).toNat+1:=by omega
  have ei:(p:Int)-(((p-(i+1)).toNat+1:Nat):Int)=i:=by omega
  have hb:decide (n<(n1:Int))=decide (n.toNat<ls.length):=by rw [h4];apply decide_eq_decide.2;omega
  rw [e] at hr
  simp only [tilesF] at hr
  rw [ei] at hr
  rw [w64 (n:=i+1) (by omega),w64 (n:=n+1) (by omega),r07_Info_eq,hb]
  refine ⟨λhh=>(by simp only [decide_eq_true_eq] at hh;omega), λ_=>⟨λhc=>?_, λhc=>?_⟩⟩
  ·rw [hc,cond_true] at hr
   refine ⟨⟨by omega,by omega,by omega,by omega,h4,?_⟩,lxo_⟩
   rw [show (n+1).toNat=n.toNat+1 by omega];exact hr
  ·rw [hc,cond_false] at hr
   refine ⟨hin, λ_=>⟨λhz=>?_, λhz=>?_⟩⟩
   ·have hz':(cel xs (Cf.info ⟨t,p,sh⟩ i) !=0)=true:=hz
    rw [hz',cond_true] at hr;exact hr
   ·have hz':(cel xs (Cf.info ⟨t,p,sh⟩ i) !=0)=false:=hz
    rw [hz',cond_false] at hr
    exact ⟨⟨by omega,by omega,h2,by omega,h4,hr⟩,lxo_⟩
 ·simp only [decide_eq_false_iff_not] at h
  rw [show (p-i).toNat=0 by omega] at hr
  exact hr
theorem x_tiles_ok:EOk 82 e_x_tiles:=
 ent_wp Dg T_x_starts_ok (I:=[6571000000006,6571000000005,6571000000003,6571000000001]) Tryz.func82 mix (B:=bodyOf Tryz.f82) (by kernel_rfl) rfl (by kernel_rfl) 400
  λp0 t p sh xs hb hp=>have hl0:xs.length≤9223372036854775807:=hb.1.2.2.2.1;have hp0:AGood ⟨t,p,sh⟩ xs:=hp _ (.head _);⟨[x_tiles_h0 p0 t p sh xs], λj=>iI [appC (Hd.kd (x_tiles_h0 p0 t p sh xs)) (λi' n' n1' ls'=>x_tiles_I0 t p sh xs i' n' n1' ls' (x_tiles t p sh xs))] j (λ_=>False), λj=>iI [appC (Hd.kd (x_tiles_h0 p0 t p sh xs)) (λi' n' n1' ls'=>((p-i').toNat,0,0))] j (λ_=>(0,0,0)),by kernel_rfl,⟨_, λ_ _ _=>by kernel_rfl,x_tiles_begin t p sh xs hp0 hl0⟩,⟨λi n n1 ls hI=>⟨_, λ_ _ _=>by kernel_rfl,x_tiles_step0 t p sh xs hp0 hl0 i n n1 ls hI⟩,trivial⟩⟩
def T_x_tiles:Tb:=(82,e_x_tiles)::T_x_starts
theorem T_x_tiles_ok:TOk T_x_tiles:=tc_ x_tiles_ok T_x_starts_ok
def x_apart (t p sh:Int) (xs:LI):Bool:=apart ⟨t,p,sh⟩ xs
abbrev c_x_apart:Ct Sg:=⟨none,false,[.agg [.i .i64, .i .i64, .i .i64, .ro [some .u32]]], .b⟩
def e_x_apart:Entry Sg:=entC c_x_apart x_apart (λt p sh xs=>[AGood ⟨t,p,sh⟩ xs])
def x_apart_w (t p sh:Int) (xs:LI) (Q0:Int→Nat→LI→Prop) (R_:Bool→Prop):Prop:=(∀r1:LI×Bool,r1=(x_starts t p sh xs)→(aw_ (AGood {t:=t,p:=p,s:=sh} xs) (Q0 (1) (iF r1.1) r1.1)))
def x_apart_w0 (t p sh:Int) (xs:LI) (n:Int) (n1:Nat) (ls:LI) (Q0:Int→Nat→LI→Prop) (R_:Bool→Prop):Prop:=(bw_ (decide (n<(↑n1:Int))) (aw_ (0≤n∧n<(↑n1:Int)) (aw_ (AGood {t:=t,p:=p,s:=sh} xs) (aw_ (0≤iI ls (iL n) 0∧iI ls (iL n) 0<p) (aw_ ((jZ (x_Info t p sh xs (iI ls (iL n) 0))==1)=true→0≤iA iB (n-1)∧iA iB (n-1)<(↑n1:Int)) (aw_ ((jZ (x_Info t p sh xs (iI ls (iL n) 0))==1)=true→AGood {t:=t,p:=p,s:=sh} xs) (aw_ ((jZ (x_Info t p sh xs (iI ls (iL n) 0))==1)=true→0≤iI ls (iL (iA iB (n-1))) 0∧iI ls (iL (iA iB (n-1))) 0<p) (bw_ (jZ (x_Info t p sh xs (iI ls (iL n) 0))==1&&jZ (x_Info t p sh xs (iI ls (iL (iA iB (n-1))) 0))==1) (R_ (false)) (Q0 (iA iB (n+1)) (n1) (ls))))))))) (R_ (true)))
def x_apart_I0 (t p sh:Int) (xs:LI) (n:Int) (n1:Nat) (ls:LI) (r_:Bool):Prop:=1≤n∧(n≤ls.length∨n=1)∧n1=ls.length∧ls=(starts ⟨t,p,sh⟩ xs).1∧apartF ⟨t,p,sh⟩ xs ls (ls.length-n).toNat=r_
abbrev x_apart_h0 (p0:Addr) (t p sh:Int) (xs:LI):Hd Sg:=⟨none,[0,1,0,1,1],[.blk 0, .code [1,1,1]],[5,3,1],[.i .i64, .own 3 [some .i64], .box 114 [.ic .i64 (t), .ic .i64 (p), .ic .i64 (sh), .roc [.ints .u32 (xs)]]]⟩
theorem x_apart_begin (t p sh:Int) (xs:LI) (hp0:AGood ⟨t,p,sh⟩ xs) (hl0:xs.length≤9223372036854775807):x_apart_w t p sh xs (λn' n1' ls'=>x_apart_I0 t p sh xs n' n1' ls' (x_apart t p sh xs)) (λr__=>r__=(x_apart t p sh xs)):=by
 unfold x_apart_w
 try unfold x_apart_I0
 rintro r1 rfl
 refine ⟨hp0, λ_=>⟨by omega, .inr rfl,rfl,rfl,?_⟩⟩
 show apartF ⟨t,p,sh⟩ xs (starts ⟨t,p,sh⟩ xs).1 (((starts ⟨t,p,sh⟩ xs).1.length:Int)-1).toNat=apart ⟨t,p,sh⟩ xs
 unfold apart
 congr 1
 omega
theorem x_apart_step0 (t p sh:Int) (xs:LI) (hp0:AGood ⟨t,p,sh⟩ xs) (hl0:xs.length≤9223372036854775807) (n:Int) (n1:Nat) (ls:LI) {r_:Bool} (hI:x_apart_I0 t p sh xs n n1 ls r_):x_apart_w0 t p sh xs n n1 ls (λn' n1' ls'=>x_apart_I0 t p sh xs n' n1' ls' r_∧lx ((ls'.length-n').toNat,0,0) ((ls.length-n).toNat,0,0)) (λr__=>r__=r_):=by
 unfold x_apart_I0 at hI
 unfold x_apart_w0
 try unfold x_apart_I0
 obtain ⟨h0,h1,h4,h5,hr⟩:=hI
 have hok:=Cf.ok_iff.1 hp0.ok
 simp only at hok
 refine ⟨λh=>?_, λh=>?_⟩
 ·simp only [decide_eq_true_eq] at h
  have hn:n<(ls.length:Int):=by omega
  have hm:=starts_in (c:=⟨t,p,sh⟩) (xs:=xs) (ls.getD n.toNat 0) (by rw [←h5];exact getD_memA (by omega))
  have hm':=starts_in (c:=⟨t,p,sh⟩) (xs:=xs) (ls.getD (n-1).toNat 0) (by rw [←h5];exact getD_memA (by omega))
  have hbig:n<9223372036854775807:=by
   have hl:=starts_len (c:=⟨t,p,sh⟩) (xs:=xs)
   rw [←h5] at hl
   simp only at hl
   omega
  obtain ⟨m,hm2⟩:∃m:Nat,(ls.length-n).toNat=m+1:=⟨(ls.length-n).toNat-1,by omega⟩
  rw [hm2] at hr
  simp only [apartF] at hr
  rw [show ls.length-(m+1)=n.toNat by omega,show n.toNat-1=(n-1).toNat by omega] at hr
  rw [w64 (n:=n-1) (by omega),w64 (n:=n+1) (by omega)]
  refine ⟨⟨by omega,h⟩, λ_=>⟨hp0, λ_=>⟨hm, λ_=>⟨λ_=>by omega, λ_=>⟨λ_=>hp0, λ_=>⟨λ_=>hm', λ_=>⟨λhc=>?_, λhc=>?_⟩⟩⟩⟩⟩⟩⟩
  ·simp only [x_Info] at hc;rw [hc,cond_true] at hr;exact hr.symm▸rfl
  ·simp only [x_Info] at hc;rw [hc,cond_false] at hr
   refine ⟨⟨by omega,by omega,h4,h5,?_⟩,lxo_⟩
   rw [show (ls.length-(n+1)).toNat=m by omega];exact hr
 ·simp only [decide_eq_false_iff_not] at h
  rw [show (ls.length-n).toNat=0 by omega] at hr
  exact hr
theorem x_apart_ok:EOk 84 e_x_apart:=
 ent_wp Dg T_x_tiles_ok (I:=[411000000005,411000000003,411000000001]) Tryz.func84 mix (B:=bodyOf Tryz.f84) (by kernel_rfl) rfl (by kernel_rfl) 400
  λp0 t p sh xs hb hp=>have hl0:xs.length≤9223372036854775807:=hb.1.2.2.2.1;have hp0:AGood ⟨t,p,sh⟩ xs:=hp _ (.head _);⟨[x_apart_h0 p0 t p sh xs], λj=>iI [appC (Hd.kd (x_apart_h0 p0 t p sh xs)) (λn' n1' ls'=>x_apart_I0 t p sh xs n' n1' ls' (x_apart t p sh xs))] j (λ_=>False), λj=>iI [appC (Hd.kd (x_apart_h0 p0 t p sh xs)) (λn' n1' ls'=>((ls'.length-n').toNat,0,0))] j (λ_=>(0,0,0)),by kernel_rfl,⟨_, λ_ _ _=>by kernel_rfl,x_apart_begin t p sh xs hp0 hl0⟩,⟨λn n1 ls hI=>⟨_, λ_ _ _=>by kernel_rfl,x_apart_step0 t p sh xs hp0 hl0 n n1 ls hI⟩,trivial⟩⟩
def T_x_apart:Tb:=(84,e_x_apart)::T_x_tiles
theorem T_x_apart_ok:TOk T_x_apart:=tc_ x_apart_ok T_x_tiles_ok
def r12_in (ls:LI) (g:Int):Int:=inA ls g
abbrev c_r12_in:Ct Sg:=⟨none,false,[.ro [some .i64], .i .i64], .i .i64⟩
def e_r12_in:Entry Sg:=entC c_r12_in r12_in (λ_ _=>[])
def r12_in_w (ls:LI) (g:Int) (Q0:Int→Int→Prop) (R_:Int→Prop):Prop:=(Q0 (0) (0))
def r12_in_w0 (ls:LI) (g i m:Int) (Q0:Int→Int→Prop) (R_:Int→Prop):Prop:=(bw_ (decide (i<(↑(iF ls):Int))) (aw_ (0≤i∧i<(↑(iF ls):Int)) (bw_ (iI ls (iL i) 0==g) (Q0 (iA iB (i+1)) (iA iB (m+1))) (Q0 (iA iB (i+1)) (m)))) (R_ (m)))
def r12_in_I0 (ls:LI) (g i m r_:Int):Prop:=0≤i∧i≤ls.length∧m=inA (ls.take i.toNat) g∧ls.length≤9223372036854775807∧r_=inA ls g
abbrev r12_in_h0 (p0:Addr) (ls:LI) (g:Int):Hd Sg:=⟨none,[0,1,0,1,1],[.blk 0, .code [1,1,1]],[6,5,0,1],[.i .i64, .i .i64, .roc [.ints .i64 (ls)], .ic .i64 (g)]⟩
theorem r12_in_begin (ls:LI) (g:Int) (hl0:ls.length≤9223372036854775807):r12_in_w ls g (λi' m'=>r12_in_I0 ls g i' m' (r12_in ls g)) (λr__=>r__=(r12_in ls g)):=by
 unfold r12_in_w
 try unfold r12_in_I0
 exact ⟨by omega,by omega,by simp [inA],hl0,rfl⟩
theorem r12_in_step0 (ls:LI) (g:Int) (hl0:ls.length≤9223372036854775807) (i m:Int) {r_:Int} (hI:r12_in_I0 ls g i m r_):r12_in_w0 ls g i m (λi' m'=>r12_in_I0 ls g i' m' r_∧lx ((ls.length-i').toNat,0,0) ((ls.length-i).toNat,0,0)) (λr__=>r__=r_):=by
 unfold r12_in_I0 at hI
 unfold r12_in_w0
 try unfold r12_in_I0
 obtain ⟨h0,h1,h2,h3,hr⟩:=hI
 refine ⟨λh=>?_, λh=>?_⟩
 ·simp only [decide_eq_true_eq] at h
  have ht:ls.take (i+1).toNat=ls.take i.toNat++[ls.getD i.toNat 0]:=by
   rw [show (i+1).toNat=i.toNat+1 by omega,qA,iD,iN (by omega)];rfl
  have hle:0≤m∧m≤i:=by
   rw [h2];unfold inA
   have:=mB (· ==g) (ls.take i.toNat)
   rw [mL] at this
   omega
  rw [w64 (n:=i+1) (by omega),w64 (n:=m+1) (by omega)]
  refine ⟨⟨h0,h⟩, λ_=>⟨λhc=>?_, λhc=>?_⟩⟩
  ·refine ⟨⟨by omega,by omega,?_,h3,hr⟩,lxo_⟩
   rw [ht,h2]
   generalize ls.getD i.toNat 0=q at hc
   unfold inA
   rw [kX,jM]
   simp only [beq_iff_eq,beq_eq_false_iff_ne] at hc
   simp [mT,hc]
  ·refine ⟨⟨by omega,by omega,?_,h3,hr⟩,lxo_⟩
   rw [ht,h2]
   generalize ls.getD i.toNat 0=q at hc
   unfold inA
   rw [kX,jM]
   simp only [beq_iff_eq,beq_eq_false_iff_ne] at hc
   simp [mT,hc]
 ·simp only [decide_eq_false_iff_not] at h
  show m=r_
  rw [hr,h2,lI (by omega)]
theorem r12_in_ok:EOk 126 e_r12_in:=
 ent_wp Dg T_x_apart_ok (I:=[411000000006,411000000005,411000000000,411000000001]) Tryz.func126 mix (B:=bodyOf Tryz.f126) (by kernel_rfl) rfl (by kernel_rfl) 400
  λp0 ls g hb hp=>have hl0:ls.length≤9223372036854775807:=hb.1;⟨[r12_in_h0 p0 ls g], λj=>iI [appC (Hd.kd (r12_in_h0 p0 ls g)) (λi' m'=>r12_in_I0 ls g i' m' (r12_in ls g))] j (λ_=>False), λj=>iI [appC (Hd.kd (r12_in_h0 p0 ls g)) (λi' m'=>((ls.length-i').toNat,0,0))] j (λ_=>(0,0,0)),by kernel_rfl,⟨_, λ_ _ _=>by kernel_rfl,r12_in_begin ls g hl0⟩,⟨λi m hI=>⟨_, λ_ _ _=>by kernel_rfl,r12_in_step0 ls g hl0 i m hI⟩,trivial⟩⟩
def T_r12_in:Tb:=(126,e_r12_in)::T_x_apart
theorem T_r12_in_ok:TOk T_r12_in:=tc_ r12_in_ok T_x_apart_ok
end
section
open Go.Sl
theorem r05_Slots_eq (k:Int):r05_Slots k=kSlots k:=by
 by_cases h:0≤k∧k≤8
 ·rcases (by omega:k=0∨k=1∨k=2∨k=3∨k=4∨k=5∨k=6∨k=7∨k=8) with rfl|rfl|rfl|rfl|rfl|rfl|rfl|rfl|rfl<;>rfl
 ·have e:∀j:Int,0≤j→j≤8→(k==j)=false:= λj h0 h1=>by simp;omega
  have e1:r05_Slots k=0:=by
   unfold r05_Slots
   simp only [e 0 (by omega) (by omega),e 1 (by omega) (by omega),e 2 (by omega) (by omega),e 3 (by omega) (by omega),e 4 (by omega) (by omega),e 5 (by omega) (by omega),e 6 (by omega) (by omega),e 7 (by omega) (by omega),e 8 (by omega) (by omega),cond_false]
  rw [e1]
  unfold kSlots
  by_cases h0:0≤k
  ·have:decide (0≤k)=true:=by simpa using h0
   rw [this,cond_true,iD,jP (by simp;omega)];rfl
  ·have:decide (0≤k)=false:=by simpa using h0
   rw [this];rfl
theorem bit_eq {v:Int} (hv:bd32 v) (i:Int):r01_Bit v i=bitAt v i:=by
 unfold r01_Bit bitAt
 by_cases h:0≤i∧i<32
 ·have e1:decide (i≥0)=true:=by simp;omega
  have e2:decide (i<32)=true:=by simp;omega
  rw [e1,e2]
  have ew:iA lQ i=i:=by rw [pP];omega
  have em:min i.toNat 32=i.toNat:=by omega
  have hp:(0:Int)≤2^i.toNat:=Int.le_of_lt (Int.pow_pos (by omega))
  rw [ew,em,mH _ hp,oI (Int.ediv_nonneg hv.1 hp)]
 ·have:(decide (i≥0)&&decide (i<32))=false:=by simp;omega
  rw [this,oW,oW]
def r01_Ones (v:Int):Int:=ones v
abbrev c_r01_Ones:Ct Sg:=⟨none,false,[.i .u32], .i .i64⟩
def e_r01_Ones:Entry Sg:=entC c_r01_Ones r01_Ones (λv=>[bd32 v])
def r01_Ones_w (v:Int) (Q0:Int→Int→Prop) (R_:Int→Prop):Prop:=(Q0 (0) (0))
def r01_Ones_w0 (v i m:Int) (Q0:Int→Int→Prop) (R_:Int→Prop):Prop:=(bw_ (decide (i<32)) (bw_ (r01_Bit v i) (Q0 (iA iB (i+1)) (iA iB (m+1))) (Q0 (iA iB (i+1)) (m))) (R_ (m)))
def r01_Ones_I0 (v i m r_:Int):Prop:=0≤i∧i≤32∧0≤m∧m≤i∧m=onesF v i.toNat∧r_=ones v
abbrev r01_Ones_h0 (p0:Addr) (v:Int):Hd Sg:=⟨none,[0,1,0,1,1],[.blk 0, .code [1,1,1]],[4,3,0],[.i .i64, .i .i64, .ic .u32 (v)]⟩
theorem r01_Ones_begin (v:Int) (hp0:bd32 v):r01_Ones_w v (λi' m'=>r01_Ones_I0 v i' m' (r01_Ones v)) (λr__=>r__=(r01_Ones v)):=by
 unfold r01_Ones_w
 try unfold r01_Ones_I0
 exact ⟨by omega,by omega,by omega,by omega,rfl,rfl⟩
theorem r01_Ones_step0 (v:Int) (hp0:bd32 v) (i m:Int) {r_:Int} (hI:r01_Ones_I0 v i m r_):r01_Ones_w0 v i m (λi' m'=>r01_Ones_I0 v i' m' r_∧lx ((32-i').toNat,0,0) ((32-i).toNat,0,0)) (λr__=>r__=r_):=by
 unfold r01_Ones_I0 at hI
 unfold r01_Ones_w0
 try unfold r01_Ones_I0
 obtain ⟨h0,h1,h2,h3,h4,hr⟩:=hI
 refine ⟨λh=>?_, λh=>?_⟩
 ·simp only [decide_eq_true_eq] at h
  have e:(i+1).toNat=i.toNat+1:=by omega
  have ei:((i.toNat:Nat):Int)=i:=by omega
  rw [w64 (n:=i+1) (by omega),w64 (n:=m+1) (by omega),bit_eq hp0]
  refine ⟨λhb=>?_, λhb=>?_⟩
  ·exact ⟨⟨by omega,by omega,by omega,by omega,by rw [e,onesF,ei,hb,←h4];rfl,hr⟩,lxo_⟩
  ·exact ⟨⟨by omega,by omega,by omega,by omega,by rw [e,onesF,ei,hb,←h4];simp,hr⟩,lxo_⟩
 ·simp only [decide_eq_false_iff_not] at h
  have e:i.toNat=32:=by omega
  rw [e] at h4
  rw [hr];exact h4
theorem r01_Ones_ok:EOk 132 e_r01_Ones:=
 ent_wp Dg T_r12_in_ok (I:=[411000000004,411000000003,411000000000]) Tryz.func132 mix (B:=bodyOf Tryz.f132) (by kernel_rfl) rfl (by kernel_rfl) 400
  λp0 v hb hp=>have hp0:bd32 v:=hp _ (.head _);⟨[r01_Ones_h0 p0 v], λj=>iI [appC (Hd.kd (r01_Ones_h0 p0 v)) (λi' m'=>r01_Ones_I0 v i' m' (r01_Ones v))] j (λ_=>False), λj=>iI [appC (Hd.kd (r01_Ones_h0 p0 v)) (λi' m'=>((32-i').toNat,0,0))] j (λ_=>(0,0,0)),by kernel_rfl,⟨_, λ_ _ _=>by kernel_rfl,r01_Ones_begin v hp0⟩,⟨λi m hI=>⟨_, λ_ _ _=>by kernel_rfl,r01_Ones_step0 v hp0 i m hI⟩,trivial⟩⟩
def T_r01_Ones:Tb:=(132,e_r01_Ones)::T_r12_in
theorem T_r01_Ones_ok:TOk T_r01_Ones:=tc_ r01_Ones_ok T_r12_in_ok
def r12_Full (v k:Int):Bool:=r01_Ones v==r05_Slots k
abbrev c_r12_Full:Ct Sg:=⟨none,false,[.i .u32, .i .i64], .b⟩
def e_r12_Full:Entry Sg:=entC c_r12_Full r12_Full (λv k=>[bd32 v])
theorem r12_Full_ok:EOk 129 e_r12_Full:=
 ent_ok Dg T_r01_Ones_ok (I:=[]) Tryz.func129 mix (B:=bodyOf Tryz.f129) (by kernel_rfl) rfl (by kernel_rfl) 400
  λ_ v k hb hp=>have hp0:bd32 v:=hp _ (.head _);⟨(r12_Full v k),(.need (bd32 v) .t), λ_ _ _=>by kernel_rfl,⟨(by exact hp0), λz0=>trivial⟩,rfl⟩
def T_r12_Full:Tb:=(129,e_r12_Full)::T_r01_Ones
theorem T_r12_Full_ok:TOk T_r12_Full:=tc_ r12_Full_ok T_r01_Ones_ok
def x_List (t p sh:Int) (xs:LI) (hd:Int):LI×Bool:=listA ⟨t,p,sh⟩ xs hd
abbrev c_x_List:Ct Sg:=⟨none,false,[.agg [.i .i64, .i .i64, .i .i64, .ro [some .u32]], .i .i64], .tup [.new 3 [some .i64], .b]⟩
def e_x_List:Entry Sg:=entC c_x_List x_List (λt p sh xs hd=>[AGood ⟨t,p,sh⟩ xs,0≤hd∧hd<xs.length])
def x_List_w (t p sh:Int) (xs:LI) (hd:Int) (Q0:Int→Int→Nat→LI→Prop) (R_:LI×Bool→Prop):Prop:=(aw_ (0≤hd∧hd<(↑(iF xs):Int)) (Q0 (0) (iI xs (iL hd) 0) (0) ([])))
def x_List_w0 (t p sh:Int) (xs:LI) (hd ah q:Int) (n1:Nat) (out:LI) (Q0:Int→Int→Nat→LI→Prop) (R_:LI×Bool→Prop):Prop:=(bw_ (q !=0) (bw_ (decide (iA iB q>p)||decide ((↑n1:Int)≥p)) (R_ ((out,false))) (aw_ (0≤r07_Prev t p sh (iA iB (iA iB q-1))∧r07_Prev t p sh (iA iB (iA iB q-1))<(↑(iF xs):Int)) (bw_ (iI xs (iL (r07_Prev t p sh (iA iB (iA iB q-1)))) 0 !=ah) (R_ ((out,false))) (aw_ ((n1+1)*8≤140737488355328) (aw_ (0≤r07_Next t p sh (iA iB (iA iB q-1))∧r07_Next t p sh (iA iB (iA iB q-1))<(↑(iF xs):Int)) (Q0 (q) (iI xs (iL (r07_Next t p sh (iA iB (iA iB q-1)))) 0) (n1+1) (out++[iA iB (iA iB q-1)]))))))) (R_ ((out,true))))
def x_List_I0 (t p sh:Int) (xs:LI) (hd ah q:Int) (n1:Nat) (out:LI) (r_:LI×Bool):Prop:=bd32 q∧n1=out.length∧(out.length:Int)≤p∧∃f:Nat,p+1-out.length<f∧listF ⟨t,p,sh⟩ xs f q ah out=r_
abbrev x_List_h0 (p0:Addr) (t p sh:Int) (xs:LI) (hd:Int):Hd Sg:=⟨none,[0,0,1,1,1,1],[.blk 0, .code [1,1,1,1,1]],[8,7,6,2],[.i .u32, .i .u32, .own 3 [some .i64], .box 114 [.ic .i64 (t), .ic .i64 (p), .ic .i64 (sh), .roc [.ints .u32 (xs)]]]⟩
theorem x_List_begin (t p sh:Int) (xs:LI) (hd:Int) (hp0:AGood ⟨t,p,sh⟩ xs) (hp1:0≤hd∧hd<xs.length) (hl0:xs.length≤9223372036854775807):x_List_w t p sh xs hd (λah' q' n1' out'=>x_List_I0 t p sh xs hd ah' q' n1' out' (x_List t p sh xs hd)) (λr__=>r__=(x_List t p sh xs hd)):=by
 unfold x_List_w
 try unfold x_List_I0
 have hok:=Cf.ok_iff.1 hp0.ok
 simp only at hok
 exact ⟨hp1, λ_=>⟨cel_bd hp0 hd,rfl,by simp;omega,p.toNat+2,by simp;omega,rfl⟩⟩
theorem x_List_step0 (t p sh:Int) (xs:LI) (hd:Int) (hp0:AGood ⟨t,p,sh⟩ xs) (hp1:0≤hd∧hd<xs.length) (hl0:xs.length≤9223372036854775807) (ah q:Int) (n1:Nat) (out:LI) {r_:LI×Bool} (hI:x_List_I0 t p sh xs hd ah q n1 out r_):x_List_w0 t p sh xs hd ah q n1 out (λah' q' n1' out'=>x_List_I0 t p sh xs hd ah' q' n1' out' r_∧lx ((p+1-out'.length).toNat,0,0) ((p+1-out.length).toNat,0,0)) (λr__=>r__=r_):=by
 unfold x_List_I0 at hI
 unfold x_List_w0
 try unfold x_List_I0
 obtain ⟨hq,h1,h2,f,hf,hr⟩:=hI
 have hok:=Cf.ok_iff.1 hp0.ok
 simp only at hok
 have hq':0≤q∧q<4294967296:=hq
 obtain ⟨f',rfl⟩:∃f',f=f'+1:=⟨f-1,by omega⟩
 simp only [listF] at hr
 refine ⟨λh=>?_, λh=>?_⟩
 ·have hne:q≠0:=by simpa using h
  have e0:(q==0)=false:=by simpa using hne
  rw [e0,cond_false] at hr
  have hb:(decide (q>p)||decide ((n1:Int)≥p))=(decide (q>p)||decide ((out.length:Int)≥p)):=by rw [h1]
  rw [w64 (n:=q) (by omega),w64 (n:=q-1) (by omega),hb,r07_Prev_eq,r07_Next_eq]
  refine ⟨λhc=>?_, λhc=>?_⟩
  ·rw [hc,cond_true] at hr;exact hr
  ·rw [hc,cond_false] at hr
   simp only [jH,decide_eq_false_iff_not] at hc
   have hg:0≤q-1∧q-1<p:=by omega
   have hin:=pc_in hp0 (g:=q-1) (k:=3) hg (by omega)
   have hin2:=pc_in hp0 (g:=q-1) (k:=2) hg (by omega)
   refine ⟨hin, λ_=>⟨λhz=>?_, λhz=>?_⟩⟩
   ·have hz':(cel xs (Cf.prev ⟨t,p,sh⟩ (q-1)) !=ah)=true:=hz
    rw [hz',cond_true] at hr;exact hr
   ·have hz':(cel xs (Cf.prev ⟨t,p,sh⟩ (q-1)) !=ah)=false:=hz
    rw [hz',cond_false] at hr
    exact ⟨by omega, λ_=>⟨hin2, λ_=>⟨⟨cel_bd hp0 _,by simp [h1],by simp;omega,f',by simp;omega,hr⟩,Or.inl (by simp;omega)⟩⟩⟩
 ·have e0:(q==0)=true:=by simpa using h
  rw [e0,cond_true] at hr
  exact hr
theorem x_List_ok:EOk 123 e_x_List:=
 ent_wp Dg T_r12_Full_ok (I:=[1451000000008,1451000000007,1451000000006,1451000000002]) Tryz.func123 mix (B:=bodyOf Tryz.f123) (by kernel_rfl) rfl (by kernel_rfl) 400
  λp0 t p sh xs hd hb hp=>have hl0:xs.length≤9223372036854775807:=hb.1.2.2.2.1;have hp0:AGood ⟨t,p,sh⟩ xs:=hp _ (.head _);have hp1:0≤hd∧hd<xs.length:=hp _ (.tail _ (.head _));⟨[x_List_h0 p0 t p sh xs hd], λj=>iI [appC (Hd.kd (x_List_h0 p0 t p sh xs hd)) (λah' q' n1' out'=>x_List_I0 t p sh xs hd ah' q' n1' out' (x_List t p sh xs hd))] j (λ_=>False), λj=>iI [appC (Hd.kd (x_List_h0 p0 t p sh xs hd)) (λah' q' n1' out'=>((p+1-out'.length).toNat,0,0))] j (λ_=>(0,0,0)),by kernel_rfl,⟨_, λ_ _ _=>by kernel_rfl,x_List_begin t p sh xs hd hp0 hp1 hl0⟩,⟨λah q n1 out hI=>⟨_, λ_ _ _=>by kernel_rfl,x_List_step0 t p sh xs hd hp0 hp1 hl0 ah q n1 out hI⟩,trivial⟩⟩
def T_x_List:Tb:=(123,e_x_List)::T_r12_Full
theorem T_x_List_ok:TOk T_x_List:=tc_ x_List_ok T_r12_Full_ok
def x_binned (t p sh:Int) (xs:LI) (g k:Int):Bool:=binned ⟨t,p,sh⟩ xs g k
abbrev c_x_binned:Ct Sg:=⟨none,false,[.agg [.i .i64, .i .i64, .i .i64, .ro [some .u32]], .i .i64, .i .i64], .b⟩
def e_x_binned:Entry Sg:=entC c_x_binned x_binned (λt p sh xs g k=>[AGood ⟨t,p,sh⟩ xs,0≤g∧g<p])
def x_binned_w (t p sh:Int) (xs:LI) (g k:Int) (R_:Bool→Prop):Prop:=(aw_ (AGood {t:=t,p:=p,s:=sh} xs) (aw_ (0≤g∧g<p) (aw_ ((jZ (x_Info t p sh xs g)==1)=true→jZ (If.l (aInfo {t:=t,p:=p,s:=sh} xs g),If.c (aInfo {t:=t,p:=p,s:=sh} xs g))≤9223372036854775807) (R_ (jZ (If.k (aInfo {t:=t,p:=p,s:=sh} xs g),If.l (aInfo {t:=t,p:=p,s:=sh} xs g),If.c (aInfo {t:=t,p:=p,s:=sh} xs g))==1&&r01_Log (If.l (aInfo {t:=t,p:=p,s:=sh} xs g))==k)))))
theorem x_binned_begin (t p sh:Int) (xs:LI) (g k:Int) (hp0:AGood ⟨t,p,sh⟩ xs) (hp1:0≤g∧g<p) (hl0:xs.length≤9223372036854775807):x_binned_w t p sh xs g k (λr__=>r__=(x_binned t p sh xs g k)):=by
 unfold x_binned_w
 have hl:(aInfo ⟨t,p,sh⟩ xs g).l≤9223372036854775807:=by
  have:=(iGet_bd (cel xs (Cf.info ⟨t,p,sh⟩ g))).2.2.2.1
  have h2:(aInfo ⟨t,p,sh⟩ xs g).l≤1024:=this
  omega
 exact ⟨hp0, λ_=>⟨hp1, λ_=>⟨λ_=>hl, λ_=>rfl⟩⟩⟩
theorem x_binned_ok:EOk 125 e_x_binned:=
 ent_w0 Dg T_x_List_ok (I:=[]) Tryz.func125 mix (B:=bodyOf Tryz.f125) (by kernel_rfl) rfl (by kernel_rfl) 400
  λ_ t p sh xs g k hb hp=>⟨_, λ_ _ _=>by kernel_rfl,x_binned_begin t p sh xs g k (hp _ (.head _)) (hp _ (.tail _ (.head _))) (hb.1.2.2.2.1)⟩
def T_x_binned:Tb:=(125,e_x_binned)::T_x_List
theorem T_x_binned_ok:TOk T_x_binned:=tc_ x_binned_ok T_x_List_ok
def x_racked (t p sh:Int) (xs:LI) (g k:Int):Bool:=racked ⟨t,p,sh⟩ xs g k
abbrev c_x_racked:Ct Sg:=⟨none,false,[.agg [.i .i64, .i .i64, .i .i64, .ro [some .u32]], .i .i64, .i .i64], .b⟩
def e_x_racked:Entry Sg:=entC c_x_racked x_racked (λt p sh xs g k=>[AGood ⟨t,p,sh⟩ xs,0≤g∧g<p])
def x_racked_w (t p sh:Int) (xs:LI) (g k:Int) (R_:Bool→Prop):Prop:=(aw_ (AGood {t:=t,p:=p,s:=sh} xs) (aw_ (0≤g∧g<p) (aw_ ((jZ (x_Info t p sh xs g)==3&&lD (If.l (aInfo {t:=t,p:=p,s:=sh} xs g),If.c (aInfo {t:=t,p:=p,s:=sh} xs g))==k)=true→AGood {t:=t,p:=p,s:=sh} xs) (aw_ ((jZ (x_Info t p sh xs g)==3&&lD (If.l (aInfo {t:=t,p:=p,s:=sh} xs g),If.c (aInfo {t:=t,p:=p,s:=sh} xs g))==k)=true→0≤g∧g<p) (aw_ ((jZ (x_Info t p sh xs g)==3&&lD (If.l (aInfo {t:=t,p:=p,s:=sh} xs g),If.c (aInfo {t:=t,p:=p,s:=sh} xs g))==k)=true→bd32 (x_Taken t p sh xs g)) (R_ (jZ (If.k (aInfo {t:=t,p:=p,s:=sh} xs g),If.l (aInfo {t:=t,p:=p,s:=sh} xs g),If.c (aInfo {t:=t,p:=p,s:=sh} xs g))==3&&If.c (aInfo {t:=t,p:=p,s:=sh} xs g)==k&&!r12_Full (x_Taken t p sh xs g) k)))))))
theorem x_racked_begin (t p sh:Int) (xs:LI) (g k:Int) (hp0:AGood ⟨t,p,sh⟩ xs) (hp1:0≤g∧g<p) (hl0:xs.length≤9223372036854775807):x_racked_w t p sh xs g k (λr__=>r__=(x_racked t p sh xs g k)):=by
 unfold x_racked_w
 have hbd:=cel_bd hp0 (Cf.taken ⟨t,p,sh⟩ g)
 refine ⟨hp0, λ_=>⟨hp1, λ_=>⟨λ_=>hp0, λ_=>⟨λ_=>hp1, λ_=>⟨λ_=>hbd, λ_=>?_⟩⟩⟩⟩⟩
 show (_&&_&&!r12_Full (cel xs (Cf.taken ⟨t,p,sh⟩ g)) k)=racked ⟨t,p,sh⟩ xs g k
 unfold racked full r12_Full
 rw [r05_Slots_eq]
 rfl
theorem x_racked_ok:EOk 128 e_x_racked:=
 ent_w0 Dg T_x_binned_ok (I:=[]) Tryz.func128 mix (B:=bodyOf Tryz.f128) (by kernel_rfl) rfl (by kernel_rfl) 400
  λ_ t p sh xs g k hb hp=>⟨_, λ_ _ _=>by kernel_rfl,x_racked_begin t p sh xs g k (hp _ (.head _)) (hp _ (.tail _ (.head _))) (hb.1.2.2.2.1)⟩
def T_x_racked:Tb:=(128,e_x_racked)::T_x_binned
theorem T_x_racked_ok:TOk T_x_racked:=tc_ x_racked_ok T_x_binned_ok
end
section
open Go.Sl
theorem onesF_bd (v:Int):∀k:Nat,0≤onesF v k∧onesF v k≤k
 |0=>⟨mC _,mC _⟩
 |k+1=>by
  have:=onesF_bd v k
  simp only [onesF]
  cases bitAt v k with
  |true=>simp only [cond_true];omega
  |false=>simp only [cond_false];omega
theorem countsF_bd (c:Cf) (xs:LI):∀k:Nat,0≤(countsF c xs k).1∧(countsF c xs k).1≤1024*k∧0≤(countsF c xs k).2∧(countsF c xs k).2≤33*k
 |0=>by simp [countsF]
 |k+1=>by
  have h:=countsF_bd c xs k
  have h2:0≤ones (cel xs (c.slots k))∧ones (cel xs (c.slots k))≤32:=onesF_bd _ 32
  have h3:0≤(aInfo c xs k).l∧(aInfo c xs k).l≤1024:=⟨(iGet_bd (cel xs (c.info k))).2.2.1,(iGet_bd (cel xs (c.info k))).2.2.2.1⟩
  simp only [countsF]
  cases (aInfo c xs k).k==1<;>cases (aInfo c xs k).k==2<;>simp only [cond_true,cond_false]<;>omega
def x_loose (t p sh:Int) (xs:LI):Bool:=loose ⟨t,p,sh⟩ xs
abbrev c_x_loose:Ct Sg:=⟨none,false,[.agg [.i .i64, .i .i64, .i .i64, .ro [some .u32]]], .b⟩
def e_x_loose:Entry Sg:=entC c_x_loose x_loose (λt p sh xs=>[AGood ⟨t,p,sh⟩ xs])
def x_loose_w (t p sh:Int) (xs:LI) (Q0:Int→Prop) (R_:Bool→Prop):Prop:=(Q0 (0))
def x_loose_w0 (t p sh:Int) (xs:LI) (i:Int) (Q0:Int→Prop) (R_:Bool→Prop):Prop:=(bw_ (decide (i<p)) (aw_ (AGood {t:=t,p:=p,s:=sh} xs) (aw_ (0≤i∧i<p) (aw_ ((jZ (x_Info t p sh xs i)==3)=true→AGood {t:=t,p:=p,s:=sh} xs) (aw_ ((jZ (x_Info t p sh xs i)==3)=true→0≤i∧i<p) (aw_ ((jZ (x_Info t p sh xs i)==3)=true→bd32 (x_Taken t p sh xs i)) (bw_ (jZ (x_Info t p sh xs i)==1||jZ (x_Info t p sh xs i)==3&&!r12_Full (x_Taken t p sh xs i) (If.c (aInfo {t:=t,p:=p,s:=sh} xs i))) (Q0 (iA iB (i+1))) (aw_ (0≤r07_Next t p sh i∧r07_Next t p sh i<(↑(iF xs):Int)) (aw_ ((iI xs (iL (r07_Next t p sh i)) (0:Int) !=0)=false→0≤r07_Prev t p sh i∧r07_Prev t p sh i<(↑(iF xs):Int)) (bw_ (iI xs (iL (r07_Next t p sh i)) (0:Int) !=0||iI xs (iL (r07_Prev t p sh i)) (0:Int) !=0) (R_ (false)) (Q0 (iA iB (i+1)))))))))))) (R_ (true)))
def x_loose_I0 (t p sh:Int) (xs:LI) (i:Int) (r_:Bool):Prop:=0≤i∧i≤p∧looseF ⟨t,p,sh⟩ xs (p-i).toNat=r_
abbrev x_loose_h0 (p0:Addr) (t p sh:Int) (xs:LI):Hd Sg:=⟨none,[0,1,0,1],[.blk 0, .code [1,1]],[3,1],[.i .i64, .box 114 [.ic .i64 (t), .ic .i64 (p), .ic .i64 (sh), .roc [.ints .u32 (xs)]]]⟩
theorem x_loose_begin (t p sh:Int) (xs:LI) (hp0:AGood ⟨t,p,sh⟩ xs) (hl0:xs.length≤9223372036854775807):x_loose_w t p sh xs (λi'=>x_loose_I0 t p sh xs i' (x_loose t p sh xs)) (λr__=>r__=(x_loose t p sh xs)):=by
 unfold x_loose_w
 try unfold x_loose_I0
 have hok:=Cf.ok_iff.1 hp0.ok
 simp only at hok
 refine ⟨by omega,by omega,?_⟩
 show _=loose ⟨t,p,sh⟩ xs
 unfold loose
 rw [show (p-0).toNat=p.toNat by omega]
theorem x_loose_step0 (t p sh:Int) (xs:LI) (hp0:AGood ⟨t,p,sh⟩ xs) (hl0:xs.length≤9223372036854775807) (i:Int) {r_:Bool} (hI:x_loose_I0 t p sh xs i r_):x_loose_w0 t p sh xs i (λi'=>x_loose_I0 t p sh xs i' r_∧lx ((p-i').toNat,0,0) ((p-i).toNat,0,0)) (λr__=>r__=r_):=by
 unfold x_loose_I0 at hI
 unfold x_loose_w0
 try unfold x_loose_I0
 obtain ⟨h0,h1,hr⟩:=hI
 have hok:=Cf.ok_iff.1 hp0.ok
 simp only at hok
 refine ⟨λh=>?_, λh=>?_⟩
 ·simp only [decide_eq_true_eq] at h
  have hg:0≤i∧i<p:=⟨h0,h⟩
  have hbt:bd32 (x_Taken t p sh xs i):=cel_bd hp0 _
  have hin2:=pc_in hp0 (g:=i) (k:=2) hg (by omega)
  have hin3:=pc_in hp0 (g:=i) (k:=3) hg (by omega)
  have e:(p-i).toNat=(p-(i+1)).toNat+1:=by omega
  have ei:(p:Int)-(((p-(i+1)).toNat+1:Nat):Int)=i:=by omega
  rw [e] at hr
  simp only [looseF] at hr
  rw [ei] at hr
  have hf:∀k,r12_Full (x_Taken t p sh xs i) k=full (cel xs (Cf.taken ⟨t,p,sh⟩ i)) k:= λk=>by
   unfold r12_Full full
   rw [r05_Slots_eq];rfl
  rw [w64 (n:=i+1) (by omega),r07_Next_eq,r07_Prev_eq,hf]
  refine ⟨hp0, λ_=>⟨hg, λ_=>⟨λ_=>hp0, λ_=>⟨λ_=>hg, λ_=>⟨λ_=>hbt, λ_=>⟨λhc=>?_, λhc=>?_⟩⟩⟩⟩⟩⟩
  ·have hc':((aInfo ⟨t,p,sh⟩ xs i).k==1||((aInfo ⟨t,p,sh⟩ xs i).k==3&&!full (cel xs (Cf.taken ⟨t,p,sh⟩ i)) (aInfo ⟨t,p,sh⟩ xs i).c))=true:=hc
   rw [hc',cond_true] at hr
   exact ⟨⟨by omega,by omega,hr⟩,lxo_⟩
  ·have hc':((aInfo ⟨t,p,sh⟩ xs i).k==1||((aInfo ⟨t,p,sh⟩ xs i).k==3&&!full (cel xs (Cf.taken ⟨t,p,sh⟩ i)) (aInfo ⟨t,p,sh⟩ xs i).c))=false:=hc
   rw [hc',cond_false] at hr
   refine ⟨hin2, λ_=>⟨λ_=>hin3, λ_=>⟨λhz=>?_, λhz=>?_⟩⟩⟩
   ·have hz':(cel xs (Cf.next ⟨t,p,sh⟩ i) !=0||cel xs (Cf.prev ⟨t,p,sh⟩ i) !=0)=true:=hz
    rw [hz',cond_true] at hr;exact hr
   ·have hz':(cel xs (Cf.next ⟨t,p,sh⟩ i) !=0||cel xs (Cf.prev ⟨t,p,sh⟩ i) !=0)=false:=hz
    rw [hz',cond_false] at hr
    exact ⟨⟨by omega,by omega,hr⟩,lxo_⟩
 ·simp only [decide_eq_false_iff_not] at h
  rw [show (p-i).toNat=0 by omega] at hr
  exact hr
theorem x_loose_ok:EOk 88 e_x_loose:=
 ent_wp Dg T_x_racked_ok (I:=[103000000003,103000000001]) Tryz.func88 mix (B:=bodyOf Tryz.f88) (by kernel_rfl) rfl (by kernel_rfl) 400
  λp0 t p sh xs hb hp=>have hl0:xs.length≤9223372036854775807:=hb.1.2.2.2.1;have hp0:AGood ⟨t,p,sh⟩ xs:=hp _ (.head _);⟨[x_loose_h0 p0 t p sh xs], λj=>iI [appC (Hd.kd (x_loose_h0 p0 t p sh xs)) (λi'=>x_loose_I0 t p sh xs i' (x_loose t p sh xs))] j (λ_=>False), λj=>iI [appC (Hd.kd (x_loose_h0 p0 t p sh xs)) (λi'=>((p-i').toNat,0,0))] j (λ_=>(0,0,0)),by kernel_rfl,⟨_, λ_ _ _=>by kernel_rfl,x_loose_begin t p sh xs hp0 hl0⟩,⟨λi hI=>⟨_, λ_ _ _=>by kernel_rfl,x_loose_step0 t p sh xs hp0 hl0 i hI⟩,trivial⟩⟩
def T_x_loose:Tb:=(88,e_x_loose)::T_x_racked
theorem T_x_loose_ok:TOk T_x_loose:=tc_ x_loose_ok T_x_racked_ok
def x_counts (t p sh:Int) (xs:LI):Bool:=counts ⟨t,p,sh⟩ xs
abbrev c_x_counts:Ct Sg:=⟨none,false,[.agg [.i .i64, .i .i64, .i .i64, .ro [some .u32]]], .b⟩
def e_x_counts:Entry Sg:=entC c_x_counts x_counts (λt p sh xs=>[AGood ⟨t,p,sh⟩ xs])
def x_counts_w (t p sh:Int) (xs:LI) (Q0:Int→Int→Int→Prop) (R_:Bool→Prop):Prop:=(Q0 (0) (0) (0))
def x_counts_w0 (t p sh:Int) (xs:LI) (i lv fr:Int) (Q0:Int→Int→Int→Prop) (R_:Bool→Prop):Prop:=(bw_ (decide (i<p)) (aw_ (AGood {t:=t,p:=p,s:=sh} xs) (aw_ (0≤i∧i<p) (bw_ (jZ (x_Info t p sh xs i)==1) (bw_ (jZ (x_Info t p sh xs i)==2) (aw_ (AGood {t:=t,p:=p,s:=sh} xs) (aw_ (0≤i∧i<p) (aw_ (bd32 (x_Slots t p sh xs i)) (Q0 (iA iB (i+1)) (iA iB (iA iB (lv+1)+r01_Ones (x_Slots t p sh xs i))) (iA iB (fr+If.l (aInfo {t:=t,p:=p,s:=sh} xs i))))))) (aw_ (AGood {t:=t,p:=p,s:=sh} xs) (aw_ (0≤i∧i<p) (aw_ (bd32 (x_Slots t p sh xs i)) (Q0 (iA iB (i+1)) (iA iB (lv+r01_Ones (x_Slots t p sh xs i))) (iA iB (fr+If.l (aInfo {t:=t,p:=p,s:=sh} xs i)))))))) (bw_ (jZ (x_Info t p sh xs i)==2) (aw_ (AGood {t:=t,p:=p,s:=sh} xs) (aw_ (0≤i∧i<p) (aw_ (bd32 (x_Slots t p sh xs i)) (Q0 (iA iB (i+1)) (iA iB (iA iB (lv+1)+r01_Ones (x_Slots t p sh xs i))) (fr))))) (aw_ (AGood {t:=t,p:=p,s:=sh} xs) (aw_ (0≤i∧i<p) (aw_ (bd32 (x_Slots t p sh xs i)) (Q0 (iA iB (i+1)) (iA iB (lv+r01_Ones (x_Slots t p sh xs i))) (fr))))))))) (aw_ ((0:Int)≤0∧0<(↑(iF xs):Int)) (aw_ ((iI xs 0 0==iA iW fr)=true→(0:Int)≤1∧1<(↑(iF xs):Int)) (R_ (iI xs 0 0==iA iW fr&&iI xs 1 0==iA iW lv)))))
def x_counts_I0 (t p sh:Int) (xs:LI) (i lv fr:Int) (r_:Bool):Prop:=0≤i∧i≤p∧fr=(countsF ⟨t,p,sh⟩ xs i.toNat).1∧lv=(countsF ⟨t,p,sh⟩ xs i.toNat).2∧r_=counts ⟨t,p,sh⟩ xs
abbrev x_counts_h0 (p0:Addr) (t p sh:Int) (xs:LI):Hd Sg:=⟨none,[0,1,0,1,1],[.blk 0, .code [1,1,1]],[5,4,3,1],[.i .i64, .i .i64, .i .i64, .box 114 [.ic .i64 (t), .ic .i64 (p), .ic .i64 (sh), .roc [.ints .u32 (xs)]]]⟩
theorem x_counts_begin (t p sh:Int) (xs:LI) (hp0:AGood ⟨t,p,sh⟩ xs) (hl0:xs.length≤9223372036854775807):x_counts_w t p sh xs (λi' lv' fr'=>x_counts_I0 t p sh xs i' lv' fr' (x_counts t p sh xs)) (λr__=>r__=(x_counts t p sh xs)):=by
 unfold x_counts_w
 try unfold x_counts_I0
 have hok:=Cf.ok_iff.1 hp0.ok
 simp only at hok
 exact ⟨by omega,by omega,rfl,rfl,rfl⟩
theorem x_counts_step0 (t p sh:Int) (xs:LI) (hp0:AGood ⟨t,p,sh⟩ xs) (hl0:xs.length≤9223372036854775807) (i lv fr:Int) {r_:Bool} (hI:x_counts_I0 t p sh xs i lv fr r_):x_counts_w0 t p sh xs i lv fr (λi' lv' fr'=>x_counts_I0 t p sh xs i' lv' fr' r_∧lx ((p-i').toNat,0,0) ((p-i).toNat,0,0)) (λr__=>r__=r_):=by
 unfold x_counts_I0 at hI
 unfold x_counts_w0
 try unfold x_counts_I0
 obtain ⟨h0,h1,hf,hl,hr⟩:=hI
 have hok:=Cf.ok_iff.1 hp0.ok
 simp only at hok
 have hb:=countsF_bd ⟨t,p,sh⟩ xs i.toNat
 refine ⟨λh=>?_, λh=>?_⟩
 ·simp only [decide_eq_true_eq] at h
  have hg:0≤i∧i<p:=⟨h0,h⟩
  have e:(i+1).toNat=i.toNat+1:=by omega
  have ei:((i.toNat:Nat):Int)=i:=by omega
  have hbs:bd32 (x_Slots t p sh xs i):=cel_bd hp0 _
  have hl0:0≤(aInfo ⟨t,p,sh⟩ xs i).l:=(iGet_bd (cel xs (Cf.info ⟨t,p,sh⟩ i))).2.2.1
  have hl1:(aInfo ⟨t,p,sh⟩ xs i).l≤1024:=(iGet_bd (cel xs (Cf.info ⟨t,p,sh⟩ i))).2.2.2.1
  have ho:0≤ones (cel xs (Cf.slots ⟨t,p,sh⟩ i))∧ones (cel xs (Cf.slots ⟨t,p,sh⟩ i))≤32:=onesF_bd _ 32
  have hones:r01_Ones (x_Slots t p sh xs i)=ones (cel xs (Cf.slots ⟨t,p,sh⟩ i)):=rfl
  have key:countsF ⟨t,p,sh⟩ xs (i+1).toNat=(fr+(bif (aInfo ⟨t,p,sh⟩ xs i).k==1 then (aInfo ⟨t,p,sh⟩ xs i).l else 0),lv+(bif (aInfo ⟨t,p,sh⟩ xs i).k==2 then 1 else 0)+ones (cel xs (Cf.slots ⟨t,p,sh⟩ i))):=by
   rw [e,countsF,ei,←hf,←hl]
  have F1:iB.wrap (fr+(aInfo ⟨t,p,sh⟩ xs i).l)=fr+(aInfo ⟨t,p,sh⟩ xs i).l:=w64 (by omega)
  have F2:iB.wrap (lv+1)=lv+1:=w64 (by omega)
  have F3:iB.wrap (lv+1+ones (cel xs (Cf.slots ⟨t,p,sh⟩ i)))=lv+1+ones (cel xs (Cf.slots ⟨t,p,sh⟩ i)):=w64 (by omega)
  have F4:iB.wrap (lv+ones (cel xs (Cf.slots ⟨t,p,sh⟩ i)))=lv+ones (cel xs (Cf.slots ⟨t,p,sh⟩ i)):=w64 (by omega)
  rw [hones,w64 (n:=i+1) (by omega),F2,F3,F4]
  have fin:∀(b1 b2:Bool),((aInfo ⟨t,p,sh⟩ xs i).k==1)=b1→((aInfo ⟨t,p,sh⟩ xs i).k==2)=b2→∀x y:Int,x=fr+(bif b1 then (aInfo ⟨t,p,sh⟩ xs i).l else 0)→y=lv+(bif b2 then 1 else 0)+ones (cel xs (Cf.slots ⟨t,p,sh⟩ i))→
   (0≤i+1∧i+1≤p∧x=(countsF ⟨t,p,sh⟩ xs (i+1).toNat).1∧y=(countsF ⟨t,p,sh⟩ xs (i+1).toNat).2∧r_=counts ⟨t,p,sh⟩ xs)∧lx ((p-(i+1)).toNat,0,0) ((p-i).toNat,0,0):=by
   intro b1 b2 e1 e2 x y hx hy
   rw [key,e1,e2]
   exact ⟨⟨by omega,by omega,hx,hy,hr⟩,lxo_⟩
  refine ⟨hp0, λ_=>⟨hg, λ_=>⟨λc1=>⟨λc2=>?_, λc2=>?_⟩, λc1=>⟨λc2=>?_, λc2=>?_⟩⟩⟩⟩
  ·exact ⟨hp0, λ_=>⟨hg, λ_=>⟨hbs, λ_=>fin true true c1 c2 _ _ F1 rfl⟩⟩⟩
  ·exact ⟨hp0, λ_=>⟨hg, λ_=>⟨hbs, λ_=>fin true false c1 c2 _ _ F1 (by simp)⟩⟩⟩
  ·exact ⟨hp0, λ_=>⟨hg, λ_=>⟨hbs, λ_=>fin false true c1 c2 _ _ (by simp) rfl⟩⟩⟩
  ·exact ⟨hp0, λ_=>⟨hg, λ_=>⟨hbs, λ_=>fin false false c1 c2 _ _ (by simp) (by simp)⟩⟩⟩
 ·simp only [decide_eq_false_iff_not] at h
  have hlen:=hp0.len
  unfold Cf.cells at hlen
  rw [hp0.ok,cond_true] at hlen
  simp only at hlen
  have e:i.toNat=p.toNat:=by omega
  refine ⟨⟨by omega,by omega⟩, λ_=>⟨λ_=>⟨by omega,by omega⟩, λ_=>?_⟩⟩
  show _=r_
  rw [hr,wrapu_nv,wrapu_nv,hf,hl,e]
  rfl
theorem x_counts_ok:EOk 89 e_x_counts:=
 ent_wp Dg T_x_loose_ok (I:=[411000000005,411000000004,411000000003,411000000001]) Tryz.func89 mix (B:=bodyOf Tryz.f89) (by kernel_rfl) rfl (by kernel_rfl) 400
  λp0 t p sh xs hb hp=>have hl0:xs.length≤9223372036854775807:=hb.1.2.2.2.1;have hp0:AGood ⟨t,p,sh⟩ xs:=hp _ (.head _);⟨[x_counts_h0 p0 t p sh xs], λj=>iI [appC (Hd.kd (x_counts_h0 p0 t p sh xs)) (λi' lv' fr'=>x_counts_I0 t p sh xs i' lv' fr' (x_counts t p sh xs))] j (λ_=>False), λj=>iI [appC (Hd.kd (x_counts_h0 p0 t p sh xs)) (λi' lv' fr'=>((p-i').toNat,0,0))] j (λ_=>(0,0,0)),by kernel_rfl,⟨_, λ_ _ _=>by kernel_rfl,x_counts_begin t p sh xs hp0 hl0⟩,⟨λi lv fr hI=>⟨_, λ_ _ _=>by kernel_rfl,x_counts_step0 t p sh xs hp0 hl0 i lv fr hI⟩,trivial⟩⟩
def T_x_counts:Tb:=(89,e_x_counts)::T_x_loose
theorem T_x_counts_ok:TOk T_x_counts:=tc_ x_counts_ok T_x_loose_ok
end
section
open Go.Sl
theorem lxp_ {x y:Nat×Nat×Nat} (h:lx x y:=by unfold lx;dsimp only;omega):lx x y:=h
theorem r07_Rack_eq (k:Int):r07_Rack k=cRack k:=by
 unfold r07_Rack cRack
 by_cases hg:0≤k∧k<9
 ·have a1:(decide (k<0)||decide (k>8))=false:=by simp;omega
  have a2:(decide (0≤k)&&decide (k<9))=true:=by simp;omega
  rw [a2]
  first|(rw [a1];simp only [cond_false,cond_true];rw [w64 (by omega)])|(simp only [cond_true];rw [w64 (by omega)])
 ·have a1:(decide (k<0)||decide (k>8))=true:=by simp;omega
  have a2:(decide (0≤k)&&decide (k<9))=false:=by simp;omega
  rw [a2]
  first|(rw [a1];rfl)|rfl
def x_bins (t p sh:Int) (xs:LI):Bool:=bins ⟨t,p,sh⟩ xs
abbrev c_x_bins:Ct Sg:=⟨none,false,[.agg [.i .i64, .i .i64, .i .i64, .ro [some .u32]]], .b⟩
def e_x_bins:Entry Sg:=entC c_x_bins x_bins (λt p sh xs=>[AGood ⟨t,p,sh⟩ xs])
def x_bins_w (t p sh:Int) (xs:LI) (Q0:Int→Prop) (Q1:Int→Nat→LI→Int→Prop) (R_:Bool→Prop):Prop:=(Q0 (0))
def x_bins_w0 (t p sh:Int) (xs:LI) (k:Int) (Q0:Int→Prop) (Q1:Int→Nat→LI→Int→Prop) (R_:Bool→Prop):Prop:=(bw_ (decide (k<11)) (∀r1:Int,r1=(r07_Bin k)→(∀r2:LI×Bool,r2=(x_List t p sh xs r1)→(aw_ (AGood {t:=t,p:=p,s:=sh} xs) (aw_ (0≤r1∧r1<(↑(iF xs):Int)) (bw_ (!r2.2) (R_ (false)) (Q1 (0) (iF r2.1) r2.1 (k))))))) (R_ (true)))
def x_bins_I0 (t p sh:Int) (xs:LI) (k:Int) (r_:Bool):Prop:=0≤k∧k≤11∧binsF ⟨t,p,sh⟩ xs (11-k).toNat=r_
def x_bins_w1 (t p sh:Int) (xs:LI) (i:Int) (n1:Nat) (ls:LI) (k:Int) (Q0:Int→Prop) (Q1:Int→Nat→LI→Int→Prop) (R_:Bool→Prop):Prop:=(bw_ (decide (i<p)) (aw_ (AGood {t:=t,p:=p,s:=sh} xs) (aw_ (0≤i∧i<p) (bw_ (x_binned t p sh xs i k) (bw_ (r12_in ls i !=1) (R_ (false)) (Q1 (iA iB (i+1)) (n1) (ls) (k))) (bw_ (r12_in ls i !=0) (R_ (false)) (Q1 (iA iB (i+1)) (n1) (ls) (k)))))) (Q0 (iA iB (k+1))))
def x_bins_I1 (t p sh:Int) (xs:LI) (i:Int) (n1:Nat) (ls:LI) (k:Int) (r_:Bool):Prop:=0≤k∧k<11∧0≤i∧i≤p∧n1=ls.length∧(bif onceF ⟨t,p,sh⟩ ls (λg=>binned ⟨t,p,sh⟩ xs g k) (p-i).toNat then binsF ⟨t,p,sh⟩ xs (10-k).toNat else false)=r_
abbrev x_bins_h0 (p0:Addr) (t p sh:Int) (xs:LI):Hd Sg:=⟨none,[0,1,0,1],[.blk 0, .code [1,1]],[3,1],[.i .i64, .box 114 [.ic .i64 (t), .ic .i64 (p), .ic .i64 (sh), .roc [.ints .u32 (xs)]]]⟩
abbrev x_bins_h1 (p0:Addr) (t p sh:Int) (xs:LI):Hd Sg:=⟨none,[0,1,1,1,0,0,1,0,0,1,0,1],[.blk 2, .blk 1, .code [1,1,0,0,1,0,1], .again [0,1,0,1], .blk 0, .code [1,1]],[6,4,3,1],[.i .i64, .own 3 [some .i64], .i .i64, .box 114 [.ic .i64 (t), .ic .i64 (p), .ic .i64 (sh), .roc [.ints .u32 (xs)]]]⟩
theorem x_bins_begin (t p sh:Int) (xs:LI) (hp0:AGood ⟨t,p,sh⟩ xs) (hl0:xs.length≤9223372036854775807):x_bins_w t p sh xs (λk'=>x_bins_I0 t p sh xs k' (x_bins t p sh xs)) (λi' n1' ls' k'=>x_bins_I1 t p sh xs i' n1' ls' k' (x_bins t p sh xs)) (λr__=>r__=(x_bins t p sh xs)):=by
 unfold x_bins_w
 try unfold x_bins_I0
 try unfold x_bins_I1
 exact ⟨by omega,by omega,rfl⟩
theorem x_bins_step0 (t p sh:Int) (xs:LI) (hp0:AGood ⟨t,p,sh⟩ xs) (hl0:xs.length≤9223372036854775807) (k:Int) {r_:Bool} (hI:x_bins_I0 t p sh xs k r_):x_bins_w0 t p sh xs k (λk'=>x_bins_I0 t p sh xs k' r_∧lx ((11-k').toNat,p.toNat+1,0) ((11-k).toNat,p.toNat+1,0)) (λi' n1' ls' k'=>x_bins_I1 t p sh xs i' n1' ls' k' r_∧lx ((11-k').toNat,(p-i').toNat,0) ((11-k).toNat,p.toNat+1,0)) (λr__=>r__=r_):=by
 unfold x_bins_I0 at hI
 unfold x_bins_w0
 try unfold x_bins_I0
 try unfold x_bins_I1
 obtain ⟨h0,h1,hr⟩:=hI
 have hok:=Cf.ok_iff.1 hp0.ok
 simp only at hok
 refine ⟨λh=>?_, λh=>?_⟩
 ·simp only [decide_eq_true_eq] at h
  have e:(11-k).toNat=(10-k).toNat+1:=by omega
  have ek:(11:Int)-(((10-k).toNat+1:Nat):Int)=k:=by omega
  rw [e] at hr
  simp only [binsF] at hr
  rw [ek] at hr
  have hb:=bin_in hp0 (k:=k) ⟨h0,h⟩
  rintro r1 rfl r2 rfl
  rw [r07_Bin_eq]
  refine ⟨hp0, λ_=>⟨hb, λ_=>⟨λhc=>?_, λhc=>?_⟩⟩⟩
  ·have hc':(listA ⟨t,p,sh⟩ xs (cBin k)).2=false:=by simpa [x_List] using hc
   rw [hc',cond_false] at hr;exact hr
  ·have hc':(listA ⟨t,p,sh⟩ xs (cBin k)).2=true:=by simpa [x_List] using hc
   rw [hc',cond_true] at hr
   refine ⟨⟨h0,h,by omega,by omega,rfl,?_⟩,lxp_⟩
   rw [show (p-0).toNat=p.toNat by omega];exact hr
 ·simp only [decide_eq_false_iff_not] at h
  rw [show (11-k).toNat=0 by omega] at hr
  exact hr
theorem x_bins_step1 (t p sh:Int) (xs:LI) (hp0:AGood ⟨t,p,sh⟩ xs) (hl0:xs.length≤9223372036854775807) (i:Int) (n1:Nat) (ls:LI) (k:Int) {r_:Bool} (hI:x_bins_I1 t p sh xs i n1 ls k r_):x_bins_w1 t p sh xs i n1 ls k (λk'=>x_bins_I0 t p sh xs k' r_∧lx ((11-k').toNat,p.toNat+1,0) ((11-k).toNat,(p-i).toNat,0)) (λi' n1' ls' k'=>x_bins_I1 t p sh xs i' n1' ls' k' r_∧lx ((11-k').toNat,(p-i').toNat,0) ((11-k).toNat,(p-i).toNat,0)) (λr__=>r__=r_):=by
 unfold x_bins_I1 at hI
 unfold x_bins_w1
 try unfold x_bins_I0
 try unfold x_bins_I1
 obtain ⟨h0,h1,h2,h3,h4,hr⟩:=hI
 have hok:=Cf.ok_iff.1 hp0.ok
 simp only at hok
 refine ⟨λh=>?_, λh=>?_⟩
 ·simp only [decide_eq_true_eq] at h
  have hg:0≤i∧i<p:=⟨h2,h⟩
  have e:(p-i).toNat=(p-(i+1)).toNat+1:=by omega
  have ei:(p:Int)-(((p-(i+1)).toNat+1:Nat):Int)=i:=by omega
  rw [e] at hr
  simp only [onceF] at hr
  rw [ei] at hr
  rw [w64 (n:=i+1) (by omega)]
  refine ⟨hp0, λ_=>⟨hg, λ_=>⟨λhc=>?_, λhc=>?_⟩⟩⟩
  ·have hc':binned ⟨t,p,sh⟩ xs i k=true:=hc
   rw [hc',cond_true] at hr
   refine ⟨λhn=>?_, λhn=>?_⟩
   ·have hn':(inA ls i !=1)=true:=hn
    rw [hn',cond_true,cond_false] at hr;exact hr
   ·have hn':(inA ls i !=1)=false:=hn
    rw [hn',cond_false] at hr
    exact ⟨⟨h0,h1,by omega,by omega,h4,hr⟩,lxp_⟩
  ·have hc':binned ⟨t,p,sh⟩ xs i k=false:=hc
   rw [hc',cond_false] at hr
   refine ⟨λhn=>?_, λhn=>?_⟩
   ·have hn':(inA ls i !=0)=true:=hn
    rw [hn',cond_true,cond_false] at hr;exact hr
   ·have hn':(inA ls i !=0)=false:=hn
    rw [hn',cond_false] at hr
    exact ⟨⟨h0,h1,by omega,by omega,h4,hr⟩,lxp_⟩
 ·simp only [decide_eq_false_iff_not] at h
  rw [show (p-i).toNat=0 by omega] at hr
  simp only [onceF,cond_true] at hr
  rw [w64 (n:=k+1) (by omega)]
  refine ⟨⟨by omega,by omega,?_⟩,lxp_⟩
  rw [show (11-(k+1)).toNat=(10-k).toNat by omega];exact hr
theorem x_bins_ok:EOk 86 e_x_bins:=
 ent_wp Dg T_x_counts_ok (I:=[103000000003,103000000001,8549000000006,8549000000004,8549000000003,8549000000001]) Tryz.func86 mix (B:=bodyOf Tryz.f86) (by kernel_rfl) rfl (by kernel_rfl) 400
  λp0 t p sh xs hb hp=>have hl0:xs.length≤9223372036854775807:=hb.1.2.2.2.1;have hp0:AGood ⟨t,p,sh⟩ xs:=hp _ (.head _);⟨[x_bins_h0 p0 t p sh xs,x_bins_h1 p0 t p sh xs], λj=>iI [appC (Hd.kd (x_bins_h0 p0 t p sh xs)) (λk'=>x_bins_I0 t p sh xs k' (x_bins t p sh xs)),appC (Hd.kd (x_bins_h1 p0 t p sh xs)) (λi' n1' ls' k'=>x_bins_I1 t p sh xs i' n1' ls' k' (x_bins t p sh xs))] j (λ_=>False), λj=>iI [appC (Hd.kd (x_bins_h0 p0 t p sh xs)) (λk'=>((11-k').toNat,p.toNat+1,0)),appC (Hd.kd (x_bins_h1 p0 t p sh xs)) (λi' n1' ls' k'=>((11-k').toNat,(p-i').toNat,0))] j (λ_=>(0,0,0)),by kernel_rfl,⟨_, λ_ _ _=>by kernel_rfl,x_bins_begin t p sh xs hp0 hl0⟩,⟨λk hI=>⟨_, λ_ _ _=>by kernel_rfl,x_bins_step0 t p sh xs hp0 hl0 k hI⟩,⟨λi n1 ls k hI=>⟨_, λ_ _ _=>by kernel_rfl,x_bins_step1 t p sh xs hp0 hl0 i n1 ls k hI⟩,trivial⟩⟩⟩
def T_x_bins:Tb:=(86,e_x_bins)::T_x_counts
theorem T_x_bins_ok:TOk T_x_bins:=tc_ x_bins_ok T_x_counts_ok
def x_racks (t p sh:Int) (xs:LI):Bool:=racks ⟨t,p,sh⟩ xs
abbrev c_x_racks:Ct Sg:=⟨none,false,[.agg [.i .i64, .i .i64, .i .i64, .ro [some .u32]]], .b⟩
def e_x_racks:Entry Sg:=entC c_x_racks x_racks (λt p sh xs=>[AGood ⟨t,p,sh⟩ xs])
def x_racks_w (t p sh:Int) (xs:LI) (Q0:Int→Prop) (Q1:Int→Nat→LI→Int→Prop) (R_:Bool→Prop):Prop:=(Q0 (0))
def x_racks_w0 (t p sh:Int) (xs:LI) (k:Int) (Q0:Int→Prop) (Q1:Int→Nat→LI→Int→Prop) (R_:Bool→Prop):Prop:=(bw_ (decide (k<9)) (∀r1:Int,r1=(r07_Rack k)→(∀r2:LI×Bool,r2=(x_List t p sh xs r1)→(aw_ (AGood {t:=t,p:=p,s:=sh} xs) (aw_ (0≤r1∧r1<(↑(iF xs):Int)) (bw_ (!r2.2) (R_ (false)) (Q1 (0) (iF r2.1) r2.1 (k))))))) (R_ (true)))
def x_racks_I0 (t p sh:Int) (xs:LI) (k:Int) (r_:Bool):Prop:=0≤k∧k≤9∧racksF ⟨t,p,sh⟩ xs (9-k).toNat=r_
def x_racks_w1 (t p sh:Int) (xs:LI) (i:Int) (n1:Nat) (ls:LI) (k:Int) (Q0:Int→Prop) (Q1:Int→Nat→LI→Int→Prop) (R_:Bool→Prop):Prop:=(bw_ (decide (i<p)) (aw_ (AGood {t:=t,p:=p,s:=sh} xs) (aw_ (0≤i∧i<p) (bw_ (x_racked t p sh xs i k) (bw_ (r12_in ls i !=1) (R_ (false)) (Q1 (iA iB (i+1)) (n1) (ls) (k))) (bw_ (r12_in ls i !=0) (R_ (false)) (Q1 (iA iB (i+1)) (n1) (ls) (k)))))) (Q0 (iA iB (k+1))))
def x_racks_I1 (t p sh:Int) (xs:LI) (i:Int) (n1:Nat) (ls:LI) (k:Int) (r_:Bool):Prop:=0≤k∧k<9∧0≤i∧i≤p∧n1=ls.length∧(bif onceF ⟨t,p,sh⟩ ls (λg=>racked ⟨t,p,sh⟩ xs g k) (p-i).toNat then racksF ⟨t,p,sh⟩ xs (8-k).toNat else false)=r_
abbrev x_racks_h0 (p0:Addr) (t p sh:Int) (xs:LI):Hd Sg:=⟨none,[0,1,0,1],[.blk 0, .code [1,1]],[3,1],[.i .i64, .box 114 [.ic .i64 (t), .ic .i64 (p), .ic .i64 (sh), .roc [.ints .u32 (xs)]]]⟩
abbrev x_racks_h1 (p0:Addr) (t p sh:Int) (xs:LI):Hd Sg:=⟨none,[0,1,1,1,0,0,1,0,0,1,0,1],[.blk 2, .blk 1, .code [1,1,0,0,1,0,1], .again [0,1,0,1], .blk 0, .code [1,1]],[6,4,3,1],[.i .i64, .own 3 [some .i64], .i .i64, .box 114 [.ic .i64 (t), .ic .i64 (p), .ic .i64 (sh), .roc [.ints .u32 (xs)]]]⟩
theorem x_racks_begin (t p sh:Int) (xs:LI) (hp0:AGood ⟨t,p,sh⟩ xs) (hl0:xs.length≤9223372036854775807):x_racks_w t p sh xs (λk'=>x_racks_I0 t p sh xs k' (x_racks t p sh xs)) (λi' n1' ls' k'=>x_racks_I1 t p sh xs i' n1' ls' k' (x_racks t p sh xs)) (λr__=>r__=(x_racks t p sh xs)):=by
 unfold x_racks_w
 try unfold x_racks_I0
 try unfold x_racks_I1
 exact ⟨by omega,by omega,rfl⟩
theorem x_racks_step0 (t p sh:Int) (xs:LI) (hp0:AGood ⟨t,p,sh⟩ xs) (hl0:xs.length≤9223372036854775807) (k:Int) {r_:Bool} (hI:x_racks_I0 t p sh xs k r_):x_racks_w0 t p sh xs k (λk'=>x_racks_I0 t p sh xs k' r_∧lx ((9-k').toNat,p.toNat+1,0) ((9-k).toNat,p.toNat+1,0)) (λi' n1' ls' k'=>x_racks_I1 t p sh xs i' n1' ls' k' r_∧lx ((9-k').toNat,(p-i').toNat,0) ((9-k).toNat,p.toNat+1,0)) (λr__=>r__=r_):=by
 unfold x_racks_I0 at hI
 unfold x_racks_w0
 try unfold x_racks_I0
 try unfold x_racks_I1
 obtain ⟨h0,h1,hr⟩:=hI
 have hok:=Cf.ok_iff.1 hp0.ok
 simp only at hok
 refine ⟨λh=>?_, λh=>?_⟩
 ·simp only [decide_eq_true_eq] at h
  have e:(9-k).toNat=(8-k).toNat+1:=by omega
  have ek:(9:Int)-(((8-k).toNat+1:Nat):Int)=k:=by omega
  rw [e] at hr
  simp only [racksF] at hr
  rw [ek] at hr
  have hb:=rack_in hp0 (k:=k) ⟨h0,h⟩
  rintro r1 rfl r2 rfl
  rw [r07_Rack_eq]
  refine ⟨hp0, λ_=>⟨hb, λ_=>⟨λhc=>?_, λhc=>?_⟩⟩⟩
  ·have hc':(listA ⟨t,p,sh⟩ xs (cRack k)).2=false:=by simpa [x_List] using hc
   rw [hc',cond_false] at hr;exact hr
  ·have hc':(listA ⟨t,p,sh⟩ xs (cRack k)).2=true:=by simpa [x_List] using hc
   rw [hc',cond_true] at hr
   refine ⟨⟨h0,h,by omega,by omega,rfl,?_⟩,lxp_⟩
   rw [show (p-0).toNat=p.toNat by omega];exact hr
 ·simp only [decide_eq_false_iff_not] at h
  rw [show (9-k).toNat=0 by omega] at hr
  exact hr
theorem x_racks_step1 (t p sh:Int) (xs:LI) (hp0:AGood ⟨t,p,sh⟩ xs) (hl0:xs.length≤9223372036854775807) (i:Int) (n1:Nat) (ls:LI) (k:Int) {r_:Bool} (hI:x_racks_I1 t p sh xs i n1 ls k r_):x_racks_w1 t p sh xs i n1 ls k (λk'=>x_racks_I0 t p sh xs k' r_∧lx ((9-k').toNat,p.toNat+1,0) ((9-k).toNat,(p-i).toNat,0)) (λi' n1' ls' k'=>x_racks_I1 t p sh xs i' n1' ls' k' r_∧lx ((9-k').toNat,(p-i').toNat,0) ((9-k).toNat,(p-i).toNat,0)) (λr__=>r__=r_):=by
 unfold x_racks_I1 at hI
 unfold x_racks_w1
 try unfold x_racks_I0
 try unfold x_racks_I1
 obtain ⟨h0,h1,h2,h3,h4,hr⟩:=hI
 have hok:=Cf.ok_iff.1 hp0.ok
 simp only at hok
 refine ⟨λh=>?_, λh=>?_⟩
 ·simp only [decide_eq_true_eq] at h
  have hg:0≤i∧i<p:=⟨h2,h⟩
  have e:(p-i).toNat=(p-(i+1)).toNat+1:=by omega
  have ei:(p:Int)-(((p-(i+1)).toNat+1:Nat):Int)=i:=by omega
  rw [e] at hr
  simp only [onceF] at hr
  rw [ei] at hr
  rw [w64 (n:=i+1) (by omega)]
  refine ⟨hp0, λ_=>⟨hg, λ_=>⟨λhc=>?_, λhc=>?_⟩⟩⟩
  ·have hc':racked ⟨t,p,sh⟩ xs i k=true:=hc
   rw [hc',cond_true] at hr
   refine ⟨λhn=>?_, λhn=>?_⟩
   ·have hn':(inA ls i !=1)=true:=hn
    rw [hn',cond_true,cond_false] at hr;exact hr
   ·have hn':(inA ls i !=1)=false:=hn
    rw [hn',cond_false] at hr
    exact ⟨⟨h0,h1,by omega,by omega,h4,hr⟩,lxp_⟩
  ·have hc':racked ⟨t,p,sh⟩ xs i k=false:=hc
   rw [hc',cond_false] at hr
   refine ⟨λhn=>?_, λhn=>?_⟩
   ·have hn':(inA ls i !=0)=true:=hn
    rw [hn',cond_true,cond_false] at hr;exact hr
   ·have hn':(inA ls i !=0)=false:=hn
    rw [hn',cond_false] at hr
    exact ⟨⟨h0,h1,by omega,by omega,h4,hr⟩,lxp_⟩
 ·simp only [decide_eq_false_iff_not] at h
  rw [show (p-i).toNat=0 by omega] at hr
  simp only [onceF,cond_true] at hr
  rw [w64 (n:=k+1) (by omega)]
  refine ⟨⟨by omega,by omega,?_⟩,lxp_⟩
  rw [show (9-(k+1)).toNat=(8-k).toNat by omega];exact hr
theorem x_racks_ok:EOk 87 e_x_racks:=
 ent_wp Dg T_x_bins_ok (I:=[103000000003,103000000001,8549000000006,8549000000004,8549000000003,8549000000001]) Tryz.func87 mix (B:=bodyOf Tryz.f87) (by kernel_rfl) rfl (by kernel_rfl) 400
  λp0 t p sh xs hb hp=>have hl0:xs.length≤9223372036854775807:=hb.1.2.2.2.1;have hp0:AGood ⟨t,p,sh⟩ xs:=hp _ (.head _);⟨[x_racks_h0 p0 t p sh xs,x_racks_h1 p0 t p sh xs], λj=>iI [appC (Hd.kd (x_racks_h0 p0 t p sh xs)) (λk'=>x_racks_I0 t p sh xs k' (x_racks t p sh xs)),appC (Hd.kd (x_racks_h1 p0 t p sh xs)) (λi' n1' ls' k'=>x_racks_I1 t p sh xs i' n1' ls' k' (x_racks t p sh xs))] j (λ_=>False), λj=>iI [appC (Hd.kd (x_racks_h0 p0 t p sh xs)) (λk'=>((9-k').toNat,p.toNat+1,0)),appC (Hd.kd (x_racks_h1 p0 t p sh xs)) (λi' n1' ls' k'=>((9-k').toNat,(p-i').toNat,0))] j (λ_=>(0,0,0)),by kernel_rfl,⟨_, λ_ _ _=>by kernel_rfl,x_racks_begin t p sh xs hp0 hl0⟩,⟨λk hI=>⟨_, λ_ _ _=>by kernel_rfl,x_racks_step0 t p sh xs hp0 hl0 k hI⟩,⟨λi n1 ls k hI=>⟨_, λ_ _ _=>by kernel_rfl,x_racks_step1 t p sh xs hp0 hl0 i n1 ls k hI⟩,trivial⟩⟩⟩
def T_x_racks:Tb:=(87,e_x_racks)::T_x_bins
theorem T_x_racks_ok:TOk T_x_racks:=tc_ x_racks_ok T_x_bins_ok
end
section
open Go.Sl
def x_slots (t p sh:Int) (xs:LI):Bool:=slotsOk ⟨t,p,sh⟩ xs
abbrev c_x_slots:Ct Sg:=⟨none,false,[.agg [.i .i64, .i .i64, .i .i64, .ro [some .u32]]], .b⟩
def e_x_slots:Entry Sg:=entC c_x_slots x_slots (λt p sh xs=>[AGood ⟨t,p,sh⟩ xs])
def x_slots_w (t p sh:Int) (xs:LI) (Q0:Int→Prop) (Q1:Int→Int→Int→Int→Int→Prop) (R_:Bool→Prop):Prop:=(Q0 (0))
def x_slots_w0 (t p sh:Int) (xs:LI) (g:Int) (Q0:Int→Prop) (Q1:Int→Int→Int→Int→Int→Prop) (R_:Bool→Prop):Prop:=(bw_ (decide (g<p)) (aw_ (AGood {t:=t,p:=p,s:=sh} xs) (aw_ (0≤g∧g<p) (Q1 (0) (jZ (If.k (aInfo {t:=t,p:=p,s:=sh} xs g),If.l (aInfo {t:=t,p:=p,s:=sh} xs g),If.c (aInfo {t:=t,p:=p,s:=sh} xs g))) (If.l (aInfo {t:=t,p:=p,s:=sh} xs g)) (If.c (aInfo {t:=t,p:=p,s:=sh} xs g)) (g)))) (R_ (true)))
def x_slots_I0 (t p sh:Int) (xs:LI) (g:Int) (r_:Bool):Prop:=0≤g∧g≤p∧slotsF ⟨t,p,sh⟩ xs (p-g).toNat=r_
def x_slots_w1 (t p sh:Int) (xs:LI) (j ik il ic g:Int) (Q0:Int→Prop) (Q1:Int→Int→Int→Int→Int→Prop) (R_:Bool→Prop):Prop:=(bw_ (decide (j<32)) (aw_ (AGood {t:=t,p:=p,s:=sh} xs) (aw_ (0≤g∧g<p) (aw_ (AGood {t:=t,p:=p,s:=sh} xs) (aw_ (0≤g∧g<p) (bw_ (r01_Bit (x_Slots t p sh xs g) j&&!r01_Bit (x_Taken t p sh xs g) j||r01_Bit (x_Taken t p sh xs g) j&&(ik !=3||decide (j≥r05_Slots ic))) (R_ (false)) (Q1 (iA iB (j+1)) (ik) (il) (ic) (g))))))) (aw_ ((ik==3)=true→AGood {t:=t,p:=p,s:=sh} xs) (aw_ ((ik==3)=true→0≤g∧g<p) (bw_ (ik==3&&x_Taken t p sh xs g==0) (R_ (false)) (Q0 (iA iB (g+1)))))))
def x_slots_I1 (t p sh:Int) (xs:LI) (j ik il ic g:Int) (r_:Bool):Prop:=0≤g∧g<p∧0≤j∧j≤32∧ik=(aInfo ⟨t,p,sh⟩ xs g).k∧ic=(aInfo ⟨t,p,sh⟩ xs g).c∧(bif slotsB ⟨t,p,sh⟩ xs g (aInfo ⟨t,p,sh⟩ xs g) (32-j).toNat then (bif (aInfo ⟨t,p,sh⟩ xs g).k==3&&cel xs (Cf.taken ⟨t,p,sh⟩ g)==0 then false else slotsF ⟨t,p,sh⟩ xs (p-(g+1)).toNat) else false)=r_
abbrev x_slots_h0 (p0:Addr) (t p sh:Int) (xs:LI):Hd Sg:=⟨none,[0,1,0,1],[.blk 0, .code [1,1]],[3,1],[.i .i64, .box 114 [.ic .i64 (t), .ic .i64 (p), .ic .i64 (sh), .roc [.ints .u32 (xs)]]]⟩
abbrev x_slots_h1 (p0:Addr) (t p sh:Int) (xs:LI):Hd Sg:=⟨none,[0,1,0,1,0,0,1,0,0,1,0,1],[.blk 2, .code [1,1,0,0,1,0,0,1,0,1], .blk 1, .code [1,1,0,0,1,0,1], .again [0,1,0,1], .blk 0, .code [1,1]],[5,4,3,1],[.i .i64, .box 102 [.i .i64, .i .i64, .i .i64], .i .i64, .box 114 [.ic .i64 (t), .ic .i64 (p), .ic .i64 (sh), .roc [.ints .u32 (xs)]]]⟩
theorem x_slots_begin (t p sh:Int) (xs:LI) (hp0:AGood ⟨t,p,sh⟩ xs) (hl0:xs.length≤9223372036854775807):x_slots_w t p sh xs (λg'=>x_slots_I0 t p sh xs g' (x_slots t p sh xs)) (λj' ik' il' ic' g'=>x_slots_I1 t p sh xs j' ik' il' ic' g' (x_slots t p sh xs)) (λr__=>r__=(x_slots t p sh xs)):=by
 unfold x_slots_w
 try unfold x_slots_I0
 try unfold x_slots_I1
 have hok:=Cf.ok_iff.1 hp0.ok
 simp only at hok
 refine ⟨by omega,by omega,?_⟩
 show _=slotsOk ⟨t,p,sh⟩ xs
 unfold slotsOk
 rw [show (p-0).toNat=p.toNat by omega]
theorem x_slots_step0 (t p sh:Int) (xs:LI) (hp0:AGood ⟨t,p,sh⟩ xs) (hl0:xs.length≤9223372036854775807) (g:Int) {r_:Bool} (hI:x_slots_I0 t p sh xs g r_):x_slots_w0 t p sh xs g (λg'=>x_slots_I0 t p sh xs g' r_∧lx ((p-g').toNat,33,0) ((p-g).toNat,33,0)) (λj' ik' il' ic' g'=>x_slots_I1 t p sh xs j' ik' il' ic' g' r_∧lx ((p-g').toNat,(32-j').toNat,0) ((p-g).toNat,33,0)) (λr__=>r__=r_):=by
 unfold x_slots_I0 at hI
 unfold x_slots_w0
 try unfold x_slots_I0
 try unfold x_slots_I1
 obtain ⟨h0,h1,hr⟩:=hI
 refine ⟨λh=>?_, λh=>?_⟩
 ·simp only [decide_eq_true_eq] at h
  have e:(p-g).toNat=(p-(g+1)).toNat+1:=by omega
  have ei:(p:Int)-(((p-(g+1)).toNat+1:Nat):Int)=g:=by omega
  rw [e] at hr
  simp only [slotsF] at hr
  rw [ei] at hr
  exact ⟨hp0, λ_=>⟨⟨h0,h⟩, λ_=>⟨⟨h0,h,by omega,by omega,rfl,rfl,hr⟩,lxp_⟩⟩⟩
 ·simp only [decide_eq_false_iff_not] at h
  rw [show (p-g).toNat=0 by omega] at hr
  exact hr
theorem x_slots_step1 (t p sh:Int) (xs:LI) (hp0:AGood ⟨t,p,sh⟩ xs) (hl0:xs.length≤9223372036854775807) (j ik il ic g:Int) {r_:Bool} (hI:x_slots_I1 t p sh xs j ik il ic g r_):x_slots_w1 t p sh xs j ik il ic g (λg'=>x_slots_I0 t p sh xs g' r_∧lx ((p-g').toNat,33,0) ((p-g).toNat,(32-j).toNat,0)) (λj' ik' il' ic' g'=>x_slots_I1 t p sh xs j' ik' il' ic' g' r_∧lx ((p-g').toNat,(32-j').toNat,0) ((p-g).toNat,(32-j).toNat,0)) (λr__=>r__=r_):=by
 unfold x_slots_I1 at hI
 unfold x_slots_w1
 try unfold x_slots_I0
 try unfold x_slots_I1
 obtain ⟨h0,h1,h2,h3,rfl,rfl,hr⟩:=hI
 have hok:=Cf.ok_iff.1 hp0.ok
 simp only at hok
 have hbs:=cel_bd hp0 (Cf.slots ⟨t,p,sh⟩ g)
 have hbt:=cel_bd hp0 (Cf.taken ⟨t,p,sh⟩ g)
 have hg:0≤g∧g<p:=⟨h0,h1⟩
 refine ⟨λh=>?_, λh=>?_⟩
 ·simp only [decide_eq_true_eq] at h
  have e:(32-j).toNat=(32-(j+1)).toNat+1:=by omega
  have ej:(32:Int)-(((32-(j+1)).toNat+1:Nat):Int)=j:=by omega
  rw [e] at hr
  simp only [slotsB] at hr
  rw [ej] at hr
  have hb1:r01_Bit (x_Slots t p sh xs g) j=bitAt (cel xs (Cf.slots ⟨t,p,sh⟩ g)) j:=bit_eq hbs j
  have hb2:r01_Bit (x_Taken t p sh xs g) j=bitAt (cel xs (Cf.taken ⟨t,p,sh⟩ g)) j:=bit_eq hbt j
  rw [w64 (n:=j+1) (by omega),hb1,hb2,r05_Slots_eq]
  refine ⟨hp0, λ_=>⟨hg, λ_=>⟨hp0, λ_=>⟨hg, λ_=>⟨λhc=>?_, λhc=>?_⟩⟩⟩⟩⟩
  ·rw [hc,cond_true,cond_false] at hr;exact hr
  ·rw [hc,cond_false] at hr
   exact ⟨⟨h0,h1,by omega,by omega,rfl,rfl,hr⟩,lxp_⟩
 ·simp only [decide_eq_false_iff_not] at h
  rw [show (32-j).toNat=0 by omega] at hr
  simp only [slotsB,cond_true] at hr
  rw [w64 (n:=g+1) (by omega)]
  refine ⟨λ_=>hp0, λ_=>⟨λ_=>hg, λ_=>⟨λhc=>?_, λhc=>?_⟩⟩⟩
  ·have hc':((aInfo ⟨t,p,sh⟩ xs g).k==3&&cel xs (Cf.taken ⟨t,p,sh⟩ g)==0)=true:=hc
   rw [hc',cond_true] at hr;exact hr
  ·have hc':((aInfo ⟨t,p,sh⟩ xs g).k==3&&cel xs (Cf.taken ⟨t,p,sh⟩ g)==0)=false:=hc
   rw [hc',cond_false] at hr
   exact ⟨⟨by omega,by omega,hr⟩,lxp_⟩
theorem x_slots_ok:EOk 85 e_x_slots:=
 ent_wp Dg T_x_racks_ok (I:=[103000000003,103000000001,5703000000005,5703000000004,5703000000003,5703000000001]) Tryz.func85 mix (B:=bodyOf Tryz.f85) (by kernel_rfl) rfl (by kernel_rfl) 400
  λp0 t p sh xs hb hp=>have hl0:xs.length≤9223372036854775807:=hb.1.2.2.2.1;have hp0:AGood ⟨t,p,sh⟩ xs:=hp _ (.head _);⟨[x_slots_h0 p0 t p sh xs,x_slots_h1 p0 t p sh xs], λj=>iI [appC (Hd.kd (x_slots_h0 p0 t p sh xs)) (λg'=>x_slots_I0 t p sh xs g' (x_slots t p sh xs)),appC (Hd.kd (x_slots_h1 p0 t p sh xs)) (λj' ik' il' ic' g'=>x_slots_I1 t p sh xs j' ik' il' ic' g' (x_slots t p sh xs))] j (λ_=>False), λj=>iI [appC (Hd.kd (x_slots_h0 p0 t p sh xs)) (λg'=>((p-g').toNat,33,0)),appC (Hd.kd (x_slots_h1 p0 t p sh xs)) (λj' ik' il' ic' g'=>((p-g').toNat,(32-j').toNat,0))] j (λ_=>(0,0,0)),by kernel_rfl,⟨_, λ_ _ _=>by kernel_rfl,x_slots_begin t p sh xs hp0 hl0⟩,⟨λg hI=>⟨_, λ_ _ _=>by kernel_rfl,x_slots_step0 t p sh xs hp0 hl0 g hI⟩,⟨λj ik il ic g hI=>⟨_, λ_ _ _=>by kernel_rfl,x_slots_step1 t p sh xs hp0 hl0 j ik il ic g hI⟩,trivial⟩⟩⟩
def T_x_slots:Tb:=(85,e_x_slots)::T_x_racks
theorem T_x_slots_ok:TOk T_x_slots:=tc_ x_slots_ok T_x_racks_ok
end
section
open Go.Sl
def r12_Has (ls zs:LI) (g:Int):Bool:=ls.contains g
abbrev c_r12_Has:Ct Sg:=⟨none,false,[.ro [some .i64,some .i64], .i .i64], .b⟩
def e_r12_Has:Entry Sg:=entC c_r12_Has r12_Has (λ_ _ _=>[])
def r12_Has_w (ls zs:LI) (g:Int) (Q0:Int→Prop) (R_:Bool→Prop):Prop:=(Q0 (0))
def r12_Has_w0 (ls zs:LI) (g i:Int) (Q0:Int→Prop) (R_:Bool→Prop):Prop:=(bw_ (decide (i<(↑(iF ls):Int))) (aw_ (0≤i∧i<(↑(iF ls):Int)) (bw_ (iI ls (iL i) 0==g) (R_ (true)) (Q0 (iA iB (i+1))))) (R_ (false)))
def r12_Has_I0 (ls zs:LI) (g i:Int) (r_:Bool):Prop:=0≤i∧i≤ls.length∧(ls.take i.toNat).contains g=false∧ls.length≤9223372036854775807∧r_=ls.contains g
abbrev r12_Has_h0 (p0:Addr) (ls zs:LI) (g:Int):Hd Sg:=⟨none,[0,1,0,1],[.blk 0, .code [1,1]],[5,0,1],[.i .i64, .roc [.ints .i64 (ls), .ints .i64 (zs)], .ic .i64 (g)]⟩
theorem r12_Has_begin (ls zs:LI) (g:Int) (hl0:ls.length≤9223372036854775807):r12_Has_w ls zs g (λi'=>r12_Has_I0 ls zs g i' (r12_Has ls zs g)) (λr__=>r__=(r12_Has ls zs g)):=by
 unfold r12_Has_w
 try unfold r12_Has_I0
 exact ⟨by omega,by omega,by simp,hl0,rfl⟩
theorem r12_Has_step0 (ls zs:LI) (g:Int) (hl0:ls.length≤9223372036854775807) (i:Int) {r_:Bool} (hI:r12_Has_I0 ls zs g i r_):r12_Has_w0 ls zs g i (λi'=>r12_Has_I0 ls zs g i' r_∧lx ((ls.length-i').toNat,0,0) ((ls.length-i).toNat,0,0)) (λr__=>r__=r_):=by
 unfold r12_Has_I0 at hI
 unfold r12_Has_w0
 try unfold r12_Has_I0
 obtain ⟨h0,h1,h2,h3,hr⟩:=hI
 refine ⟨λh=>?_, λh=>?_⟩
 ·simp only [decide_eq_true_eq] at h
  have hlt:i.toNat<ls.length:=by omega
  have ht:ls.take (i+1).toNat=ls.take i.toNat++[ls.getD i.toNat 0]:=by
   rw [show (i+1).toNat=i.toNat+1 by omega,qA,iD,iN hlt];rfl
  rw [w64 (n:=i+1) (by omega)]
  refine ⟨⟨h0,h⟩, λ_=>⟨λhc=>?_, λhc=>?_⟩⟩
  ·have hm:=getD_memA hlt
   simp only [beq_iff_eq] at hc
   rw [hc] at hm
   show true=r_
   rw [hr]
   simpa using hm
  ·refine ⟨⟨by omega,by omega,?_,h3,hr⟩,lxo_⟩
   rw [ht]
   generalize ls.getD i.toNat 0=q at hc
   simp only [beq_eq_false_iff_ne] at hc
   simp only [List.contains_eq_mem,kC,decide_eq_false_iff_not] at h2 ⊢
   intro hh
   rcases hh with hh|hh
   ·exact h2 hh
   ·exact hc (iY.1 hh).symm
 ·simp only [decide_eq_false_iff_not] at h
  rw [lI (by omega)] at h2
  show false=r_
  rw [hr,h2]
theorem r12_Has_ok:EOk 13 e_r12_Has:=
 ent_wp Dg T_x_slots_ok (I:=[103000000005,103000000000,103000000001]) Tryz.func13 mix (B:=bodyOf Tryz.f13) (by kernel_rfl) rfl (by kernel_rfl) 400
  λp0 ls zs g hb hp=>have hl0:ls.length≤9223372036854775807:=hb.1;⟨[r12_Has_h0 p0 ls zs g], λj=>iI [appC (Hd.kd (r12_Has_h0 p0 ls zs g)) (λi'=>r12_Has_I0 ls zs g i' (r12_Has ls zs g))] j (λ_=>False), λj=>iI [appC (Hd.kd (r12_Has_h0 p0 ls zs g)) (λi'=>((ls.length-i').toNat,0,0))] j (λ_=>(0,0,0)),by kernel_rfl,⟨_, λ_ _ _=>by kernel_rfl,r12_Has_begin ls zs g hl0⟩,⟨λi hI=>⟨_, λ_ _ _=>by kernel_rfl,r12_Has_step0 ls zs g hl0 i hI⟩,trivial⟩⟩
def T_r12_Has:Tb:=(13,e_r12_Has)::T_x_slots
theorem T_r12_Has_ok:TOk T_r12_Has:=tc_ r12_Has_ok T_x_slots_ok
def r04_Page (t p sh:Int):Int:=bif r04_Right t p sh then 2^sh.toNat else 0
abbrev c_r04_Page:Ct Sg:=⟨none,false,[.agg [.i .i64, .i .i64, .i .i64]], .i .i64⟩
def e_r04_Page:Entry Sg:=entC c_r04_Page r04_Page (λ_ _ _=>[])
def r04_Page_w (t p sh:Int) (Q0:Int→Int→Prop) (R_:Int→Prop):Prop:=(bw_ (!r04_Right t p sh) (R_ (0)) (Q0 (0) (1)))
def r04_Page_w0 (t p sh i m:Int) (Q0:Int→Int→Prop) (R_:Int→Prop):Prop:=(bw_ (decide (i<sh)) (Q0 (iA iB (i+1)) (iA iB (m*2))) (R_ (m)))
def r04_Page_I0 (t p sh i m r_:Int):Prop:=0≤i∧i≤sh∧sh≤20∧m=2^i.toNat∧r_=2^sh.toNat
abbrev r04_Page_h0 (p0:Addr) (t p sh:Int):Hd Sg:=⟨none,[0,1,0,1,1,1],[.blk 0, .code [1,1,1,1]],[4,3,1],[.i .i64, .i .i64, .box 23 [.ic .i64 (t), .ic .i64 (p), .ic .i64 (sh)]]⟩
theorem r04_Page_begin (t p sh:Int):r04_Page_w t p sh (λi' m'=>r04_Page_I0 t p sh i' m' (r04_Page t p sh)) (λr__=>r__=(r04_Page t p sh)):=by
 unfold r04_Page_w
 try unfold r04_Page_I0
 refine ⟨λhc=>?_, λhc=>?_⟩
 ·have e:r04_Right t p sh=false:=by simpa using hc
  show (0:Int)=r04_Page t p sh
  unfold r04_Page
  rw [e];rfl
 ·have e:r04_Right t p sh=true:=by simpa using hc
  have e':=e
  simp only [r04_Right,iE,decide_eq_true_eq] at e'
  refine ⟨by omega,by omega,by omega,rfl,?_⟩
  unfold r04_Page
  rw [e];rfl
theorem r04_Page_step0 (t p sh i m:Int) {r_:Int} (hI:r04_Page_I0 t p sh i m r_):r04_Page_w0 t p sh i m (λi' m'=>r04_Page_I0 t p sh i' m' r_∧lx ((sh-i').toNat,0,0) ((sh-i).toNat,0,0)) (λr__=>r__=r_):=by
 unfold r04_Page_I0 at hI
 unfold r04_Page_w0
 try unfold r04_Page_I0
 obtain ⟨h0,h1,h2,h3,hr⟩:=hI
 refine ⟨λh=>?_, λh=>?_⟩
 ·simp only [decide_eq_true_eq] at h
  have e:(2:Int)^(i+1).toNat=2^i.toNat*2:=by rw [show (i+1).toNat=i.toNat+1 by omega,Int.pow_succ]
  have hb:(2:Int)^i.toNat≤1048576:=by
   have h4:(2:Nat)^i.toNat≤2^20:=lO (by omega) (by omega)
   have h5:((2^i.toNat:Nat):Int)≤((2^20:Nat):Int):=by exact_mod_cast h4
   simpa using h5
  have hb0:(0:Int)<2^i.toNat:=Int.pow_pos (by omega)
  rw [w64 (n:=i+1) (by omega),w64 (by omega)]
  exact ⟨⟨by omega,by omega,h2,by rw [e,h3],hr⟩,lxo_⟩
 ·simp only [decide_eq_false_iff_not] at h
  have e:i=sh:=by omega
  subst e
  rw [hr];exact h3
theorem r04_Page_ok:EOk 39 e_r04_Page:=
 ent_wp Dg T_r12_Has_ok (I:=[1643000000004,1643000000003,1643000000001]) Tryz.func39 mix (B:=bodyOf Tryz.f39) (by kernel_rfl) rfl (by kernel_rfl) 400
  λp0 t p sh hb hp=>⟨[r04_Page_h0 p0 t p sh], λj=>iI [appC (Hd.kd (r04_Page_h0 p0 t p sh)) (λi' m'=>r04_Page_I0 t p sh i' m' (r04_Page t p sh))] j (λ_=>False), λj=>iI [appC (Hd.kd (r04_Page_h0 p0 t p sh)) (λi' m'=>((sh-i').toNat,0,0))] j (λ_=>(0,0,0)),by kernel_rfl,⟨_, λ_ _ _=>by kernel_rfl,r04_Page_begin t p sh⟩,⟨λi m hI=>⟨_, λ_ _ _=>by kernel_rfl,r04_Page_step0 t p sh i m hI⟩,trivial⟩⟩
def T_r04_Page:Tb:=(39,e_r04_Page)::T_r12_Has
theorem T_r04_Page_ok:TOk T_r04_Page:=tc_ r04_Page_ok T_r12_Has_ok
def r05_Size (sh k:Int):Int:=(bif r05_Slots k==0||r04_Page 1 4 sh==0 then 0 else iA iB (iA iB (mJ (r04_Page 1 4 sh) (r05_Slots k))-qD (iA iB (mJ (r04_Page 1 4 sh) (r05_Slots k))) 16))
abbrev c_r05_Size:Ct Sg:=⟨none,false,[.i .i64, .i .i64], .i .i64⟩
def e_r05_Size:Entry Sg:=entC c_r05_Size r05_Size (λ_ _=>[])
theorem r05_Size_ok:EOk 16 e_r05_Size:=
 ent_ok Dg T_r04_Page_ok (I:=[]) Tryz.func16 mix (B:=bodyOf Tryz.f16) (by kernel_rfl) rfl (by kernel_rfl) 400
  λ_ sh k hb hp=>⟨(r05_Size sh k),(.br (r05_Slots k==0||r04_Page 1 4 sh==0) .t (.need (r05_Slots k≠0) .t)), λ_ _ _=>by kernel_rfl,⟨λz0=>trivial, λz0=>⟨(by first|omega|(simp_all;done)), λz1=>trivial⟩⟩,rfl⟩
def T_r05_Size:Tb:=(16,e_r05_Size)::T_r04_Page
theorem T_r05_Size_ok:TOk T_r05_Size:=tc_ r05_Size_ok T_r04_Page_ok
def r06_Of (t p sh g o:Int):Int×Bool:=(bif !r04_Right t p sh||decide (g<0)||decide (g≥p)||decide (o<0)||decide (o≥r04_Page t p sh) then (0,false) else (iA iB (iA iB (iA iB (g+1)*r04_Page t p sh)+o),true))
abbrev c_r06_Of:Ct Sg:=⟨none,false,[.agg [.i .i64, .i .i64, .i .i64], .i .i64, .i .i64], .tup [.i .i64, .b]⟩
def e_r06_Of:Entry Sg:=entC c_r06_Of r06_Of (λ_ _ _ _ _=>[])
theorem r06_Of_ok:EOk 101 e_r06_Of:=
 ent_ok Dg T_r05_Size_ok (I:=[]) Tryz.func101 mix (B:=bodyOf Tryz.f101) (by kernel_rfl) rfl (by kernel_rfl) 400
  λ_ t p sh g o hb hp=>⟨(r06_Of t p sh g o), .t, λ_ _ _=>by kernel_rfl,trivial,rfl⟩
def T_r06_Of:Tb:=(101,e_r06_Of)::T_r05_Size
theorem T_r06_Of_ok:TOk T_r06_Of:=tc_ r06_Of_ok T_r05_Size_ok
def r06_At (t p sh k g j:Int):Int×Bool:=(bif decide (j<0)||decide (j≥r05_Slots k) then (0,false) else (jZ (r06_Of t p sh g (iA iB (j*r05_Size sh k))),lD (r06_Of t p sh g (iA iB (j*r05_Size sh k)))))
abbrev c_r06_At:Ct Sg:=⟨none,false,[.agg [.i .i64, .i .i64, .i .i64], .i .i64, .i .i64, .i .i64], .tup [.i .i64, .b]⟩
def e_r06_At:Entry Sg:=entC c_r06_At r06_At (λ_ _ _ _ _ _=>[])
theorem r06_At_ok:EOk 138 e_r06_At:=
 ent_ok Dg T_r06_Of_ok (I:=[]) Tryz.func138 mix (B:=bodyOf Tryz.f138) (by kernel_rfl) rfl (by kernel_rfl) 400
  λ_ t p sh k g j hb hp=>⟨(r06_At t p sh k g j), .t, λ_ _ _=>by kernel_rfl,trivial,rfl⟩
def T_r06_At:Tb:=(138,e_r06_At)::T_r06_Of
theorem T_r06_At_ok:TOk T_r06_At:=tc_ r06_At_ok T_r06_Of_ok
end
section
open Go.Sl
def x_feet (t p sh:Int) (xs:LI):Bool:=feet ⟨t,p,sh⟩ xs
abbrev c_x_feet:Ct Sg:=⟨none,false,[.agg [.i .i64, .i .i64, .i .i64, .ro [some .u32]]], .b⟩
def e_x_feet:Entry Sg:=entC c_x_feet x_feet (λt p sh xs=>[AGood ⟨t,p,sh⟩ xs,(starts ⟨t,p,sh⟩ xs).2=true])
def x_feet_w (t p sh:Int) (xs:LI) (Q0:Int→Int→Nat→LI→Prop) (R_:Bool→Prop):Prop:=(∀r1:LI×Bool,r1=(x_starts t p sh xs)→(aw_ (AGood {t:=t,p:=p,s:=sh} xs) (Q0 (0) (0) (iF r1.1) r1.1)))
def x_feet_w0 (t p sh:Int) (xs:LI) (i n:Int) (n1:Nat) (ls:LI) (Q0:Int→Int→Nat→LI→Prop) (R_:Bool→Prop):Prop:=(bw_ (decide (i<p)) (aw_ (decide (iA iB (n+1)<(↑n1:Int))=true→0≤iA iB (n+1)∧iA iB (n+1)<(↑n1:Int)) (bw_ (decide (iA iB (n+1)<(↑n1:Int))&&iI ls (iL (iA iB (n+1))) 0==i) (aw_ (0≤iA iB (n+1)∧iA iB (n+1)<(↑n1:Int)) (aw_ (0≤iA iB (n+1)∧iA iB (n+1)<(↑n1:Int)) (aw_ (AGood {t:=t,p:=p,s:=sh} xs) (aw_ (0≤iI ls (iL (iA iB (n+1))) 0∧iI ls (iL (iA iB (n+1))) 0<p) (bw_ (i==iA iB (iA iB (iI ls (iL (iA iB (n+1))) 0+jZ (If.l (aInfo {t:=t,p:=p,s:=sh} xs (iI ls (iL (iA iB (n+1))) 0)),If.c (aInfo {t:=t,p:=p,s:=sh} xs (iI ls (iL (iA iB (n+1))) 0))))-1)) (aw_ (0≤iA iB (n+1)∧iA iB (n+1)<(↑n1:Int)) (aw_ (0≤r07_Foot t p sh i∧r07_Foot t p sh i<(↑(iF xs):Int)) (bw_ (iI xs (iL (r07_Foot t p sh i)) 0 !=iA iW (iA iB (iI ls (iL (iA iB (n+1))) (0:Int)+1))) (R_ (false)) (Q0 (iA iB (i+1)) (iA iB (n+1)) (n1) (ls))))) (aw_ (0≤r07_Foot t p sh i∧r07_Foot t p sh i<(↑(iF xs):Int)) (bw_ (iI xs (iL (r07_Foot t p sh i)) (0:Int) !=0) (R_ (false)) (Q0 (iA iB (i+1)) (iA iB (n+1)) (n1) (ls))))))))) (aw_ (0≤n∧n<(↑n1:Int)) (aw_ (0≤n∧n<(↑n1:Int)) (aw_ (AGood {t:=t,p:=p,s:=sh} xs) (aw_ (0≤iI ls (iL n) 0∧iI ls (iL n) 0<p) (bw_ (i==iA iB (iA iB (iI ls (iL n) 0+jZ (If.l (aInfo {t:=t,p:=p,s:=sh} xs (iI ls (iL n) 0)),If.c (aInfo {t:=t,p:=p,s:=sh} xs (iI ls (iL n) 0))))-1)) (aw_ (0≤n∧n<(↑n1:Int)) (aw_ (0≤r07_Foot t p sh i∧r07_Foot t p sh i<(↑(iF xs):Int)) (bw_ (iI xs (iL (r07_Foot t p sh i)) 0 !=iA iW (iA iB (iI ls (iL n) (0:Int)+1))) (R_ (false)) (Q0 (iA iB (i+1)) (n) (n1) (ls))))) (aw_ (0≤r07_Foot t p sh i∧r07_Foot t p sh i<(↑(iF xs):Int)) (bw_ (iI xs (iL (r07_Foot t p sh i)) (0:Int) !=0) (R_ (false)) (Q0 (iA iB (i+1)) (n) (n1) (ls))))))))))) (R_ (true)))
def x_feet_I0 (t p sh:Int) (xs:LI) (i n:Int) (n1:Nat) (ls:LI) (r_:Bool):Prop:=0≤i∧i≤p∧0≤n∧n<ls.length∧n1=ls.length∧ls=(starts ⟨t,p,sh⟩ xs).1∧feetF ⟨t,p,sh⟩ xs ls (p-i).toNat n.toNat=r_
abbrev x_feet_h0 (p0:Addr) (t p sh:Int) (xs:LI):Hd Sg:=⟨none,[0,1,0,1,1,1],[.blk 0, .code [1,1,1,1]],[6,5,3,1],[.i .i64, .i .i64, .own 3 [some .i64], .box 114 [.ic .i64 (t), .ic .i64 (p), .ic .i64 (sh), .roc [.ints .u32 (xs)]]]⟩
theorem x_feet_begin (t p sh:Int) (xs:LI) (hp0:AGood ⟨t,p,sh⟩ xs) (hp1:(starts ⟨t,p,sh⟩ xs).2=true) (hl0:xs.length≤9223372036854775807):x_feet_w t p sh xs (λi' n' n1' ls'=>x_feet_I0 t p sh xs i' n' n1' ls' (x_feet t p sh xs)) (λr__=>r__=(x_feet t p sh xs)):=by
 unfold x_feet_w
 try unfold x_feet_I0
 have hok:=Cf.ok_iff.1 hp0.ok
 simp only at hok
 have hne:=starts_ne (c:=⟨t,p,sh⟩) (xs:=xs) (by show 1≤p;omega) hp1
 rintro r1 rfl
 refine ⟨hp0, λ_=>⟨by omega,by omega,by omega,?_,rfl,rfl,?_⟩⟩
 ·show (0:Int)<((starts ⟨t,p,sh⟩ xs).1.length:Int)
  omega
 ·show feetF ⟨t,p,sh⟩ xs (starts ⟨t,p,sh⟩ xs).1 (p-0).toNat (iL 0)=feet ⟨t,p,sh⟩ xs
  unfold feet
  rw [show (p-0).toNat=p.toNat by omega]
  rfl
theorem x_feet_step0 (t p sh:Int) (xs:LI) (hp0:AGood ⟨t,p,sh⟩ xs) (hp1:(starts ⟨t,p,sh⟩ xs).2=true) (hl0:xs.length≤9223372036854775807) (i n:Int) (n1:Nat) (ls:LI) {r_:Bool} (hI:x_feet_I0 t p sh xs i n n1 ls r_):x_feet_w0 t p sh xs i n n1 ls (λi' n' n1' ls'=>x_feet_I0 t p sh xs i' n' n1' ls' r_∧lx ((p-i').toNat,0,0) ((p-i).toNat,0,0)) (λr__=>r__=r_):=by
 unfold x_feet_I0 at hI
 unfold x_feet_w0
 try unfold x_feet_I0
 obtain ⟨h0,h1,h2,h3,h4,h5,hr⟩:=hI
 have hok:=Cf.ok_iff.1 hp0.ok
 simp only at hok
 have hlen:(ls.length:Int)≤p+1:=by
  have:=starts_len (c:=⟨t,p,sh⟩) (xs:=xs)
  rw [←h5] at this
  simp only at this
  omega
 refine ⟨λh=>?_, λh=>?_⟩
 ·simp only [decide_eq_true_eq] at h
  have hft:=pc_in hp0 (g:=i) (k:=1) ⟨h0,h⟩ (by omega)
  have e:(p-i).toNat=(p-(i+1)).toNat+1:=by omega
  have ei:(p:Int)-(((p-(i+1)).toNat+1:Nat):Int)=i:=by omega
  rw [e] at hr
  simp only [feetF] at hr
  rw [ei] at hr
  have hmem:∀q:Nat,q<ls.length→0≤ls.getD q 0∧ls.getD q 0<p:= λq hq=>starts_in (c:=⟨t,p,sh⟩) (xs:=xs) _ (by rw [←h5];exact getD_memA hq)
  have hw:∀x:Int,0≤x→x<p→iB.wrap (iB.wrap (x+(aInfo ⟨t,p,sh⟩ xs x).l)-1)=x+(aInfo ⟨t,p,sh⟩ xs x).l-1:= λx a b=>by
   have h7:=iGet_bd (cel xs (Cf.info ⟨t,p,sh⟩ x))
   have h8:0≤(aInfo ⟨t,p,sh⟩ xs x).l∧(aInfo ⟨t,p,sh⟩ xs x).l≤1024:=⟨h7.2.2.1,h7.2.2.2.1⟩
   rw [w64 (n:=x+(aInfo ⟨t,p,sh⟩ xs x).l) (by omega),w64 (by omega)]
  have hv:∀x:Int,0≤x→x<p→iW.wrap (iB.wrap (x+1))=nv (x+1):= λx a b=>by rw [w64 (n:=x+1) (by omega),wrapu_nv]
  have hn1:decide (n+1<(n1:Int))=decide (n.toNat+1<ls.length):=by rw [h4];apply decide_eq_decide.2;omega
  have en:(n+1).toNat=n.toNat+1:=by omega
  rw [w64 (n:=n+1) (by omega),w64 (n:=i+1) (by omega),r07_Foot_eq,hn1,en]
  refine ⟨λhh=>(by simp only [decide_eq_true_eq] at hh;omega), λ_=>⟨λhc=>?_, λhc=>?_⟩⟩
  ·rw [hc,cond_true] at hr
   have hlt:n.toNat+1<ls.length:=by simp only [iE,decide_eq_true_eq] at hc;exact hc.1
   have hq:0≤n+1∧n+1<(n1:Int):=by omega
   have hm:=hmem (n.toNat+1) hlt
   refine ⟨hq, λ_=>⟨hq, λ_=>⟨hp0, λ_=>⟨hm, λ_=>⟨λhcc=>⟨hq, λ_=>⟨hft, λ_=>⟨λhz=>?_, λhz=>?_⟩⟩⟩, λhcc=>⟨hft, λ_=>⟨λhz=>?_, λhz=>?_⟩⟩⟩⟩⟩⟩⟩
   ·have hcc':(i==ls.getD (n.toNat+1) 0+(aInfo ⟨t,p,sh⟩ xs (ls.getD (n.toNat+1) 0)).l-1)=true:=by rw [←hw _ hm.1 hm.2];exact hcc
    have hz':(cel xs (Cf.foot ⟨t,p,sh⟩ i) !=nv (ls.getD (n.toNat+1) 0+1))=true:=by rw [←hv _ hm.1 hm.2];exact hz
    rw [hcc',cond_true,hz',cond_true] at hr;exact hr
   ·have hcc':(i==ls.getD (n.toNat+1) 0+(aInfo ⟨t,p,sh⟩ xs (ls.getD (n.toNat+1) 0)).l-1)=true:=by rw [←hw _ hm.1 hm.2];exact hcc
    have hz':(cel xs (Cf.foot ⟨t,p,sh⟩ i) !=nv (ls.getD (n.toNat+1) 0+1))=false:=by rw [←hv _ hm.1 hm.2];exact hz
    rw [hcc',cond_true,hz',cond_false] at hr
    exact ⟨⟨by omega,by omega,by omega,by omega,h4,h5,by rw [en];exact hr⟩,lxo_⟩
   ·have hcc':(i==ls.getD (n.toNat+1) 0+(aInfo ⟨t,p,sh⟩ xs (ls.getD (n.toNat+1) 0)).l-1)=false:=by rw [←hw _ hm.1 hm.2];exact hcc
    have hz':(cel xs (Cf.foot ⟨t,p,sh⟩ i) !=0)=true:=hz
    rw [hcc',cond_false,hz',cond_true] at hr;exact hr
   ·have hcc':(i==ls.getD (n.toNat+1) 0+(aInfo ⟨t,p,sh⟩ xs (ls.getD (n.toNat+1) 0)).l-1)=false:=by rw [←hw _ hm.1 hm.2];exact hcc
    have hz':(cel xs (Cf.foot ⟨t,p,sh⟩ i) !=0)=false:=hz
    rw [hcc',cond_false,hz',cond_false] at hr
    exact ⟨⟨by omega,by omega,by omega,by omega,h4,h5,by rw [en];exact hr⟩,lxo_⟩
  ·rw [hc,cond_false] at hr
   have hlt:n.toNat<ls.length:=by omega
   have hq:0≤n∧n<(n1:Int):=by omega
   have hm:=hmem (n.toNat) hlt
   refine ⟨hq, λ_=>⟨hq, λ_=>⟨hp0, λ_=>⟨hm, λ_=>⟨λhcc=>⟨hq, λ_=>⟨hft, λ_=>⟨λhz=>?_, λhz=>?_⟩⟩⟩, λhcc=>⟨hft, λ_=>⟨λhz=>?_, λhz=>?_⟩⟩⟩⟩⟩⟩⟩
   ·have hcc':(i==ls.getD (n.toNat) 0+(aInfo ⟨t,p,sh⟩ xs (ls.getD (n.toNat) 0)).l-1)=true:=by rw [←hw _ hm.1 hm.2];exact hcc
    have hz':(cel xs (Cf.foot ⟨t,p,sh⟩ i) !=nv (ls.getD (n.toNat) 0+1))=true:=by rw [←hv _ hm.1 hm.2];exact hz
    rw [hcc',cond_true,hz',cond_true] at hr;exact hr
   ·have hcc':(i==ls.getD (n.toNat) 0+(aInfo ⟨t,p,sh⟩ xs (ls.getD (n.toNat) 0)).l-1)=true:=by rw [←hw _ hm.1 hm.2];exact hcc
    have hz':(cel xs (Cf.foot ⟨t,p,sh⟩ i) !=nv (ls.getD (n.toNat) 0+1))=false:=by rw [←hv _ hm.1 hm.2];exact hz
    rw [hcc',cond_true,hz',cond_false] at hr
    exact ⟨⟨by omega,by omega,by omega,by omega,h4,h5,hr⟩,lxo_⟩
   ·have hcc':(i==ls.getD (n.toNat) 0+(aInfo ⟨t,p,sh⟩ xs (ls.getD (n.toNat) 0)).l-1)=false:=by rw [←hw _ hm.1 hm.2];exact hcc
    have hz':(cel xs (Cf.foot ⟨t,p,sh⟩ i) !=0)=true:=hz
    rw [hcc',cond_false,hz',cond_true] at hr;exact hr
   ·have hcc':(i==ls.getD (n.toNat) 0+(aInfo ⟨t,p,sh⟩ xs (ls.getD (n.toNat) 0)).l-1)=false:=by rw [←hw _ hm.1 hm.2];exact hcc
    have hz':(cel xs (Cf.foot ⟨t,p,sh⟩ i) !=0)=false:=hz
    rw [hcc',cond_false,hz',cond_false] at hr
    exact ⟨⟨by omega,by omega,by omega,by omega,h4,h5,hr⟩,lxo_⟩
 ·simp only [decide_eq_false_iff_not] at h
  rw [show (p-i).toNat=0 by omega] at hr
  exact hr
theorem x_feet_ok:EOk 83 e_x_feet:=
 ent_wp Dg T_r06_At_ok (I:=[1643000000006,1643000000005,1643000000003,1643000000001]) Tryz.func83 mix (B:=bodyOf Tryz.f83) (by kernel_rfl) rfl (by kernel_rfl) 400
  λp0 t p sh xs hb hp=>have hl0:xs.length≤9223372036854775807:=hb.1.2.2.2.1;have hp0:AGood ⟨t,p,sh⟩ xs:=hp _ (.head _);have hp1:(starts ⟨t,p,sh⟩ xs).2=true:=hp _ (.tail _ (.head _));⟨[x_feet_h0 p0 t p sh xs], λj=>iI [appC (Hd.kd (x_feet_h0 p0 t p sh xs)) (λi' n' n1' ls'=>x_feet_I0 t p sh xs i' n' n1' ls' (x_feet t p sh xs))] j (λ_=>False), λj=>iI [appC (Hd.kd (x_feet_h0 p0 t p sh xs)) (λi' n' n1' ls'=>((p-i').toNat,0,0))] j (λ_=>(0,0,0)),by kernel_rfl,⟨_, λ_ _ _=>by kernel_rfl,x_feet_begin t p sh xs hp0 hp1 hl0⟩,⟨λi n n1 ls hI=>⟨_, λ_ _ _=>by kernel_rfl,x_feet_step0 t p sh xs hp0 hp1 hl0 i n n1 ls hI⟩,trivial⟩⟩
def T_x_feet:Tb:=(83,e_x_feet)::T_r06_At
theorem T_x_feet_ok:TOk T_x_feet:=tc_ x_feet_ok T_r06_At_ok
end
end Go.Proofs.YtinpgnomkmmfdaaGreat
