/-
  DERIVED. Part 3 of the texts of this claim.
-/
import Derived.Test.YtdjfnbbmfmjckaaJModelApart2
import Derived.Test.YtdjfnbbmfmjckaaProg
import Derived.RangeFuncMany
import Derived.RangeFuncLeaves
set_option linter.unusedSimpArgs false
set_option linter.unusedVariables false
open Option.some renaming injEq → iA
open Go.IntKind renaming i64 → iB, wrap → iL
open List renaming map_cons → iC, getD_eq_getElem?_getD → iD, mem_cons → iE, getElem?_append_left → iH, getElem?_append_right → iI, getElem?_map → iK, getD → iN, getElem?_eq_getElem → iO, getElem?_set_self → iS, mem_of_getElem? → iU, length → iV, getElem?_set_ne → iW, zipWith → jA, map_append → jE, getElem?_eq_none → jF, getElem?_cons_zero → jH, mem_singleton → jM, all_eq_true → jN, append_assoc → jO, length_append → jP, map_set → jR, range' → jT, cons_append → jU, range → jX, map_nil → jZ, zipWith_cons_cons → kF, mem_map → kG, getElem?_cons_succ → kH, ext_getElem? → kV, contains_cons → lE, append_nil → lF, nodup_cons → lJ, mem_append → lK, getElem_mem → lR, eraseIdx_sublist → mF, nodup_range → mR, findIdx?_eq_none_iff → nM, getElem?_range → nO
open Nat renaming eq_of_beq_eq_true → iF, beq → iJ, lt_or_ge → jC, ble → jS, le_refl → kC, not_lt_zero → kX, zero_add → lH, mod_lt → lX, beq_refl → nH, sub_self → nW
open Bool renaming and_eq_true → iG, not_true → jW, false_or → kN, not_eq_true' → lC, or_eq_false_iff → lM, or_eq_true → lP, true_or → lV, eq_iff_iff → mJ, true_and → oG
open Prod.mk renaming injEq → iM
open Go.Sem renaming run_bind → iQ, run_pure → iY
open Option renaming map_some → iR, map → mB
open Go.Value renaming pointer → kB, slice → kS, func → lS, bool → oE, tuple → oH
open Array renaming getD_eq_getD_getElem? → jB, getElem?_eq_none → kA, mapM_eq_mapM_toList → nN
open Int renaming toNat → jD
open Go.Sl.Chunk renaming cells → jG, obj → kL, dead → oF
open Go.Sl.Pr renaming pt → kZ
open Prod renaming fst → kR, snd → mA
open Go.Sl.PK renaming cell → nJ
open BitVec renaming ofInt → oC
namespace Go.Sl
section
open Go.RowKit
theorem BP.QW {E:World} {G:Hp} {w:World} {As:List Dn} {k:Nat} {α:Type} {p:α→Prop} {A0:α→Dn} {Bs:α→List Dn} (h:BP E G w As) (hk:As[k]? =some (λh=>∃x,p x∧Sl.star0 (A0 x::Bs x) h)):
 ∃x,p x∧BP E G w (As.set k (A0 x)++Bs x):=by
 obtain ⟨h1,h2,o,h3,h4⟩:=h
 obtain ⟨x,hp,o2,h5⟩:=h4 k _ hk
 have hkl:k<As.length:=Bv hk
 let o':Nat→Option Nat:= λb=>match o b with
  |some i=>if i=k then (match o2 b with|some 0=>some k|some (j+1)=>some (As.length+j)|none=>none) else if i<As.length then some i else none
  |none=>none
 refine ⟨x,hp,h1,h2,o', λb i hb=>?_, λi A hi=>?_⟩
 ·simp only [o'] at hb
  cases ho:o b with
  |none=>simp [ho] at hb
  |some j=>exact h3 b j ho
 ·rcases jC i As.length with hl|hl
  ·rw [iH (by simpa using hl)] at hi
   by_cases hik:k=i
   ·subst hik
    rw [iS hkl] at hi
    injection hi with hi;subst hi
    have:=h5 0 _ rfl
    have e:part w o' k= λb=>if o2 b=some 0 then part w o k b else none:=by
     funext b
     unfold part
     by_cases ho:o b=some k
     ·by_cases h0:o2 b=some 0
      ·simp [o',ho,h0]
      ·have hne:o' b≠some k:=by
        simp only [o',ho,if_true]
        cases hq:o2 b with
        |none=>simp
        |some j=>
         cases j with
         |zero=>exact absurd hq h0
         |succ j=>simp;omega
       rw [if_neg hne,if_neg h0]
     ·have hne:o' b≠some k:=by
       simp only [o']
       cases hq:o b with
       |none=>simp
       |some j=>
        have hjk:j≠k:= λe=>ho (by rw [hq,e])
        simp only [hjk,if_false]
        split<;>simp [hjk]
      rw [if_neg hne];simp [ho]
    rw [e];exact this
   ·rw [iW hik] at hi
    have:=h4 i A hi
    rw [DC (w':=w) (o':=o') (j:=i)] at this
    ·exact this
    ·refine λb=>⟨⟨λhb=>?_, λhb=>?_⟩, λ_=>rfl⟩
     ·have:¬i=k:= λe=>hik e.symm
      simp only [o',hb,this,if_false,hl,if_true]
     ·simp only [o'] at hb
      cases ho:o b with
      |none=>simp [ho] at hb
      |some j=>
       rw [ho] at hb
       dsimp only at hb
       split at hb
       ·cases hq:o2 b with
        |none=>rw [hq] at hb;cases hb
        |some m=>
         rw [hq] at hb
         cases m with
         |zero=>injection hb with hb;exact absurd hb hik
         |succ m=>injection hb with hb;omega
       ·split at hb
        ·exact hb
        ·cases hb
  ·rw [iI (by simpa using hl)] at hi
   simp only [List.length_set] at hi
   have:=h5 (i-As.length+1) A (by simpa using hi)
   have e:part w o' i= λb=>if o2 b=some (i-As.length+1) then part w o k b else none:=by
    funext b
    unfold part
    by_cases ho:o b=some k
    ·by_cases h0:o2 b=some (i-As.length+1)
     ·have:o' b=some i:=by
       simp only [o',ho,h0,if_true];congr 1;omega
      rw [if_pos this,if_pos h0,if_pos ho]
     ·have hne:o' b≠some i:=by
       simp only [o',ho,if_true]
       cases hq:o2 b with
       |none=>simp
       |some j=>
        cases j with
        |zero=>simp;omega
        |succ j=>
         simp only [ne_eq,iA]
         intro e2
         exact h0 (by rw [hq];congr 1;omega)
      rw [if_neg hne,if_neg h0]
    ·have hne:o' b≠some i:=by
      simp only [o']
      cases hq:o b with
      |none=>simp
      |some j=>
       have hjk:j≠k:= λe=>ho (by rw [hq,e])
       simp only [hjk,if_false]
       split
       ·simp;omega
       ·simp
     rw [if_neg hne];simp [ho]
   rw [e];exact this
theorem AkM {Z:Hp} {α:Type} {p:α→Prop} {A0:α→BN} {Bs:α→List BN}:G8 Z (λY h=>∃x,p x∧Sl.star (A0 x::Bs x) Y h)= λh=>∃x,p x∧Sl.star0 (G8 Z (A0 x)::(Bs x).map (G8 Z)) h:=by
 funext k
 apply propext
 have e:∀x,G8 Z (Sl.star (A0 x::Bs x))=Sl.star0 (G8 Z (A0 x)::(Bs x).map (G8 Z)):= λx=>by rw [Pg,iC]
 constructor
 ·intro h
  obtain ⟨x,hp,hs⟩:=h Z (Hp.le_refl Z)
  refine ⟨x,hp,?_⟩
  rw [←e x]
  exact λY hY=>AjR hY hs
 ·rintro ⟨x,hp,hs⟩ Y hY
  rw [←e x] at hs
  exact ⟨x,hp,hs Y hY⟩
theorem Sat.QW {E:Ev} {G:Hp} {w:World} {As:List BN} {k:Nat} {α:Type} {p:α→Prop} {A0:α→BN} {Bs:α→List BN} (h:Sat E G w As) (hk:As[k]? =some (λY h=>∃x,p x∧Sl.star (A0 x::Bs x) Y h)):
 ∃x,p x∧Sat E G w (As.set k (A0 x)++Bs x):=by
 obtain ⟨Z,hz,hw,h0⟩:=h
 obtain ⟨x,hp,h1⟩:=BP.QW (k:=k) (A0:= λx=>G8 Z (A0 x)) (Bs:= λx=>(Bs x).map (G8 Z)) h0 (by rw [Dv hk,AkM])
 refine ⟨x,hp,Z,hz,hw,?_⟩
 rw [jE,jR]
 exact h1
mutual
def Oz (k:Nat):Pr→Pr
 | .no=> .no
 | .pt j pk=>match pk with
   | .obj=>bif iJ j k then .pt j (.cell 0) else .pt j .obj
   |pk=> .pt j pk
 | .many ps=> .many (Adb k ps)
 | .box p=> .box (Oz k p)
def Adb (k:Nat):List Pr→List Pr
 |[]=>[]
 |p::ps=>Oz k p::Adb k ps
end
def VF (k:Nat):List (Value×Pr)→List (Value×Pr)
 |[]=>[]
 |x::r=>(x.1,Oz k x.2)::VF k r
variable {σ:Type} (D:Addr→σ→BN)
def opC (k:Nat):Chunk σ→Chunk σ
 | .cells b t cs=> .cells b t (VF k cs)
 |c=>c
def opK (k:Nat):List (Chunk σ)→List (Chunk σ)
 |[]=>[]
 |c::r=>opC k c::opK k r
def Ju (k:Nat):List Af→List Af
 |[]=>[]
 |e::r=>⟨e.s,e.g,e.v,Oz k e.p⟩::Ju k r
theorem Adc (k:Nat):∀cs:List (Value×Pr),(VF k cs).map (·.1)=cs.map (·.1)
 |[]=>rfl
 |x::r=>by simp [VF,Adc k r]
theorem AjV {G:Hp} (k:Nat) (c:Chunk σ):den D G (opC k c)=den D G c:=by
 cases c<;>simp [opC,den,Adc]
theorem AjW {k:Nat} {c:Chunk σ} {v:Value} {pk:PK} (h:CE c v pk):CE (opC k c) v pk:=by
 cases c<;>first|exact h|(cases pk<;>first|exact h|exact h.elim)
theorem TL (k:Nat):∀(K:List (Chunk σ)) (j:Nat),(opK k K)[j]? =(K[j]?).map (opC k)
 |[],j=>by simp [opK]
 |c::r,0=>by simp [opK]
 |c::r,j+1=>by simp [opK,TL k r j]
theorem JB (k:Nat):∀K:List (Chunk σ),(opK k K).length=K.length
 |[]=>rfl
 |c::r=>by simp [opK,JB k r]
theorem AjX {G:Hp} (k:Nat) (K:List (Chunk σ)):(opK k K).map (den D G)=K.map (den D G):=by
 apply kV
 intro j
 rw [iK,TL,iK]
 cases K[j]? with
 |none=>rfl
 |some c=>simp [AjV]
section
variable {K K':List (Chunk σ)} {k b:Nat} {s:σ}
mutual
theorem Xo (hk:K[k]? =some (.obj ⟨b,0,none⟩ s)) (h0:∃t cs,K'[k]? =some (.cells b t cs)) (h1:∀(j:Nat) (c:Chunk σ),j≠k→K[j]? =some c→∃c',K'[j]? =some c'∧∀v pk,CE c v pk→CE c' v pk):∀(v:Value) (p:Pr),Bl K v p→Bl K' v (Oz k p)
 |_, .no,_=>by simp [Bl,Oz]
 |v, .pt j pk,h=>by
  rw [Bf] at h
  obtain ⟨c,e1,e2⟩:=h
  by_cases hj:j=k
  ·subst hj
   rw [hk] at e1;injection e1 with e1;subst e1
   cases pk<;>simp only [CE] at e2
   obtain ⟨t,cs,h0⟩:=h0
   have hb:iJ j j=true:=nH j
   simp only [Oz,hb,cond_true]
   rw [Bf]
   exact ⟨_,h0,e2⟩
  ·obtain ⟨c',e3,e4⟩:=h1 j c hj e1
   have:Oz k (.pt j pk)= .pt j pk:=by
    cases pk<;>simp only [Oz]
    have:iJ j k=false:=by
     cases hb:iJ j k with
     |false=>rfl
     |true=>exact absurd (iF hb) hj
    rw [this];rfl
   rw [this,Bf]
   exact ⟨c',e3,e4 v pk e2⟩
 |v, .many ps,h=>by
  cases v<;>simp only [Bl,Oz] at h ⊢
  all_goals exact Af4 hk h0 h1 _ ps h
 |v, .box p,h=>by
  cases v<;>simp only [Bl,Oz] at h ⊢
  ·obtain ⟨v,h2,h3⟩:=h
   exact ⟨v,h2,Xo hk h0 h1 _ p h3⟩
  ·exact Xo hk h0 h1 _ p h
theorem Af4 (hk:K[k]? =some (.obj ⟨b,0,none⟩ s)) (h0:∃t cs,K'[k]? =some (.cells b t cs)) (h1:∀(j:Nat) (c:Chunk σ),j≠k→K[j]? =some c→∃c',K'[j]? =some c'∧∀v pk,CE c v pk→CE c' v pk):∀(vs:List Value) (ps:List Pr),Aw K vs ps→Aw K' vs (Adb k ps)
 |[],[],_=>by simp [Aw,Adb]
 |[],_::_,h=>by simp [Aw] at h
 |_::_,[],h=>by simp [Aw] at h
 |v::vs,p::ps,h=>by
  simp only [Aw,Adb] at h ⊢
  exact ⟨Xo hk h0 h1 v p h.1,Af4 hk h0 h1 vs ps h.2⟩
end
theorem Ade {k:Nat}:∀{cs:List (Value×Pr)} {x:Value×Pr},x∈VF k cs→∃y∈cs,x=(y.1,Oz k y.2)
 |[],x,h=>by simp [VF] at h
 |y::r,x,h=>by
  simp only [VF,iE] at h
  rcases h with rfl|h
  ·exact ⟨y,by simp,rfl⟩
  ·obtain ⟨z,h1,h2⟩:=Ade h
   exact ⟨z,by simp [h1],h2⟩
theorem Zl {k:Nat}:∀{L:List Af} {e:Af},e∈Ju k L→∃y∈L,e=⟨y.s,y.g,y.v,Oz k y.p⟩
 |[],x,h=>by simp [Ju] at h
 |y::r,x,h=>by
  simp only [Ju,iE] at h
  rcases h with rfl|h
  ·exact ⟨y,by simp,rfl⟩
  ·obtain ⟨z,h1,h2⟩:=Zl h
   exact ⟨z,by simp [h1],h2⟩
end
theorem SW.open {P:Program} {f:FuncId} {R:Ending→World→Prop} {B:Code} {n:Nat} {E:Ev} {G:Hp} {td:List Ab} {L:List Af} {K:List (Chunk σ)} (k:Nat) {p0:Addr} {s:σ} (hk:K[k]? =some (.obj p0 s))
 {α:Type} {q:α→Prop} (bf:α→Nat) (tf:α→TypeId) (cf:α→List (Value×Pr)) (rf:α→List (Chunk σ)) (hD:D p0 s= λY h=>∃x,q x∧Sl.star ((jG (bf x) (tf x) (cf x)::rf x).map (den D G)) Y h)
 (hp:∀x,q x→p0=⟨bf x,0,none⟩) (hr:∀x b t cs,jG b t cs∈rf x→cs=[])
 (hc:∀x,q x→∀y∈cf x,Bl ((opK k K).set k (.cells (bf x) (tf x) (cf x))++rf x) y.1 y.2)
 (h:∀x,q x→SW D P f R B n E G td (Ju k L) ((opK k K).set k (.cells (bf x) (tf x) (cf x))++rf x)):SW D P f R B n E G td L K:=by
 intro a w hF hS
 have hkl:=Bv hk
 have hS1:Sat E G w (K.map (den D G)):=hS
 obtain ⟨x,hx,hS2⟩:=Sat.QW (p:=q) (A0:= λx=>den D G (.cells (bf x) (tf x) (cf x))) (Bs:= λx=>(rf x).map (den D G)) (k:=k) hS1 (by rw [BJ D hk];simp only [den,hD];rfl)
 have hp0:=hp x hx
 rw [hp0] at hk
 let K':List (Chunk σ):=(opK k K).set k (.cells (bf x) (tf x) (cf x))++rf x
 have hK'k:K'[k]? =some (.cells (bf x) (tf x) (cf x)):=by
  show ((opK k K).set k _++rf x)[k]? =_
  rw [iH (by simp [JB,hkl]),iS (by rw [JB];exact hkl)]
 have hK'j:∀(j:Nat) (c:Chunk σ),j≠k→K[j]? =some c→∃c',K'[j]? =some c'∧∀v pk,CE c v pk→CE c' v pk:= λj c hj hjc=>by
  refine ⟨opC k c,?_, λv pk h=>AjW h⟩
  show ((opK k K).set k _++rf x)[j]? =_
  rw [iH (by simp [JB,Bv hjc]),iW (λe=>hj e.symm),TL,hjc];rfl
 have hop:= λv p hv=>Xo (K:=K) (K':=K') hk ⟨_,_,hK'k⟩ hK'j v p hv
 refine h x hx a w ⟨λj b t cs hj y hy=>?_,hF.defers,hF.size, λe he hg=>?_, λe he hg=>?_⟩ ?_
 ·by_cases hjk:j=k
  ·subst hjk
   have:=hK'k.symm.trans hj
   injection this with this;injection this with _ _ this;subst this
   exact hc x hx y hy
  ·rcases jC j K.length with hl|hl
   ·have hj':((opK k K).set k (jG (bf x) (tf x) (cf x))++rf x)[j]? =some (.cells b t cs):=hj
    rw [iH (by simp [JB,hl]),iW (λe=>hjk e.symm),TL] at hj'
    cases hq:K[j]? with
    |none=>rw [hq] at hj';cases hj'
    |some c=>
     rw [hq] at hj'
     cases c<;>simp only [iR,opC,iA] at hj'<;>try cases hj'
     obtain ⟨z,hz,rfl⟩:=Ade hy
     exact hop _ _ (hF.kok _ _ _ _ hq z hz)
   ·have hj':((opK k K).set k (jG (bf x) (tf x) (cf x))++rf x)[j]? =some (.cells b t cs):=hj
    rw [iI (by simpa [JB] using hl)] at hj'
    have:=hr x b t cs (iU hj')
    subst this;cases hy
 ·obtain ⟨y,hy,rfl⟩:=Zl he
  obtain ⟨e1,e2⟩:=hF.ents y hy hg
  exact ⟨e1,hop _ _ e2⟩
 ·obtain ⟨y,hy,rfl⟩:=Zl he
  exact hF.skipd y hy hg
 ·show Sat E G w _
  rw [jE,jR,AjX]
  exact hS2
def DK {α:Type} (xs:List α) (v:α):List Nat→List α
 |[]=>xs
 |i::is=>DK (xs.set i v) v is
theorem Pi {α:Type} {v:α}:∀(is:List Nat) (xs:List α) (j:Nat) (x:α),(DK xs v is)[j]? =some x→(j∈is∧x=v)∨(j ∉ is∧xs[j]? =some x)
 |[],xs,j,x,h=> .inr ⟨by simp,h⟩
 |i::is,xs,j,x,h=>by
  rcases Pi is (xs.set i v) j x h with ⟨h1,h2⟩|⟨h1,h2⟩
  ·exact .inl ⟨by simp [h1],h2⟩
  ·by_cases hij:i=j
   ·subst hij
    rcases jC i xs.length with hl|hl
    ·rw [iS hl] at h2
     injection h2 with h2
     exact .inl ⟨by simp,h2.symm⟩
    ·rw [jF (by simpa using hl)] at h2;cases h2
   ·rw [iW hij] at h2
    exact .inr ⟨by simp [h1];exact λe=>hij e.symm,h2⟩
theorem Pj {α β:Type} (f:α→β) (v:α):∀(is:List Nat) (xs:List α),(DK xs v is).map f=DK (xs.map f) (f v) is
 |[],xs=>rfl
 |i::is,xs=>by rw [DK,Pj f v is,jR];rfl
theorem Pm {α:Type} (v:α):∀(is:List Nat) (xs:List α),(DK xs v is).length=xs.length
 |[],xs=>rfl
 |i::is,xs=>by rw [DK,Pm v is];simp
theorem Xp {α:Type} {v:α}:∀{is:List Nat} {xs:List α} {j:Nat},j ∉ is→(DK xs v is)[j]? =xs[j]?
 |[],xs,j,_=>rfl
 |i::is,xs,j,h=>by
  simp only [iE,not_or] at h
  rw [DK,Xp h.2,iW (λe=>h.1 e.symm)]
theorem BP.closeAt {E:World} {G:Hp} {w:World} {As Bs:List Dn} {k:Nat} {ks:List Nat} (h:BP E G w As) (hn:(k::ks).Nodup) (hB:∀(i:Nat) (B:Dn),Bs[i]? =some B→∃j,(k::ks)[i]? =some j∧As[j]? =some B):
 BP E G w ((DK As (λ_=>True) ks).set k (Sl.star0 Bs)):=by
 obtain ⟨h1,h2,o,h3,h4⟩:=h
 have hkn:k ∉ ks:=(lJ.1 hn).1
 let o':Nat→Option Nat:= λb=>match o b with
  |some i=>if i∈k::ks then some k else some i
  |none=>none
 have hin:∀b,o' b=some k→∃i,o b=some i∧i∈k::ks:= λb hb=>by
  simp only [o'] at hb
  cases ho:o b with
  |none=>simp [ho] at hb
  |some i=>
   rw [ho] at hb
   dsimp only at hb
   by_cases hi:i∈k::ks
   ·exact ⟨i,rfl,hi⟩
   ·rw [if_neg hi] at hb
    injection hb with hb
    exact absurd (by rw [hb];simp) hi
 refine ⟨h1,h2,o', λb i hb=>?_, λi A hi=>?_⟩
 ·simp only [o'] at hb
  cases ho:o b with
  |none=>simp [ho] at hb
  |some j=>exact h3 b j ho
 ·by_cases hik:k=i
  ·subst hik
   have hl:=Bv hi
   rw [iS (by simpa using hl)] at hi
   injection hi with hi;subst hi
   refine ⟨λb=>match o b with|some i=>(k::ks).idxOf? i|none=>none, λi B hBi=>?_⟩
   obtain ⟨j,e1,e2⟩:=hB i B hBi
   have:=h4 j B e2
   have e:(λb=>if (match o b with|some i=>(k::ks).idxOf? i|none=>none)=some i then part w o' k b else none)=part w o j:=by
    funext b
    unfold part
    cases ho:o b with
    |none=>simp
    |some m=>
     dsimp only
     by_cases hm:(k::ks).idxOf? m=some i
     ·have hmj:m=j:=by
       have:=(I9 hn).1 hm
       rw [e1] at this;injection this with this;exact this.symm
      subst hmj
      have:o' b=some k:=by
       simp only [o',ho]
       rw [if_pos (iU e1)]
      rw [if_pos hm,if_pos this];simp
     ·rw [if_neg hm,if_neg]
      intro e3
      injection e3 with e3
      subst e3
      exact hm ((I9 hn).2 e1)
   rw [e];exact this
  ·rw [iW hik] at hi
   rcases Pi ks As i A hi with ⟨_,rfl⟩|⟨hni,hA⟩
   ·trivial
   ·have:=h4 i A hA
    rw [DC (w':=w) (o':=o') (j:=i)] at this
    ·exact this
    ·have hnk:¬i∈k::ks:=by
      simp only [iE,not_or]
      exact ⟨λe=>hik e.symm,hni⟩
     refine λb=>⟨⟨λhb=>?_, λhb=>?_⟩, λ_=>rfl⟩
     ·simp only [o',hb];rw [if_neg hnk]
     ·simp only [o'] at hb
      cases ho:o b with
      |none=>simp [ho] at hb
      |some j=>
       rw [ho] at hb
       dsimp only at hb
       split at hb
       ·injection hb with hb;exact absurd hb hik
       ·exact hb
theorem Sat.closeAt {E:Ev} {G:Hp} {w:World} {As Bs:List BN} {k:Nat} {ks:List Nat} (h:Sat E G w As) (hn:(k::ks).Nodup) (hB:∀(i:Nat) (B:BN),Bs[i]? =some B→∃j,(k::ks)[i]? =some j∧As[j]? =some B):
 Sat E G w ((DK As (λ_ _=>True) ks).set k (Sl.star Bs)):=by
 obtain ⟨Z,hz,hw,h0⟩:=h
 refine ⟨Z,hz,hw,?_⟩
 have e:G8 Z (λ_ _=>True)= λ_=>True:=by funext k;exact propext ⟨λ_=>trivial, λ_ _ _=>trivial⟩
 rw [jR,Pj,Pg,e]
 exact h0.closeAt hn λi B hi=>by
  obtain ⟨C,h1,rfl⟩:=Hu hi
  obtain ⟨j,h2,h3⟩:=hB i C h1
  exact ⟨j,h2,Dv h3⟩
mutual
def QX (k:Nat) (ks:List Nat):Pr→Pr
 | .no=> .no
 | .pt j pk=>bif iJ j k then (match pk with| .cell 0=> .pt k .obj|_=> .no) else bif ks.any (iJ j) then .no else .pt j pk
 | .many ps=> .many (Adf k ks ps)
 | .box p=> .box (QX k ks p)
def Adf (k:Nat) (ks:List Nat):List Pr→List Pr
 |[]=>[]
 |p::ps=>QX k ks p::Adf k ks ps
end
def Nk (k:Nat) (ks:List Nat):List Af→List Af
 |[]=>[]
 |e::r=>⟨e.s,e.g,e.v,QX k ks e.p⟩::Nk k ks r
theorem Zm {k:Nat} {ks:List Nat}:∀{L:List Af} {e:Af},e∈Nk k ks L→∃y∈L,e=⟨y.s,y.g,y.v,QX k ks y.p⟩
 |[],x,h=>by simp [Nk] at h
 |y::r,x,h=>by
  simp only [Nk,iE] at h
  rcases h with rfl|h
  ·exact ⟨y,by simp,rfl⟩
  ·obtain ⟨z,h1,h2⟩:=Zm h
   exact ⟨z,by simp [h1],h2⟩
section
variable {K K':List (Chunk σ)} {k b:Nat} {ks:List Nat} {s:σ}
mutual
theorem QY {t:TypeId} {cs:List (Value×Pr)} (hk:K[k]? =some (.cells b t cs)) (h0:K'[k]? =some (.obj ⟨b,0,none⟩ s)) (h1:∀j:Nat,j≠k→j ∉ ks→K'[j]? =K[j]?):∀(v:Value) (p:Pr),Bl K v p→Bl K' v (QX k ks p)
 |_, .no,_=>by simp [Bl,QX]
 |v, .pt j pk,h=>by
  rw [Bf] at h
  obtain ⟨c,e1,e2⟩:=h
  simp only [QX]
  cases hj:iJ j k with
  |true=>
   have:=iF hj
   subst this
   simp only [cond_true]
   rw [hk] at e1;injection e1 with e1;subst e1
   split
   ·rw [Bf];exact ⟨_,h0,e2⟩
   ·exact Ar
  |false=>
   simp only [cond_false]
   cases hm:ks.any (iJ j) with
   |true=>exact Ar
   |false=>
    have hjk:j≠k:= λe=>by rw [e,nH] at hj;cases hj
    have hjn:j ∉ ks:= λhmem=>by
     rw [List.any_eq_false] at hm
     exact hm j hmem (nH j)
    simp only [cond_false]
    rw [Bf]
    exact ⟨c,by rw [h1 j hjk hjn];exact e1,e2⟩
 |v, .many ps,h=>by
  cases v<;>simp only [Bl,QX] at h ⊢
  all_goals exact Af5 hk h0 h1 _ ps h
 |v, .box p,h=>by
  cases v<;>simp only [Bl,QX] at h ⊢
  ·obtain ⟨v,h2,h3⟩:=h
   exact ⟨v,h2,QY hk h0 h1 _ p h3⟩
  ·exact QY hk h0 h1 _ p h
theorem Af5 {t:TypeId} {cs:List (Value×Pr)} (hk:K[k]? =some (.cells b t cs)) (h0:K'[k]? =some (.obj ⟨b,0,none⟩ s)) (h1:∀j:Nat,j≠k→j ∉ ks→K'[j]? =K[j]?):∀(vs:List Value) (ps:List Pr),Aw K vs ps→Aw K' vs (Adf k ks ps)
 |[],[],_=>by simp [Aw,Adf]
 |[],_::_,h=>by simp [Aw] at h
 |_::_,[],h=>by simp [Aw] at h
 |v::vs,p::ps,h=>by
  simp only [Aw,Adf] at h ⊢
  exact ⟨QY hk h0 h1 v p h.1,Af5 hk h0 h1 vs ps h.2⟩
end
end
def Adg (k:Nat) (ks:List Nat):Pr→Bool
 | .no=>true
 | .pt j _=>!(iJ j k)&&!(ks.any (iJ j))
 |_=>false
theorem AjY {k:Nat} {ks:List Nat} {p:Pr} (h:Adg k ks p=true):QX k ks p=p:=by
 cases p with
 |no=>rfl
 |pt j pk=>
  simp only [Adg,iG,lC] at h
  simp only [QX]
  rw [h.1,h.2];rfl
 |_=>cases h
def Kw (m:Nat):List (Chunk σ)→Bool
 |[]=>true
 | .cells _ _ cs::r=>cs.all (λx=>Adg 0 (jT 1 m) x.2)&&Kw m r
 |_::r=>Kw m r
theorem Xq {m:Nat}:∀{K:List (Chunk σ)},Kw m K=true→∀b t cs,jG b t cs∈K→∀x∈cs,Adg 0 (jT 1 m) x.2=true
 |[],_,_,_,_,hm,_,_=>by simp at hm
 |c::K,h,b,t,cs,hm,x,hx=>by
  rcases iE.1 hm with rfl|hm
  ·simp only [Kw,iG,jN] at h
   exact h.1 x hx
  ·refine Xq (K:=K) ?_ b t cs hm x hx
   cases c<;>simp only [Kw,iG] at h<;>first|exact h|exact h.2
theorem SW.close {P:Program} {f:FuncId} {R:Ending→World→Prop} {B:Code} {n:Nat} {E:Ev} {G:Hp} {td:List Ab} {L:List Af} {K:List (Chunk σ)} (k:Nat) (ks:List Nat) {b:Nat} {t:TypeId} {cs:List (Value×Pr)} {rs:List (Chunk σ)} {s:σ} (hn:(k::ks).Nodup)
 (hk:K[k]? =some (.cells b t cs)) (hr:∀(i:Nat) c,rs[i]? =some c→∃j,ks[i]? =some j∧K[j]? =some c) (hno:∀(j:Nat) b t cs,j≠k→K[j]? =some (.cells b t cs)→∀x∈cs,Adg k ks x.2=true)
 (hD:∀Y h,Sl.star ((jG b t cs::rs).map (den D G)) Y h→D ⟨b,0,none⟩ s Y h)
 (h:SW D P f R B n E G td (Nk k ks L) ((DK K .dead ks).set k (.obj ⟨b,0,none⟩ s))):SW D P f R B n E G td L K:=by
 intro a w hF hS
 have hkl:=Bv hk
 have hkn:k ∉ ks:=(lJ.1 hn).1
 have hS1:Sat E G w (K.map (den D G)):=hS
 have hS2:=Sat.closeAt (Bs:=(jG b t cs::rs).map (den D G)) hS1 hn λi B hi=>by
  rw [iK] at hi
  cases i with
  |zero=>
   simp only [jH,iR,iA] at hi
   exact ⟨k,rfl,by rw [BJ D hk,hi]⟩
  |succ i=>
   simp only [kH] at hi
   cases hc:rs[i]? with
   |none=>rw [hc] at hi;cases hi
   |some c=>
    rw [hc] at hi;injection hi with hi
    obtain ⟨j,e1,e2⟩:=hr i c hc
    exact ⟨j,by simpa using e1,by rw [BJ D e2,hi]⟩
 let K':List (Chunk σ):=(DK K .dead ks).set k (.obj ⟨b,0,none⟩ s)
 have h0:K'[k]? =some (.obj ⟨b,0,none⟩ s):=iS (by rw [Pm];exact hkl)
 have h1:∀j:Nat,j≠k→j ∉ ks→K'[j]? =K[j]? := λj hj hjn=>by
  show ((DK K .dead ks).set k _)[j]? =_
  rw [iW (λe=>hj e.symm),Xp hjn]
 have hcl:= λv p hv=>QY (K:=K) (K':=K') (ks:=ks) hk h0 h1 v p hv
 refine h a w ⟨λj b' t' cs' hj y hy=>?_,hF.defers,hF.size, λe he hg=>?_, λe he hg=>?_⟩ ?_
 ·have hj':((DK K .dead ks).set k (kL ⟨b,0,none⟩ s))[j]? =some (.cells b' t' cs'):=hj
  by_cases hjk:k=j
  ·subst hjk
   have:=h0.symm.trans hj
   injection this with this;cases this
  ·rw [iW hjk] at hj'
   rcases Pi ks K j _ hj' with ⟨_,e⟩|⟨_,e⟩
   ·cases e
   ·have hfar:=hno j b' t' cs' (λe=>hjk e.symm) e y hy
    have hy0:=hF.kok j b' t' cs' e y hy
    have hcl:=QY (K:=K) (K':=K') (ks:=ks) hk h0 h1 y.1 y.2 hy0
    rw [AjY hfar] at hcl
    exact hcl
 ·obtain ⟨y,hy,rfl⟩:=Zm he
  obtain ⟨e1,e2⟩:=hF.ents y hy hg
  exact ⟨e1,hcl _ _ e2⟩
 ·obtain ⟨y,hy,rfl⟩:=Zm he
  exact hF.skipd y hy hg
 ·show Sat E G w _
  rw [jR,Pj]
  refine hS2.imp λi B hB=>?_
  by_cases hik:k=i
  ·subst hik
   have hl:=Bv hB
   rw [iS (by simpa using hl)] at hB
   injection hB with hB;subst hB
   exact ⟨_,iS (by simpa [Pm] using hkl),hD⟩
  ·rw [iW hik] at hB
   exact ⟨B,by rw [iW hik];exact hB, λ_ _ h=>h⟩
end
section
open Go.RowKit
variable {σ:Type}
structure Bx (σ:Type) (w:Wr σ):Type 1 where
 t:TypeId
 l:List (Sh σ)
 R:w.τ→List (Cm σ)→Prop
def DT:Addr→σ→BN:= λ_ _ _ _=>True
def GT:Hp:= λ_=>none
variable {wr:Wr σ}
def Bx.bk (b:Bx σ wr) (o:Nat) (ad:Nat→Ad) (k:Nat) (y:List (Cm σ)):List (Chunk σ):= .cells o b.t (I7 (CU ad b.l k 0 y))::EZ (CU ad b.l k 0 y)
def Bx.A (b:Bx σ wr) (s:wr.τ) (p:Addr):BN:= λY h=>∃x:Nat×(Nat→Ad)×List (Cm σ),(p=⟨x.1,0,none⟩∧CB (Hq b.l) x.2.2=true∧b.R s x.2.2)∧star ((b.bk x.1 x.2.1 1 x.2.2).map (den DT GT)) Y h
def Fz:List (Sh σ)→Bool
 |[]=>true
 | .i _::l=>Fz l
 | .b::l=>Fz l
 | .ic _ _::l=>Fz l
 | .bc _::l=>Fz l
 | .own _ _::l=>Fz l
 | .mp _ _::l=>Fz l
 | .bm::l=>Fz l
 | .nxt _:: .own t ks::l=>Fz (.own t ks::l)
 |_=>false
theorem QZ (ad:Nat→Ad):∀(l:List (Sh σ)) (k j:Nat) (cs:List (Cm σ)),Fz l=true→(EZ (CU ad l k j cs)).length=ER l∧Es (EZ (CU ad l k j cs))=true∧
 (∀(D D':Addr→σ→BN) (G G':Hp) (k':Nat),(EZ (CU ad l k j cs)).map (den D G)=(EZ (CU ad l k' j cs)).map (den D' G')∧(I7 (CU ad l k j cs)).map (·.1)=(I7 (CU ad l k' j cs)).map (·.1))∧
 ∀K0 K2:List (Chunk σ),K0.length=k→∀y∈I7 (CU ad l k j cs),Bl (K0++EZ (CU ad l k j cs)++K2) y.1 y.2
 |[],k,j,cs,_=>⟨rfl,rfl, λ_ _ _ _ _=>⟨rfl,rfl⟩, λ_ _ _ y hy=>by simp [CU,I7] at hy⟩
 |s::l,k,j,cs,h=>by
  have key:Fz l=true→(∀k,Es (s.tp ad k j cs).K=true)→(∀k,(s.tp ad k j cs).K.length=s.nK)→(∀(D D':Addr→σ→BN) (G G':Hp) (k k':Nat),(s.tp ad k j cs).K.map (den D G)=(s.tp ad k' j cs).K.map (den D' G')∧(s.tp ad k j cs).v=(s.tp ad k' j cs).v)→
   (∀K0 K2:List (Chunk σ),K0.length=k→Bl (K0++(s.tp ad k j cs).K++(EZ (CU ad l (k+s.nK) (j+s.nA) (cs.drop s.nC))++K2)) (s.tp ad k j cs).v (s.tp ad k j cs).p)→_:= λhl h1 h2 h3 h4=>by
   obtain ⟨g1,g2,g3,g4⟩:=QZ ad l (k+s.nK) (j+s.nA) (cs.drop s.nC) hl
   refine (?_:(EZ (CU ad (s::l) k j cs)).length=ER (s::l)∧Es (EZ (CU ad (s::l) k j cs))=true∧
  (∀(D D':Addr→σ→BN) (G G':Hp) (k':Nat),(EZ (CU ad (s::l) k j cs)).map (den D G)=(EZ (CU ad (s::l) k' j cs)).map (den D' G')∧(I7 (CU ad (s::l) k j cs)).map (·.1)=(I7 (CU ad (s::l) k' j cs)).map (·.1))∧
  ∀K0 K2:List (Chunk σ),K0.length=k→∀y∈I7 (CU ad (s::l) k j cs),Bl (K0++EZ (CU ad (s::l) k j cs)++K2) y.1 y.2)
   simp only [CU,EZ,I7,ER]
   refine ⟨by rw [jP,h2,g1],JR (h1 k) g2, λD D' G G' k'=>?_, λK0 K2 hk y hy=>?_⟩
   ·obtain ⟨a1,a2⟩:=h3 D D' G G' k k'
    obtain ⟨b1,b2⟩:=g3 D D' G G' (k'+s.nK)
    simp only [jE,iC]
    exact ⟨by rw [a1,b1],by rw [a2,b2]⟩
   ·simp only [iE] at hy
    rcases hy with rfl|hy
    ·have:=h4 K0 K2 hk
     simpa [jO] using this
    ·have:=g4 (K0++(s.tp ad k j cs).K) K2 (by rw [jP,hk,h2]) y hy
     simpa [jO] using this
  cases s with
  |i _=>exact key h (λ_=>rfl) (λ_=>rfl) (λ_ _ _ _ _ _=>⟨rfl,rfl⟩) λ_ _ _=>Ar
  |b=>exact key h (λ_=>rfl) (λ_=>rfl) (λ_ _ _ _ _ _=>⟨rfl,rfl⟩) λ_ _ _=>Ar
  |ic _ _=>exact key h (λ_=>rfl) (λ_=>rfl) (λ_ _ _ _ _ _=>⟨rfl,rfl⟩) λ_ _ _=>Ar
  |bc _=>exact key h (λ_=>rfl) (λ_=>rfl) (λ_ _ _ _ _ _=>⟨rfl,rfl⟩) λ_ _ _=>Ar
  |own t ks=>exact key h (λ_=>rfl) (λ_=>rfl) (λ_ _ _ _ _ _=>⟨rfl,rfl⟩) λK0 K2 hk=>Bf.2 ⟨.row (ad j).o t (Gn cs).nOf (ad j).c (Cf ks cs.tail),by subst hk;rw [jO,iI (kC _),nW];rfl,rfl⟩
  |mp kk vk=>exact key h (λ_=>rfl) (λ_=>rfl) (λ_ _ _ _ _ _=>⟨rfl,rfl⟩) λK0 K2 hk=>Bf.2 ⟨.map (ad j).b kk vk (Gn cs).mpOf,by subst hk;rw [jO,iI (kC _),nW];rfl,rfl⟩
  |bm=>exact key h (λ_=>rfl) (λ_=>rfl) (λ_ _ _ _ _ _=>⟨rfl,rfl⟩) λK0 K2 hk=>Bf.2 ⟨.bm (ad j).b (Gn cs).blOf none,by subst hk;rw [jO,iI (kC _),nW];rfl,rfl⟩
  |nxt t=>
   cases l with
   |nil=>simp [Fz] at h
   |cons s2 l2=>
    cases s2 with
    |own t2 ks=>exact key (by simpa [Fz] using h) (λ_=>rfl) (λ_=>rfl) (λ_ _ _ _ _ _=>⟨rfl,rfl⟩) λK0 K2 hk=>(by
      simp only [Sh.tp,Bl]
      exact ⟨.row (ad j).o t2 (Gn cs).nOf (ad j).c (Cf ks cs.tail),by subst hk;simp only [lF];rw [iI (kC _),nW];rfl,rfl⟩)
    |_=>simp [Fz] at h
  |_=>simp [Fz] at h
theorem Bx.Adh {b:Bx σ wr} (hb:Fz b.l=true) (D D':Addr→σ→BN) (G G':Hp) (o:Nat) (ad:Nat→Ad) (k k':Nat) (y:List (Cm σ)):(b.bk o ad k y).map (den D G)=(b.bk o ad k' y).map (den D' G'):=by
 obtain ⟨_,_,h3,_⟩:=QZ ad b.l k 0 y hb
 obtain ⟨h1,h2⟩:=h3 D D' G G' k'
 simp only [Bx.bk,iC,h1,den,h2]
def Bx.opK (b:Bx σ wr) (k o:Nat) (ad:Nat→Ad) (y:List (Cm σ)) (K:List (Chunk σ)):List (Chunk σ):=(Sl.opK k K).set k (.cells o b.t (I7 (CU ad b.l K.length 0 y)))++EZ (CU ad b.l K.length 0 y)
def Rf:List (Chunk σ)→Bool
 | .obj _ _::_=>true
 |_=>false
theorem NK:∀{K:List (Chunk σ)},Es K=true→∀c∈K,∀b t cs,c≠ .cells b t cs
 |[],_,c,hc=>by simp at hc
 |x::K,h,c,hc=>by
  intro b t cs e
  subst e
  simp only [iE] at hc
  rcases hc with rfl|hc
  ·simp [Es] at h
  ·refine NK (K:=K) ?_ _ hc b t cs rfl
   cases x<;>simp only [Es] at h<;>first|exact h|cases h
variable (D:Addr→σ→BN)
structure Bx.Is (b:Bx σ wr):Prop where
 c:Fz b.l=true
 d:∀p s,D p (wr.inj s)=b.A s p
section
variable {b:Bx σ wr} {P:Program} {f:FuncId} {R:Ending→World→Prop} {B:Code} {n:Nat} {E:Ev} {G:Hp} {td:List Ab} {L:List Af} {K:List (Chunk σ)}
theorem Bx.Zn (hb:b.Is D) (k:Nat) {p0:Addr} {s:wr.τ} (hk:K[k]? =some (.obj p0 (wr.inj s)))
 (h:∀o ad y,p0=⟨o,0,none⟩→CB (Hq b.l) y=true→b.R s y→SW D P f R B n E G td (Ju k L) (b.opK k o ad y K)):SW D P f R B n E G td L K:=by
 refine SW.open D k hk (α:=Nat×(Nat→Ad)×List (Cm σ)) (q:= λx=>p0=⟨x.1,0,none⟩∧CB (Hq b.l) x.2.2=true∧b.R s x.2.2) (λx=>x.1) (λ_=>b.t) (λx=>I7 (CU x.2.1 b.l K.length 0 x.2.2)) (λx=>EZ (CU x.2.1 b.l K.length 0 x.2.2)) ?_ (λx hx=>hx.1) (λx o t cs hm=>?_) (λx hx y hy=>?_) (λx hx=>h x.1 x.2.1 x.2.2 hx.1 hx.2.1 hx.2.2)
 ·rw [hb.d]
  funext Y q
  apply propext
  have e:∀x:Nat×(Nat→Ad)×List (Cm σ),(b.bk x.1 x.2.1 1 x.2.2).map (den DT GT)=(jG x.1 b.t (I7 (CU x.2.1 b.l K.length 0 x.2.2))::EZ (CU x.2.1 b.l K.length 0 x.2.2)).map (den D G):= λx=>Bx.Adh hb.c DT D GT G x.1 x.2.1 1 K.length x.2.2
  constructor
  ·rintro ⟨x,hx,hs⟩;exact ⟨x,hx,by rw [←e];exact hs⟩
  ·rintro ⟨x,hx,hs⟩;exact ⟨x,hx,by rw [e];exact hs⟩
 ·obtain ⟨_,h2,_⟩:=QZ x.2.1 b.l K.length 0 x.2.2 hb.c
  exact absurd rfl (NK h2 _ hm o t cs)
 ·obtain ⟨_,_,_,h4⟩:=QZ x.2.1 b.l K.length 0 x.2.2 hb.c
  have:=h4 ((Sl.opK k K).set k (.cells x.1 b.t (I7 (CU x.2.1 b.l K.length 0 x.2.2)))) [] (by simp [JB]) y hy
  rw [lF] at this
  exact this
theorem Bx.addr (hb:b.Is D) (k:Nat) {p0:Addr} {s:wr.τ} (hk:K[k]? =some (.obj p0 (wr.inj s))) (h:∀o,p0=⟨o,0,none⟩→SW D P f R B n E G td L K):SW D P f R B n E G td L K:=by
 intro a w hF hS
 obtain ⟨_,q,_,h1,_⟩:=hS.get D hk
 simp only [den,hb.d] at h1
 obtain ⟨x,hx,_⟩:=h1
 exact h x.1 hx.1 a w hF hS
theorem Ahz {m i:Nat} (h:i<m):(jT 1 m)[i]? =some (1+i):=by
 rw [List.getElem?_range' h];simp
theorem Bx.AiJ (hb:b.Is D) {o:Nat} {ad:Nat→Ad} {y:List (Cm σ)} {rest:List (Chunk σ)} {s:wr.τ} (hK:K=b.bk o ad 1 y++rest) (hn:Kw (ER b.l) rest=true) (hf:CB (Hq b.l) y=true) (hR:b.R s y)
 (h:SW D P f R B n E G td (Nk 0 (jT 1 (ER b.l)) L) ((DK K .dead (jT 1 (ER b.l))).set 0 (.obj ⟨o,0,none⟩ (wr.inj s)))):SW D P f R B n E G td L K:=by
 obtain ⟨h1,h2,_,_⟩:=QZ ad b.l 1 0 y hb.c
 refine SW.close D 0 (jT 1 (ER b.l)) (b:=o) (t:=b.t) (cs:=I7 (CU ad b.l 1 0 y)) (rs:=EZ (CU ad b.l 1 0 y)) (s:=wr.inj s) ?_ ?_ ?_ ?_ ?_ h
 ·rw [lJ]
  exact ⟨λhm=>by rw [List.mem_range'] at hm;obtain ⟨i,_,e⟩:=hm;omega,List.nodup_range'⟩
 ·rw [hK];rfl
 ·intro i c hc
  have hl:=Bv hc
  refine ⟨1+i,Ahz (by omega),?_⟩
  rw [hK,Bx.bk,jU,Nat.add_comm,kH,iH hl]
  exact hc
 ·intro j b' t' cs' hj e
  rw [hK,Bx.bk] at e
  cases j with
  |zero=>exact absurd rfl hj
  |succ j=>
   rw [jU,kH] at e
   rcases lK.1 (iU e) with hm|hm
   ·exact absurd rfl (NK h2 _ hm b' t' cs')
   ·exact Xq hn b' t' cs' hm
 ·intro Y q hq
  rw [hb.d]
  refine ⟨(o,ad,y),⟨rfl,hf,hR⟩,?_⟩
  rw [Bx.Adh hb.c DT D GT G o ad 1 1 y]
  exact hq
theorem Bx.fold (hb:b.Is D) {w:World} {o k:Nat} {ad:Nat→Ad} {y:List (Cm σ)} {s:wr.τ} {Bs:List BN} (hf:CB (Hq b.l) y=true) (hR:b.R s y) (h:Sat E G w ((b.bk o ad k y).map (den D G)++Bs)):Sat E G w (D ⟨o,0,none⟩ (wr.inj s)::Bs):=by
 rw [Bx.Adh hb.c D DT G GT o ad k 1 y] at h
 rw [hb.d]
 exact Sat.Zf (p:= λx:Nat×(Nat→Ad)×List (Cm σ)=>(⟨o,0,none⟩:Addr)=⟨x.1,0,none⟩∧CB (Hq b.l) x.2.2=true∧b.R s x.2.2) (A:= λx=>star ((b.bk x.1 x.2.1 1 x.2.2).map (den DT GT))) (o,ad,y) ⟨rfl,hf,hR⟩ h.star_append
theorem Bx.post (hb:b.Is D) {w:World} {o:Nat} {ad:Nat→Ad} {y:List (Cm σ)} {s:wr.τ} {out:List Value→Value} {rows:List (Mk σ)} {v:Value} {p:Pr} (hf:CB (Hq b.l) y=true) (hR:b.R s y) (h:CO out (b.bk o ad 1 y) rows v p K) (hS:Ae D E G w K):
 Post D E G out [.obj ⟨o,0,none⟩ (wr.inj s)] rows (.returned v) w:=by
 obtain ⟨acs,h1,h2,h3⟩:=h.post D hS
 exact ⟨acs,h1,h2,Bx.fold D hb hf hR h3⟩
theorem Bx.AiK (hb:b.Is D) {w:World} {o:Nat} {ad:Nat→Ad} {y:List (Cm σ)} {s:wr.τ} {out:List Value→Value} {v:Value} {p:Pr} (hf:CB (Hq b.l) y=true) (hR:b.R s y) (h:CO (λ_=> .pointer (some ⟨o,0,none⟩)) (b.bk o ad 1 y) [] v p K) (hS:Ae D E G w K)
 (ho:∀x,out [x]=x):Post D E G out [] [.obj (wr.inj s)] (.returned v) w:=by
 obtain ⟨acs,h1,h2,h3⟩:=h.post D hS
 cases acs with
 |cons _ _=>exact h1.elim
 |nil=>
  refine ⟨[(some o,0)],⟨⟨o,rfl⟩,trivial⟩,?_,?_⟩
  ·rw [h2];simp only [kF,List.zipWith_nil_right,ho];rfl
  ·simpa [Dq,den] using Bx.fold D hb hf hR h3
end
structure Lf (σ:Type) where
 Q:Value→Pr→List (Chunk σ)→Prop
 l:Value→Pr→List (Chunk σ)→Ob σ
 r:Value→Pr→List (Chunk σ)→Ob σ
 b:Value→Pr→List (Chunk σ)→Bool
def Lf.lhs (lf:Lf σ) (hs:List (Hd σ)) (Q:Nat→List (Cm σ)→Prop) (t:Tree σ) (β:BF) (γ:GF):SmW σ:=(t.wp lf.Q (PN hs Q) β γ,t.obl lf.l (Kt hs) β γ,t.okb lf.b (Oy hs) β γ)
def Lf.rhs (lf:Lf σ) (hs:List (Hd σ)) (t:Tree σ) (W:Prop) (β:BF) (γ:GF):SmW σ:=(W,t.obl lf.r (Ku hs) β γ,true)
inductive Hop where
 |run
 |opn (k:Nat) (o:(Nat→Ad)→Nat) (j:Nat)
 |cls (j:Nat)
section
variable (b:Bx σ wr) (P:Program) (T:List (Nat×Entry σ)) (I:List Nat) (fuel:Nat) (fn:Func) (B:Code) (o:Nat) (lf:Lf σ) (hs:List (Hd σ)) (hk:List Hop) (Inv:Nat→List (Cm σ)→Prop) (ms:Nat→List (Cm σ)→Nat×Nat×Nat)
def Ago (j:Nat) (h:Hd σ):Prop:=
 match hk.getD j .run with
 | .run=>Eh h.kd λx=>Inv j x→∃W:Prop,(∀ad β γ,lf.lhs hs (λj' x'=>Inv j' x'∧lx (ms j' x') (ms j x)) (run P T (h.stp I) fuel B fn.results.toList fn.ntmps h.tds (h.L ad x) (h.K ad x)) β γ=
    lf.rhs hs (run P T (h.stp I) fuel B fn.results.toList fn.ntmps h.tds (h.L ad x) (h.K ad x)) W β γ)∧W
 | .opn k of j2=>match hs[j2]? with
   |some h2=>Eh h.kd λx=>Inv j x→∃s:wr.τ,(∀ad,(h.K ad x)[k]? =some (.obj ⟨of ad,0,none⟩ (wr.inj s)))∧Eh (Hq b.l) λy=>b.R s y→∃W:Prop,(∀ad ad2,(PN [h2] (λ_ x'=>Inv j2 x'∧lx (ms j2 x') (ms j x)) h.tds (Ju k (h.L ad x)) (b.opK k (of ad) ad2 y (h.K ad x)),Kt [h2] h.tds (Ju k (h.L ad x)) (b.opK k (of ad) ad2 y (h.K ad x)),Oy [h2] h.tds (Ju k (h.L ad x)) (b.opK k (of ad) ad2 y (h.K ad x)))=
     (W,Ku [h2] h.tds (Ju k (h.L ad x)) (b.opK k (of ad) ad2 y (h.K ad x)),true))∧W
   |none=>False
 | .cls j2=>match hs[j2]? with
   |some h2=>Eh h.kd λx=>Inv j x→∃(s:wr.τ) (W:Prop),b.R s (x.take (Nc b.l))∧(∀ad,((h.K ad x).take (1+ER b.l),Kw (ER b.l) ((h.K ad x).drop (1+ER b.l)),CB (Hq b.l) (x.take (Nc b.l)),PN [h2] (λ_ x'=>Inv j2 x'∧lx (ms j2 x') (ms j x)) h.tds (Nk 0 (jT 1 (ER b.l)) (h.L ad x)) ((DK (h.K ad x) .dead (jT 1 (ER b.l))).set 0 (.obj ⟨o,0,none⟩ (wr.inj s))),Kt [h2] h.tds (Nk 0 (jT 1 (ER b.l)) (h.L ad x)) ((DK (h.K ad x) .dead (jT 1 (ER b.l))).set 0 (.obj ⟨o,0,none⟩ (wr.inj s))),Oy [h2] h.tds (Nk 0 (jT 1 (ER b.l)) (h.L ad x)) ((DK (h.K ad x) .dead (jT 1 (ER b.l))).set 0 (.obj ⟨o,0,none⟩ (wr.inj s))))=
     (b.bk o ad 1 (x.take (Nc b.l)),true,true,W,Ku [h2] h.tds (Nk 0 (jT 1 (ER b.l)) (h.L ad x)) ((DK (h.K ad x) .dead (jT 1 (ER b.l))).set 0 (.obj ⟨o,0,none⟩ (wr.inj s))),true))∧W
   |none=>False
def Rh:List (Hd σ)→Nat→Prop
 |[],_=>True
 |h::r,j=>Ago b P T I fuel fn B o lf hs hk Inv ms j h∧Rh r (j+1)
end
section
variable {b:Bx σ wr} {P:Program} {T:List (Nat×Entry σ)} {I:List Nat} {fuel:Nat} {fn:Func} {B:Code} {o:Nat} {lf:Lf σ} {hs:List (Hd σ)} {hk:List Hop} {Inv:Nat→List (Cm σ)→Prop} {ms:Nat→List (Cm σ)→Nat×Nat×Nat} {f:FuncId} {R:Ending→World→Prop} {E:Ev} {G:Hp}
theorem Xr:∀{l:List (Hd σ)} {m i:Nat} {h:Hd σ},Rh b P T I fuel fn B o lf hs hk Inv ms l m→l[i]? =some h→Ago b P T I fuel fn B o lf hs hk Inv ms (m+i) h
 |[],_,_,_,_,h=>by simp at h
 |h0::r,m,0,h,hs,hg=>by simp at hg;subst hg;exact hs.1
 |h0::r,m,i+1,h,hs,hg=>by
  have:=Xr hs.2 (i:=i) (by simpa using hg)
  rw [show m+1+i=m+(i+1) by omega] at this
  exact this
theorem AaJ {h:Hd σ} {j:Nat} (hc:hcode B hs=Gp B hs) (hg:hs[j]? =some h):hcode B [h]=Gp B [h]:=by
 simp only [hcode,Gp]
 cases ho:h.ops with
 |some i=>rfl
 |none=>rw [QV hc hg ho]
def Lf.Ok (lf:Lf σ) (E:Ev) (G:Hp) (R:Ending→World→Prop):Prop:=∀v p K w,lf.l v p K=lf.r v p K→lf.b v p K=true→lf.Q v p K→Ae D E G w K→R (.returned v) w
theorem Acm (hT:BD D P T) (hfn:P.funcs[f]? =some fn) (hmix:P.follows .mixedOrders=true) (hlf:lf.Ok D E G R) (hc:hcode B hs=Gp B hs) {Q:Nat→List (Cm σ)→Prop}
 (H:∀j h,hs[j]? =some h→∀s,CB h.kd s=true→Q j s→∀ad,SW D P f R B fn.ntmps E G h.tds (h.L ad s) (h.K ad s)) {I:List Nat} {td:List Ab} {L:List Af} {K:List (Chunk σ)} {W:Prop}
 (h:∀β γ,lf.lhs hs Q (run P T I fuel B fn.results.toList fn.ntmps td L K) β γ=lf.rhs hs (run P T I fuel B fn.results.toList fn.ntmps td L K) W β γ) (hW:W):SW D P f R B fn.ntmps E G td L K:=by
 refine SW.run D hT (I:=I) hfn hmix (R':= λv p K=>lf.l v p K=lf.r v p K∧lf.b v p K=true∧lf.Q v p K) (λv p K w h hS=>hlf v p K w h.1 h.2.1 h.2.2 hS) fuel rfl ?_
 refine Tree.FP (RQ:=lf.Q) (SQ:=PN hs Q) (roL:=lf.l) (roR:=lf.r) (Kt:=Kt hs) (Ku:=Ku hs) (rb:=lf.b) (sb:=Oy hs)
  (λv p K h1 h2 h3=>⟨h1,h2,h3⟩) (λtd L K h1 h2 h3=>Xm D hc h1 h2 h3 H) _ (λβ γ=>?_) (λβ γ=>congrArg (·.2.1) (h β γ)) (λβ γ=>congrArg (·.2.2) (h β γ))
 have:Tree.wp lf.Q (PN hs Q) (run P T I fuel B fn.results.toList fn.ntmps td L K) β γ=W:=congrArg (·.1) (h β γ)
 rw [this];exact hW
theorem Adi (hb:b.Is D) (hT:BD D P T) (hfn:P.funcs[f]? =some fn) (hmix:P.follows .mixedOrders=true) (hlf:lf.Ok D E G R) (hc:hcode B hs=Gp B hs) (hst:Rh b P T I fuel fn B o lf hs hk Inv ms hs 0):
 ∀j h,hs[j]? =some h→∀s,CB h.kd s=true→Inv j s→∀ad,SW D P f R B fn.ntmps E G h.tds (h.L ad s) (h.K ad s):=by
 have loop:∀x:Nat×Nat×Nat,∀j h,hs[j]? =some h→∀s,CB h.kd s=true→Inv j s→ms j s=x→∀ad,SW D P f R B fn.ntmps E G h.tds (h.L ad s) (h.K ad s):=by
  refine Ahx λx ih j h hg s hf hI hm ad=>?_
  have hq:=Xr hst hg
  rw [lH] at hq
  have H':∀j' h',hs[j']? =some h'→∀s',CB h'.kd s'=true→(Inv j' s'∧lx (ms j' s') (ms j s))→∀ad',SW D P f R B fn.ntmps E G h'.tds (h'.L ad' s') (h'.K ad' s'):= λj' h' hg' s' hf' hI' ad'=>ih _ (by rw [←hm];exact hI'.2) j' h' hg' s' hf' hI'.1 rfl ad'
  unfold Ago at hq
  split at hq
  ·obtain ⟨W,hW1,hW2⟩:=hq.at s hf hI
   exact Acm D hT hfn hmix hlf hc H' (hW1 ad) hW2
  ·rename_i k of j2 _
   split at hq
   ·rename_i h2 hg2
    obtain ⟨st,hk0,hq⟩:=hq.at s hf hI
    refine Bx.Zn D hb k (hk0 ad) λo' ad2 y e hfy hRy=>?_
    injection e with e;subst e
    obtain ⟨W,hW1,hW2⟩:=hq.at y hfy hRy
    have e:=hW1 ad ad2
    simp only [iM] at e
    refine Xm D (hs:=[h2]) (AaJ hc hg2) e.2.1 e.2.2 (by rw [e.1];exact hW2) λj' h' hg' s' hf' hI' ad'=>?_
    cases j' with
    |zero=>simp at hg';subst hg';exact H' j2 _ hg2 s' hf' hI' ad'
    |succ j'=>simp at hg'
   ·exact hq.elim
  ·rename_i j2 _
   split at hq
   ·rename_i h2 hg2
    obtain ⟨st,W,hR,hW1,hW2⟩:=hq.at s hf hI
    have e:=hW1 ad
    simp only [iM] at e
    refine Bx.AiJ D hb (o:=o) (ad:=ad) (y:=s.take (Nc b.l)) (rest:=(h.K ad s).drop (1+ER b.l)) (s:=st) (by rw [←e.1,List.take_append_drop]) e.2.1 e.2.2.1 hR ?_
    refine Xm D (hs:=[h2]) (AaJ hc hg2) e.2.2.2.2.1 e.2.2.2.2.2 (by rw [e.2.2.2.1];exact hW2) λj' h' hg' s' hf' hI' ad'=>?_
    cases j' with
    |zero=>simp at hg';subst hg';exact H' j2 _ hg2 s' hf' hI' ad'
    |succ j'=>simp at hg'
   ·exact hq.elim
 exact λj h hg s hf hI ad=>loop _ j h hg s hf hI rfl ad
end
def Bx.y (b:Bx σ wr) (v:Value) (p:Pr) (K:List (Chunk σ)):Dc σ:=(Sh.box b.t b.l).dc K v p
def Bx.y0 (b:Bx σ wr) (o:Nat) (K:List (Chunk σ)):Dc σ:=b.y (.pointer (some ⟨o,0,none⟩)) (.pt 0 (.cell 0)) K
def Bx.yK (b:Bx σ wr) (o:Nat) (y:Dc σ):List (Chunk σ):=b.bk o (Fp y.ad.tail) 1 y.cs
section
variable (c:Ct σ) (b:Bx σ wr) (o:Nat) (cs:List (Cm σ)) (v:Value) (p:Pr) (K:List (Chunk σ))
def Ct.opR:Ty c.rs.kd:=VC c.rs.kd (c.rs.dc K v p).cs
def Ct.opM:List (Mk σ):=c.rs.mks (Jo c.rs.kd (c.opR v p K))
def Ct.opIs:List Nat:=Iw 0 ((b.y0 o K).is++(c.rs.dc K v p).is)
def Ct.opTm:List (Chunk σ):=b.yK o (b.y0 o K)++jA V5 (c.opM v p K) (c.retAnc v p K)
def Ct.opl:Ob σ:=⟨[],v,[],Zh K (c.opIs b o v p K) (c.opTm b o v p K)⟩
def Ct.opr:Ob σ:=⟨[],c.rs.out (Jo c.rs.kd (c.opR v p K)) (jA Zb (c.opM v p K) (c.retAnc v p K)),[],Zi (c.opTm b o v p K)⟩
def Ct.opb:Bool:=nodupB (c.opIs b o v p K)&&JP (c.opM v p K) (c.retAnc v p K)&&iJ (c.opIs b o v p K).length (c.opTm b o v p K).length&&CB (Hq b.l) (b.y0 o K).cs
def LX (R:Ty c.RK→Prop) (O:List (Cm σ)→Ty c.rs.kd→Prop):Lf σ:=
 ⟨λv p K=>match Rf K with|true=>R (c.retR v p K)|false=>O (b.y0 o K).cs (c.opR v p K), λv p K=>bif Rf K then c.roL ⟨o,0,none⟩ cs v p K else c.opl b o v p K,
   λv p K=>bif Rf K then c.roR ⟨o,0,none⟩ cs v p K else c.opr b o v p K, λv p K=>bif Rf K then c.rob_ ⟨o,0,none⟩ cs v p K else c.opb b o v p K⟩
def AkN:Ob σ:=⟨[],v,[],Zh K (Iw 0 (b.y v p K).is) (b.yK (Fp (b.y v p K).ad 0).b (b.y v p K))⟩
def AkO:Ob σ:=⟨[], .pointer (some ⟨(Fp (b.y v p K).ad 0).b,0,none⟩),[],Zi (b.yK (Fp (b.y v p K).ad 0).b (b.y v p K))⟩
def AkP:Bool:=nodupB (Iw 0 (b.y v p K).is)&&iJ (Iw 0 (b.y v p K).is).length (b.yK (Fp (b.y v p K).ad 0).b (b.y v p K)).length&&CB (Hq b.l) (b.y v p K).cs
def TM (O:List (Cm σ)→Prop):Lf σ:=⟨λv p K=>O (b.y v p K).cs,AkN b,AkO b,AkP b⟩
end
def Ct.parts (c:Ct σ) (o:Nat) (cs:List (Cm σ)) (r:Ty c.RK):(List Value→Value)×List (Mk σ)×List (Chunk σ):=(c.outC r,c.mksC r,c.nwC ⟨o,0,none⟩ cs r)
theorem Ah0 {b:Bx σ wr} (hb:b.Is D) {c:Ct σ} {o:Nat} {cs:List (Cm σ)} {r:Ty c.RK} {s1:wr.τ} {rr:Ty c.rs.kd} (hp:c.parts o cs r=(c.rs.out (Jo c.rs.kd rr),c.rs.mks (Jo c.rs.kd rr),[.obj ⟨o,0,none⟩ (wr.inj s1)])) {E:Ev} {G:Hp}:
 (LX c b o cs (λx=>x=r) λy x=>b.R s1 y∧x=rr).Ok D E G (Post D E G (c.outC r) (c.nwC ⟨o,0,none⟩ cs r) (c.mksC r)):=by
 intro v p K w hl hbb hQ hS
 simp only [LX] at hl hbb hQ
 cases h0:Rf K with
 |true=>
  rw [h0] at hl hbb hQ
  simp only [cond_true] at hl hbb hQ
  have:=Ct.WY hl hbb
  rw [hQ] at this
  exact this.post D hS
 |false=>
  rw [h0] at hl hbb hQ
  simp only [cond_false] at hl hbb hQ
  simp only [Ct.parts,iM] at hp
  rw [hp.1,hp.2.1,hp.2.2]
  simp only [Ct.opb,iG] at hbb
  simp only [Ct.opl,Ct.opr,Ob.mk.injEq] at hl
  rw [←hQ.2]
  exact Bx.post D hb (p:=p) hbb.2 hQ.1 ⟨c.retAnc v p K,c.opIs b o v p K,Ij hbb.1.1.1,hbb.1.1.2,hl.2.1,Xl hl.2.2.2 hbb.1.2⟩ hS
theorem AiL {b:Bx σ wr} (hb:b.Is D) {c:Ct σ} {s1:wr.τ} {r:Ty c.RK} (h1:∀x,c.outC r [x]=x) (h2:c.mksC r=[.obj (wr.inj s1)]) {E:Ev} {G:Hp}:(TM b λy=>b.R s1 y).Ok D E G (Post D E G (c.outC r) [] (c.mksC r)):=by
 intro v p K w hl hbb hQ hS
 simp only [TM,AkN,AkO,Ob.mk.injEq] at hl
 simp only [TM,AkP,iG] at hbb
 rw [h2]
 have hg:=Xl hl.2.2.2 hbb.1.2
 exact Bx.AiK D hb (o:=(Fp (b.y v p K).ad 0).b) (ad:=Fp (b.y v p K).ad.tail) (p:=p) hbb.2 hQ ⟨[],Iw 0 (b.y v p K).is,Ij hbb.1.1,rfl,hl.2.1,by simpa [Bx.yK] using hg⟩ hS h1
theorem Eh.imp:∀{ks:List (Kd σ)} {p q:List (Cm σ)→Prop},(∀cs,p cs→q cs)→Eh ks p→Eh ks q
 |[],_,_,h,hp=>h [] hp
 |_::_,_,_,h,hp=> λa=>Eh.imp (λcs=>h _) (hp a)
def Ct.sL (c:Ct σ) (p:Addr) (cs:List (Cm σ)) (ad:Nat→Ad):List Af:=Di 0 (I7 (CU (Nj p ad) c.full 0 0 cs))
def Ct.sK (c:Ct σ) (p:Addr) (cs:List (Cm σ)) (ad:Nat→Ad):List (Chunk σ):=EZ (CU (Nj p ad) c.full 0 0 cs)
theorem GH {c:Ct σ} {b:Bx σ wr} (hb:b.Is D) (beg:Bool) {P:Program} {T:List (Nat×Entry σ)} (hT:BD D P T) {I:List Nat} {f:FuncId} {fn:Func} {B:Code} (hfn:P.funcs[f]? =some fn) (hmix:P.follows .mixedOrders=true) (hB:fn.body=some B)
 (ha:Hr c.ash=true) (hl:jS c.full.length fn.ntmps=true) {F:Jt c.AK (Ty c.RK)} {pre:Jt c.AK (List Prop)} (fuel:Nat)
 (H:∀o:Nat,Eh c.AK λcs=>Xh c.full cs→(∀p∈AA c.AK pre cs,p)→∃(s0 s1:wr.τ) (rr:Ty c.rs.kd) (hs:List (Hd σ)) (hk:List Hop) (Inv:Nat→List (Cm σ)→Prop) (ms:Nat→List (Cm σ)→Nat×Nat×Nat),hcode B hs=Gp B hs∧
   (∀p ad,(c.sK p cs ad)[0]? =some (.obj p (wr.inj s0)))∧
   c.parts o cs (AA c.AK F cs)=(c.rs.out (Jo c.rs.kd rr),c.rs.mks (Jo c.rs.kd rr),[.obj ⟨o,0,none⟩ (wr.inj s1)])∧
   (match beg with
     |false=>∃W:Prop,(∀ad β γ,(LX c b o cs (λx=>x=AA c.AK F cs) λy x=>b.R s1 y∧x=rr).lhs hs Inv (run P T I fuel B fn.results.toList fn.ntmps [.code []] (c.sL ⟨o,0,none⟩ cs ad) (c.sK ⟨o,0,none⟩ cs ad)) β γ=
       (LX c b o cs (λx=>x=AA c.AK F cs) λy x=>b.R s1 y∧x=rr).rhs hs (run P T I fuel B fn.results.toList fn.ntmps [.code []] (c.sL ⟨o,0,none⟩ cs ad) (c.sK ⟨o,0,none⟩ cs ad)) W β γ)∧W
     |true=>Eh (Hq b.l) λy=>b.R s0 y→∃W:Prop,(∀ad ad2 β γ,(LX c b o cs (λx=>x=AA c.AK F cs) λy x=>b.R s1 y∧x=rr).lhs hs Inv (run P T I fuel B fn.results.toList fn.ntmps [.code []] (Ju 0 (c.sL ⟨o,0,none⟩ cs ad)) (b.opK 0 o ad2 y (c.sK ⟨o,0,none⟩ cs ad))) β γ=
       (LX c b o cs (λx=>x=AA c.AK F cs) λy x=>b.R s1 y∧x=rr).rhs hs (run P T I fuel B fn.results.toList fn.ntmps [.code []] (Ju 0 (c.sL ⟨o,0,none⟩ cs ad)) (b.opK 0 o ad2 y (c.sK ⟨o,0,none⟩ cs ad))) W β γ)∧W)∧
   Rh b P T I fuel fn B o (LX c b o cs (λx=>x=AA c.AK F cs) λy x=>b.R s1 y∧x=rr) hs hk Inv ms hs 0):Ep D P f (CW c F pre):=by
 refine QU D (mk:=[]) hT (I:=I) hfn hmix hB ha hl 0 λp0=>?_
 by_cases hp:∃o,p0=⟨o,0,none⟩
 ·obtain ⟨o,rfl⟩:=hp
  refine Eh.imp (λcs hH hbd hpre ad E G=>?_) (H o)
  obtain ⟨s0,s1,rr,hs,hk,Inv,ms,hc,h0,hpt,hbg,hst⟩:=hH hbd hpre
  have hlf:=Ah0 D hb hpt (E:=E) (G:=G)
  have loop:=Adi D hb hT hfn hmix hlf hc hst
  show SW D P f _ B fn.ntmps E G [.code []] (c.sL ⟨o,0,none⟩ cs ad) (c.sK ⟨o,0,none⟩ cs ad)
  cases beg with
  |false=>
   obtain ⟨W,hW1,hW2⟩:=hbg
   exact Acm D hT hfn hmix hlf hc loop (hW1 ad) hW2
  |true=>
   refine Bx.Zn D hb 0 (h0 ⟨o,0,none⟩ ad) λo' ad2 y e hfy hRy=>?_
   injection e with e;subst e
   obtain ⟨W,hW1,hW2⟩:=hbg.at y hfy hRy
   exact Acm D hT hfn hmix hlf hc loop (hW1 ad ad2) hW2
 ·refine Eh.imp (λcs hH hbd hpre ad E G=>?_) (H 0)
  obtain ⟨s0,s1,rr,hs,hk,Inv,ms,hc,h0,hpt,hbg,hst⟩:=hH hbd hpre
  show SW D P f _ B fn.ntmps E G [.code []] (c.sL p0 cs ad) (c.sK p0 cs ad)
  exact Bx.addr D hb 0 (h0 p0 ad) λo e=>absurd ⟨o,e⟩ hp
theorem AkQ {c:Ct σ} {b:Bx σ wr} (hb:b.Is D) {P:Program} {T:List (Nat×Entry σ)} (hT:BD D P T) {I:List Nat} {f:FuncId} {fn:Func} {B:Code} (hfn:P.funcs[f]? =some fn) (hmix:P.follows .mixedOrders=true) (hB:fn.body=some B)
 (ha:Hr c.ash=true) (hl:jS c.full.length fn.ntmps=true) {F:Jt c.AK (Ty c.RK)} {pre:Jt c.AK (List Prop)} (fuel:Nat)
 (H:∀p0:Addr,Eh c.AK λcs=>Xh c.full cs→(∀p∈AA c.AK pre cs,p)→∃(s1:wr.τ) (hs:List (Hd σ)) (hk:List Hop) (Inv:Nat→List (Cm σ)→Prop) (ms:Nat→List (Cm σ)→Nat×Nat×Nat),hcode B hs=Gp B hs∧
   (∀x,c.outC (AA c.AK F cs) [x]=x)∧c.mksC (AA c.AK F cs)=[.obj (wr.inj s1)]∧c.nwC p0 cs (AA c.AK F cs)=[]∧
   (∃W:Prop,(∀ad β γ,(TM b λy=>b.R s1 y).lhs hs Inv (run P T I fuel B fn.results.toList fn.ntmps [.code []] (c.sL p0 cs ad) (c.sK p0 cs ad)) β γ=
     (TM b λy=>b.R s1 y).rhs hs (run P T I fuel B fn.results.toList fn.ntmps [.code []] (c.sL p0 cs ad) (c.sK p0 cs ad)) W β γ)∧W)∧
   Rh b P T I fuel fn B 0 (TM b λy=>b.R s1 y) hs hk Inv ms hs 0):Ep D P f (CW c F pre):=by
 refine QU D (mk:=[]) hT (I:=I) hfn hmix hB ha hl 0 λp0=>?_
 refine Eh.imp (λcs hH hbd hpre ad E G=>?_) (H p0)
 obtain ⟨s1,hs,hk,Inv,ms,hc,h1,h2,h3,⟨W,hW1,hW2⟩,hst⟩:=hH hbd hpre
 have hlf:=AiL D hb h1 h2 (E:=E) (G:=G)
 have loop:=Adi D hb hT hfn hmix hlf hc hst
 rw [h3]
 exact Acm D hT hfn hmix hlf hc loop (hW1 ad) hW2
theorem AkR {c:Ct σ} {P:Program} {T:List (Nat×Entry σ)} (hT:BD D P T) {I:List Nat} {f:FuncId} {fn:Func} {B:Code} (hfn:P.funcs[f]? =some fn) (hmix:P.follows .mixedOrders=true) (hB:fn.body=some B)
 (ha:Hr c.ash=true) (hl:jS c.full.length fn.ntmps=true) {F:Jt c.AK (Ty c.RK)} {pre:Jt c.AK (List Prop)} (fuel:Nat)
 (H:∀p0,Eh c.AK λcs=>Xh c.full cs→(∀p∈AA c.AK pre cs,p)→∃W:Prop,(∀ad β γ,c.lhsW p0 cs [] (λr=>r=AA c.AK F cs) (λ_ _=>False) (c.tree P T I fuel fn B p0 cs ad) β γ=c.rhsW p0 cs [] (c.tree P T I fuel fn B p0 cs ad) W β γ)∧W):Ep D P f (CW c F pre):=
 Kv D hT (I:=I) hfn hmix hB ha hl fuel λp0=>Eh.imp (λ_ h hb hp=>⟨[], λ_ _=>False, λ_ _=>(0,0,0),rfl,h hb hp,trivial⟩) (H p0)
end
section
open Go.RowKit
variable {σ:Type}
structure BxP (σ:Type):Type 1 where
 wr:Wr σ
 b:Bx σ wr
inductive AkS (σ:Type):Type 1 where
 |run
 |opn (b:BxP σ) (k:Nat) (o:(Nat→Ad)→Nat) (j:Nat)
 |cls (b:BxP σ) (o:(Nat→Ad)→Nat) (a:(Nat→Ad)→Nat→Ad) (j:Nat)
variable (D:Addr→σ→BN)
section
variable (c:Ct σ) (P:Program) (T:List (Nat×Entry σ)) (I:List Nat) (fuel:Nat) (fn:Func) (B:Code) (p0:Addr) (cs:List (Cm σ)) (hs:List (Hd σ)) (hk:List (AkS σ)) (r0:Ty c.RK) (Inv:Nat→List (Cm σ)→Prop) (ms:Nat→List (Cm σ)→Nat×Nat×Nat)
def stepG (j:Nat) (h:Hd σ):Prop:=
 match hk.getD j .run with
 | .run=>Eh h.kd λx=>Inv j x→∃W:Prop,(∀ad β γ,c.lhsW p0 cs hs (λr=>r=r0) (λj' x'=>Inv j' x'∧lx (ms j' x') (ms j x)) (run P T (h.stp I) fuel B fn.results.toList fn.ntmps h.tds (h.L ad x) (h.K ad x)) β γ=
    c.rhsW p0 cs hs (run P T (h.stp I) fuel B fn.results.toList fn.ntmps h.tds (h.L ad x) (h.K ad x)) W β γ)∧W
 | .opn b k of j2=>b.b.Is D∧match hs[j2]? with
   |some h2=>Eh h.kd λx=>Inv j x→∃s:b.wr.τ,(∀ad,(h.K ad x)[k]? =some (.obj ⟨of ad,0,none⟩ (b.wr.inj s)))∧Eh (Hq b.b.l) λy=>b.b.R s y→∃W:Prop,(∀ad ad2,(PN [h2] (λ_ x'=>Inv j2 x'∧lx (ms j2 x') (ms j x)) h.tds (Ju k (h.L ad x)) (b.b.opK k (of ad) ad2 y (h.K ad x)),Kt [h2] h.tds (Ju k (h.L ad x)) (b.b.opK k (of ad) ad2 y (h.K ad x)),Oy [h2] h.tds (Ju k (h.L ad x)) (b.b.opK k (of ad) ad2 y (h.K ad x)))=
     (W,Ku [h2] h.tds (Ju k (h.L ad x)) (b.b.opK k (of ad) ad2 y (h.K ad x)),true))∧W
   |none=>False
 | .cls b of af j2=>b.b.Is D∧match hs[j2]? with
   |some h2=>Eh h.kd λx=>Inv j x→∃(s:b.wr.τ) (W:Prop),b.b.R s (x.take (Nc b.b.l))∧(∀ad,((h.K ad x).take (1+ER b.b.l),Kw (ER b.b.l) ((h.K ad x).drop (1+ER b.b.l)),CB (Hq b.b.l) (x.take (Nc b.b.l)),PN [h2] (λ_ x'=>Inv j2 x'∧lx (ms j2 x') (ms j x)) h.tds (Nk 0 (jT 1 (ER b.b.l)) (h.L ad x)) ((DK (h.K ad x) .dead (jT 1 (ER b.b.l))).set 0 (.obj ⟨of ad,0,none⟩ (b.wr.inj s))),Kt [h2] h.tds (Nk 0 (jT 1 (ER b.b.l)) (h.L ad x)) ((DK (h.K ad x) .dead (jT 1 (ER b.b.l))).set 0 (.obj ⟨of ad,0,none⟩ (b.wr.inj s))),Oy [h2] h.tds (Nk 0 (jT 1 (ER b.b.l)) (h.L ad x)) ((DK (h.K ad x) .dead (jT 1 (ER b.b.l))).set 0 (.obj ⟨of ad,0,none⟩ (b.wr.inj s))))=
     (b.b.bk (of ad) (af ad) 1 (x.take (Nc b.b.l)),true,true,W,Ku [h2] h.tds (Nk 0 (jT 1 (ER b.b.l)) (h.L ad x)) ((DK (h.K ad x) .dead (jT 1 (ER b.b.l))).set 0 (.obj ⟨of ad,0,none⟩ (b.wr.inj s))),true))∧W
   |none=>False
end
section
variable {c:Ct σ} {P:Program} {T:List (Nat×Entry σ)} {I:List Nat} {fuel:Nat} {fn:Func} {B:Code} {p0:Addr} {cs:List (Cm σ)} {hs:List (Hd σ)} {hk:List (AkS σ)} {r0:Ty c.RK} {Inv:Nat→List (Cm σ)→Prop} {ms:Nat→List (Cm σ)→Nat×Nat×Nat} {f:FuncId} {R:Ending→World→Prop} {E:Ev} {G:Hp}
end
end
end Go.Sl
namespace Go.Proofs.Ytdjfnbbmfmjckaa
section
open Go.Sl
structure MS where
 t:Int
 p:Int
 h:Int
 l:List (Int×Int)
 r0:Int
 r1:Int
 r2:Int
 r3:Int
 r4:Int
 r5:Int
 r6:Int
 r7:Int
structure RX where
 t:Int
 p:Int
 h:Int
 n:Nat
 a:LI
 z:LI
 r0:Int
 r1:Int
 r2:Int
 r3:Int
 r4:Int
 r5:Int
 r6:Int
 r7:Int
structure RS where
 t:Int
 p:Int
 h:Int
 a:LI
 z:LI
 r0:Int
 r1:Int
 r2:Int
 r3:Int
 r4:Int
 r5:Int
 r6:Int
 r7:Int
inductive Sg where
 |mod (s:MS)
 |rf (s:RS)
 |any (A:List (LI)→BN) (st:List (LI))
abbrev cX (cs:List (Cm Sg)) (i:Nat):Cm Sg:=cs.getD i (.b false)
def MS.of (cs:List (Cm Sg)):MS:=⟨(cX cs 0).iOf,(cX cs 1).iOf,(cX cs 2).iOf,(cX cs 3).blOf,(cX cs 4).iOf,(cX cs 5).iOf,(cX cs 6).iOf,(cX cs 7).iOf,(cX cs 8).iOf,(cX cs 9).iOf,(cX cs 10).iOf,(cX cs 11).iOf⟩
def RX.of (cs:List (Cm Sg)):RX:=⟨(cX cs 0).iOf,(cX cs 1).iOf,(cX cs 2).iOf,(cX cs 3).nOf,(cX cs 4).liOf,(cX cs 5).liOf,(cX cs 6).iOf,(cX cs 7).iOf,(cX cs 8).iOf,(cX cs 9).iOf,(cX cs 10).iOf,(cX cs 11).iOf,(cX cs 12).iOf,(cX cs 13).iOf⟩
def BG (x s:MS):Prop:=x=s
structure ROk (x:RX) (s:RS):Prop where
 n:x.n=x.a.length
 z:x.z.length=x.a.length
 eq:s=⟨x.t,x.p,x.h,x.a,x.z,x.r0,x.r1,x.r2,x.r3,x.r4,x.r5,x.r6,x.r7⟩
def MS.nil:MS:=⟨0,0,0,[],0,0,0,0,0,0,0,0⟩
def RS.nil:RS:=⟨0,0,0,[],[],0,0,0,0,0,0,0,0⟩
def Cc:Wr Sg:=⟨MS, .mod, λ
 | .mod s=>s
 |_=>MS.nil, λ
 | .mod _=>true
 |_=>false,MS.nil, λs h=>by cases s<;>first|rfl|cases h⟩
def BQ:Bx Sg Cc:=⟨60,[.i .i64, .i .i64, .i .i64, .bm, .i .i64, .i .i64, .i .i64, .i .i64, .i .i64, .i .i64, .i .i64, .i .i64], λs y=>BG (MS.of y) s⟩
def PO:Bx Sg Cc:=⟨60,[.i .i64, .i .i64, .i .i64, .bmi, .i .i64, .i .i64, .i .i64, .i .i64, .i .i64, .i .i64, .i .i64, .i .i64], λs y=>BG (MS.of y) s⟩
def Amd:Wr Sg:=⟨RS, .rf, λ
 | .rf s=>s
 |_=>RS.nil, λ
 | .rf _=>true
 |_=>false,RS.nil, λs h=>by cases s<;>first|rfl|cases h⟩
def bxR:Bx Sg Amd:=⟨47,[.i .i64, .i .i64, .i .i64, .own 55 [some .i64,some .i64], .i .i64, .i .i64, .i .i64, .i .i64, .i .i64, .i .i64, .i .i64, .i .i64], λs y=>ROk (RX.of y) s⟩
def Dg (p:Addr):Sg→BN
 | .mod s=>BQ.A s p
 | .rf s=>bxR.A s p
 | .any A st=>A st
theorem Fa:BQ.Is Dg:=⟨rfl, λ_ _=>rfl⟩
theorem mix:Try.prog.follows .mixedOrders=true:=by kernel_rfl
abbrev Tb:=List (Nat×Entry Sg)
abbrev CQ (T:Tb):Prop:=BD Dg Try.prog T
abbrev EF (n:Nat) (e:Entry Sg):Prop:=Ep Dg Try.prog n e
theorem EO {n:Nat} {e:Entry Sg} {T:Tb} (h:EF n e) (h2:CQ T):CQ ((n,e)::T):=BD.cons Dg h h2
def He:List (Nat×Entry Sg):=[]
theorem DV:BD Dg Try.prog He:=BD.nil Dg _
end
end Go.Proofs.Ytdjfnbbmfmjckaa
namespace Go.Sl
section
open Go.RowKit
def Pn (fn:FuncId) (tmps:Array Value) (ps:Array Tmp) (assign body:Code) (D:Nat) (st:LoopState) (pe:Option Code):Loop:=
 {state:=st,pending:=pe,fn,tmps,params:=ps,assign,body,defers:=D}
def mark (D:Nat):Deferred:={target:= .collected D,args:= #[]}
def Iy (w:World) (fn:FuncId) (tmps:Array Value) (ps:Array Tmp) (assign body:Code):World:=
 (w.alloc (.deferred (some []))).alloc (.loop (Pn fn tmps ps assign body w.heap.size .ready none))
section
variable {P:Program} {f:Fq} {R:Ending→World→Prop} {k:List Item} {a:Act} {w:World}
theorem WT.rangeFunc {g:Operand} {ps:Array Tmp} {assign body:Code} {gf:Nat} {lb:Array Value} (hro:f.ro=none) (hg:a.eval g= .func (.func gf) #[] lb) (eg:∀args w,(callFunc gf args).run P w= .ok (.enter gf args) w)
 (h:Calls P gf (#[.func (.yield (w.heap.size+1)) #[] #[]]++lb) (Iy w f.id a.tmps ps assign body) λe w3=>(∃v,e= .returned v)∧∃jump w4,(Instr.endLoop (w.heap.size+1)).run P w3= .ok jump w4∧
   WT P {f with df:=mark w.heap.size::f.df} R ((jump.map Item.code).toList++k) a w4):
 WT P f R (.code (.rangeFunc g ps assign body)::k) a w:= λcs hcs=>by
 have hb:(Dy f).roundOf=none:=hro
 have he:(Instr.enterLoop (Dy f).fn (f.act a).tmps ps assign body (Dy f).roundOf).run P w= .ok (w.heap.size+1,[mark w.heap.size]) (Iy w f.id a.tmps ps assign body):=by
  rw [hb];exact run_enterLoop_outer _ _ _ _ _
 have hres:(resolve (f.act a).eval (rangeCall g (w.heap.size+1)) 0).run P (Iy w f.id a.tmps ps assign body)= .ok {target:= .fn (.func gf) lb,args:= #[.func (.yield (w.heap.size+1)) #[] #[]]} (Iy w f.id a.tmps ps assign body):=by
  simp only [resolve,Fq.LH,hg]
  simp [go_sem]
 have hinv:(invoke (Target.fn (.func gf) lb) #[.func (.yield (w.heap.size+1)) #[] #[]]).run P (Iy w f.id a.tmps ps assign body)= .ok (.enter gf (#[.func (.yield (w.heap.size+1)) #[] #[]]++lb)) (Iy w f.id a.tmps ps assign body):=by
  simp [invoke,go_sem,eg]
 have henter:=stepR_rangeFunc (P:=P) (b:=Dy f) (a:=f.act a) (k:=k) (cs:=cs) (w:=w) he hres hinv
 obtain ⟨e,w3,fr,⟨⟨v,rfl⟩,jump,w4,hend,hW⟩,hsteps,_,hleave⟩:=h ((Dy f).atR {f.act a with defers:=[mark w.heap.size]++(f.act a).defers} (.inRangeFunc (w.heap.size+1)::k)::cs)
 have s1:=step_leave_returned (c:=(Dy f).atR {f.act a with defers:=[mark w.heap.size]++(f.act a).defers} (.inRangeFunc (w.heap.size+1)::k)) (cs:=cs) hleave
 rw [finish_atR_inRangeFunc] at s1
 have s2:=stepR_endRangeFunc (P:=P) (b:=Dy f) (a:={f.act a with defers:=[mark w.heap.size]++(f.act a).defers}) (k:=k) (cs:=cs) hend
 obtain ⟨e2,w5,S,h1,h2,h3⟩:=hW cs hcs
 exact ⟨e2,w5,S,h1,Comes.of_steps (.head henter (Steps.trans hsteps (.head s1 (.one s2)))) h2,h3⟩
theorem WT.AeK {l:Nat} {w':World} (hro:f.ro=some l) (hr:(Instr.beginRound l).run P w= .ok () w') (H:WT P f R k a w'):WT P f R (.beginRound::k) a w:=
 WT.step (λ_=>stepR_beginRound (b:=Dy f) hro hr) H
theorem WT.Adj {l:Nat} {v:Value} {t:List Item} {w':World} (hro:f.ro=some l) (hs:∀c cs,Go.step P (lone ((Dy f).atR (f.act a) t) (c::cs) w)= .next (lone (c.finish v) cs w')) (hR:R (.returned v) w'):WT P f R t a w:= λcs hcs=>by
 cases cs with
 |nil=>rcases hcs with h|h
       ·rw [hro] at h;cases h
       ·exact absurd rfl h
 |cons c cs=>
  refine ⟨.returned v,w',_,hR,Steps.one (hs c cs),?_⟩
  unfold Fq.fin
  rw [hro]
  exact ⟨v,c,cs,rfl,rfl,rfl⟩
theorem WT.Ah1 {l:Nat} {v:Value} {w':World} (hro:f.ro=some l) (hr:(Instr.endRound l none).run P w= .ok v w') (hR:R (.returned v) w'):WT P f R [] a w:=
 WT.Adj hro (λ_ _=>stepR_round_end (b:=Dy f) hro rfl hr) hR
theorem WT.Ah2 {l:Nat} {v:Value} {w':World} (hro:f.ro=some l) (hr:(Instr.endRound l (some .ret)).run P w= .ok v w') (hR:R (.returned v) w'):WT P f R (.code .ret::k) a w:=
 WT.Adj hro (λ_ _=>stepR_round_ret (b:=Dy f) hro rfl hr) hR
theorem Ah3 {l:Nat} {fn:FuncId} {tmps:Array Value} {ps:Array Tmp} {assign body:Code} {D:Nat} {asv:Array Value} (h:w.heap[l]? =some (.loop (Pn fn tmps ps assign body D .ready none))) (hs:asv.size=ps.size)
 (H:WT P ⟨fn,some l,[]⟩ R [.code assign, .beginRound, .code body] {tmps:=(ps.zip asv).foldl (λt (p,v)=>t.setIfInBounds p v) tmps,defers:=[]} w):Ol P l asv w R:=
 ⟨fn,_,assign,body,run_yield h hs,H⟩
theorem WT.Agp {l:Nat} {r:Loop} (hro:f.ro=some l) (h:w.heap[l]? =some (.loop r)) (hr:r.state= .ready) (H:WT P f R k a (w.putObj l (.loop {r with state:= .busy}))):WT P f R (.beginRound::k) a w:=
 WT.AeK hro (run_beginRound h hr) H
theorem WT.AiM {l:Nat} {r:Loop} (hro:f.ro=some l) (h:w.heap[l]? =some (.loop r)) (hR:R (.returned (.bool true)) (w.putObj l (.loop {r with state:= .ready,pending:=none}))):WT P f R [] a w:=
 WT.Ah1 hro (run_endRound none h) hR
theorem WT.Ah4 {l:Nat} {r:Loop} (hro:f.ro=some l) (h:w.heap[l]? =some (.loop r)) (hR:R (.returned (.bool false)) (w.putObj l (.loop {r with state:= .done,pending:=some .ret}))):WT P f R (.code .ret::k) a w:=
 WT.Ah2 hro (run_endRound (some .ret) h) hR
theorem WT.finish_mark {fn:Func} {t:List Item} {v:Value} {D:Nat} {w':World} (hro:f.ro=none) (hdf:f.df=[mark D]) (hfn:P.funcs[f.id]? =some fn) (ht:t=[]∨∃k,t= .code .ret::k) (hd:a.defers=[])
 (hk:(Instr.takeDeferred D).run P w= .ok [] w') (hr:(results fn a.tmps).run P w'= .ok v w') (hR:R (.returned v) w'):WT P f R t a w:= λcs _=>by
 have hb:(Dy f).roundOf=none:=hro
 have hfin:∀fr,fr.fn=f.id→fr.leaving P w' (.returned v)→f.fin P cs (lone fr cs w') (.returned v) w':= λfr h1 h2=>by
  unfold Fq.fin;rw [hro];exact ⟨fr,rfl,h1,h2⟩
 have hc:∀t,Go.step P (lone {(Dy f).atR (f.act a) t with mode:= .returning} cs w)= .next (lone {(Dy f).atR (f.act a) t with mode:= .returning,defers:=[]} cs w'):= λt=>
  step_collected (fr:={(Dy f).atR (f.act a) t with mode:= .returning}) (by simp) (by show f.df++a.defers=_;rw [hdf,hd];rfl) rfl hk
 rcases ht with rfl|⟨k,rfl⟩
 ·exact ⟨.returned v,w',_,hR,Steps.head (stepR_end hb) (.one (hc _)),hfin _ rfl ⟨rfl,rfl,rfl,fn,hfn,hr⟩⟩
 ·exact ⟨.returned v,w',_,hR,Steps.head (stepR_ret hb) (.one (hc _)),hfin _ rfl ⟨rfl,rfl,rfl,fn,hfn,hr⟩⟩
end
end
section
open Go.RowKit
variable {σ:Type} (D:Addr→σ→BN)
section
variable {P:Program} {R:Ending→World→Prop} {B:Code} {n:Nat} {E:Ev} {G:Hp} {td:List Ab} {L L':List Af} {K K':List (Chunk σ)}
theorem Ae.putObj {w:World} {j l:Nat} {q:Addr} {s s':σ} {x y:Obj} (hS:Ae D E G w K) (hj:K[j]? =some (.obj q s)) (hd:D q s=pt l x) (hd':D q s'=pt l y):Ae D E G (w.putObj l y) (K.set j (.obj q s')):=by
 have hi:(K.map (den D G))[j]? =some (pt l x):=by rw [iK,hj];simp only [iR,den,hd]
 have hl:=Sat.pt hS hi
 have hlt:=lt_of_heap hl
 have:=Sat.write hS hi (w':=w.putObj l y) (A':=pt l y) ⟨rfl,rfl,rfl⟩ World.putObj_size (λc hc=>World.putObj_heap_other hc) (λY k hk=>by unfold Sl.pt;rw [hk];exact World.putObj_heap_same hlt)
 unfold Ae
 rw [jR]
 simp only [den,hd']
 exact this
theorem AY.setObj {j:Nat} {q:Addr} {s s':σ} (hj:K[j]? =some (.obj q s)):AY K (K.set j (.obj q s')):=AY.set hj λv pk h=>by cases pk<;>first|exact h|exact h.elim
theorem CP.setObj {j:Nat} {q:Addr} {s s':σ} (hk:CP K) (hj:K[j]? =some (.obj q s)):CP (K.set j (.obj q s')):=hk.set hj (λv pk h=>by cases pk<;>first|exact h|exact h.elim) λ_ _ _ h=>by cases h
theorem Ae.objPt {w:World} {j l:Nat} {q:Addr} {s:σ} {x:Obj} (hS:Ae D E G w K) (hj:K[j]? =some (.obj q s)) (hd:D q s=pt l x):w.heap[l]? =some x:=
 Sat.pt hS (i:=j) (by rw [iK,hj];simp only [iR,den,hd])
theorem SW.busy {f:Fq} {l j:Nat} {q:Addr} {s s':σ} {r:Loop} (hro:f.ro=some l) (hj:K[j]? =some (.obj q s)) (hd:D q s=pt l (.loop r)) (hr:r.state= .ready) (hd':D q s'=pt l (.loop {r with state:= .busy}))
 (H:SW D P f R B n E G td L (K.set j (.obj q s'))):SW D P f R B n E G (.raw .beginRound::td) L K:= λa w hF hS=>
 WT.Agp hro (hS.objPt D hj hd) hr (H a _ (hF.ext (AY.setObj hj) (hF.kok.setObj hj)) (hS.putObj D hj hd hd'))
theorem SW.on {f:Fq} {l j:Nat} {q:Addr} {s s':σ} {r:Loop} (hro:f.ro=some l) (hj:K[j]? =some (.obj q s)) (hd:D q s=pt l (.loop r)) (hd':D q s'=pt l (.loop {r with state:= .ready,pending:=none}))
 (H:∀w',CP (K.set j (.obj q s'))→Ae D E G w' (K.set j (.obj q s'))→R (.returned (.bool true)) w'):SW D P f R B n E G [] L K:= λ_ _ hF hS=>
 WT.AiM hro (hS.objPt D hj hd) (H _ (hF.kok.setObj hj) (hS.putObj D hj hd hd'))
theorem SW.off {f:Fq} {l j:Nat} {q:Addr} {s s':σ} {r:Loop} {q0:List Nat} (hro:f.ro=some l) (hc:Sl.sub B q0= .ret) (hj:K[j]? =some (.obj q s)) (hd:D q s=pt l (.loop r)) (hd':D q s'=pt l (.loop {r with state:= .done,pending:=some .ret}))
 (H:∀w',CP (K.set j (.obj q s'))→Ae D E G w' (K.set j (.obj q s'))→R (.returned (.bool false)) w'):SW D P f R B n E G (.code q0::td) L K:= λa w hF hS=>by
 show WT P f R (.code (Sl.sub B q0)::td.map (item B)) a w
 rw [hc]
 exact WT.Ah4 hro (hS.objPt D hj hd) (H _ (hF.kok.setObj hj) (hS.putObj D hj hd hd'))
theorem SW.rangeFunc {f:FuncId} {p:List Nat} {t gf:Nat} {ps:Array Tmp} {lb:Array Value} {pr:Pr} (hc:Sl.sub B p= .rangeFunc (.tmp t) ps (Sl.sub B (0::p)) (Sl.sub B (1::p))) (hL:(⟨t,none, .func (.func gf) #[] lb,pr⟩:Af)∈L)
 (eg:∀args w,(callFunc gf args).run P w= .ok (.enter gf args) w)
 (H:∀a w,Fr n L K a→Sat E G (Iy w f a.tmps ps (Sl.sub B (0::p)) (Sl.sub B (1::p))) (K.map (den D G)++[pt w.heap.size (.deferred (some [])),pt (w.heap.size+1) (.loop (Pn f a.tmps ps (Sl.sub B (0::p)) (Sl.sub B (1::p)) w.heap.size .ready none))])→
   Calls P gf (#[.func (.yield (w.heap.size+1)) #[] #[]]++lb) (Iy w f a.tmps ps (Sl.sub B (0::p)) (Sl.sub B (1::p))) λe w3=>(∃v,e= .returned v)∧∃r w4,w3.heap[w.heap.size+1]? =some (.loop r)∧r.state≠ .busy∧w4=w3.putObj (w.heap.size+1) (.loop {r with state:= .exhausted})∧
    WT P ⟨f,none,[mark w.heap.size]⟩ R ((r.pending.map Item.code).toList++td.map (item B)) a w4):
 SW D P f R B n E G (.code p::td) L K:= λa w hF hS=>by
 show WT P (f:Fq) R (.code (Sl.sub B p)::td.map (item B)) a w
 rw [hc]
 have hv:=hF.ents _ hL trivial
 refine WT.rangeFunc (f:=(f:Fq)) rfl (lb:=lb) hv.1 eg ?_
 have h1:=Sat.alloc (Sat.alloc hS (.deferred (some []))) (.loop (Pn f a.tmps ps (Sl.sub B (0::p)) (Sl.sub B (1::p)) w.heap.size .ready none))
 rw [jO] at h1
 have hsz:(w.alloc (.deferred (some []))).heap.size=w.heap.size+1:=by simp
 rw [hsz] at h1
 refine (H a w hF h1).mono λe w3 ⟨hv,r,w4,h2,h3,h4,h5⟩=>⟨hv,r.pending,w4,?_,h5⟩
 rw [h4]
 exact run_endLoop h2 h3
theorem SW.finish_mark {f:Fq} {fn:Func} {Dm j:Nat} {q:Addr} {s s':σ} {vs:List (Value×Pr)} (hro:f.ro=none) (hdf:f.df=[mark Dm]) (hfn:P.funcs[f.id]? =some fn) (ht:td.map (item B)=[]∨∃k,td.map (item B)= .code .ret::k)
 (hj:K[j]? =some (.obj q s)) (hd:D q s=pt Dm (.deferred (some []))) (hd':D q s'=pt Dm (.deferred none)) (hres:ES P L (K.set j (.obj q s')) fn.results.toList=some vs)
 (H:∀w',Ae D E G w' (K.set j (.obj q s'))→R (.returned (match vs with|[v]=>v.1|vs=> .tuple (vs.map (·.1)).toArray)) w'):SW D P f R B n E G td L K:= λa w hF hS=>by
 have hS':=hS.putObj D hj hd hd'
 have hF':=hF.ext (AY.setObj (s':=s') hj) (hF.kok.setObj hj)
 refine WT.finish_mark hro hdf hfn ht hF.defers (run_takeDeferred (hS.objPt D hj hd)) ?_ (H _ hS')
 ·have hrun:=(IC D hF' hS' _ _ hres).1
  unfold results
  rw [nN]
  simp only [iQ,Sem.run_map]
  erw [hrun]
  simp only [Result.andThen_ok,iY]
  match vs with
  |[]=>rfl
  |[v]=>rfl
  |_::_::_=>simp
theorem Abx {t:TypeId} (h:Jy P t=none) (L:List Af) (K:List (Chunk σ)):ES P L K [.cell 0 t]=none:=by
 have hc:∀cs off,Gl P t cs off=none:= λcs off=>by unfold Gl;rw [h]
 simp only [ES]
 split
 ·split
  ·rw [hc]
  ·rfl
 ·rfl
theorem Ae.order {w:World} {Ks:List (Chunk σ)} (h:Ae D E G w K) (is:List Nat) (hn:nodupB is=true) (hg:Ks.map some=is.map (λj=>K[j]?)):Ae D E G w Ks:=by
 refine Sat.pick h is (Ij hn) λi B hi=> .inl ?_
 rw [iK] at hi
 cases hc:Ks[i]? with
 |none=>rw [hc] at hi;cases hi
 |some c=>
  rw [hc] at hi;injection hi with hi;subst hi
  have:=congrArg (λl=>l[i]?) hg
  simp only [iK,hc,iR] at this
  cases hj:is[i]? with
  |none=>rw [hj] at this;cases this
  |some j=>
   rw [hj] at this
   simp only [iR,iA] at this
   exact ⟨j,rfl,by rw [iK,←this];rfl⟩
theorem Ae.pack {w:World} {Ks K1:List (Chunk σ)} {c:Chunk σ} (h:Ae D E G w (Ks++K1)) (hc:den D G c=star (Ks.map (den D G))):Ae D E G w (c::K1):=by
 unfold Ae at h ⊢
 rw [jE] at h
 rw [iC,hc]
 exact Sat.star_append h
theorem Ae.unpack {w:World} {k:Nat} {k0:Chunk σ} {ks:List (Chunk σ)} {c:Chunk σ} (h:Ae D E G w K) (hk:K[k]? =some c) (hc:den D G c=star ((k0::ks).map (den D G))):Ae D E G w (K.set k k0++ks):=by
 unfold Ae at h ⊢
 obtain ⟨_,_,h1⟩:=Sat.QW (α:=Unit) (p:= λ_=>True) (A0:= λ_=>den D G k0) (Bs:= λ_=>ks.map (den D G)) (k:=k) h (by
  rw [iK,hk]
  simp only [iR,iA,hc]
  funext Y h
  apply propext
  exact ⟨λx=>⟨(),trivial,x⟩, λ⟨_,_,x⟩=>x⟩)
 rw [jE,jR]
 exact h1
end
end
section
open Go.RowKit
variable {σ:Type} (D:Addr→σ→BN)
section
variable {P:Program} {R:Ending→World→Prop} {B:Code} {n:Nat} {E:Ev} {G:Hp} {td:List Ab} {L L':List Af} {K K':List (Chunk σ)}
def Adk (L:List Af) (K':List (Chunk σ)) (e:Af):Prop:=e.g=none∧(∃p,(⟨e.s,none,e.v,p⟩:Af)∈L)∧Bl K' e.v e.p
theorem Fr.re {a:Act} (hF:Fr n L K a) (hk:CP K') (hL:∀e∈L',Adk L K' e):Fr n L' K' a:=by
 refine ⟨hk,hF.defers,hF.size, λe he _=>?_, λe he hg=>?_⟩
 ·obtain ⟨_,⟨p,hp⟩,h3⟩:=hL e he
  exact ⟨(hF.ents _ hp trivial).1,h3⟩
 ·exact absurd (by rw [(hL e he).1];trivial) hg
theorem SW.re {f:Fq} {α:Type} {Kf:α→List (Chunk σ)} (hS:∀w,Ae D E G w K→∃x,Ae D E G w (Kf x)) (hk:∀x,CP (Kf x)) (hL:∀x,∀e∈L',Adk L (Kf x) e) (H:∀x,SW D P f R B n E G td L' (Kf x)):SW D P f R B n E G td L K:= λa w hF hw=>
 let ⟨x,hx⟩:=hS w hw
 H x a w (hF.re (hk x) (hL x)) hx
theorem Ae.ord {w:World} {Ks:List (Chunk σ)} (h:Ae D E G w K) (is:List Nat) (hn:nodupB is=true) (hg:Ks.map (λc=>some (den D G c))=is.map (λj=>K[j]?.map (den D G))):Ae D E G w Ks:=by
 refine Sat.pick h is (Ij hn) λi B hi=> .inl ?_
 have e:=congrArg (λl=>l[i]?) hg
 simp only [iK] at e hi
 cases hc:Ks[i]? with
 |none=>rw [hc] at hi;cases hi
 |some c=>
  rw [hc] at hi e
  simp only [iR,iA] at hi e
  subst hi
  cases hj:is[i]? with
  |none=>rw [hj] at e;cases e
  |some j=>
   rw [hj] at e
   simp only [iR,iA] at e
   exact ⟨j,rfl,by rw [iK];exact e.symm⟩
theorem Ae.Ah5 {w:World} {Ks K1:List (Chunk σ)} {c:Chunk σ} (h:Ae D E G w (Ks++K1)) (hc:∀Y k,Sl.star (Ks.map (den D G)) Y k→den D G c Y k):Ae D E G w (c::K1):=by
 unfold Ae at h ⊢
 rw [jE] at h
 have h1:=Sat.star_append h
 refine Sat.imp h1 λi B hi=>?_
 cases i with
 |zero=>simp only [iC,jH,iA] at hi;exact ⟨_,rfl, λY k hx=>by rw [←hi];exact hc Y k hx⟩
 |succ i=>exact ⟨B,by simpa using hi, λ_ _ hx=>hx⟩
theorem Ae.Adl {w:World} {α:Type} {k:Nat} {k0:α→Chunk σ} {ks:α→List (Chunk σ)} {c:Chunk σ} (h:Ae D E G w K) (hk:K[k]? =some c) (hc:den D G c= λY h=>∃x,Sl.star ((k0 x::ks x).map (den D G)) Y h):∃x,Ae D E G w (K.set k (k0 x)++ks x):=by
 unfold Ae at h
 obtain ⟨x,_,h1⟩:=Sat.QW (α:=α) (p:= λ_=>True) (A0:= λx=>den D G (k0 x)) (Bs:= λx=>(ks x).map (den D G)) (k:=k) h (by
  rw [iK,hk]
  simp only [iR,iA,hc]
  funext Y h
  apply propext
  exact ⟨λ⟨x,hx⟩=>⟨x,trivial,hx⟩, λ⟨x,_,hx⟩=>⟨x,hx⟩⟩)
 refine ⟨x,?_⟩
 unfold Ae
 rw [jE,jR]
 exact h1
theorem Adm {t:Tree σ} {R':Value→Pr→List (Chunk σ)→Prop} {S S':List Ab→List Af→List (Chunk σ)→Prop} {X:Prop} (he:t.holds R' S'=X) (hS:∀td L K,S' td L K→S td L K) (hX:X):t.holds R' S:=
 Tree.E8 (λ_ _ _ h=>h) hS (he.mpr hX)
end
end
section
open Go.RowKit
variable {σ:Type} (D:Addr→σ→BN)
section
variable {P:Program} {R:Ending→World→Prop} {B:Code} {n:Nat} {E:Ev} {G:Hp} {td:List Ab} {L L':List Af} {K K':List (Chunk σ)}
theorem SW.opCall {f:Fq} {p:List Nat} {i:Nat} {o:Oper} {g:Nat} {args:List (Value×DR σ)} {prs:List Pr} {α:Type} {vf:α→Value} {pf:α→Pr} {Kf:α→List (Chunk σ)} (ho:(opsOf (Sl.sub B p))[i]? =some o) (hgs:gs n (opsOf (Sl.sub B p)) o=some none) (hc:callOf P none L K o=some (g,args,prs))
 (hk:CP K→∀x,AY K (Kf x)∧CP (Kf x)∧Bl (Kf x) (vf x) (pf x))
 (H0:∀w,Ae D E G w K→Calls P g (args.map (·.1)).toArray w λen w'=>∃x,en= .returned (vf x)∧Ae D E G w' (Kf x))
 (H:∀x,SW D P f R B n E G (.ops p (i+1)::td) (Ce o.dst none (vf x) (pf x) L) (Kf x)):SW D P f R B n E G (.ops p i::td) L K:= λa w hF hS=>by
 obtain ⟨g1,g2,g3⟩:=Gf hgs
 have hi:i<(opsOf (Sl.sub B p)).size:=by
  rcases jC i (opsOf (Sl.sub B p)).size with h|h
  ·exact h
  ·rw [kA h] at ho;cases ho
 show WT P f R (.inRegion (opsOf (Sl.sub B p)) (jT i ((opsOf (Sl.sub B p)).size-i))::td.map (item B)) a w
 rw [Gw hi]
 obtain ⟨hrun,_,_⟩:=Jh (g:=none) hF trivial hc w
 refine WT.Oj ho ((Df g1).2 trivial) hrun (H0 w hS) λe w' ⟨x,he,hS'⟩=>⟨vf x,he,?_⟩
 obtain ⟨h1,h2,h3⟩:=hk hF.kok x
 exact H x _ w' ((hF.ext h1 h2).put g2 g3 λ_=>⟨rfl,h3⟩) hS'
theorem Ae.Al8 {w:World} (h:Ae D E G w K) (X:List (Chunk σ)):Ae D E G w (K++X.map λ_=>oF):=by
 refine Sat.pick h (jX K.length) mR λi B hi=>?_
 rw [jE] at hi
 by_cases hl:i<K.length
 ·rw [iH (by simpa using hl)] at hi
  exact .inl ⟨i,nO hl,hi⟩
 ·rw [iI (by simpa using hl),iK,iK] at hi
  refine .inr λY k _=>?_
  cases hx:X[i-(K.map (den D G)).length]? with
  |none=>rw [hx] at hi;cases hi
  |some c=>rw [hx] at hi;injection hi with hi;subst hi;trivial
theorem Ae.AkT {w:World} (h:Ae D E G w K) {c:Chunk σ} (hc:nilRow c=true):Ae D E G w (K++[c]):=by
 refine Sat.pick h (jX K.length) mR λi B hi=>?_
 rw [jE] at hi
 by_cases hl:i<K.length
 ·rw [iH (by simpa using hl)] at hi
  exact .inl ⟨i,nO hl,hi⟩
 ·rw [iI (by simpa using hl)] at hi
  refine .inr λY k _=>?_
  cases hx:i-(K.map (den D G)).length with
  |zero=>rw [hx] at hi;simp only [iC,jZ,jH,iA] at hi;rw [←hi];exact Ld D hc Y k
  |succ m=>rw [hx] at hi;simp at hi
theorem Ae.Al9 {w:World} {b:Nat} {l:List (Int×Int)} {it:Option (Nat×List (Int×Int)×List (Int×Int))} (h:Ae D E G w (.bm b l it::K)):Ae D E G w (.bm b l none::K):=by
 refine Sat.imp h λi B hi=>?_
 cases i with
 |zero=>
  simp only [iC,jH,iA] at hi
  subst hi
  exact ⟨_,rfl, λY k ⟨es,clock,h1,h2,_⟩=>⟨es,clock,h1,h2,trivial⟩⟩
 |succ i=>exact ⟨B,by simpa using hi, λ_ _ hx=>hx⟩
theorem Fr.round1 {a:Act} {p1:Nat} {v1:Value} (hF:Fr n L K a) (h1:p1<n) (hL:∀e∈L',e.g=none∧e.s≠p1∧e∈L):
 Fr n (⟨p1,none,v1, .no⟩::L') K {tmps:=a.tmps.setIfInBounds p1 v1,defers:=[]}:=by
 refine ⟨hF.kok,rfl,by simp [hF.size], λe he hg=>?_, λe he hg=>?_⟩
 ·simp only [iE] at he
  rcases he with rfl|he
  ·refine ⟨?_,Ar⟩
   rw [jB,Array.getElem?_setIfInBounds_self_of_lt (by rw [hF.size];exact h1)];rfl
  ·obtain ⟨h3,h4,h6⟩:=hL e he
   have:=hF.ents e h6 (by rw [h3];trivial)
   refine ⟨?_,this.2⟩
   rw [←this.1]
   rw [jB,jB,Array.getElem?_setIfInBounds_ne (λh=>h4 h.symm)]
 ·exfalso
  apply hg
  simp only [iE] at he
  rcases he with rfl|he
  ·trivial
  ·rw [(hL e he).1];trivial
theorem Agq {f:FuncId} {a:Act} {w:World} {p:List Nat} {p1:Nat} {v1:Value} {l Dm:Nat} (hF:Fr n L K a) (hk:CP K') (h1:p1<n) (hL:∀e∈L',e.s≠p1∧Adk L K' e)
 (hr:w.heap[l]? =some (.loop (Pn f a.tmps #[p1] (Sl.sub B (0::p)) (Sl.sub B (1::p)) Dm .ready none))) (hS:Ae D E G w K')
 (H:SW D P ⟨f,some l,[]⟩ R B n E G [.code (0::p), .raw .beginRound, .code (1::p)] (⟨p1,none,v1, .no⟩::L') K'):Ol P l #[v1] w R:=by
 refine Ah3 hr rfl ?_
 have e:(#[p1].zip #[v1]).foldl (λ(t:Array Value) (p,v)=>t.setIfInBounds p v) a.tmps=a.tmps.setIfInBounds p1 v1:=by simp
 rw [e]
 exact H _ w ((hF.re hk λe he=>(hL e he).2).round1 h1 λe he=>⟨(hL e he).2.1,(hL e he).1,he⟩) hS
end
end
section
theorem Gq {n:Int} (h: -9223372036854775808≤n∧n<9223372036854775808):iL iB n=n:=by rw [IntKind.wrap_i64];omega
theorem Adn (k:Nat):(0:Int)<2^k:=Int.pow_pos (by decide)
theorem Zo {k m:Nat} (h:k≤m):(2:Int)^k≤2^m:=by
 have:=Nat.pow_le_pow_right (n:=2) (by decide) h
 exact_mod_cast this
theorem AiN (xs:LI) (i j:Nat) (v:Int) (hi:i<xs.length):(xs.set i v).getD j 0=if j=i then v else xs.getD j 0:=by
 rw [iD,List.getElem?_set]
 by_cases h:i=j
 ·subst h;simp [hi]
 ·rw [if_neg h,if_neg (λe=>h e.symm)];simp
theorem VG {xs ys:LI} (hl:xs.length=ys.length) (h:∀j,j<xs.length→xs.getD j 0=ys.getD j 0):xs=ys:=by
 apply List.ext_getElem hl
 intro j h1 h2
 have:=h j h1
 rw [iD,iD,iO h1,iO h2] at this
 simpa using this
theorem Zp {n j:Nat} (f:Nat→Int) (h:j<n):((jX n).map f).getD j 0=f j:=by
 rw [iD,iK,nO h];rfl
end
end Go.Sl
namespace Go.Proofs.Ytdjfnbbmfmjckaa
section
open Go.Sl
def Aa:Int×Int×Int×Int×Int×Int×Int×Int×Int:=((32:Int),(21:Int),(16:Int),(10:Int),(8:Int),(5:Int),(4:Int),(3:Int),(2:Int))
def Nl (r_:Int×Int×Int×Int×Int×Int×Int×Int×Int):List Value→Value:= λss=> .agg #[.int .i64 (r_.1), .int .i64 (r_.2.1), .int .i64 (r_.2.2.1), .int .i64 (r_.2.2.2.1), .int .i64 (r_.2.2.2.2.1), .int .i64 (r_.2.2.2.2.2.1), .int .i64 (r_.2.2.2.2.2.2.1), .int .i64 (r_.2.2.2.2.2.2.2.1), .int .i64 (r_.2.2.2.2.2.2.2.2)]
def O0 (r_:Int×Int×Int×Int×Int×Int×Int×Int×Int):List (Chunk Sg):=[]
def LY (r_:Int×Int×Int×Int×Int×Int×Int×Int×Int):List (Mk Sg):=[]
theorem TT {E_:Ev} {G_:Hp} {w_:World} (hS:Sat E_ G_ w_ []):Calls Try.prog 85 #[] w_ (Post Dg E_ G_ (Nl Aa) (O0 Aa) (LY Aa)):=
 DJ Dg DV (I:=[]) Try.func85 mix (B:=Bg Try.f85) (by kernel_rfl) [] [] (by kernel_rfl) (objs:=[]) (ros:=[]) (Em) (by kernel_rfl) (trivial) hS 400
  (t:=Tree.fresh λb=>Tree.ret (Value.agg {toList:=[Ah (32:Int),Ah (21:Int),Ah (16:Int),Ah (10:Int),Ah (8:Int),Ah (5:Int),Ah (4:Int),Ah (3:Int),Ah (2:Int)]}) Aj [IE b 108 [(Ah (32:Int),Aj),(Ah (21:Int),Aj),(Ah (16:Int),Aj),(Ah (10:Int),Aj),(Ah (8:Int),Aj),(Ah (5:Int),Aj),(Ah (4:Int),Aj),(Ah (3:Int),Aj),(Ah (2:Int),Aj)]])
  (by kernel_rfl)
  (λb0_0=>CO.at (outf:=Nl) (nwf:=O0) (rowsf:=LY) (r:=((32:Int),(21:Int),(16:Int),(10:Int),(8:Int),(5:Int),(4:Int),(3:Int),(2:Int))) (by first|exact Eq.symm rfl|(simp only [Aa,cond_true,cond_false];done)|(exfalso;simp_all;done)|decide) ⟨[],[],(by decide),rfl,rfl,trivial⟩)
def KD:Entry Sg:= λ
 |[]=>some ⟨Aa, λ(r_:Int×Int×Int×Int×Int×Int×Int×Int×Int)=>⟨[],none,[], λss=> .agg #[.int .i64 (r_.1), .int .i64 (r_.2.1), .int .i64 (r_.2.2.1), .int .i64 (r_.2.2.2.1), .int .i64 (r_.2.2.2.2.1), .int .i64 (r_.2.2.2.2.2.1), .int .i64 (r_.2.2.2.2.2.2.1), .int .i64 (r_.2.2.2.2.2.2.2.1), .int .i64 (r_.2.2.2.2.2.2.2.2)], λk_=> .no⟩⟩
 |_=>none
theorem Zq:Ep Dg Try.prog 85 KD:=by
 intro args c r h hr_
 unfold KD at h
 split at h
 ·injection h with h;subst h;subst hr_
  refine ⟨λK acs _=>Ar, λhpre E G w hi hS=>?_⟩
  exact Ha Dg (by exact rfl) (TT hS)
 ·cases h
def PP:List (Nat×Entry Sg):=(85,KD)::He
theorem CY:BD Dg Try.prog PP:=BD.cons Dg Zq DV
def Ai (k:Int):Int:=bif decide (k<0)||decide (k≥9) then 0 else [32,21,16,10,8,5,4,3,2].getD k.toNat 0
def AZ (r_:Int):List Value→Value:= λss=> .int .i64 (r_)
def Bi (r_:Int):List (Chunk Sg):=[]
def AB (r_:Int):List (Mk Sg):=[]
section
variable (k:Int)
theorem Zr {E_:Ev} {G_:Hp} {w_:World} (hS:Sat E_ G_ w_ []):Calls Try.prog 74 #[(.int .i64 (0))] w_ (Post Dg E_ G_ (AZ (Ai (0))) (Bi (Ai (0))) (AB (Ai (0)))):=
 DJ Dg CY (I:=[]) Try.func74 mix (B:=Bg Try.f74) (by kernel_rfl) [(.int .i64 (0))] [.no] (by kernel_rfl) (objs:=[]) (ros:=[]) (Dj Ar (Em)) (by kernel_rfl) (trivial) hS 400
  (t:=Tree.fresh λb=>Tree.br false (Tree.ret (Ah (0:Int)) Aj [IE b 108 [(Ah Aa.1,Aj),(Ah Aa.2.1,Aj),(Ah Aa.2.2.1,Aj),(Ah Aa.2.2.2.1,Aj),(Ah Aa.2.2.2.2.1,Aj),(Ah Aa.2.2.2.2.2.1,Aj),(Ah Aa.2.2.2.2.2.2.1,Aj),(Ah Aa.2.2.2.2.2.2.2.1,Aj),(Ah Aa.2.2.2.2.2.2.2.2,Aj)]]) (Tree.need ((0:Int)≤(0:Int)∧(0:Int)<(9:Int)) (Tree.ret (Ah Aa.1) Aj [IE b 108 [(Ah Aa.1,Aj),(Ah Aa.2.1,Aj),(Ah Aa.2.2.1,Aj),(Ah Aa.2.2.2.1,Aj),(Ah Aa.2.2.2.2.1,Aj),(Ah Aa.2.2.2.2.2.1,Aj),(Ah Aa.2.2.2.2.2.2.1,Aj),(Ah Aa.2.2.2.2.2.2.2.1,Aj),(Ah Aa.2.2.2.2.2.2.2.2,Aj)]])))
  (by kernel_rfl)
  (λb0_0=>⟨λz1=>CO.at (outf:=AZ) (nwf:=Bi) (rowsf:=AB) (r:=(0:Int)) (by first|exact Eq.symm ((cT z1).trans rfl)|(simp only [Ai,z1,cond_true,cond_false];done)|(exfalso;simp_all;done)|decide) ⟨[],[],(by decide),rfl,rfl,trivial⟩, λz1=>⟨by decide, λy2=>CO.at (outf:=AZ) (nwf:=Bi) (rowsf:=AB) (r:=Aa.1) (by first|exact Eq.symm ((cF z1).trans rfl)|(simp only [Ai,z1,cond_true,cond_false];done)|(exfalso;simp_all;done)|decide) ⟨[],[],(by decide),rfl,rfl,trivial⟩⟩⟩)
theorem Zt {E_:Ev} {G_:Hp} {w_:World} (hS:Sat E_ G_ w_ []):Calls Try.prog 74 #[(.int .i64 (1))] w_ (Post Dg E_ G_ (AZ (Ai (1))) (Bi (Ai (1))) (AB (Ai (1)))):=
 DJ Dg CY (I:=[]) Try.func74 mix (B:=Bg Try.f74) (by kernel_rfl) [(.int .i64 (1))] [.no] (by kernel_rfl) (objs:=[]) (ros:=[]) (Dj Ar (Em)) (by kernel_rfl) (trivial) hS 400
  (t:=Tree.fresh λb=>Tree.br false (Tree.ret (Ah (0:Int)) Aj [IE b 108 [(Ah Aa.1,Aj),(Ah Aa.2.1,Aj),(Ah Aa.2.2.1,Aj),(Ah Aa.2.2.2.1,Aj),(Ah Aa.2.2.2.2.1,Aj),(Ah Aa.2.2.2.2.2.1,Aj),(Ah Aa.2.2.2.2.2.2.1,Aj),(Ah Aa.2.2.2.2.2.2.2.1,Aj),(Ah Aa.2.2.2.2.2.2.2.2,Aj)]]) (Tree.need ((0:Int)≤(1:Int)∧(1:Int)<(9:Int)) (Tree.ret (Ah Aa.2.1) Aj [IE b 108 [(Ah Aa.1,Aj),(Ah Aa.2.1,Aj),(Ah Aa.2.2.1,Aj),(Ah Aa.2.2.2.1,Aj),(Ah Aa.2.2.2.2.1,Aj),(Ah Aa.2.2.2.2.2.1,Aj),(Ah Aa.2.2.2.2.2.2.1,Aj),(Ah Aa.2.2.2.2.2.2.2.1,Aj),(Ah Aa.2.2.2.2.2.2.2.2,Aj)]])))
  (by kernel_rfl)
  (λb0_0=>⟨λz1=>CO.at (outf:=AZ) (nwf:=Bi) (rowsf:=AB) (r:=(0:Int)) (by first|exact Eq.symm ((cT z1).trans rfl)|(simp only [Ai,z1,cond_true,cond_false];done)|(exfalso;simp_all;done)|decide) ⟨[],[],(by decide),rfl,rfl,trivial⟩, λz1=>⟨by decide, λy2=>CO.at (outf:=AZ) (nwf:=Bi) (rowsf:=AB) (r:=Aa.2.1) (by first|exact Eq.symm ((cF z1).trans rfl)|(simp only [Ai,z1,cond_true,cond_false];done)|(exfalso;simp_all;done)|decide) ⟨[],[],(by decide),rfl,rfl,trivial⟩⟩⟩)
theorem Zu {E_:Ev} {G_:Hp} {w_:World} (hS:Sat E_ G_ w_ []):Calls Try.prog 74 #[(.int .i64 (2))] w_ (Post Dg E_ G_ (AZ (Ai (2))) (Bi (Ai (2))) (AB (Ai (2)))):=
 DJ Dg CY (I:=[]) Try.func74 mix (B:=Bg Try.f74) (by kernel_rfl) [(.int .i64 (2))] [.no] (by kernel_rfl) (objs:=[]) (ros:=[]) (Dj Ar (Em)) (by kernel_rfl) (trivial) hS 400
  (t:=Tree.fresh λb=>Tree.br false (Tree.ret (Ah (0:Int)) Aj [IE b 108 [(Ah Aa.1,Aj),(Ah Aa.2.1,Aj),(Ah Aa.2.2.1,Aj),(Ah Aa.2.2.2.1,Aj),(Ah Aa.2.2.2.2.1,Aj),(Ah Aa.2.2.2.2.2.1,Aj),(Ah Aa.2.2.2.2.2.2.1,Aj),(Ah Aa.2.2.2.2.2.2.2.1,Aj),(Ah Aa.2.2.2.2.2.2.2.2,Aj)]]) (Tree.need ((0:Int)≤(2:Int)∧(2:Int)<(9:Int)) (Tree.ret (Ah Aa.2.2.1) Aj [IE b 108 [(Ah Aa.1,Aj),(Ah Aa.2.1,Aj),(Ah Aa.2.2.1,Aj),(Ah Aa.2.2.2.1,Aj),(Ah Aa.2.2.2.2.1,Aj),(Ah Aa.2.2.2.2.2.1,Aj),(Ah Aa.2.2.2.2.2.2.1,Aj),(Ah Aa.2.2.2.2.2.2.2.1,Aj),(Ah Aa.2.2.2.2.2.2.2.2,Aj)]])))
  (by kernel_rfl)
  (λb0_0=>⟨λz1=>CO.at (outf:=AZ) (nwf:=Bi) (rowsf:=AB) (r:=(0:Int)) (by first|exact Eq.symm ((cT z1).trans rfl)|(simp only [Ai,z1,cond_true,cond_false];done)|(exfalso;simp_all;done)|decide) ⟨[],[],(by decide),rfl,rfl,trivial⟩, λz1=>⟨by decide, λy2=>CO.at (outf:=AZ) (nwf:=Bi) (rowsf:=AB) (r:=Aa.2.2.1) (by first|exact Eq.symm ((cF z1).trans rfl)|(simp only [Ai,z1,cond_true,cond_false];done)|(exfalso;simp_all;done)|decide) ⟨[],[],(by decide),rfl,rfl,trivial⟩⟩⟩)
theorem Zv {E_:Ev} {G_:Hp} {w_:World} (hS:Sat E_ G_ w_ []):Calls Try.prog 74 #[(.int .i64 (3))] w_ (Post Dg E_ G_ (AZ (Ai (3))) (Bi (Ai (3))) (AB (Ai (3)))):=
 DJ Dg CY (I:=[]) Try.func74 mix (B:=Bg Try.f74) (by kernel_rfl) [(.int .i64 (3))] [.no] (by kernel_rfl) (objs:=[]) (ros:=[]) (Dj Ar (Em)) (by kernel_rfl) (trivial) hS 400
  (t:=Tree.fresh λb=>Tree.br false (Tree.ret (Ah (0:Int)) Aj [IE b 108 [(Ah Aa.1,Aj),(Ah Aa.2.1,Aj),(Ah Aa.2.2.1,Aj),(Ah Aa.2.2.2.1,Aj),(Ah Aa.2.2.2.2.1,Aj),(Ah Aa.2.2.2.2.2.1,Aj),(Ah Aa.2.2.2.2.2.2.1,Aj),(Ah Aa.2.2.2.2.2.2.2.1,Aj),(Ah Aa.2.2.2.2.2.2.2.2,Aj)]]) (Tree.need ((0:Int)≤(3:Int)∧(3:Int)<(9:Int)) (Tree.ret (Ah Aa.2.2.2.1) Aj [IE b 108 [(Ah Aa.1,Aj),(Ah Aa.2.1,Aj),(Ah Aa.2.2.1,Aj),(Ah Aa.2.2.2.1,Aj),(Ah Aa.2.2.2.2.1,Aj),(Ah Aa.2.2.2.2.2.1,Aj),(Ah Aa.2.2.2.2.2.2.1,Aj),(Ah Aa.2.2.2.2.2.2.2.1,Aj),(Ah Aa.2.2.2.2.2.2.2.2,Aj)]])))
  (by kernel_rfl)
  (λb0_0=>⟨λz1=>CO.at (outf:=AZ) (nwf:=Bi) (rowsf:=AB) (r:=(0:Int)) (by first|exact Eq.symm ((cT z1).trans rfl)|(simp only [Ai,z1,cond_true,cond_false];done)|(exfalso;simp_all;done)|decide) ⟨[],[],(by decide),rfl,rfl,trivial⟩, λz1=>⟨by decide, λy2=>CO.at (outf:=AZ) (nwf:=Bi) (rowsf:=AB) (r:=Aa.2.2.2.1) (by first|exact Eq.symm ((cF z1).trans rfl)|(simp only [Ai,z1,cond_true,cond_false];done)|(exfalso;simp_all;done)|decide) ⟨[],[],(by decide),rfl,rfl,trivial⟩⟩⟩)
theorem Zw {E_:Ev} {G_:Hp} {w_:World} (hS:Sat E_ G_ w_ []):Calls Try.prog 74 #[(.int .i64 (4))] w_ (Post Dg E_ G_ (AZ (Ai (4))) (Bi (Ai (4))) (AB (Ai (4)))):=
 DJ Dg CY (I:=[]) Try.func74 mix (B:=Bg Try.f74) (by kernel_rfl) [(.int .i64 (4))] [.no] (by kernel_rfl) (objs:=[]) (ros:=[]) (Dj Ar (Em)) (by kernel_rfl) (trivial) hS 400
  (t:=Tree.fresh λb=>Tree.br false (Tree.ret (Ah (0:Int)) Aj [IE b 108 [(Ah Aa.1,Aj),(Ah Aa.2.1,Aj),(Ah Aa.2.2.1,Aj),(Ah Aa.2.2.2.1,Aj),(Ah Aa.2.2.2.2.1,Aj),(Ah Aa.2.2.2.2.2.1,Aj),(Ah Aa.2.2.2.2.2.2.1,Aj),(Ah Aa.2.2.2.2.2.2.2.1,Aj),(Ah Aa.2.2.2.2.2.2.2.2,Aj)]]) (Tree.need ((0:Int)≤(4:Int)∧(4:Int)<(9:Int)) (Tree.ret (Ah Aa.2.2.2.2.1) Aj [IE b 108 [(Ah Aa.1,Aj),(Ah Aa.2.1,Aj),(Ah Aa.2.2.1,Aj),(Ah Aa.2.2.2.1,Aj),(Ah Aa.2.2.2.2.1,Aj),(Ah Aa.2.2.2.2.2.1,Aj),(Ah Aa.2.2.2.2.2.2.1,Aj),(Ah Aa.2.2.2.2.2.2.2.1,Aj),(Ah Aa.2.2.2.2.2.2.2.2,Aj)]])))
  (by kernel_rfl)
  (λb0_0=>⟨λz1=>CO.at (outf:=AZ) (nwf:=Bi) (rowsf:=AB) (r:=(0:Int)) (by first|exact Eq.symm ((cT z1).trans rfl)|(simp only [Ai,z1,cond_true,cond_false];done)|(exfalso;simp_all;done)|decide) ⟨[],[],(by decide),rfl,rfl,trivial⟩, λz1=>⟨by decide, λy2=>CO.at (outf:=AZ) (nwf:=Bi) (rowsf:=AB) (r:=Aa.2.2.2.2.1) (by first|exact Eq.symm ((cF z1).trans rfl)|(simp only [Ai,z1,cond_true,cond_false];done)|(exfalso;simp_all;done)|decide) ⟨[],[],(by decide),rfl,rfl,trivial⟩⟩⟩)
theorem Zx {E_:Ev} {G_:Hp} {w_:World} (hS:Sat E_ G_ w_ []):Calls Try.prog 74 #[(.int .i64 (5))] w_ (Post Dg E_ G_ (AZ (Ai (5))) (Bi (Ai (5))) (AB (Ai (5)))):=
 DJ Dg CY (I:=[]) Try.func74 mix (B:=Bg Try.f74) (by kernel_rfl) [(.int .i64 (5))] [.no] (by kernel_rfl) (objs:=[]) (ros:=[]) (Dj Ar (Em)) (by kernel_rfl) (trivial) hS 400
  (t:=Tree.fresh λb=>Tree.br false (Tree.ret (Ah (0:Int)) Aj [IE b 108 [(Ah Aa.1,Aj),(Ah Aa.2.1,Aj),(Ah Aa.2.2.1,Aj),(Ah Aa.2.2.2.1,Aj),(Ah Aa.2.2.2.2.1,Aj),(Ah Aa.2.2.2.2.2.1,Aj),(Ah Aa.2.2.2.2.2.2.1,Aj),(Ah Aa.2.2.2.2.2.2.2.1,Aj),(Ah Aa.2.2.2.2.2.2.2.2,Aj)]]) (Tree.need ((0:Int)≤(5:Int)∧(5:Int)<(9:Int)) (Tree.ret (Ah Aa.2.2.2.2.2.1) Aj [IE b 108 [(Ah Aa.1,Aj),(Ah Aa.2.1,Aj),(Ah Aa.2.2.1,Aj),(Ah Aa.2.2.2.1,Aj),(Ah Aa.2.2.2.2.1,Aj),(Ah Aa.2.2.2.2.2.1,Aj),(Ah Aa.2.2.2.2.2.2.1,Aj),(Ah Aa.2.2.2.2.2.2.2.1,Aj),(Ah Aa.2.2.2.2.2.2.2.2,Aj)]])))
  (by kernel_rfl)
  (λb0_0=>⟨λz1=>CO.at (outf:=AZ) (nwf:=Bi) (rowsf:=AB) (r:=(0:Int)) (by first|exact Eq.symm ((cT z1).trans rfl)|(simp only [Ai,z1,cond_true,cond_false];done)|(exfalso;simp_all;done)|decide) ⟨[],[],(by decide),rfl,rfl,trivial⟩, λz1=>⟨by decide, λy2=>CO.at (outf:=AZ) (nwf:=Bi) (rowsf:=AB) (r:=Aa.2.2.2.2.2.1) (by first|exact Eq.symm ((cF z1).trans rfl)|(simp only [Ai,z1,cond_true,cond_false];done)|(exfalso;simp_all;done)|decide) ⟨[],[],(by decide),rfl,rfl,trivial⟩⟩⟩)
theorem Zy {E_:Ev} {G_:Hp} {w_:World} (hS:Sat E_ G_ w_ []):Calls Try.prog 74 #[(.int .i64 (6))] w_ (Post Dg E_ G_ (AZ (Ai (6))) (Bi (Ai (6))) (AB (Ai (6)))):=
 DJ Dg CY (I:=[]) Try.func74 mix (B:=Bg Try.f74) (by kernel_rfl) [(.int .i64 (6))] [.no] (by kernel_rfl) (objs:=[]) (ros:=[]) (Dj Ar (Em)) (by kernel_rfl) (trivial) hS 400
  (t:=Tree.fresh λb=>Tree.br false (Tree.ret (Ah (0:Int)) Aj [IE b 108 [(Ah Aa.1,Aj),(Ah Aa.2.1,Aj),(Ah Aa.2.2.1,Aj),(Ah Aa.2.2.2.1,Aj),(Ah Aa.2.2.2.2.1,Aj),(Ah Aa.2.2.2.2.2.1,Aj),(Ah Aa.2.2.2.2.2.2.1,Aj),(Ah Aa.2.2.2.2.2.2.2.1,Aj),(Ah Aa.2.2.2.2.2.2.2.2,Aj)]]) (Tree.need ((0:Int)≤(6:Int)∧(6:Int)<(9:Int)) (Tree.ret (Ah Aa.2.2.2.2.2.2.1) Aj [IE b 108 [(Ah Aa.1,Aj),(Ah Aa.2.1,Aj),(Ah Aa.2.2.1,Aj),(Ah Aa.2.2.2.1,Aj),(Ah Aa.2.2.2.2.1,Aj),(Ah Aa.2.2.2.2.2.1,Aj),(Ah Aa.2.2.2.2.2.2.1,Aj),(Ah Aa.2.2.2.2.2.2.2.1,Aj),(Ah Aa.2.2.2.2.2.2.2.2,Aj)]])))
  (by kernel_rfl)
  (λb0_0=>⟨λz1=>CO.at (outf:=AZ) (nwf:=Bi) (rowsf:=AB) (r:=(0:Int)) (by first|exact Eq.symm ((cT z1).trans rfl)|(simp only [Ai,z1,cond_true,cond_false];done)|(exfalso;simp_all;done)|decide) ⟨[],[],(by decide),rfl,rfl,trivial⟩, λz1=>⟨by decide, λy2=>CO.at (outf:=AZ) (nwf:=Bi) (rowsf:=AB) (r:=Aa.2.2.2.2.2.2.1) (by first|exact Eq.symm ((cF z1).trans rfl)|(simp only [Ai,z1,cond_true,cond_false];done)|(exfalso;simp_all;done)|decide) ⟨[],[],(by decide),rfl,rfl,trivial⟩⟩⟩)
theorem Zz {E_:Ev} {G_:Hp} {w_:World} (hS:Sat E_ G_ w_ []):Calls Try.prog 74 #[(.int .i64 (7))] w_ (Post Dg E_ G_ (AZ (Ai (7))) (Bi (Ai (7))) (AB (Ai (7)))):=
 DJ Dg CY (I:=[]) Try.func74 mix (B:=Bg Try.f74) (by kernel_rfl) [(.int .i64 (7))] [.no] (by kernel_rfl) (objs:=[]) (ros:=[]) (Dj Ar (Em)) (by kernel_rfl) (trivial) hS 400
  (t:=Tree.fresh λb=>Tree.br false (Tree.ret (Ah (0:Int)) Aj [IE b 108 [(Ah Aa.1,Aj),(Ah Aa.2.1,Aj),(Ah Aa.2.2.1,Aj),(Ah Aa.2.2.2.1,Aj),(Ah Aa.2.2.2.2.1,Aj),(Ah Aa.2.2.2.2.2.1,Aj),(Ah Aa.2.2.2.2.2.2.1,Aj),(Ah Aa.2.2.2.2.2.2.2.1,Aj),(Ah Aa.2.2.2.2.2.2.2.2,Aj)]]) (Tree.need ((0:Int)≤(7:Int)∧(7:Int)<(9:Int)) (Tree.ret (Ah Aa.2.2.2.2.2.2.2.1) Aj [IE b 108 [(Ah Aa.1,Aj),(Ah Aa.2.1,Aj),(Ah Aa.2.2.1,Aj),(Ah Aa.2.2.2.1,Aj),(Ah Aa.2.2.2.2.1,Aj),(Ah Aa.2.2.2.2.2.1,Aj),(Ah Aa.2.2.2.2.2.2.1,Aj),(Ah Aa.2.2.2.2.2.2.2.1,Aj),(Ah Aa.2.2.2.2.2.2.2.2,Aj)]])))
  (by kernel_rfl)
  (λb0_0=>⟨λz1=>CO.at (outf:=AZ) (nwf:=Bi) (rowsf:=AB) (r:=(0:Int)) (by first|exact Eq.symm ((cT z1).trans rfl)|(simp only [Ai,z1,cond_true,cond_false];done)|(exfalso;simp_all;done)|decide) ⟨[],[],(by decide),rfl,rfl,trivial⟩, λz1=>⟨by decide, λy2=>CO.at (outf:=AZ) (nwf:=Bi) (rowsf:=AB) (r:=Aa.2.2.2.2.2.2.2.1) (by first|exact Eq.symm ((cF z1).trans rfl)|(simp only [Ai,z1,cond_true,cond_false];done)|(exfalso;simp_all;done)|decide) ⟨[],[],(by decide),rfl,rfl,trivial⟩⟩⟩)
theorem Z4 {E_:Ev} {G_:Hp} {w_:World} (hS:Sat E_ G_ w_ []):Calls Try.prog 74 #[(.int .i64 (8))] w_ (Post Dg E_ G_ (AZ (Ai (8))) (Bi (Ai (8))) (AB (Ai (8)))):=
 DJ Dg CY (I:=[]) Try.func74 mix (B:=Bg Try.f74) (by kernel_rfl) [(.int .i64 (8))] [.no] (by kernel_rfl) (objs:=[]) (ros:=[]) (Dj Ar (Em)) (by kernel_rfl) (trivial) hS 400
  (t:=Tree.fresh λb=>Tree.br false (Tree.ret (Ah (0:Int)) Aj [IE b 108 [(Ah Aa.1,Aj),(Ah Aa.2.1,Aj),(Ah Aa.2.2.1,Aj),(Ah Aa.2.2.2.1,Aj),(Ah Aa.2.2.2.2.1,Aj),(Ah Aa.2.2.2.2.2.1,Aj),(Ah Aa.2.2.2.2.2.2.1,Aj),(Ah Aa.2.2.2.2.2.2.2.1,Aj),(Ah Aa.2.2.2.2.2.2.2.2,Aj)]]) (Tree.need ((0:Int)≤(8:Int)∧(8:Int)<(9:Int)) (Tree.ret (Ah Aa.2.2.2.2.2.2.2.2) Aj [IE b 108 [(Ah Aa.1,Aj),(Ah Aa.2.1,Aj),(Ah Aa.2.2.1,Aj),(Ah Aa.2.2.2.1,Aj),(Ah Aa.2.2.2.2.1,Aj),(Ah Aa.2.2.2.2.2.1,Aj),(Ah Aa.2.2.2.2.2.2.1,Aj),(Ah Aa.2.2.2.2.2.2.2.1,Aj),(Ah Aa.2.2.2.2.2.2.2.2,Aj)]])))
  (by kernel_rfl)
  (λb0_0=>⟨λz1=>CO.at (outf:=AZ) (nwf:=Bi) (rowsf:=AB) (r:=(0:Int)) (by first|exact Eq.symm ((cT z1).trans rfl)|(simp only [Ai,z1,cond_true,cond_false];done)|(exfalso;simp_all;done)|decide) ⟨[],[],(by decide),rfl,rfl,trivial⟩, λz1=>⟨by decide, λy2=>CO.at (outf:=AZ) (nwf:=Bi) (rowsf:=AB) (r:=Aa.2.2.2.2.2.2.2.2) (by first|exact Eq.symm ((cF z1).trans rfl)|(simp only [Ai,z1,cond_true,cond_false];done)|(exfalso;simp_all;done)|decide) ⟨[],[],(by decide),rfl,rfl,trivial⟩⟩⟩)
theorem TU {E_:Ev} {G_:Hp} {w_:World} (hc:¬(0≤k∧k<9)) (hS:Sat E_ G_ w_ []):Calls Try.prog 74 #[(.int .i64 k)] w_ (Post Dg E_ G_ (AZ (Ai k)) (Bi (Ai k)) (AB (Ai k))):=
 DJ Dg CY (I:=[]) Try.func74 mix (B:=Bg Try.f74) (by kernel_rfl) [(.int .i64 k)] [.no] (by kernel_rfl) (objs:=[]) (ros:=[]) (Dj Ar (Em)) (by kernel_rfl) (trivial) hS 26
  (t:=Tree.fresh λb=>Tree.br (decide (k<(0:Int))||decide (k≥(9:Int))) (Tree.ret (Ah (0:Int)) Aj [IE b 108 [(Ah Aa.1,Aj),(Ah Aa.2.1,Aj),(Ah Aa.2.2.1,Aj),(Ah Aa.2.2.2.1,Aj),(Ah Aa.2.2.2.2.1,Aj),(Ah Aa.2.2.2.2.2.1,Aj),(Ah Aa.2.2.2.2.2.2.1,Aj),(Ah Aa.2.2.2.2.2.2.2.1,Aj),(Ah Aa.2.2.2.2.2.2.2.2,Aj)]]) (Tree.need ((0:Int)≤k∧k<(9:Int)) (Tree.stuck [Ab.ops [0,1,1,1] 2,Ab.code [1,1,1,1]] [FY 12 (kB (some (Addr.add {block:=b,off:=0} (jD k*1)))) (kZ 0 (nJ (0+jD k*1))),FY 11 (Ah k) Aj,FY 10 (oE (decide (k<(0:Int))||decide (k≥(9:Int)))) Aj,eg_ 9 (7,false) (oE (decide (k≥(9:Int)))) Aj,eg_ 8 (7,false) (Ah k) Aj,FY 7 (oE (decide (k<(0:Int)))) Aj,FY 6 (oE (decide (k<(0:Int)))) Aj,FY 5 (Ah k) Aj,FY 3 (vp_ b) (pc_ 0 0),FY 1000004 (oH {toList:=[]}) Aj,FY 4 (Value.agg {toList:=[Ah Aa.1,Ah Aa.2.1,Ah Aa.2.2.1,Ah Aa.2.2.2.1,Ah Aa.2.2.2.2.1,Ah Aa.2.2.2.2.2.1,Ah Aa.2.2.2.2.2.2.1,Ah Aa.2.2.2.2.2.2.2.1,Ah Aa.2.2.2.2.2.2.2.2]}) Aj,FY 1000002 (oH {toList:=[]}) Aj,FY 2 (Ah (0:Int)) Aj,FY 0 (Ah k) Aj] [IE b 108 [(Ah Aa.1,Aj),(Ah Aa.2.1,Aj),(Ah Aa.2.2.1,Aj),(Ah Aa.2.2.2.1,Aj),(Ah Aa.2.2.2.2.1,Aj),(Ah Aa.2.2.2.2.2.1,Aj),(Ah Aa.2.2.2.2.2.2.1,Aj),(Ah Aa.2.2.2.2.2.2.2.1,Aj),(Ah Aa.2.2.2.2.2.2.2.2,Aj)]])))
  (by kernel_rfl)
  (λb0_0=>⟨λz1=>CO.at (outf:=AZ) (nwf:=Bi) (rowsf:=AB) (r:=(0:Int)) (by first|exact Eq.symm ((cT z1).trans rfl)|(simp only [Ai,z1,cond_true,cond_false];done)|(exfalso;simp_all;done)|decide) ⟨[],[],(by decide),rfl,rfl,trivial⟩, λz1=>⟨by exfalso;simp at z1;omega, λy2=>(by exfalso;simp at z1;omega)⟩⟩)
theorem TV {E_:Ev} {G_:Hp} {w_:World} (hS:Sat E_ G_ w_ []):Calls Try.prog 74 #[(.int .i64 k)] w_ (Post Dg E_ G_ (AZ (Ai k)) (Bi (Ai k)) (AB (Ai k))):=by
 by_cases hc:0≤k∧k<9
 ·rcases (by omega:k=0∨k=1∨k=2∨k=3∨k=4∨k=5∨k=6∨k=7∨k=8) with rfl|rfl|rfl|rfl|rfl|rfl|rfl|rfl|rfl
  ·exact Zr hS
  ·exact Zt hS
  ·exact Zu hS
  ·exact Zv hS
  ·exact Zw hS
  ·exact Zx hS
  ·exact Zy hS
  ·exact Zz hS
  ·exact Z4 hS
 ·exact TU k hc hS
end
def KE:Entry Sg:= λ
 |[(.int .i64 k,_)]=>some ⟨(Ai k), λ(r_:Int)=>⟨[],none,[], λss=> .int .i64 (r_), λk_=> .no⟩⟩
 |_=>none
theorem Z5:Ep Dg Try.prog 74 KE:=by
 intro args c r h hr_
 unfold KE at h
 split at h
 ·injection h with h;subst h;subst hr_
  refine ⟨λK acs _=>Ar, λhpre E G w hi hS=>?_⟩
  exact Ha Dg (by exact rfl) (TV _ hS)
 ·cases h
def PQ:List (Nat×Entry Sg):=(74,KE)::PP
theorem LZ:BD Dg Try.prog PQ:=BD.cons Dg Z5 CY
def Dh (s k:Int):Int:=(bif Ai k==(0:Int)||decide (s<(10:Int))||decide (s>(20:Int)) then (0:Int) else iL iB (↑(BitVec.toNat (oC 64 (iL iB (Int.tdiv (iL iB ((1:Int)*(2:Int)^min (jD s) 64)) (Ai k))) &&& ~~~oC 64 (15:Int))):Int))
def JC (r_:Int):List Value→Value:= λss=> .int .i64 (r_)
def KF (r_:Int):List (Chunk Sg):=[]
def Jq (r_:Int):List (Mk Sg):=[]
section
variable (s k:Int)
theorem VH {E_:Ev} {G_:Hp} {w_:World} (hS:Sat E_ G_ w_ []):Calls Try.prog 43 #[(.int .i64 s),(.int .i64 k)] w_ (Post Dg E_ G_ (JC (Dh s k)) (KF (Dh s k)) (Jq (Dh s k))):=
 DJ Dg LZ (I:=[]) Try.func43 mix (B:=Bg Try.f43) (by kernel_rfl) [(.int .i64 s),(.int .i64 k)] [.no, .no] (by kernel_rfl) (objs:=[]) (ros:=[]) (Dj Ar (Dj Ar (Em))) (by kernel_rfl) (trivial) hS 400
  (t:=Tree.br (Ai k==(0:Int)||decide (s<(10:Int))||decide (s>(20:Int))) (Tree.ret (Ah (0:Int)) Aj []) (Tree.need ((0:Int)≤s) (Tree.need (Ai k≠(0:Int)) (Tree.ret (Ah (iL iB (↑(BitVec.toNat (oC 64 (iL iB (Int.tdiv (iL iB ((1:Int)*(2:Int)^min (jD s) 64)) (Ai k))) &&& ~~~oC 64 (15:Int))):Int))) Aj []))))
  (by kernel_rfl)
  (⟨λz0=>CO.at (outf:=JC) (nwf:=KF) (rowsf:=Jq) (r:=(0:Int)) (by first|exact Eq.symm ((cT z0).trans rfl)|(simp only [Dh,z0,cond_true,cond_false];done)|(exfalso;simp_all;done)|decide) ⟨[],[],(by decide),rfl,rfl,trivial⟩, λz0=>⟨by first|(simp only [lM,beq_eq_false_iff_ne,ne_eq,decide_eq_false_iff_not] at z0;omega)|omega, λy1=>⟨by first|(simp only [lM,beq_eq_false_iff_ne,ne_eq,decide_eq_false_iff_not] at z0;omega)|omega, λy2=>CO.at (outf:=JC) (nwf:=KF) (rowsf:=Jq) (r:=iL iB (↑(BitVec.toNat (oC 64 (iL iB (Int.tdiv (iL iB ((1:Int)*(2:Int)^min (jD s) 64)) (Ai k))) &&& ~~~oC 64 (15:Int))):Int)) (by first|exact Eq.symm ((cF z0).trans rfl)|(simp only [Dh,z0,cond_true,cond_false];done)|(exfalso;simp_all;done)|decide) ⟨[],[],(by decide),rfl,rfl,trivial⟩⟩⟩⟩)
end
def Mc:Entry Sg:= λ
 |[(.int .i64 s,_),(.int .i64 k,_)]=>some ⟨(Dh s k), λ(r_:Int)=>⟨[],none,[], λss=> .int .i64 (r_), λk_=> .no⟩⟩
 |_=>none
theorem Aby:Ep Dg Try.prog 43 Mc:=by
 intro args c r h hr_
 unfold Mc at h
 split at h
 ·injection h with h;subst h;subst hr_
  refine ⟨λK acs _=>Ar, λhpre E G w hi hS=>?_⟩
  exact Ha Dg (by exact rfl) (VH _ _ hS)
 ·cases h
def Ri:List (Nat×Entry Sg):=(43,Mc)::PQ
theorem Np:BD Dg Try.prog Ri:=BD.cons Dg Aby LZ
end
section
open Go.Sl
def EW (s:Int):LI:=bif Dh s 0==0 then [] else (jX 9).map λ(k:Nat)=>Dh s k
abbrev Abz:Ct Sg:=⟨none,false,[.i .i64], .new 2 [some .i64]⟩
def PR:Entry Sg:=CW Abz EW (λ_=>[])
def PS (s:Int) (Q0:Int→Nat→LI→Prop) (R_:LI→Prop):Prop:=(Bo (Dh s (0:Int)==0) (R_ ([])) (A8 ((0:Int)≤9∧(9:Int)≤9∧(72:Int)≤140737488355328) (Q0 (0) (9) ([0,0,0,0,0,0,0,0,0]))))
def O1 (s k:Int) (n:Nat) (xs:LI) (Q0:Int→Nat→LI→Prop) (R_:LI→Prop):Prop:=(Bo (decide (k<9)) (A8 (0≤k∧k<(↑n:Int)) (Q0 (iL iB (k+1)) (n) (List.set xs (jD k) (Dh s k)))) (R_ (xs)))
def EU (s k:Int) (n:Nat) (xs r_:LI):Prop:=n=9∧0≤k∧k≤9∧xs.length=9∧(∀j:Nat,j<k.toNat→xs.getD j 0=Dh s j)∧r_=(jX 9).map λ(k:Nat)=>Dh s k
abbrev JD (p0:Addr) (s:Int):Hd Sg:=⟨none,[0,1,0,1,1,1],[.blk 0, .code [1,1,1,1]],[11,10,3,0],[.i .i64, .ic .i64 (9), .own 2 [some .i64], .ic .i64 (s)]⟩
theorem TW (s:Int):PS s (λk' n' xs'=>EU s k' n' xs' (EW s)) (λr__=>r__=(EW s)):=by
 unfold PS
 try unfold EU
 refine ⟨λh=>?_, λh=>⟨⟨by omega,by omega,of_decide_eq_true (by kernel_rfl)⟩, λ_=>⟨rfl,by omega,by omega,rfl, λj hj=>absurd hj (kX j),?_⟩⟩⟩
 ·simp only [EW,h,cond_true]
 ·simp only [EW,h,cond_false]
theorem TY (s k:Int) (n:Nat) (xs:LI) {r_:LI} (hI:EU s k n xs r_):O1 s k n xs (λk' n' xs'=>EU s k' n' xs' r_∧lx ((9-k').toNat,0,0) ((9-k).toNat,0,0)) (λr__=>r__=r_):=by
 unfold EU at hI
 unfold O1
 try unfold EU
 obtain ⟨hn0,h0,h1,h2,h3,h4⟩:=hI
 refine ⟨λh=>?_, λh=>?_⟩
 ·simp only [decide_eq_true_eq] at h
  rw [Gq (by omega)]
  refine ⟨⟨h0,by omega⟩, λ_=>⟨⟨hn0,by omega,by omega,by simp [h2], λj hj=>?_,h4⟩,Cb⟩⟩
  rw [AiN _ _ _ _ (by omega)]
  by_cases hjk:j=k.toNat
  ·rw [if_pos hjk];congr 1;omega
  ·rw [if_neg hjk];exact h3 j (by omega)
 ·simp only [decide_eq_false_iff_not] at h
  rw [h4]
  apply VG (by simp [h2])
  intro j hj
  rw [Zp _ (by omega)]
  exact h3 j (by omega)
theorem Z7:EF 72 PR:=
 Kv Dg Np (I:=[1643000000011,1643000000010,1643000000003,1643000000000]) Try.func72 mix (B:=Bg Try.f72) (by kernel_rfl) rfl (by kernel_rfl) 400
  λp0 s hb hp=>⟨[JD p0 s], λj=>iN [AA (Hd.kd (JD p0 s)) (λk' n' xs'=>EU s k' n' xs' (EW s))] j (λ_=>False), λj=>iN [AA (Hd.kd (JD p0 s)) (λk' n' xs'=>((9-k').toNat,0,0))] j (λ_=>(0,0,0)),by kernel_rfl,⟨_, λ_ _ _=>by kernel_rfl,TW s⟩,⟨λk n xs hI=>⟨_, λ_ _ _=>by kernel_rfl,TY s k n xs hI⟩,trivial⟩⟩
def PT:Tb:=(72,PR)::Ri
theorem VI:CQ PT:=EO Z7 Np
def Ag (t p s:Int):Bool:=decide (t≥1)&&decide (t≤16)&&decide (p≥4)&&decide (p≤1024)&&decide (s≥10)&&decide (s≤20)
def Uy:Tb:=PT
theorem Z8:CQ Uy:=VI
def CZ (t p s:Int):Int:=bif !Ag t p s then 0 else 2^s.toNat
def Xt:Tb:=Uy
theorem Ab0:CQ Xt:=Z8
def IZ (k:Int):Int:=(bif k==0 then 32 else (bif k==1 then 21 else (bif k==2 then 16 else (bif k==3 then 10 else (bif k==4 then 8 else (bif k==5 then 5 else (bif k==6 then 4 else (bif k==7 then 3 else (bif k==8 then 2 else 0)))))))))
def Uz:Tb:=Xt
theorem Z9:CQ Uz:=Ab0
def Gx (s k:Int):Int:=(bif IZ k==0||CZ 1 4 s==0 then 0 else iL iB (iL iB (Int.tdiv (CZ 1 4 s) (IZ k))-Int.tmod (iL iB (Int.tdiv (CZ 1 4 s) (IZ k))) 16))
def Xu:Tb:=Uz
theorem Ab1:CQ Xu:=Z9
theorem Ags:∀i:Nat,i<11→∀k:Nat,k<9→Dh (10+(i:Int)) (k:Int)=Gx (10+(i:Int)) (k:Int)∧0<Gx (10+(i:Int)) (k:Int):=by decide+kernel
theorem Ado {s:Int}:(CZ 1 4 s==0)=decide (s<10∨20<s):=by
 by_cases h:s<10∨20<s
 ·have:Ag 1 4 s=false:=by
   simp only [Ag,Bool.and_eq_false_iff,decide_eq_false_iff_not];omega
  simp [CZ,this,h]
 ·have:Ag 1 4 s=true:=by
   simp only [Ag,iG,decide_eq_true_eq];omega
  have:=Adn s.toNat
  simp only [CZ, *,jW,cond_false,decide_false]
  simp;omega
theorem Md {k:Int}:(Ai k==0)=decide (k<0∨9≤k):=by
 by_cases h:k<0∨9≤k
 ·have:(decide (k<0)||decide (k≥9))=true:=by simpa using h
  simp [Ai,this,h]
 ·rcases (by omega:k=0∨k=1∨k=2∨k=3∨k=4∨k=5∨k=6∨k=7∨k=8) with rfl|rfl|rfl|rfl|rfl|rfl|rfl|rfl|rfl<;>decide
theorem Agt (k:Int):Ai k=IZ k:=by
 by_cases h:k<0∨9≤k
 ·have:(decide (k<0)||decide (k≥9))=true:=by simpa using h
  have e:∀n:Int,0≤n→n<9→(k==n)=false:= λn h0 h1=>by simp;omega
  simp [Ai,IZ,this,e]
 ·rcases (by omega:k=0∨k=1∨k=2∨k=3∨k=4∨k=5∨k=6∨k=7∨k=8) with rfl|rfl|rfl|rfl|rfl|rfl|rfl|rfl|rfl<;>decide
theorem Xv {s k:Int} (h:k<0∨9≤k∨s<10∨20<s):Dh s k=0∧Gx s k=0:=by
 have h1:(Ai k==0||decide (s<10)||decide (s>20))=true:=by
  rw [Md];simp only [lP,decide_eq_true_eq];omega
 have h2:(IZ k==0||CZ 1 4 s==0)=true:=by
  rw [←Agt,Md,Ado];simp only [lP,decide_eq_true_eq];omega
 exact ⟨by simp only [Dh,h1,cond_true],by simp only [Gx,h2,cond_true]⟩
theorem AjZ {s k:Int} (h:0≤k∧k<9∧10≤s∧s≤20):Dh s k=Gx s k∧0<Gx s k:=by
 have:=Ags (s-10).toNat (by omega) k.toNat (by omega)
 rwa [show (10+((s-10).toNat:Int))=s by omega,show ((k.toNat:Nat):Int)=k by omega] at this
theorem AaK (s k:Int):Dh s k=Gx s k:=by
 by_cases h:0≤k∧k<9∧10≤s∧s≤20
 ·exact (AjZ h).1
 ·obtain ⟨h1,h2⟩:=Xv (s:=s) (k:=k) (by omega);rw [h1,h2]
def Nq (s:Int):LI:=bif Gx s 0==0 then [] else (jX 9).map λ(k:Nat)=>Gx s k
def U0:Tb:=Xu
theorem ZA:CQ U0:=Ab1
def JE (l:LI) (z:Int):Option Nat:=l.findIdx? λn=>decide (n≥z)
theorem Adp {l:LI} {z:Int} {i:Nat}:JE l z=some i↔i<l.length∧l.getD i 0≥z∧∀j,j<i→¬(l.getD j 0≥z):=by
 have e:∀j (h:j<l.length),l.getD j 0=l[j]:= λj h=>by rw [iD,iO h];rfl
 unfold JE
 rw [List.findIdx?_eq_some_iff_getElem]
 constructor
 ·rintro ⟨h,h1,h2⟩
  refine ⟨h,by rw [e _ h];simpa using h1, λj hj=>?_⟩
  rw [e _ (by omega)];simpa using h2 j hj
 ·rintro ⟨h,h1,h2⟩
  refine ⟨h,by rw [e _ h] at h1;simpa using h1, λj hj=>?_⟩
  have:=h2 j hj
  rw [e _ (by omega)] at this;simpa using this
theorem Adq {l:LI} {z:Int}:JE l z=none↔∀j,j<l.length→¬(l.getD j 0≥z):=by
 have e:∀j (h:j<l.length),l.getD j 0=l[j]:= λj h=>by rw [iD,iO h];rfl
 unfold JE
 rw [nM]
 constructor
 ·intro h j hj
  have:=h _ (lR hj)
  rw [e _ hj];simpa using this
 ·intro h x hx
  obtain ⟨j,hj,rfl⟩:=List.getElem_of_mem hx
  have:=h j hj
  rw [e _ hj] at this;simpa using this
def Aj2:Option Nat→Int×Bool
 |some k=>((k:Int),true)
 |none=>(0,false)
def Xw (s z:Int):Int×Bool:=bif decide (z<1) then (0,false) else Aj2 (JE (Nq s) z)
def Adr:Tb:=U0
theorem U1:CQ Adr:=ZA
end
section
open Go.Sl
def Fb (n z:Int):Bool:=decide (n≥z)
def PU (r_:Bool):List Value→Value:= λss=> .bool (r_)
def Rj (r_:Bool):List (Chunk Sg):=[]
def O3 (r_:Bool):List (Mk Sg):=[]
section
variable (n z:Int) (b_0:Nat)
theorem Xx {E_:Ev} {G_:Hp} {w_:World} (hr0:G_ b_0=some (.cells ([.int .i64 z]:List Value).toArray 2 (0,0))) (hS:Sat E_ G_ w_ []):Calls Try.prog 73 #[(.int .i64 n),(.pointer (some ⟨b_0,0,none⟩))] w_ (Post Dg E_ G_ (PU (Fb n z)) (Rj (Fb n z)) (O3 (Fb n z))):=
 DJ Dg U1 (I:=[]) Try.func73 mix (B:=Bg Try.f73) (by kernel_rfl) [(.int .i64 n),(.pointer (some ⟨b_0,0,none⟩))] [.no, .pt 0 (.cell 0)] (by kernel_rfl) (objs:=[]) (ros:=[.roc b_0 2 [.int .i64 z]]) (Dj Ar (Dj (AcR rfl rfl) (Em))) (by kernel_rfl) (⟨hr0,trivial⟩) hS 400
  (t:=Tree.ret (oE (decide (n≥z))) Aj [Chunk.roc b_0 2 [Ah z]])
  (by kernel_rfl)
  (CO.at (outf:=PU) (nwf:=Rj) (rowsf:=O3) (r:=decide (n≥z)) (by first|exact Eq.symm rfl|(simp only [Fb,cond_true,cond_false];done)|(exfalso;simp_all;done)|decide) ⟨[],[],(by decide),rfl,rfl,trivial⟩)
end
def NL:Entry Sg:= λ
 |[(.int .i64 n,_),(_, .cells 2 [.int .i64 z])]=>some ⟨(Fb n z), λ(r_:Bool)=>⟨[],none,[], λss=> .bool (r_), λk_=> .no⟩⟩
 |_=>none
theorem Ads:Ep Dg Try.prog 73 NL:=by
 intro args c r h hr_
 unfold NL at h
 split at h
 ·injection h with h;subst h;subst hr_
  refine ⟨λK acs _=>Ar, λhpre E G w hi hS=>?_⟩
  have hi_0:=hi _ (iU (i:=1) rfl)
  simp only [Ei] at hi_0
  obtain ⟨b_0,e_0,hr0⟩:=hi_0
  subst e_0
  exact Ha Dg (by exact rfl) (Xx _ _ _ hr0 hS)
 ·cases h
def U2:List (Nat×Entry Sg):=(73,NL)::Adr
theorem JF:BD Dg Try.prog U2:=BD.cons Dg Ads U1
def Jr:Option Nat→Int
 |some k=>(k:Int)
 |none=> -1
def Xy:List Nat:=[103000000008,103000000007,103000000000,103000000001]
def FK (xs:LI) (z:Int):Int:=Jr (JE xs z)
def Ew (r_:Int):List Value→Value:= λss=> .int .i64 (r_)
def EL (r_:Int):List (Chunk Sg):=[]
def DW (r_:Int):List (Mk Sg):=[]
section
variable (xs:LI) (z:Int) (a_0:Option Addr) (c_0 b_1:Nat)
abbrev Hf:Type:=Int→Prop
abbrev Ll (xs:LI) (z:Int) (a_0:Option Addr) (c_0 b_1:Nat) (i:Int):List Af:=[⟨8,none, .int .i64 i, .no⟩,⟨7,none, .int .i64 xs.length, .no⟩,⟨0,none, .slice a_0 xs.length c_0, .pt 0 .slice⟩,⟨1,none, .func (.func 73) #[] #[.pointer (some ⟨b_1,0,none⟩)], .many [.pt 1 (.cell 0)]⟩]
abbrev Lm (xs:LI) (z:Int) (a_0:Option Addr) (c_0 b_1:Nat) (i:Int):List (Chunk Sg):=[.ro a_0 xs.length c_0 [.ints .i64 xs], .roc b_1 2 [.int .i64 z]]
abbrev Nr (E_:Ev) (G_:Hp) (xs:LI) (z:Int) (a_0:Option Addr) (c_0 b_1:Nat) (r_:Int) (Q1:Hf):Prop:=(∀(i:Int),Q1 i→Sl.SW Dg Try.prog (71:FuncId) (Post Dg E_ G_ (Ew r_) (EL r_) (DW r_)) (Bg Try.f71) Try.f71.ntmps E_ G_ (.code (0::[0,1,0,1]):: .again [0,1,0,1]::[.blk 0, .code [1,1]]) (Ll xs z a_0 c_0 b_1 i) (Lm xs z a_0 c_0 b_1 i))
abbrev JS (xs:LI) (z:Int) (a_0:Option Addr) (c_0 b_1:Nat) (Q1:Hf) (R_:Int→Prop):Prop:=(Q1 ((0:Int)))
abbrev Xz (xs:LI) (z:Int) (a_0:Option Addr) (c_0 b_1:Nat):Tree Sg:=Tree.stuck [Ab.code [0,1,0,1],Ab.blk 0,Ab.code [1,1]] [FY 8 (Ah (0:Int)) Aj,FY 7 (Ah (↑(iV xs):Int)) Aj,FY 0 (kS a_0 (iV xs) c_0) (ps_ 0),FY 1 (lS (Fn.func 73) {toList:=[]} {toList:=[vp_ b_1]}) (Pr.many [pc_ 1 0])] [Chunk.ro a_0 (iV xs) c_0 [ci_ xs],Chunk.roc b_1 2 [Ah z]]
theorem AeL {E_:Ev} {G_:Hp} {r_:Int} {Q1:Hf} (hQ:Nr E_ G_ xs z a_0 c_0 b_1 r_ Q1) (h:JS xs z a_0 c_0 b_1 Q1 (λx=>x=r_)):(Xz xs z a_0 c_0 b_1).holds (CO (Ew r_) (EL r_) (DW r_)) (Sl.SW Dg Try.prog (71:FuncId) (Post Dg E_ G_ (Ew r_) (EL r_) (DW r_)) (Bg Try.f71) Try.f71.ntmps E_ G_):=
 Sl.SW.move Dg [8,7,0,1] [0,1] (by decide) (by kernel_rfl) (by kernel_rfl) (Sl.SW.enter Dg (by kernel_rfl) (hQ ((0:Int)) h))
abbrev JU (xs:LI) (z:Int) (a_0:Option Addr) (c_0 b_1:Nat) (i:Int) (Q1:Hf) (R_:Int→Prop):Prop:=(((decide (i<(↑(iV xs):Int)))=true→(((0:Int)≤i∧i<(↑(iV xs):Int))∧(((0:Int)≤i∧i<(↑(iV xs):Int))→(((Fb (iN xs (jD i) (0:Int)) z)=true→(R_ (i)))∧((Fb (iN xs (jD i) (0:Int)) z)=false→(Q1 (iL iB (i+(1:Int)))))))))∧((decide (i<(↑(iV xs):Int)))=false→(R_ ((-1:Int)))))
abbrev X0 (xs:LI) (z:Int) (a_0:Option Addr) (c_0 b_1:Nat) (i:Int):Tree Sg:=Tree.br (decide (i<(↑(iV xs):Int))) (Tree.need ((0:Int)≤i∧i<(↑(iV xs):Int)) (Tree.br (Fb (iN xs (jD i) (0:Int)) z) (Tree.ret (Ah i) Aj [Chunk.ro a_0 (iV xs) c_0 [ci_ xs],Chunk.roc b_1 2 [Ah z]]) (Tree.stuck [Ab.again [0,1,0,1],Ab.blk 0,Ab.code [1,1]] [FY 8 (Ah (iL iB (i+(1:Int)))) Aj,FY 18 (Ah (iL iB (i+(1:Int)))) Aj,FY 16 (oE (Fb (iN xs (jD i) (0:Int)) z)) Aj,FY 15 (Ah (iN xs (jD i) (0:Int))) Aj,FY 14 (kB (mB (λa=>Addr.add a (jD i*1)) a_0)) (kZ 0 (PK.elem (jD i) 0)),FY 13 (Ah i) Aj,FY 12 (kS a_0 (iV xs) c_0) (ps_ 0),FY 11 (lS (Fn.func 73) {toList:=[]} {toList:=[vp_ b_1]}) (Pr.many [pc_ 1 0]),FY 5 (Ah i) Aj,FY 10 (Ah i) Aj,FY 9 (oE (decide (i<(↑(iV xs):Int)))) Aj,FY 7 (Ah (↑(iV xs):Int)) Aj,FY 0 (kS a_0 (iV xs) c_0) (ps_ 0),FY 1 (lS (Fn.func 73) {toList:=[]} {toList:=[vp_ b_1]}) (Pr.many [pc_ 1 0])] [Chunk.ro a_0 (iV xs) c_0 [ci_ xs],Chunk.roc b_1 2 [Ah z]]))) (Tree.ret (Ah (-1:Int)) Aj [Chunk.ro a_0 (iV xs) c_0 [ci_ xs],Chunk.roc b_1 2 [Ah z]])
theorem AeM {E_:Ev} {G_:Hp} (i:Int) {r_:Int} {Q1:Hf} (hQ:Nr E_ G_ xs z a_0 c_0 b_1 r_ Q1) (h:JU xs z a_0 c_0 b_1 i Q1 (λx=>x=r_)):(X0 xs z a_0 c_0 b_1 i).holds (CO (Ew r_) (EL r_) (DW r_)) (Sl.SW Dg Try.prog (71:FuncId) (Post Dg E_ G_ (Ew r_) (EL r_) (DW r_)) (Bg Try.f71) Try.f71.ntmps E_ G_):=
 ⟨λz0=>⟨(h.1 z0).1, λz1=>⟨λz2=>CO.at (outf:=Ew) (nwf:=EL) (rowsf:=DW) (r:=i) (((h.1 z0).2 z1).1 z2) ⟨[],[],(by decide),rfl,rfl,trivial⟩, λz2=>Sl.SW.move Dg [8,7,0,1] [0,1] (by decide) (by kernel_rfl) (by kernel_rfl) (Sl.SW.again Dg (hQ (iL iB (i+(1:Int))) (((h.1 z0).2 z1).2 z2)))⟩⟩, λz0=>CO.at (outf:=Ew) (nwf:=EL) (rowsf:=DW) (r:=(-1:Int)) (h.2 z0) ⟨[],[],(by decide),rfl,rfl,trivial⟩⟩
theorem AeN {E_:Ev} {G_:Hp} (i:Int) {r_:Int} {Q1:Hf} (hQ:Nr E_ G_ xs z a_0 c_0 b_1 r_ Q1) (h:JU xs z a_0 c_0 b_1 i Q1 (λx=>x=r_)):Sl.SW Dg Try.prog (71:FuncId) (Post Dg E_ G_ (Ew r_) (EL r_) (DW r_)) (Bg Try.f71) Try.f71.ntmps E_ G_ (.code (0::[0,1,0,1]):: .again [0,1,0,1]::[.blk 0, .code [1,1]]) (Ll xs z a_0 c_0 b_1 i) (Lm xs z a_0 c_0 b_1 i):=
 Sl.SW.go Dg JF (I:=Xy) Try.func71 mix 400 (t:=X0 xs z a_0 c_0 b_1 i) (by kernel_rfl) (AeM xs z a_0 c_0 b_1 i hQ h)
theorem Ab2 {E_:Ev} {G_:Hp} {w_:World} (hr0:Dl G_ a_0 xs.length [.ints .i64 xs]∧xs.length≤c_0) (hr1:G_ b_1=some (.cells ([.int .i64 z]:List Value).toArray 2 (0,0))) {r_:Int} {Q1:Hf} (hQ:Nr E_ G_ xs z a_0 c_0 b_1 r_ Q1) (hS:Sat E_ G_ w_ []) (h:JS xs z a_0 c_0 b_1 Q1 (λx=>x=r_)):Calls Try.prog 71 #[(.slice a_0 xs.length c_0),(.func (.func 73) #[] #[.pointer (some ⟨b_1,0,none⟩)])] w_ (Post Dg E_ G_ (Ew r_) (EL r_) (DW r_)):=
 DJ Dg JF (I:=Xy) Try.func71 mix (B:=Bg Try.f71) (by kernel_rfl) [(.slice a_0 xs.length c_0),(.func (.func 73) #[] #[.pointer (some ⟨b_1,0,none⟩)])] [.pt 0 .slice, .many [.pt 1 (.cell 0)]] (by kernel_rfl) (objs:=[]) (ros:=[.ro a_0 xs.length c_0 [.ints .i64 xs], .roc b_1 2 [.int .i64 z]]) (Dj (AcR rfl rfl) (Dj (AiF (Dj (AcR rfl rfl) (Em))) (Em))) (by kernel_rfl) (⟨hr0,hr1,trivial⟩) hS 400
  (t:=Xz xs z a_0 c_0 b_1)
  (by kernel_rfl)
  (AeL xs z a_0 c_0 b_1 hQ h)
def GM (xs:LI) (z:Int) (a_0:Option Addr) (c_0 b_1:Nat) (i r_:Int):Prop:=0≤i∧i≤xs.length∧(∀j:Nat,j<i.toNat→¬(xs.getD j 0≥z))∧r_=FK xs z∧xs.length≤9223372036854775807
theorem Adt (i:Int) {r_:Int} (hI:GM xs z a_0 c_0 b_1 i r_):JU xs z a_0 c_0 b_1 i (λi'=>GM xs z a_0 c_0 b_1 i' r_∧((xs.length-i').toNat)<((xs.length-i).toNat)) (λx=>x=r_):=by
 unfold GM at hI
 unfold JU GM
 obtain ⟨h0,h1,h2,h3,hl⟩:=hI
 refine ⟨λh=>?_, λh=>?_⟩
 ·simp only [decide_eq_true_eq] at h
  refine ⟨by omega, λ_=>⟨λhg=>?_, λhg=>?_⟩⟩
  ·simp only [Fb,decide_eq_true_eq] at hg
   have:=Adp.2 ⟨by omega,hg,h2⟩
   show i=r_
   simp only [h3,FK,this,Jr]
   omega
  ·simp only [Fb,decide_eq_false_iff_not] at hg
   rw [Gq (by omega)]
   refine ⟨⟨by omega,by omega, λj hj=>?_,h3,hl⟩,by omega⟩
   by_cases hk:j=i.toNat
   ·subst hk;exact hg
   ·exact h2 j (by omega)
 ·simp only [decide_eq_false_iff_not] at h
  show (-1:Int)=r_
  have:=Adq (l:=xs) (z:=z) |>.2 λj hj=>h2 j (by omega)
  simp only [h3,FK,this,Jr]
theorem Adu {E_:Ev} {G_:Hp} {r_:Int}:∀s_:Int,GM xs z a_0 c_0 b_1 s_ r_→Sl.SW Dg Try.prog (71:FuncId) (Post Dg E_ G_ (Ew r_) (EL r_) (DW r_)) (Bg Try.f71) Try.f71.ntmps E_ G_ (.code (0::[0,1,0,1]):: .again [0,1,0,1]::[.blk 0, .code [1,1]]) (Ll xs z a_0 c_0 b_1 s_) (Lm xs z a_0 c_0 b_1 s_):=
 Sl.SW.loop Dg (α:=Int) (λs_=>Ll xs z a_0 c_0 b_1 s_) (λs_=>Lm xs z a_0 c_0 b_1 s_) (λs_=>(xs.length-s_).toNat) (λs_=>GM xs z a_0 c_0 b_1 s_ r_) (λi hI ih=>AeN xs z a_0 c_0 b_1 i (λi' h=>ih i' h.1 h.2) (Adt xs z a_0 c_0 b_1 i hI))
theorem Ab3 (hl0:xs.length≤9223372036854775807):JS xs z a_0 c_0 b_1 (λi=>GM xs z a_0 c_0 b_1 i (FK xs z)) (λx=>x=(FK xs z)):=by
 unfold JS GM
 exact ⟨by omega,by omega, λj hj=>absurd hj (kX j),rfl,hl0⟩
theorem Ab4 {E_:Ev} {G_:Hp} {w_:World} (hr0:Dl G_ a_0 xs.length [.ints .i64 xs]∧xs.length≤c_0) (hr1:G_ b_1=some (.cells ([.int .i64 z]:List Value).toArray 2 (0,0))) (hS:Sat E_ G_ w_ []):Calls Try.prog 71 #[(.slice a_0 xs.length c_0),(.func (.func 73) #[] #[.pointer (some ⟨b_1,0,none⟩)])] w_ (Post Dg E_ G_ (Ew (FK xs z)) (EL (FK xs z)) (DW (FK xs z))):=
 Ab2 xs z a_0 c_0 b_1 hr0 hr1 (λi h=>Adu xs z a_0 c_0 b_1 i h) hS (Ab3 xs z a_0 c_0 b_1 hr0.1.bound)
end
def Rk:Entry Sg:= λ
 |[(_, .row n_0 [.ints .i64 xs]),(.func (.func 73) ⟨[]⟩ ⟨[_]⟩, .many [.cells 2 [.int .i64 z]])]=>some ⟨(FK xs z), λ(r_:Int)=>⟨[],none,[], λss=> .int .i64 (r_), λk_=> .no⟩⟩
 |_=>none
theorem Agu:Ep Dg Try.prog 71 Rk:=by
 intro args c r h hr_
 unfold Rk at h
 split at h
 ·injection h with h;subst h;subst hr_
  refine ⟨λK acs _=>Ar, λhpre E G w hi hS=>?_⟩
  have hi_0:=hi _ (iU (i:=0) rfl)
  simp only [Ei,Ej,and_true,true_and] at hi_0
  obtain ⟨a_0,c_0,e_0,hr0⟩:=hi_0
  replace hr0:=And.intro hr0.1 hr0.2.1
  have l_0:=hr0.1.len
  simp only [Ak.len] at l_0
  subst l_0
  subst e_0
  have hi_1:=hi _ (iU (i:=1) rfl)
  simp only [Ei,Ej] at hi_1
  obtain ⟨⟨b_1,e_1,hr1⟩,_⟩:=hi_1
  subst e_1
  exact Ha Dg (by exact rfl) (Ab4 _ _ _ _ _ hr0 hr1 hS)
 ·cases h
def AaL:List (Nat×Entry Sg):=(71,Rk)::U2
theorem Rl:BD Dg Try.prog AaL:=BD.cons Dg Agu JF
end
section
open Go.Sl
def JG (s z:Int):Int×Bool:=(bif decide (z<1) then (0,false) else (let r2:LI:=EW s;(if 0>FK r2 z then 0 else FK r2 z,decide (FK r2 z≥0))))
abbrev Agv:Ct Sg:=⟨none,false,[.i .i64, .i .i64], .tup [.i .i64, .b]⟩
def X3:Entry Sg:=CW Agv JG (λ_ _=>[])
theorem AeO:EF 42 X3:=
 Fv Dg Rl (I:=[]) Try.func42 mix (B:=Bg Try.f42) (by kernel_rfl) rfl (by kernel_rfl) 400
  λ_ s z hb hp=>⟨(JG s z), .t, λ_ _ _=>by kernel_rfl,trivial,rfl⟩
def X4:Tb:=(42,X3)::AaL
theorem PV:CQ X4:=EO AeO Rl
def JV (t p s:Int):LI×LI×LI:=([t,p,s],[1,4,10],[16,1024,20])
abbrev Ab5:Ct Sg:=⟨none,false,[.agg [.i .i64, .i .i64, .i .i64]], .new 101 [some .i64,some .i64,some .i64]⟩
def PW:Entry Sg:=CW Ab5 JV (λ_ _ _=>[])
theorem ZB:EF 79 PW:=
 Fv Dg PV (I:=[]) Try.func79 mix (B:=Bg Try.f79) (by kernel_rfl) rfl (by kernel_rfl) 400
  λ_ t p s hb hp=>⟨(JV t p s), .t, λ_ _ _=>by kernel_rfl,trivial,rfl⟩
def PX:Tb:=(79,PW)::X4
theorem Me:CQ PX:=EO ZB PV
def EG (n lo hi:Int):Bool:=decide (n<lo)||decide (n>hi)
abbrev Ab6:Ct Sg:=⟨none,false,[.agg [.i .i64, .i .i64, .i .i64]], .b⟩
def PY:Entry Sg:=CW Ab6 EG (λ_ _ _=>[])
theorem ZC:EF 80 PY:=
 Fv Dg Me (I:=[]) Try.func80 mix (B:=Bg Try.f80) (by kernel_rfl) rfl (by kernel_rfl) 400
  λ_ n lo hi hb hp=>⟨(EG n lo hi), .t, λ_ _ _=>by kernel_rfl,trivial,rfl⟩
def PZ:Tb:=(80,PY)::PX
theorem MB:CQ PZ:=EO ZC Me
def O4 (n:Nat) (p:Nat→Bool):Option Nat:=(jX n).find? p
theorem U3 {n i:Nat} {p:Nat→Bool}:O4 n p=some i↔p i=true∧i<n∧∀j,j<i→p j=false:=by
 unfold O4
 rw [List.find?_range_eq_some]
 simp
theorem U4 {n:Nat} {p:Nat→Bool}:O4 n p=none↔∀j,j<n→p j=false:=by
 unfold O4
 rw [List.find?_range_eq_none]
 simp
def Hg (xs ys zs:LI):Int:=Jr (O4 xs.length λj=>EG (xs.getD j 0) (ys.getD j 0) (zs.getD j 0))
abbrev Agw:Ct Sg:=⟨none,false,[.ro [some .i64,some .i64,some .i64], .fn 80], .i .i64⟩
def X5:Entry Sg:=CW Agw Hg (λ_ _ _=>[])
def X6 (xs ys zs:LI) (Q0:Int→Prop) (R_:Int→Prop):Prop:=(Q0 (0))
def U5 (xs ys zs:LI) (i:Int) (Q0:Int→Prop) (R_:Int→Prop):Prop:=(Bo (decide (i<(↑(iV xs):Int))) (A8 (0≤i∧i<(↑(iV xs):Int)) (Bo (EG (iN xs (jD i) 0) (iN ys (jD i) 0) (iN zs (jD i) 0)) (R_ (i)) (Q0 (iL iB (i+1))))) (R_ ((-1))))
def Gy (xs ys zs:LI) (i r_:Int):Prop:=0≤i∧i≤xs.length∧(∀j:Nat,j<i.toNat→EG (xs.getD j 0) (ys.getD j 0) (zs.getD j 0)=false)∧r_=Hg xs ys zs
abbrev NM (p0:Addr) (xs ys zs:LI):Hd Sg:=⟨none,[0,1,0,1],[.blk 0, .code [1,1]],[8,7,0,1],[.i .i64, .ic .i64 ((xs.length:Int)), .roc [.ints .i64 (xs), .ints .i64 (ys), .ints .i64 (zs)], .fn 80]⟩
theorem ZE (xs ys zs:LI) (hl0:xs.length≤9223372036854775807):X6 xs ys zs (λi'=>Gy xs ys zs i' (Hg xs ys zs)) (λr__=>r__=(Hg xs ys zs)):=by
 unfold X6
 try unfold Gy
 exact ⟨by omega,by omega, λj hj=>absurd hj (kX j),rfl⟩
theorem ZF (xs ys zs:LI) (hl0:xs.length≤9223372036854775807) (i:Int) {r_:Int} (hI:Gy xs ys zs i r_):U5 xs ys zs i (λi'=>Gy xs ys zs i' r_∧lx ((xs.length-i').toNat,0,0) ((xs.length-i).toNat,0,0)) (λr__=>r__=r_):=by
 unfold Gy at hI
 unfold U5
 try unfold Gy
 obtain ⟨h0,h1,h2,h3⟩:=hI
 refine ⟨λh=>?_, λh=>?_⟩
 ·simp only [decide_eq_true_eq] at h
  refine ⟨by omega, λ_=>⟨λhg=>?_, λhg=>?_⟩⟩
  ·have:=(U3 (n:=xs.length) (p:= λj=>EG (xs.getD j 0) (ys.getD j 0) (zs.getD j 0))).2 ⟨hg,by omega,h2⟩
   show i=r_
   simp only [h3,Hg,this,Jr]
   omega
  ·rw [Gq (by omega)]
   refine ⟨⟨by omega,by omega, λj hj=>?_,h3⟩,Cb⟩
   by_cases hk:j=i.toNat
   ·subst hk;exact hg
   ·exact h2 j (by omega)
 ·simp only [decide_eq_false_iff_not] at h
  show (-1:Int)=r_
  have:=(U4 (n:=xs.length) (p:= λj=>EG (xs.getD j 0) (ys.getD j 0) (zs.getD j 0))).2 λj hj=>h2 j (by omega)
  simp only [h3,Hg,this,Jr]
theorem AeP:EF 86 X5:=
 Kv Dg MB (I:=[103000000008,103000000007,103000000000,103000000001]) Try.func86 mix (B:=Bg Try.f86) (by kernel_rfl) rfl (by kernel_rfl) 400
  λp0 xs ys zs hb hp=>have hl0:xs.length≤9223372036854775807:=hb.1;⟨[NM p0 xs ys zs], λj=>iN [AA (Hd.kd (NM p0 xs ys zs)) (λi'=>Gy xs ys zs i' (Hg xs ys zs))] j (λ_=>False), λj=>iN [AA (Hd.kd (NM p0 xs ys zs)) (λi'=>((xs.length-i').toNat,0,0))] j (λ_=>(0,0,0)),by kernel_rfl,⟨_, λ_ _ _=>by kernel_rfl,ZE xs ys zs hl0⟩,⟨λi hI=>⟨_, λ_ _ _=>by kernel_rfl,ZF xs ys zs hl0 i hI⟩,trivial⟩⟩
def X7:Tb:=(86,X5)::PZ
theorem Qa:CQ X7:=EO AeP MB
def IJ (xs ys zs:LI):Bool:=decide (Hg xs ys zs≥0)
abbrev Ab7:Ct Sg:=⟨none,false,[.ro [some .i64,some .i64,some .i64], .fn 80], .b⟩
def Qb:Entry Sg:=CW Ab7 IJ (λ_ _ _=>[])
theorem ZG:EF 78 Qb:=
 Fv Dg Qa (I:=[]) Try.func78 mix (B:=Bg Try.f78) (by kernel_rfl) rfl (by kernel_rfl) 400
  λ_ xs ys zs hb hp=>have hl0:xs.length≤9223372036854775807:=hb.1;⟨(IJ xs ys zs), .t, λ_ _ _=>by kernel_rfl,trivial,rfl⟩
def Qc:Tb:=(78,Qb)::X7
theorem MC:CQ Qc:=EO ZG Qa
def D5 (t p s:Int):Int:=(let r1:LI×LI×LI:=JV t p s;(bif IJ r1.1 r1.2.1 r1.2.2 then 1 else 0))
abbrev Adv:Ct Sg:=⟨none,false,[.agg [.i .i64, .i .i64, .i .i64]], .i .i64⟩
def Rn:Entry Sg:=CW Adv D5 (λ_ _ _=>[])
theorem Ab8:EF 58 Rn:=
 Fv Dg MC (I:=[]) Try.func58 mix (B:=Bg Try.f58) (by kernel_rfl) rfl (by kernel_rfl) 400
  λ_ t p s hb hp=>⟨(D5 t p s), .t, λ_ _ _=>by kernel_rfl,trivial,rfl⟩
def Ro:Tb:=(58,Rn)::Qc
theorem Ns:CQ Ro:=EO Ab8 MC
theorem IR (t p s:Int):D5 t p s=bif Ag t p s then 0 else 1:=by
 have e:∀o:Option Nat,decide (Jr o≥0)=o.isSome:= λo=>by cases o<;>simp [Jr]
 have h:IJ [t,p,s] [1,4,10] [16,1024,20]=!Ag t p s:=by
  unfold IJ Hg
  rw [e]
  cases hf:O4 [t,p,s].length (λj=>EG ([t,p,s].getD j 0) ([1,4,10].getD j 0) ([16,1024,20].getD j 0)) with
  |none=>
   have hn:=U4.1 hf
   have h0:=hn 0 (by simp)
   have h1:=hn 1 (by simp)
   have h2:=hn 2 (by simp)
   simp [EG] at h0 h1 h2
   have:Ag t p s=true:=by simp only [Ag,iG,decide_eq_true_eq];omega
   rw [this];rfl
  |some j=>
   obtain ⟨h1,h2,_⟩:=U3.1 hf
   have:Ag t p s=false:=by
    apply Bool.eq_false_iff.2
    intro hr
    simp only [Ag,iG,decide_eq_true_eq] at hr
    have hj:j=0∨j=1∨j=2:=by simp at h2;omega
    rcases hj with rfl|rfl|rfl<;>simp [EG] at h1<;>omega
   rw [this];rfl
 unfold D5
 simp only [JV,h]
 cases Ag t p s<;>rfl
theorem Nu {t p s:Int}:Ag t p s=true↔(1≤t∧t≤16)∧(4≤p∧p≤1024)∧10≤s∧s≤20:=by
 simp only [Ag,iG,decide_eq_true_eq];omega
theorem Ah6 {t p s:Int} (h:(D5 t p s !=0)=false):0≤s:=by
 rw [IR] at h
 cases hr:Ag t p s with
 |true=>have:=Nu.1 hr;omega
 |false=>rw [hr] at h;simp at h
def EP (t p s:Int):Int:=(bif D5 t p s !=0 then 0 else iL iB ((1:Int)*2^min (jD s) 64))
abbrev AeQ:Ct Sg:=⟨none,false,[.agg [.i .i64, .i .i64, .i .i64]], .i .i64⟩
def U6:Entry Sg:=CW AeQ EP (λ_ _ _=>[])
theorem Adw:EF 44 U6:=
 Fv Dg Ns (I:=[]) Try.func44 mix (B:=Bg Try.f44) (by kernel_rfl) rfl (by kernel_rfl) 400
  λ_ t p s hb hp=>⟨(EP t p s),(.br (D5 t p s !=0) .t (.need (0≤s) .t)), λ_ _ _=>by kernel_rfl,⟨λz1=>trivial, λz1=>⟨(by exact Ah6 (by assumption)), λz2=>trivial⟩⟩,rfl⟩
def U7:Tb:=(44,U6)::Ro
theorem O5:CQ U7:=EO Adw Ns
theorem Ik (t p s:Int):EP t p s=CZ t p s:=by
 unfold EP CZ
 rw [IR]
 cases hr:Ag t p s with
 |false=>rfl
 |true=>
  have:=Nu.1 hr
  have h1:=Adn s.toNat
  have h2:=Zo (show s.toNat≤20 by omega)
  simp only [cond_true,jW,cond_false,bne_self_eq_false]
  rw [show min s.toNat 64=s.toNat by omega,Int.one_mul,Gq (by omega)]
theorem AaM {t p s:Int} (h:Ag t p s=false):CZ t p s=0:=by simp [CZ,h]
theorem Aka {t p s:Int} (h:Ag t p s=true):CZ t p s=2^s.toNat:=by simp [CZ,h]
theorem Ah7 {t p s:Int} (h:CZ t p s≠0):0≤s:=by
 cases hr:Ag t p s with
 |true=>have:=Nu.1 hr;omega
 |false=>exact absurd (AaM hr) h
def CS (t p s:Int):Int:=iL iB (EP t p s*p)
abbrev Adx:Ct Sg:=⟨none,false,[.agg [.i .i64, .i .i64, .i .i64]], .i .i64⟩
def Rq:Entry Sg:=CW Adx CS (λ_ _ _=>[])
theorem Ab9:EF 70 Rq:=
 Fv Dg O5 (I:=[]) Try.func70 mix (B:=Bg Try.f70) (by kernel_rfl) rfl (by kernel_rfl) 400
  λ_ t p s hb hp=>⟨(CS t p s), .t, λ_ _ _=>by kernel_rfl,trivial,rfl⟩
def Ru:Tb:=(70,Rq)::U7
theorem X8:CQ Ru:=EO Ab9 O5
def DF (t p s:Int):Int:=(bif !Ag t p s then 0 else iL iB (CZ t p s*p))
def U8:Tb:=Ru
theorem O6:CQ U8:=X8
theorem Agx {t p s z:Int} (h:(decide (z<1)||decide (z>CS t p s))=false):0≤s:=by
 simp only [lM,decide_eq_false_iff_not] at h
 apply Ah7 (t:=t) (p:=p)
 intro h0
 have:CS t p s=0:=by simp only [CS,Ik,h0,Int.zero_mul];rfl
 omega
def F8 (t p s z:Int):Int×Bool:=(bif decide (z<1)||decide (z>CS t p s) then (0,false) else (iL iB (Int.fdiv (iL iB (z-1)) (2^min (jD s) 64)+1),true))
abbrev Ady:Ct Sg:=⟨none,false,[.agg [.i .i64, .i .i64, .i .i64], .i .i64], .tup [.i .i64, .b]⟩
def Rw:Entry Sg:=CW Ady F8 (λ_ _ _ _=>[])
theorem AbA:EF 41 Rw:=
 Fv Dg O6 (I:=[]) Try.func41 mix (B:=Bg Try.f41) (by kernel_rfl) rfl (by kernel_rfl) 400
  λ_ t p s z hb hp=>⟨(F8 t p s z),(.br (decide (z<1)||decide (z>CS t p s)) .t (.need (0≤s) .t)), λ_ _ _=>by kernel_rfl,⟨λz1=>trivial, λz1=>⟨(by exact Agx (by assumption)), λz2=>trivial⟩⟩,rfl⟩
def Rx:Tb:=(41,Rw)::U8
theorem X9:CQ Rx:=EO AbA O6
def GN (t p s z:Int):Int×Bool:=(bif !Ag t p s||decide (z<1)||decide (z>DF t p s) then (0,false) else (bif decide (Int.tmod z (CZ t p s)>0) then (iL iB (iL iB (Int.tdiv z (CZ t p s))+1),true) else (iL iB (Int.tdiv z (CZ t p s)),true)))
def U9:Tb:=Rx
theorem O7:CQ U9:=X9
end
section
open Go.Sl
def FQ (k a b:Int):Bool:=(bif k==3 then (bif k==3 then true else (bif k==8 then (bif a !=0 then false else b==0) else (bif k==1 then (bif k==1 then b==0 else false) else (bif k==2 then (bif k==2 then b==0 else false) else (bif k==6 then (bif k==6 then b==0 else false) else (bif k==7 then (bif k==7 then b==0 else false) else (bif k==9 then b==0 else false))))))) else (bif k==4 then (bif k==4 then true else (bif k==8 then (bif a !=0 then false else b==0) else (bif k==1 then (bif k==1 then b==0 else false) else (bif k==2 then (bif k==2 then b==0 else false) else (bif k==6 then (bif k==6 then b==0 else false) else (bif k==7 then (bif k==7 then b==0 else false) else (bif k==9 then b==0 else false))))))) else (bif k==5 then true else (bif k==8 then (bif a !=0 then false else b==0) else (bif k==1 then (bif k==1 then b==0 else false) else (bif k==2 then (bif k==2 then b==0 else false) else (bif k==6 then (bif k==6 then b==0 else false) else (bif k==7 then (bif k==7 then b==0 else false) else (bif k==9 then b==0 else false)))))))))
abbrev Agy:Ct Sg:=⟨none,false,[.agg [.i .i64, .i .i64, .i .i64]], .b⟩
def XA:Entry Sg:=CW Agy FQ (λ_ _ _=>[])
theorem AeR:EF 27 XA:=
 Fv Dg O7 (I:=[]) Try.func27 mix (B:=Bg Try.f27) (by kernel_rfl) rfl (by kernel_rfl) 400
  λ_ k a b hb hp=>⟨(FQ k a b), .t, λ_ _ _=>by kernel_rfl,trivial,rfl⟩
def XB:Tb:=(27,XA)::U9
theorem AbB:CQ XB:=EO AeR O7
def JH (k:Int):Int:=(bif k==8 then 0 else (bif k==1 then (bif k==1 then 1 else (bif k==3 then (bif k==3 then 2 else (-1)) else (bif k==4 then (bif k==4 then 2 else (-1)) else (bif k==5 then 2 else (-1))))) else (bif k==2 then (bif k==2 then 1 else (bif k==3 then (bif k==3 then 2 else (-1)) else (bif k==4 then (bif k==4 then 2 else (-1)) else (bif k==5 then 2 else (-1))))) else (bif k==6 then (bif k==6 then 1 else (bif k==3 then (bif k==3 then 2 else (-1)) else (bif k==4 then (bif k==4 then 2 else (-1)) else (bif k==5 then 2 else (-1))))) else (bif k==7 then (bif k==7 then 1 else (bif k==3 then (bif k==3 then 2 else (-1)) else (bif k==4 then (bif k==4 then 2 else (-1)) else (bif k==5 then 2 else (-1))))) else (bif k==9 then 1 else (bif k==3 then (bif k==3 then 2 else (-1)) else (bif k==4 then (bif k==4 then 2 else (-1)) else (bif k==5 then 2 else (-1))))))))))
def XC:Tb:=XB
theorem AbC:CQ XC:=AbB
def GR (k a b:Int):Bool:=decide (JH k≥0)&&(decide (JH k≥1)||a==0)&&(decide (JH k≥2)||b==0)
def UA:Tb:=XC
theorem O8:CQ UA:=AbC
def Am (t p h z:Int):Int×Bool:=(bif !Prod.snd (F8 t p h z) then (0,false) else (bif mA (JG h z) then (Dh h (kR (JG h z)),true) else (iL iB (kR (F8 t p h z)*EP t p h),true)))
abbrev AbD:Ct Sg:=⟨none,false,[.agg [.i .i64, .i .i64, .i .i64], .i .i64], .tup [.i .i64, .b]⟩
def Qd:Entry Sg:=CW AbD Am (λ_ _ _ _=>[])
theorem ZH:EF 13 Qd:=
 Fv Dg O8 (I:=[]) Try.func13 mix (B:=Bg Try.f13) (by kernel_rfl) rfl (by kernel_rfl) 400
  λ_ t p h z hb hp=>⟨(Am t p h z), .t, λ_ _ _=>by kernel_rfl,trivial,rfl⟩
def Qe:Tb:=(13,Qd)::UA
theorem VJ:CQ Qe:=EO ZH O8
def DX (t p h z:Int):Int×Bool:=(bif !Ag t p h||decide (z<1)||decide (z>DF t p h) then (0,false) else (bif mA (Xw h z) then (Gx h (kR (Xw h z)),true) else (iL iB (kR (GN t p h z)*CZ t p h),true)))
def UB:Tb:=Qe
theorem O9:CQ UB:=VJ
def Bc (c e o x:Int):Bool:=e==c&&(o==0&&(x==0&&true))
abbrev Adz:Ct Sg:=⟨none,false,[.i .i64, .agg [.i .i64, .i .i64, .i .i64]], .b⟩
def Ry:Entry Sg:=CW Adz Bc (λ_ _ _ _=>[])
theorem AbE:EF 28 Ry:=
 Fv Dg O9 (I:=[]) Try.func28 mix (B:=Bg Try.f28) (by kernel_rfl) rfl (by kernel_rfl) 400
  λ_ c e o x hb hp=>⟨(Bc c e o x), .t, λ_ _ _=>by kernel_rfl,trivial,rfl⟩
def Rz:Tb:=(28,Ry)::UB
theorem Nv:CQ Rz:=EO AbE O9
def CX (a z a2 z2:Int):Bool:=decide (a<iL iB (a2+z2))&&decide (a2<iL iB (a+z))
abbrev Ad0:Ct Sg:=⟨none,false,[.agg [.i .i64, .i .i64], .agg [.i .i64, .i .i64]], .b⟩
def RD:Entry Sg:=CW Ad0 CX (λ_ _ _ _=>[])
theorem AbF:EF 62 RD:=
 Fv Dg Nv (I:=[]) Try.func62 mix (B:=Bg Try.f62) (by kernel_rfl) rfl (by kernel_rfl) 400
  λ_ a z a2 z2 hb hp=>⟨(CX a z a2 z2), .t, λ_ _ _=>by kernel_rfl,trivial,rfl⟩
def RF:Tb:=(62,RD)::Rz
theorem XD:CQ RF:=EO AbF Nv
def CG (c e o x:Int):Bool:=e==c&&o==0&&x==0
def XE:Tb:=RF
theorem AbG:CQ XE:=XD
def FB (e o x a b:Int):Bool:=e==0&&o==a&&x==b
def UC:Tb:=XE
theorem ZI:CQ UC:=AbG
def Gi (e o x n:Int):Bool:=e !=0||x==n
def AaN:Tb:=UC
theorem RG:CQ AaN:=ZI
end
section
open Go.Sl
def Ja (t p h a z:Int):Bool:=decide (z≥1)&&decide (a≥EP t p h)&&decide (z≤CS t p h)&&decide (a≤iL iB (iL iB (EP t p h+CS t p h)-z))
def VK (s:MS):Bool:=true
abbrev AkU:Ct Sg:=⟨some Cc,true,[], .b⟩
def Ah8:Entry Sg:=CW AkU (λ(s:MS)=>true) (λ_=>[])
def XF (s:MS) (t p h:Int) (l:List (Int×Int)) (x0 x1 x2 x3 x4 x5 x6 x7:Int) (R_:Bool→Prop) (O_:Int→Int→Int→List (Int×Int)→Int→Int→Int→Int→Int→Int→Int→Int→Bool→Prop):Prop:=(O_ (t) (p) (h) (l) (x0) (x1) (x2) (x3) (x4) (x5) (x6) (x7) (true))
theorem Agz (s:MS) (t p h:Int) (l:List (Int×Int)) (x0 x1 x2 x3 x4 x5 x6 x7:Int) (hx:BG ⟨t,p,h,l,x0,x1,x2,x3,x4,x5,x6,x7⟩ (s)):XF s t p h l x0 x1 x2 x3 x4 x5 x6 x7 (λr__=>r__=(VK s)) (λt_ p_ h_ l_ x0_ x1_ x2_ x3_ x4_ x5_ x6_ x7_ r_=>BG ⟨t_,p_,h_,l_,x0_,x1_,x2_,x3_,x4_,x5_,x6_,x7_⟩ (s)∧r_=(VK s)):=by
 have key:∀x:MS,BG x s→XF s x.t x.p x.h x.l x.r0 x.r1 x.r2 x.r3 x.r4 x.r5 x.r6 x.r7 (λr__=>r__=(VK s)) (λt_ p_ h_ l_ x0_ x1_ x2_ x3_ x4_ x5_ x6_ x7_ r_=>BG ⟨t_,p_,h_,l_,x0_,x1_,x2_,x3_,x4_,x5_,x6_,x7_⟩ (s)∧r_=(VK s)):=by
  intro x ho
  unfold XF
  cases (show x=s from ho)
  exact ⟨rfl,rfl⟩
 exact key ⟨t,p,h,l,x0,x1,x2,x3,x4,x5,x6,x7⟩ hx
theorem Akb:EF 26 Ah8:=
 GH Dg Fa true RG (I:=[]) Try.func26 mix (B:=Bg Try.f26) (by kernel_rfl) rfl (by kernel_rfl) 400
  λo s hb hp=>⟨s,s,(VK s),[],[], λj=>iN [] j (λ_=>False), λj=>iN [] j (λ_=>(0,0,0)),by kernel_rfl, λ_ _=>by kernel_rfl,by kernel_rfl, λt p h l x0 x1 x2 x3 x4 x5 x6 x7 hx=>⟨XF s t p h l x0 x1 x2 x3 x4 x5 x6 x7 (λr__=>r__=(VK s)) (λt_ p_ h_ l_ x0_ x1_ x2_ x3_ x4_ x5_ x6_ x7_ r_=>BG ⟨t_,p_,h_,l_,x0_,x1_,x2_,x3_,x4_,x5_,x6_,x7_⟩ (s)∧r_=(VK s)), λ_ _ _ _=>by kernel_rfl,Agz s t p h l x0 x1 x2 x3 x4 x5 x6 x7 hx⟩,trivial⟩
def Ah9:Tb:=(26,Ah8)::AaN
theorem AaO:CQ Ah9:=EO Akb RG
def IW (s:MS) (a z:Int):Bool:=Ja s.t s.p s.h a z
abbrev Ag0:Ct Sg:=⟨some Cc,true,[.agg [.i .i64, .i .i64]], .b⟩
def XG:Entry Sg:=CW Ag0 (λ(s:MS) (a:Int) (z:Int)=>Ja s.t s.p s.h a z) (λ_ _ _=>[])
def Lp (s:MS) (a z t p h:Int) (l:List (Int×Int)) (x0 x1 x2 x3 x4 x5 x6 x7:Int) (R_:Bool→Prop) (O_:Int→Int→Int→List (Int×Int)→Int→Int→Int→Int→Int→Int→Int→Int→Bool→Prop):Prop:=(O_ (t) (p) (h) (l) (x0) (x1) (x2) (x3) (x4) (x5) (x6) (x7) (decide (z≥1)&&decide (a≥EP t p h)&&decide (z≤CS t p h)&&decide (a≤iL iB (iL iB (EP t p h+CS t p h)-z))))
theorem ZJ (s:MS) (a z t p h:Int) (l:List (Int×Int)) (x0 x1 x2 x3 x4 x5 x6 x7:Int) (hx:BG ⟨t,p,h,l,x0,x1,x2,x3,x4,x5,x6,x7⟩ (s)):Lp s a z t p h l x0 x1 x2 x3 x4 x5 x6 x7 (λr__=>r__=(IW s a z)) (λt_ p_ h_ l_ x0_ x1_ x2_ x3_ x4_ x5_ x6_ x7_ r_=>BG ⟨t_,p_,h_,l_,x0_,x1_,x2_,x3_,x4_,x5_,x6_,x7_⟩ (s)∧r_=(IW s a z)):=by
 have key:∀x:MS,BG x s→Lp s a z x.t x.p x.h x.l x.r0 x.r1 x.r2 x.r3 x.r4 x.r5 x.r6 x.r7 (λr__=>r__=(IW s a z)) (λt_ p_ h_ l_ x0_ x1_ x2_ x3_ x4_ x5_ x6_ x7_ r_=>BG ⟨t_,p_,h_,l_,x0_,x1_,x2_,x3_,x4_,x5_,x6_,x7_⟩ (s)∧r_=(IW s a z)):=by
  intro x ho
  unfold Lp
  cases (show x=s from ho)
  exact ⟨rfl,rfl⟩
 exact key ⟨t,p,h,l,x0,x1,x2,x3,x4,x5,x6,x7⟩ hx
theorem AeS:EF 61 XG:=
 GH Dg Fa true AaO (I:=[]) Try.func61 mix (B:=Bg Try.f61) (by kernel_rfl) rfl (by kernel_rfl) 400
  λo s a z hb hp=>⟨s,s,(IW s a z),[],[], λj=>iN [] j (λ_=>False), λj=>iN [] j (λ_=>(0,0,0)),by kernel_rfl, λ_ _=>by kernel_rfl,by kernel_rfl, λt p h l x0 x1 x2 x3 x4 x5 x6 x7 hx=>⟨Lp s a z t p h l x0 x1 x2 x3 x4 x5 x6 x7 (λr__=>r__=(IW s a z)) (λt_ p_ h_ l_ x0_ x1_ x2_ x3_ x4_ x5_ x6_ x7_ r_=>BG ⟨t_,p_,h_,l_,x0_,x1_,x2_,x3_,x4_,x5_,x6_,x7_⟩ (s)∧r_=(IW s a z)), λ_ _ _ _=>by kernel_rfl,ZJ s a z t p h l x0 x1 x2 x3 x4 x5 x6 x7 hx⟩,trivial⟩
def XH:Tb:=(61,XG)::Ah9
theorem Qg:CQ XH:=EO AeS AaO
def GI (s:MS) (k a c e u v:Int):Bool:=e==0&&decide (u≥0)&&decide (u≤s.p)&&v==(s.l.length:Int)
abbrev AhA:Ct Sg:=⟨some Cc,true,[.agg [.i .i64, .i .i64, .i .i64], .agg [.i .i64, .i .i64, .i .i64]], .b⟩
def AaP:Entry Sg:=CW AhA (λ(s:MS) (k:Int) (a:Int) (c:Int) (e:Int) (u:Int) (v:Int)=>e==0&&decide (u≥0)&&decide (u≤s.p)&&v==(s.l.length:Int)) (λ_ _ _ _ _ _ _=>[])
def Nw (s:MS) (k a c e u v t p h:Int) (l:List (Int×Int)) (x0 x1 x2 x3 x4 x5 x6 x7:Int) (R_:Bool→Prop) (O_:Int→Int→Int→List (Int×Int)→Int→Int→Int→Int→Int→Int→Int→Int→Bool→Prop):Prop:=(Bo (e==0&&decide (u≥0)&&decide (u≤p)) (O_ (t) (p) (h) (l) (x0) (x1) (x2) (x3) (x4) (x5) (x6) (x7) (v==(↑(iV l):Int))) (O_ (t) (p) (h) (l) (x0) (x1) (x2) (x3) (x4) (x5) (x6) (x7) (false)))
theorem AbH (s:MS) (k a c e u v t p h:Int) (l:List (Int×Int)) (x0 x1 x2 x3 x4 x5 x6 x7:Int) (hx:BG ⟨t,p,h,l,x0,x1,x2,x3,x4,x5,x6,x7⟩ (s)):Nw s k a c e u v t p h l x0 x1 x2 x3 x4 x5 x6 x7 (λr__=>r__=(GI s k a c e u v)) (λt_ p_ h_ l_ x0_ x1_ x2_ x3_ x4_ x5_ x6_ x7_ r_=>BG ⟨t_,p_,h_,l_,x0_,x1_,x2_,x3_,x4_,x5_,x6_,x7_⟩ (s)∧r_=(GI s k a c e u v)):=by
 have key:∀x:MS,BG x s→Nw s k a c e u v x.t x.p x.h x.l x.r0 x.r1 x.r2 x.r3 x.r4 x.r5 x.r6 x.r7 (λr__=>r__=(GI s k a c e u v)) (λt_ p_ h_ l_ x0_ x1_ x2_ x3_ x4_ x5_ x6_ x7_ r_=>BG ⟨t_,p_,h_,l_,x0_,x1_,x2_,x3_,x4_,x5_,x6_,x7_⟩ (s)∧r_=(GI s k a c e u v)):=by
  intro x ho
  unfold Nw
  cases (show x=s from ho)
  refine ⟨λhc=>⟨rfl,?_⟩, λhc=>⟨rfl,?_⟩⟩
  ·unfold GI;rw [hc,oG]
  ·unfold GI;rw [hc,Bool.false_and]
 exact key ⟨t,p,h,l,x0,x1,x2,x3,x4,x5,x6,x7⟩ hx
theorem Ag1:EF 36 AaP:=
 GH Dg Fa true Qg (I:=[]) Try.func36 mix (B:=Bg Try.f36) (by kernel_rfl) rfl (by kernel_rfl) 400
  λo s k a c e u v hb hp=>⟨s,s,(GI s k a c e u v),[],[], λj=>iN [] j (λ_=>False), λj=>iN [] j (λ_=>(0,0,0)),by kernel_rfl, λ_ _=>by kernel_rfl,by kernel_rfl, λt p h l x0 x1 x2 x3 x4 x5 x6 x7 hx=>⟨Nw s k a c e u v t p h l x0 x1 x2 x3 x4 x5 x6 x7 (λr__=>r__=(GI s k a c e u v)) (λt_ p_ h_ l_ x0_ x1_ x2_ x3_ x4_ x5_ x6_ x7_ r_=>BG ⟨t_,p_,h_,l_,x0_,x1_,x2_,x3_,x4_,x5_,x6_,x7_⟩ (s)∧r_=(GI s k a c e u v)), λ_ _ _ _=>by kernel_rfl,AbH s k a c e u v t p h l x0 x1 x2 x3 x4 x5 x6 x7 hx⟩,trivial⟩
def AaQ:Tb:=(36,AaP)::XH
theorem RH:CQ AaQ:=EO Ag1 Qg
def Gj (s:MS) (k a c e u v:Int):Bool:=bif decide (a<0)||decide (a≥9) then Bc 7 e u v else e==0&&decide (u≥0)&&decide (u≤4)&&v==0
abbrev AhB:Ct Sg:=⟨some Cc,true,[.agg [.i .i64, .i .i64, .i .i64], .agg [.i .i64, .i .i64, .i .i64]], .b⟩
def AaR:Entry Sg:=CW AhB (λ(s:MS) (k:Int) (a:Int) (c:Int) (e:Int) (u:Int) (v:Int)=>bif decide (a<0)||decide (a≥9) then Bc 7 e u v else e==0&&decide (u≥0)&&decide (u≤4)&&v==0) (λ_ _ _ _ _ _ _=>[])
def Ny (s:MS) (k a c e u v t p h:Int) (l:List (Int×Int)) (x0 x1 x2 x3 x4 x5 x6 x7:Int) (R_:Bool→Prop) (O_:Int→Int→Int→List (Int×Int)→Int→Int→Int→Int→Int→Int→Int→Int→Bool→Prop):Prop:=(Bo (decide (a<0)||decide (a≥9)) (O_ (t) (p) (h) (l) (x0) (x1) (x2) (x3) (x4) (x5) (x6) (x7) (Bc 7 e u v)) (O_ (t) (p) (h) (l) (x0) (x1) (x2) (x3) (x4) (x5) (x6) (x7) (e==0&&decide (u≥0)&&decide (u≤4)&&v==0)))
theorem AbI (s:MS) (k a c e u v t p h:Int) (l:List (Int×Int)) (x0 x1 x2 x3 x4 x5 x6 x7:Int) (hx:BG ⟨t,p,h,l,x0,x1,x2,x3,x4,x5,x6,x7⟩ (s)):Ny s k a c e u v t p h l x0 x1 x2 x3 x4 x5 x6 x7 (λr__=>r__=(Gj s k a c e u v)) (λt_ p_ h_ l_ x0_ x1_ x2_ x3_ x4_ x5_ x6_ x7_ r_=>BG ⟨t_,p_,h_,l_,x0_,x1_,x2_,x3_,x4_,x5_,x6_,x7_⟩ (s)∧r_=(Gj s k a c e u v)):=by
 have key:∀x:MS,BG x s→Ny s k a c e u v x.t x.p x.h x.l x.r0 x.r1 x.r2 x.r3 x.r4 x.r5 x.r6 x.r7 (λr__=>r__=(Gj s k a c e u v)) (λt_ p_ h_ l_ x0_ x1_ x2_ x3_ x4_ x5_ x6_ x7_ r_=>BG ⟨t_,p_,h_,l_,x0_,x1_,x2_,x3_,x4_,x5_,x6_,x7_⟩ (s)∧r_=(Gj s k a c e u v)):=by
  intro x ho
  unfold Ny
  cases (show x=s from ho)
  refine ⟨λhc=>⟨rfl,?_⟩, λhc=>⟨rfl,?_⟩⟩
  ·unfold Gj;rw [hc,cond_true]
  ·unfold Gj;rw [hc,cond_false]
 exact key ⟨t,p,h,l,x0,x1,x2,x3,x4,x5,x6,x7⟩ hx
theorem Ag2:EF 37 AaR:=
 GH Dg Fa true RH (I:=[]) Try.func37 mix (B:=Bg Try.f37) (by kernel_rfl) rfl (by kernel_rfl) 400
  λo s k a c e u v hb hp=>⟨s,s,(Gj s k a c e u v),[],[], λj=>iN [] j (λ_=>False), λj=>iN [] j (λ_=>(0,0,0)),by kernel_rfl, λ_ _=>by kernel_rfl,by kernel_rfl, λt p h l x0 x1 x2 x3 x4 x5 x6 x7 hx=>⟨Ny s k a c e u v t p h l x0 x1 x2 x3 x4 x5 x6 x7 (λr__=>r__=(Gj s k a c e u v)) (λt_ p_ h_ l_ x0_ x1_ x2_ x3_ x4_ x5_ x6_ x7_ r_=>BG ⟨t_,p_,h_,l_,x0_,x1_,x2_,x3_,x4_,x5_,x6_,x7_⟩ (s)∧r_=(Gj s k a c e u v)), λ_ _ _ _=>by kernel_rfl,AbI s k a c e u v t p h l x0 x1 x2 x3 x4 x5 x6 x7 hx⟩,trivial⟩
def AaS:Tb:=(37,AaR)::AaQ
theorem RI:CQ AaS:=EO Ag2 RH
def Nz (l:List (Int×Int)) (a:Int):Option (Int×Int):=l.find? λx=>x.1==a
def atR (l:List (Int×Int)) (a:Int):Int×Int×Bool:=(((Nz l a).getD (0,0)).1,((Nz l a).getD (0,0)).2,(Nz l a).isSome)
abbrev BC (l:List (Int×Int)):Prop:=(l.map (·.1)).Nodup
def okB (x b u:Int×Int):Bool:=!(!(x.1==u.1&&(x.2==u.2&&true))&&CX x.1 x.2 b.1 b.2)
theorem Ad1 {r:List (Int×Int)} (h:NC r=false) (n:Nat):BX r n∈r:=by
 have hl:0<r.length:=by cases r with|nil=>cases h|cons _ _=>simp
 unfold BX
 rw [iD,iO (lX _ hl)]
 exact lR _
theorem Ad2 {r:List (Int×Int)} (h:NC r=false) (n:Nat):(Ff r n).length<r.length:=by
 have hl:0<r.length:=by cases r with|nil=>cases h|cons _ _=>simp
 unfold Ff
 rw [List.length_eraseIdx_of_lt (lX _ hl)];omega
theorem Ad3 {r:List (Int×Int)} (n:Nat) {x:Int×Int} (h:x∈Ff r n):x∈r:=(mF r _).subset h
theorem VL:∀{r:List (Int×Int)} {j:Nat},j<r.length→∀y,y∈r→y=r.getD j (0,0)∨y∈r.eraseIdx j
 |[],_,h,_,_=>by simp at h
 |x::r,0,_,y,hy=>by
  rcases iE.1 hy with rfl|hy
  ·exact .inl rfl
  ·exact .inr hy
 |x::r,j+1,h,y,hy=>by
  rcases iE.1 hy with rfl|hy
  ·exact .inr (by simp)
  ·rcases VL (by simpa using h) y hy with h|h
   ·exact .inl h
   ·exact .inr (List.mem_cons_of_mem _ h)
theorem AiO {r:List (Int×Int)} {n:Nat} {y:Int×Int} (hy:y∈r) (hne:y≠BX r n):y∈Ff r n:=by
 have hl:0<r.length:=List.length_pos_of_mem hy
 rcases VL (lX n hl) y hy with h|h
 ·exact absurd h hne
 ·exact h
theorem Akc {l:List (Int×Int)} {a:Int} (h:∀x∈l,x.1≠a):atR l a=(0,0,false):=by
 have:Nz l a=none:=by
  unfold Nz
  rw [List.find?_eq_none]
  intro x hx he
  exact h x hx (by simpa using he)
 unfold atR;rw [this];rfl
theorem Akd {l:List (Int×Int)} (hn:BC l) {x:Int×Int} (hx:x∈l):atR l x.1=(x.1,x.2,true):=by
 have:Nz l x.1=some x:=by
  unfold Nz
  induction l with
  |nil=>cases hx
  |cons y l ih=>
   simp only [BC,iC,lJ] at hn
   rw [List.find?_cons]
   cases he:y.1==x.1 with
   |true=>
    rcases iE.1 hx with rfl|hx
    ·rfl
    ·exact absurd (kG.2 ⟨x,hx,(by simpa using he:y.1=x.1).symm⟩) hn.1
   |false=>
    rcases iE.1 hx with rfl|hx
    ·simp at he
    ·exact ih hn.2 hx
 unfold atR;rw [this];rfl
theorem Ad4 {r:List (Int×Int)} (h:NC r=false) (n:Nat) (f:Int×Int→Bool):r.all f=(f (BX r n)&&(Ff r n).all f):=by
 have hl:0<r.length:=by cases r with|nil=>cases h|cons _ _=>simp
 rw [mJ]
 simp only [iG,jN]
 constructor
 ·exact λH=>⟨H _ (Ad1 h n), λx hx=>H x (Ad3 n hx)⟩
 ·rintro ⟨h1,h2⟩ x hx
  rcases VL (lX n hl) x hx with e|e
  ·rw [e];exact h1
  ·exact h2 x e
def Po (s:MS) (a:Int):Int×Int×Bool:=atR s.l a
abbrev AkV:Ct Sg:=⟨some Cc,true,[.i .i64], .tup [.agg [.i .i64, .i .i64], .b]⟩
def AhC:Entry Sg:=CW AkV (λ(s:MS) (a:Int)=>atR s.l a) (λs a=>[BC s.l])
def XI (s:MS) (a t p h:Int) (l:List (Int×Int)) (x0 x1 x2 x3 x4 x5 x6 x7:Int) (Q0:Int→Int→Int→List (Int×Int)→List (Int×Int)→List (Int×Int)→Int→Int→Int→Int→Int→Int→Int→Int→Prop) (R_:Int×Int×Bool→Prop) (O_:Int→Int→Int→List (Int×Int)→Int→Int→Int→Int→Int→Int→Int→Int→Int×Int×Bool→Prop):Prop:=(Q0 (t) (p) (h) (l) ([]) (l) (x0) (x1) (x2) (x3) (x4) (x5) (x6) (x7))
def Af6 (s:MS) (a t_ p_ h_:Int) (l:List (Int×Int)) (cu:List (Int×Int)) (re:List (Int×Int)) (r0_ r1_ r2_ r3_ r4_ r5_ r6_ r7_:Int) (Q0:Int→Int→Int→List (Int×Int)→List (Int×Int)→List (Int×Int)→Int→Int→Int→Int→Int→Int→Int→Int→Prop) (R_:Int×Int×Bool→Prop) (O_:Int→Int→Int→List (Int×Int)→Int→Int→Int→Int→Int→Int→Int→Int→Int×Int×Bool→Prop):Prop:=(Bo (NC re) (Bo (false) (A8 (OI cu=true) (Bo (kR (hdB cu)==a) (O_ (t_) (p_) (h_) (l) (r0_) (r1_) (r2_) (r3_) (r4_) (r5_) (r6_) (r7_) ((kR (hdB cu),mA (hdB cu),true))) (Q0 (t_) (p_) (h_) (l) (cu) (re) (r0_) (r1_) (r2_) (r3_) (r4_) (r5_) (r6_) (r7_)))) (O_ (t_) (p_) (h_) (l) (r0_) (r1_) (r2_) (r3_) (r4_) (r5_) (r6_) (r7_) ((0,0,false)))) (∀n1_:Nat,(Bo (true) (A8 (OI [BX re n1_]=true) (Bo (kR (hdB [BX re n1_])==a) (O_ (t_) (p_) (h_) (l) (r0_) (r1_) (r2_) (r3_) (r4_) (r5_) (r6_) (r7_) ((kR (hdB [BX re n1_]),mA (hdB [BX re n1_]),true))) (Q0 (t_) (p_) (h_) (l) ([BX re n1_]) (Ff re n1_) (r0_) (r1_) (r2_) (r3_) (r4_) (r5_) (r6_) (r7_)))) (O_ (t_) (p_) (h_) (l) (r0_) (r1_) (r2_) (r3_) (r4_) (r5_) (r6_) (r7_) ((0,0,false))))))
def Iz (s:MS) (a t_ p_ h_:Int) (l:List (Int×Int)) (cu:List (Int×Int)) (re:List (Int×Int)) (r0_ r1_ r2_ r3_ r4_ r5_ r6_ r7_:Int):Prop:=s=⟨t_,p_,h_,l,r0_,r1_,r2_,r3_,r4_,r5_,r6_,r7_⟩∧(∀x∈re,x∈l)∧(∀x∈l,x.1=a→x∈re)
theorem Ag3 (s:MS) (a t p h:Int) (l:List (Int×Int)) (x0 x1 x2 x3 x4 x5 x6 x7:Int) (hp0:BC s.l) (hx:BG ⟨t,p,h,l,x0,x1,x2,x3,x4,x5,x6,x7⟩ (s)):XI s a t p h l x0 x1 x2 x3 x4 x5 x6 x7 (λt_' p_' h_' l' cu' re' r0_' r1_' r2_' r3_' r4_' r5_' r6_' r7_'=>Iz s a t_' p_' h_' l' cu' re' r0_' r1_' r2_' r3_' r4_' r5_' r6_' r7_') (λr__=>r__=(Po s a)) (λt_ p_ h_ l_ x0_ x1_ x2_ x3_ x4_ x5_ x6_ x7_ r_=>BG ⟨t_,p_,h_,l_,x0_,x1_,x2_,x3_,x4_,x5_,x6_,x7_⟩ (s)∧r_=(Po s a)):=by
 have key:∀x:MS,BG x s→XI s a x.t x.p x.h x.l x.r0 x.r1 x.r2 x.r3 x.r4 x.r5 x.r6 x.r7 (λt_' p_' h_' l' cu' re' r0_' r1_' r2_' r3_' r4_' r5_' r6_' r7_'=>Iz s a t_' p_' h_' l' cu' re' r0_' r1_' r2_' r3_' r4_' r5_' r6_' r7_') (λr__=>r__=(Po s a)) (λt_ p_ h_ l_ x0_ x1_ x2_ x3_ x4_ x5_ x6_ x7_ r_=>BG ⟨t_,p_,h_,l_,x0_,x1_,x2_,x3_,x4_,x5_,x6_,x7_⟩ (s)∧r_=(Po s a)):=by
  intro x ho
  unfold XI
  try unfold Iz
  cases (show x=s from ho)
  exact ⟨rfl, λx hx=>hx, λx hx _=>hx⟩
 exact key ⟨t,p,h,l,x0,x1,x2,x3,x4,x5,x6,x7⟩ hx
theorem Ag4 (s:MS) (a:Int) (hp0:BC s.l) (t_ p_ h_:Int) (l:List (Int×Int)) (cu:List (Int×Int)) (re:List (Int×Int)) (r0_ r1_ r2_ r3_ r4_ r5_ r6_ r7_:Int) (hI:Iz s a t_ p_ h_ l cu re r0_ r1_ r2_ r3_ r4_ r5_ r6_ r7_):Af6 s a t_ p_ h_ l cu re r0_ r1_ r2_ r3_ r4_ r5_ r6_ r7_ (λt_' p_' h_' l' cu' re' r0_' r1_' r2_' r3_' r4_' r5_' r6_' r7_'=>Iz s a t_' p_' h_' l' cu' re' r0_' r1_' r2_' r3_' r4_' r5_' r6_' r7_'∧lx (re'.length,0,0) (re.length,0,0)) (λr__=>r__=(Po s a)) (λt_ p_ h_ l_ x0_ x1_ x2_ x3_ x4_ x5_ x6_ x7_ r_=>BG ⟨t_,p_,h_,l_,x0_,x1_,x2_,x3_,x4_,x5_,x6_,x7_⟩ (s)∧r_=(Po s a)):=by
 unfold Iz at hI
 unfold Af6
 try unfold Iz
 obtain ⟨rfl,h1,h2⟩:=hI
 refine ⟨λhn=>⟨λhx=>(by cases hx), λ_=>⟨rfl,?_⟩⟩, λhn n=>⟨λ_=>⟨rfl, λ_=>⟨λhx=>⟨rfl,?_⟩, λhx=>?_⟩⟩, λhx=>(by cases hx)⟩⟩
 ·refine (Akc λx hx he=>?_).symm
  have:=h2 x hx he
  cases re with
  |nil=>cases this
  |cons _ _=>cases hn
 ·have hx:((BX re n).1==a)=true:=hx
  have hx:(BX re n).1=a:=by simpa using hx
  subst hx
  exact (Akd hp0 (h1 _ (Ad1 hn n))).symm
 ·have hx:((BX re n).1==a)=false:=hx
  have hx:(BX re n).1≠a:=by simpa using hx
  have hlen:=Ad2 hn n
  exact ⟨⟨rfl, λx hm=>h1 x (Ad3 n hm), λx hm he=>AiO (h2 x hm he) λe=>hx (by rw [←e];exact he)⟩,Cb⟩
theorem Ake:EF 22 AhC:=
 GH Dg Fa true RI (I:=[103000000000,103000000001,103000000004,103000000011]) Try.func22 mix (B:=Bg Try.f22) (by kernel_rfl) rfl (by kernel_rfl) 400
  λo s a hb hp=>have hp0:BC s.l:=hp _ (.head _);⟨s,s,(Po s a),[⟨none,[0,1,0,1],[.blk 0, .code [1,1]],[0,1,4,11],[.boxc o PO.t PO.l, .ic .i64 (a), .box 55 [.ic .i64 (0), .ic .i64 (0)], .agi 1]⟩],[.run], λj=>iN [AA (Hd.kd (⟨none,[0,1,0,1],[.blk 0, .code [1,1]],[0,1,4,11],[.boxc o PO.t PO.l, .ic .i64 (a), .box 55 [.ic .i64 (0), .ic .i64 (0)], .agi 1]⟩:Hd Sg)) (λt_' p_' h_' l' cu' re' r0_' r1_' r2_' r3_' r4_' r5_' r6_' r7_'=>Iz s a t_' p_' h_' l' cu' re' r0_' r1_' r2_' r3_' r4_' r5_' r6_' r7_')] j (λ_=>False), λj=>iN [AA (Hd.kd (⟨none,[0,1,0,1],[.blk 0, .code [1,1]],[0,1,4,11],[.boxc o PO.t PO.l, .ic .i64 (a), .box 55 [.ic .i64 (0), .ic .i64 (0)], .agi 1]⟩:Hd Sg)) (λt_' p_' h_' l' cu' re' r0_' r1_' r2_' r3_' r4_' r5_' r6_' r7_'=>(re'.length,0,0))] j (λ_=>(0,0,0)),by kernel_rfl, λ_ _=>by kernel_rfl,by kernel_rfl, λt p h l x0 x1 x2 x3 x4 x5 x6 x7 hx=>⟨XI s a t p h l x0 x1 x2 x3 x4 x5 x6 x7 (λt_' p_' h_' l' cu' re' r0_' r1_' r2_' r3_' r4_' r5_' r6_' r7_'=>Iz s a t_' p_' h_' l' cu' re' r0_' r1_' r2_' r3_' r4_' r5_' r6_' r7_') (λr__=>r__=(Po s a)) (λt_ p_ h_ l_ x0_ x1_ x2_ x3_ x4_ x5_ x6_ x7_ r_=>BG ⟨t_,p_,h_,l_,x0_,x1_,x2_,x3_,x4_,x5_,x6_,x7_⟩ (s)∧r_=(Po s a)), λ_ _ _ _=>by kernel_rfl,Ag3 s a t p h l x0 x1 x2 x3 x4 x5 x6 x7 hp0 hx⟩,⟨λt_ p_ h_ l cu re r0_ r1_ r2_ r3_ r4_ r5_ r6_ r7_ hI=>⟨_, λ_ _ _=>by kernel_rfl,Ag4 s a hp0 t_ p_ h_ l cu re r0_ r1_ r2_ r3_ r4_ r5_ r6_ r7_ hI⟩,trivial⟩⟩
def AhD:Tb:=(22,AhC)::AaS
theorem AaT:CQ AhD:=EO Ake RI
def DL (s:MS) (a z a2 z2:Int):Bool:=Ja s.t s.p s.h a z&&s.l.all λx=>okB x (a,z) (a2,z2)
abbrev AiP:Ct Sg:=⟨some Cc,true,[.agg [.i .i64, .i .i64], .agg [.i .i64, .i .i64]], .b⟩
def Ad5:Entry Sg:=CW AiP (λ(s:MS) (a:Int) (z:Int) (a2:Int) (z2:Int)=>Ja s.t s.p s.h a z&&s.l.all λx=>okB x (a,z) (a2,z2)) (λ_ _ _ _ _=>[])
def Pq (s:MS) (a z a2 z2 t p h:Int) (l:List (Int×Int)) (x0 x1 x2 x3 x4 x5 x6 x7:Int) (Q0:Int→Int→Int→List (Int×Int)→List (Int×Int)→List (Int×Int)→Int→Int→Int→Int→Int→Int→Int→Int→Prop) (R_:Bool→Prop) (O_:Int→Int→Int→List (Int×Int)→Int→Int→Int→Int→Int→Int→Int→Int→Bool→Prop):Prop:=(Bo (!(decide (z≥1)&&decide (a≥EP t p h)&&decide (z≤CS t p h)&&decide (a≤iL iB (iL iB (EP t p h+CS t p h)-z)))) (O_ (t) (p) (h) (l) (x0) (x1) (x2) (x3) (x4) (x5) (x6) (x7) (false)) (Q0 (t) (p) (h) (l) ([]) (l) (x0) (x1) (x2) (x3) (x4) (x5) (x6) (x7)))
def AaU (s:MS) (a z a2 z2 t_ p_ h_:Int) (l:List (Int×Int)) (cu:List (Int×Int)) (re:List (Int×Int)) (r0_ r1_ r2_ r3_ r4_ r5_ r6_ r7_:Int) (Q0:Int→Int→Int→List (Int×Int)→List (Int×Int)→List (Int×Int)→Int→Int→Int→Int→Int→Int→Int→Int→Prop) (R_:Bool→Prop) (O_:Int→Int→Int→List (Int×Int)→Int→Int→Int→Int→Int→Int→Int→Int→Bool→Prop):Prop:=(Bo (NC re) (Bo (false) (A8 (OI cu=true) (Bo (!(kR (hdB cu)==a2&&(mA (hdB cu)==z2&&true))&&CX (kR (hdB cu)) (mA (hdB cu)) a z) (O_ (t_) (p_) (h_) (l) (r0_) (r1_) (r2_) (r3_) (r4_) (r5_) (r6_) (r7_) (false)) (Q0 (t_) (p_) (h_) (l) (cu) (re) (r0_) (r1_) (r2_) (r3_) (r4_) (r5_) (r6_) (r7_)))) (O_ (t_) (p_) (h_) (l) (r0_) (r1_) (r2_) (r3_) (r4_) (r5_) (r6_) (r7_) (true))) (∀n1_:Nat,(Bo (true) (A8 (OI [BX re n1_]=true) (Bo (!(kR (hdB [BX re n1_])==a2&&(mA (hdB [BX re n1_])==z2&&true))&&CX (kR (hdB [BX re n1_])) (mA (hdB [BX re n1_])) a z) (O_ (t_) (p_) (h_) (l) (r0_) (r1_) (r2_) (r3_) (r4_) (r5_) (r6_) (r7_) (false)) (Q0 (t_) (p_) (h_) (l) ([BX re n1_]) (Ff re n1_) (r0_) (r1_) (r2_) (r3_) (r4_) (r5_) (r6_) (r7_)))) (O_ (t_) (p_) (h_) (l) (r0_) (r1_) (r2_) (r3_) (r4_) (r5_) (r6_) (r7_) (true)))))
def Gs (s:MS) (a z a2 z2 t_ p_ h_:Int) (l:List (Int×Int)) (cu:List (Int×Int)) (re:List (Int×Int)) (r0_ r1_ r2_ r3_ r4_ r5_ r6_ r7_:Int):Prop:=s=⟨t_,p_,h_,l,r0_,r1_,r2_,r3_,r4_,r5_,r6_,r7_⟩∧Ja s.t s.p s.h a z=true∧s.l.all (λx=>okB x (a,z) (a2,z2))=re.all λx=>okB x (a,z) (a2,z2)
theorem Ad6 (s:MS) (a z a2 z2 t p h:Int) (l:List (Int×Int)) (x0 x1 x2 x3 x4 x5 x6 x7:Int) (hx:BG ⟨t,p,h,l,x0,x1,x2,x3,x4,x5,x6,x7⟩ (s)):Pq s a z a2 z2 t p h l x0 x1 x2 x3 x4 x5 x6 x7 (λt_' p_' h_' l' cu' re' r0_' r1_' r2_' r3_' r4_' r5_' r6_' r7_'=>Gs s a z a2 z2 t_' p_' h_' l' cu' re' r0_' r1_' r2_' r3_' r4_' r5_' r6_' r7_') (λr__=>r__=(DL s a z a2 z2)) (λt_ p_ h_ l_ x0_ x1_ x2_ x3_ x4_ x5_ x6_ x7_ r_=>BG ⟨t_,p_,h_,l_,x0_,x1_,x2_,x3_,x4_,x5_,x6_,x7_⟩ (s)∧r_=(DL s a z a2 z2)):=by
 have key:∀x:MS,BG x s→Pq s a z a2 z2 x.t x.p x.h x.l x.r0 x.r1 x.r2 x.r3 x.r4 x.r5 x.r6 x.r7 (λt_' p_' h_' l' cu' re' r0_' r1_' r2_' r3_' r4_' r5_' r6_' r7_'=>Gs s a z a2 z2 t_' p_' h_' l' cu' re' r0_' r1_' r2_' r3_' r4_' r5_' r6_' r7_') (λr__=>r__=(DL s a z a2 z2)) (λt_ p_ h_ l_ x0_ x1_ x2_ x3_ x4_ x5_ x6_ x7_ r_=>BG ⟨t_,p_,h_,l_,x0_,x1_,x2_,x3_,x4_,x5_,x6_,x7_⟩ (s)∧r_=(DL s a z a2 z2)):=by
  intro x ho
  unfold Pq
  try unfold Gs
  cases (show x=s from ho)
  refine ⟨λhc=>⟨rfl,?_⟩, λhc=>⟨rfl,?_,rfl⟩⟩
  ·have hc:Ja s.t s.p s.h a z=false:=(lC _).mp hc
   unfold DL
   rw [hc,Bool.false_and]
  ·exact (Bool.not_eq_false' _).mp hc
 exact key ⟨t,p,h,l,x0,x1,x2,x3,x4,x5,x6,x7⟩ hx
theorem Ad7 (s:MS) (a z a2 z2 t_ p_ h_:Int) (l:List (Int×Int)) (cu:List (Int×Int)) (re:List (Int×Int)) (r0_ r1_ r2_ r3_ r4_ r5_ r6_ r7_:Int) (hI:Gs s a z a2 z2 t_ p_ h_ l cu re r0_ r1_ r2_ r3_ r4_ r5_ r6_ r7_):AaU s a z a2 z2 t_ p_ h_ l cu re r0_ r1_ r2_ r3_ r4_ r5_ r6_ r7_ (λt_' p_' h_' l' cu' re' r0_' r1_' r2_' r3_' r4_' r5_' r6_' r7_'=>Gs s a z a2 z2 t_' p_' h_' l' cu' re' r0_' r1_' r2_' r3_' r4_' r5_' r6_' r7_'∧lx (re'.length,0,0) (re.length,0,0)) (λr__=>r__=(DL s a z a2 z2)) (λt_ p_ h_ l_ x0_ x1_ x2_ x3_ x4_ x5_ x6_ x7_ r_=>BG ⟨t_,p_,h_,l_,x0_,x1_,x2_,x3_,x4_,x5_,x6_,x7_⟩ (s)∧r_=(DL s a z a2 z2)):=by
 unfold Gs at hI
 unfold AaU
 try unfold Gs
 obtain ⟨rfl,h1,h2⟩:=hI
 refine ⟨λhn=>⟨λhx=>(by cases hx), λ_=>⟨rfl,?_⟩⟩, λhn n=>⟨λ_=>⟨rfl, λ_=>⟨λhx=>⟨rfl,?_⟩, λhx=>?_⟩⟩, λhx=>(by cases hx)⟩⟩
 ·have hr:re=[]:=by cases re with|nil=>rfl|cons _ _=>cases hn
  unfold DL
  dsimp only at h2 ⊢
  rw [h1,h2,hr];rfl
 ·have hx:okB (BX re n) (a,z) (a2,z2)=false:=by
   unfold okB;exact (Bool.not_eq_false' _).mpr hx
  unfold DL
  dsimp only at h2 ⊢
  rw [h1,h2,Ad4 hn n,hx];rfl
 ·have hx:okB (BX re n) (a,z) (a2,z2)=true:=by
   unfold okB;exact (lC _).mpr hx
  have hlen:=Ad2 hn n
  refine ⟨⟨rfl,h1,?_⟩,Cb⟩
  rw [h2,Ad4 hn n,hx,oG]
theorem AhE:EF 21 Ad5:=
 GH Dg Fa true AaT (I:=[61,411000000000,411000000004,411000000005,411000000016]) Try.func21 mix (B:=Bg Try.f21) (by kernel_rfl) rfl (by kernel_rfl) 400
  λo s a z a2 z2 hb hp=>⟨s,s,(DL s a z a2 z2),[⟨none,[0,1,0,1,1],[.blk 0, .code [1,1,1]],[0,4,5,16],[.boxc o PO.t PO.l, .box 55 [.ic .i64 (a), .ic .i64 (z)], .box 55 [.ic .i64 (a2), .ic .i64 (z2)], .agi 1]⟩],[.run], λj=>iN [AA (Hd.kd (⟨none,[0,1,0,1,1],[.blk 0, .code [1,1,1]],[0,4,5,16],[.boxc o PO.t PO.l, .box 55 [.ic .i64 (a), .ic .i64 (z)], .box 55 [.ic .i64 (a2), .ic .i64 (z2)], .agi 1]⟩:Hd Sg)) (λt_' p_' h_' l' cu' re' r0_' r1_' r2_' r3_' r4_' r5_' r6_' r7_'=>Gs s a z a2 z2 t_' p_' h_' l' cu' re' r0_' r1_' r2_' r3_' r4_' r5_' r6_' r7_')] j (λ_=>False), λj=>iN [AA (Hd.kd (⟨none,[0,1,0,1,1],[.blk 0, .code [1,1,1]],[0,4,5,16],[.boxc o PO.t PO.l, .box 55 [.ic .i64 (a), .ic .i64 (z)], .box 55 [.ic .i64 (a2), .ic .i64 (z2)], .agi 1]⟩:Hd Sg)) (λt_' p_' h_' l' cu' re' r0_' r1_' r2_' r3_' r4_' r5_' r6_' r7_'=>(re'.length,0,0))] j (λ_=>(0,0,0)),by kernel_rfl, λ_ _=>by kernel_rfl,by kernel_rfl, λt p h l x0 x1 x2 x3 x4 x5 x6 x7 hx=>⟨Pq s a z a2 z2 t p h l x0 x1 x2 x3 x4 x5 x6 x7 (λt_' p_' h_' l' cu' re' r0_' r1_' r2_' r3_' r4_' r5_' r6_' r7_'=>Gs s a z a2 z2 t_' p_' h_' l' cu' re' r0_' r1_' r2_' r3_' r4_' r5_' r6_' r7_') (λr__=>r__=(DL s a z a2 z2)) (λt_ p_ h_ l_ x0_ x1_ x2_ x3_ x4_ x5_ x6_ x7_ r_=>BG ⟨t_,p_,h_,l_,x0_,x1_,x2_,x3_,x4_,x5_,x6_,x7_⟩ (s)∧r_=(DL s a z a2 z2)), λ_ _ _ _=>by kernel_rfl,Ad6 s a z a2 z2 t p h l x0 x1 x2 x3 x4 x5 x6 x7 hx⟩,⟨λt_ p_ h_ l cu re r0_ r1_ r2_ r3_ r4_ r5_ r6_ r7_ hI=>⟨_, λ_ _ _=>by kernel_rfl,Ad7 s a z a2 z2 t_ p_ h_ l cu re r0_ r1_ r2_ r3_ r4_ r5_ r6_ r7_ hI⟩,trivial⟩⟩
def Ad8:Tb:=(21,Ad5)::AhD
theorem UD:CQ Ad8:=EO AhE AaT
end
section
open Go.Sl
theorem AhF {l:LI} {j:Nat} (h:j<l.length):l.getD j 0∈l:=by
 rw [iD,iO h];exact lR h
def Fh (ls zs:LI) (g:Int):Bool:=ls.contains g
abbrev AhG:Ct Sg:=⟨none,false,[.ro [some .i64,some .i64], .i .i64], .b⟩
def AaV:Entry Sg:=CW AhG Fh (λ_ _ _=>[])
def AaW (ls zs:LI) (g:Int) (Q0:Int→Prop) (R_:Bool→Prop):Prop:=(Q0 (0))
def XJ (ls zs:LI) (g i:Int) (Q0:Int→Prop) (R_:Bool→Prop):Prop:=(Bo (decide (i<(↑(iV ls):Int))) (A8 (0≤i∧i<(↑(iV ls):Int)) (Bo (iN ls (jD i) 0==g) (R_ (true)) (Q0 (iL iB (i+1))))) (R_ (false)))
def Hl (ls zs:LI) (g i:Int) (r_:Bool):Prop:=0≤i∧i≤ls.length∧(ls.take i.toNat).contains g=false∧ls.length≤9223372036854775807∧r_=ls.contains g
abbrev Pv (p0:Addr) (ls zs:LI) (g:Int):Hd Sg:=⟨none,[0,1,0,1],[.blk 0, .code [1,1]],[5,0,1],[.i .i64, .roc [.ints .i64 (ls), .ints .i64 (zs)], .ic .i64 (g)]⟩
theorem AbJ (ls zs:LI) (g:Int) (hl0:ls.length≤9223372036854775807):AaW ls zs g (λi'=>Hl ls zs g i' (Fh ls zs g)) (λr__=>r__=(Fh ls zs g)):=by
 unfold AaW
 try unfold Hl
 exact ⟨by omega,by omega,by simp,hl0,rfl⟩
theorem AbK (ls zs:LI) (g:Int) (hl0:ls.length≤9223372036854775807) (i:Int) {r_:Bool} (hI:Hl ls zs g i r_):XJ ls zs g i (λi'=>Hl ls zs g i' r_∧lx ((ls.length-i').toNat,0,0) ((ls.length-i).toNat,0,0)) (λr__=>r__=r_):=by
 unfold Hl at hI
 unfold XJ
 try unfold Hl
 obtain ⟨h0,h1,h2,h3,hr⟩:=hI
 refine ⟨λh=>?_, λh=>?_⟩
 ·simp only [decide_eq_true_eq] at h
  have hlt:i.toNat<ls.length:=by omega
  have ht:ls.take (i+1).toNat=ls.take i.toNat++[ls.getD i.toNat 0]:=by
   rw [show (i+1).toNat=i.toNat+1 by omega,List.take_add_one,iD,iO hlt];rfl
  rw [Gq (n:=i+1) (by omega)]
  refine ⟨⟨h0,h⟩, λ_=>⟨λhc=>?_, λhc=>?_⟩⟩
  ·have hm:=AhF hlt
   simp only [beq_iff_eq] at hc
   rw [hc] at hm
   show true=r_
   rw [hr]
   simpa using hm
  ·refine ⟨⟨by omega,by omega,?_,h3,hr⟩,Cb⟩
   rw [ht]
   generalize ls.getD i.toNat 0=q at hc
   simp only [beq_eq_false_iff_ne] at hc
   simp only [List.contains_eq_mem,lK,decide_eq_false_iff_not] at h2 ⊢
   intro hh
   rcases hh with hh|hh
   ·exact h2 hh
   ·exact hc (jM.1 hh).symm
 ·simp only [decide_eq_false_iff_not] at h
  rw [List.take_of_length_le (by omega)] at h2
  show false=r_
  rw [hr,h2]
theorem Ag5:EF 20 AaV:=
 Kv Dg UD (I:=[103000000005,103000000000,103000000001]) Try.func20 mix (B:=Bg Try.f20) (by kernel_rfl) rfl (by kernel_rfl) 400
  λp0 ls zs g hb hp=>have hl0:ls.length≤9223372036854775807:=hb.1;⟨[Pv p0 ls zs g], λj=>iN [AA (Hd.kd (Pv p0 ls zs g)) (λi'=>Hl ls zs g i' (Fh ls zs g))] j (λ_=>False), λj=>iN [AA (Hd.kd (Pv p0 ls zs g)) (λi'=>((ls.length-i').toNat,0,0))] j (λ_=>(0,0,0)),by kernel_rfl,⟨_, λ_ _ _=>by kernel_rfl,AbJ ls zs g hl0⟩,⟨λi hI=>⟨_, λ_ _ _=>by kernel_rfl,AbK ls zs g hl0 i hI⟩,trivial⟩⟩
def AaX:Tb:=(20,AaV)::Ad8
theorem RJ:CQ AaX:=EO Ag5 UD
def Gz (xa xz:LI) (u0 u1 u2 u3 u4 u5 u6 u7:Int) (ya yz:LI) (v0 v1 v2 v3 v4 v5 v6 v7:Int):Bool:=decide (xa=ya∧xz=yz)&&(u0==v0&&(u1==v1&&(u2==v2&&(u3==v3&&(u4==v4&&(u5==v5&&(u6==v6&&(u7==v7&&true))))))))
abbrev Ag6:Ct Sg:=⟨none,false,[.agg [.ro [some .i64,some .i64], .i .i64, .i .i64, .i .i64, .i .i64, .i .i64, .i .i64, .i .i64, .i .i64], .agg [.ro [some .i64,some .i64], .i .i64, .i .i64, .i .i64, .i .i64, .i .i64, .i .i64, .i .i64, .i .i64]], .b⟩
def XK:Entry Sg:=CW Ag6 Gz (λxa xz u0 u1 u2 u3 u4 u5 u6 u7 ya yz v0 v1 v2 v3 v4 v5 v6 v7=>[xa.length=xz.length,ya.length=yz.length])
def XL (xa xz:LI) (u0 u1 u2 u3 u4 u5 u6 u7:Int) (ya yz:LI) (v0 v1 v2 v3 v4 v5 v6 v7:Int) (Q0:Int→Prop) (R_:Bool→Prop):Prop:=(Bo ((↑(iV xa):Int) !=(↑(iV ya):Int)||!(u0==v0&&(u1==v1&&(u2==v2&&(u3==v3&&(u4==v4&&(u5==v5&&(u6==v6&&(u7==v7&&true))))))))) (R_ (false)) (Q0 (0)))
def UE (xa xz:LI) (u0 u1 u2 u3 u4 u5 u6 u7:Int) (ya yz:LI) (v0 v1 v2 v3 v4 v5 v6 v7 i:Int) (Q0:Int→Prop) (R_:Bool→Prop):Prop:=(Bo (decide (i<(↑(iV xa):Int))) (A8 (0≤i∧i<(↑(iV xa):Int)) (A8 (0≤i∧i<(↑(iV ya):Int)) (Bo (!(iN xa (jD i) 0==iN ya (jD i) 0&&(iN xz (jD i) 0==iN yz (jD i) 0&&true))) (R_ (false)) (Q0 (iL iB (i+1)))))) (R_ (true)))
def G5 (xa xz:LI) (u0 u1 u2 u3 u4 u5 u6 u7:Int) (ya yz:LI) (v0 v1 v2 v3 v4 v5 v6 v7 i:Int) (r_:Bool):Prop:=0≤i∧i≤xa.length∧xa.length=ya.length∧(∀j:Nat,j<i.toNat→xa.getD j 0=ya.getD j 0∧xz.getD j 0=yz.getD j 0)∧r_=decide (xa=ya∧xz=yz)
abbrev NP (p0:Addr) (xa xz:LI) (u0 u1 u2 u3 u4 u5 u6 u7:Int) (ya yz:LI) (v0 v1 v2 v3 v4 v5 v6 v7:Int):Hd Sg:=⟨none,[0,1,0,1,1],[.blk 0, .code [1,1,1]],[5,2,3],[.i .i64, .box 27 [.roc [.ints .i64 (xa), .ints .i64 (xz)], .ic .i64 (u0), .ic .i64 (u1), .ic .i64 (u2), .ic .i64 (u3), .ic .i64 (u4), .ic .i64 (u5), .ic .i64 (u6), .ic .i64 (u7)], .box 27 [.roc [.ints .i64 (ya), .ints .i64 (yz)], .ic .i64 (v0), .ic .i64 (v1), .ic .i64 (v2), .ic .i64 (v3), .ic .i64 (v4), .ic .i64 (v5), .ic .i64 (v6), .ic .i64 (v7)]]⟩
theorem ZK (xa xz:LI) (u0 u1 u2 u3 u4 u5 u6 u7:Int) (ya yz:LI) (v0 v1 v2 v3 v4 v5 v6 v7:Int) (hp0:xa.length=xz.length) (hp1:ya.length=yz.length) (hl0:xa.length≤9223372036854775807) (hl1:ya.length≤9223372036854775807):XL xa xz u0 u1 u2 u3 u4 u5 u6 u7 ya yz v0 v1 v2 v3 v4 v5 v6 v7 (λi'=>G5 xa xz u0 u1 u2 u3 u4 u5 u6 u7 ya yz v0 v1 v2 v3 v4 v5 v6 v7 i' (Gz xa xz u0 u1 u2 u3 u4 u5 u6 u7 ya yz v0 v1 v2 v3 v4 v5 v6 v7)) (λr__=>r__=(Gz xa xz u0 u1 u2 u3 u4 u5 u6 u7 ya yz v0 v1 v2 v3 v4 v5 v6 v7)):=by
 unfold XL
 try unfold G5
 refine ⟨λh=>?_, λh=>?_⟩
 ·show false=Gz xa xz u0 u1 u2 u3 u4 u5 u6 u7 ya yz v0 v1 v2 v3 v4 v5 v6 v7
  revert h
  unfold Gz
  generalize (u0==v0&&(u1==v1&&(u2==v2&&(u3==v3&&(u4==v4&&(u5==v5&&(u6==v6&&(u7==v7&&true))))))))=e
  intro h
  cases e with
  |false=>simp
  |true=>
   have hne:xa≠ya:= λe2=>by rw [e2] at h;simp at h
   simp [hne]
 ·have hh:xa.length=ya.length∧(u0==v0&&(u1==v1&&(u2==v2&&(u3==v3&&(u4==v4&&(u5==v5&&(u6==v6&&(u7==v7&&true))))))))=true:=by
   simp only [lM,Bool.not_eq_false',bne_eq_false_iff_eq] at h
   exact ⟨by have:=h.1;omega,h.2⟩
  refine ⟨by omega,by omega,hh.1, λj hj=>absurd hj (kX j),?_⟩
  unfold Gz
  rw [hh.2,Bool.and_true]
theorem ZL (xa xz:LI) (u0 u1 u2 u3 u4 u5 u6 u7:Int) (ya yz:LI) (v0 v1 v2 v3 v4 v5 v6 v7:Int) (hp0:xa.length=xz.length) (hp1:ya.length=yz.length) (hl0:xa.length≤9223372036854775807) (hl1:ya.length≤9223372036854775807) (i:Int) {r_:Bool} (hI:G5 xa xz u0 u1 u2 u3 u4 u5 u6 u7 ya yz v0 v1 v2 v3 v4 v5 v6 v7 i r_):UE xa xz u0 u1 u2 u3 u4 u5 u6 u7 ya yz v0 v1 v2 v3 v4 v5 v6 v7 i (λi'=>G5 xa xz u0 u1 u2 u3 u4 u5 u6 u7 ya yz v0 v1 v2 v3 v4 v5 v6 v7 i' r_∧lx ((xa.length-i').toNat,0,0) ((xa.length-i).toNat,0,0)) (λr__=>r__=r_):=by
 unfold G5 at hI
 unfold UE
 try unfold G5
 obtain ⟨h0,h1,h2,h3,h4⟩:=hI
 refine ⟨λh=>?_, λh=>?_⟩
 ·simp only [decide_eq_true_eq] at h
  refine ⟨⟨h0,h⟩, λ_=>⟨⟨h0,by omega⟩, λ_=>⟨λhn=>?_, λhn=>?_⟩⟩⟩
  ·show false=r_
   rw [h4]
   symm
   simp only [decide_eq_false_iff_not]
   rintro ⟨rfl,rfl⟩
   simp at hn
  ·rw [Gq (n:=i+1) (by omega)]
   refine ⟨⟨by omega,by omega,h2, λj hj=>?_,h4⟩,Cb⟩
   by_cases hji:j=i.toNat
   ·subst hji;simpa using hn
   ·exact h3 j (by omega)
 ·simp only [decide_eq_false_iff_not] at h
  show true=r_
  rw [h4]
  symm
  simp only [decide_eq_true_eq]
  exact ⟨VG h2 λj hj=>(h3 j (by omega)).1,VG (by omega) λj hj=>(h3 j (by omega)).2⟩
theorem AeT:EF 11 XK:=
 Kv Dg RJ (I:=[411000000005,411000000002,411000000003]) Try.func11 mix (B:=Bg Try.f11) (by kernel_rfl) rfl (by kernel_rfl) 400
  λp0 xa xz u0 u1 u2 u3 u4 u5 u6 u7 ya yz v0 v1 v2 v3 v4 v5 v6 v7 hb hp=>have hl0:xa.length≤9223372036854775807:=hb.1.1;have hl1:ya.length≤9223372036854775807:=hb.2.1.1;have hp0:xa.length=xz.length:=hp _ (.head _);have hp1:ya.length=yz.length:=hp _ (.tail _ (.head _));⟨[NP p0 xa xz u0 u1 u2 u3 u4 u5 u6 u7 ya yz v0 v1 v2 v3 v4 v5 v6 v7], λj=>iN [AA (Hd.kd (NP p0 xa xz u0 u1 u2 u3 u4 u5 u6 u7 ya yz v0 v1 v2 v3 v4 v5 v6 v7)) (λi'=>G5 xa xz u0 u1 u2 u3 u4 u5 u6 u7 ya yz v0 v1 v2 v3 v4 v5 v6 v7 i' (Gz xa xz u0 u1 u2 u3 u4 u5 u6 u7 ya yz v0 v1 v2 v3 v4 v5 v6 v7))] j (λ_=>False), λj=>iN [AA (Hd.kd (NP p0 xa xz u0 u1 u2 u3 u4 u5 u6 u7 ya yz v0 v1 v2 v3 v4 v5 v6 v7)) (λi'=>((xa.length-i').toNat,0,0))] j (λ_=>(0,0,0)),by kernel_rfl,⟨_, λ_ _ _=>by kernel_rfl,ZK xa xz u0 u1 u2 u3 u4 u5 u6 u7 ya yz v0 v1 v2 v3 v4 v5 v6 v7 hp0 hp1 hl0 hl1⟩,⟨λi hI=>⟨_, λ_ _ _=>by kernel_rfl,ZL xa xz u0 u1 u2 u3 u4 u5 u6 u7 ya yz v0 v1 v2 v3 v4 v5 v6 v7 hp0 hp1 hl0 hl1 i hI⟩,trivial⟩⟩
def Px:Tb:=(11,XK)::AaX
theorem KG:CQ Px:=EO AeT RJ
end
section
open Go.Sl
def FX (s:MS) (i:Int):Int×Bool:=bif decide (i<0)||decide (i≥8) then (0,false) else ([s.r0,s.r1,s.r2,s.r3,s.r4,s.r5,s.r6,s.r7].getD i.toNat 0,true)
def Aj3 (t p h:Int):MS:=⟨t,p,h,[],0,0,0,0,0,0,0,0⟩
abbrev Akf:Ct Sg:=⟨none,false,[.agg [.i .i64, .i .i64, .i .i64]], .nobj Cc⟩
def Af7:Entry Sg:=CW Akf (λ(t:Int) (p:Int) (h:Int)=>⟨t,p,h,[],0,0,0,0,0,0,0,0⟩) (λt p h=>[D5 t p h=0])
def Af8 (t p h:Int) (Q0:Int→Prop) (O_:Int→Int→Int→List (Int×Int)→Int→Int→Int→Int→Int→Int→Int→Int→Prop):Prop:=(Bo (D5 t p h !=0) (Q0 (D5 t p h)) (O_ (t) (p) (h) ([]) (0) (0) (0) (0) (0) (0) (0) (0)))
def VM (t p h q_:Int):Prop:=False
theorem AeU (t p h:Int) (hp0:D5 t p h=0):Af8 t p h (λq_'=>VM t p h q_') (λt_ p_ h_ l_ x0_ x1_ x2_ x3_ x4_ x5_ x6_ x7_=>BG ⟨t_,p_,h_,l_,x0_,x1_,x2_,x3_,x4_,x5_,x6_,x7_⟩ ((Aj3 t p h))):=by
 unfold Af8
 try unfold VM
 refine ⟨λh=>?_, λ_=>rfl⟩
 rw [hp0] at h;cases h
theorem AiQ:EF 16 Af7:=
 AkQ Dg Fa KG (I:=[1358000]) Try.func16 mix (B:=Bg Try.f16) (by kernel_rfl) rfl (by kernel_rfl) 400
  λp0 t p h hb hp=>have hp0:D5 t p h=0:=hp _ (.head _);⟨(Aj3 t p h),[⟨some 0,[0,0,1,0,1],[.code [1,0,1,0,1], .code [1,1]],[4],[.i .i64]⟩],[.run], λj=>iN [AA (Hd.kd (⟨some 0,[0,0,1,0,1],[.code [1,0,1,0,1], .code [1,1]],[4],[.i .i64]⟩:Hd Sg)) (λq_'=>VM t p h q_')] j (λ_=>False), λj=>iN [AA (Hd.kd (⟨some 0,[0,0,1,0,1],[.code [1,0,1,0,1], .code [1,1]],[4],[.i .i64]⟩:Hd Sg)) (λq_'=>(0,0,0))] j (λ_=>(0,0,0)),by kernel_rfl, λ_=>rfl,by kernel_rfl,by kernel_rfl,⟨_, λ_ _ _=>by kernel_rfl,AeU t p h hp0⟩,⟨λq_ hI=>False.elim hI,trivial⟩⟩
def Af9:Tb:=(16,Af7)::Px
theorem XM:CQ Af9:=EO AiQ KG
def ED (s:MS) (i:Int):Int×Bool:=FX s i
abbrev AiR:Ct Sg:=⟨some Cc,true,[.i .i64], .tup [.i .i64, .b]⟩
def Ad9:Entry Sg:=CW AiR (λ(s:MS) (i:Int)=>FX s i) (λ_ _=>[])
def AdA (s:MS) (i:Int) (Q0:MS→Int→Prop) (Q1:Int→Int→Int→List (Int×Int)→Int→Int→Int→Int→Int→Int→Int→Int→Int→Prop) (R_:Int×Bool→Prop) (O_:Int→Int→Int→List (Int×Int)→Int→Int→Int→Int→Int→Int→Int→Int→Int×Bool→Prop):Prop:=(Bo (decide (i<0)||decide (i≥8)) (R_ ((0,false))) (Q0 (s) (i)))
def AaY (s:MS) (i:Int) (u:MS) (i_ t_ p_ h_:Int) (l_:List (Int×Int)) (x0_ x1_ x2_ x3_ x4_ x5_ x6_ x7_:Int) (Q1:Int→Int→Int→List (Int×Int)→Int→Int→Int→Int→Int→Int→Int→Int→Int→Prop):Prop:=(Q1 (t_) (p_) (h_) (l_) (x0_) (x1_) (x2_) (x3_) (x4_) (x5_) (x6_) (x7_) (i_))
def CV (s:MS) (i:Int) (u:MS) (i_:Int):Prop:=u=s∧i_=i∧0≤i∧i<8
def UF (s:MS) (i t_ p_ h_:Int) (l_:List (Int×Int)) (r0_ r1_ r2_ r3_ r4_ r5_ r6_ r7_:Int) (Q0:MS→Int→Prop) (Q1:Int→Int→Int→List (Int×Int)→Int→Int→Int→Int→Int→Int→Int→Int→Int→Prop) (R_:Int×Bool→Prop) (O_:Int→Int→Int→List (Int×Int)→Int→Int→Int→Int→Int→Int→Int→Int→Int×Bool→Prop):Prop:=(A8 ((0:Int)≤0∧(0:Int)<8) (O_ (t_) (p_) (h_) (l_) (r0_) (r1_) (r2_) (r3_) (r4_) (r5_) (r6_) (r7_) ((r0_,true))))
def UG (s:MS) (i t_ p_ h_:Int) (l_:List (Int×Int)) (r0_ r1_ r2_ r3_ r4_ r5_ r6_ r7_:Int) (Q0:MS→Int→Prop) (Q1:Int→Int→Int→List (Int×Int)→Int→Int→Int→Int→Int→Int→Int→Int→Int→Prop) (R_:Int×Bool→Prop) (O_:Int→Int→Int→List (Int×Int)→Int→Int→Int→Int→Int→Int→Int→Int→Int×Bool→Prop):Prop:=(A8 ((0:Int)≤1∧(1:Int)<8) (O_ (t_) (p_) (h_) (l_) (r0_) (r1_) (r2_) (r3_) (r4_) (r5_) (r6_) (r7_) ((r1_,true))))
def UH (s:MS) (i t_ p_ h_:Int) (l_:List (Int×Int)) (r0_ r1_ r2_ r3_ r4_ r5_ r6_ r7_:Int) (Q0:MS→Int→Prop) (Q1:Int→Int→Int→List (Int×Int)→Int→Int→Int→Int→Int→Int→Int→Int→Int→Prop) (R_:Int×Bool→Prop) (O_:Int→Int→Int→List (Int×Int)→Int→Int→Int→Int→Int→Int→Int→Int→Int×Bool→Prop):Prop:=(A8 ((0:Int)≤2∧(2:Int)<8) (O_ (t_) (p_) (h_) (l_) (r0_) (r1_) (r2_) (r3_) (r4_) (r5_) (r6_) (r7_) ((r2_,true))))
def UI (s:MS) (i t_ p_ h_:Int) (l_:List (Int×Int)) (r0_ r1_ r2_ r3_ r4_ r5_ r6_ r7_:Int) (Q0:MS→Int→Prop) (Q1:Int→Int→Int→List (Int×Int)→Int→Int→Int→Int→Int→Int→Int→Int→Int→Prop) (R_:Int×Bool→Prop) (O_:Int→Int→Int→List (Int×Int)→Int→Int→Int→Int→Int→Int→Int→Int→Int×Bool→Prop):Prop:=(A8 ((0:Int)≤3∧(3:Int)<8) (O_ (t_) (p_) (h_) (l_) (r0_) (r1_) (r2_) (r3_) (r4_) (r5_) (r6_) (r7_) ((r3_,true))))
def UJ (s:MS) (i t_ p_ h_:Int) (l_:List (Int×Int)) (r0_ r1_ r2_ r3_ r4_ r5_ r6_ r7_:Int) (Q0:MS→Int→Prop) (Q1:Int→Int→Int→List (Int×Int)→Int→Int→Int→Int→Int→Int→Int→Int→Int→Prop) (R_:Int×Bool→Prop) (O_:Int→Int→Int→List (Int×Int)→Int→Int→Int→Int→Int→Int→Int→Int→Int×Bool→Prop):Prop:=(A8 ((0:Int)≤4∧(4:Int)<8) (O_ (t_) (p_) (h_) (l_) (r0_) (r1_) (r2_) (r3_) (r4_) (r5_) (r6_) (r7_) ((r4_,true))))
def UK (s:MS) (i t_ p_ h_:Int) (l_:List (Int×Int)) (r0_ r1_ r2_ r3_ r4_ r5_ r6_ r7_:Int) (Q0:MS→Int→Prop) (Q1:Int→Int→Int→List (Int×Int)→Int→Int→Int→Int→Int→Int→Int→Int→Int→Prop) (R_:Int×Bool→Prop) (O_:Int→Int→Int→List (Int×Int)→Int→Int→Int→Int→Int→Int→Int→Int→Int×Bool→Prop):Prop:=(A8 ((0:Int)≤5∧(5:Int)<8) (O_ (t_) (p_) (h_) (l_) (r0_) (r1_) (r2_) (r3_) (r4_) (r5_) (r6_) (r7_) ((r5_,true))))
def UL (s:MS) (i t_ p_ h_:Int) (l_:List (Int×Int)) (r0_ r1_ r2_ r3_ r4_ r5_ r6_ r7_:Int) (Q0:MS→Int→Prop) (Q1:Int→Int→Int→List (Int×Int)→Int→Int→Int→Int→Int→Int→Int→Int→Int→Prop) (R_:Int×Bool→Prop) (O_:Int→Int→Int→List (Int×Int)→Int→Int→Int→Int→Int→Int→Int→Int→Int×Bool→Prop):Prop:=(A8 ((0:Int)≤6∧(6:Int)<8) (O_ (t_) (p_) (h_) (l_) (r0_) (r1_) (r2_) (r3_) (r4_) (r5_) (r6_) (r7_) ((r6_,true))))
def UM (s:MS) (i t_ p_ h_:Int) (l_:List (Int×Int)) (r0_ r1_ r2_ r3_ r4_ r5_ r6_ r7_:Int) (Q0:MS→Int→Prop) (Q1:Int→Int→Int→List (Int×Int)→Int→Int→Int→Int→Int→Int→Int→Int→Int→Prop) (R_:Int×Bool→Prop) (O_:Int→Int→Int→List (Int×Int)→Int→Int→Int→Int→Int→Int→Int→Int→Int×Bool→Prop):Prop:=(A8 ((0:Int)≤7∧(7:Int)<8) (O_ (t_) (p_) (h_) (l_) (r0_) (r1_) (r2_) (r3_) (r4_) (r5_) (r6_) (r7_) ((r7_,true))))
def BA (s:MS) (i t_ p_ h_:Int) (l_:List (Int×Int)) (r0_ r1_ r2_ r3_ r4_ r5_ r6_ r7_ i_:Int):Prop:=s=⟨t_,p_,h_,l_,r0_,r1_,r2_,r3_,r4_,r5_,r6_,r7_⟩∧i_=i∧0≤i∧i<8
theorem AdB (s:MS) (i:Int):AdA s i (λu' i_'=>CV s i u' i_') (λt_' p_' h_' l_' r0_' r1_' r2_' r3_' r4_' r5_' r6_' r7_' i_'=>BA s i t_' p_' h_' l_' r0_' r1_' r2_' r3_' r4_' r5_' r6_' r7_' i_') (λr__=>r__=(ED s i)) (λt_ p_ h_ l_ x0_ x1_ x2_ x3_ x4_ x5_ x6_ x7_ r_=>BG ⟨t_,p_,h_,l_,x0_,x1_,x2_,x3_,x4_,x5_,x6_,x7_⟩ (s)∧r_=(ED s i)):=by
 unfold AdA
 try unfold CV
 try unfold BA
 refine ⟨λh=>?_, λh=>⟨rfl,rfl,?_⟩⟩
 ·unfold ED FX;rw [h];rfl
 ·simp only [lM,decide_eq_false_iff_not] at h;omega
theorem AdC (s:MS) (i:Int) (u:MS) (i_ t_ p_ h_:Int) (l_:List (Int×Int)) (x0_ x1_ x2_ x3_ x4_ x5_ x6_ x7_:Int) (hI:CV s i u i_) (hx:BG ⟨t_,p_,h_,l_,x0_,x1_,x2_,x3_,x4_,x5_,x6_,x7_⟩ (u)):AaY s i u i_ t_ p_ h_ l_ x0_ x1_ x2_ x3_ x4_ x5_ x6_ x7_ (λt_' p_' h_' l_' r0_' r1_' r2_' r3_' r4_' r5_' r6_' r7_' i_'=>BA s i t_' p_' h_' l_' r0_' r1_' r2_' r3_' r4_' r5_' r6_' r7_' i_'∧lx (1,0,0) (2,0,0)):=by
 unfold CV at hI
 unfold AaY
 try unfold CV
 try unfold BA
 obtain ⟨rfl,rfl,h1,h2⟩:=hI
 exact ⟨⟨hx.symm,rfl,h1,h2⟩,Cb⟩
theorem Ag7 (s:MS) (i t_ p_ h_:Int) (l_:List (Int×Int)) (r0_ r1_ r2_ r3_ r4_ r5_ r6_ r7_ i_:Int) (hI:BA s i t_ p_ h_ l_ r0_ r1_ r2_ r3_ r4_ r5_ r6_ r7_ i_):i_=0∨i_=1∨i_=2∨i_=3∨i_=4∨i_=5∨i_=6∨i_=7:=by
 unfold BA at hI
 omega
theorem ZM (s:MS) (i t_ p_ h_:Int) (l_:List (Int×Int)) (r0_ r1_ r2_ r3_ r4_ r5_ r6_ r7_:Int) (hI:BA s i t_ p_ h_ l_ r0_ r1_ r2_ r3_ r4_ r5_ r6_ r7_ (0:Int)):UF s i t_ p_ h_ l_ r0_ r1_ r2_ r3_ r4_ r5_ r6_ r7_ (λu' i_'=>CV s i u' i_'∧lx (2,0,0) (1,0,0)) (λt_' p_' h_' l_' r0_' r1_' r2_' r3_' r4_' r5_' r6_' r7_' i_'=>BA s i t_' p_' h_' l_' r0_' r1_' r2_' r3_' r4_' r5_' r6_' r7_' i_'∧lx (1,0,0) (1,0,0)) (λr__=>r__=(ED s i)) (λt_ p_ h_ l_ x0_ x1_ x2_ x3_ x4_ x5_ x6_ x7_ r_=>BG ⟨t_,p_,h_,l_,x0_,x1_,x2_,x3_,x4_,x5_,x6_,x7_⟩ (s)∧r_=(ED s i)):=by
 unfold BA at hI
 unfold UF
 try unfold CV
 try unfold BA
 obtain ⟨rfl,rfl,h1,h2⟩:=hI
 exact ⟨by decide, λ_=>⟨rfl,rfl⟩⟩
theorem ZN (s:MS) (i t_ p_ h_:Int) (l_:List (Int×Int)) (r0_ r1_ r2_ r3_ r4_ r5_ r6_ r7_:Int) (hI:BA s i t_ p_ h_ l_ r0_ r1_ r2_ r3_ r4_ r5_ r6_ r7_ (1:Int)):UG s i t_ p_ h_ l_ r0_ r1_ r2_ r3_ r4_ r5_ r6_ r7_ (λu' i_'=>CV s i u' i_'∧lx (2,0,0) (1,0,0)) (λt_' p_' h_' l_' r0_' r1_' r2_' r3_' r4_' r5_' r6_' r7_' i_'=>BA s i t_' p_' h_' l_' r0_' r1_' r2_' r3_' r4_' r5_' r6_' r7_' i_'∧lx (1,0,0) (1,0,0)) (λr__=>r__=(ED s i)) (λt_ p_ h_ l_ x0_ x1_ x2_ x3_ x4_ x5_ x6_ x7_ r_=>BG ⟨t_,p_,h_,l_,x0_,x1_,x2_,x3_,x4_,x5_,x6_,x7_⟩ (s)∧r_=(ED s i)):=by
 unfold BA at hI
 unfold UG
 try unfold CV
 try unfold BA
 obtain ⟨rfl,rfl,h1,h2⟩:=hI
 exact ⟨by decide, λ_=>⟨rfl,rfl⟩⟩
theorem ZO (s:MS) (i t_ p_ h_:Int) (l_:List (Int×Int)) (r0_ r1_ r2_ r3_ r4_ r5_ r6_ r7_:Int) (hI:BA s i t_ p_ h_ l_ r0_ r1_ r2_ r3_ r4_ r5_ r6_ r7_ (2:Int)):UH s i t_ p_ h_ l_ r0_ r1_ r2_ r3_ r4_ r5_ r6_ r7_ (λu' i_'=>CV s i u' i_'∧lx (2,0,0) (1,0,0)) (λt_' p_' h_' l_' r0_' r1_' r2_' r3_' r4_' r5_' r6_' r7_' i_'=>BA s i t_' p_' h_' l_' r0_' r1_' r2_' r3_' r4_' r5_' r6_' r7_' i_'∧lx (1,0,0) (1,0,0)) (λr__=>r__=(ED s i)) (λt_ p_ h_ l_ x0_ x1_ x2_ x3_ x4_ x5_ x6_ x7_ r_=>BG ⟨t_,p_,h_,l_,x0_,x1_,x2_,x3_,x4_,x5_,x6_,x7_⟩ (s)∧r_=(ED s i)):=by
 unfold BA at hI
 unfold UH
 try unfold CV
 try unfold BA
 obtain ⟨rfl,rfl,h1,h2⟩:=hI
 exact ⟨by decide, λ_=>⟨rfl,rfl⟩⟩
theorem ZP (s:MS) (i t_ p_ h_:Int) (l_:List (Int×Int)) (r0_ r1_ r2_ r3_ r4_ r5_ r6_ r7_:Int) (hI:BA s i t_ p_ h_ l_ r0_ r1_ r2_ r3_ r4_ r5_ r6_ r7_ (3:Int)):UI s i t_ p_ h_ l_ r0_ r1_ r2_ r3_ r4_ r5_ r6_ r7_ (λu' i_'=>CV s i u' i_'∧lx (2,0,0) (1,0,0)) (λt_' p_' h_' l_' r0_' r1_' r2_' r3_' r4_' r5_' r6_' r7_' i_'=>BA s i t_' p_' h_' l_' r0_' r1_' r2_' r3_' r4_' r5_' r6_' r7_' i_'∧lx (1,0,0) (1,0,0)) (λr__=>r__=(ED s i)) (λt_ p_ h_ l_ x0_ x1_ x2_ x3_ x4_ x5_ x6_ x7_ r_=>BG ⟨t_,p_,h_,l_,x0_,x1_,x2_,x3_,x4_,x5_,x6_,x7_⟩ (s)∧r_=(ED s i)):=by
 unfold BA at hI
 unfold UI
 try unfold CV
 try unfold BA
 obtain ⟨rfl,rfl,h1,h2⟩:=hI
 exact ⟨by decide, λ_=>⟨rfl,rfl⟩⟩
theorem ZQ (s:MS) (i t_ p_ h_:Int) (l_:List (Int×Int)) (r0_ r1_ r2_ r3_ r4_ r5_ r6_ r7_:Int) (hI:BA s i t_ p_ h_ l_ r0_ r1_ r2_ r3_ r4_ r5_ r6_ r7_ (4:Int)):UJ s i t_ p_ h_ l_ r0_ r1_ r2_ r3_ r4_ r5_ r6_ r7_ (λu' i_'=>CV s i u' i_'∧lx (2,0,0) (1,0,0)) (λt_' p_' h_' l_' r0_' r1_' r2_' r3_' r4_' r5_' r6_' r7_' i_'=>BA s i t_' p_' h_' l_' r0_' r1_' r2_' r3_' r4_' r5_' r6_' r7_' i_'∧lx (1,0,0) (1,0,0)) (λr__=>r__=(ED s i)) (λt_ p_ h_ l_ x0_ x1_ x2_ x3_ x4_ x5_ x6_ x7_ r_=>BG ⟨t_,p_,h_,l_,x0_,x1_,x2_,x3_,x4_,x5_,x6_,x7_⟩ (s)∧r_=(ED s i)):=by
 unfold BA at hI
 unfold UJ
 try unfold CV
 try unfold BA
 obtain ⟨rfl,rfl,h1,h2⟩:=hI
 exact ⟨by decide, λ_=>⟨rfl,rfl⟩⟩
theorem ZR (s:MS) (i t_ p_ h_:Int) (l_:List (Int×Int)) (r0_ r1_ r2_ r3_ r4_ r5_ r6_ r7_:Int) (hI:BA s i t_ p_ h_ l_ r0_ r1_ r2_ r3_ r4_ r5_ r6_ r7_ (5:Int)):UK s i t_ p_ h_ l_ r0_ r1_ r2_ r3_ r4_ r5_ r6_ r7_ (λu' i_'=>CV s i u' i_'∧lx (2,0,0) (1,0,0)) (λt_' p_' h_' l_' r0_' r1_' r2_' r3_' r4_' r5_' r6_' r7_' i_'=>BA s i t_' p_' h_' l_' r0_' r1_' r2_' r3_' r4_' r5_' r6_' r7_' i_'∧lx (1,0,0) (1,0,0)) (λr__=>r__=(ED s i)) (λt_ p_ h_ l_ x0_ x1_ x2_ x3_ x4_ x5_ x6_ x7_ r_=>BG ⟨t_,p_,h_,l_,x0_,x1_,x2_,x3_,x4_,x5_,x6_,x7_⟩ (s)∧r_=(ED s i)):=by
 unfold BA at hI
 unfold UK
 try unfold CV
 try unfold BA
 obtain ⟨rfl,rfl,h1,h2⟩:=hI
 exact ⟨by decide, λ_=>⟨rfl,rfl⟩⟩
theorem ZT (s:MS) (i t_ p_ h_:Int) (l_:List (Int×Int)) (r0_ r1_ r2_ r3_ r4_ r5_ r6_ r7_:Int) (hI:BA s i t_ p_ h_ l_ r0_ r1_ r2_ r3_ r4_ r5_ r6_ r7_ (6:Int)):UL s i t_ p_ h_ l_ r0_ r1_ r2_ r3_ r4_ r5_ r6_ r7_ (λu' i_'=>CV s i u' i_'∧lx (2,0,0) (1,0,0)) (λt_' p_' h_' l_' r0_' r1_' r2_' r3_' r4_' r5_' r6_' r7_' i_'=>BA s i t_' p_' h_' l_' r0_' r1_' r2_' r3_' r4_' r5_' r6_' r7_' i_'∧lx (1,0,0) (1,0,0)) (λr__=>r__=(ED s i)) (λt_ p_ h_ l_ x0_ x1_ x2_ x3_ x4_ x5_ x6_ x7_ r_=>BG ⟨t_,p_,h_,l_,x0_,x1_,x2_,x3_,x4_,x5_,x6_,x7_⟩ (s)∧r_=(ED s i)):=by
 unfold BA at hI
 unfold UL
 try unfold CV
 try unfold BA
 obtain ⟨rfl,rfl,h1,h2⟩:=hI
 exact ⟨by decide, λ_=>⟨rfl,rfl⟩⟩
theorem ZU (s:MS) (i t_ p_ h_:Int) (l_:List (Int×Int)) (r0_ r1_ r2_ r3_ r4_ r5_ r6_ r7_:Int) (hI:BA s i t_ p_ h_ l_ r0_ r1_ r2_ r3_ r4_ r5_ r6_ r7_ (7:Int)):UM s i t_ p_ h_ l_ r0_ r1_ r2_ r3_ r4_ r5_ r6_ r7_ (λu' i_'=>CV s i u' i_'∧lx (2,0,0) (1,0,0)) (λt_' p_' h_' l_' r0_' r1_' r2_' r3_' r4_' r5_' r6_' r7_' i_'=>BA s i t_' p_' h_' l_' r0_' r1_' r2_' r3_' r4_' r5_' r6_' r7_' i_'∧lx (1,0,0) (1,0,0)) (λr__=>r__=(ED s i)) (λt_ p_ h_ l_ x0_ x1_ x2_ x3_ x4_ x5_ x6_ x7_ r_=>BG ⟨t_,p_,h_,l_,x0_,x1_,x2_,x3_,x4_,x5_,x6_,x7_⟩ (s)∧r_=(ED s i)):=by
 unfold BA at hI
 unfold UM
 try unfold CV
 try unfold BA
 obtain ⟨rfl,rfl,h1,h2⟩:=hI
 exact ⟨by decide, λ_=>⟨rfl,rfl⟩⟩
theorem AhH:EF 66 Ad9:=
 GH Dg Fa false XM (I:=[1026000]) Try.func66 mix (B:=Bg Try.f66) (by kernel_rfl) rfl (by kernel_rfl) 400
  λo s i hb hp=>⟨s,s,(ED s i),[⟨some 0,[0,1,1],[.code [1,1,1]],[0,1],[.objc Cc ⟨o,0,none⟩, .i .i64]⟩,⟨some 0,[0,1,1],[.code [1,1,1]],[0,1],[.boxc o BQ.t BQ.l, .i .i64]⟩],[.opn 0 (λ_=>o) 1, .run], λj=>iN [AA (Hd.kd (⟨some 0,[0,1,1],[.code [1,1,1]],[0,1],[.objc Cc ⟨o,0,none⟩, .i .i64]⟩:Hd Sg)) (λu' i_'=>CV s i u' i_'),AA (Hd.kd (⟨some 0,[0,1,1],[.code [1,1,1]],[0,1],[.boxc o BQ.t BQ.l, .i .i64]⟩:Hd Sg)) (λt_' p_' h_' l_' r0_' r1_' r2_' r3_' r4_' r5_' r6_' r7_' i_'=>BA s i t_' p_' h_' l_' r0_' r1_' r2_' r3_' r4_' r5_' r6_' r7_' i_')] j (λ_=>False), λj=>iN [AA (Hd.kd (⟨some 0,[0,1,1],[.code [1,1,1]],[0,1],[.objc Cc ⟨o,0,none⟩, .i .i64]⟩:Hd Sg)) (λu' i_'=>(2,0,0)),AA (Hd.kd (⟨some 0,[0,1,1],[.code [1,1,1]],[0,1],[.boxc o BQ.t BQ.l, .i .i64]⟩:Hd Sg)) (λt_' p_' h_' l_' r0_' r1_' r2_' r3_' r4_' r5_' r6_' r7_' i_'=>(1,0,0))] j (λ_=>(0,0,0)),by kernel_rfl, λ_ _=>by kernel_rfl,by kernel_rfl,⟨_, λ_ _ _=>by kernel_rfl,AdB s i⟩,⟨λu i_ hI=>⟨u, λ_=>by kernel_rfl, λt_ p_ h_ l_ x0_ x1_ x2_ x3_ x4_ x5_ x6_ x7_ hx=>⟨_, λ_ _=>by kernel_rfl,AdC s i u i_ t_ p_ h_ l_ x0_ x1_ x2_ x3_ x4_ x5_ x6_ x7_ hI hx⟩⟩,⟨λt_ p_ h_ l_ r0_ r1_ r2_ r3_ r4_ r5_ r6_ r7_ i_ hI=>(by
   rcases Ag7 s i t_ p_ h_ l_ r0_ r1_ r2_ r3_ r4_ r5_ r6_ r7_ i_ hI with rfl|rfl|rfl|rfl|rfl|rfl|rfl|rfl
   ·exact ⟨_, λ_ _ _=>by kernel_rfl,ZM s i t_ p_ h_ l_ r0_ r1_ r2_ r3_ r4_ r5_ r6_ r7_ hI⟩
   ·exact ⟨_, λ_ _ _=>by kernel_rfl,ZN s i t_ p_ h_ l_ r0_ r1_ r2_ r3_ r4_ r5_ r6_ r7_ hI⟩
   ·exact ⟨_, λ_ _ _=>by kernel_rfl,ZO s i t_ p_ h_ l_ r0_ r1_ r2_ r3_ r4_ r5_ r6_ r7_ hI⟩
   ·exact ⟨_, λ_ _ _=>by kernel_rfl,ZP s i t_ p_ h_ l_ r0_ r1_ r2_ r3_ r4_ r5_ r6_ r7_ hI⟩
   ·exact ⟨_, λ_ _ _=>by kernel_rfl,ZQ s i t_ p_ h_ l_ r0_ r1_ r2_ r3_ r4_ r5_ r6_ r7_ hI⟩
   ·exact ⟨_, λ_ _ _=>by kernel_rfl,ZR s i t_ p_ h_ l_ r0_ r1_ r2_ r3_ r4_ r5_ r6_ r7_ hI⟩
   ·exact ⟨_, λ_ _ _=>by kernel_rfl,ZT s i t_ p_ h_ l_ r0_ r1_ r2_ r3_ r4_ r5_ r6_ r7_ hI⟩
   ·exact ⟨_, λ_ _ _=>by kernel_rfl,ZU s i t_ p_ h_ l_ r0_ r1_ r2_ r3_ r4_ r5_ r6_ r7_ hI⟩),trivial⟩⟩⟩
def AdD:Tb:=(66,Ad9)::Af9
theorem UN:CQ AdD:=EO AhH XM
def JI (s:MS) (k a c e u v:Int):Bool:=(let r2:Int×Int×Bool:=atR (MS.l s) a;(bif !r2.2.2 then (let r6:Bool:=Bc 4 e u v;r6) else e==0&&(u==r2.2.1&&(v==0&&true))))
abbrev Ag8:Ct Sg:=⟨some Cc,true,[.agg [.i .i64, .i .i64, .i .i64], .agg [.i .i64, .i .i64, .i .i64]], .b⟩
def XN:Entry Sg:=CW Ag8 JI (λs k a c e u v=>[BC s.l])
theorem AeV:EF 35 XN:=
 Fv Dg UN (I:=[2999998]) Try.func35 mix (B:=Bg Try.f35) (by kernel_rfl) rfl (by kernel_rfl) 400
  λ_ s k a c e u v hb hp=>have hp0:BC s.l:=hp _ (.head _);⟨(JI s k a c e u v),(.bind (atR (MS.l s) a) λr2:Int×Int×Bool=>(.need (BC (MS.l s)) .t)), λ_ _ _=>by kernel_rfl,(λr2 e2=>⟨nd_, λz3=>trivial⟩),rfl⟩
def XO:Tb:=(35,XN)::AdD
theorem Qh:CQ XO:=EO AeV UN
def Jb (s:MS) (k a c e u v:Int):Bool:=(let r2:Int×Bool:=FX s a;(bif !r2.2 then (let r4:Bool:=Bc 5 e u v;r4) else e==0&&(u==r2.1&&(v==0&&true))))
abbrev AeW:Ct Sg:=⟨some Cc,true,[.agg [.i .i64, .i .i64, .i .i64], .agg [.i .i64, .i .i64, .i .i64]], .b⟩
def UO:Entry Sg:=CW AeW Jb (λ_ _ _ _ _ _ _=>[])
theorem AdE:EF 34 UO:=
 Fv Dg Qh (I:=[2999998]) Try.func34 mix (B:=Bg Try.f34) (by kernel_rfl) rfl (by kernel_rfl) 400
  λ_ s k a c e u v hb hp=>⟨(Jb s k a c e u v), .t, λ_ _ _=>by kernel_rfl,trivial,rfl⟩
def UQ:Tb:=(34,UO)::XO
theorem OA:CQ UQ:=EO AdE Qh
def FC (s:MS) (k a c e u v:Int):Bool:=(let r2:Int×Bool:=FX s a;(bif !r2.2 then (let r4:Bool:=Bc 5 e u v;r4) else (let r4:Int×Int×Bool:=atR (MS.l s) c;(bif c !=0&&!r4.2.2 then (let r8:Bool:=Bc 4 e u v;r8) else e==0&&(u==c&&(v==r2.1&&true))))))
abbrev AeX:Ct Sg:=⟨some Cc,true,[.agg [.i .i64, .i .i64, .i .i64], .agg [.i .i64, .i .i64, .i .i64]], .b⟩
def UR:Entry Sg:=CW AeX FC (λs k a c e u v=>[BC s.l])
theorem AdF:EF 33 UR:=
 Fv Dg OA (I:=[2999998]) Try.func33 mix (B:=Bg Try.f33) (by kernel_rfl) rfl (by kernel_rfl) 400
  λ_ s k a c e u v hb hp=>have hp0:BC s.l:=hp _ (.head _);⟨(FC s k a c e u v),(.bind (FX s a) λr2:Int×Bool=>(.br (!r2.2) .t (.bind (atR (MS.l s) c) λr4:Int×Int×Bool=>(.need (BC (MS.l s)) .t)))), λ_ _ _=>by kernel_rfl,(λr2 e2=>⟨λz3=>trivial, λz3=>(λr4 e4=>⟨nd_, λz5=>trivial⟩)⟩),rfl⟩
def UT:Tb:=(33,UR)::UQ
theorem OB:CQ UT:=EO AdF OA
end
section
open Go.Sl
def AdG (e u v o x:Int):Bool:=e==0&&(u==o&&(v==x&&true))
theorem AlA {A:Prop} (h:A):A∧A:=⟨h,h⟩
def DN (s:MS) (z e u v ax ba bz:Int):Bool:=bif !(Am s.t s.p s.h z).2 then Bc 2 e u v else bif e !=0 then Bc 3 e u v else v==ax&&DL s u (Am s.t s.p s.h z).1 ba bz
abbrev AiS:Ct Sg:=⟨some Cc,true,[.i .i64, .agg [.i .i64, .i .i64, .i .i64], .i .i64, .agg [.i .i64, .i .i64]], .b⟩
def AdH:Entry Sg:=CW AiS (λ(s:MS) (z:Int) (e:Int) (u:Int) (v:Int) (ax:Int) (ba:Int) (bz:Int)=>bif !(Am s.t s.p s.h z).2 then Bc 2 e u v else bif e !=0 then Bc 3 e u v else v==ax&&DL s u (Am s.t s.p s.h z).1 ba bz) (λ_ _ _ _ _ _ _ _=>[])
def Py (s:MS) (z e u v ax ba bz t p h:Int) (l:List (Int×Int)) (x0 x1 x2 x3 x4 x5 x6 x7:Int) (Q0:Int→Int→Int→List (Int×Int)→Int→Int→Int→Int→Int→Int→Int→Int→Int→Prop) (Q1:Int→Prop) (R_:Bool→Prop) (O_:Int→Int→Int→List (Int×Int)→Int→Int→Int→Int→Int→Int→Int→Int→Bool→Prop):Prop:=(∀r2:Int×Bool,r2=(Am t p h z)→(Bo (!r2.2) (∀r4:Bool,r4=(Bc 2 e u v)→(O_ (t) (p) (h) (l) (x0) (x1) (x2) (x3) (x4) (x5) (x6) (x7) (r4))) (Bo (e !=0) (∀r5:Bool,r5=(Bc 3 e u v)→(O_ (t) (p) (h) (l) (x0) (x1) (x2) (x3) (x4) (x5) (x6) (x7) (r5))) (Q0 (t) (p) (h) (l) (x0) (x1) (x2) (x3) (x4) (x5) (x6) (x7) r2.1))))
def RN (s:MS) (z e u v ax ba bz t_ p_ h_:Int) (l_:List (Int×Int)) (r0_ r1_ r2_ r3_ r4_ r5_ r6_ r7_ w_:Int) (Q1:Int→Prop):Prop:=(Q1 (w_))
def FD (s:MS) (z e u v ax ba bz t_ p_ h_:Int) (l_:List (Int×Int)) (r0_ r1_ r2_ r3_ r4_ r5_ r6_ r7_ w_:Int):Prop:=s=⟨t_,p_,h_,l_,r0_,r1_,r2_,r3_,r4_,r5_,r6_,r7_⟩∧(Am s.t s.p s.h z).2=true∧e=0∧w_=(Am s.t s.p s.h z).1
def AaZ (s:MS) (z e u v ax ba bz w_:Int) (Q0:Int→Int→Int→List (Int×Int)→Int→Int→Int→Int→Int→Int→Int→Int→Int→Prop) (Q1:Int→Prop) (R_:Bool→Prop) (O_:Int→Int→Int→List (Int×Int)→Int→Int→Int→Int→Int→Int→Int→Int→Bool→Prop):Prop:=(R_ (v==ax&&(Ja (MS.t s) (MS.p s) (MS.h s) u w_&&List.all (MS.l s) λx=>okB x (u,w_) (ba,bz))))
def EQ (s:MS) (z e u v ax ba bz w_:Int):Prop:=(Am s.t s.p s.h z).2=true∧e=0∧w_=(Am s.t s.p s.h z).1
theorem AdI (s:MS) (z e u v ax ba bz t p h:Int) (l:List (Int×Int)) (x0 x1 x2 x3 x4 x5 x6 x7:Int) (hx:BG ⟨t,p,h,l,x0,x1,x2,x3,x4,x5,x6,x7⟩ (s)):Py s z e u v ax ba bz t p h l x0 x1 x2 x3 x4 x5 x6 x7 (λt_' p_' h_' l_' r0_' r1_' r2_' r3_' r4_' r5_' r6_' r7_' w_'=>FD s z e u v ax ba bz t_' p_' h_' l_' r0_' r1_' r2_' r3_' r4_' r5_' r6_' r7_' w_') (λw_'=>EQ s z e u v ax ba bz w_') (λr__=>r__=(DN s z e u v ax ba bz)) (λt_ p_ h_ l_ x0_ x1_ x2_ x3_ x4_ x5_ x6_ x7_ r_=>BG ⟨t_,p_,h_,l_,x0_,x1_,x2_,x3_,x4_,x5_,x6_,x7_⟩ (s)∧r_=(DN s z e u v ax ba bz)):=by
 have key:∀x:MS,BG x s→Py s z e u v ax ba bz x.t x.p x.h x.l x.r0 x.r1 x.r2 x.r3 x.r4 x.r5 x.r6 x.r7 (λt_' p_' h_' l_' r0_' r1_' r2_' r3_' r4_' r5_' r6_' r7_' w_'=>FD s z e u v ax ba bz t_' p_' h_' l_' r0_' r1_' r2_' r3_' r4_' r5_' r6_' r7_' w_') (λw_'=>EQ s z e u v ax ba bz w_') (λr__=>r__=(DN s z e u v ax ba bz)) (λt_ p_ h_ l_ x0_ x1_ x2_ x3_ x4_ x5_ x6_ x7_ r_=>BG ⟨t_,p_,h_,l_,x0_,x1_,x2_,x3_,x4_,x5_,x6_,x7_⟩ (s)∧r_=(DN s z e u v ax ba bz)):=by
  intro x ho
  unfold Py
  try unfold FD
  try unfold EQ
  rintro r2 rfl
  cases (show x=s from ho)
  refine ⟨λh1=>?_, λh1=>⟨λh2=>?_, λh2=>?_⟩⟩
  ·rintro r4 rfl
   refine ⟨rfl,?_⟩
   unfold DN;rw [h1];rfl
  ·rintro r5 rfl
   refine ⟨rfl,?_⟩
   unfold DN;rw [h1,h2];rfl
  ·exact ⟨rfl,by simpa using h1,by simpa using h2,rfl⟩
 exact key ⟨t,p,h,l,x0,x1,x2,x3,x4,x5,x6,x7⟩ hx
theorem RP (s:MS) (z e u v ax ba bz t_ p_ h_:Int) (l_:List (Int×Int)) (r0_ r1_ r2_ r3_ r4_ r5_ r6_ r7_ w_:Int) (hI:FD s z e u v ax ba bz t_ p_ h_ l_ r0_ r1_ r2_ r3_ r4_ r5_ r6_ r7_ w_):(BG ⟨t_,p_,h_,l_,r0_,r1_,r2_,r3_,r4_,r5_,r6_,r7_⟩ s)∧RN s z e u v ax ba bz t_ p_ h_ l_ r0_ r1_ r2_ r3_ r4_ r5_ r6_ r7_ w_ (λw_'=>EQ s z e u v ax ba bz w_'∧lx (1,0,0) (2,0,0)):=by
 unfold FD at hI
 unfold RN
 try unfold FD
 try unfold EQ
 obtain ⟨rfl,hI⟩:=hI
 exact ⟨rfl,hI,Cb⟩
theorem AdJ (s:MS) (z e u v ax ba bz w_:Int) (hI:EQ s z e u v ax ba bz w_):AaZ s z e u v ax ba bz w_ (λt_' p_' h_' l_' r0_' r1_' r2_' r3_' r4_' r5_' r6_' r7_' w_'=>FD s z e u v ax ba bz t_' p_' h_' l_' r0_' r1_' r2_' r3_' r4_' r5_' r6_' r7_' w_'∧lx (2,0,0) (1,0,0)) (λw_'=>EQ s z e u v ax ba bz w_'∧lx (1,0,0) (1,0,0)) (λr__=>r__=(DN s z e u v ax ba bz)) (λt_ p_ h_ l_ x0_ x1_ x2_ x3_ x4_ x5_ x6_ x7_ r_=>BG ⟨t_,p_,h_,l_,x0_,x1_,x2_,x3_,x4_,x5_,x6_,x7_⟩ (s)∧r_=(DN s z e u v ax ba bz)):=by
 unfold EQ at hI
 unfold AaZ
 try unfold FD
 try unfold EQ
 obtain ⟨h1,rfl,rfl⟩:=hI
 unfold DN DL
 rw [h1];rfl
theorem AhI:EF 64 AdH:=
 GH Dg Fa true OB (I:=[1106000,2999998]) Try.func64 mix (B:=Bg Try.f64) (by kernel_rfl) rfl (by kernel_rfl) 400
  λo s z e u v ax ba bz hb hp=>⟨s,s,(DN s z e u v ax ba bz),[⟨some 0,[0,1,1,1],[.code [1,1,1,1]],[0,7,9,3,11],[.boxc o BQ.t BQ.l, .box 32 [.ic .i64 (e), .ic .i64 (u), .ic .i64 (v)], .box 55 [.ic .i64 (ba), .ic .i64 (bz)], .ic .i64 (ax), .i .i64]⟩,⟨some 0,[0,1,1,1],[.code [1,1,1,1]],[0,7,9,3,11],[.objk Cc ⟨o,0,none⟩ (s), .box 32 [.ic .i64 (e), .ic .i64 (u), .ic .i64 (v)], .box 55 [.ic .i64 (ba), .ic .i64 (bz)], .ic .i64 (ax), .i .i64]⟩],[.cls 1, .run], λj=>iN [AA (Hd.kd (⟨some 0,[0,1,1,1],[.code [1,1,1,1]],[0,7,9,3,11],[.boxc o BQ.t BQ.l, .box 32 [.ic .i64 (e), .ic .i64 (u), .ic .i64 (v)], .box 55 [.ic .i64 (ba), .ic .i64 (bz)], .ic .i64 (ax), .i .i64]⟩:Hd Sg)) (λt_' p_' h_' l_' r0_' r1_' r2_' r3_' r4_' r5_' r6_' r7_' w_'=>FD s z e u v ax ba bz t_' p_' h_' l_' r0_' r1_' r2_' r3_' r4_' r5_' r6_' r7_' w_'),AA (Hd.kd (⟨some 0,[0,1,1,1],[.code [1,1,1,1]],[0,7,9,3,11],[.objk Cc ⟨o,0,none⟩ (s), .box 32 [.ic .i64 (e), .ic .i64 (u), .ic .i64 (v)], .box 55 [.ic .i64 (ba), .ic .i64 (bz)], .ic .i64 (ax), .i .i64]⟩:Hd Sg)) (λw_'=>EQ s z e u v ax ba bz w_')] j (λ_=>False), λj=>iN [AA (Hd.kd (⟨some 0,[0,1,1,1],[.code [1,1,1,1]],[0,7,9,3,11],[.boxc o BQ.t BQ.l, .box 32 [.ic .i64 (e), .ic .i64 (u), .ic .i64 (v)], .box 55 [.ic .i64 (ba), .ic .i64 (bz)], .ic .i64 (ax), .i .i64]⟩:Hd Sg)) (λt_' p_' h_' l_' r0_' r1_' r2_' r3_' r4_' r5_' r6_' r7_' w_'=>(2,0,0)),AA (Hd.kd (⟨some 0,[0,1,1,1],[.code [1,1,1,1]],[0,7,9,3,11],[.objk Cc ⟨o,0,none⟩ (s), .box 32 [.ic .i64 (e), .ic .i64 (u), .ic .i64 (v)], .box 55 [.ic .i64 (ba), .ic .i64 (bz)], .ic .i64 (ax), .i .i64]⟩:Hd Sg)) (λw_'=>(1,0,0))] j (λ_=>(0,0,0)),by kernel_rfl, λ_ _=>by kernel_rfl,by kernel_rfl, λt p h l x0 x1 x2 x3 x4 x5 x6 x7 hx=>⟨Py s z e u v ax ba bz t p h l x0 x1 x2 x3 x4 x5 x6 x7 (λt_' p_' h_' l_' r0_' r1_' r2_' r3_' r4_' r5_' r6_' r7_' w_'=>FD s z e u v ax ba bz t_' p_' h_' l_' r0_' r1_' r2_' r3_' r4_' r5_' r6_' r7_' w_') (λw_'=>EQ s z e u v ax ba bz w_') (λr__=>r__=(DN s z e u v ax ba bz)) (λt_ p_ h_ l_ x0_ x1_ x2_ x3_ x4_ x5_ x6_ x7_ r_=>BG ⟨t_,p_,h_,l_,x0_,x1_,x2_,x3_,x4_,x5_,x6_,x7_⟩ (s)∧r_=(DN s z e u v ax ba bz)), λ_ _ _ _=>by kernel_rfl,AdI s z e u v ax ba bz t p h l x0 x1 x2 x3 x4 x5 x6 x7 hx⟩,⟨λt_ p_ h_ l_ r0_ r1_ r2_ r3_ r4_ r5_ r6_ r7_ w_ hI=>⟨s,RN s z e u v ax ba bz t_ p_ h_ l_ r0_ r1_ r2_ r3_ r4_ r5_ r6_ r7_ w_ (λw_'=>EQ s z e u v ax ba bz w_'∧lx (1,0,0) (2,0,0)),(RP s z e u v ax ba bz t_ p_ h_ l_ r0_ r1_ r2_ r3_ r4_ r5_ r6_ r7_ w_ hI).1, λ_=>by kernel_rfl,(RP s z e u v ax ba bz t_ p_ h_ l_ r0_ r1_ r2_ r3_ r4_ r5_ r6_ r7_ w_ hI).2⟩,⟨λw_ hI=>⟨_, λ_ _ _=>by kernel_rfl,AdJ s z e u v ax ba bz w_ hI⟩,trivial⟩⟩⟩
def AdK:Tb:=(64,AdH)::UT
theorem UU:CQ AdK:=EO AhI OB
def GK (s:MS) (k a c e u v:Int):Bool:=DN s a e u v (Am s.t s.p s.h a).1 0 0
abbrev AhJ:Ct Sg:=⟨some Cc,true,[.agg [.i .i64, .i .i64, .i .i64], .agg [.i .i64, .i .i64, .i .i64]], .b⟩
def Aba:Entry Sg:=CW AhJ (λ(s:MS) (k:Int) (a:Int) (c:Int) (e:Int) (u:Int) (v:Int)=>DN s a e u v (Am s.t s.p s.h a).1 0 0) (λ_ _ _ _ _ _ _=>[])
def N7 (s:MS) (k a c e u v t p h:Int) (l:List (Int×Int)) (x0 x1 x2 x3 x4 x5 x6 x7:Int) (Q0:Int→Int→Int→List (Int×Int)→Int→Int→Int→Int→Int→Int→Int→Int→Int→Prop) (Q1:Int→Prop) (R_:Bool→Prop) (O_:Int→Int→Int→List (Int×Int)→Int→Int→Int→Int→Int→Int→Int→Int→Bool→Prop):Prop:=(Q0 (t) (p) (h) (l) (x0) (x1) (x2) (x3) (x4) (x5) (x6) (x7) (kR (Am t p h a)))
def Pz (s:MS) (k a c e u v t_ p_ h_:Int) (l_:List (Int×Int)) (r0_ r1_ r2_ r3_ r4_ r5_ r6_ r7_ w_:Int) (Q1:Int→Prop):Prop:=(Q1 (w_))
def EX (s:MS) (k a c e u v t_ p_ h_:Int) (l_:List (Int×Int)) (r0_ r1_ r2_ r3_ r4_ r5_ r6_ r7_ w_:Int):Prop:=s=⟨t_,p_,h_,l_,r0_,r1_,r2_,r3_,r4_,r5_,r6_,r7_⟩∧w_=(Am s.t s.p s.h a).1
def XP (s:MS) (k a c e u v w_:Int) (Q0:Int→Int→Int→List (Int×Int)→Int→Int→Int→Int→Int→Int→Int→Int→Int→Prop) (Q1:Int→Prop) (R_:Bool→Prop) (O_:Int→Int→Int→List (Int×Int)→Int→Int→Int→Int→Int→Int→Int→Int→Bool→Prop):Prop:=(R_ (bif !Prod.snd (Am (MS.t s) (MS.p s) (MS.h s) a) then Bc 2 e u v else bif e !=0 then Bc 3 e u v else v==w_&&DL s u (kR (Am (MS.t s) (MS.p s) (MS.h s) a)) 0 0))
def Ey (s:MS) (k a c e u v w_:Int):Prop:=w_=(Am s.t s.p s.h a).1
theorem AbL (s:MS) (k a c e u v t p h:Int) (l:List (Int×Int)) (x0 x1 x2 x3 x4 x5 x6 x7:Int) (hx:BG ⟨t,p,h,l,x0,x1,x2,x3,x4,x5,x6,x7⟩ (s)):N7 s k a c e u v t p h l x0 x1 x2 x3 x4 x5 x6 x7 (λt_' p_' h_' l_' r0_' r1_' r2_' r3_' r4_' r5_' r6_' r7_' w_'=>EX s k a c e u v t_' p_' h_' l_' r0_' r1_' r2_' r3_' r4_' r5_' r6_' r7_' w_') (λw_'=>Ey s k a c e u v w_') (λr__=>r__=(GK s k a c e u v)) (λt_ p_ h_ l_ x0_ x1_ x2_ x3_ x4_ x5_ x6_ x7_ r_=>BG ⟨t_,p_,h_,l_,x0_,x1_,x2_,x3_,x4_,x5_,x6_,x7_⟩ (s)∧r_=(GK s k a c e u v)):=by
 have key:∀x:MS,BG x s→N7 s k a c e u v x.t x.p x.h x.l x.r0 x.r1 x.r2 x.r3 x.r4 x.r5 x.r6 x.r7 (λt_' p_' h_' l_' r0_' r1_' r2_' r3_' r4_' r5_' r6_' r7_' w_'=>EX s k a c e u v t_' p_' h_' l_' r0_' r1_' r2_' r3_' r4_' r5_' r6_' r7_' w_') (λw_'=>Ey s k a c e u v w_') (λr__=>r__=(GK s k a c e u v)) (λt_ p_ h_ l_ x0_ x1_ x2_ x3_ x4_ x5_ x6_ x7_ r_=>BG ⟨t_,p_,h_,l_,x0_,x1_,x2_,x3_,x4_,x5_,x6_,x7_⟩ (s)∧r_=(GK s k a c e u v)):=by
  intro x ho
  unfold N7
  try unfold EX
  try unfold Ey
  cases (show x=s from ho)
  exact ⟨rfl,rfl⟩
 exact key ⟨t,p,h,l,x0,x1,x2,x3,x4,x5,x6,x7⟩ hx
theorem Qi (s:MS) (k a c e u v t_ p_ h_:Int) (l_:List (Int×Int)) (r0_ r1_ r2_ r3_ r4_ r5_ r6_ r7_ w_:Int) (hI:EX s k a c e u v t_ p_ h_ l_ r0_ r1_ r2_ r3_ r4_ r5_ r6_ r7_ w_):(BG ⟨t_,p_,h_,l_,r0_,r1_,r2_,r3_,r4_,r5_,r6_,r7_⟩ s)∧Pz s k a c e u v t_ p_ h_ l_ r0_ r1_ r2_ r3_ r4_ r5_ r6_ r7_ w_ (λw_'=>Ey s k a c e u v w_'∧lx (1,0,0) (2,0,0)):=by
 unfold EX at hI
 unfold Pz
 try unfold EX
 try unfold Ey
 obtain ⟨rfl,hI⟩:=hI
 exact ⟨rfl,hI,Cb⟩
theorem AbM (s:MS) (k a c e u v w_:Int) (hI:Ey s k a c e u v w_):XP s k a c e u v w_ (λt_' p_' h_' l_' r0_' r1_' r2_' r3_' r4_' r5_' r6_' r7_' w_'=>EX s k a c e u v t_' p_' h_' l_' r0_' r1_' r2_' r3_' r4_' r5_' r6_' r7_' w_'∧lx (2,0,0) (1,0,0)) (λw_'=>Ey s k a c e u v w_'∧lx (1,0,0) (1,0,0)) (λr__=>r__=(GK s k a c e u v)) (λt_ p_ h_ l_ x0_ x1_ x2_ x3_ x4_ x5_ x6_ x7_ r_=>BG ⟨t_,p_,h_,l_,x0_,x1_,x2_,x3_,x4_,x5_,x6_,x7_⟩ (s)∧r_=(GK s k a c e u v)):=by
 unfold Ey at hI
 unfold XP
 try unfold EX
 try unfold Ey
 subst hI;rfl
theorem Ag9:EF 29 Aba:=
 GH Dg Fa true UU (I:=[1026000]) Try.func29 mix (B:=Bg Try.f29) (by kernel_rfl) rfl (by kernel_rfl) 400
  λo s k a c e u v hb hp=>⟨s,s,(GK s k a c e u v),[⟨some 0,[0,1,1],[.code [1,1,1]],[0,4,5,7],[.boxc o BQ.t BQ.l, .box 29 [.ic .i64 (k), .ic .i64 (a), .ic .i64 (c)], .box 32 [.ic .i64 (e), .ic .i64 (u), .ic .i64 (v)], .i .i64]⟩,⟨some 0,[0,1,1],[.code [1,1,1]],[0,4,5,7],[.objk Cc ⟨o,0,none⟩ (s), .box 29 [.ic .i64 (k), .ic .i64 (a), .ic .i64 (c)], .box 32 [.ic .i64 (e), .ic .i64 (u), .ic .i64 (v)], .i .i64]⟩],[.cls 1, .run], λj=>iN [AA (Hd.kd (⟨some 0,[0,1,1],[.code [1,1,1]],[0,4,5,7],[.boxc o BQ.t BQ.l, .box 29 [.ic .i64 (k), .ic .i64 (a), .ic .i64 (c)], .box 32 [.ic .i64 (e), .ic .i64 (u), .ic .i64 (v)], .i .i64]⟩:Hd Sg)) (λt_' p_' h_' l_' r0_' r1_' r2_' r3_' r4_' r5_' r6_' r7_' w_'=>EX s k a c e u v t_' p_' h_' l_' r0_' r1_' r2_' r3_' r4_' r5_' r6_' r7_' w_'),AA (Hd.kd (⟨some 0,[0,1,1],[.code [1,1,1]],[0,4,5,7],[.objk Cc ⟨o,0,none⟩ (s), .box 29 [.ic .i64 (k), .ic .i64 (a), .ic .i64 (c)], .box 32 [.ic .i64 (e), .ic .i64 (u), .ic .i64 (v)], .i .i64]⟩:Hd Sg)) (λw_'=>Ey s k a c e u v w_')] j (λ_=>False), λj=>iN [AA (Hd.kd (⟨some 0,[0,1,1],[.code [1,1,1]],[0,4,5,7],[.boxc o BQ.t BQ.l, .box 29 [.ic .i64 (k), .ic .i64 (a), .ic .i64 (c)], .box 32 [.ic .i64 (e), .ic .i64 (u), .ic .i64 (v)], .i .i64]⟩:Hd Sg)) (λt_' p_' h_' l_' r0_' r1_' r2_' r3_' r4_' r5_' r6_' r7_' w_'=>(2,0,0)),AA (Hd.kd (⟨some 0,[0,1,1],[.code [1,1,1]],[0,4,5,7],[.objk Cc ⟨o,0,none⟩ (s), .box 29 [.ic .i64 (k), .ic .i64 (a), .ic .i64 (c)], .box 32 [.ic .i64 (e), .ic .i64 (u), .ic .i64 (v)], .i .i64]⟩:Hd Sg)) (λw_'=>(1,0,0))] j (λ_=>(0,0,0)),by kernel_rfl, λ_ _=>by kernel_rfl,by kernel_rfl, λt p h l x0 x1 x2 x3 x4 x5 x6 x7 hx=>⟨N7 s k a c e u v t p h l x0 x1 x2 x3 x4 x5 x6 x7 (λt_' p_' h_' l_' r0_' r1_' r2_' r3_' r4_' r5_' r6_' r7_' w_'=>EX s k a c e u v t_' p_' h_' l_' r0_' r1_' r2_' r3_' r4_' r5_' r6_' r7_' w_') (λw_'=>Ey s k a c e u v w_') (λr__=>r__=(GK s k a c e u v)) (λt_ p_ h_ l_ x0_ x1_ x2_ x3_ x4_ x5_ x6_ x7_ r_=>BG ⟨t_,p_,h_,l_,x0_,x1_,x2_,x3_,x4_,x5_,x6_,x7_⟩ (s)∧r_=(GK s k a c e u v)), λ_ _ _ _=>by kernel_rfl,AbL s k a c e u v t p h l x0 x1 x2 x3 x4 x5 x6 x7 hx⟩,⟨λt_ p_ h_ l_ r0_ r1_ r2_ r3_ r4_ r5_ r6_ r7_ w_ hI=>⟨s,Pz s k a c e u v t_ p_ h_ l_ r0_ r1_ r2_ r3_ r4_ r5_ r6_ r7_ w_ (λw_'=>Ey s k a c e u v w_'∧lx (1,0,0) (2,0,0)),(Qi s k a c e u v t_ p_ h_ l_ r0_ r1_ r2_ r3_ r4_ r5_ r6_ r7_ w_ hI).1, λ_=>by kernel_rfl,(Qi s k a c e u v t_ p_ h_ l_ r0_ r1_ r2_ r3_ r4_ r5_ r6_ r7_ w_ hI).2⟩,⟨λw_ hI=>⟨_, λ_ _ _=>by kernel_rfl,AbM s k a c e u v w_ hI⟩,trivial⟩⟩⟩
def Abb:Tb:=(29,Aba)::AdK
theorem RU:CQ Abb:=EO Ag9 UU
def Ef (s:MS) (k a c e u v:Int):Bool:=bif !(FX s a).2 then Bc 5 e u v else DN s c e u v (FX s a).1 0 0
abbrev AbN:Ct Sg:=⟨some Cc,true,[.agg [.i .i64, .i .i64, .i .i64], .agg [.i .i64, .i .i64, .i .i64]], .b⟩
def Qj:Entry Sg:=CW AbN Ef (λ_ _ _ _ _ _ _=>[])
def Qk (s:MS) (k a c e u v:Int) (R_:Bool→Prop):Prop:=(Bo (!Prod.snd (FX s a)) (R_ (Bc 5 e u v)) (R_ (bif !Prod.snd (Am (MS.t s) (MS.p s) (MS.h s) c) then Bc 2 e u v else bif e !=0 then Bc 3 e u v else v==kR (FX s a)&&DL s u (kR (Am (MS.t s) (MS.p s) (MS.h s) c)) 0 0)))
theorem TZ (s:MS) (k a c e u v:Int):Qk s k a c e u v (λr__=>r__=(Ef s k a c e u v)):=by
 unfold Qk
 refine ⟨λh=>?_, λh=>?_⟩
 ·unfold Ef;rw [h];rfl
 ·unfold Ef;rw [h];rfl
theorem ZV:EF 32 Qj:=
 AkR Dg RU (I:=[]) Try.func32 mix (B:=Bg Try.f32) (by kernel_rfl) rfl (by kernel_rfl) 400
  λ_ s k a c e u v hb hp=>⟨_, λ_ _ _=>by kernel_rfl,TZ s k a c e u v⟩
def Ql:Tb:=(32,Qj)::Abb
theorem MF:CQ Ql:=EO ZV RU
def DY (s:MS) (k a c e u v:Int):Bool:=bif !(atR s.l a).2.2 then Bc 4 e u v else DN s c e u v (Am s.t s.p s.h c).1 (bif u !=a then 0 else (atR s.l a).1) (bif u !=a then 0 else (atR s.l a).2.1)
abbrev AeY:Ct Sg:=⟨some Cc,true,[.agg [.i .i64, .i .i64, .i .i64], .agg [.i .i64, .i .i64, .i .i64]], .b⟩
def UV:Entry Sg:=CW AeY (λ(s:MS) (k:Int) (a:Int) (c:Int) (e:Int) (u:Int) (v:Int)=>bif !(atR s.l a).2.2 then Bc 4 e u v else DN s c e u v (Am s.t s.p s.h c).1 (bif u !=a then 0 else (atR s.l a).1) (bif u !=a then 0 else (atR s.l a).2.1)) (λs k a c e u v=>[BC s.l])
def UW (s:MS) (k a c e u v:Int) (Q0:Int→Int→Prop) (Q1:Int→Int→Int→List (Int×Int)→Int→Int→Int→Int→Int→Int→Int→Int→Int→Int→Prop) (Q2:Int→Int→Int→List (Int×Int)→Int→Int→Int→Int→Int→Int→Int→Int→Int→Int→Int→Prop) (Q3:Int→Int→Int→Prop) (R_:Bool→Prop) (O_:Int→Int→Int→List (Int×Int)→Int→Int→Int→Int→Int→Int→Int→Int→Bool→Prop):Prop:=(∀r2:Int×Int×Bool,r2=(atR (MS.l s) a)→(A8 (BC (MS.l s)) (Bo (!r2.2.2) (∀r6:Bool,r6=(Bc 4 e u v)→(R_ (r6))) (Bo (u !=a) (Q0 (0) (0)) (Q0 r2.1 r2.2.1)))))
def RV (s:MS) (k a c e u v y_ z_ t_ p_ h_:Int) (l_:List (Int×Int)) (x0_ x1_ x2_ x3_ x4_ x5_ x6_ x7_:Int) (Q1:Int→Int→Int→List (Int×Int)→Int→Int→Int→Int→Int→Int→Int→Int→Int→Int→Prop):Prop:=(Q1 (t_) (p_) (h_) (l_) (x0_) (x1_) (x2_) (x3_) (x4_) (x5_) (x6_) (x7_) (y_) (z_))
def DZ (s:MS) (k a c e u v y_ z_:Int):Prop:=(atR s.l a).2.2=true∧y_=(bif u !=a then 0 else (atR s.l a).1)∧z_=(bif u !=a then 0 else (atR s.l a).2.1)
def RY (s:MS) (k a c e u v t_ p_ h_:Int) (l_:List (Int×Int)) (r0_ r1_ r2_ r3_ r4_ r5_ r6_ r7_ y_ z_:Int) (Q0:Int→Int→Prop) (Q1:Int→Int→Int→List (Int×Int)→Int→Int→Int→Int→Int→Int→Int→Int→Int→Int→Prop) (Q2:Int→Int→Int→List (Int×Int)→Int→Int→Int→Int→Int→Int→Int→Int→Int→Int→Int→Prop) (Q3:Int→Int→Int→Prop) (R_:Bool→Prop) (O_:Int→Int→Int→List (Int×Int)→Int→Int→Int→Int→Int→Int→Int→Int→Bool→Prop):Prop:=(Q2 (t_) (p_) (h_) (l_) (r0_) (r1_) (r2_) (r3_) (r4_) (r5_) (r6_) (r7_) (y_) (z_) (kR (Am t_ p_ h_ c)))
def DD (s:MS) (k a c e u v t_ p_ h_:Int) (l_:List (Int×Int)) (r0_ r1_ r2_ r3_ r4_ r5_ r6_ r7_ y_ z_:Int):Prop:=s=⟨t_,p_,h_,l_,r0_,r1_,r2_,r3_,r4_,r5_,r6_,r7_⟩∧(atR s.l a).2.2=true∧y_=(bif u !=a then 0 else (atR s.l a).1)∧z_=(bif u !=a then 0 else (atR s.l a).2.1)
def MG (s:MS) (k a c e u v t_ p_ h_:Int) (l_:List (Int×Int)) (r0_ r1_ r2_ r3_ r4_ r5_ r6_ r7_ y_ z_ w_:Int) (Q3:Int→Int→Int→Prop):Prop:=(Q3 (y_) (z_) (w_))
def Ea (s:MS) (k a c e u v t_ p_ h_:Int) (l_:List (Int×Int)) (r0_ r1_ r2_ r3_ r4_ r5_ r6_ r7_ y_ z_ w_:Int):Prop:=s=⟨t_,p_,h_,l_,r0_,r1_,r2_,r3_,r4_,r5_,r6_,r7_⟩∧(atR s.l a).2.2=true∧y_=(bif u !=a then 0 else (atR s.l a).1)∧z_=(bif u !=a then 0 else (atR s.l a).2.1)∧w_=(Am s.t s.p s.h c).1
def RZ (s:MS) (k a c e u v y_ z_ w_:Int) (Q0:Int→Int→Prop) (Q1:Int→Int→Int→List (Int×Int)→Int→Int→Int→Int→Int→Int→Int→Int→Int→Int→Prop) (Q2:Int→Int→Int→List (Int×Int)→Int→Int→Int→Int→Int→Int→Int→Int→Int→Int→Int→Prop) (Q3:Int→Int→Int→Prop) (R_:Bool→Prop) (O_:Int→Int→Int→List (Int×Int)→Int→Int→Int→Int→Int→Int→Int→Int→Bool→Prop):Prop:=(∀r0:Bool,r0=(bif !Prod.snd (Am (MS.t s) (MS.p s) (MS.h s) c) then Bc 2 e u v else bif e !=0 then Bc 3 e u v else v==w_&&DL s u (kR (Am (MS.t s) (MS.p s) (MS.h s) c)) y_ z_)→(R_ (r0)))
def D7 (s:MS) (k a c e u v y_ z_ w_:Int):Prop:=(atR s.l a).2.2=true∧y_=(bif u !=a then 0 else (atR s.l a).1)∧z_=(bif u !=a then 0 else (atR s.l a).2.1)∧w_=(Am s.t s.p s.h c).1
theorem XQ (s:MS) (k a c e u v:Int) (hp0:BC s.l):UW s k a c e u v (λy_' z_'=>DZ s k a c e u v y_' z_') (λt_' p_' h_' l_' r0_' r1_' r2_' r3_' r4_' r5_' r6_' r7_' y_' z_'=>DD s k a c e u v t_' p_' h_' l_' r0_' r1_' r2_' r3_' r4_' r5_' r6_' r7_' y_' z_') (λt_' p_' h_' l_' r0_' r1_' r2_' r3_' r4_' r5_' r6_' r7_' y_' z_' w_'=>Ea s k a c e u v t_' p_' h_' l_' r0_' r1_' r2_' r3_' r4_' r5_' r6_' r7_' y_' z_' w_') (λy_' z_' w_'=>D7 s k a c e u v y_' z_' w_') (λr__=>r__=(DY s k a c e u v)) (λt_ p_ h_ l_ x0_ x1_ x2_ x3_ x4_ x5_ x6_ x7_ r_=>BG ⟨t_,p_,h_,l_,x0_,x1_,x2_,x3_,x4_,x5_,x6_,x7_⟩ (s)∧r_=(DY s k a c e u v)):=by
 unfold UW
 try unfold DZ
 try unfold DD
 try unfold Ea
 try unfold D7
 rintro r2 rfl
 refine ⟨hp0, λ_=>⟨λh1=>?_, λh1=>⟨λh2=>?_, λh2=>?_⟩⟩⟩
 ·rintro r6 rfl
  show _=DY s k a c e u v
  unfold DY;rw [h1];rfl
 ·exact ⟨by simpa using h1,by rw [h2];rfl,by rw [h2];rfl⟩
 ·exact ⟨by simpa using h1,by rw [h2];rfl,by rw [h2];rfl⟩
theorem XR (s:MS) (k a c e u v:Int) (hp0:BC s.l) (y_ z_ t_ p_ h_:Int) (l_:List (Int×Int)) (x0_ x1_ x2_ x3_ x4_ x5_ x6_ x7_:Int) (hI:DZ s k a c e u v y_ z_) (hx:BG ⟨t_,p_,h_,l_,x0_,x1_,x2_,x3_,x4_,x5_,x6_,x7_⟩ (s)):RV s k a c e u v y_ z_ t_ p_ h_ l_ x0_ x1_ x2_ x3_ x4_ x5_ x6_ x7_ (λt_' p_' h_' l_' r0_' r1_' r2_' r3_' r4_' r5_' r6_' r7_' y_' z_'=>DD s k a c e u v t_' p_' h_' l_' r0_' r1_' r2_' r3_' r4_' r5_' r6_' r7_' y_' z_'∧lx (3,0,0) (4,0,0)):=by
 unfold DZ at hI
 unfold RV
 try unfold DZ
 try unfold DD
 try unfold Ea
 try unfold D7
 exact ⟨⟨hx.symm,hI⟩,Cb⟩
theorem XT (s:MS) (k a c e u v:Int) (hp0:BC s.l) (t_ p_ h_:Int) (l_:List (Int×Int)) (r0_ r1_ r2_ r3_ r4_ r5_ r6_ r7_ y_ z_:Int) (hI:DD s k a c e u v t_ p_ h_ l_ r0_ r1_ r2_ r3_ r4_ r5_ r6_ r7_ y_ z_):RY s k a c e u v t_ p_ h_ l_ r0_ r1_ r2_ r3_ r4_ r5_ r6_ r7_ y_ z_ (λy_' z_'=>DZ s k a c e u v y_' z_'∧lx (4,0,0) (3,0,0)) (λt_' p_' h_' l_' r0_' r1_' r2_' r3_' r4_' r5_' r6_' r7_' y_' z_'=>DD s k a c e u v t_' p_' h_' l_' r0_' r1_' r2_' r3_' r4_' r5_' r6_' r7_' y_' z_'∧lx (3,0,0) (3,0,0)) (λt_' p_' h_' l_' r0_' r1_' r2_' r3_' r4_' r5_' r6_' r7_' y_' z_' w_'=>Ea s k a c e u v t_' p_' h_' l_' r0_' r1_' r2_' r3_' r4_' r5_' r6_' r7_' y_' z_' w_'∧lx (2,0,0) (3,0,0)) (λy_' z_' w_'=>D7 s k a c e u v y_' z_' w_'∧lx (1,0,0) (3,0,0)) (λr__=>r__=(DY s k a c e u v)) (λt_ p_ h_ l_ x0_ x1_ x2_ x3_ x4_ x5_ x6_ x7_ r_=>BG ⟨t_,p_,h_,l_,x0_,x1_,x2_,x3_,x4_,x5_,x6_,x7_⟩ (s)∧r_=(DY s k a c e u v)):=by
 unfold DD at hI
 unfold RY
 try unfold DZ
 try unfold DD
 try unfold Ea
 try unfold D7
 obtain ⟨rfl,h1,h2,h3⟩:=hI
 exact ⟨⟨rfl,h1,h2,h3,rfl⟩,Cb⟩
theorem N8 (s:MS) (k a c e u v:Int) (hp0:BC s.l) (t_ p_ h_:Int) (l_:List (Int×Int)) (r0_ r1_ r2_ r3_ r4_ r5_ r6_ r7_ y_ z_ w_:Int) (hI:Ea s k a c e u v t_ p_ h_ l_ r0_ r1_ r2_ r3_ r4_ r5_ r6_ r7_ y_ z_ w_):(BG ⟨t_,p_,h_,l_,r0_,r1_,r2_,r3_,r4_,r5_,r6_,r7_⟩ s)∧MG s k a c e u v t_ p_ h_ l_ r0_ r1_ r2_ r3_ r4_ r5_ r6_ r7_ y_ z_ w_ (λy_' z_' w_'=>D7 s k a c e u v y_' z_' w_'∧lx (1,0,0) (2,0,0)):=by
 unfold Ea at hI
 unfold MG
 try unfold DZ
 try unfold DD
 try unfold Ea
 try unfold D7
 obtain ⟨rfl,hI⟩:=hI
 exact ⟨rfl,hI,Cb⟩
theorem XU (s:MS) (k a c e u v:Int) (hp0:BC s.l) (y_ z_ w_:Int) (hI:D7 s k a c e u v y_ z_ w_):RZ s k a c e u v y_ z_ w_ (λy_' z_'=>DZ s k a c e u v y_' z_'∧lx (4,0,0) (1,0,0)) (λt_' p_' h_' l_' r0_' r1_' r2_' r3_' r4_' r5_' r6_' r7_' y_' z_'=>DD s k a c e u v t_' p_' h_' l_' r0_' r1_' r2_' r3_' r4_' r5_' r6_' r7_' y_' z_'∧lx (3,0,0) (1,0,0)) (λt_' p_' h_' l_' r0_' r1_' r2_' r3_' r4_' r5_' r6_' r7_' y_' z_' w_'=>Ea s k a c e u v t_' p_' h_' l_' r0_' r1_' r2_' r3_' r4_' r5_' r6_' r7_' y_' z_' w_'∧lx (2,0,0) (1,0,0)) (λy_' z_' w_'=>D7 s k a c e u v y_' z_' w_'∧lx (1,0,0) (1,0,0)) (λr__=>r__=(DY s k a c e u v)) (λt_ p_ h_ l_ x0_ x1_ x2_ x3_ x4_ x5_ x6_ x7_ r_=>BG ⟨t_,p_,h_,l_,x0_,x1_,x2_,x3_,x4_,x5_,x6_,x7_⟩ (s)∧r_=(DY s k a c e u v)):=by
 unfold D7 at hI
 unfold RZ
 try unfold DZ
 try unfold DD
 try unfold Ea
 try unfold D7
 obtain ⟨h1,rfl,rfl,rfl⟩:=hI
 rintro r0 rfl
 unfold DY;rw [h1];rfl
theorem AdL:EF 31 UV:=
 GH Dg Fa false MF (I:=[1426900,2706000,2999998]) Try.func31 mix (B:=Bg Try.f31) (by kernel_rfl) rfl (by kernel_rfl) 400
  λo s k a c e u v hb hp=>have hp0:BC s.l:=hp _ (.head _);⟨s,s,(DY s k a c e u v),[⟨some 900,[0,1,1,1,1],[.code [1,1,1,1,1]],[0,4,5,7],[.objk Cc ⟨o,0,none⟩ (s), .box 29 [.ic .i64 (k), .ic .i64 (a), .ic .i64 (c)], .box 32 [.ic .i64 (e), .ic .i64 (u), .ic .i64 (v)], .box 55 [.i .i64, .i .i64]]⟩,⟨some 900,[0,1,1,1,1],[.code [1,1,1,1,1]],[0,4,5,7],[.boxc o BQ.t BQ.l, .box 29 [.ic .i64 (k), .ic .i64 (a), .ic .i64 (c)], .box 32 [.ic .i64 (e), .ic .i64 (u), .ic .i64 (v)], .box 55 [.i .i64, .i .i64]]⟩,⟨some 0,[0,1,1,1,1,1],[.code [1,1,1,1,1,1]],[0,4,5,7,9],[.boxc o BQ.t BQ.l, .box 29 [.ic .i64 (k), .ic .i64 (a), .ic .i64 (c)], .box 32 [.ic .i64 (e), .ic .i64 (u), .ic .i64 (v)], .box 55 [.i .i64, .i .i64], .i .i64]⟩,⟨some 0,[0,1,1,1,1,1],[.code [1,1,1,1,1,1]],[0,4,5,7,9],[.objk Cc ⟨o,0,none⟩ (s), .box 29 [.ic .i64 (k), .ic .i64 (a), .ic .i64 (c)], .box 32 [.ic .i64 (e), .ic .i64 (u), .ic .i64 (v)], .box 55 [.i .i64, .i .i64], .i .i64]⟩],[.opn 0 (λ_=>o) 1, .run, .cls 3, .run], λj=>iN [AA (Hd.kd (⟨some 900,[0,1,1,1,1],[.code [1,1,1,1,1]],[0,4,5,7],[.objk Cc ⟨o,0,none⟩ (s), .box 29 [.ic .i64 (k), .ic .i64 (a), .ic .i64 (c)], .box 32 [.ic .i64 (e), .ic .i64 (u), .ic .i64 (v)], .box 55 [.i .i64, .i .i64]]⟩:Hd Sg)) (λy_' z_'=>DZ s k a c e u v y_' z_'),AA (Hd.kd (⟨some 900,[0,1,1,1,1],[.code [1,1,1,1,1]],[0,4,5,7],[.boxc o BQ.t BQ.l, .box 29 [.ic .i64 (k), .ic .i64 (a), .ic .i64 (c)], .box 32 [.ic .i64 (e), .ic .i64 (u), .ic .i64 (v)], .box 55 [.i .i64, .i .i64]]⟩:Hd Sg)) (λt_' p_' h_' l_' r0_' r1_' r2_' r3_' r4_' r5_' r6_' r7_' y_' z_'=>DD s k a c e u v t_' p_' h_' l_' r0_' r1_' r2_' r3_' r4_' r5_' r6_' r7_' y_' z_'),AA (Hd.kd (⟨some 0,[0,1,1,1,1,1],[.code [1,1,1,1,1,1]],[0,4,5,7,9],[.boxc o BQ.t BQ.l, .box 29 [.ic .i64 (k), .ic .i64 (a), .ic .i64 (c)], .box 32 [.ic .i64 (e), .ic .i64 (u), .ic .i64 (v)], .box 55 [.i .i64, .i .i64], .i .i64]⟩:Hd Sg)) (λt_' p_' h_' l_' r0_' r1_' r2_' r3_' r4_' r5_' r6_' r7_' y_' z_' w_'=>Ea s k a c e u v t_' p_' h_' l_' r0_' r1_' r2_' r3_' r4_' r5_' r6_' r7_' y_' z_' w_'),AA (Hd.kd (⟨some 0,[0,1,1,1,1,1],[.code [1,1,1,1,1,1]],[0,4,5,7,9],[.objk Cc ⟨o,0,none⟩ (s), .box 29 [.ic .i64 (k), .ic .i64 (a), .ic .i64 (c)], .box 32 [.ic .i64 (e), .ic .i64 (u), .ic .i64 (v)], .box 55 [.i .i64, .i .i64], .i .i64]⟩:Hd Sg)) (λy_' z_' w_'=>D7 s k a c e u v y_' z_' w_')] j (λ_=>False), λj=>iN [AA (Hd.kd (⟨some 900,[0,1,1,1,1],[.code [1,1,1,1,1]],[0,4,5,7],[.objk Cc ⟨o,0,none⟩ (s), .box 29 [.ic .i64 (k), .ic .i64 (a), .ic .i64 (c)], .box 32 [.ic .i64 (e), .ic .i64 (u), .ic .i64 (v)], .box 55 [.i .i64, .i .i64]]⟩:Hd Sg)) (λy_' z_'=>(4,0,0)),AA (Hd.kd (⟨some 900,[0,1,1,1,1],[.code [1,1,1,1,1]],[0,4,5,7],[.boxc o BQ.t BQ.l, .box 29 [.ic .i64 (k), .ic .i64 (a), .ic .i64 (c)], .box 32 [.ic .i64 (e), .ic .i64 (u), .ic .i64 (v)], .box 55 [.i .i64, .i .i64]]⟩:Hd Sg)) (λt_' p_' h_' l_' r0_' r1_' r2_' r3_' r4_' r5_' r6_' r7_' y_' z_'=>(3,0,0)),AA (Hd.kd (⟨some 0,[0,1,1,1,1,1],[.code [1,1,1,1,1,1]],[0,4,5,7,9],[.boxc o BQ.t BQ.l, .box 29 [.ic .i64 (k), .ic .i64 (a), .ic .i64 (c)], .box 32 [.ic .i64 (e), .ic .i64 (u), .ic .i64 (v)], .box 55 [.i .i64, .i .i64], .i .i64]⟩:Hd Sg)) (λt_' p_' h_' l_' r0_' r1_' r2_' r3_' r4_' r5_' r6_' r7_' y_' z_' w_'=>(2,0,0)),AA (Hd.kd (⟨some 0,[0,1,1,1,1,1],[.code [1,1,1,1,1,1]],[0,4,5,7,9],[.objk Cc ⟨o,0,none⟩ (s), .box 29 [.ic .i64 (k), .ic .i64 (a), .ic .i64 (c)], .box 32 [.ic .i64 (e), .ic .i64 (u), .ic .i64 (v)], .box 55 [.i .i64, .i .i64], .i .i64]⟩:Hd Sg)) (λy_' z_' w_'=>(1,0,0))] j (λ_=>(0,0,0)),by kernel_rfl, λ_ _=>by kernel_rfl,by kernel_rfl,⟨_, λ_ _ _=>by kernel_rfl,XQ s k a c e u v hp0⟩,⟨λy_ z_ hI=>⟨s, λ_=>by kernel_rfl, λt_ p_ h_ l_ x0_ x1_ x2_ x3_ x4_ x5_ x6_ x7_ hx=>⟨_, λ_ _=>by kernel_rfl,XR s k a c e u v hp0 y_ z_ t_ p_ h_ l_ x0_ x1_ x2_ x3_ x4_ x5_ x6_ x7_ hI hx⟩⟩,⟨λt_ p_ h_ l_ r0_ r1_ r2_ r3_ r4_ r5_ r6_ r7_ y_ z_ hI=>⟨_, λ_ _ _=>by kernel_rfl,XT s k a c e u v hp0 t_ p_ h_ l_ r0_ r1_ r2_ r3_ r4_ r5_ r6_ r7_ y_ z_ hI⟩,⟨λt_ p_ h_ l_ r0_ r1_ r2_ r3_ r4_ r5_ r6_ r7_ y_ z_ w_ hI=>⟨s,MG s k a c e u v t_ p_ h_ l_ r0_ r1_ r2_ r3_ r4_ r5_ r6_ r7_ y_ z_ w_ (λy_' z_' w_'=>D7 s k a c e u v y_' z_' w_'∧lx (1,0,0) (2,0,0)),(N8 s k a c e u v hp0 t_ p_ h_ l_ r0_ r1_ r2_ r3_ r4_ r5_ r6_ r7_ y_ z_ w_ hI).1, λ_=>by kernel_rfl,(N8 s k a c e u v hp0 t_ p_ h_ l_ r0_ r1_ r2_ r3_ r4_ r5_ r6_ r7_ y_ z_ w_ hI).2⟩,⟨λy_ z_ w_ hI=>⟨_, λ_ _ _=>by kernel_rfl,XU s k a c e u v hp0 y_ z_ w_ hI⟩,trivial⟩⟩⟩⟩⟩
def UX:Tb:=(31,UV)::Ql
theorem OC:CQ UX:=EO AdL MF
def Gt (s:MS) (k a c e u v:Int):Bool:=bif !(atR s.l a).2.2 then Bc 4 e u v else bif [s.r0,s.r1,s.r2,s.r3,s.r4,s.r5,s.r6,s.r7].contains a then Bc 6 e u v else AdG e u v (atR s.l a).2.1 0
abbrev AiT:Ct Sg:=⟨some Cc,true,[.agg [.i .i64, .i .i64, .i .i64], .agg [.i .i64, .i .i64, .i .i64]], .b⟩
def AdM:Entry Sg:=CW AiT (λ(s:MS) (k:Int) (a:Int) (c:Int) (e:Int) (u:Int) (v:Int)=>bif !(atR s.l a).2.2 then Bc 4 e u v else bif [s.r0,s.r1,s.r2,s.r3,s.r4,s.r5,s.r6,s.r7].contains a then Bc 6 e u v else AdG e u v (atR s.l a).2.1 0) (λs k a c e u v=>[BC s.l])
def AdN (s:MS) (k a c e u v:Int) (Q0:Int→Int→Prop) (Q1:Int→Int→Int→List (Int×Int)→Int→Int→Int→Int→Int→Int→Int→Int→Int→Int→Prop) (R_:Bool→Prop) (O_:Int→Int→Int→List (Int×Int)→Int→Int→Int→Int→Int→Int→Int→Int→Bool→Prop):Prop:=(∀r2:Int×Int×Bool,r2=(atR (MS.l s) a)→(A8 (BC (MS.l s)) (Bo (!r2.2.2) (∀r6:Bool,r6=(Bc 4 e u v)→(R_ (r6))) (Q0 r2.1 r2.2.1))))
def Abc (s:MS) (k a c e u v y_ z_ t_ p_ h_:Int) (l_:List (Int×Int)) (x0_ x1_ x2_ x3_ x4_ x5_ x6_ x7_:Int) (Q1:Int→Int→Int→List (Int×Int)→Int→Int→Int→Int→Int→Int→Int→Int→Int→Int→Prop):Prop:=(Q1 (t_) (p_) (h_) (l_) (x0_) (x1_) (x2_) (x3_) (x4_) (x5_) (x6_) (x7_) (y_) (z_))
def GU (s:MS) (k a c e u v y_ z_:Int):Prop:=(atR s.l a).2.2=true∧z_=(atR s.l a).2.1
abbrev I4 (e u v:Int) (O_:Int→Int→Int→List (Int×Int)→Int→Int→Int→Int→Int→Int→Int→Int→Bool→Prop) (t_ p_ h_:Int) (l_:List (Int×Int)) (r0_ r1_ r2_ r3_ r4_ r5_ r6_ r7_ z_:Int):Prop:=(Bo (true) (∀r3:Bool,r3=(Bc 6 e u v)→(O_ (t_) (p_) (h_) (l_) (r0_) (r1_) (r2_) (r3_) (r4_) (r5_) (r6_) (r7_) (r3))) (O_ (t_) (p_) (h_) (l_) (r0_) (r1_) (r2_) (r3_) (r4_) (r5_) (r6_) (r7_) (e==0&&(u==z_&&(v==0&&true)))))
def Abd (s:MS) (k a c e u v t_ p_ h_:Int) (l_:List (Int×Int)) (r0_ r1_ r2_ r3_ r4_ r5_ r6_ r7_ y_ z_:Int) (Q0:Int→Int→Prop) (Q1:Int→Int→Int→List (Int×Int)→Int→Int→Int→Int→Int→Int→Int→Int→Int→Int→Prop) (R_:Bool→Prop) (O_:Int→Int→Int→List (Int×Int)→Int→Int→Int→Int→Int→Int→Int→Int→Bool→Prop):Prop:=(tw_ (A8 ((0:Int)≤0∧(0:Int)<8) (Bo (a==r0_) (I4 e u v O_ t_ p_ h_ l_ r0_ r1_ r2_ r3_ r4_ r5_ r6_ r7_ z_) (A8 ((0:Int)≤1∧(1:Int)<8) (Bo (a==r1_) (I4 e u v O_ t_ p_ h_ l_ r0_ r1_ r2_ r3_ r4_ r5_ r6_ r7_ z_) (A8 ((0:Int)≤2∧(2:Int)<8) (Bo (a==r2_) (I4 e u v O_ t_ p_ h_ l_ r0_ r1_ r2_ r3_ r4_ r5_ r6_ r7_ z_) (A8 ((0:Int)≤3∧(3:Int)<8) (Bo (a==r3_) (I4 e u v O_ t_ p_ h_ l_ r0_ r1_ r2_ r3_ r4_ r5_ r6_ r7_ z_) (A8 ((0:Int)≤4∧(4:Int)<8) (Bo (a==r4_) (I4 e u v O_ t_ p_ h_ l_ r0_ r1_ r2_ r3_ r4_ r5_ r6_ r7_ z_) (A8 ((0:Int)≤5∧(5:Int)<8) (Bo (a==r5_) (I4 e u v O_ t_ p_ h_ l_ r0_ r1_ r2_ r3_ r4_ r5_ r6_ r7_ z_) (A8 ((0:Int)≤6∧(6:Int)<8) (Bo (a==r6_) (I4 e u v O_ t_ p_ h_ l_ r0_ r1_ r2_ r3_ r4_ r5_ r6_ r7_ z_) (A8 ((0:Int)≤7∧(7:Int)<8) (Bo (a==r7_) (I4 e u v O_ t_ p_ h_ l_ r0_ r1_ r2_ r3_ r4_ r5_ r6_ r7_ z_) (Bo (false) (∀r17:Bool,r17=(Bc 6 e u v)→(O_ (t_) (p_) (h_) (l_) (r0_) (r1_) (r2_) (r3_) (r4_) (r5_) (r6_) (r7_) (r17))) (O_ (t_) (p_) (h_) (l_) (r0_) (r1_) (r2_) (r3_) (r4_) (r5_) (r6_) (r7_) (e==0&&(u==z_&&(v==0&&true))))))))))))))))))))))
def Gu (s:MS) (k a c e u v t_ p_ h_:Int) (l_:List (Int×Int)) (r0_ r1_ r2_ r3_ r4_ r5_ r6_ r7_ y_ z_:Int):Prop:=s=⟨t_,p_,h_,l_,r0_,r1_,r2_,r3_,r4_,r5_,r6_,r7_⟩∧(atR s.l a).2.2=true∧z_=(atR s.l a).2.1
theorem AdO (s:MS) (k a c e u v:Int) (hp0:BC s.l):AdN s k a c e u v (λy_' z_'=>GU s k a c e u v y_' z_') (λt_' p_' h_' l_' r0_' r1_' r2_' r3_' r4_' r5_' r6_' r7_' y_' z_'=>Gu s k a c e u v t_' p_' h_' l_' r0_' r1_' r2_' r3_' r4_' r5_' r6_' r7_' y_' z_') (λr__=>r__=(Gt s k a c e u v)) (λt_ p_ h_ l_ x0_ x1_ x2_ x3_ x4_ x5_ x6_ x7_ r_=>BG ⟨t_,p_,h_,l_,x0_,x1_,x2_,x3_,x4_,x5_,x6_,x7_⟩ (s)∧r_=(Gt s k a c e u v)):=by
 unfold AdN
 try unfold GU
 try unfold Gu
 rintro r2 rfl
 refine ⟨hp0, λ_=>⟨λh1=>?_, λh1=>⟨by simpa using h1,rfl⟩⟩⟩
 rintro r6 rfl
 show _=Gt s k a c e u v
 unfold Gt;rw [h1];rfl
theorem AdP (s:MS) (k a c e u v:Int) (hp0:BC s.l) (y_ z_ t_ p_ h_:Int) (l_:List (Int×Int)) (x0_ x1_ x2_ x3_ x4_ x5_ x6_ x7_:Int) (hI:GU s k a c e u v y_ z_) (hx:BG ⟨t_,p_,h_,l_,x0_,x1_,x2_,x3_,x4_,x5_,x6_,x7_⟩ (s)):Abc s k a c e u v y_ z_ t_ p_ h_ l_ x0_ x1_ x2_ x3_ x4_ x5_ x6_ x7_ (λt_' p_' h_' l_' r0_' r1_' r2_' r3_' r4_' r5_' r6_' r7_' y_' z_'=>Gu s k a c e u v t_' p_' h_' l_' r0_' r1_' r2_' r3_' r4_' r5_' r6_' r7_' y_' z_'∧lx (3,0,0) (4,0,0)):=by
 unfold GU at hI
 unfold Abc
 try unfold GU
 try unfold Gu
 exact ⟨⟨hx.symm,hI⟩,Cb⟩
theorem AdQ (s:MS) (k a c e u v:Int) (hp0:BC s.l) (t_ p_ h_:Int) (l_:List (Int×Int)) (r0_ r1_ r2_ r3_ r4_ r5_ r6_ r7_ y_ z_:Int) (hI:Gu s k a c e u v t_ p_ h_ l_ r0_ r1_ r2_ r3_ r4_ r5_ r6_ r7_ y_ z_):Abd s k a c e u v t_ p_ h_ l_ r0_ r1_ r2_ r3_ r4_ r5_ r6_ r7_ y_ z_ (λy_' z_'=>GU s k a c e u v y_' z_'∧lx (4,0,0) (3,0,0)) (λt_' p_' h_' l_' r0_' r1_' r2_' r3_' r4_' r5_' r6_' r7_' y_' z_'=>Gu s k a c e u v t_' p_' h_' l_' r0_' r1_' r2_' r3_' r4_' r5_' r6_' r7_' y_' z_'∧lx (3,0,0) (3,0,0)) (λr__=>r__=(Gt s k a c e u v)) (λt_ p_ h_ l_ x0_ x1_ x2_ x3_ x4_ x5_ x6_ x7_ r_=>BG ⟨t_,p_,h_,l_,x0_,x1_,x2_,x3_,x4_,x5_,x6_,x7_⟩ (s)∧r_=(Gt s k a c e u v)):=by
 unfold Gu at hI
 unfold Abd I4
 try unfold GU
 try unfold Gu
 obtain ⟨rfl,h1,rfl⟩:=hI
 have key:Gt ⟨t_,p_,h_,l_,r0_,r1_,r2_,r3_,r4_,r5_,r6_,r7_⟩ k a c e u v=bif [r0_,r1_,r2_,r3_,r4_,r5_,r6_,r7_].contains a then Bc 6 e u v else AdG e u v (atR l_ a).2.1 0:=by unfold Gt;rw [h1];rfl
 apply AlA
 refine ⟨by decide, λ_=>⟨λe0=>⟨λ_=>?_, λh=>(by cases h)⟩, λe0=>?_⟩⟩
 ·rintro r rfl;exact ⟨rfl,by rw [key];simp only [lE,e0,kN,lV,cond_true]⟩
 refine ⟨by decide, λ_=>⟨λe1=>⟨λ_=>?_, λh=>(by cases h)⟩, λe1=>?_⟩⟩
 ·rintro r rfl;exact ⟨rfl,by rw [key];simp only [lE,e0,e1,kN,lV,cond_true]⟩
 refine ⟨by decide, λ_=>⟨λe2=>⟨λ_=>?_, λh=>(by cases h)⟩, λe2=>?_⟩⟩
 ·rintro r rfl;exact ⟨rfl,by rw [key];simp only [lE,e0,e1,e2,kN,lV,cond_true]⟩
 refine ⟨by decide, λ_=>⟨λe3=>⟨λ_=>?_, λh=>(by cases h)⟩, λe3=>?_⟩⟩
 ·rintro r rfl;exact ⟨rfl,by rw [key];simp only [lE,e0,e1,e2,e3,kN,lV,cond_true]⟩
 refine ⟨by decide, λ_=>⟨λe4=>⟨λ_=>?_, λh=>(by cases h)⟩, λe4=>?_⟩⟩
 ·rintro r rfl;exact ⟨rfl,by rw [key];simp only [lE,e0,e1,e2,e3,e4,kN,lV,cond_true]⟩
 refine ⟨by decide, λ_=>⟨λe5=>⟨λ_=>?_, λh=>(by cases h)⟩, λe5=>?_⟩⟩
 ·rintro r rfl;exact ⟨rfl,by rw [key];simp only [lE,e0,e1,e2,e3,e4,e5,kN,lV,cond_true]⟩
 refine ⟨by decide, λ_=>⟨λe6=>⟨λ_=>?_, λh=>(by cases h)⟩, λe6=>?_⟩⟩
 ·rintro r rfl;exact ⟨rfl,by rw [key];simp only [lE,e0,e1,e2,e3,e4,e5,e6,kN,lV,cond_true]⟩
 refine ⟨by decide, λ_=>⟨λe7=>⟨λ_=>?_, λh=>(by cases h)⟩, λe7=>?_⟩⟩
 ·rintro r rfl;exact ⟨rfl,by rw [key];simp only [lE,e0,e1,e2,e3,e4,e5,e6,e7,kN,lV,cond_true]⟩
 exact ⟨λh=>(by cases h), λ_=>⟨rfl,by rw [key];simp only [lE,List.contains_nil,e0,e1,e2,e3,e4,e5,e6,e7,kN,cond_false];rfl⟩⟩
theorem AhK:EF 30 AdM:=
 GH Dg Fa false OC (I:=[65,81,7746900,2999999,2999998]) Try.func30 mix (B:=Bg Try.f30) (by kernel_rfl) rfl (by kernel_rfl) 400
  λo s k a c e u v hb hp=>have hp0:BC s.l:=hp _ (.head _);⟨s,s,(Gt s k a c e u v),[⟨some 900,[0,1,1,0,0,1,1],[.code [1,1,1,0,0,1,1], .blk 0, .code [1,1,1]],[0,4,5,7],[.objk Cc ⟨o,0,none⟩ (s), .box 29 [.ic .i64 (k), .ic .i64 (a), .ic .i64 (c)], .box 32 [.ic .i64 (e), .ic .i64 (u), .ic .i64 (v)], .box 55 [.i .i64, .i .i64]]⟩,⟨some 900,[0,1,1,0,0,1,1],[.code [1,1,1,0,0,1,1], .blk 0, .code [1,1,1]],[0,4,5,7],[.boxc o BQ.t BQ.l, .box 29 [.ic .i64 (k), .ic .i64 (a), .ic .i64 (c)], .box 32 [.ic .i64 (e), .ic .i64 (u), .ic .i64 (v)], .box 55 [.i .i64, .i .i64]]⟩],[.opn 0 (λ_=>o) 1, .run], λj=>iN [AA (Hd.kd (⟨some 900,[0,1,1,0,0,1,1],[.code [1,1,1,0,0,1,1], .blk 0, .code [1,1,1]],[0,4,5,7],[.objk Cc ⟨o,0,none⟩ (s), .box 29 [.ic .i64 (k), .ic .i64 (a), .ic .i64 (c)], .box 32 [.ic .i64 (e), .ic .i64 (u), .ic .i64 (v)], .box 55 [.i .i64, .i .i64]]⟩:Hd Sg)) (λy_' z_'=>GU s k a c e u v y_' z_'),AA (Hd.kd (⟨some 900,[0,1,1,0,0,1,1],[.code [1,1,1,0,0,1,1], .blk 0, .code [1,1,1]],[0,4,5,7],[.boxc o BQ.t BQ.l, .box 29 [.ic .i64 (k), .ic .i64 (a), .ic .i64 (c)], .box 32 [.ic .i64 (e), .ic .i64 (u), .ic .i64 (v)], .box 55 [.i .i64, .i .i64]]⟩:Hd Sg)) (λt_' p_' h_' l_' r0_' r1_' r2_' r3_' r4_' r5_' r6_' r7_' y_' z_'=>Gu s k a c e u v t_' p_' h_' l_' r0_' r1_' r2_' r3_' r4_' r5_' r6_' r7_' y_' z_')] j (λ_=>False), λj=>iN [AA (Hd.kd (⟨some 900,[0,1,1,0,0,1,1],[.code [1,1,1,0,0,1,1], .blk 0, .code [1,1,1]],[0,4,5,7],[.objk Cc ⟨o,0,none⟩ (s), .box 29 [.ic .i64 (k), .ic .i64 (a), .ic .i64 (c)], .box 32 [.ic .i64 (e), .ic .i64 (u), .ic .i64 (v)], .box 55 [.i .i64, .i .i64]]⟩:Hd Sg)) (λy_' z_'=>(4,0,0)),AA (Hd.kd (⟨some 900,[0,1,1,0,0,1,1],[.code [1,1,1,0,0,1,1], .blk 0, .code [1,1,1]],[0,4,5,7],[.boxc o BQ.t BQ.l, .box 29 [.ic .i64 (k), .ic .i64 (a), .ic .i64 (c)], .box 32 [.ic .i64 (e), .ic .i64 (u), .ic .i64 (v)], .box 55 [.i .i64, .i .i64]]⟩:Hd Sg)) (λt_' p_' h_' l_' r0_' r1_' r2_' r3_' r4_' r5_' r6_' r7_' y_' z_'=>(3,0,0))] j (λ_=>(0,0,0)),by kernel_rfl, λ_ _=>by kernel_rfl,by kernel_rfl,⟨_, λ_ _ _=>by kernel_rfl,AdO s k a c e u v hp0⟩,⟨λy_ z_ hI=>⟨s, λ_=>by kernel_rfl, λt_ p_ h_ l_ x0_ x1_ x2_ x3_ x4_ x5_ x6_ x7_ hx=>⟨_, λ_ _=>by kernel_rfl,AdP s k a c e u v hp0 y_ z_ t_ p_ h_ l_ x0_ x1_ x2_ x3_ x4_ x5_ x6_ x7_ hI hx⟩⟩,⟨λt_ p_ h_ l_ r0_ r1_ r2_ r3_ r4_ r5_ r6_ r7_ y_ z_ hI=>⟨_, λ_ _ _=>by kernel_rfl,AdQ s k a c e u v hp0 t_ p_ h_ l_ r0_ r1_ r2_ r3_ r4_ r5_ r6_ r7_ y_ z_ hI⟩,trivial⟩⟩⟩
def AdR:Tb:=(30,AdM)::UX
theorem UY:CQ AdR:=EO AhK OC
end
section
open Go.Sl
def Aj4 (s:MS) (k a c e u v:Int):Bool:=bif k==1 then GK s k a c e u v else bif k==2 then Gt s k a c e u v else bif k==3 then DY s k a c e u v else bif k==4 then Ef s k a c e u v else bif k==5 then FC s k a c e u v else bif k==6 then Jb s k a c e u v else bif k==7 then JI s k a c e u v else bif k==8 then GI s k a c e u v else bif k==9 then Gj s k a c e u v else false
theorem AgA {k a c:Int} (h:FQ k a c=true):k=1∨k=2∨k=3∨k=4∨k=5∨k=6∨k=7∨k=8∨k=9:=by
 apply Classical.byContradiction
 intro hn
 simp only [not_or] at hn
 obtain ⟨h1,h2,h3,h4,h5,h6,h7,h8,h9⟩:=hn
 have e:∀i:Int,k≠i→(k==i)=false:= λi h=>by simpa using h
 unfold FQ at h
 rw [e 1 h1,e 2 h2,e 3 h3,e 4 h4,e 5 h5,e 6 h6,e 7 h7,e 8 h8,e 9 h9] at h
 cases h
def AP (s:MS) (k a c e u v:Int):Bool:=bif !FQ k a c then Bc 1 e u v else Aj4 s k a c e u v
abbrev AgB:Ct Sg:=⟨some Cc,true,[.agg [.i .i64, .i .i64, .i .i64], .agg [.i .i64, .i .i64, .i .i64]], .b⟩
def XV:Entry Sg:=CW AgB AP (λs k a c e u v=>[BC s.l])
def P5 (s:MS) (k a c e u v:Int) (Q0:Int→Prop) (R_:Bool→Prop):Prop:=(Bo (!true) (R_ (false)) (Bo (!FQ k a c) (R_ (Bc 1 e u v)) (Q0 (k))))
def KH (p0:Addr) (s:MS) (k a c e u v:Int) (Q0:Int→Prop) (R_:Bool→Prop):Prop:=(A8 (p0=p0) (R_ (DN s a e u v (kR (Am (MS.t s) (MS.p s) (MS.h s) a)) 0 0)))
def KI (p0:Addr) (s:MS) (k a c e u v:Int) (Q0:Int→Prop) (R_:Bool→Prop):Prop:=(A8 (p0=p0) (A8 (BC (MS.l s)) (R_ (bif !Option.isSome (Nz (MS.l s) a) then Bc 4 e u v else bif List.contains [MS.r0 s,MS.r1 s,MS.r2 s,MS.r3 s,MS.r4 s,MS.r5 s,MS.r6 s,MS.r7 s] a then Bc 6 e u v else AdG e u v (mA (Option.getD (Nz (MS.l s) a) (0,0))) 0))))
def KJ (p0:Addr) (s:MS) (k a c e u v:Int) (Q0:Int→Prop) (R_:Bool→Prop):Prop:=(A8 (p0=p0) (A8 (BC (MS.l s)) (R_ (bif !Option.isSome (Nz (MS.l s) a) then Bc 4 e u v else DN s c e u v (kR (Am (MS.t s) (MS.p s) (MS.h s) c)) (bif u !=a then 0 else kR (Option.getD (Nz (MS.l s) a) (0,0))) (bif u !=a then 0 else mA (Option.getD (Nz (MS.l s) a) (0,0)))))))
def KL (p0:Addr) (s:MS) (k a c e u v:Int) (Q0:Int→Prop) (R_:Bool→Prop):Prop:=(A8 (p0=p0) (R_ (Ef s 4 a c e u v)))
def KN (p0:Addr) (s:MS) (k a c e u v:Int) (Q0:Int→Prop) (R_:Bool→Prop):Prop:=(A8 (p0=p0) (A8 (BC (MS.l s)) (R_ (FC s 5 a c e u v))))
def KO (p0:Addr) (s:MS) (k a c e u v:Int) (Q0:Int→Prop) (R_:Bool→Prop):Prop:=(A8 (p0=p0) (R_ (Jb s 6 a c e u v)))
def KP (p0:Addr) (s:MS) (k a c e u v:Int) (Q0:Int→Prop) (R_:Bool→Prop):Prop:=(A8 (p0=p0) (A8 (BC (MS.l s)) (R_ (JI s 7 a c e u v))))
def KQ (p0:Addr) (s:MS) (k a c e u v:Int) (Q0:Int→Prop) (R_:Bool→Prop):Prop:=(A8 (p0=p0) (R_ (e==0&&decide (u≥0)&&decide (u≤MS.p s)&&v==(↑(iV (MS.l s)):Int))))
def KR (p0:Addr) (s:MS) (k a c e u v:Int) (Q0:Int→Prop) (R_:Bool→Prop):Prop:=(A8 (p0=p0) (R_ (bif decide (a<0)||decide (a≥9) then Bc 7 e u v else e==0&&decide (u≥0)&&decide (u≤4)&&v==0)))
def Az (s:MS) (k a c e u v kk:Int) (r_:Bool):Prop:=kk=k∧FQ k a c=true∧r_=Aj4 s k a c e u v
abbrev NQ (p0:Addr) (s:MS) (k a c e u v:Int):Hd Sg:=⟨some 0,[0,1,1,1],[.code [1,1,1,1]],[0,4,5],[.objk Cc p0 (s), .box 29 [.i .i64, .ic .i64 (a), .ic .i64 (c)], .box 32 [.ic .i64 (e), .ic .i64 (u), .ic .i64 (v)]]⟩
theorem ZW (s:MS) (k a c e u v:Int) (hp0:BC s.l):P5 s k a c e u v (λkk'=>Az s k a c e u v kk' (AP s k a c e u v)) (λr__=>r__=(AP s k a c e u v)):=by
 unfold P5
 try unfold Az
 refine ⟨λh=>(by cases h), λ_=>⟨λh=>?_, λh=>⟨rfl,by simpa using h,?_⟩⟩⟩
 ·unfold AP;rw [h];rfl
 ·unfold AP;rw [h];rfl
theorem AdS (s:MS) (k a c e u v:Int) (hp0:BC s.l) (kk:Int) {r_:Bool} (hI:Az s k a c e u v kk r_):kk=1∨kk=2∨kk=3∨kk=4∨kk=5∨kk=6∨kk=7∨kk=8∨kk=9:=by
 unfold Az at hI
 obtain ⟨rfl,h,_⟩:=hI
 exact AgA h
theorem VN {p0:Addr} (s:MS) (k a c e u v:Int) (hp0:BC s.l) {r_:Bool} (hI:Az s k a c e u v (1:Int) r_):KH p0 s k a c e u v (λkk'=>Az s k a c e u v kk' r_∧lx (1,0,0) (1,0,0)) (λr__=>r__=r_):=by
 unfold Az at hI
 unfold KH
 try unfold Az
 obtain ⟨rfl,_,rfl⟩:=hI
 exact ⟨rfl, λ_=>rfl⟩
theorem VO {p0:Addr} (s:MS) (k a c e u v:Int) (hp0:BC s.l) {r_:Bool} (hI:Az s k a c e u v (2:Int) r_):KI p0 s k a c e u v (λkk'=>Az s k a c e u v kk' r_∧lx (1,0,0) (1,0,0)) (λr__=>r__=r_):=by
 unfold Az at hI
 unfold KI
 try unfold Az
 obtain ⟨rfl,_,rfl⟩:=hI
 exact ⟨rfl, λ_=>⟨hp0, λ_=>rfl⟩⟩
theorem VP {p0:Addr} (s:MS) (k a c e u v:Int) (hp0:BC s.l) {r_:Bool} (hI:Az s k a c e u v (3:Int) r_):KJ p0 s k a c e u v (λkk'=>Az s k a c e u v kk' r_∧lx (1,0,0) (1,0,0)) (λr__=>r__=r_):=by
 unfold Az at hI
 unfold KJ
 try unfold Az
 obtain ⟨rfl,_,rfl⟩:=hI
 exact ⟨rfl, λ_=>⟨hp0, λ_=>rfl⟩⟩
theorem VQ {p0:Addr} (s:MS) (k a c e u v:Int) (hp0:BC s.l) {r_:Bool} (hI:Az s k a c e u v (4:Int) r_):KL p0 s k a c e u v (λkk'=>Az s k a c e u v kk' r_∧lx (1,0,0) (1,0,0)) (λr__=>r__=r_):=by
 unfold Az at hI
 unfold KL
 try unfold Az
 obtain ⟨rfl,_,rfl⟩:=hI
 exact ⟨rfl, λ_=>rfl⟩
theorem VR {p0:Addr} (s:MS) (k a c e u v:Int) (hp0:BC s.l) {r_:Bool} (hI:Az s k a c e u v (5:Int) r_):KN p0 s k a c e u v (λkk'=>Az s k a c e u v kk' r_∧lx (1,0,0) (1,0,0)) (λr__=>r__=r_):=by
 unfold Az at hI
 unfold KN
 try unfold Az
 obtain ⟨rfl,_,rfl⟩:=hI
 exact ⟨rfl, λ_=>⟨hp0, λ_=>rfl⟩⟩
theorem VS {p0:Addr} (s:MS) (k a c e u v:Int) (hp0:BC s.l) {r_:Bool} (hI:Az s k a c e u v (6:Int) r_):KO p0 s k a c e u v (λkk'=>Az s k a c e u v kk' r_∧lx (1,0,0) (1,0,0)) (λr__=>r__=r_):=by
 unfold Az at hI
 unfold KO
 try unfold Az
 obtain ⟨rfl,_,rfl⟩:=hI
 exact ⟨rfl, λ_=>rfl⟩
theorem VT {p0:Addr} (s:MS) (k a c e u v:Int) (hp0:BC s.l) {r_:Bool} (hI:Az s k a c e u v (7:Int) r_):KP p0 s k a c e u v (λkk'=>Az s k a c e u v kk' r_∧lx (1,0,0) (1,0,0)) (λr__=>r__=r_):=by
 unfold Az at hI
 unfold KP
 try unfold Az
 obtain ⟨rfl,_,rfl⟩:=hI
 exact ⟨rfl, λ_=>⟨hp0, λ_=>rfl⟩⟩
theorem VU {p0:Addr} (s:MS) (k a c e u v:Int) (hp0:BC s.l) {r_:Bool} (hI:Az s k a c e u v (8:Int) r_):KQ p0 s k a c e u v (λkk'=>Az s k a c e u v kk' r_∧lx (1,0,0) (1,0,0)) (λr__=>r__=r_):=by
 unfold Az at hI
 unfold KQ
 try unfold Az
 obtain ⟨rfl,_,rfl⟩:=hI
 exact ⟨rfl, λ_=>rfl⟩
theorem VV {p0:Addr} (s:MS) (k a c e u v:Int) (hp0:BC s.l) {r_:Bool} (hI:Az s k a c e u v (9:Int) r_):KR p0 s k a c e u v (λkk'=>Az s k a c e u v kk' r_∧lx (1,0,0) (1,0,0)) (λr__=>r__=r_):=by
 unfold Az at hI
 unfold KR
 try unfold Az
 obtain ⟨rfl,_,rfl⟩:=hI
 exact ⟨rfl, λ_=>rfl⟩
theorem AeZ:EF 10 XV:=
 Kv Dg UY (I:=[1106000]) Try.func10 mix (B:=Bg Try.f10) (by kernel_rfl) rfl (by kernel_rfl) 400
  λp0 s k a c e u v hb hp=>have hp0:BC s.l:=hp _ (.head _);⟨[NQ p0 s k a c e u v], λj=>iN [AA (Hd.kd (NQ p0 s k a c e u v)) (λkk'=>Az s k a c e u v kk' (AP s k a c e u v))] j (λ_=>False), λj=>iN [AA (Hd.kd (NQ p0 s k a c e u v)) (λkk'=>(1,0,0))] j (λ_=>(0,0,0)),by kernel_rfl,⟨P5 s k a c e u v (λkk'=>Az s k a c e u v kk' (AP s k a c e u v)) (λr__=>r__=(AP s k a c e u v)), λ_ _ _=>by kernel_rfl,ZW s k a c e u v hp0⟩,⟨λkk hI=>(by
   rcases AdS s k a c e u v hp0 kk hI with rfl|rfl|rfl|rfl|rfl|rfl|rfl|rfl|rfl
   ·exact ⟨KH p0 s k a c e u v (λkk'=>Az s k a c e u v kk' (AP s k a c e u v)∧lx (1,0,0) (1,0,0)) (λr__=>r__=(AP s k a c e u v)), λ_ _ _=>by kernel_rfl,VN s k a c e u v hp0 hI⟩
   ·exact ⟨KI p0 s k a c e u v (λkk'=>Az s k a c e u v kk' (AP s k a c e u v)∧lx (1,0,0) (1,0,0)) (λr__=>r__=(AP s k a c e u v)), λ_ _ _=>by kernel_rfl,VO s k a c e u v hp0 hI⟩
   ·exact ⟨KJ p0 s k a c e u v (λkk'=>Az s k a c e u v kk' (AP s k a c e u v)∧lx (1,0,0) (1,0,0)) (λr__=>r__=(AP s k a c e u v)), λ_ _ _=>by kernel_rfl,VP s k a c e u v hp0 hI⟩
   ·exact ⟨KL p0 s k a c e u v (λkk'=>Az s k a c e u v kk' (AP s k a c e u v)∧lx (1,0,0) (1,0,0)) (λr__=>r__=(AP s k a c e u v)), λ_ _ _=>by kernel_rfl,VQ s k a c e u v hp0 hI⟩
   ·exact ⟨KN p0 s k a c e u v (λkk'=>Az s k a c e u v kk' (AP s k a c e u v)∧lx (1,0,0) (1,0,0)) (λr__=>r__=(AP s k a c e u v)), λ_ _ _=>by kernel_rfl,VR s k a c e u v hp0 hI⟩
   ·exact ⟨KO p0 s k a c e u v (λkk'=>Az s k a c e u v kk' (AP s k a c e u v)∧lx (1,0,0) (1,0,0)) (λr__=>r__=(AP s k a c e u v)), λ_ _ _=>by kernel_rfl,VS s k a c e u v hp0 hI⟩
   ·exact ⟨KP p0 s k a c e u v (λkk'=>Az s k a c e u v kk' (AP s k a c e u v)∧lx (1,0,0) (1,0,0)) (λr__=>r__=(AP s k a c e u v)), λ_ _ _=>by kernel_rfl,VT s k a c e u v hp0 hI⟩
   ·exact ⟨KQ p0 s k a c e u v (λkk'=>Az s k a c e u v kk' (AP s k a c e u v)∧lx (1,0,0) (1,0,0)) (λr__=>r__=(AP s k a c e u v)), λ_ _ _=>by kernel_rfl,VU s k a c e u v hp0 hI⟩
   ·exact ⟨KR p0 s k a c e u v (λkk'=>Az s k a c e u v kk' (AP s k a c e u v)∧lx (1,0,0) (1,0,0)) (λr__=>r__=(AP s k a c e u v)), λ_ _ _=>by kernel_rfl,VV s k a c e u v hp0 hI⟩),trivial⟩⟩
def XW:Tb:=(10,XV)::AdR
theorem Qm:CQ XW:=EO AeZ UY
end
section
open Go.Sl
def mvL (s:MS) (f g z:Int):List (Int×Int):=En (EK s.l ((atR s.l f).1,(atR s.l f).2.1)) (g,z)
def Fj (r f g i j:Int):Int:=bif decide (j<i)&&r==f then g else r
def Ht (s:MS) (f g z i:Int):MS:=⟨s.t,s.p,s.h,mvL s f g z,Fj s.r0 f g i 0,Fj s.r1 f g i 1,Fj s.r2 f g i 2,Fj s.r3 f g i 3,Fj s.r4 f g i 4,Fj s.r5 f g i 5,Fj s.r6 f g i 6,Fj s.r7 f g i 7⟩
def Eb (s:MS) (f g z:Int):MS:=Ht s f g z 8
abbrev AiU:Ct Sg:=⟨some Cc,false,[.i .i64, .i .i64, .i .i64], .skip⟩
def AdT:Entry Sg:=CW AiU (λ(s:MS) (f:Int) (g:Int) (z:Int)=>Ht s f g z 8) (λs f g z=>[BC s.l])
def AdU (s:MS) (f g z:Int) (Q0:Int→Int→Prop) (Q1:Int→Int→Int→List (Int×Int)→Int→Int→Int→Int→Int→Int→Int→Int→Int→Int→Prop) (Q2:Int→Int→Int→List (Int×Int)→Int→Int→Int→Int→Int→Int→Int→Int→Int→Int→Int→Int→Int→Int→Int→Int→Int→Prop) (R_:MS→Prop) (O_:Int→Int→Int→List (Int×Int)→Int→Int→Int→Int→Int→Int→Int→Int→Unit→Prop):Prop:=(∀r0:Int×Int×Bool,r0=(atR (MS.l s) f)→(A8 (BC (MS.l s)) (Q0 r0.1 r0.2.1)))
def Abe (s:MS) (f g z y_ z_ t_ p_ h_:Int) (l_:List (Int×Int)) (x0_ x1_ x2_ x3_ x4_ x5_ x6_ x7_:Int) (Q1:Int→Int→Int→List (Int×Int)→Int→Int→Int→Int→Int→Int→Int→Int→Int→Int→Prop):Prop:=(Q1 (t_) (p_) (h_) (l_) (x0_) (x1_) (x2_) (x3_) (x4_) (x5_) (x6_) (x7_) (y_) (z_))
def BZ (s:MS) (f g z y_ z_:Int):Prop:=y_=(atR s.l f).1∧z_=(atR s.l f).2.1
def Abf (s:MS) (f g z t_ p_ h_:Int) (l_:List (Int×Int)) (r0_ r1_ r2_ r3_ r4_ r5_ r6_ r7_ y_ z_:Int) (Q0:Int→Int→Prop) (Q1:Int→Int→Int→List (Int×Int)→Int→Int→Int→Int→Int→Int→Int→Int→Int→Int→Prop) (Q2:Int→Int→Int→List (Int×Int)→Int→Int→Int→Int→Int→Int→Int→Int→Int→Int→Int→Int→Int→Int→Int→Int→Int→Prop) (R_:MS→Prop) (O_:Int→Int→Int→List (Int×Int)→Int→Int→Int→Int→Int→Int→Int→Int→Unit→Prop):Prop:=(Q2 (t_) (p_) (h_) (En (EK l_ (y_,z_)) (g,z)) (r0_) (r1_) (r2_) (r3_) (r4_) (r5_) (r6_) (r7_) (r0_) (r1_) (r2_) (r3_) (r4_) (r5_) (r6_) (r7_) (0))
def BU (s:MS) (f g z t_ p_ h_:Int) (l_:List (Int×Int)) (r0_ r1_ r2_ r3_ r4_ r5_ r6_ r7_ y_ z_:Int):Prop:=s=⟨t_,p_,h_,l_,r0_,r1_,r2_,r3_,r4_,r5_,r6_,r7_⟩∧y_=(atR s.l f).1∧z_=(atR s.l f).2.1
def UZ (s:MS) (f g z t_ p_ h_:Int) (l_:List (Int×Int)) (r0_ r1_ r2_ r3_ r4_ r5_ r6_ r7_ c0_ c1_ c2_ c3_ c4_ c5_ c6_ c7_:Int) (Q0:Int→Int→Prop) (Q1:Int→Int→Int→List (Int×Int)→Int→Int→Int→Int→Int→Int→Int→Int→Int→Int→Prop) (Q2:Int→Int→Int→List (Int×Int)→Int→Int→Int→Int→Int→Int→Int→Int→Int→Int→Int→Int→Int→Int→Int→Int→Int→Prop) (R_:MS→Prop) (O_:Int→Int→Int→List (Int×Int)→Int→Int→Int→Int→Int→Int→Int→Int→Unit→Prop):Prop:=(Bo (true) (A8 ((0:Int)≤0∧(0:Int)<8) (Bo (iN [c0_,c1_,c2_,c3_,c4_,c5_,c6_,c7_] 0 0==f) (A8 ((0:Int)≤0∧(0:Int)<8) (Q2 (t_) (p_) (h_) (l_) (g) (r1_) (r2_) (r3_) (r4_) (r5_) (r6_) (r7_) (c0_) (c1_) (c2_) (c3_) (c4_) (c5_) (c6_) (c7_) (1))) (Q2 (t_) (p_) (h_) (l_) (r0_) (r1_) (r2_) (r3_) (r4_) (r5_) (r6_) (r7_) (c0_) (c1_) (c2_) (c3_) (c4_) (c5_) (c6_) (c7_) (1)))) (O_ (t_) (p_) (h_) (l_) (r0_) (r1_) (r2_) (r3_) (r4_) (r5_) (r6_) (r7_) (())))
def Va (s:MS) (f g z t_ p_ h_:Int) (l_:List (Int×Int)) (r0_ r1_ r2_ r3_ r4_ r5_ r6_ r7_ c0_ c1_ c2_ c3_ c4_ c5_ c6_ c7_:Int) (Q0:Int→Int→Prop) (Q1:Int→Int→Int→List (Int×Int)→Int→Int→Int→Int→Int→Int→Int→Int→Int→Int→Prop) (Q2:Int→Int→Int→List (Int×Int)→Int→Int→Int→Int→Int→Int→Int→Int→Int→Int→Int→Int→Int→Int→Int→Int→Int→Prop) (R_:MS→Prop) (O_:Int→Int→Int→List (Int×Int)→Int→Int→Int→Int→Int→Int→Int→Int→Unit→Prop):Prop:=(Bo (true) (A8 ((0:Int)≤1∧(1:Int)<8) (Bo (iN [c0_,c1_,c2_,c3_,c4_,c5_,c6_,c7_] 1 0==f) (A8 ((0:Int)≤1∧(1:Int)<8) (Q2 (t_) (p_) (h_) (l_) (r0_) (g) (r2_) (r3_) (r4_) (r5_) (r6_) (r7_) (c0_) (c1_) (c2_) (c3_) (c4_) (c5_) (c6_) (c7_) (2))) (Q2 (t_) (p_) (h_) (l_) (r0_) (r1_) (r2_) (r3_) (r4_) (r5_) (r6_) (r7_) (c0_) (c1_) (c2_) (c3_) (c4_) (c5_) (c6_) (c7_) (2)))) (O_ (t_) (p_) (h_) (l_) (r0_) (r1_) (r2_) (r3_) (r4_) (r5_) (r6_) (r7_) (())))
def Vb (s:MS) (f g z t_ p_ h_:Int) (l_:List (Int×Int)) (r0_ r1_ r2_ r3_ r4_ r5_ r6_ r7_ c0_ c1_ c2_ c3_ c4_ c5_ c6_ c7_:Int) (Q0:Int→Int→Prop) (Q1:Int→Int→Int→List (Int×Int)→Int→Int→Int→Int→Int→Int→Int→Int→Int→Int→Prop) (Q2:Int→Int→Int→List (Int×Int)→Int→Int→Int→Int→Int→Int→Int→Int→Int→Int→Int→Int→Int→Int→Int→Int→Int→Prop) (R_:MS→Prop) (O_:Int→Int→Int→List (Int×Int)→Int→Int→Int→Int→Int→Int→Int→Int→Unit→Prop):Prop:=(Bo (true) (A8 ((0:Int)≤2∧(2:Int)<8) (Bo (iN [c0_,c1_,c2_,c3_,c4_,c5_,c6_,c7_] 2 0==f) (A8 ((0:Int)≤2∧(2:Int)<8) (Q2 (t_) (p_) (h_) (l_) (r0_) (r1_) (g) (r3_) (r4_) (r5_) (r6_) (r7_) (c0_) (c1_) (c2_) (c3_) (c4_) (c5_) (c6_) (c7_) (3))) (Q2 (t_) (p_) (h_) (l_) (r0_) (r1_) (r2_) (r3_) (r4_) (r5_) (r6_) (r7_) (c0_) (c1_) (c2_) (c3_) (c4_) (c5_) (c6_) (c7_) (3)))) (O_ (t_) (p_) (h_) (l_) (r0_) (r1_) (r2_) (r3_) (r4_) (r5_) (r6_) (r7_) (())))
def Vd (s:MS) (f g z t_ p_ h_:Int) (l_:List (Int×Int)) (r0_ r1_ r2_ r3_ r4_ r5_ r6_ r7_ c0_ c1_ c2_ c3_ c4_ c5_ c6_ c7_:Int) (Q0:Int→Int→Prop) (Q1:Int→Int→Int→List (Int×Int)→Int→Int→Int→Int→Int→Int→Int→Int→Int→Int→Prop) (Q2:Int→Int→Int→List (Int×Int)→Int→Int→Int→Int→Int→Int→Int→Int→Int→Int→Int→Int→Int→Int→Int→Int→Int→Prop) (R_:MS→Prop) (O_:Int→Int→Int→List (Int×Int)→Int→Int→Int→Int→Int→Int→Int→Int→Unit→Prop):Prop:=(Bo (true) (A8 ((0:Int)≤3∧(3:Int)<8) (Bo (iN [c0_,c1_,c2_,c3_,c4_,c5_,c6_,c7_] 3 0==f) (A8 ((0:Int)≤3∧(3:Int)<8) (Q2 (t_) (p_) (h_) (l_) (r0_) (r1_) (r2_) (g) (r4_) (r5_) (r6_) (r7_) (c0_) (c1_) (c2_) (c3_) (c4_) (c5_) (c6_) (c7_) (4))) (Q2 (t_) (p_) (h_) (l_) (r0_) (r1_) (r2_) (r3_) (r4_) (r5_) (r6_) (r7_) (c0_) (c1_) (c2_) (c3_) (c4_) (c5_) (c6_) (c7_) (4)))) (O_ (t_) (p_) (h_) (l_) (r0_) (r1_) (r2_) (r3_) (r4_) (r5_) (r6_) (r7_) (())))
def Ve (s:MS) (f g z t_ p_ h_:Int) (l_:List (Int×Int)) (r0_ r1_ r2_ r3_ r4_ r5_ r6_ r7_ c0_ c1_ c2_ c3_ c4_ c5_ c6_ c7_:Int) (Q0:Int→Int→Prop) (Q1:Int→Int→Int→List (Int×Int)→Int→Int→Int→Int→Int→Int→Int→Int→Int→Int→Prop) (Q2:Int→Int→Int→List (Int×Int)→Int→Int→Int→Int→Int→Int→Int→Int→Int→Int→Int→Int→Int→Int→Int→Int→Int→Prop) (R_:MS→Prop) (O_:Int→Int→Int→List (Int×Int)→Int→Int→Int→Int→Int→Int→Int→Int→Unit→Prop):Prop:=(Bo (true) (A8 ((0:Int)≤4∧(4:Int)<8) (Bo (iN [c0_,c1_,c2_,c3_,c4_,c5_,c6_,c7_] 4 0==f) (A8 ((0:Int)≤4∧(4:Int)<8) (Q2 (t_) (p_) (h_) (l_) (r0_) (r1_) (r2_) (r3_) (g) (r5_) (r6_) (r7_) (c0_) (c1_) (c2_) (c3_) (c4_) (c5_) (c6_) (c7_) (5))) (Q2 (t_) (p_) (h_) (l_) (r0_) (r1_) (r2_) (r3_) (r4_) (r5_) (r6_) (r7_) (c0_) (c1_) (c2_) (c3_) (c4_) (c5_) (c6_) (c7_) (5)))) (O_ (t_) (p_) (h_) (l_) (r0_) (r1_) (r2_) (r3_) (r4_) (r5_) (r6_) (r7_) (())))
def Vf (s:MS) (f g z t_ p_ h_:Int) (l_:List (Int×Int)) (r0_ r1_ r2_ r3_ r4_ r5_ r6_ r7_ c0_ c1_ c2_ c3_ c4_ c5_ c6_ c7_:Int) (Q0:Int→Int→Prop) (Q1:Int→Int→Int→List (Int×Int)→Int→Int→Int→Int→Int→Int→Int→Int→Int→Int→Prop) (Q2:Int→Int→Int→List (Int×Int)→Int→Int→Int→Int→Int→Int→Int→Int→Int→Int→Int→Int→Int→Int→Int→Int→Int→Prop) (R_:MS→Prop) (O_:Int→Int→Int→List (Int×Int)→Int→Int→Int→Int→Int→Int→Int→Int→Unit→Prop):Prop:=(Bo (true) (A8 ((0:Int)≤5∧(5:Int)<8) (Bo (iN [c0_,c1_,c2_,c3_,c4_,c5_,c6_,c7_] 5 0==f) (A8 ((0:Int)≤5∧(5:Int)<8) (Q2 (t_) (p_) (h_) (l_) (r0_) (r1_) (r2_) (r3_) (r4_) (g) (r6_) (r7_) (c0_) (c1_) (c2_) (c3_) (c4_) (c5_) (c6_) (c7_) (6))) (Q2 (t_) (p_) (h_) (l_) (r0_) (r1_) (r2_) (r3_) (r4_) (r5_) (r6_) (r7_) (c0_) (c1_) (c2_) (c3_) (c4_) (c5_) (c6_) (c7_) (6)))) (O_ (t_) (p_) (h_) (l_) (r0_) (r1_) (r2_) (r3_) (r4_) (r5_) (r6_) (r7_) (())))
def Vg (s:MS) (f g z t_ p_ h_:Int) (l_:List (Int×Int)) (r0_ r1_ r2_ r3_ r4_ r5_ r6_ r7_ c0_ c1_ c2_ c3_ c4_ c5_ c6_ c7_:Int) (Q0:Int→Int→Prop) (Q1:Int→Int→Int→List (Int×Int)→Int→Int→Int→Int→Int→Int→Int→Int→Int→Int→Prop) (Q2:Int→Int→Int→List (Int×Int)→Int→Int→Int→Int→Int→Int→Int→Int→Int→Int→Int→Int→Int→Int→Int→Int→Int→Prop) (R_:MS→Prop) (O_:Int→Int→Int→List (Int×Int)→Int→Int→Int→Int→Int→Int→Int→Int→Unit→Prop):Prop:=(Bo (true) (A8 ((0:Int)≤6∧(6:Int)<8) (Bo (iN [c0_,c1_,c2_,c3_,c4_,c5_,c6_,c7_] 6 0==f) (A8 ((0:Int)≤6∧(6:Int)<8) (Q2 (t_) (p_) (h_) (l_) (r0_) (r1_) (r2_) (r3_) (r4_) (r5_) (g) (r7_) (c0_) (c1_) (c2_) (c3_) (c4_) (c5_) (c6_) (c7_) (7))) (Q2 (t_) (p_) (h_) (l_) (r0_) (r1_) (r2_) (r3_) (r4_) (r5_) (r6_) (r7_) (c0_) (c1_) (c2_) (c3_) (c4_) (c5_) (c6_) (c7_) (7)))) (O_ (t_) (p_) (h_) (l_) (r0_) (r1_) (r2_) (r3_) (r4_) (r5_) (r6_) (r7_) (())))
def Vh (s:MS) (f g z t_ p_ h_:Int) (l_:List (Int×Int)) (r0_ r1_ r2_ r3_ r4_ r5_ r6_ r7_ c0_ c1_ c2_ c3_ c4_ c5_ c6_ c7_:Int) (Q0:Int→Int→Prop) (Q1:Int→Int→Int→List (Int×Int)→Int→Int→Int→Int→Int→Int→Int→Int→Int→Int→Prop) (Q2:Int→Int→Int→List (Int×Int)→Int→Int→Int→Int→Int→Int→Int→Int→Int→Int→Int→Int→Int→Int→Int→Int→Int→Prop) (R_:MS→Prop) (O_:Int→Int→Int→List (Int×Int)→Int→Int→Int→Int→Int→Int→Int→Int→Unit→Prop):Prop:=(Bo (true) (A8 ((0:Int)≤7∧(7:Int)<8) (Bo (iN [c0_,c1_,c2_,c3_,c4_,c5_,c6_,c7_] 7 0==f) (A8 ((0:Int)≤7∧(7:Int)<8) (Q2 (t_) (p_) (h_) (l_) (r0_) (r1_) (r2_) (r3_) (r4_) (r5_) (r6_) (g) (c0_) (c1_) (c2_) (c3_) (c4_) (c5_) (c6_) (c7_) (8))) (Q2 (t_) (p_) (h_) (l_) (r0_) (r1_) (r2_) (r3_) (r4_) (r5_) (r6_) (r7_) (c0_) (c1_) (c2_) (c3_) (c4_) (c5_) (c6_) (c7_) (8)))) (O_ (t_) (p_) (h_) (l_) (r0_) (r1_) (r2_) (r3_) (r4_) (r5_) (r6_) (r7_) (())))
def Vj (s:MS) (f g z t_ p_ h_:Int) (l_:List (Int×Int)) (r0_ r1_ r2_ r3_ r4_ r5_ r6_ r7_ c0_ c1_ c2_ c3_ c4_ c5_ c6_ c7_:Int) (Q0:Int→Int→Prop) (Q1:Int→Int→Int→List (Int×Int)→Int→Int→Int→Int→Int→Int→Int→Int→Int→Int→Prop) (Q2:Int→Int→Int→List (Int×Int)→Int→Int→Int→Int→Int→Int→Int→Int→Int→Int→Int→Int→Int→Int→Int→Int→Int→Prop) (R_:MS→Prop) (O_:Int→Int→Int→List (Int×Int)→Int→Int→Int→Int→Int→Int→Int→Int→Unit→Prop):Prop:=(Bo (false) (A8 ((0:Int)≤8∧(8:Int)<8) (Bo (iN [c0_,c1_,c2_,c3_,c4_,c5_,c6_,c7_] 8 0==f) (A8 ((0:Int)≤8∧(8:Int)<8) False) (Q2 (t_) (p_) (h_) (l_) (r0_) (r1_) (r2_) (r3_) (r4_) (r5_) (r6_) (r7_) (c0_) (c1_) (c2_) (c3_) (c4_) (c5_) (c6_) (c7_) (9)))) (O_ (t_) (p_) (h_) (l_) (r0_) (r1_) (r2_) (r3_) (r4_) (r5_) (r6_) (r7_) (())))
def Bq (s:MS) (f g z t_ p_ h_:Int) (l_:List (Int×Int)) (r0_ r1_ r2_ r3_ r4_ r5_ r6_ r7_ c0_ c1_ c2_ c3_ c4_ c5_ c6_ c7_ i_:Int):Prop:=0≤i_∧i_≤8∧⟨t_,p_,h_,l_,r0_,r1_,r2_,r3_,r4_,r5_,r6_,r7_⟩=Ht s f g z i_∧(c0_=s.r0∧c1_=s.r1∧c2_=s.r2∧c3_=s.r3∧c4_=s.r4∧c5_=s.r5∧c6_=s.r6∧c7_=s.r7)
theorem AdV (s:MS) (f g z:Int) (hp0:BC s.l):AdU s f g z (λy_' z_'=>BZ s f g z y_' z_') (λt_' p_' h_' l_' r0_' r1_' r2_' r3_' r4_' r5_' r6_' r7_' y_' z_'=>BU s f g z t_' p_' h_' l_' r0_' r1_' r2_' r3_' r4_' r5_' r6_' r7_' y_' z_') (λt_' p_' h_' l_' r0_' r1_' r2_' r3_' r4_' r5_' r6_' r7_' c0_' c1_' c2_' c3_' c4_' c5_' c6_' c7_' i_'=>Bq s f g z t_' p_' h_' l_' r0_' r1_' r2_' r3_' r4_' r5_' r6_' r7_' c0_' c1_' c2_' c3_' c4_' c5_' c6_' c7_' i_') (λr__=>r__=(Eb s f g z)) (λt_ p_ h_ l_ x0_ x1_ x2_ x3_ x4_ x5_ x6_ x7_ r_=>BG ⟨t_,p_,h_,l_,x0_,x1_,x2_,x3_,x4_,x5_,x6_,x7_⟩ ((Eb s f g z))∧r_=()):=by
 unfold AdU
 try unfold BZ
 try unfold BU
 try unfold Bq
 rintro r0 rfl
 exact ⟨hp0, λ_=>⟨rfl,rfl⟩⟩
theorem AdW (s:MS) (f g z:Int) (hp0:BC s.l) (y_ z_ t_ p_ h_:Int) (l_:List (Int×Int)) (x0_ x1_ x2_ x3_ x4_ x5_ x6_ x7_:Int) (hI:BZ s f g z y_ z_) (hx:BG ⟨t_,p_,h_,l_,x0_,x1_,x2_,x3_,x4_,x5_,x6_,x7_⟩ (s)):Abe s f g z y_ z_ t_ p_ h_ l_ x0_ x1_ x2_ x3_ x4_ x5_ x6_ x7_ (λt_' p_' h_' l_' r0_' r1_' r2_' r3_' r4_' r5_' r6_' r7_' y_' z_'=>BU s f g z t_' p_' h_' l_' r0_' r1_' r2_' r3_' r4_' r5_' r6_' r7_' y_' z_'∧lx (3,0,0) (4,0,0)):=by
 unfold BZ at hI
 unfold Abe
 try unfold BZ
 try unfold BU
 try unfold Bq
 exact ⟨⟨hx.symm,hI⟩,Cb⟩
theorem AdX (s:MS) (f g z:Int) (hp0:BC s.l) (t_ p_ h_:Int) (l_:List (Int×Int)) (r0_ r1_ r2_ r3_ r4_ r5_ r6_ r7_ y_ z_:Int) (hI:BU s f g z t_ p_ h_ l_ r0_ r1_ r2_ r3_ r4_ r5_ r6_ r7_ y_ z_):Abf s f g z t_ p_ h_ l_ r0_ r1_ r2_ r3_ r4_ r5_ r6_ r7_ y_ z_ (λy_' z_'=>BZ s f g z y_' z_'∧lx (4,0,0) (3,0,0)) (λt_' p_' h_' l_' r0_' r1_' r2_' r3_' r4_' r5_' r6_' r7_' y_' z_'=>BU s f g z t_' p_' h_' l_' r0_' r1_' r2_' r3_' r4_' r5_' r6_' r7_' y_' z_'∧lx (3,0,0) (3,0,0)) (λt_' p_' h_' l_' r0_' r1_' r2_' r3_' r4_' r5_' r6_' r7_' c0_' c1_' c2_' c3_' c4_' c5_' c6_' c7_' i_'=>Bq s f g z t_' p_' h_' l_' r0_' r1_' r2_' r3_' r4_' r5_' r6_' r7_' c0_' c1_' c2_' c3_' c4_' c5_' c6_' c7_' i_'∧lx (2,(8-i_').toNat,0) (3,0,0)) (λr__=>r__=(Eb s f g z)) (λt_ p_ h_ l_ x0_ x1_ x2_ x3_ x4_ x5_ x6_ x7_ r_=>BG ⟨t_,p_,h_,l_,x0_,x1_,x2_,x3_,x4_,x5_,x6_,x7_⟩ ((Eb s f g z))∧r_=()):=by
 unfold BU at hI
 unfold Abf
 try unfold BZ
 try unfold BU
 try unfold Bq
 obtain ⟨rfl,rfl,rfl⟩:=hI
 exact ⟨⟨by decide,by decide,rfl,rfl,rfl,rfl,rfl,rfl,rfl,rfl,rfl⟩,Cb⟩
theorem AgC (s:MS) (f g z:Int) (hp0:BC s.l) (t_ p_ h_:Int) (l_:List (Int×Int)) (r0_ r1_ r2_ r3_ r4_ r5_ r6_ r7_ c0_ c1_ c2_ c3_ c4_ c5_ c6_ c7_ i_:Int) (hI:Bq s f g z t_ p_ h_ l_ r0_ r1_ r2_ r3_ r4_ r5_ r6_ r7_ c0_ c1_ c2_ c3_ c4_ c5_ c6_ c7_ i_):i_=0∨i_=1∨i_=2∨i_=3∨i_=4∨i_=5∨i_=6∨i_=7∨i_=8:=by
 unfold Bq at hI
 omega
theorem ZX (s:MS) (f g z:Int) (hp0:BC s.l) (t_ p_ h_:Int) (l_:List (Int×Int)) (r0_ r1_ r2_ r3_ r4_ r5_ r6_ r7_ c0_ c1_ c2_ c3_ c4_ c5_ c6_ c7_:Int) (hI:Bq s f g z t_ p_ h_ l_ r0_ r1_ r2_ r3_ r4_ r5_ r6_ r7_ c0_ c1_ c2_ c3_ c4_ c5_ c6_ c7_ (0:Int)):UZ s f g z t_ p_ h_ l_ r0_ r1_ r2_ r3_ r4_ r5_ r6_ r7_ c0_ c1_ c2_ c3_ c4_ c5_ c6_ c7_ (λy_' z_'=>BZ s f g z y_' z_'∧lx (4,0,0) (2,(8-(0:Int)).toNat,0)) (λt_' p_' h_' l_' r0_' r1_' r2_' r3_' r4_' r5_' r6_' r7_' y_' z_'=>BU s f g z t_' p_' h_' l_' r0_' r1_' r2_' r3_' r4_' r5_' r6_' r7_' y_' z_'∧lx (3,0,0) (2,(8-(0:Int)).toNat,0)) (λt_' p_' h_' l_' r0_' r1_' r2_' r3_' r4_' r5_' r6_' r7_' c0_' c1_' c2_' c3_' c4_' c5_' c6_' c7_' i_'=>Bq s f g z t_' p_' h_' l_' r0_' r1_' r2_' r3_' r4_' r5_' r6_' r7_' c0_' c1_' c2_' c3_' c4_' c5_' c6_' c7_' i_'∧lx (2,(8-i_').toNat,0) (2,(8-(0:Int)).toNat,0)) (λr__=>r__=(Eb s f g z)) (λt_ p_ h_ l_ x0_ x1_ x2_ x3_ x4_ x5_ x6_ x7_ r_=>BG ⟨t_,p_,h_,l_,x0_,x1_,x2_,x3_,x4_,x5_,x6_,x7_⟩ ((Eb s f g z))∧r_=()):=by
 unfold Bq at hI
 unfold UZ
 try unfold BZ
 try unfold BU
 try unfold Bq
 obtain ⟨_,_,hE,rfl,rfl,rfl,rfl,rfl,rfl,rfl,rfl⟩:=hI
 injection hE with e1 e2 e3 e4 f0 f1 f2 f3 f4 f5 f6 f7
 subst e1 e2 e3 e4 f0 f1 f2 f3 f4 f5 f6 f7
 refine ⟨λ_=>⟨by decide, λ_=>⟨λe=>?_, λe=>?_⟩⟩, λh=>(by cases h)⟩
 ·have e:(s.r0==f)=true:=e
  refine ⟨by decide, λ_=>⟨⟨by decide,by decide,?_,rfl,rfl,rfl,rfl,rfl,rfl,rfl,rfl⟩,Cb⟩⟩
  unfold Ht Fj;rw [e];first|done|rfl
 ·have e:(s.r0==f)=false:=e
  refine ⟨⟨by decide,by decide,?_,rfl,rfl,rfl,rfl,rfl,rfl,rfl,rfl⟩,Cb⟩
  unfold Ht Fj;rw [e];first|done|rfl
theorem ZY (s:MS) (f g z:Int) (hp0:BC s.l) (t_ p_ h_:Int) (l_:List (Int×Int)) (r0_ r1_ r2_ r3_ r4_ r5_ r6_ r7_ c0_ c1_ c2_ c3_ c4_ c5_ c6_ c7_:Int) (hI:Bq s f g z t_ p_ h_ l_ r0_ r1_ r2_ r3_ r4_ r5_ r6_ r7_ c0_ c1_ c2_ c3_ c4_ c5_ c6_ c7_ (1:Int)):Va s f g z t_ p_ h_ l_ r0_ r1_ r2_ r3_ r4_ r5_ r6_ r7_ c0_ c1_ c2_ c3_ c4_ c5_ c6_ c7_ (λy_' z_'=>BZ s f g z y_' z_'∧lx (4,0,0) (2,(8-(1:Int)).toNat,0)) (λt_' p_' h_' l_' r0_' r1_' r2_' r3_' r4_' r5_' r6_' r7_' y_' z_'=>BU s f g z t_' p_' h_' l_' r0_' r1_' r2_' r3_' r4_' r5_' r6_' r7_' y_' z_'∧lx (3,0,0) (2,(8-(1:Int)).toNat,0)) (λt_' p_' h_' l_' r0_' r1_' r2_' r3_' r4_' r5_' r6_' r7_' c0_' c1_' c2_' c3_' c4_' c5_' c6_' c7_' i_'=>Bq s f g z t_' p_' h_' l_' r0_' r1_' r2_' r3_' r4_' r5_' r6_' r7_' c0_' c1_' c2_' c3_' c4_' c5_' c6_' c7_' i_'∧lx (2,(8-i_').toNat,0) (2,(8-(1:Int)).toNat,0)) (λr__=>r__=(Eb s f g z)) (λt_ p_ h_ l_ x0_ x1_ x2_ x3_ x4_ x5_ x6_ x7_ r_=>BG ⟨t_,p_,h_,l_,x0_,x1_,x2_,x3_,x4_,x5_,x6_,x7_⟩ ((Eb s f g z))∧r_=()):=by
 unfold Bq at hI
 unfold Va
 try unfold BZ
 try unfold BU
 try unfold Bq
 obtain ⟨_,_,hE,rfl,rfl,rfl,rfl,rfl,rfl,rfl,rfl⟩:=hI
 injection hE with e1 e2 e3 e4 f0 f1 f2 f3 f4 f5 f6 f7
 subst e1 e2 e3 e4 f0 f1 f2 f3 f4 f5 f6 f7
 refine ⟨λ_=>⟨by decide, λ_=>⟨λe=>?_, λe=>?_⟩⟩, λh=>(by cases h)⟩
 ·have e:(s.r1==f)=true:=e
  refine ⟨by decide, λ_=>⟨⟨by decide,by decide,?_,rfl,rfl,rfl,rfl,rfl,rfl,rfl,rfl⟩,Cb⟩⟩
  unfold Ht Fj;rw [e];first|done|rfl
 ·have e:(s.r1==f)=false:=e
  refine ⟨⟨by decide,by decide,?_,rfl,rfl,rfl,rfl,rfl,rfl,rfl,rfl⟩,Cb⟩
  unfold Ht Fj;rw [e];first|done|rfl
theorem ZZ (s:MS) (f g z:Int) (hp0:BC s.l) (t_ p_ h_:Int) (l_:List (Int×Int)) (r0_ r1_ r2_ r3_ r4_ r5_ r6_ r7_ c0_ c1_ c2_ c3_ c4_ c5_ c6_ c7_:Int) (hI:Bq s f g z t_ p_ h_ l_ r0_ r1_ r2_ r3_ r4_ r5_ r6_ r7_ c0_ c1_ c2_ c3_ c4_ c5_ c6_ c7_ (2:Int)):Vb s f g z t_ p_ h_ l_ r0_ r1_ r2_ r3_ r4_ r5_ r6_ r7_ c0_ c1_ c2_ c3_ c4_ c5_ c6_ c7_ (λy_' z_'=>BZ s f g z y_' z_'∧lx (4,0,0) (2,(8-(2:Int)).toNat,0)) (λt_' p_' h_' l_' r0_' r1_' r2_' r3_' r4_' r5_' r6_' r7_' y_' z_'=>BU s f g z t_' p_' h_' l_' r0_' r1_' r2_' r3_' r4_' r5_' r6_' r7_' y_' z_'∧lx (3,0,0) (2,(8-(2:Int)).toNat,0)) (λt_' p_' h_' l_' r0_' r1_' r2_' r3_' r4_' r5_' r6_' r7_' c0_' c1_' c2_' c3_' c4_' c5_' c6_' c7_' i_'=>Bq s f g z t_' p_' h_' l_' r0_' r1_' r2_' r3_' r4_' r5_' r6_' r7_' c0_' c1_' c2_' c3_' c4_' c5_' c6_' c7_' i_'∧lx (2,(8-i_').toNat,0) (2,(8-(2:Int)).toNat,0)) (λr__=>r__=(Eb s f g z)) (λt_ p_ h_ l_ x0_ x1_ x2_ x3_ x4_ x5_ x6_ x7_ r_=>BG ⟨t_,p_,h_,l_,x0_,x1_,x2_,x3_,x4_,x5_,x6_,x7_⟩ ((Eb s f g z))∧r_=()):=by
 unfold Bq at hI
 unfold Vb
 try unfold BZ
 try unfold BU
 try unfold Bq
 obtain ⟨_,_,hE,rfl,rfl,rfl,rfl,rfl,rfl,rfl,rfl⟩:=hI
 injection hE with e1 e2 e3 e4 f0 f1 f2 f3 f4 f5 f6 f7
 subst e1 e2 e3 e4 f0 f1 f2 f3 f4 f5 f6 f7
 refine ⟨λ_=>⟨by decide, λ_=>⟨λe=>?_, λe=>?_⟩⟩, λh=>(by cases h)⟩
 ·have e:(s.r2==f)=true:=e
  refine ⟨by decide, λ_=>⟨⟨by decide,by decide,?_,rfl,rfl,rfl,rfl,rfl,rfl,rfl,rfl⟩,Cb⟩⟩
  unfold Ht Fj;rw [e];first|done|rfl
 ·have e:(s.r2==f)=false:=e
  refine ⟨⟨by decide,by decide,?_,rfl,rfl,rfl,rfl,rfl,rfl,rfl,rfl⟩,Cb⟩
  unfold Ht Fj;rw [e];first|done|rfl
theorem Aaa (s:MS) (f g z:Int) (hp0:BC s.l) (t_ p_ h_:Int) (l_:List (Int×Int)) (r0_ r1_ r2_ r3_ r4_ r5_ r6_ r7_ c0_ c1_ c2_ c3_ c4_ c5_ c6_ c7_:Int) (hI:Bq s f g z t_ p_ h_ l_ r0_ r1_ r2_ r3_ r4_ r5_ r6_ r7_ c0_ c1_ c2_ c3_ c4_ c5_ c6_ c7_ (3:Int)):Vd s f g z t_ p_ h_ l_ r0_ r1_ r2_ r3_ r4_ r5_ r6_ r7_ c0_ c1_ c2_ c3_ c4_ c5_ c6_ c7_ (λy_' z_'=>BZ s f g z y_' z_'∧lx (4,0,0) (2,(8-(3:Int)).toNat,0)) (λt_' p_' h_' l_' r0_' r1_' r2_' r3_' r4_' r5_' r6_' r7_' y_' z_'=>BU s f g z t_' p_' h_' l_' r0_' r1_' r2_' r3_' r4_' r5_' r6_' r7_' y_' z_'∧lx (3,0,0) (2,(8-(3:Int)).toNat,0)) (λt_' p_' h_' l_' r0_' r1_' r2_' r3_' r4_' r5_' r6_' r7_' c0_' c1_' c2_' c3_' c4_' c5_' c6_' c7_' i_'=>Bq s f g z t_' p_' h_' l_' r0_' r1_' r2_' r3_' r4_' r5_' r6_' r7_' c0_' c1_' c2_' c3_' c4_' c5_' c6_' c7_' i_'∧lx (2,(8-i_').toNat,0) (2,(8-(3:Int)).toNat,0)) (λr__=>r__=(Eb s f g z)) (λt_ p_ h_ l_ x0_ x1_ x2_ x3_ x4_ x5_ x6_ x7_ r_=>BG ⟨t_,p_,h_,l_,x0_,x1_,x2_,x3_,x4_,x5_,x6_,x7_⟩ ((Eb s f g z))∧r_=()):=by
 unfold Bq at hI
 unfold Vd
 try unfold BZ
 try unfold BU
 try unfold Bq
 obtain ⟨_,_,hE,rfl,rfl,rfl,rfl,rfl,rfl,rfl,rfl⟩:=hI
 injection hE with e1 e2 e3 e4 f0 f1 f2 f3 f4 f5 f6 f7
 subst e1 e2 e3 e4 f0 f1 f2 f3 f4 f5 f6 f7
 refine ⟨λ_=>⟨by decide, λ_=>⟨λe=>?_, λe=>?_⟩⟩, λh=>(by cases h)⟩
 ·have e:(s.r3==f)=true:=e
  refine ⟨by decide, λ_=>⟨⟨by decide,by decide,?_,rfl,rfl,rfl,rfl,rfl,rfl,rfl,rfl⟩,Cb⟩⟩
  unfold Ht Fj;rw [e];first|done|rfl
 ·have e:(s.r3==f)=false:=e
  refine ⟨⟨by decide,by decide,?_,rfl,rfl,rfl,rfl,rfl,rfl,rfl,rfl⟩,Cb⟩
  unfold Ht Fj;rw [e];first|done|rfl
theorem Aab (s:MS) (f g z:Int) (hp0:BC s.l) (t_ p_ h_:Int) (l_:List (Int×Int)) (r0_ r1_ r2_ r3_ r4_ r5_ r6_ r7_ c0_ c1_ c2_ c3_ c4_ c5_ c6_ c7_:Int) (hI:Bq s f g z t_ p_ h_ l_ r0_ r1_ r2_ r3_ r4_ r5_ r6_ r7_ c0_ c1_ c2_ c3_ c4_ c5_ c6_ c7_ (4:Int)):Ve s f g z t_ p_ h_ l_ r0_ r1_ r2_ r3_ r4_ r5_ r6_ r7_ c0_ c1_ c2_ c3_ c4_ c5_ c6_ c7_ (λy_' z_'=>BZ s f g z y_' z_'∧lx (4,0,0) (2,(8-(4:Int)).toNat,0)) (λt_' p_' h_' l_' r0_' r1_' r2_' r3_' r4_' r5_' r6_' r7_' y_' z_'=>BU s f g z t_' p_' h_' l_' r0_' r1_' r2_' r3_' r4_' r5_' r6_' r7_' y_' z_'∧lx (3,0,0) (2,(8-(4:Int)).toNat,0)) (λt_' p_' h_' l_' r0_' r1_' r2_' r3_' r4_' r5_' r6_' r7_' c0_' c1_' c2_' c3_' c4_' c5_' c6_' c7_' i_'=>Bq s f g z t_' p_' h_' l_' r0_' r1_' r2_' r3_' r4_' r5_' r6_' r7_' c0_' c1_' c2_' c3_' c4_' c5_' c6_' c7_' i_'∧lx (2,(8-i_').toNat,0) (2,(8-(4:Int)).toNat,0)) (λr__=>r__=(Eb s f g z)) (λt_ p_ h_ l_ x0_ x1_ x2_ x3_ x4_ x5_ x6_ x7_ r_=>BG ⟨t_,p_,h_,l_,x0_,x1_,x2_,x3_,x4_,x5_,x6_,x7_⟩ ((Eb s f g z))∧r_=()):=by
 unfold Bq at hI
 unfold Ve
 try unfold BZ
 try unfold BU
 try unfold Bq
 obtain ⟨_,_,hE,rfl,rfl,rfl,rfl,rfl,rfl,rfl,rfl⟩:=hI
 injection hE with e1 e2 e3 e4 f0 f1 f2 f3 f4 f5 f6 f7
 subst e1 e2 e3 e4 f0 f1 f2 f3 f4 f5 f6 f7
 refine ⟨λ_=>⟨by decide, λ_=>⟨λe=>?_, λe=>?_⟩⟩, λh=>(by cases h)⟩
 ·have e:(s.r4==f)=true:=e
  refine ⟨by decide, λ_=>⟨⟨by decide,by decide,?_,rfl,rfl,rfl,rfl,rfl,rfl,rfl,rfl⟩,Cb⟩⟩
  unfold Ht Fj;rw [e];first|done|rfl
 ·have e:(s.r4==f)=false:=e
  refine ⟨⟨by decide,by decide,?_,rfl,rfl,rfl,rfl,rfl,rfl,rfl,rfl⟩,Cb⟩
  unfold Ht Fj;rw [e];first|done|rfl
theorem Aac (s:MS) (f g z:Int) (hp0:BC s.l) (t_ p_ h_:Int) (l_:List (Int×Int)) (r0_ r1_ r2_ r3_ r4_ r5_ r6_ r7_ c0_ c1_ c2_ c3_ c4_ c5_ c6_ c7_:Int) (hI:Bq s f g z t_ p_ h_ l_ r0_ r1_ r2_ r3_ r4_ r5_ r6_ r7_ c0_ c1_ c2_ c3_ c4_ c5_ c6_ c7_ (5:Int)):Vf s f g z t_ p_ h_ l_ r0_ r1_ r2_ r3_ r4_ r5_ r6_ r7_ c0_ c1_ c2_ c3_ c4_ c5_ c6_ c7_ (λy_' z_'=>BZ s f g z y_' z_'∧lx (4,0,0) (2,(8-(5:Int)).toNat,0)) (λt_' p_' h_' l_' r0_' r1_' r2_' r3_' r4_' r5_' r6_' r7_' y_' z_'=>BU s f g z t_' p_' h_' l_' r0_' r1_' r2_' r3_' r4_' r5_' r6_' r7_' y_' z_'∧lx (3,0,0) (2,(8-(5:Int)).toNat,0)) (λt_' p_' h_' l_' r0_' r1_' r2_' r3_' r4_' r5_' r6_' r7_' c0_' c1_' c2_' c3_' c4_' c5_' c6_' c7_' i_'=>Bq s f g z t_' p_' h_' l_' r0_' r1_' r2_' r3_' r4_' r5_' r6_' r7_' c0_' c1_' c2_' c3_' c4_' c5_' c6_' c7_' i_'∧lx (2,(8-i_').toNat,0) (2,(8-(5:Int)).toNat,0)) (λr__=>r__=(Eb s f g z)) (λt_ p_ h_ l_ x0_ x1_ x2_ x3_ x4_ x5_ x6_ x7_ r_=>BG ⟨t_,p_,h_,l_,x0_,x1_,x2_,x3_,x4_,x5_,x6_,x7_⟩ ((Eb s f g z))∧r_=()):=by
 unfold Bq at hI
 unfold Vf
 try unfold BZ
 try unfold BU
 try unfold Bq
 obtain ⟨_,_,hE,rfl,rfl,rfl,rfl,rfl,rfl,rfl,rfl⟩:=hI
 injection hE with e1 e2 e3 e4 f0 f1 f2 f3 f4 f5 f6 f7
 subst e1 e2 e3 e4 f0 f1 f2 f3 f4 f5 f6 f7
 refine ⟨λ_=>⟨by decide, λ_=>⟨λe=>?_, λe=>?_⟩⟩, λh=>(by cases h)⟩
 ·have e:(s.r5==f)=true:=e
  refine ⟨by decide, λ_=>⟨⟨by decide,by decide,?_,rfl,rfl,rfl,rfl,rfl,rfl,rfl,rfl⟩,Cb⟩⟩
  unfold Ht Fj;rw [e];first|done|rfl
 ·have e:(s.r5==f)=false:=e
  refine ⟨⟨by decide,by decide,?_,rfl,rfl,rfl,rfl,rfl,rfl,rfl,rfl⟩,Cb⟩
  unfold Ht Fj;rw [e];first|done|rfl
theorem Aad (s:MS) (f g z:Int) (hp0:BC s.l) (t_ p_ h_:Int) (l_:List (Int×Int)) (r0_ r1_ r2_ r3_ r4_ r5_ r6_ r7_ c0_ c1_ c2_ c3_ c4_ c5_ c6_ c7_:Int) (hI:Bq s f g z t_ p_ h_ l_ r0_ r1_ r2_ r3_ r4_ r5_ r6_ r7_ c0_ c1_ c2_ c3_ c4_ c5_ c6_ c7_ (6:Int)):Vg s f g z t_ p_ h_ l_ r0_ r1_ r2_ r3_ r4_ r5_ r6_ r7_ c0_ c1_ c2_ c3_ c4_ c5_ c6_ c7_ (λy_' z_'=>BZ s f g z y_' z_'∧lx (4,0,0) (2,(8-(6:Int)).toNat,0)) (λt_' p_' h_' l_' r0_' r1_' r2_' r3_' r4_' r5_' r6_' r7_' y_' z_'=>BU s f g z t_' p_' h_' l_' r0_' r1_' r2_' r3_' r4_' r5_' r6_' r7_' y_' z_'∧lx (3,0,0) (2,(8-(6:Int)).toNat,0)) (λt_' p_' h_' l_' r0_' r1_' r2_' r3_' r4_' r5_' r6_' r7_' c0_' c1_' c2_' c3_' c4_' c5_' c6_' c7_' i_'=>Bq s f g z t_' p_' h_' l_' r0_' r1_' r2_' r3_' r4_' r5_' r6_' r7_' c0_' c1_' c2_' c3_' c4_' c5_' c6_' c7_' i_'∧lx (2,(8-i_').toNat,0) (2,(8-(6:Int)).toNat,0)) (λr__=>r__=(Eb s f g z)) (λt_ p_ h_ l_ x0_ x1_ x2_ x3_ x4_ x5_ x6_ x7_ r_=>BG ⟨t_,p_,h_,l_,x0_,x1_,x2_,x3_,x4_,x5_,x6_,x7_⟩ ((Eb s f g z))∧r_=()):=by
 unfold Bq at hI
 unfold Vg
 try unfold BZ
 try unfold BU
 try unfold Bq
 obtain ⟨_,_,hE,rfl,rfl,rfl,rfl,rfl,rfl,rfl,rfl⟩:=hI
 injection hE with e1 e2 e3 e4 f0 f1 f2 f3 f4 f5 f6 f7
 subst e1 e2 e3 e4 f0 f1 f2 f3 f4 f5 f6 f7
 refine ⟨λ_=>⟨by decide, λ_=>⟨λe=>?_, λe=>?_⟩⟩, λh=>(by cases h)⟩
 ·have e:(s.r6==f)=true:=e
  refine ⟨by decide, λ_=>⟨⟨by decide,by decide,?_,rfl,rfl,rfl,rfl,rfl,rfl,rfl,rfl⟩,Cb⟩⟩
  unfold Ht Fj;rw [e];first|done|rfl
 ·have e:(s.r6==f)=false:=e
  refine ⟨⟨by decide,by decide,?_,rfl,rfl,rfl,rfl,rfl,rfl,rfl,rfl⟩,Cb⟩
  unfold Ht Fj;rw [e];first|done|rfl
theorem Aae (s:MS) (f g z:Int) (hp0:BC s.l) (t_ p_ h_:Int) (l_:List (Int×Int)) (r0_ r1_ r2_ r3_ r4_ r5_ r6_ r7_ c0_ c1_ c2_ c3_ c4_ c5_ c6_ c7_:Int) (hI:Bq s f g z t_ p_ h_ l_ r0_ r1_ r2_ r3_ r4_ r5_ r6_ r7_ c0_ c1_ c2_ c3_ c4_ c5_ c6_ c7_ (7:Int)):Vh s f g z t_ p_ h_ l_ r0_ r1_ r2_ r3_ r4_ r5_ r6_ r7_ c0_ c1_ c2_ c3_ c4_ c5_ c6_ c7_ (λy_' z_'=>BZ s f g z y_' z_'∧lx (4,0,0) (2,(8-(7:Int)).toNat,0)) (λt_' p_' h_' l_' r0_' r1_' r2_' r3_' r4_' r5_' r6_' r7_' y_' z_'=>BU s f g z t_' p_' h_' l_' r0_' r1_' r2_' r3_' r4_' r5_' r6_' r7_' y_' z_'∧lx (3,0,0) (2,(8-(7:Int)).toNat,0)) (λt_' p_' h_' l_' r0_' r1_' r2_' r3_' r4_' r5_' r6_' r7_' c0_' c1_' c2_' c3_' c4_' c5_' c6_' c7_' i_'=>Bq s f g z t_' p_' h_' l_' r0_' r1_' r2_' r3_' r4_' r5_' r6_' r7_' c0_' c1_' c2_' c3_' c4_' c5_' c6_' c7_' i_'∧lx (2,(8-i_').toNat,0) (2,(8-(7:Int)).toNat,0)) (λr__=>r__=(Eb s f g z)) (λt_ p_ h_ l_ x0_ x1_ x2_ x3_ x4_ x5_ x6_ x7_ r_=>BG ⟨t_,p_,h_,l_,x0_,x1_,x2_,x3_,x4_,x5_,x6_,x7_⟩ ((Eb s f g z))∧r_=()):=by
 unfold Bq at hI
 unfold Vh
 try unfold BZ
 try unfold BU
 try unfold Bq
 obtain ⟨_,_,hE,rfl,rfl,rfl,rfl,rfl,rfl,rfl,rfl⟩:=hI
 injection hE with e1 e2 e3 e4 f0 f1 f2 f3 f4 f5 f6 f7
 subst e1 e2 e3 e4 f0 f1 f2 f3 f4 f5 f6 f7
 refine ⟨λ_=>⟨by decide, λ_=>⟨λe=>?_, λe=>?_⟩⟩, λh=>(by cases h)⟩
 ·have e:(s.r7==f)=true:=e
  refine ⟨by decide, λ_=>⟨⟨by decide,by decide,?_,rfl,rfl,rfl,rfl,rfl,rfl,rfl,rfl⟩,Cb⟩⟩
  unfold Ht Fj;rw [e];first|done|rfl
 ·have e:(s.r7==f)=false:=e
  refine ⟨⟨by decide,by decide,?_,rfl,rfl,rfl,rfl,rfl,rfl,rfl,rfl⟩,Cb⟩
  unfold Ht Fj;rw [e];first|done|rfl
theorem Aaf (s:MS) (f g z:Int) (hp0:BC s.l) (t_ p_ h_:Int) (l_:List (Int×Int)) (r0_ r1_ r2_ r3_ r4_ r5_ r6_ r7_ c0_ c1_ c2_ c3_ c4_ c5_ c6_ c7_:Int) (hI:Bq s f g z t_ p_ h_ l_ r0_ r1_ r2_ r3_ r4_ r5_ r6_ r7_ c0_ c1_ c2_ c3_ c4_ c5_ c6_ c7_ (8:Int)):Vj s f g z t_ p_ h_ l_ r0_ r1_ r2_ r3_ r4_ r5_ r6_ r7_ c0_ c1_ c2_ c3_ c4_ c5_ c6_ c7_ (λy_' z_'=>BZ s f g z y_' z_'∧lx (4,0,0) (2,(8-(8:Int)).toNat,0)) (λt_' p_' h_' l_' r0_' r1_' r2_' r3_' r4_' r5_' r6_' r7_' y_' z_'=>BU s f g z t_' p_' h_' l_' r0_' r1_' r2_' r3_' r4_' r5_' r6_' r7_' y_' z_'∧lx (3,0,0) (2,(8-(8:Int)).toNat,0)) (λt_' p_' h_' l_' r0_' r1_' r2_' r3_' r4_' r5_' r6_' r7_' c0_' c1_' c2_' c3_' c4_' c5_' c6_' c7_' i_'=>Bq s f g z t_' p_' h_' l_' r0_' r1_' r2_' r3_' r4_' r5_' r6_' r7_' c0_' c1_' c2_' c3_' c4_' c5_' c6_' c7_' i_'∧lx (2,(8-i_').toNat,0) (2,(8-(8:Int)).toNat,0)) (λr__=>r__=(Eb s f g z)) (λt_ p_ h_ l_ x0_ x1_ x2_ x3_ x4_ x5_ x6_ x7_ r_=>BG ⟨t_,p_,h_,l_,x0_,x1_,x2_,x3_,x4_,x5_,x6_,x7_⟩ ((Eb s f g z))∧r_=()):=by
 unfold Bq at hI
 unfold Vj
 try unfold BZ
 try unfold BU
 try unfold Bq
 obtain ⟨_,_,hE,_⟩:=hI
 exact ⟨λh=>(by cases h), λ_=>⟨hE,rfl⟩⟩
theorem AhL:EF 59 AdT:=
 GH Dg Fa false Qm (I:=[1006900,2999998,427000000000,427000000001,427000000002,427000000033,427000000034]) Try.func59 mix (B:=Bg Try.f59) (by kernel_rfl) rfl (by kernel_rfl) 400
  λo s f g z hb hp=>have hp0:BC s.l:=hp _ (.head _);⟨s,(Eb s f g z),(),[⟨some 900,[0,1],[.code [1,1]],[0,1,2,3,8],[.objk Cc ⟨o,0,none⟩ (s), .ic .i64 (f), .ic .i64 (g), .ic .i64 (z), .box 55 [.i .i64, .i .i64]]⟩,⟨some 900,[0,1],[.code [1,1]],[0,1,2,3,8],[.boxc o BQ.t BQ.l, .ic .i64 (f), .ic .i64 (g), .ic .i64 (z), .box 55 [.i .i64, .i .i64]]⟩,⟨none,[0,1,1,1,1],[.blk 0],[0,1,2,33,34],[.boxc o BQ.t BQ.l, .ic .i64 (f), .ic .i64 (g), .agg [.i .i64, .i .i64, .i .i64, .i .i64, .i .i64, .i .i64, .i .i64, .i .i64], .i .i64]⟩],[.opn 0 (λ_=>o) 1, .run, .run], λj=>iN [AA (Hd.kd (⟨some 900,[0,1],[.code [1,1]],[0,1,2,3,8],[.objk Cc ⟨o,0,none⟩ (s), .ic .i64 (f), .ic .i64 (g), .ic .i64 (z), .box 55 [.i .i64, .i .i64]]⟩:Hd Sg)) (λy_' z_'=>BZ s f g z y_' z_'),AA (Hd.kd (⟨some 900,[0,1],[.code [1,1]],[0,1,2,3,8],[.boxc o BQ.t BQ.l, .ic .i64 (f), .ic .i64 (g), .ic .i64 (z), .box 55 [.i .i64, .i .i64]]⟩:Hd Sg)) (λt_' p_' h_' l_' r0_' r1_' r2_' r3_' r4_' r5_' r6_' r7_' y_' z_'=>BU s f g z t_' p_' h_' l_' r0_' r1_' r2_' r3_' r4_' r5_' r6_' r7_' y_' z_'),AA (Hd.kd (⟨none,[0,1,1,1,1],[.blk 0],[0,1,2,33,34],[.boxc o BQ.t BQ.l, .ic .i64 (f), .ic .i64 (g), .agg [.i .i64, .i .i64, .i .i64, .i .i64, .i .i64, .i .i64, .i .i64, .i .i64], .i .i64]⟩:Hd Sg)) (λt_' p_' h_' l_' r0_' r1_' r2_' r3_' r4_' r5_' r6_' r7_' c0_' c1_' c2_' c3_' c4_' c5_' c6_' c7_' i_'=>Bq s f g z t_' p_' h_' l_' r0_' r1_' r2_' r3_' r4_' r5_' r6_' r7_' c0_' c1_' c2_' c3_' c4_' c5_' c6_' c7_' i_')] j (λ_=>False), λj=>iN [AA (Hd.kd (⟨some 900,[0,1],[.code [1,1]],[0,1,2,3,8],[.objk Cc ⟨o,0,none⟩ (s), .ic .i64 (f), .ic .i64 (g), .ic .i64 (z), .box 55 [.i .i64, .i .i64]]⟩:Hd Sg)) (λy_' z_'=>(4,0,0)),AA (Hd.kd (⟨some 900,[0,1],[.code [1,1]],[0,1,2,3,8],[.boxc o BQ.t BQ.l, .ic .i64 (f), .ic .i64 (g), .ic .i64 (z), .box 55 [.i .i64, .i .i64]]⟩:Hd Sg)) (λt_' p_' h_' l_' r0_' r1_' r2_' r3_' r4_' r5_' r6_' r7_' y_' z_'=>(3,0,0)),AA (Hd.kd (⟨none,[0,1,1,1,1],[.blk 0],[0,1,2,33,34],[.boxc o BQ.t BQ.l, .ic .i64 (f), .ic .i64 (g), .agg [.i .i64, .i .i64, .i .i64, .i .i64, .i .i64, .i .i64, .i .i64, .i .i64], .i .i64]⟩:Hd Sg)) (λt_' p_' h_' l_' r0_' r1_' r2_' r3_' r4_' r5_' r6_' r7_' c0_' c1_' c2_' c3_' c4_' c5_' c6_' c7_' i_'=>(2,(8-i_').toNat,0))] j (λ_=>(0,0,0)),by kernel_rfl, λ_ _=>by kernel_rfl,by kernel_rfl,⟨_, λ_ _ _=>by kernel_rfl,AdV s f g z hp0⟩,⟨λy_ z_ hI=>⟨s, λ_=>by kernel_rfl, λt_ p_ h_ l_ x0_ x1_ x2_ x3_ x4_ x5_ x6_ x7_ hx=>⟨_, λ_ _=>by kernel_rfl,AdW s f g z hp0 y_ z_ t_ p_ h_ l_ x0_ x1_ x2_ x3_ x4_ x5_ x6_ x7_ hI hx⟩⟩,⟨λt_ p_ h_ l_ r0_ r1_ r2_ r3_ r4_ r5_ r6_ r7_ y_ z_ hI=>⟨_, λ_ _ _=>by kernel_rfl,AdX s f g z hp0 t_ p_ h_ l_ r0_ r1_ r2_ r3_ r4_ r5_ r6_ r7_ y_ z_ hI⟩,⟨λt_ p_ h_ l_ r0_ r1_ r2_ r3_ r4_ r5_ r6_ r7_ c0_ c1_ c2_ c3_ c4_ c5_ c6_ c7_ i_ hI=>(by
   rcases AgC s f g z hp0 t_ p_ h_ l_ r0_ r1_ r2_ r3_ r4_ r5_ r6_ r7_ c0_ c1_ c2_ c3_ c4_ c5_ c6_ c7_ i_ hI with rfl|rfl|rfl|rfl|rfl|rfl|rfl|rfl|rfl
   ·exact ⟨_, λ_ _ _=>by kernel_rfl,ZX s f g z hp0 t_ p_ h_ l_ r0_ r1_ r2_ r3_ r4_ r5_ r6_ r7_ c0_ c1_ c2_ c3_ c4_ c5_ c6_ c7_ hI⟩
   ·exact ⟨_, λ_ _ _=>by kernel_rfl,ZY s f g z hp0 t_ p_ h_ l_ r0_ r1_ r2_ r3_ r4_ r5_ r6_ r7_ c0_ c1_ c2_ c3_ c4_ c5_ c6_ c7_ hI⟩
   ·exact ⟨_, λ_ _ _=>by kernel_rfl,ZZ s f g z hp0 t_ p_ h_ l_ r0_ r1_ r2_ r3_ r4_ r5_ r6_ r7_ c0_ c1_ c2_ c3_ c4_ c5_ c6_ c7_ hI⟩
   ·exact ⟨_, λ_ _ _=>by kernel_rfl,Aaa s f g z hp0 t_ p_ h_ l_ r0_ r1_ r2_ r3_ r4_ r5_ r6_ r7_ c0_ c1_ c2_ c3_ c4_ c5_ c6_ c7_ hI⟩
   ·exact ⟨_, λ_ _ _=>by kernel_rfl,Aab s f g z hp0 t_ p_ h_ l_ r0_ r1_ r2_ r3_ r4_ r5_ r6_ r7_ c0_ c1_ c2_ c3_ c4_ c5_ c6_ c7_ hI⟩
   ·exact ⟨_, λ_ _ _=>by kernel_rfl,Aac s f g z hp0 t_ p_ h_ l_ r0_ r1_ r2_ r3_ r4_ r5_ r6_ r7_ c0_ c1_ c2_ c3_ c4_ c5_ c6_ c7_ hI⟩
   ·exact ⟨_, λ_ _ _=>by kernel_rfl,Aad s f g z hp0 t_ p_ h_ l_ r0_ r1_ r2_ r3_ r4_ r5_ r6_ r7_ c0_ c1_ c2_ c3_ c4_ c5_ c6_ c7_ hI⟩
   ·exact ⟨_, λ_ _ _=>by kernel_rfl,Aae s f g z hp0 t_ p_ h_ l_ r0_ r1_ r2_ r3_ r4_ r5_ r6_ r7_ c0_ c1_ c2_ c3_ c4_ c5_ c6_ c7_ hI⟩
   ·exact ⟨_, λ_ _ _=>by kernel_rfl,Aaf s f g z hp0 t_ p_ h_ l_ r0_ r1_ r2_ r3_ r4_ r5_ r6_ r7_ c0_ c1_ c2_ c3_ c4_ c5_ c6_ c7_ hI⟩),trivial⟩⟩⟩⟩
def AdY:Tb:=(59,AdT)::XW
theorem Vk:CQ AdY:=EO AhL Qm
end
end Go.Proofs.Ytdjfnbbmfmjckaa
