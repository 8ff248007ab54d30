/-
  DERIVED. Part 3 of the texts of this claim.
-/
import Derived.Test.YtdjfnbbmfmjckaaJModelAllows2
import Derived.Test.YtdjfnbbmfmjckaaProg
import Derived.RangeFuncMany
import Derived.RangeFuncLeaves
set_option linter.unusedSimpArgs false
set_option linter.unusedVariables false
open Option.some renaming injEq → iA
open Go.IntKind renaming i64 → iB, wrap → iO
open List renaming getD_eq_getElem?_getD → iC, map_cons → iD, mem_cons → iG, length → iH, getElem?_append_left → iI, getElem?_append_right → iJ, getElem?_eq_getElem → iK, getElem?_map → iM, getD → iN, getElem?_set_self → iT, mem_of_getElem? → iV, getElem?_set_ne → iW, zipWith → jA, map_append → jD, getElem?_eq_none → jE, getElem?_cons_zero → jH, range' → jK, length_append → jL, all_eq_true → jN, append_assoc → jP, range → jQ, map_set → jU, length_map → jV, cons_append → jX, map_nil → kD, getElem?_take → kJ, zipWith_cons_cons → kK, mem_map → kN, getElem?_cons_succ → kO, getElem?_of_mem → kT, append_nil → kZ, ext_getElem? → lB, nodup_cons → lF, contains_cons → lL, findIdx?_eq_some_iff_getElem → lQ, mem_append → lT, take_length → mH, findIdx?_eq_none_iff → mQ, nodup_range → mZ, eraseIdx_sublist → nM, take_add_one → nN, getElem_mem → nV, getElem_of_mem → nY, getElem?_range → nZ
open Bool renaming and_eq_true → iE, false_or → jW, or_eq_false_iff → kH, and_eq_false_iff → kI, not_true → kL, true_or → kS, not_eq_true' → kU, not_eq_false' → lO, or_eq_true → lU, eq_iff_iff → mS, true_and → oO
open Nat renaming eq_of_beq_eq_true → iF, beq → iL, lt_or_ge → jB, ble → jS, le_refl → jY, not_lt_zero → kB, zero_add → lD, mod_lt → mB, sub_self → nF, beq_refl → nT
open Prod.mk renaming injEq → iP
open Go.Sem renaming run_bind → iR, run_pure → iY
open Option renaming map_some → iS, map → mJ
open Go.Value renaming pointer → kA, slice → kY, func → lX, bool → oM, tuple → oP
open Array renaming getD_eq_getD_getElem? → jC, getElem?_eq_none → kE, mapM_eq_mapM_toList → nX
open Go.Sl.Chunk renaming cells → jG, obj → kR, dead → oN
open Int renaming toNat → jI
open Go.Sl.Pr renaming pt → lG
open Prod renaming fst → kM, snd → mI
open Go.Sl.PK renaming cell → nW
open BitVec renaming ofInt → oK
namespace Go.Sl
section
open Go.RowKit
theorem Di.QI {E:World} {G:Hp} {w:World} {As:List Ew} {k:Nat} {α:Type} {p:α→Prop} {A0:α→Ew} {Bs:α→List Ew} (h:Di E G w As) (hk:As[k]? =some (λh=>∃x,p x∧Sl.star0 (A0 x::Bs x) h)):
 ∃x,p x∧Di E G w (As.set k (A0 x)++Bs x):=by
 obtain ⟨h1,h2,o,h3,h4⟩:=h
 obtain ⟨x,hp,o2,h5⟩:=h4 k _ hk
 have hkl:k<As.length:=BD hk
 let o':Nat→Option Nat:= λb=>match o b with
  |some i=>if i=k then (match o2 b with|some 0=>some k|some (j+1)=>some (As.length+j)|none=>none) else if i<As.length then some i else none
  |none=>none
 refine ⟨x,hp,h1,h2,o', λb i hb=>?_, λi A hi=>?_⟩
 ·simp only [o'] at hb
  cases ho:o b with
  |none=>simp [ho] at hb
  |some j=>exact h3 b j ho
 ·rcases jB i As.length with hl|hl
  ·rw [iI (by simpa using hl)] at hi
   by_cases hik:k=i
   ·subst hik
    rw [iT hkl] at hi
    injection hi with hi;subst hi
    have:=h5 0 _ rfl
    have e:part w o' k= λb=>if o2 b=some 0 then part w o k b else none:=by
     funext b
     unfold part
     by_cases ho:o b=some k
     ·by_cases h0:o2 b=some 0
      ·simp [o',ho,h0]
      ·have hne:o' b≠some k:=by
        simp only [o',ho,if_true]
        cases hq:o2 b with
        |none=>simp
        |some j=>
         cases j with
         |zero=>exact absurd hq h0
         |succ j=>simp;omega
       rw [if_neg hne,if_neg h0]
     ·have hne:o' b≠some k:=by
       simp only [o']
       cases hq:o b with
       |none=>simp
       |some j=>
        have hjk:j≠k:= λe=>ho (by rw [hq,e])
        simp only [hjk,if_false]
        split<;>simp [hjk]
      rw [if_neg hne];simp [ho]
    rw [e];exact this
   ·rw [iW hik] at hi
    have:=h4 i A hi
    rw [Fb (w':=w) (o':=o') (j:=i)] at this
    ·exact this
    ·refine λb=>⟨⟨λhb=>?_, λhb=>?_⟩, λ_=>rfl⟩
     ·have:¬i=k:= λe=>hik e.symm
      simp only [o',hb,this,if_false,hl,if_true]
     ·simp only [o'] at hb
      cases ho:o b with
      |none=>simp [ho] at hb
      |some j=>
       rw [ho] at hb
       dsimp only at hb
       split at hb
       ·cases hq:o2 b with
        |none=>rw [hq] at hb;cases hb
        |some m=>
         rw [hq] at hb
         cases m with
         |zero=>injection hb with hb;exact absurd hb hik
         |succ m=>injection hb with hb;omega
       ·split at hb
        ·exact hb
        ·cases hb
  ·rw [iJ (by simpa using hl)] at hi
   simp only [List.length_set] at hi
   have:=h5 (i-As.length+1) A (by simpa using hi)
   have e:part w o' i= λb=>if o2 b=some (i-As.length+1) then part w o k b else none:=by
    funext b
    unfold part
    by_cases ho:o b=some k
    ·by_cases h0:o2 b=some (i-As.length+1)
     ·have:o' b=some i:=by
       simp only [o',ho,h0,if_true];congr 1;omega
      rw [if_pos this,if_pos h0,if_pos ho]
     ·have hne:o' b≠some i:=by
       simp only [o',ho,if_true]
       cases hq:o2 b with
       |none=>simp
       |some j=>
        cases j with
        |zero=>simp;omega
        |succ j=>
         simp only [ne_eq,iA]
         intro e2
         exact h0 (by rw [hq];congr 1;omega)
      rw [if_neg hne,if_neg h0]
    ·have hne:o' b≠some i:=by
      simp only [o']
      cases hq:o b with
      |none=>simp
      |some j=>
       have hjk:j≠k:= λe=>ho (by rw [hq,e])
       simp only [hjk,if_false]
       split
       ·simp;omega
       ·simp
     rw [if_neg hne];simp [ho]
   rw [e];exact this
theorem Ary {Z:Hp} {α:Type} {p:α→Prop} {A0:α→CZ} {Bs:α→List CZ}:IW Z (λY h=>∃x,p x∧Sl.star (A0 x::Bs x) Y h)= λh=>∃x,p x∧Sl.star0 (IW Z (A0 x)::(Bs x).map (IW Z)) h:=by
 funext k
 apply propext
 have e:∀x,IW Z (Sl.star (A0 x::Bs x))=Sl.star0 (IW Z (A0 x)::(Bs x).map (IW Z)):= λx=>by rw [RZ,iD]
 constructor
 ·intro h
  obtain ⟨x,hp,hs⟩:=h Z (Hp.le_refl Z)
  refine ⟨x,hp,?_⟩
  rw [←e x]
  exact λY hY=>Aql hY hs
 ·rintro ⟨x,hp,hs⟩ Y hY
  rw [←e x] at hs
  exact ⟨x,hp,hs Y hY⟩
theorem Sat.QI {E:Ev} {G:Hp} {w:World} {As:List CZ} {k:Nat} {α:Type} {p:α→Prop} {A0:α→CZ} {Bs:α→List CZ} (h:Sat E G w As) (hk:As[k]? =some (λY h=>∃x,p x∧Sl.star (A0 x::Bs x) Y h)):
 ∃x,p x∧Sat E G w (As.set k (A0 x)++Bs x):=by
 obtain ⟨Z,hz,hw,h0⟩:=h
 obtain ⟨x,hp,h1⟩:=Di.QI (k:=k) (A0:= λx=>IW Z (A0 x)) (Bs:= λx=>(Bs x).map (IW Z)) h0 (by rw [EI hk,Ary])
 refine ⟨x,hp,Z,hz,hw,?_⟩
 rw [jD,jU]
 exact h1
mutual
def QJ (k:Nat):Pr→Pr
 | .no=> .no
 | .pt j pk=>match pk with
   | .obj=>bif iL j k then .pt j (.cell 0) else .pt j .obj
   |pk=> .pt j pk
 | .many ps=> .many (AgO k ps)
 | .box p=> .box (QJ k p)
def AgO (k:Nat):List Pr→List Pr
 |[]=>[]
 |p::ps=>QJ k p::AgO k ps
end
def YM (k:Nat):List (Value×Pr)→List (Value×Pr)
 |[]=>[]
 |x::r=>(x.1,QJ k x.2)::YM k r
variable {σ:Type} (D:Addr→σ→CZ)
def opC (k:Nat):Chunk σ→Chunk σ
 | .cells b t cs=> .cells b t (YM k cs)
 |c=>c
def opK (k:Nat):List (Chunk σ)→List (Chunk σ)
 |[]=>[]
 |c::r=>opC k c::opK k r
def Kr (k:Nat):List Ak→List Ak
 |[]=>[]
 |e::r=>⟨e.s,e.g,e.v,QJ k e.p⟩::Kr k r
theorem AgP (k:Nat):∀cs:List (Value×Pr),(YM k cs).map (·.1)=cs.map (·.1)
 |[]=>rfl
 |x::r=>by simp [YM,AgP k r]
theorem Aqp {G:Hp} (k:Nat) (c:Chunk σ):den D G (opC k c)=den D G c:=by
 cases c<;>simp [opC,den,AgP]
theorem Aqq {k:Nat} {c:Chunk σ} {v:Value} {pk:PK} (h:DJ c v pk):DJ (opC k c) v pk:=by
 cases c<;>first|exact h|(cases pk<;>first|exact h|exact h.elim)
theorem WE (k:Nat):∀(K:List (Chunk σ)) (j:Nat),(opK k K)[j]? =(K[j]?).map (opC k)
 |[],j=>by simp [opK]
 |c::r,0=>by simp [opK]
 |c::r,j+1=>by simp [opK,WE k r j]
theorem MK (k:Nat):∀K:List (Chunk σ),(opK k K).length=K.length
 |[]=>rfl
 |c::r=>by simp [opK,MK k r]
theorem Aqr {G:Hp} (k:Nat) (K:List (Chunk σ)):(opK k K).map (den D G)=K.map (den D G):=by
 apply lB
 intro j
 rw [iM,WE,iM]
 cases K[j]? with
 |none=>rfl
 |some c=>simp [Aqp]
section
variable {K K':List (Chunk σ)} {k b:Nat} {s:σ}
mutual
theorem Aa9 (hk:K[k]? =some (.obj ⟨b,0,none⟩ s)) (h0:∃t cs,K'[k]? =some (.cells b t cs)) (h1:∀(j:Nat) (c:Chunk σ),j≠k→K[j]? =some c→∃c',K'[j]? =some c'∧∀v pk,DJ c v pk→DJ c' v pk):∀(v:Value) (p:Pr),BH K v p→BH K' v (QJ k p)
 |_, .no,_=>by simp [BH,QJ]
 |v, .pt j pk,h=>by
  rw [Bg] at h
  obtain ⟨c,e1,e2⟩:=h
  by_cases hj:j=k
  ·subst hj
   rw [hk] at e1;injection e1 with e1;subst e1
   cases pk<;>simp only [DJ] at e2
   obtain ⟨t,cs,h0⟩:=h0
   have hb:iL j j=true:=nT j
   simp only [QJ,hb,cond_true]
   rw [Bg]
   exact ⟨_,h0,e2⟩
  ·obtain ⟨c',e3,e4⟩:=h1 j c hj e1
   have:QJ k (.pt j pk)= .pt j pk:=by
    cases pk<;>simp only [QJ]
    have:iL j k=false:=by
     cases hb:iL j k with
     |false=>rfl
     |true=>exact absurd (iF hb) hj
    rw [this];rfl
   rw [this,Bg]
   exact ⟨c',e3,e4 v pk e2⟩
 |v, .many ps,h=>by
  cases v<;>simp only [BH,QJ] at h ⊢
  all_goals exact Akw hk h0 h1 _ ps h
 |v, .box p,h=>by
  cases v<;>simp only [BH,QJ] at h ⊢
  ·obtain ⟨v,h2,h3⟩:=h
   exact ⟨v,h2,Aa9 hk h0 h1 _ p h3⟩
  ·exact Aa9 hk h0 h1 _ p h
theorem Akw (hk:K[k]? =some (.obj ⟨b,0,none⟩ s)) (h0:∃t cs,K'[k]? =some (.cells b t cs)) (h1:∀(j:Nat) (c:Chunk σ),j≠k→K[j]? =some c→∃c',K'[j]? =some c'∧∀v pk,DJ c v pk→DJ c' v pk):∀(vs:List Value) (ps:List Pr),AQ K vs ps→AQ K' vs (AgO k ps)
 |[],[],_=>by simp [AQ,AgO]
 |[],_::_,h=>by simp [AQ] at h
 |_::_,[],h=>by simp [AQ] at h
 |v::vs,p::ps,h=>by
  simp only [AQ,AgO] at h ⊢
  exact ⟨Aa9 hk h0 h1 v p h.1,Akw hk h0 h1 vs ps h.2⟩
end
theorem AgQ {k:Nat}:∀{cs:List (Value×Pr)} {x:Value×Pr},x∈YM k cs→∃y∈cs,x=(y.1,QJ k y.2)
 |[],x,h=>by simp [YM] at h
 |y::r,x,h=>by
  simp only [YM,iG] at h
  rcases h with rfl|h
  ·exact ⟨y,by simp,rfl⟩
  ·obtain ⟨z,h1,h2⟩:=AgQ h
   exact ⟨z,by simp [h1],h2⟩
theorem AcE {k:Nat}:∀{L:List Ak} {e:Ak},e∈Kr k L→∃y∈L,e=⟨y.s,y.g,y.v,QJ k y.p⟩
 |[],x,h=>by simp [Kr] at h
 |y::r,x,h=>by
  simp only [Kr,iG] at h
  rcases h with rfl|h
  ·exact ⟨y,by simp,rfl⟩
  ·obtain ⟨z,h1,h2⟩:=AcE h
   exact ⟨z,by simp [h1],h2⟩
end
theorem SW.open {P:Program} {f:FuncId} {R:Ending→World→Prop} {B:Code} {n:Nat} {E:Ev} {G:Hp} {td:List Ab} {L:List Ak} {K:List (Chunk σ)} (k:Nat) {p0:Addr} {s:σ} (hk:K[k]? =some (.obj p0 s))
 {α:Type} {q:α→Prop} (bf:α→Nat) (tf:α→TypeId) (cf:α→List (Value×Pr)) (rf:α→List (Chunk σ)) (hD:D p0 s= λY h=>∃x,q x∧Sl.star ((jG (bf x) (tf x) (cf x)::rf x).map (den D G)) Y h)
 (hp:∀x,q x→p0=⟨bf x,0,none⟩) (hr:∀x b t cs,jG b t cs∈rf x→cs=[])
 (hc:∀x,q x→∀y∈cf x,BH ((opK k K).set k (.cells (bf x) (tf x) (cf x))++rf x) y.1 y.2)
 (h:∀x,q x→SW D P f R B n E G td (Kr k L) ((opK k K).set k (.cells (bf x) (tf x) (cf x))++rf x)):SW D P f R B n E G td L K:=by
 intro a w hF hS
 have hkl:=BD hk
 have hS1:Sat E G w (K.map (den D G)):=hS
 obtain ⟨x,hx,hS2⟩:=Sat.QI (p:=q) (A0:= λx=>den D G (.cells (bf x) (tf x) (cf x))) (Bs:= λx=>(rf x).map (den D G)) (k:=k) hS1 (by rw [C9 D hk];simp only [den,hD];rfl)
 have hp0:=hp x hx
 rw [hp0] at hk
 let K':List (Chunk σ):=(opK k K).set k (.cells (bf x) (tf x) (cf x))++rf x
 have hK'k:K'[k]? =some (.cells (bf x) (tf x) (cf x)):=by
  show ((opK k K).set k _++rf x)[k]? =_
  rw [iI (by simp [MK,hkl]),iT (by rw [MK];exact hkl)]
 have hK'j:∀(j:Nat) (c:Chunk σ),j≠k→K[j]? =some c→∃c',K'[j]? =some c'∧∀v pk,DJ c v pk→DJ c' v pk:= λj c hj hjc=>by
  refine ⟨opC k c,?_, λv pk h=>Aqq h⟩
  show ((opK k K).set k _++rf x)[j]? =_
  rw [iI (by simp [MK,BD hjc]),iW (λe=>hj e.symm),WE,hjc];rfl
 have hop:= λv p hv=>Aa9 (K:=K) (K':=K') hk ⟨_,_,hK'k⟩ hK'j v p hv
 refine h x hx a w ⟨λj b t cs hj y hy=>?_,hF.defers,hF.size, λe he hg=>?_, λe he hg=>?_⟩ ?_
 ·by_cases hjk:j=k
  ·subst hjk
   have:=hK'k.symm.trans hj
   injection this with this;injection this with _ _ this;subst this
   exact hc x hx y hy
  ·rcases jB j K.length with hl|hl
   ·have hj':((opK k K).set k (jG (bf x) (tf x) (cf x))++rf x)[j]? =some (.cells b t cs):=hj
    rw [iI (by simp [MK,hl]),iW (λe=>hjk e.symm),WE] at hj'
    cases hq:K[j]? with
    |none=>rw [hq] at hj';cases hj'
    |some c=>
     rw [hq] at hj'
     cases c<;>simp only [iS,opC,iA] at hj'<;>try cases hj'
     obtain ⟨z,hz,rfl⟩:=AgQ hy
     exact hop _ _ (hF.kok _ _ _ _ hq z hz)
   ·have hj':((opK k K).set k (jG (bf x) (tf x) (cf x))++rf x)[j]? =some (.cells b t cs):=hj
    rw [iJ (by simpa [MK] using hl)] at hj'
    have:=hr x b t cs (iV hj')
    subst this;cases hy
 ·obtain ⟨y,hy,rfl⟩:=AcE he
  obtain ⟨e1,e2⟩:=hF.ents y hy hg
  exact ⟨e1,hop _ _ e2⟩
 ·obtain ⟨y,hy,rfl⟩:=AcE he
  exact hF.skipd y hy hg
 ·show Sat E G w _
  rw [jD,jU,Aqr]
  exact hS2
def EM {α:Type} (xs:List α) (v:α):List Nat→List α
 |[]=>xs
 |i::is=>EM (xs.set i v) v is
theorem Sm {α:Type} {v:α}:∀(is:List Nat) (xs:List α) (j:Nat) (x:α),(EM xs v is)[j]? =some x→(j∈is∧x=v)∨(j ∉ is∧xs[j]? =some x)
 |[],xs,j,x,h=> .inr ⟨by simp,h⟩
 |i::is,xs,j,x,h=>by
  rcases Sm is (xs.set i v) j x h with ⟨h1,h2⟩|⟨h1,h2⟩
  ·exact .inl ⟨by simp [h1],h2⟩
  ·by_cases hij:i=j
   ·subst hij
    rcases jB i xs.length with hl|hl
    ·rw [iT hl] at h2
     injection h2 with h2
     exact .inl ⟨by simp,h2.symm⟩
    ·rw [jE (by simpa using hl)] at h2;cases h2
   ·rw [iW hij] at h2
    exact .inr ⟨by simp [h1];exact λe=>hij e.symm,h2⟩
theorem Sr {α β:Type} (f:α→β) (v:α):∀(is:List Nat) (xs:List α),(EM xs v is).map f=EM (xs.map f) (f v) is
 |[],xs=>rfl
 |i::is,xs=>by rw [EM,Sr f v is,jU];rfl
theorem Su {α:Type} (v:α):∀(is:List Nat) (xs:List α),(EM xs v is).length=xs.length
 |[],xs=>rfl
 |i::is,xs=>by rw [EM,Su v is];simp
theorem AaA {α:Type} {v:α}:∀{is:List Nat} {xs:List α} {j:Nat},j ∉ is→(EM xs v is)[j]? =xs[j]?
 |[],xs,j,_=>rfl
 |i::is,xs,j,h=>by
  simp only [iG,not_or] at h
  rw [EM,AaA h.2,iW (λe=>h.1 e.symm)]
theorem Di.closeAt {E:World} {G:Hp} {w:World} {As Bs:List Ew} {k:Nat} {ks:List Nat} (h:Di E G w As) (hn:(k::ks).Nodup) (hB:∀(i:Nat) (B:Ew),Bs[i]? =some B→∃j,(k::ks)[i]? =some j∧As[j]? =some B):
 Di E G w ((EM As (λ_=>True) ks).set k (Sl.star0 Bs)):=by
 obtain ⟨h1,h2,o,h3,h4⟩:=h
 have hkn:k ∉ ks:=(lF.1 hn).1
 let o':Nat→Option Nat:= λb=>match o b with
  |some i=>if i∈k::ks then some k else some i
  |none=>none
 have hin:∀b,o' b=some k→∃i,o b=some i∧i∈k::ks:= λb hb=>by
  simp only [o'] at hb
  cases ho:o b with
  |none=>simp [ho] at hb
  |some i=>
   rw [ho] at hb
   dsimp only at hb
   by_cases hi:i∈k::ks
   ·exact ⟨i,rfl,hi⟩
   ·rw [if_neg hi] at hb
    injection hb with hb
    exact absurd (by rw [hb];simp) hi
 refine ⟨h1,h2,o', λb i hb=>?_, λi A hi=>?_⟩
 ·simp only [o'] at hb
  cases ho:o b with
  |none=>simp [ho] at hb
  |some j=>exact h3 b j ho
 ·by_cases hik:k=i
  ·subst hik
   have hl:=BD hi
   rw [iT (by simpa using hl)] at hi
   injection hi with hi;subst hi
   refine ⟨λb=>match o b with|some i=>(k::ks).idxOf? i|none=>none, λi B hBi=>?_⟩
   obtain ⟨j,e1,e2⟩:=hB i B hBi
   have:=h4 j B e2
   have e:(λb=>if (match o b with|some i=>(k::ks).idxOf? i|none=>none)=some i then part w o' k b else none)=part w o j:=by
    funext b
    unfold part
    cases ho:o b with
    |none=>simp
    |some m=>
     dsimp only
     by_cases hm:(k::ks).idxOf? m=some i
     ·have hmj:m=j:=by
       have:=(Kv hn).1 hm
       rw [e1] at this;injection this with this;exact this.symm
      subst hmj
      have:o' b=some k:=by
       simp only [o',ho]
       rw [if_pos (iV e1)]
      rw [if_pos hm,if_pos this];simp
     ·rw [if_neg hm,if_neg]
      intro e3
      injection e3 with e3
      subst e3
      exact hm ((Kv hn).2 e1)
   rw [e];exact this
  ·rw [iW hik] at hi
   rcases Sm ks As i A hi with ⟨_,rfl⟩|⟨hni,hA⟩
   ·trivial
   ·have:=h4 i A hA
    rw [Fb (w':=w) (o':=o') (j:=i)] at this
    ·exact this
    ·have hnk:¬i∈k::ks:=by
      simp only [iG,not_or]
      exact ⟨λe=>hik e.symm,hni⟩
     refine λb=>⟨⟨λhb=>?_, λhb=>?_⟩, λ_=>rfl⟩
     ·simp only [o',hb];rw [if_neg hnk]
     ·simp only [o'] at hb
      cases ho:o b with
      |none=>simp [ho] at hb
      |some j=>
       rw [ho] at hb
       dsimp only at hb
       split at hb
       ·injection hb with hb;exact absurd hb hik
       ·exact hb
theorem Sat.closeAt {E:Ev} {G:Hp} {w:World} {As Bs:List CZ} {k:Nat} {ks:List Nat} (h:Sat E G w As) (hn:(k::ks).Nodup) (hB:∀(i:Nat) (B:CZ),Bs[i]? =some B→∃j,(k::ks)[i]? =some j∧As[j]? =some B):
 Sat E G w ((EM As (λ_ _=>True) ks).set k (Sl.star Bs)):=by
 obtain ⟨Z,hz,hw,h0⟩:=h
 refine ⟨Z,hz,hw,?_⟩
 have e:IW Z (λ_ _=>True)= λ_=>True:=by funext k;exact propext ⟨λ_=>trivial, λ_ _ _=>trivial⟩
 rw [jU,Sr,RZ,e]
 exact h0.closeAt hn λi B hi=>by
  obtain ⟨C,h1,rfl⟩:=Js hi
  obtain ⟨j,h2,h3⟩:=hB i C h1
  exact ⟨j,h2,EI h3⟩
mutual
def UX (k:Nat) (ks:List Nat):Pr→Pr
 | .no=> .no
 | .pt j pk=>bif iL j k then (match pk with| .cell 0=> .pt k .obj|_=> .no) else bif ks.any (iL j) then .no else .pt j pk
 | .many ps=> .many (AgR k ks ps)
 | .box p=> .box (UX k ks p)
def AgR (k:Nat) (ks:List Nat):List Pr→List Pr
 |[]=>[]
 |p::ps=>UX k ks p::AgR k ks ps
end
def LV (k:Nat) (ks:List Nat):List Ak→List Ak
 |[]=>[]
 |e::r=>⟨e.s,e.g,e.v,UX k ks e.p⟩::LV k ks r
theorem AcF {k:Nat} {ks:List Nat}:∀{L:List Ak} {e:Ak},e∈LV k ks L→∃y∈L,e=⟨y.s,y.g,y.v,UX k ks y.p⟩
 |[],x,h=>by simp [LV] at h
 |y::r,x,h=>by
  simp only [LV,iG] at h
  rcases h with rfl|h
  ·exact ⟨y,by simp,rfl⟩
  ·obtain ⟨z,h1,h2⟩:=AcF h
   exact ⟨z,by simp [h1],h2⟩
section
variable {K K':List (Chunk σ)} {k b:Nat} {ks:List Nat} {s:σ}
mutual
theorem UY {t:TypeId} {cs:List (Value×Pr)} (hk:K[k]? =some (.cells b t cs)) (h0:K'[k]? =some (.obj ⟨b,0,none⟩ s)) (h1:∀j:Nat,j≠k→j ∉ ks→K'[j]? =K[j]?):∀(v:Value) (p:Pr),BH K v p→BH K' v (UX k ks p)
 |_, .no,_=>by simp [BH,UX]
 |v, .pt j pk,h=>by
  rw [Bg] at h
  obtain ⟨c,e1,e2⟩:=h
  simp only [UX]
  cases hj:iL j k with
  |true=>
   have:=iF hj
   subst this
   simp only [cond_true]
   rw [hk] at e1;injection e1 with e1;subst e1
   split
   ·rw [Bg];exact ⟨_,h0,e2⟩
   ·exact A8
  |false=>
   simp only [cond_false]
   cases hm:ks.any (iL j) with
   |true=>exact A8
   |false=>
    have hjk:j≠k:= λe=>by rw [e,nT] at hj;cases hj
    have hjn:j ∉ ks:= λhmem=>by
     rw [List.any_eq_false] at hm
     exact hm j hmem (nT j)
    simp only [cond_false]
    rw [Bg]
    exact ⟨c,by rw [h1 j hjk hjn];exact e1,e2⟩
 |v, .many ps,h=>by
  cases v<;>simp only [BH,UX] at h ⊢
  all_goals exact Akx hk h0 h1 _ ps h
 |v, .box p,h=>by
  cases v<;>simp only [BH,UX] at h ⊢
  ·obtain ⟨v,h2,h3⟩:=h
   exact ⟨v,h2,UY hk h0 h1 _ p h3⟩
  ·exact UY hk h0 h1 _ p h
theorem Akx {t:TypeId} {cs:List (Value×Pr)} (hk:K[k]? =some (.cells b t cs)) (h0:K'[k]? =some (.obj ⟨b,0,none⟩ s)) (h1:∀j:Nat,j≠k→j ∉ ks→K'[j]? =K[j]?):∀(vs:List Value) (ps:List Pr),AQ K vs ps→AQ K' vs (AgR k ks ps)
 |[],[],_=>by simp [AQ,AgR]
 |[],_::_,h=>by simp [AQ] at h
 |_::_,[],h=>by simp [AQ] at h
 |v::vs,p::ps,h=>by
  simp only [AQ,AgR] at h ⊢
  exact ⟨UY hk h0 h1 v p h.1,Akx hk h0 h1 vs ps h.2⟩
end
end
def AgS (k:Nat) (ks:List Nat):Pr→Bool
 | .no=>true
 | .pt j _=>!(iL j k)&&!(ks.any (iL j))
 |_=>false
theorem Aqs {k:Nat} {ks:List Nat} {p:Pr} (h:AgS k ks p=true):UX k ks p=p:=by
 cases p with
 |no=>rfl
 |pt j pk=>
  simp only [AgS,iE,kU] at h
  simp only [UX]
  rw [h.1,h.2];rfl
 |_=>cases h
def LD (m:Nat):List (Chunk σ)→Bool
 |[]=>true
 | .cells _ _ cs::r=>cs.all (λx=>AgS 0 (jK 1 m) x.2)&&LD m r
 |_::r=>LD m r
theorem AaB {m:Nat}:∀{K:List (Chunk σ)},LD m K=true→∀b t cs,jG b t cs∈K→∀x∈cs,AgS 0 (jK 1 m) x.2=true
 |[],_,_,_,_,hm,_,_=>by simp at hm
 |c::K,h,b,t,cs,hm,x,hx=>by
  rcases iG.1 hm with rfl|hm
  ·simp only [LD,iE,jN] at h
   exact h.1 x hx
  ·refine AaB (K:=K) ?_ b t cs hm x hx
   cases c<;>simp only [LD,iE] at h<;>first|exact h|exact h.2
theorem SW.close {P:Program} {f:FuncId} {R:Ending→World→Prop} {B:Code} {n:Nat} {E:Ev} {G:Hp} {td:List Ab} {L:List Ak} {K:List (Chunk σ)} (k:Nat) (ks:List Nat) {b:Nat} {t:TypeId} {cs:List (Value×Pr)} {rs:List (Chunk σ)} {s:σ} (hn:(k::ks).Nodup)
 (hk:K[k]? =some (.cells b t cs)) (hr:∀(i:Nat) c,rs[i]? =some c→∃j,ks[i]? =some j∧K[j]? =some c) (hno:∀(j:Nat) b t cs,j≠k→K[j]? =some (.cells b t cs)→∀x∈cs,AgS k ks x.2=true)
 (hD:∀Y h,Sl.star ((jG b t cs::rs).map (den D G)) Y h→D ⟨b,0,none⟩ s Y h)
 (h:SW D P f R B n E G td (LV k ks L) ((EM K .dead ks).set k (.obj ⟨b,0,none⟩ s))):SW D P f R B n E G td L K:=by
 intro a w hF hS
 have hkl:=BD hk
 have hkn:k ∉ ks:=(lF.1 hn).1
 have hS1:Sat E G w (K.map (den D G)):=hS
 have hS2:=Sat.closeAt (Bs:=(jG b t cs::rs).map (den D G)) hS1 hn λi B hi=>by
  rw [iM] at hi
  cases i with
  |zero=>
   simp only [jH,iS,iA] at hi
   exact ⟨k,rfl,by rw [C9 D hk,hi]⟩
  |succ i=>
   simp only [kO] at hi
   cases hc:rs[i]? with
   |none=>rw [hc] at hi;cases hi
   |some c=>
    rw [hc] at hi;injection hi with hi
    obtain ⟨j,e1,e2⟩:=hr i c hc
    exact ⟨j,by simpa using e1,by rw [C9 D e2,hi]⟩
 let K':List (Chunk σ):=(EM K .dead ks).set k (.obj ⟨b,0,none⟩ s)
 have h0:K'[k]? =some (.obj ⟨b,0,none⟩ s):=iT (by rw [Su];exact hkl)
 have h1:∀j:Nat,j≠k→j ∉ ks→K'[j]? =K[j]? := λj hj hjn=>by
  show ((EM K .dead ks).set k _)[j]? =_
  rw [iW (λe=>hj e.symm),AaA hjn]
 have hcl:= λv p hv=>UY (K:=K) (K':=K') (ks:=ks) hk h0 h1 v p hv
 refine h a w ⟨λj b' t' cs' hj y hy=>?_,hF.defers,hF.size, λe he hg=>?_, λe he hg=>?_⟩ ?_
 ·have hj':((EM K .dead ks).set k (kR ⟨b,0,none⟩ s))[j]? =some (.cells b' t' cs'):=hj
  by_cases hjk:k=j
  ·subst hjk
   have:=h0.symm.trans hj
   injection this with this;cases this
  ·rw [iW hjk] at hj'
   rcases Sm ks K j _ hj' with ⟨_,e⟩|⟨_,e⟩
   ·cases e
   ·have hfar:=hno j b' t' cs' (λe=>hjk e.symm) e y hy
    have hy0:=hF.kok j b' t' cs' e y hy
    have hcl:=UY (K:=K) (K':=K') (ks:=ks) hk h0 h1 y.1 y.2 hy0
    rw [Aqs hfar] at hcl
    exact hcl
 ·obtain ⟨y,hy,rfl⟩:=AcF he
  obtain ⟨e1,e2⟩:=hF.ents y hy hg
  exact ⟨e1,hcl _ _ e2⟩
 ·obtain ⟨y,hy,rfl⟩:=AcF he
  exact hF.skipd y hy hg
 ·show Sat E G w _
  rw [jU,Sr]
  refine hS2.imp λi B hB=>?_
  by_cases hik:k=i
  ·subst hik
   have hl:=BD hB
   rw [iT (by simpa using hl)] at hB
   injection hB with hB;subst hB
   exact ⟨_,iT (by simpa [Su] using hkl),hD⟩
  ·rw [iW hik] at hB
   exact ⟨B,by rw [iW hik];exact hB, λ_ _ h=>h⟩
end
section
open Go.RowKit
variable {σ:Type}
structure Bx (σ:Type) (w:Wr σ):Type 1 where
 t:TypeId
 l:List (Sh σ)
 R:w.τ→List (Cm σ)→Prop
def DT:Addr→σ→CZ:= λ_ _ _ _=>True
def GT:Hp:= λ_=>none
variable {wr:Wr σ}
def Bx.bk (b:Bx σ wr) (o:Nat) (ad:Nat→Ad) (k:Nat) (y:List (Cm σ)):List (Chunk σ):= .cells o b.t (J5 (DK ad b.l k 0 y))::GK (DK ad b.l k 0 y)
def Bx.A (b:Bx σ wr) (s:wr.τ) (p:Addr):CZ:= λY h=>∃x:Nat×(Nat→Ad)×List (Cm σ),(p=⟨x.1,0,none⟩∧Dn (IA b.l) x.2.2=true∧b.R s x.2.2)∧star ((b.bk x.1 x.2.1 1 x.2.2).map (den DT GT)) Y h
def Hu:List (Sh σ)→Bool
 |[]=>true
 | .i _::l=>Hu l
 | .b::l=>Hu l
 | .ic _ _::l=>Hu l
 | .bc _::l=>Hu l
 | .own _ _::l=>Hu l
 | .mp _ _::l=>Hu l
 | .bm::l=>Hu l
 | .nxt _:: .own t ks::l=>Hu (.own t ks::l)
 |_=>false
theorem UZ (ad:Nat→Ad):∀(l:List (Sh σ)) (k j:Nat) (cs:List (Cm σ)),Hu l=true→(GK (DK ad l k j cs)).length=Fv l∧FY (GK (DK ad l k j cs))=true∧
 (∀(D D':Addr→σ→CZ) (G G':Hp) (k':Nat),(GK (DK ad l k j cs)).map (den D G)=(GK (DK ad l k' j cs)).map (den D' G')∧(J5 (DK ad l k j cs)).map (·.1)=(J5 (DK ad l k' j cs)).map (·.1))∧
 ∀K0 K2:List (Chunk σ),K0.length=k→∀y∈J5 (DK ad l k j cs),BH (K0++GK (DK ad l k j cs)++K2) y.1 y.2
 |[],k,j,cs,_=>⟨rfl,rfl, λ_ _ _ _ _=>⟨rfl,rfl⟩, λ_ _ _ y hy=>by simp [DK,J5] at hy⟩
 |s::l,k,j,cs,h=>by
  have key:Hu l=true→(∀k,FY (s.tp ad k j cs).K=true)→(∀k,(s.tp ad k j cs).K.length=s.nK)→(∀(D D':Addr→σ→CZ) (G G':Hp) (k k':Nat),(s.tp ad k j cs).K.map (den D G)=(s.tp ad k' j cs).K.map (den D' G')∧(s.tp ad k j cs).v=(s.tp ad k' j cs).v)→
   (∀K0 K2:List (Chunk σ),K0.length=k→BH (K0++(s.tp ad k j cs).K++(GK (DK ad l (k+s.nK) (j+s.nA) (cs.drop s.nC))++K2)) (s.tp ad k j cs).v (s.tp ad k j cs).p)→_:= λhl h1 h2 h3 h4=>by
   obtain ⟨g1,g2,g3,g4⟩:=UZ ad l (k+s.nK) (j+s.nA) (cs.drop s.nC) hl
   refine (?_:(GK (DK ad (s::l) k j cs)).length=Fv (s::l)∧FY (GK (DK ad (s::l) k j cs))=true∧
  (∀(D D':Addr→σ→CZ) (G G':Hp) (k':Nat),(GK (DK ad (s::l) k j cs)).map (den D G)=(GK (DK ad (s::l) k' j cs)).map (den D' G')∧(J5 (DK ad (s::l) k j cs)).map (·.1)=(J5 (DK ad (s::l) k' j cs)).map (·.1))∧
  ∀K0 K2:List (Chunk σ),K0.length=k→∀y∈J5 (DK ad (s::l) k j cs),BH (K0++GK (DK ad (s::l) k j cs)++K2) y.1 y.2)
   simp only [DK,GK,J5,Fv]
   refine ⟨by rw [jL,h2,g1],Nc (h1 k) g2, λD D' G G' k'=>?_, λK0 K2 hk y hy=>?_⟩
   ·obtain ⟨a1,a2⟩:=h3 D D' G G' k k'
    obtain ⟨b1,b2⟩:=g3 D D' G G' (k'+s.nK)
    simp only [jD,iD]
    exact ⟨by rw [a1,b1],by rw [a2,b2]⟩
   ·simp only [iG] at hy
    rcases hy with rfl|hy
    ·have:=h4 K0 K2 hk
     simpa [jP] using this
    ·have:=g4 (K0++(s.tp ad k j cs).K) K2 (by rw [jL,hk,h2]) y hy
     simpa [jP] using this
  cases s with
  |i _=>exact key h (λ_=>rfl) (λ_=>rfl) (λ_ _ _ _ _ _=>⟨rfl,rfl⟩) λ_ _ _=>A8
  |b=>exact key h (λ_=>rfl) (λ_=>rfl) (λ_ _ _ _ _ _=>⟨rfl,rfl⟩) λ_ _ _=>A8
  |ic _ _=>exact key h (λ_=>rfl) (λ_=>rfl) (λ_ _ _ _ _ _=>⟨rfl,rfl⟩) λ_ _ _=>A8
  |bc _=>exact key h (λ_=>rfl) (λ_=>rfl) (λ_ _ _ _ _ _=>⟨rfl,rfl⟩) λ_ _ _=>A8
  |own t ks=>exact key h (λ_=>rfl) (λ_=>rfl) (λ_ _ _ _ _ _=>⟨rfl,rfl⟩) λK0 K2 hk=>Bg.2 ⟨.row (ad j).o t (I9 cs).nOf (ad j).c (Dx ks cs.tail),by subst hk;rw [jP,iJ (jY _),nF];rfl,rfl⟩
  |mp kk vk=>exact key h (λ_=>rfl) (λ_=>rfl) (λ_ _ _ _ _ _=>⟨rfl,rfl⟩) λK0 K2 hk=>Bg.2 ⟨.map (ad j).b kk vk (I9 cs).mpOf,by subst hk;rw [jP,iJ (jY _),nF];rfl,rfl⟩
  |bm=>exact key h (λ_=>rfl) (λ_=>rfl) (λ_ _ _ _ _ _=>⟨rfl,rfl⟩) λK0 K2 hk=>Bg.2 ⟨.bm (ad j).b (I9 cs).blOf none,by subst hk;rw [jP,iJ (jY _),nF];rfl,rfl⟩
  |nxt t=>
   cases l with
   |nil=>simp [Hu] at h
   |cons s2 l2=>
    cases s2 with
    |own t2 ks=>exact key (by simpa [Hu] using h) (λ_=>rfl) (λ_=>rfl) (λ_ _ _ _ _ _=>⟨rfl,rfl⟩) λK0 K2 hk=>(by
      simp only [Sh.tp,BH]
      exact ⟨.row (ad j).o t2 (I9 cs).nOf (ad j).c (Dx ks cs.tail),by subst hk;simp only [kZ];rw [iJ (jY _),nF];rfl,rfl⟩)
    |_=>simp [Hu] at h
  |_=>simp [Hu] at h
theorem Bx.AgT {b:Bx σ wr} (hb:Hu b.l=true) (D D':Addr→σ→CZ) (G G':Hp) (o:Nat) (ad:Nat→Ad) (k k':Nat) (y:List (Cm σ)):(b.bk o ad k y).map (den D G)=(b.bk o ad k' y).map (den D' G'):=by
 obtain ⟨_,_,h3,_⟩:=UZ ad b.l k 0 y hb
 obtain ⟨h1,h2⟩:=h3 D D' G G' k'
 simp only [Bx.bk,iD,h1,den,h2]
def Bx.opK (b:Bx σ wr) (k o:Nat) (ad:Nat→Ad) (y:List (Cm σ)) (K:List (Chunk σ)):List (Chunk σ):=(Sl.opK k K).set k (.cells o b.t (J5 (DK ad b.l K.length 0 y)))++GK (DK ad b.l K.length 0 y)
def Va:List (Chunk σ)→Bool
 | .obj _ _::_=>true
 |_=>false
theorem Qd:∀{K:List (Chunk σ)},FY K=true→∀c∈K,∀b t cs,c≠ .cells b t cs
 |[],_,c,hc=>by simp at hc
 |x::K,h,c,hc=>by
  intro b t cs e
  subst e
  simp only [iG] at hc
  rcases hc with rfl|hc
  ·simp [FY] at h
  ·refine Qd (K:=K) ?_ _ hc b t cs rfl
   cases x<;>simp only [FY] at h<;>first|exact h|cases h
variable (D:Addr→σ→CZ)
structure Bx.Is (b:Bx σ wr):Prop where
 c:Hu b.l=true
 d:∀p s,D p (wr.inj s)=b.A s p
section
variable {b:Bx σ wr} {P:Program} {f:FuncId} {R:Ending→World→Prop} {B:Code} {n:Nat} {E:Ev} {G:Hp} {td:List Ab} {L:List Ak} {K:List (Chunk σ)}
theorem Bx.QK (hb:b.Is D) (k:Nat) {p0:Addr} {s:wr.τ} (hk:K[k]? =some (.obj p0 (wr.inj s)))
 (h:∀o ad y,p0=⟨o,0,none⟩→Dn (IA b.l) y=true→b.R s y→SW D P f R B n E G td (Kr k L) (b.opK k o ad y K)):SW D P f R B n E G td L K:=by
 refine SW.open D k hk (α:=Nat×(Nat→Ad)×List (Cm σ)) (q:= λx=>p0=⟨x.1,0,none⟩∧Dn (IA b.l) x.2.2=true∧b.R s x.2.2) (λx=>x.1) (λ_=>b.t) (λx=>J5 (DK x.2.1 b.l K.length 0 x.2.2)) (λx=>GK (DK x.2.1 b.l K.length 0 x.2.2)) ?_ (λx hx=>hx.1) (λx o t cs hm=>?_) (λx hx y hy=>?_) (λx hx=>h x.1 x.2.1 x.2.2 hx.1 hx.2.1 hx.2.2)
 ·rw [hb.d]
  funext Y q
  apply propext
  have e:∀x:Nat×(Nat→Ad)×List (Cm σ),(b.bk x.1 x.2.1 1 x.2.2).map (den DT GT)=(jG x.1 b.t (J5 (DK x.2.1 b.l K.length 0 x.2.2))::GK (DK x.2.1 b.l K.length 0 x.2.2)).map (den D G):= λx=>Bx.AgT hb.c DT D GT G x.1 x.2.1 1 K.length x.2.2
  constructor
  ·rintro ⟨x,hx,hs⟩;exact ⟨x,hx,by rw [←e];exact hs⟩
  ·rintro ⟨x,hx,hs⟩;exact ⟨x,hx,by rw [e];exact hs⟩
 ·obtain ⟨_,h2,_⟩:=UZ x.2.1 b.l K.length 0 x.2.2 hb.c
  exact absurd rfl (Qd h2 _ hm o t cs)
 ·obtain ⟨_,_,_,h4⟩:=UZ x.2.1 b.l K.length 0 x.2.2 hb.c
  have:=h4 ((Sl.opK k K).set k (.cells x.1 b.t (J5 (DK x.2.1 b.l K.length 0 x.2.2)))) [] (by simp [MK]) y hy
  rw [kZ] at this
  exact this
theorem Bx.addr (hb:b.Is D) (k:Nat) {p0:Addr} {s:wr.τ} (hk:K[k]? =some (.obj p0 (wr.inj s))) (h:∀o,p0=⟨o,0,none⟩→SW D P f R B n E G td L K):SW D P f R B n E G td L K:=by
 intro a w hF hS
 obtain ⟨_,q,_,h1,_⟩:=hS.get D hk
 simp only [den,hb.d] at h1
 obtain ⟨x,hx,_⟩:=h1
 exact h x.1 hx.1 a w hF hS
theorem Ana {m i:Nat} (h:i<m):(jK 1 m)[i]? =some (1+i):=by
 rw [List.getElem?_range' h];simp
theorem Bx.YN (hb:b.Is D) {o:Nat} {ad:Nat→Ad} {y:List (Cm σ)} {rest:List (Chunk σ)} {s:wr.τ} (hK:K=b.bk o ad 1 y++rest) (hn:LD (Fv b.l) rest=true) (hf:Dn (IA b.l) y=true) (hR:b.R s y)
 (h:SW D P f R B n E G td (LV 0 (jK 1 (Fv b.l)) L) ((EM K .dead (jK 1 (Fv b.l))).set 0 (.obj ⟨o,0,none⟩ (wr.inj s)))):SW D P f R B n E G td L K:=by
 obtain ⟨h1,h2,_,_⟩:=UZ ad b.l 1 0 y hb.c
 refine SW.close D 0 (jK 1 (Fv b.l)) (b:=o) (t:=b.t) (cs:=J5 (DK ad b.l 1 0 y)) (rs:=GK (DK ad b.l 1 0 y)) (s:=wr.inj s) ?_ ?_ ?_ ?_ ?_ h
 ·rw [lF]
  exact ⟨λhm=>by rw [List.mem_range'] at hm;obtain ⟨i,_,e⟩:=hm;omega,List.nodup_range'⟩
 ·rw [hK];rfl
 ·intro i c hc
  have hl:=BD hc
  refine ⟨1+i,Ana (by omega),?_⟩
  rw [hK,Bx.bk,jX,Nat.add_comm,kO,iI hl]
  exact hc
 ·intro j b' t' cs' hj e
  rw [hK,Bx.bk] at e
  cases j with
  |zero=>exact absurd rfl hj
  |succ j=>
   rw [jX,kO] at e
   rcases lT.1 (iV e) with hm|hm
   ·exact absurd rfl (Qd h2 _ hm b' t' cs')
   ·exact AaB hn b' t' cs' hm
 ·intro Y q hq
  rw [hb.d]
  refine ⟨(o,ad,y),⟨rfl,hf,hR⟩,?_⟩
  rw [Bx.AgT hb.c DT D GT G o ad 1 1 y]
  exact hq
theorem Bx.fold (hb:b.Is D) {w:World} {o k:Nat} {ad:Nat→Ad} {y:List (Cm σ)} {s:wr.τ} {Bs:List CZ} (hf:Dn (IA b.l) y=true) (hR:b.R s y) (h:Sat E G w ((b.bk o ad k y).map (den D G)++Bs)):Sat E G w (D ⟨o,0,none⟩ (wr.inj s)::Bs):=by
 rw [Bx.AgT hb.c D DT G GT o ad k 1 y] at h
 rw [hb.d]
 exact Sat.Ac8 (p:= λx:Nat×(Nat→Ad)×List (Cm σ)=>(⟨o,0,none⟩:Addr)=⟨x.1,0,none⟩∧Dn (IA b.l) x.2.2=true∧b.R s x.2.2) (A:= λx=>star ((b.bk x.1 x.2.1 1 x.2.2).map (den DT GT))) (o,ad,y) ⟨rfl,hf,hR⟩ h.star_append
theorem Bx.post (hb:b.Is D) {w:World} {o:Nat} {ad:Nat→Ad} {y:List (Cm σ)} {s:wr.τ} {out:List Value→Value} {rows:List (Mk σ)} {v:Value} {p:Pr} (hf:Dn (IA b.l) y=true) (hR:b.R s y) (h:DR out (b.bk o ad 1 y) rows v p K) (hS:Af D E G w K):
 Post D E G out [.obj ⟨o,0,none⟩ (wr.inj s)] rows (.returned v) w:=by
 obtain ⟨acs,h1,h2,h3⟩:=h.post D hS
 exact ⟨acs,h1,h2,Bx.fold D hb hf hR h3⟩
theorem Bx.AoC (hb:b.Is D) {w:World} {o:Nat} {ad:Nat→Ad} {y:List (Cm σ)} {s:wr.τ} {out:List Value→Value} {v:Value} {p:Pr} (hf:Dn (IA b.l) y=true) (hR:b.R s y) (h:DR (λ_=> .pointer (some ⟨o,0,none⟩)) (b.bk o ad 1 y) [] v p K) (hS:Af D E G w K)
 (ho:∀x,out [x]=x):Post D E G out [] [.obj (wr.inj s)] (.returned v) w:=by
 obtain ⟨acs,h1,h2,h3⟩:=h.post D hS
 cases acs with
 |cons _ _=>exact h1.elim
 |nil=>
  refine ⟨[(some o,0)],⟨⟨o,rfl⟩,trivial⟩,?_,?_⟩
  ·rw [h2];simp only [kK,List.zipWith_nil_right,ho];rfl
  ·simpa [ED,den] using Bx.fold D hb hf hR h3
end
structure Lf (σ:Type) where
 Q:Value→Pr→List (Chunk σ)→Prop
 l:Value→Pr→List (Chunk σ)→Ob σ
 r:Value→Pr→List (Chunk σ)→Ob σ
 b:Value→Pr→List (Chunk σ)→Bool
def Lf.lhs (lf:Lf σ) (hs:List (Hd σ)) (Q:Nat→List (Cm σ)→Prop) (t:Tree σ) (β:BF) (γ:GF):SmW σ:=(t.wp lf.Q (P8 hs Q) β γ,t.obl lf.l (L8 hs) β γ,t.okb lf.b (OA hs) β γ)
def Lf.rhs (lf:Lf σ) (hs:List (Hd σ)) (t:Tree σ) (W:Prop) (β:BF) (γ:GF):SmW σ:=(W,t.obl lf.r (L9 hs) β γ,true)
inductive Hop where
 |run
 |opn (k:Nat) (o:(Nat→Ad)→Nat) (j:Nat)
 |cls (j:Nat)
section
variable (b:Bx σ wr) (P:Program) (T:List (Nat×Entry σ)) (I:List Nat) (fuel:Nat) (fn:Func) (B:Code) (o:Nat) (lf:Lf σ) (hs:List (Hd σ)) (hk:List Hop) (Inv:Nat→List (Cm σ)→Prop) (ms:Nat→List (Cm σ)→Nat×Nat×Nat)
def Al7 (j:Nat) (h:Hd σ):Prop:=
 match hk.getD j .run with
 | .run=>EF h.kd λx=>Inv j x→∃W:Prop,(∀ad β γ,lf.lhs hs (λj' x'=>Inv j' x'∧lx (ms j' x') (ms j x)) (run P T (h.stp I) fuel B fn.results.toList fn.ntmps h.tds (h.L ad x) (h.K ad x)) β γ=
    lf.rhs hs (run P T (h.stp I) fuel B fn.results.toList fn.ntmps h.tds (h.L ad x) (h.K ad x)) W β γ)∧W
 | .opn k of j2=>match hs[j2]? with
   |some h2=>EF h.kd λx=>Inv j x→∃s:wr.τ,(∀ad,(h.K ad x)[k]? =some (.obj ⟨of ad,0,none⟩ (wr.inj s)))∧EF (IA b.l) λy=>b.R s y→∃W:Prop,(∀ad ad2,(P8 [h2] (λ_ x'=>Inv j2 x'∧lx (ms j2 x') (ms j x)) h.tds (Kr k (h.L ad x)) (b.opK k (of ad) ad2 y (h.K ad x)),L8 [h2] h.tds (Kr k (h.L ad x)) (b.opK k (of ad) ad2 y (h.K ad x)),OA [h2] h.tds (Kr k (h.L ad x)) (b.opK k (of ad) ad2 y (h.K ad x)))=
     (W,L9 [h2] h.tds (Kr k (h.L ad x)) (b.opK k (of ad) ad2 y (h.K ad x)),true))∧W
   |none=>False
 | .cls j2=>match hs[j2]? with
   |some h2=>EF h.kd λx=>Inv j x→∃(s:wr.τ) (W:Prop),b.R s (x.take (Lu b.l))∧(∀ad,((h.K ad x).take (1+Fv b.l),LD (Fv b.l) ((h.K ad x).drop (1+Fv b.l)),Dn (IA b.l) (x.take (Lu b.l)),P8 [h2] (λ_ x'=>Inv j2 x'∧lx (ms j2 x') (ms j x)) h.tds (LV 0 (jK 1 (Fv b.l)) (h.L ad x)) ((EM (h.K ad x) .dead (jK 1 (Fv b.l))).set 0 (.obj ⟨o,0,none⟩ (wr.inj s))),L8 [h2] h.tds (LV 0 (jK 1 (Fv b.l)) (h.L ad x)) ((EM (h.K ad x) .dead (jK 1 (Fv b.l))).set 0 (.obj ⟨o,0,none⟩ (wr.inj s))),OA [h2] h.tds (LV 0 (jK 1 (Fv b.l)) (h.L ad x)) ((EM (h.K ad x) .dead (jK 1 (Fv b.l))).set 0 (.obj ⟨o,0,none⟩ (wr.inj s))))=
     (b.bk o ad 1 (x.take (Lu b.l)),true,true,W,L9 [h2] h.tds (LV 0 (jK 1 (Fv b.l)) (h.L ad x)) ((EM (h.K ad x) .dead (jK 1 (Fv b.l))).set 0 (.obj ⟨o,0,none⟩ (wr.inj s))),true))∧W
   |none=>False
def Vb:List (Hd σ)→Nat→Prop
 |[],_=>True
 |h::r,j=>Al7 b P T I fuel fn B o lf hs hk Inv ms j h∧Vb r (j+1)
end
section
variable {b:Bx σ wr} {P:Program} {T:List (Nat×Entry σ)} {I:List Nat} {fuel:Nat} {fn:Func} {B:Code} {o:Nat} {lf:Lf σ} {hs:List (Hd σ)} {hk:List Hop} {Inv:Nat→List (Cm σ)→Prop} {ms:Nat→List (Cm σ)→Nat×Nat×Nat} {f:FuncId} {R:Ending→World→Prop} {E:Ev} {G:Hp}
theorem AaC:∀{l:List (Hd σ)} {m i:Nat} {h:Hd σ},Vb b P T I fuel fn B o lf hs hk Inv ms l m→l[i]? =some h→Al7 b P T I fuel fn B o lf hs hk Inv ms (m+i) h
 |[],_,_,_,_,h=>by simp at h
 |h0::r,m,0,h,hs,hg=>by simp at hg;subst hg;exact hs.1
 |h0::r,m,i+1,h,hs,hg=>by
  have:=AaC hs.2 (i:=i) (by simpa using hg)
  rw [show m+1+i=m+(i+1) by omega] at this
  exact this
theorem KU {h:Hd σ} {j:Nat} (hc:hcode B hs=GL B hs) (hg:hs[j]? =some h):hcode B [h]=GL B [h]:=by
 simp only [hcode,GL]
 cases ho:h.ops with
 |some i=>rfl
 |none=>rw [UW hc hg ho]
def Lf.Ok (lf:Lf σ) (E:Ev) (G:Hp) (R:Ending→World→Prop):Prop:=∀v p K w,lf.l v p K=lf.r v p K→lf.b v p K=true→lf.Q v p K→Af D E G w K→R (.returned v) w
theorem AfY (hT:BO D P T) (hfn:P.funcs[f]? =some fn) (hmix:P.follows .mixedOrders=true) (hlf:lf.Ok D E G R) (hc:hcode B hs=GL B hs) {Q:Nat→List (Cm σ)→Prop}
 (H:∀j h,hs[j]? =some h→∀s,Dn h.kd s=true→Q j s→∀ad,SW D P f R B fn.ntmps E G h.tds (h.L ad s) (h.K ad s)) {I:List Nat} {td:List Ab} {L:List Ak} {K:List (Chunk σ)} {W:Prop}
 (h:∀β γ,lf.lhs hs Q (run P T I fuel B fn.results.toList fn.ntmps td L K) β γ=lf.rhs hs (run P T I fuel B fn.results.toList fn.ntmps td L K) W β γ) (hW:W):SW D P f R B fn.ntmps E G td L K:=by
 refine SW.run D hT (I:=I) hfn hmix (R':= λv p K=>lf.l v p K=lf.r v p K∧lf.b v p K=true∧lf.Q v p K) (λv p K w h hS=>hlf v p K w h.1 h.2.1 h.2.2 hS) fuel rfl ?_
 refine Tree.Ij (RQ:=lf.Q) (SQ:=P8 hs Q) (roL:=lf.l) (roR:=lf.r) (L8:=L8 hs) (L9:=L9 hs) (rb:=lf.b) (sb:=OA hs)
  (λv p K h1 h2 h3=>⟨h1,h2,h3⟩) (λtd L K h1 h2 h3=>Ny D hc h1 h2 h3 H) _ (λβ γ=>?_) (λβ γ=>congrArg (·.2.1) (h β γ)) (λβ γ=>congrArg (·.2.2) (h β γ))
 have:Tree.wp lf.Q (P8 hs Q) (run P T I fuel B fn.results.toList fn.ntmps td L K) β γ=W:=congrArg (·.1) (h β γ)
 rw [this];exact hW
theorem AgU (hb:b.Is D) (hT:BO D P T) (hfn:P.funcs[f]? =some fn) (hmix:P.follows .mixedOrders=true) (hlf:lf.Ok D E G R) (hc:hcode B hs=GL B hs) (hst:Vb b P T I fuel fn B o lf hs hk Inv ms hs 0):
 ∀j h,hs[j]? =some h→∀s,Dn h.kd s=true→Inv j s→∀ad,SW D P f R B fn.ntmps E G h.tds (h.L ad s) (h.K ad s):=by
 have loop:∀x:Nat×Nat×Nat,∀j h,hs[j]? =some h→∀s,Dn h.kd s=true→Inv j s→ms j s=x→∀ad,SW D P f R B fn.ntmps E G h.tds (h.L ad s) (h.K ad s):=by
  refine Aa7 λx ih j h hg s hf hI hm ad=>?_
  have hq:=AaC hst hg
  rw [lD] at hq
  have H':∀j' h',hs[j']? =some h'→∀s',Dn h'.kd s'=true→(Inv j' s'∧lx (ms j' s') (ms j s))→∀ad',SW D P f R B fn.ntmps E G h'.tds (h'.L ad' s') (h'.K ad' s'):= λj' h' hg' s' hf' hI' ad'=>ih _ (by rw [←hm];exact hI'.2) j' h' hg' s' hf' hI'.1 rfl ad'
  unfold Al7 at hq
  split at hq
  ·obtain ⟨W,hW1,hW2⟩:=hq.at s hf hI
   exact AfY D hT hfn hmix hlf hc H' (hW1 ad) hW2
  ·rename_i k of j2 _
   split at hq
   ·rename_i h2 hg2
    obtain ⟨st,hk0,hq⟩:=hq.at s hf hI
    refine Bx.QK D hb k (hk0 ad) λo' ad2 y e hfy hRy=>?_
    injection e with e;subst e
    obtain ⟨W,hW1,hW2⟩:=hq.at y hfy hRy
    have e:=hW1 ad ad2
    simp only [iP] at e
    refine Ny D (hs:=[h2]) (KU hc hg2) e.2.1 e.2.2 (by rw [e.1];exact hW2) λj' h' hg' s' hf' hI' ad'=>?_
    cases j' with
    |zero=>simp at hg';subst hg';exact H' j2 _ hg2 s' hf' hI' ad'
    |succ j'=>simp at hg'
   ·exact hq.elim
  ·rename_i j2 _
   split at hq
   ·rename_i h2 hg2
    obtain ⟨st,W,hR,hW1,hW2⟩:=hq.at s hf hI
    have e:=hW1 ad
    simp only [iP] at e
    refine Bx.YN D hb (o:=o) (ad:=ad) (y:=s.take (Lu b.l)) (rest:=(h.K ad s).drop (1+Fv b.l)) (s:=st) (by rw [←e.1,List.take_append_drop]) e.2.1 e.2.2.1 hR ?_
    refine Ny D (hs:=[h2]) (KU hc hg2) e.2.2.2.2.1 e.2.2.2.2.2 (by rw [e.2.2.2.1];exact hW2) λj' h' hg' s' hf' hI' ad'=>?_
    cases j' with
    |zero=>simp at hg';subst hg';exact H' j2 _ hg2 s' hf' hI' ad'
    |succ j'=>simp at hg'
   ·exact hq.elim
 exact λj h hg s hf hI ad=>loop _ j h hg s hf hI rfl ad
end
def Bx.y (b:Bx σ wr) (v:Value) (p:Pr) (K:List (Chunk σ)):Dc σ:=(Sh.box b.t b.l).dc K v p
def Bx.y0 (b:Bx σ wr) (o:Nat) (K:List (Chunk σ)):Dc σ:=b.y (.pointer (some ⟨o,0,none⟩)) (.pt 0 (.cell 0)) K
def Bx.yK (b:Bx σ wr) (o:Nat) (y:Dc σ):List (Chunk σ):=b.bk o (Ht y.ad.tail) 1 y.cs
section
variable (c:Ct σ) (b:Bx σ wr) (o:Nat) (cs:List (Cm σ)) (v:Value) (p:Pr) (K:List (Chunk σ))
def Ct.opR:Ty c.rs.kd:=YI c.rs.kd (c.rs.dc K v p).cs
def Ct.opM:List (Mk σ):=c.rs.mks (Ku c.rs.kd (c.opR v p K))
def Ct.opIs:List Nat:=JS 0 ((b.y0 o K).is++(c.rs.dc K v p).is)
def Ct.opTm:List (Chunk σ):=b.yK o (b.y0 o K)++jA YC (c.opM v p K) (c.retAnc v p K)
def Ct.opl:Ob σ:=⟨[],v,[],AcA K (c.opIs b o v p K) (c.opTm b o v p K)⟩
def Ct.opr:Ob σ:=⟨[],c.rs.out (Ku c.rs.kd (c.opR v p K)) (jA Ac5 (c.opM v p K) (c.retAnc v p K)),[],AcB (c.opTm b o v p K)⟩
def Ct.opb:Bool:=nodupB (c.opIs b o v p K)&&Na (c.opM v p K) (c.retAnc v p K)&&iL (c.opIs b o v p K).length (c.opTm b o v p K).length&&Dn (IA b.l) (b.y0 o K).cs
def OB (R:Ty c.RK→Prop) (O:List (Cm σ)→Ty c.rs.kd→Prop):Lf σ:=
 ⟨λv p K=>match Va K with|true=>R (c.retR v p K)|false=>O (b.y0 o K).cs (c.opR v p K), λv p K=>bif Va K then c.roL ⟨o,0,none⟩ cs v p K else c.opl b o v p K,
   λv p K=>bif Va K then c.roR ⟨o,0,none⟩ cs v p K else c.opr b o v p K, λv p K=>bif Va K then c.rob_ ⟨o,0,none⟩ cs v p K else c.opb b o v p K⟩
def Arz:Ob σ:=⟨[],v,[],AcA K (JS 0 (b.y v p K).is) (b.yK (Ht (b.y v p K).ad 0).b (b.y v p K))⟩
def Ar0:Ob σ:=⟨[], .pointer (some ⟨(Ht (b.y v p K).ad 0).b,0,none⟩),[],AcB (b.yK (Ht (b.y v p K).ad 0).b (b.y v p K))⟩
def Ar1:Bool:=nodupB (JS 0 (b.y v p K).is)&&iL (JS 0 (b.y v p K).is).length (b.yK (Ht (b.y v p K).ad 0).b (b.y v p K)).length&&Dn (IA b.l) (b.y v p K).cs
def WF (O:List (Cm σ)→Prop):Lf σ:=⟨λv p K=>O (b.y v p K).cs,Arz b,Ar0 b,Ar1 b⟩
end
def Ct.parts (c:Ct σ) (o:Nat) (cs:List (Cm σ)) (r:Ty c.RK):(List Value→Value)×List (Mk σ)×List (Chunk σ):=(c.outC r,c.mksC r,c.nwC ⟨o,0,none⟩ cs r)
theorem Anb {b:Bx σ wr} (hb:b.Is D) {c:Ct σ} {o:Nat} {cs:List (Cm σ)} {r:Ty c.RK} {s1:wr.τ} {rr:Ty c.rs.kd} (hp:c.parts o cs r=(c.rs.out (Ku c.rs.kd rr),c.rs.mks (Ku c.rs.kd rr),[.obj ⟨o,0,none⟩ (wr.inj s1)])) {E:Ev} {G:Hp}:
 (OB c b o cs (λx=>x=r) λy x=>b.R s1 y∧x=rr).Ok D E G (Post D E G (c.outC r) (c.nwC ⟨o,0,none⟩ cs r) (c.mksC r)):=by
 intro v p K w hl hbb hQ hS
 simp only [OB] at hl hbb hQ
 cases h0:Va K with
 |true=>
  rw [h0] at hl hbb hQ
  simp only [cond_true] at hl hbb hQ
  have:=Ct.Aat hl hbb
  rw [hQ] at this
  exact this.post D hS
 |false=>
  rw [h0] at hl hbb hQ
  simp only [cond_false] at hl hbb hQ
  simp only [Ct.parts,iP] at hp
  rw [hp.1,hp.2.1,hp.2.2]
  simp only [Ct.opb,iE] at hbb
  simp only [Ct.opl,Ct.opr,Ob.mk.injEq] at hl
  rw [←hQ.2]
  exact Bx.post D hb (p:=p) hbb.2 hQ.1 ⟨c.retAnc v p K,c.opIs b o v p K,JE hbb.1.1.1,hbb.1.1.2,hl.2.1,Aa6 hl.2.2.2 hbb.1.2⟩ hS
theorem AoD {b:Bx σ wr} (hb:b.Is D) {c:Ct σ} {s1:wr.τ} {r:Ty c.RK} (h1:∀x,c.outC r [x]=x) (h2:c.mksC r=[.obj (wr.inj s1)]) {E:Ev} {G:Hp}:(WF b λy=>b.R s1 y).Ok D E G (Post D E G (c.outC r) [] (c.mksC r)):=by
 intro v p K w hl hbb hQ hS
 simp only [WF,Arz,Ar0,Ob.mk.injEq] at hl
 simp only [WF,Ar1,iE] at hbb
 rw [h2]
 have hg:=Aa6 hl.2.2.2 hbb.1.2
 exact Bx.AoC D hb (o:=(Ht (b.y v p K).ad 0).b) (ad:=Ht (b.y v p K).ad.tail) (p:=p) hbb.2 hQ ⟨[],JS 0 (b.y v p K).is,JE hbb.1.1,rfl,hl.2.1,by simpa [Bx.yK] using hg⟩ hS h1
theorem EF.imp:∀{ks:List (Kd σ)} {p q:List (Cm σ)→Prop},(∀cs,p cs→q cs)→EF ks p→EF ks q
 |[],_,_,h,hp=>h [] hp
 |_::_,_,_,h,hp=> λa=>EF.imp (λcs=>h _) (hp a)
def Ct.sL (c:Ct σ) (p:Addr) (cs:List (Cm σ)) (ad:Nat→Ad):List Ak:=En 0 (J5 (DK (P7 p ad) c.full 0 0 cs))
def Ct.sK (c:Ct σ) (p:Addr) (cs:List (Cm σ)) (ad:Nat→Ad):List (Chunk σ):=GK (DK (P7 p ad) c.full 0 0 cs)
theorem Gg {c:Ct σ} {b:Bx σ wr} (hb:b.Is D) (beg:Bool) {P:Program} {T:List (Nat×Entry σ)} (hT:BO D P T) {I:List Nat} {f:FuncId} {fn:Func} {B:Code} (hfn:P.funcs[f]? =some fn) (hmix:P.follows .mixedOrders=true) (hB:fn.body=some B)
 (ha:IB c.ash=true) (hl:jS c.full.length fn.ntmps=true) {F:Kq c.AK (Ty c.RK)} {pre:Kq c.AK (List Prop)} (fuel:Nat)
 (H:∀o:Nat,EF c.AK λcs=>UV c.full cs→(∀p∈Ag c.AK pre cs,p)→∃(s0 s1:wr.τ) (rr:Ty c.rs.kd) (hs:List (Hd σ)) (hk:List Hop) (Inv:Nat→List (Cm σ)→Prop) (ms:Nat→List (Cm σ)→Nat×Nat×Nat),hcode B hs=GL B hs∧
   (∀p ad,(c.sK p cs ad)[0]? =some (.obj p (wr.inj s0)))∧
   c.parts o cs (Ag c.AK F cs)=(c.rs.out (Ku c.rs.kd rr),c.rs.mks (Ku c.rs.kd rr),[.obj ⟨o,0,none⟩ (wr.inj s1)])∧
   (match beg with
     |false=>∃W:Prop,(∀ad β γ,(OB c b o cs (λx=>x=Ag c.AK F cs) λy x=>b.R s1 y∧x=rr).lhs hs Inv (run P T I fuel B fn.results.toList fn.ntmps [.code []] (c.sL ⟨o,0,none⟩ cs ad) (c.sK ⟨o,0,none⟩ cs ad)) β γ=
       (OB c b o cs (λx=>x=Ag c.AK F cs) λy x=>b.R s1 y∧x=rr).rhs hs (run P T I fuel B fn.results.toList fn.ntmps [.code []] (c.sL ⟨o,0,none⟩ cs ad) (c.sK ⟨o,0,none⟩ cs ad)) W β γ)∧W
     |true=>EF (IA b.l) λy=>b.R s0 y→∃W:Prop,(∀ad ad2 β γ,(OB c b o cs (λx=>x=Ag c.AK F cs) λy x=>b.R s1 y∧x=rr).lhs hs Inv (run P T I fuel B fn.results.toList fn.ntmps [.code []] (Kr 0 (c.sL ⟨o,0,none⟩ cs ad)) (b.opK 0 o ad2 y (c.sK ⟨o,0,none⟩ cs ad))) β γ=
       (OB c b o cs (λx=>x=Ag c.AK F cs) λy x=>b.R s1 y∧x=rr).rhs hs (run P T I fuel B fn.results.toList fn.ntmps [.code []] (Kr 0 (c.sL ⟨o,0,none⟩ cs ad)) (b.opK 0 o ad2 y (c.sK ⟨o,0,none⟩ cs ad))) W β γ)∧W)∧
   Vb b P T I fuel fn B o (OB c b o cs (λx=>x=Ag c.AK F cs) λy x=>b.R s1 y∧x=rr) hs hk Inv ms hs 0):F9 D P f (BU c F pre):=by
 refine O9 D (mk:=[]) hT (I:=I) hfn hmix hB ha hl 0 λp0=>?_
 by_cases hp:∃o,p0=⟨o,0,none⟩
 ·obtain ⟨o,rfl⟩:=hp
  refine EF.imp (λcs hH hbd hpre ad E G=>?_) (H o)
  obtain ⟨s0,s1,rr,hs,hk,Inv,ms,hc,h0,hpt,hbg,hst⟩:=hH hbd hpre
  have hlf:=Anb D hb hpt (E:=E) (G:=G)
  have loop:=AgU D hb hT hfn hmix hlf hc hst
  show SW D P f _ B fn.ntmps E G [.code []] (c.sL ⟨o,0,none⟩ cs ad) (c.sK ⟨o,0,none⟩ cs ad)
  cases beg with
  |false=>
   obtain ⟨W,hW1,hW2⟩:=hbg
   exact AfY D hT hfn hmix hlf hc loop (hW1 ad) hW2
  |true=>
   refine Bx.QK D hb 0 (h0 ⟨o,0,none⟩ ad) λo' ad2 y e hfy hRy=>?_
   injection e with e;subst e
   obtain ⟨W,hW1,hW2⟩:=hbg.at y hfy hRy
   exact AfY D hT hfn hmix hlf hc loop (hW1 ad ad2) hW2
 ·refine EF.imp (λcs hH hbd hpre ad E G=>?_) (H 0)
  obtain ⟨s0,s1,rr,hs,hk,Inv,ms,hc,h0,hpt,hbg,hst⟩:=hH hbd hpre
  show SW D P f _ B fn.ntmps E G [.code []] (c.sL p0 cs ad) (c.sK p0 cs ad)
  exact Bx.addr D hb 0 (h0 p0 ad) λo e=>absurd ⟨o,e⟩ hp
theorem Ane {c:Ct σ} {b:Bx σ wr} (hb:b.Is D) {P:Program} {T:List (Nat×Entry σ)} (hT:BO D P T) {I:List Nat} {f:FuncId} {fn:Func} {B:Code} (hfn:P.funcs[f]? =some fn) (hmix:P.follows .mixedOrders=true) (hB:fn.body=some B)
 (ha:IB c.ash=true) (hl:jS c.full.length fn.ntmps=true) {F:Kq c.AK (Ty c.RK)} {pre:Kq c.AK (List Prop)} (fuel:Nat)
 (H:∀p0:Addr,EF c.AK λcs=>UV c.full cs→(∀p∈Ag c.AK pre cs,p)→∃(s1:wr.τ) (hs:List (Hd σ)) (hk:List Hop) (Inv:Nat→List (Cm σ)→Prop) (ms:Nat→List (Cm σ)→Nat×Nat×Nat),hcode B hs=GL B hs∧
   (∀x,c.outC (Ag c.AK F cs) [x]=x)∧c.mksC (Ag c.AK F cs)=[.obj (wr.inj s1)]∧c.nwC p0 cs (Ag c.AK F cs)=[]∧
   (∃W:Prop,(∀ad β γ,(WF b λy=>b.R s1 y).lhs hs Inv (run P T I fuel B fn.results.toList fn.ntmps [.code []] (c.sL p0 cs ad) (c.sK p0 cs ad)) β γ=
     (WF b λy=>b.R s1 y).rhs hs (run P T I fuel B fn.results.toList fn.ntmps [.code []] (c.sL p0 cs ad) (c.sK p0 cs ad)) W β γ)∧W)∧
   Vb b P T I fuel fn B 0 (WF b λy=>b.R s1 y) hs hk Inv ms hs 0):F9 D P f (BU c F pre):=by
 refine O9 D (mk:=[]) hT (I:=I) hfn hmix hB ha hl 0 λp0=>?_
 refine EF.imp (λcs hH hbd hpre ad E G=>?_) (H p0)
 obtain ⟨s1,hs,hk,Inv,ms,hc,h1,h2,h3,⟨W,hW1,hW2⟩,hst⟩:=hH hbd hpre
 have hlf:=AoD D hb h1 h2 (E:=E) (G:=G)
 have loop:=AgU D hb hT hfn hmix hlf hc hst
 rw [h3]
 exact AfY D hT hfn hmix hlf hc loop (hW1 ad) hW2
theorem Vd {c:Ct σ} {P:Program} {T:List (Nat×Entry σ)} (hT:BO D P T) {I:List Nat} {f:FuncId} {fn:Func} {B:Code} (hfn:P.funcs[f]? =some fn) (hmix:P.follows .mixedOrders=true) (hB:fn.body=some B)
 (ha:IB c.ash=true) (hl:jS c.full.length fn.ntmps=true) {F:Kq c.AK (Ty c.RK)} {pre:Kq c.AK (List Prop)} (fuel:Nat)
 (H:∀p0,EF c.AK λcs=>UV c.full cs→(∀p∈Ag c.AK pre cs,p)→∃W:Prop,(∀ad β γ,c.lhsW p0 cs [] (λr=>r=Ag c.AK F cs) (λ_ _=>False) (c.tree P T I fuel fn B p0 cs ad) β γ=c.rhsW p0 cs [] (c.tree P T I fuel fn B p0 cs ad) W β γ)∧W):F9 D P f (BU c F pre):=
 LC D hT (I:=I) hfn hmix hB ha hl fuel λp0=>EF.imp (λ_ h hb hp=>⟨[], λ_ _=>False, λ_ _=>(0,0,0),rfl,h hb hp,trivial⟩) (H p0)
end
section
open Go.RowKit
variable {σ:Type}
structure BxP (σ:Type):Type 1 where
 wr:Wr σ
 b:Bx σ wr
inductive AoE (σ:Type):Type 1 where
 |run
 |opn (b:BxP σ) (k:Nat) (o:(Nat→Ad)→Nat) (j:Nat)
 |cls (b:BxP σ) (o:(Nat→Ad)→Nat) (a:(Nat→Ad)→Nat→Ad) (j:Nat)
variable (D:Addr→σ→CZ)
section
variable (c:Ct σ) (P:Program) (T:List (Nat×Entry σ)) (I:List Nat) (fuel:Nat) (fn:Func) (B:Code) (p0:Addr) (cs:List (Cm σ)) (hs:List (Hd σ)) (hk:List (AoE σ)) (r0:Ty c.RK) (Inv:Nat→List (Cm σ)→Prop) (ms:Nat→List (Cm σ)→Nat×Nat×Nat)
def stepG (j:Nat) (h:Hd σ):Prop:=
 match hk.getD j .run with
 | .run=>EF h.kd λx=>Inv j x→∃W:Prop,(∀ad β γ,c.lhsW p0 cs hs (λr=>r=r0) (λj' x'=>Inv j' x'∧lx (ms j' x') (ms j x)) (run P T (h.stp I) fuel B fn.results.toList fn.ntmps h.tds (h.L ad x) (h.K ad x)) β γ=
    c.rhsW p0 cs hs (run P T (h.stp I) fuel B fn.results.toList fn.ntmps h.tds (h.L ad x) (h.K ad x)) W β γ)∧W
 | .opn b k of j2=>b.b.Is D∧match hs[j2]? with
   |some h2=>EF h.kd λx=>Inv j x→∃s:b.wr.τ,(∀ad,(h.K ad x)[k]? =some (.obj ⟨of ad,0,none⟩ (b.wr.inj s)))∧EF (IA b.b.l) λy=>b.b.R s y→∃W:Prop,(∀ad ad2,(P8 [h2] (λ_ x'=>Inv j2 x'∧lx (ms j2 x') (ms j x)) h.tds (Kr k (h.L ad x)) (b.b.opK k (of ad) ad2 y (h.K ad x)),L8 [h2] h.tds (Kr k (h.L ad x)) (b.b.opK k (of ad) ad2 y (h.K ad x)),OA [h2] h.tds (Kr k (h.L ad x)) (b.b.opK k (of ad) ad2 y (h.K ad x)))=
     (W,L9 [h2] h.tds (Kr k (h.L ad x)) (b.b.opK k (of ad) ad2 y (h.K ad x)),true))∧W
   |none=>False
 | .cls b of af j2=>b.b.Is D∧match hs[j2]? with
   |some h2=>EF h.kd λx=>Inv j x→∃(s:b.wr.τ) (W:Prop),b.b.R s (x.take (Lu b.b.l))∧(∀ad,((h.K ad x).take (1+Fv b.b.l),LD (Fv b.b.l) ((h.K ad x).drop (1+Fv b.b.l)),Dn (IA b.b.l) (x.take (Lu b.b.l)),P8 [h2] (λ_ x'=>Inv j2 x'∧lx (ms j2 x') (ms j x)) h.tds (LV 0 (jK 1 (Fv b.b.l)) (h.L ad x)) ((EM (h.K ad x) .dead (jK 1 (Fv b.b.l))).set 0 (.obj ⟨of ad,0,none⟩ (b.wr.inj s))),L8 [h2] h.tds (LV 0 (jK 1 (Fv b.b.l)) (h.L ad x)) ((EM (h.K ad x) .dead (jK 1 (Fv b.b.l))).set 0 (.obj ⟨of ad,0,none⟩ (b.wr.inj s))),OA [h2] h.tds (LV 0 (jK 1 (Fv b.b.l)) (h.L ad x)) ((EM (h.K ad x) .dead (jK 1 (Fv b.b.l))).set 0 (.obj ⟨of ad,0,none⟩ (b.wr.inj s))))=
     (b.b.bk (of ad) (af ad) 1 (x.take (Lu b.b.l)),true,true,W,L9 [h2] h.tds (LV 0 (jK 1 (Fv b.b.l)) (h.L ad x)) ((EM (h.K ad x) .dead (jK 1 (Fv b.b.l))).set 0 (.obj ⟨of ad,0,none⟩ (b.wr.inj s))),true))∧W
   |none=>False
def AaD:List (Hd σ)→Nat→Prop
 |[],_=>True
 |h::r,j=>stepG D c P T I fuel fn B p0 cs hs hk r0 Inv ms j h∧AaD r (j+1)
end
section
variable {c:Ct σ} {P:Program} {T:List (Nat×Entry σ)} {I:List Nat} {fuel:Nat} {fn:Func} {B:Code} {p0:Addr} {cs:List (Cm σ)} {hs:List (Hd σ)} {hk:List (AoE σ)} {r0:Ty c.RK} {Inv:Nat→List (Cm σ)→Prop} {ms:Nat→List (Cm σ)→Nat×Nat×Nat} {f:FuncId} {R:Ending→World→Prop} {E:Ev} {G:Hp}
theorem AaE:∀{l:List (Hd σ)} {m i:Nat} {h:Hd σ},AaD D c P T I fuel fn B p0 cs hs hk r0 Inv ms l m→l[i]? =some h→stepG D c P T I fuel fn B p0 cs hs hk r0 Inv ms (m+i) h
 |[],_,_,_,_,h=>by simp at h
 |h0::r,m,0,h,hs,hg=>by simp at hg;subst hg;exact hs.1
 |h0::r,m,i+1,h,hs,hg=>by
  have:=AaE hs.2 (i:=i) (by simpa using hg)
  rw [show m+1+i=m+(i+1) by omega] at this
  exact this
theorem Anf (hT:BO D P T) (hfn:P.funcs[f]? =some fn) (hmix:P.follows .mixedOrders=true) (hc:hcode B hs=GL B hs) (hst:AaD D c P T I fuel fn B p0 cs hs hk r0 Inv ms hs 0):
 ∀j h,hs[j]? =some h→∀s,Dn h.kd s=true→Inv j s→∀ad,SW D P f (Post D E G (c.outC r0) (c.nwC p0 cs r0) (c.mksC r0)) B fn.ntmps E G h.tds (h.L ad s) (h.K ad s):=by
 have loop:∀x:Nat×Nat×Nat,∀j h,hs[j]? =some h→∀s,Dn h.kd s=true→Inv j s→ms j s=x→∀ad,SW D P f (Post D E G (c.outC r0) (c.nwC p0 cs r0) (c.mksC r0)) B fn.ntmps E G h.tds (h.L ad s) (h.K ad s):=by
  refine Aa7 λx ih j h hg s hf hI hm ad=>?_
  have hq:=AaE D hst hg
  rw [lD] at hq
  have H':∀j' h',hs[j']? =some h'→∀s',Dn h'.kd s'=true→(Inv j' s'∧lx (ms j' s') (ms j s))→∀ad',SW D P f (Post D E G (c.outC r0) (c.nwC p0 cs r0) (c.mksC r0)) B fn.ntmps E G h'.tds (h'.L ad' s') (h'.K ad' s'):= λj' h' hg' s' hf' hI' ad'=>ih _ (by rw [←hm];exact hI'.2) j' h' hg' s' hf' hI'.1 rfl ad'
  unfold stepG at hq
  split at hq
  ·obtain ⟨W,hW1,hW2⟩:=hq.at s hf hI
   exact SW.go D hT (I:=h.stp I) hfn hmix fuel rfl (MJ D (hW1 ad) hW2 hc H')
  ·rename_i b k of j2 _
   obtain ⟨hb,hq⟩:=hq
   split at hq
   ·rename_i h2 hg2
    obtain ⟨st,hk0,hq⟩:=hq.at s hf hI
    refine Bx.QK D hb k (hk0 ad) λo' ad2 y e hfy hRy=>?_
    injection e with e;subst e
    obtain ⟨W,hW1,hW2⟩:=hq.at y hfy hRy
    have e:=hW1 ad ad2
    simp only [iP] at e
    refine Ny D (hs:=[h2]) (KU hc hg2) e.2.1 e.2.2 (by rw [e.1];exact hW2) λj' h' hg' s' hf' hI' ad'=>?_
    cases j' with
    |zero=>simp at hg';subst hg';exact H' j2 _ hg2 s' hf' hI' ad'
    |succ j'=>simp at hg'
   ·exact hq.elim
  ·rename_i b of af j2 _
   obtain ⟨hb,hq⟩:=hq
   split at hq
   ·rename_i h2 hg2
    obtain ⟨st,W,hR,hW1,hW2⟩:=hq.at s hf hI
    have e:=hW1 ad
    simp only [iP] at e
    refine Bx.YN D hb (o:=of ad) (ad:=af ad) (y:=s.take (Lu b.b.l)) (rest:=(h.K ad s).drop (1+Fv b.b.l)) (s:=st) (by rw [←e.1,List.take_append_drop]) e.2.1 e.2.2.1 hR ?_
    refine Ny D (hs:=[h2]) (KU hc hg2) e.2.2.2.2.1 e.2.2.2.2.2 (by rw [e.2.2.2.1];exact hW2) λj' h' hg' s' hf' hI' ad'=>?_
    cases j' with
    |zero=>simp at hg';subst hg';exact H' j2 _ hg2 s' hf' hI' ad'
    |succ j'=>simp at hg'
   ·exact hq.elim
 exact λj h hg s hf hI ad=>loop _ j h hg s hf hI rfl ad
end
theorem AgV {c:Ct σ} {P:Program} {T:List (Nat×Entry σ)} (hT:BO D P T) {I:List Nat} {f:FuncId} {fn:Func} {B:Code} (hfn:P.funcs[f]? =some fn) (hmix:P.follows .mixedOrders=true) (hB:fn.body=some B)
 (ha:IB c.ash=true) (hl:jS c.full.length fn.ntmps=true) {F:Kq c.AK (Ty c.RK)} {pre:Kq c.AK (List Prop)} (fuel:Nat)
 (H:∀p0,EF c.AK λcs=>UV c.full cs→(∀p∈Ag c.AK pre cs,p)→∃(hs:List (Hd σ)) (hk:List (AoE σ)) (Inv:Nat→List (Cm σ)→Prop) (ms:Nat→List (Cm σ)→Nat×Nat×Nat),hcode B hs=GL B hs∧
   (∃W:Prop,(∀ad β γ,c.lhsW p0 cs hs (λr=>r=Ag c.AK F cs) Inv (c.tree P T I fuel fn B p0 cs ad) β γ=c.rhsW p0 cs hs (c.tree P T I fuel fn B p0 cs ad) W β γ)∧W)∧
   AaD D c P T I fuel fn B p0 cs hs hk (Ag c.AK F cs) Inv ms hs 0):F9 D P f (BU c F pre):=by
 refine O9 D (mk:=[]) hT (I:=I) hfn hmix hB ha hl fuel λp0=>?_
 refine EF.imp (λcs hH hb hp ad E G=>?_) (H p0)
 obtain ⟨hs,hk,Inv,ms,hc,⟨W,hW,hW'⟩,hst⟩:=hH hb hp
 exact MJ D (hW ad) hW' hc (Anf D hT hfn hmix hc hst)
end
end Go.Sl
namespace Go.Proofs.Ytdjfnbbmfmjckaa
section
open Go.Sl
structure MS where
 t:Int
 p:Int
 h:Int
 l:List (Int×Int)
 r0:Int
 r1:Int
 r2:Int
 r3:Int
 r4:Int
 r5:Int
 r6:Int
 r7:Int
structure RX where
 t:Int
 p:Int
 h:Int
 n:Nat
 a:LI
 z:LI
 r0:Int
 r1:Int
 r2:Int
 r3:Int
 r4:Int
 r5:Int
 r6:Int
 r7:Int
structure RS where
 t:Int
 p:Int
 h:Int
 a:LI
 z:LI
 r0:Int
 r1:Int
 r2:Int
 r3:Int
 r4:Int
 r5:Int
 r6:Int
 r7:Int
inductive Sg where
 |mod (s:MS)
 |rf (s:RS)
 |any (A:List (LI)→CZ) (st:List (LI))
abbrev cX (cs:List (Cm Sg)) (i:Nat):Cm Sg:=cs.getD i (.b false)
def MS.of (cs:List (Cm Sg)):MS:=⟨(cX cs 0).iOf,(cX cs 1).iOf,(cX cs 2).iOf,(cX cs 3).blOf,(cX cs 4).iOf,(cX cs 5).iOf,(cX cs 6).iOf,(cX cs 7).iOf,(cX cs 8).iOf,(cX cs 9).iOf,(cX cs 10).iOf,(cX cs 11).iOf⟩
def RX.of (cs:List (Cm Sg)):RX:=⟨(cX cs 0).iOf,(cX cs 1).iOf,(cX cs 2).iOf,(cX cs 3).nOf,(cX cs 4).liOf,(cX cs 5).liOf,(cX cs 6).iOf,(cX cs 7).iOf,(cX cs 8).iOf,(cX cs 9).iOf,(cX cs 10).iOf,(cX cs 11).iOf,(cX cs 12).iOf,(cX cs 13).iOf⟩
def D6 (x s:MS):Prop:=x=s
structure Bj (x:RX) (s:RS):Prop where
 n:x.n=x.a.length
 z:x.z.length=x.a.length
 eq:s=⟨x.t,x.p,x.h,x.a,x.z,x.r0,x.r1,x.r2,x.r3,x.r4,x.r5,x.r6,x.r7⟩
def MS.nil:MS:=⟨0,0,0,[],0,0,0,0,0,0,0,0⟩
def RS.nil:RS:=⟨0,0,0,[],[],0,0,0,0,0,0,0,0⟩
def Du:Wr Sg:=⟨MS, .mod, λ
 | .mod s=>s
 |_=>MS.nil, λ
 | .mod _=>true
 |_=>false,MS.nil, λs h=>by cases s<;>first|rfl|cases h⟩
def Es:Bx Sg Du:=⟨60,[.i .i64, .i .i64, .i .i64, .bm, .i .i64, .i .i64, .i .i64, .i .i64, .i .i64, .i .i64, .i .i64, .i .i64], λs y=>D6 (MS.of y) s⟩
def TD:Bx Sg Du:=⟨60,[.i .i64, .i .i64, .i .i64, .bmi, .i .i64, .i .i64, .i .i64, .i .i64, .i .i64, .i .i64, .i .i64, .i .i64], λs y=>D6 (MS.of y) s⟩
def CW:Wr Sg:=⟨RS, .rf, λ
 | .rf s=>s
 |_=>RS.nil, λ
 | .rf _=>true
 |_=>false,RS.nil, λs h=>by cases s<;>first|rfl|cases h⟩
def Bq:Bx Sg CW:=⟨47,[.i .i64, .i .i64, .i .i64, .own 55 [some .i64,some .i64], .i .i64, .i .i64, .i .i64, .i .i64, .i .i64, .i .i64, .i .i64, .i .i64], λs y=>Bj (RX.of y) s⟩
def Dg (p:Addr):Sg→CZ
 | .mod s=>Es.A s p
 | .rf s=>Bq.A s p
 | .any A st=>A st
theorem Gh:Es.Is Dg:=⟨rfl, λ_ _=>rfl⟩
theorem Ik:Bq.Is Dg:=⟨rfl, λ_ _=>rfl⟩
theorem mix:Try.prog.follows .mixedOrders=true:=by kernel_rfl
abbrev Tb:=List (Nat×Entry Sg)
abbrev D7 (T:Tb):Prop:=BO Dg Try.prog T
abbrev DV (n:Nat) (e:Entry Sg):Prop:=F9 Dg Try.prog n e
theorem Ea {n:Nat} {e:Entry Sg} {T:Tb} (h:DV n e) (h2:D7 T):D7 ((n,e)::T):=BO.cons Dg h h2
def Jk:List (Nat×Entry Sg):=[]
theorem FH:BO Dg Try.prog Jk:=BO.nil Dg _
end
end Go.Proofs.Ytdjfnbbmfmjckaa
namespace Go.Sl
section
open Go.RowKit
def Sv (fn:FuncId) (tmps:Array Value) (ps:Array Tmp) (assign body:Code) (D:Nat) (st:LoopState) (pe:Option Code):Loop:=
 {state:=st,pending:=pe,fn,tmps,params:=ps,assign,body,defers:=D}
def mark (D:Nat):Deferred:={target:= .collected D,args:= #[]}
def JU (w:World) (fn:FuncId) (tmps:Array Value) (ps:Array Tmp) (assign body:Code):World:=
 (w.alloc (.deferred (some []))).alloc (.loop (Sv fn tmps ps assign body w.heap.size .ready none))
section
variable {P:Program} {f:Fq} {R:Ending→World→Prop} {k:List Item} {a:Act} {w:World}
theorem WT.rangeFunc {g:Operand} {ps:Array Tmp} {assign body:Code} {gf:Nat} {lb:Array Value} (hro:f.ro=none) (hg:a.eval g= .func (.func gf) #[] lb) (eg:∀args w,(callFunc gf args).run P w= .ok (.enter gf args) w)
 (h:Calls P gf (#[.func (.yield (w.heap.size+1)) #[] #[]]++lb) (JU w f.id a.tmps ps assign body) λe w3=>(∃v,e= .returned v)∧∃jump w4,(Instr.endLoop (w.heap.size+1)).run P w3= .ok jump w4∧
   WT P {f with df:=mark w.heap.size::f.df} R ((jump.map Item.code).toList++k) a w4):
 WT P f R (.code (.rangeFunc g ps assign body)::k) a w:= λcs hcs=>by
 have hb:(EN f).roundOf=none:=hro
 have he:(Instr.enterLoop (EN f).fn (f.act a).tmps ps assign body (EN f).roundOf).run P w= .ok (w.heap.size+1,[mark w.heap.size]) (JU w f.id a.tmps ps assign body):=by
  rw [hb];exact run_enterLoop_outer _ _ _ _ _
 have hres:(resolve (f.act a).eval (rangeCall g (w.heap.size+1)) 0).run P (JU w f.id a.tmps ps assign body)= .ok {target:= .fn (.func gf) lb,args:= #[.func (.yield (w.heap.size+1)) #[] #[]]} (JU w f.id a.tmps ps assign body):=by
  simp only [resolve,Fq.O0,hg]
  simp [go_sem]
 have hinv:(invoke (Target.fn (.func gf) lb) #[.func (.yield (w.heap.size+1)) #[] #[]]).run P (JU w f.id a.tmps ps assign body)= .ok (.enter gf (#[.func (.yield (w.heap.size+1)) #[] #[]]++lb)) (JU w f.id a.tmps ps assign body):=by
  simp [invoke,go_sem,eg]
 have henter:=stepR_rangeFunc (P:=P) (b:=EN f) (a:=f.act a) (k:=k) (cs:=cs) (w:=w) he hres hinv
 obtain ⟨e,w3,fr,⟨⟨v,rfl⟩,jump,w4,hend,hW⟩,hsteps,_,hleave⟩:=h ((EN f).atR {f.act a with defers:=[mark w.heap.size]++(f.act a).defers} (.inRangeFunc (w.heap.size+1)::k)::cs)
 have s1:=step_leave_returned (c:=(EN f).atR {f.act a with defers:=[mark w.heap.size]++(f.act a).defers} (.inRangeFunc (w.heap.size+1)::k)) (cs:=cs) hleave
 rw [finish_atR_inRangeFunc] at s1
 have s2:=stepR_endRangeFunc (P:=P) (b:=EN f) (a:={f.act a with defers:=[mark w.heap.size]++(f.act a).defers}) (k:=k) (cs:=cs) hend
 obtain ⟨e2,w5,S,h1,h2,h3⟩:=hW cs hcs
 exact ⟨e2,w5,S,h1,Comes.of_steps (.head henter (Steps.trans hsteps (.head s1 (.one s2)))) h2,h3⟩
theorem WT.Ajg {l:Nat} {w':World} (hro:f.ro=some l) (hr:(Instr.beginRound l).run P w= .ok () w') (H:WT P f R k a w'):WT P f R (.beginRound::k) a w:=
 WT.step (λ_=>stepR_beginRound (b:=EN f) hro hr) H
theorem WT.AgW {l:Nat} {v:Value} {t:List Item} {w':World} (hro:f.ro=some l) (hs:∀c cs,Go.step P (lone ((EN f).atR (f.act a) t) (c::cs) w)= .next (lone (c.finish v) cs w')) (hR:R (.returned v) w'):WT P f R t a w:= λcs hcs=>by
 cases cs with
 |nil=>rcases hcs with h|h
       ·rw [hro] at h;cases h
       ·exact absurd rfl h
 |cons c cs=>
  refine ⟨.returned v,w',_,hR,Steps.one (hs c cs),?_⟩
  unfold Fq.fin
  rw [hro]
  exact ⟨v,c,cs,rfl,rfl,rfl⟩
theorem WT.Ang {l:Nat} {v:Value} {w':World} (hro:f.ro=some l) (hr:(Instr.endRound l none).run P w= .ok v w') (hR:R (.returned v) w'):WT P f R [] a w:=
 WT.AgW hro (λ_ _=>stepR_round_end (b:=EN f) hro rfl hr) hR
theorem WT.Anh {l:Nat} {v:Value} {w':World} (hro:f.ro=some l) (hr:(Instr.endRound l (some .ret)).run P w= .ok v w') (hR:R (.returned v) w'):WT P f R (.code .ret::k) a w:=
 WT.AgW hro (λ_ _=>stepR_round_ret (b:=EN f) hro rfl hr) hR
theorem Ani {l:Nat} {fn:FuncId} {tmps:Array Value} {ps:Array Tmp} {assign body:Code} {D:Nat} {asv:Array Value} (h:w.heap[l]? =some (.loop (Sv fn tmps ps assign body D .ready none))) (hs:asv.size=ps.size)
 (H:WT P ⟨fn,some l,[]⟩ R [.code assign, .beginRound, .code body] {tmps:=(ps.zip asv).foldl (λt (p,v)=>t.setIfInBounds p v) tmps,defers:=[]} w):Qy P l asv w R:=
 ⟨fn,_,assign,body,run_yield h hs,H⟩
theorem WT.Al8 {l:Nat} {r:Loop} (hro:f.ro=some l) (h:w.heap[l]? =some (.loop r)) (hr:r.state= .ready) (H:WT P f R k a (w.putObj l (.loop {r with state:= .busy}))):WT P f R (.beginRound::k) a w:=
 WT.Ajg hro (run_beginRound h hr) H
theorem WT.AoF {l:Nat} {r:Loop} (hro:f.ro=some l) (h:w.heap[l]? =some (.loop r)) (hR:R (.returned (.bool true)) (w.putObj l (.loop {r with state:= .ready,pending:=none}))):WT P f R [] a w:=
 WT.Ang hro (run_endRound none h) hR
theorem WT.Anj {l:Nat} {r:Loop} (hro:f.ro=some l) (h:w.heap[l]? =some (.loop r)) (hR:R (.returned (.bool false)) (w.putObj l (.loop {r with state:= .done,pending:=some .ret}))):WT P f R (.code .ret::k) a w:=
 WT.Anh hro (run_endRound (some .ret) h) hR
theorem WT.finish_mark {fn:Func} {t:List Item} {v:Value} {D:Nat} {w':World} (hro:f.ro=none) (hdf:f.df=[mark D]) (hfn:P.funcs[f.id]? =some fn) (ht:t=[]∨∃k,t= .code .ret::k) (hd:a.defers=[])
 (hk:(Instr.takeDeferred D).run P w= .ok [] w') (hr:(results fn a.tmps).run P w'= .ok v w') (hR:R (.returned v) w'):WT P f R t a w:= λcs _=>by
 have hb:(EN f).roundOf=none:=hro
 have hfin:∀fr,fr.fn=f.id→fr.leaving P w' (.returned v)→f.fin P cs (lone fr cs w') (.returned v) w':= λfr h1 h2=>by
  unfold Fq.fin;rw [hro];exact ⟨fr,rfl,h1,h2⟩
 have hc:∀t,Go.step P (lone {(EN f).atR (f.act a) t with mode:= .returning} cs w)= .next (lone {(EN f).atR (f.act a) t with mode:= .returning,defers:=[]} cs w'):= λt=>
  step_collected (fr:={(EN f).atR (f.act a) t with mode:= .returning}) (by simp) (by show f.df++a.defers=_;rw [hdf,hd];rfl) rfl hk
 rcases ht with rfl|⟨k,rfl⟩
 ·exact ⟨.returned v,w',_,hR,Steps.head (stepR_end hb) (.one (hc _)),hfin _ rfl ⟨rfl,rfl,rfl,fn,hfn,hr⟩⟩
 ·exact ⟨.returned v,w',_,hR,Steps.head (stepR_ret hb) (.one (hc _)),hfin _ rfl ⟨rfl,rfl,rfl,fn,hfn,hr⟩⟩
end
end
section
open Go.RowKit
variable {σ:Type} (D:Addr→σ→CZ)
section
variable {P:Program} {R:Ending→World→Prop} {B:Code} {n:Nat} {E:Ev} {G:Hp} {td:List Ab} {L L':List Ak} {K K':List (Chunk σ)}
theorem Af.putObj {w:World} {j l:Nat} {q:Addr} {s s':σ} {x y:Obj} (hS:Af D E G w K) (hj:K[j]? =some (.obj q s)) (hd:D q s=pt l x) (hd':D q s'=pt l y):Af D E G (w.putObj l y) (K.set j (.obj q s')):=by
 have hi:(K.map (den D G))[j]? =some (pt l x):=by rw [iM,hj];simp only [iS,den,hd]
 have hl:=Sat.pt hS hi
 have hlt:=lt_of_heap hl
 have:=Sat.write hS hi (w':=w.putObj l y) (A':=pt l y) ⟨rfl,rfl,rfl⟩ World.putObj_size (λc hc=>World.putObj_heap_other hc) (λY k hk=>by unfold Sl.pt;rw [hk];exact World.putObj_heap_same hlt)
 unfold Af
 rw [jU]
 simp only [den,hd']
 exact this
theorem Bf.setObj {j:Nat} {q:Addr} {s s':σ} (hj:K[j]? =some (.obj q s)):Bf K (K.set j (.obj q s')):=Bf.set hj λv pk h=>by cases pk<;>first|exact h|exact h.elim
theorem Dz.setObj {j:Nat} {q:Addr} {s s':σ} (hk:Dz K) (hj:K[j]? =some (.obj q s)):Dz (K.set j (.obj q s')):=hk.set hj (λv pk h=>by cases pk<;>first|exact h|exact h.elim) λ_ _ _ h=>by cases h
theorem Af.objPt {w:World} {j l:Nat} {q:Addr} {s:σ} {x:Obj} (hS:Af D E G w K) (hj:K[j]? =some (.obj q s)) (hd:D q s=pt l x):w.heap[l]? =some x:=
 Sat.pt hS (i:=j) (by rw [iM,hj];simp only [iS,den,hd])
theorem SW.busy {f:Fq} {l j:Nat} {q:Addr} {s s':σ} {r:Loop} (hro:f.ro=some l) (hj:K[j]? =some (.obj q s)) (hd:D q s=pt l (.loop r)) (hr:r.state= .ready) (hd':D q s'=pt l (.loop {r with state:= .busy}))
 (H:SW D P f R B n E G td L (K.set j (.obj q s'))):SW D P f R B n E G (.raw .beginRound::td) L K:= λa w hF hS=>
 WT.Al8 hro (hS.objPt D hj hd) hr (H a _ (hF.ext (Bf.setObj hj) (hF.kok.setObj hj)) (hS.putObj D hj hd hd'))
theorem SW.on {f:Fq} {l j:Nat} {q:Addr} {s s':σ} {r:Loop} (hro:f.ro=some l) (hj:K[j]? =some (.obj q s)) (hd:D q s=pt l (.loop r)) (hd':D q s'=pt l (.loop {r with state:= .ready,pending:=none}))
 (H:∀w',Dz (K.set j (.obj q s'))→Af D E G w' (K.set j (.obj q s'))→R (.returned (.bool true)) w'):SW D P f R B n E G [] L K:= λ_ _ hF hS=>
 WT.AoF hro (hS.objPt D hj hd) (H _ (hF.kok.setObj hj) (hS.putObj D hj hd hd'))
theorem SW.off {f:Fq} {l j:Nat} {q:Addr} {s s':σ} {r:Loop} {q0:List Nat} (hro:f.ro=some l) (hc:Sl.sub B q0= .ret) (hj:K[j]? =some (.obj q s)) (hd:D q s=pt l (.loop r)) (hd':D q s'=pt l (.loop {r with state:= .done,pending:=some .ret}))
 (H:∀w',Dz (K.set j (.obj q s'))→Af D E G w' (K.set j (.obj q s'))→R (.returned (.bool false)) w'):SW D P f R B n E G (.code q0::td) L K:= λa w hF hS=>by
 show WT P f R (.code (Sl.sub B q0)::td.map (item B)) a w
 rw [hc]
 exact WT.Anj hro (hS.objPt D hj hd) (H _ (hF.kok.setObj hj) (hS.putObj D hj hd hd'))
theorem SW.rangeFunc {f:FuncId} {p:List Nat} {t gf:Nat} {ps:Array Tmp} {lb:Array Value} {pr:Pr} (hc:Sl.sub B p= .rangeFunc (.tmp t) ps (Sl.sub B (0::p)) (Sl.sub B (1::p))) (hL:(⟨t,none, .func (.func gf) #[] lb,pr⟩:Ak)∈L)
 (eg:∀args w,(callFunc gf args).run P w= .ok (.enter gf args) w)
 (H:∀a w,Fr n L K a→Sat E G (JU w f a.tmps ps (Sl.sub B (0::p)) (Sl.sub B (1::p))) (K.map (den D G)++[pt w.heap.size (.deferred (some [])),pt (w.heap.size+1) (.loop (Sv f a.tmps ps (Sl.sub B (0::p)) (Sl.sub B (1::p)) w.heap.size .ready none))])→
   Calls P gf (#[.func (.yield (w.heap.size+1)) #[] #[]]++lb) (JU w f a.tmps ps (Sl.sub B (0::p)) (Sl.sub B (1::p))) λe w3=>(∃v,e= .returned v)∧∃r w4,w3.heap[w.heap.size+1]? =some (.loop r)∧r.state≠ .busy∧w4=w3.putObj (w.heap.size+1) (.loop {r with state:= .exhausted})∧
    WT P ⟨f,none,[mark w.heap.size]⟩ R ((r.pending.map Item.code).toList++td.map (item B)) a w4):
 SW D P f R B n E G (.code p::td) L K:= λa w hF hS=>by
 show WT P (f:Fq) R (.code (Sl.sub B p)::td.map (item B)) a w
 rw [hc]
 have hv:=hF.ents _ hL trivial
 refine WT.rangeFunc (f:=(f:Fq)) rfl (lb:=lb) hv.1 eg ?_
 have h1:=Sat.alloc (Sat.alloc hS (.deferred (some []))) (.loop (Sv f a.tmps ps (Sl.sub B (0::p)) (Sl.sub B (1::p)) w.heap.size .ready none))
 rw [jP] at h1
 have hsz:(w.alloc (.deferred (some []))).heap.size=w.heap.size+1:=by simp
 rw [hsz] at h1
 refine (H a w hF h1).mono λe w3 ⟨hv,r,w4,h2,h3,h4,h5⟩=>⟨hv,r.pending,w4,?_,h5⟩
 rw [h4]
 exact run_endLoop h2 h3
theorem SW.finish_mark {f:Fq} {fn:Func} {Dm j:Nat} {q:Addr} {s s':σ} {vs:List (Value×Pr)} (hro:f.ro=none) (hdf:f.df=[mark Dm]) (hfn:P.funcs[f.id]? =some fn) (ht:td.map (item B)=[]∨∃k,td.map (item B)= .code .ret::k)
 (hj:K[j]? =some (.obj q s)) (hd:D q s=pt Dm (.deferred (some []))) (hd':D q s'=pt Dm (.deferred none)) (hres:GM P L (K.set j (.obj q s')) fn.results.toList=some vs)
 (H:∀w',Af D E G w' (K.set j (.obj q s'))→R (.returned (match vs with|[v]=>v.1|vs=> .tuple (vs.map (·.1)).toArray)) w'):SW D P f R B n E G td L K:= λa w hF hS=>by
 have hS':=hS.putObj D hj hd hd'
 have hF':=hF.ext (Bf.setObj (s':=s') hj) (hF.kok.setObj hj)
 refine WT.finish_mark hro hdf hfn ht hF.defers (run_takeDeferred (hS.objPt D hj hd)) ?_ (H _ hS')
 ·have hrun:=(KA D hF' hS' _ _ hres).1
  unfold results
  rw [nX]
  simp only [iR,Sem.run_map]
  erw [hrun]
  simp only [Result.andThen_ok,iY]
  match vs with
  |[]=>rfl
  |[v]=>rfl
  |_::_::_=>simp
theorem Afn {t:TypeId} (h:LY P t=none) (L:List Ak) (K:List (Chunk σ)):GM P L K [.cell 0 t]=none:=by
 have hc:∀cs off,I8 P t cs off=none:= λcs off=>by unfold I8;rw [h]
 simp only [GM]
 split
 ·split
  ·rw [hc]
  ·rfl
 ·rfl
theorem Af.order {w:World} {Ks:List (Chunk σ)} (h:Af D E G w K) (is:List Nat) (hn:nodupB is=true) (hg:Ks.map some=is.map (λj=>K[j]?)):Af D E G w Ks:=by
 refine Sat.pick h is (JE hn) λi B hi=> .inl ?_
 rw [iM] at hi
 cases hc:Ks[i]? with
 |none=>rw [hc] at hi;cases hi
 |some c=>
  rw [hc] at hi;injection hi with hi;subst hi
  have:=congrArg (λl=>l[i]?) hg
  simp only [iM,hc,iS] at this
  cases hj:is[i]? with
  |none=>rw [hj] at this;cases this
  |some j=>
   rw [hj] at this
   simp only [iS,iA] at this
   exact ⟨j,rfl,by rw [iM,←this];rfl⟩
theorem Af.pack {w:World} {Ks K1:List (Chunk σ)} {c:Chunk σ} (h:Af D E G w (Ks++K1)) (hc:den D G c=star (Ks.map (den D G))):Af D E G w (c::K1):=by
 unfold Af at h ⊢
 rw [jD] at h
 rw [iD,hc]
 exact Sat.star_append h
theorem Af.unpack {w:World} {k:Nat} {k0:Chunk σ} {ks:List (Chunk σ)} {c:Chunk σ} (h:Af D E G w K) (hk:K[k]? =some c) (hc:den D G c=star ((k0::ks).map (den D G))):Af D E G w (K.set k k0++ks):=by
 unfold Af at h ⊢
 obtain ⟨_,_,h1⟩:=Sat.QI (α:=Unit) (p:= λ_=>True) (A0:= λ_=>den D G k0) (Bs:= λ_=>ks.map (den D G)) (k:=k) h (by
  rw [iM,hk]
  simp only [iS,iA,hc]
  funext Y h
  apply propext
  exact ⟨λx=>⟨(),trivial,x⟩, λ⟨_,_,x⟩=>x⟩)
 rw [jD,jU]
 exact h1
end
end
section
open Go.RowKit
variable {σ:Type} (D:Addr→σ→CZ)
section
variable {P:Program} {R:Ending→World→Prop} {B:Code} {n:Nat} {E:Ev} {G:Hp} {td:List Ab} {L L':List Ak} {K K':List (Chunk σ)}
def AgX (L:List Ak) (K':List (Chunk σ)) (e:Ak):Prop:=e.g=none∧(∃p,(⟨e.s,none,e.v,p⟩:Ak)∈L)∧BH K' e.v e.p
theorem Fr.re {a:Act} (hF:Fr n L K a) (hk:Dz K') (hL:∀e∈L',AgX L K' e):Fr n L' K' a:=by
 refine ⟨hk,hF.defers,hF.size, λe he _=>?_, λe he hg=>?_⟩
 ·obtain ⟨_,⟨p,hp⟩,h3⟩:=hL e he
  exact ⟨(hF.ents _ hp trivial).1,h3⟩
 ·exact absurd (by rw [(hL e he).1];trivial) hg
theorem SW.re {f:Fq} {α:Type} {Kf:α→List (Chunk σ)} (hS:∀w,Af D E G w K→∃x,Af D E G w (Kf x)) (hk:∀x,Dz (Kf x)) (hL:∀x,∀e∈L',AgX L (Kf x) e) (H:∀x,SW D P f R B n E G td L' (Kf x)):SW D P f R B n E G td L K:= λa w hF hw=>
 let ⟨x,hx⟩:=hS w hw
 H x a w (hF.re (hk x) (hL x)) hx
theorem Af.ord {w:World} {Ks:List (Chunk σ)} (h:Af D E G w K) (is:List Nat) (hn:nodupB is=true) (hg:Ks.map (λc=>some (den D G c))=is.map (λj=>K[j]?.map (den D G))):Af D E G w Ks:=by
 refine Sat.pick h is (JE hn) λi B hi=> .inl ?_
 have e:=congrArg (λl=>l[i]?) hg
 simp only [iM] at e hi
 cases hc:Ks[i]? with
 |none=>rw [hc] at hi;cases hi
 |some c=>
  rw [hc] at hi e
  simp only [iS,iA] at hi e
  subst hi
  cases hj:is[i]? with
  |none=>rw [hj] at e;cases e
  |some j=>
   rw [hj] at e
   simp only [iS,iA] at e
   exact ⟨j,rfl,by rw [iM];exact e.symm⟩
theorem Af.Ank {w:World} {Ks K1:List (Chunk σ)} {c:Chunk σ} (h:Af D E G w (Ks++K1)) (hc:∀Y k,Sl.star (Ks.map (den D G)) Y k→den D G c Y k):Af D E G w (c::K1):=by
 unfold Af at h ⊢
 rw [jD] at h
 have h1:=Sat.star_append h
 refine Sat.imp h1 λi B hi=>?_
 cases i with
 |zero=>simp only [iD,jH,iA] at hi;exact ⟨_,rfl, λY k hx=>by rw [←hi];exact hc Y k hx⟩
 |succ i=>exact ⟨B,by simpa using hi, λ_ _ hx=>hx⟩
theorem Af.AgY {w:World} {α:Type} {k:Nat} {k0:α→Chunk σ} {ks:α→List (Chunk σ)} {c:Chunk σ} (h:Af D E G w K) (hk:K[k]? =some c) (hc:den D G c= λY h=>∃x,Sl.star ((k0 x::ks x).map (den D G)) Y h):∃x,Af D E G w (K.set k (k0 x)++ks x):=by
 unfold Af at h
 obtain ⟨x,_,h1⟩:=Sat.QI (α:=α) (p:= λ_=>True) (A0:= λx=>den D G (k0 x)) (Bs:= λx=>(ks x).map (den D G)) (k:=k) h (by
  rw [iM,hk]
  simp only [iS,iA,hc]
  funext Y h
  apply propext
  exact ⟨λ⟨x,hx⟩=>⟨x,trivial,hx⟩, λ⟨x,_,hx⟩=>⟨x,hx⟩⟩)
 refine ⟨x,?_⟩
 unfold Af
 rw [jD,jU]
 exact h1
theorem AgZ {t:Tree σ} {R':Value→Pr→List (Chunk σ)→Prop} {S S':List Ab→List Ak→List (Chunk σ)→Prop} {X:Prop} (he:t.holds R' S'=X) (hS:∀td L K,S' td L K→S td L K) (hX:X):t.holds R' S:=
 Tree.Gq (λ_ _ _ h=>h) hS (he.mpr hX)
end
end
section
open Go.RowKit
variable {σ:Type} (D:Addr→σ→CZ)
section
variable {P:Program} {R:Ending→World→Prop} {B:Code} {n:Nat} {E:Ev} {G:Hp} {td:List Ab} {L L':List Ak} {K K':List (Chunk σ)}
theorem SW.opCall {f:Fq} {p:List Nat} {i:Nat} {o:Oper} {g:Nat} {args:List (Value×FC σ)} {prs:List Pr} {α:Type} {vf:α→Value} {pf:α→Pr} {Kf:α→List (Chunk σ)} (ho:(opsOf (Sl.sub B p))[i]? =some o) (hgs:gs n (opsOf (Sl.sub B p)) o=some none) (hc:callOf P none L K o=some (g,args,prs))
 (hk:Dz K→∀x,Bf K (Kf x)∧Dz (Kf x)∧BH (Kf x) (vf x) (pf x))
 (H0:∀w,Af D E G w K→Calls P g (args.map (·.1)).toArray w λen w'=>∃x,en= .returned (vf x)∧Af D E G w' (Kf x))
 (H:∀x,SW D P f R B n E G (.ops p (i+1)::td) (Dw o.dst none (vf x) (pf x) L) (Kf x)):SW D P f R B n E G (.ops p i::td) L K:= λa w hF hS=>by
 obtain ⟨g1,g2,g3⟩:=Iz hgs
 have hi:i<(opsOf (Sl.sub B p)).size:=by
  rcases jB i (opsOf (Sl.sub B p)).size with h|h
  ·exact h
  ·rw [kE h] at ho;cases ho
 show WT P f R (.inRegion (opsOf (Sl.sub B p)) (jK i ((opsOf (Sl.sub B p)).size-i))::td.map (item B)) a w
 rw [IL hi]
 obtain ⟨hrun,_,_⟩:=Lh (g:=none) hF trivial hc w
 refine WT.Qx ho ((Ej g1).2 trivial) hrun (H0 w hS) λe w' ⟨x,he,hS'⟩=>⟨vf x,he,?_⟩
 obtain ⟨h1,h2,h3⟩:=hk hF.kok x
 exact H x _ w' ((hF.ext h1 h2).put g2 g3 λ_=>⟨rfl,h3⟩) hS'
theorem Af.Aso {w:World} (h:Af D E G w K) (X:List (Chunk σ)):Af D E G w (K++X.map λ_=>oN):=by
 refine Sat.pick h (jQ K.length) mZ λi B hi=>?_
 rw [jD] at hi
 by_cases hl:i<K.length
 ·rw [iI (by simpa using hl)] at hi
  exact .inl ⟨i,nZ hl,hi⟩
 ·rw [iJ (by simpa using hl),iM,iM] at hi
  refine .inr λY k _=>?_
  cases hx:X[i-(K.map (den D G)).length]? with
  |none=>rw [hx] at hi;cases hi
  |some c=>rw [hx] at hi;injection hi with hi;subst hi;trivial
theorem Af.Ar2 {w:World} (h:Af D E G w K) {c:Chunk σ} (hc:nilRow c=true):Af D E G w (K++[c]):=by
 refine Sat.pick h (jQ K.length) mZ λi B hi=>?_
 rw [jD] at hi
 by_cases hl:i<K.length
 ·rw [iI (by simpa using hl)] at hi
  exact .inl ⟨i,nZ hl,hi⟩
 ·rw [iJ (by simpa using hl)] at hi
  refine .inr λY k _=>?_
  cases hx:i-(K.map (den D G)).length with
  |zero=>rw [hx] at hi;simp only [iD,kD,jH,iA] at hi;rw [←hi];exact NZ D hc Y k
  |succ m=>rw [hx] at hi;simp at hi
theorem Af.Asp {w:World} {b:Nat} {l:List (Int×Int)} {it:Option (Nat×List (Int×Int)×List (Int×Int))} (h:Af D E G w (.bm b l it::K)):Af D E G w (.bm b l none::K):=by
 refine Sat.imp h λi B hi=>?_
 cases i with
 |zero=>
  simp only [iD,jH,iA] at hi
  subst hi
  exact ⟨_,rfl, λY k ⟨es,clock,h1,h2,_⟩=>⟨es,clock,h1,h2,trivial⟩⟩
 |succ i=>exact ⟨B,by simpa using hi, λ_ _ hx=>hx⟩
theorem Fr.round1 {a:Act} {p1:Nat} {v1:Value} (hF:Fr n L K a) (h1:p1<n) (hL:∀e∈L',e.g=none∧e.s≠p1∧e∈L):
 Fr n (⟨p1,none,v1, .no⟩::L') K {tmps:=a.tmps.setIfInBounds p1 v1,defers:=[]}:=by
 refine ⟨hF.kok,rfl,by simp [hF.size], λe he hg=>?_, λe he hg=>?_⟩
 ·simp only [iG] at he
  rcases he with rfl|he
  ·refine ⟨?_,A8⟩
   rw [jC,Array.getElem?_setIfInBounds_self_of_lt (by rw [hF.size];exact h1)];rfl
  ·obtain ⟨h3,h4,h6⟩:=hL e he
   have:=hF.ents e h6 (by rw [h3];trivial)
   refine ⟨?_,this.2⟩
   rw [←this.1]
   rw [jC,jC,Array.getElem?_setIfInBounds_ne (λh=>h4 h.symm)]
 ·exfalso
  apply hg
  simp only [iG] at he
  rcases he with rfl|he
  ·trivial
  ·rw [(hL e he).1];trivial
theorem Al9 {f:FuncId} {a:Act} {w:World} {p:List Nat} {p1:Nat} {v1:Value} {l Dm:Nat} (hF:Fr n L K a) (hk:Dz K') (h1:p1<n) (hL:∀e∈L',e.s≠p1∧AgX L K' e)
 (hr:w.heap[l]? =some (.loop (Sv f a.tmps #[p1] (Sl.sub B (0::p)) (Sl.sub B (1::p)) Dm .ready none))) (hS:Af D E G w K')
 (H:SW D P ⟨f,some l,[]⟩ R B n E G [.code (0::p), .raw .beginRound, .code (1::p)] (⟨p1,none,v1, .no⟩::L') K'):Qy P l #[v1] w R:=by
 refine Ani hr rfl ?_
 have e:(#[p1].zip #[v1]).foldl (λ(t:Array Value) (p,v)=>t.setIfInBounds p v) a.tmps=a.tmps.setIfInBounds p1 v1:=by simp
 rw [e]
 exact H _ w ((hF.re hk λe he=>(hL e he).2).round1 h1 λe he=>⟨(hL e he).2.1,(hL e he).1,he⟩) hS
end
end
section
theorem Hm {n:Int} (h: -9223372036854775808≤n∧n<9223372036854775808):iO iB n=n:=by rw [IntKind.wrap_i64];omega
theorem Sz (k:Nat):(0:Int)<2^k:=Int.pow_pos (by decide)
theorem WG {k m:Nat} (h:k≤m):(2:Int)^k≤2^m:=by
 have:=Nat.pow_le_pow_right (n:=2) (by decide) h
 exact_mod_cast this
theorem Aex (k:Nat):(2:Int)^(k+1)=2^k*2:=Int.pow_succ 2 k
theorem AoG (xs:LI) (i j:Nat) (v:Int) (hi:i<xs.length):(xs.set i v).getD j 0=if j=i then v else xs.getD j 0:=by
 rw [iC,List.getElem?_set]
 by_cases h:i=j
 ·subst h;simp [hi]
 ·rw [if_neg h,if_neg (λe=>h e.symm)];simp
theorem YO {xs ys:LI} (hl:xs.length=ys.length) (h:∀j,j<xs.length→xs.getD j 0=ys.getD j 0):xs=ys:=by
 apply List.ext_getElem hl
 intro j h1 h2
 have:=h j h1
 rw [iC,iC,iK h1,iK h2] at this
 simpa using this
theorem AcG {n j:Nat} (f:Nat→Int) (h:j<n):((jQ n).map f).getD j 0=f j:=by
 rw [iC,iM,nZ h];rfl
theorem AlA {α:Type} (f:Nat→α) (n:Nat):(jQ (n+1)).map f=(jQ n).map f++[f n]:=by rw [List.range_succ];simp
theorem AlB {k:Int} (h:0≤k):(k+1).toNat=k.toNat+1:=by omega
end
end Go.Sl
namespace Go.Proofs.Ytdjfnbbmfmjckaa
section
open Go.Sl
def Aa:Int×Int×Int×Int×Int×Int×Int×Int×Int:=((32:Int),(21:Int),(16:Int),(10:Int),(8:Int),(5:Int),(4:Int),(3:Int),(2:Int))
def P9 (r_:Int×Int×Int×Int×Int×Int×Int×Int×Int):List Value→Value:= λss=> .agg #[.int .i64 (r_.1), .int .i64 (r_.2.1), .int .i64 (r_.2.2.1), .int .i64 (r_.2.2.2.1), .int .i64 (r_.2.2.2.2.1), .int .i64 (r_.2.2.2.2.2.1), .int .i64 (r_.2.2.2.2.2.2.1), .int .i64 (r_.2.2.2.2.2.2.2.1), .int .i64 (r_.2.2.2.2.2.2.2.2)]
def QL (r_:Int×Int×Int×Int×Int×Int×Int×Int×Int):List (Chunk Sg):=[]
def OC (r_:Int×Int×Int×Int×Int×Int×Int×Int×Int):List (Mk Sg):=[]
theorem WO {E_:Ev} {G_:Hp} {w_:World} (hS:Sat E_ G_ w_ []):Calls Try.prog 85 #[] w_ (Post Dg E_ G_ (P9 Aa) (QL Aa) (OC Aa)):=
 F6 Dg FH (I:=[]) Try.func85 mix (B:=AP Try.f85) (by kernel_rfl) [] [] (by kernel_rfl) (objs:=[]) (ros:=[]) (FW) (by kernel_rfl) (trivial) hS 400
  (t:=Tree.fresh λb=>Tree.ret (Value.agg {toList:=[Am (32:Int),Am (21:Int),Am (16:Int),Am (10:Int),Am (8:Int),Am (5:Int),Am (4:Int),Am (3:Int),Am (2:Int)]}) Ar [KC b 108 [(Am (32:Int),Ar),(Am (21:Int),Ar),(Am (16:Int),Ar),(Am (10:Int),Ar),(Am (8:Int),Ar),(Am (5:Int),Ar),(Am (4:Int),Ar),(Am (3:Int),Ar),(Am (2:Int),Ar)]])
  (by kernel_rfl)
  (λb0_0=>DR.at (outf:=P9) (nwf:=QL) (rowsf:=OC) (r:=((32:Int),(21:Int),(16:Int),(10:Int),(8:Int),(5:Int),(4:Int),(3:Int),(2:Int))) (by first|exact Eq.symm rfl|(simp only [Aa,cond_true,cond_false];done)|(exfalso;simp_all;done)|decide) ⟨[],[],(by decide),rfl,rfl,trivial⟩)
def N8:Entry Sg:= λ
 |[]=>some ⟨Aa, λ(r_:Int×Int×Int×Int×Int×Int×Int×Int×Int)=>⟨[],none,[], λss=> .agg #[.int .i64 (r_.1), .int .i64 (r_.2.1), .int .i64 (r_.2.2.1), .int .i64 (r_.2.2.2.1), .int .i64 (r_.2.2.2.2.1), .int .i64 (r_.2.2.2.2.2.1), .int .i64 (r_.2.2.2.2.2.2.1), .int .i64 (r_.2.2.2.2.2.2.2.1), .int .i64 (r_.2.2.2.2.2.2.2.2)], λk_=> .no⟩⟩
 |_=>none
theorem AcH:F9 Dg Try.prog 85 N8:=by
 intro args c r h hr_
 unfold N8 at h
 split at h
 ·injection h with h;subst h;subst hr_
  refine ⟨λK acs _=>A8, λhpre E G w hi hS=>?_⟩
  exact Jj Dg (by exact rfl) (WO hS)
 ·cases h
def TE:List (Nat×Entry Sg):=(85,N8)::Jk
theorem Eg:BO Dg Try.prog TE:=BO.cons Dg AcH FH
def Aq (k:Int):Int:=bif decide (k<0)||decide (k≥9) then 0 else [32,21,16,10,8,5,4,3,2].getD k.toNat 0
def Bi (r_:Int):List Value→Value:= λss=> .int .i64 (r_)
def BA (r_:Int):List (Chunk Sg):=[]
def Bc (r_:Int):List (Mk Sg):=[]
section
variable (k:Int)
theorem AcI {E_:Ev} {G_:Hp} {w_:World} (hS:Sat E_ G_ w_ []):Calls Try.prog 74 #[(.int .i64 (0))] w_ (Post Dg E_ G_ (Bi (Aq (0))) (BA (Aq (0))) (Bc (Aq (0)))):=
 F6 Dg Eg (I:=[]) Try.func74 mix (B:=AP Try.f74) (by kernel_rfl) [(.int .i64 (0))] [.no] (by kernel_rfl) (objs:=[]) (ros:=[]) (Eo A8 (FW)) (by kernel_rfl) (trivial) hS 400
  (t:=Tree.fresh λb=>Tree.br false (Tree.ret (Am (0:Int)) Ar [KC b 108 [(Am Aa.1,Ar),(Am Aa.2.1,Ar),(Am Aa.2.2.1,Ar),(Am Aa.2.2.2.1,Ar),(Am Aa.2.2.2.2.1,Ar),(Am Aa.2.2.2.2.2.1,Ar),(Am Aa.2.2.2.2.2.2.1,Ar),(Am Aa.2.2.2.2.2.2.2.1,Ar),(Am Aa.2.2.2.2.2.2.2.2,Ar)]]) (Tree.need ((0:Int)≤(0:Int)∧(0:Int)<(9:Int)) (Tree.ret (Am Aa.1) Ar [KC b 108 [(Am Aa.1,Ar),(Am Aa.2.1,Ar),(Am Aa.2.2.1,Ar),(Am Aa.2.2.2.1,Ar),(Am Aa.2.2.2.2.1,Ar),(Am Aa.2.2.2.2.2.1,Ar),(Am Aa.2.2.2.2.2.2.1,Ar),(Am Aa.2.2.2.2.2.2.2.1,Ar),(Am Aa.2.2.2.2.2.2.2.2,Ar)]])))
  (by kernel_rfl)
  (λb0_0=>⟨λz1=>DR.at (outf:=Bi) (nwf:=BA) (rowsf:=Bc) (r:=(0:Int)) (by first|exact Eq.symm ((cT z1).trans rfl)|(simp only [Aq,z1,cond_true,cond_false];done)|(exfalso;simp_all;done)|decide) ⟨[],[],(by decide),rfl,rfl,trivial⟩, λz1=>⟨by decide, λy2=>DR.at (outf:=Bi) (nwf:=BA) (rowsf:=Bc) (r:=Aa.1) (by first|exact Eq.symm ((cF z1).trans rfl)|(simp only [Aq,z1,cond_true,cond_false];done)|(exfalso;simp_all;done)|decide) ⟨[],[],(by decide),rfl,rfl,trivial⟩⟩⟩)
theorem AcJ {E_:Ev} {G_:Hp} {w_:World} (hS:Sat E_ G_ w_ []):Calls Try.prog 74 #[(.int .i64 (1))] w_ (Post Dg E_ G_ (Bi (Aq (1))) (BA (Aq (1))) (Bc (Aq (1)))):=
 F6 Dg Eg (I:=[]) Try.func74 mix (B:=AP Try.f74) (by kernel_rfl) [(.int .i64 (1))] [.no] (by kernel_rfl) (objs:=[]) (ros:=[]) (Eo A8 (FW)) (by kernel_rfl) (trivial) hS 400
  (t:=Tree.fresh λb=>Tree.br false (Tree.ret (Am (0:Int)) Ar [KC b 108 [(Am Aa.1,Ar),(Am Aa.2.1,Ar),(Am Aa.2.2.1,Ar),(Am Aa.2.2.2.1,Ar),(Am Aa.2.2.2.2.1,Ar),(Am Aa.2.2.2.2.2.1,Ar),(Am Aa.2.2.2.2.2.2.1,Ar),(Am Aa.2.2.2.2.2.2.2.1,Ar),(Am Aa.2.2.2.2.2.2.2.2,Ar)]]) (Tree.need ((0:Int)≤(1:Int)∧(1:Int)<(9:Int)) (Tree.ret (Am Aa.2.1) Ar [KC b 108 [(Am Aa.1,Ar),(Am Aa.2.1,Ar),(Am Aa.2.2.1,Ar),(Am Aa.2.2.2.1,Ar),(Am Aa.2.2.2.2.1,Ar),(Am Aa.2.2.2.2.2.1,Ar),(Am Aa.2.2.2.2.2.2.1,Ar),(Am Aa.2.2.2.2.2.2.2.1,Ar),(Am Aa.2.2.2.2.2.2.2.2,Ar)]])))
  (by kernel_rfl)
  (λb0_0=>⟨λz1=>DR.at (outf:=Bi) (nwf:=BA) (rowsf:=Bc) (r:=(0:Int)) (by first|exact Eq.symm ((cT z1).trans rfl)|(simp only [Aq,z1,cond_true,cond_false];done)|(exfalso;simp_all;done)|decide) ⟨[],[],(by decide),rfl,rfl,trivial⟩, λz1=>⟨by decide, λy2=>DR.at (outf:=Bi) (nwf:=BA) (rowsf:=Bc) (r:=Aa.2.1) (by first|exact Eq.symm ((cF z1).trans rfl)|(simp only [Aq,z1,cond_true,cond_false];done)|(exfalso;simp_all;done)|decide) ⟨[],[],(by decide),rfl,rfl,trivial⟩⟩⟩)
theorem AcK {E_:Ev} {G_:Hp} {w_:World} (hS:Sat E_ G_ w_ []):Calls Try.prog 74 #[(.int .i64 (2))] w_ (Post Dg E_ G_ (Bi (Aq (2))) (BA (Aq (2))) (Bc (Aq (2)))):=
 F6 Dg Eg (I:=[]) Try.func74 mix (B:=AP Try.f74) (by kernel_rfl) [(.int .i64 (2))] [.no] (by kernel_rfl) (objs:=[]) (ros:=[]) (Eo A8 (FW)) (by kernel_rfl) (trivial) hS 400
  (t:=Tree.fresh λb=>Tree.br false (Tree.ret (Am (0:Int)) Ar [KC b 108 [(Am Aa.1,Ar),(Am Aa.2.1,Ar),(Am Aa.2.2.1,Ar),(Am Aa.2.2.2.1,Ar),(Am Aa.2.2.2.2.1,Ar),(Am Aa.2.2.2.2.2.1,Ar),(Am Aa.2.2.2.2.2.2.1,Ar),(Am Aa.2.2.2.2.2.2.2.1,Ar),(Am Aa.2.2.2.2.2.2.2.2,Ar)]]) (Tree.need ((0:Int)≤(2:Int)∧(2:Int)<(9:Int)) (Tree.ret (Am Aa.2.2.1) Ar [KC b 108 [(Am Aa.1,Ar),(Am Aa.2.1,Ar),(Am Aa.2.2.1,Ar),(Am Aa.2.2.2.1,Ar),(Am Aa.2.2.2.2.1,Ar),(Am Aa.2.2.2.2.2.1,Ar),(Am Aa.2.2.2.2.2.2.1,Ar),(Am Aa.2.2.2.2.2.2.2.1,Ar),(Am Aa.2.2.2.2.2.2.2.2,Ar)]])))
  (by kernel_rfl)
  (λb0_0=>⟨λz1=>DR.at (outf:=Bi) (nwf:=BA) (rowsf:=Bc) (r:=(0:Int)) (by first|exact Eq.symm ((cT z1).trans rfl)|(simp only [Aq,z1,cond_true,cond_false];done)|(exfalso;simp_all;done)|decide) ⟨[],[],(by decide),rfl,rfl,trivial⟩, λz1=>⟨by decide, λy2=>DR.at (outf:=Bi) (nwf:=BA) (rowsf:=Bc) (r:=Aa.2.2.1) (by first|exact Eq.symm ((cF z1).trans rfl)|(simp only [Aq,z1,cond_true,cond_false];done)|(exfalso;simp_all;done)|decide) ⟨[],[],(by decide),rfl,rfl,trivial⟩⟩⟩)
theorem AcL {E_:Ev} {G_:Hp} {w_:World} (hS:Sat E_ G_ w_ []):Calls Try.prog 74 #[(.int .i64 (3))] w_ (Post Dg E_ G_ (Bi (Aq (3))) (BA (Aq (3))) (Bc (Aq (3)))):=
 F6 Dg Eg (I:=[]) Try.func74 mix (B:=AP Try.f74) (by kernel_rfl) [(.int .i64 (3))] [.no] (by kernel_rfl) (objs:=[]) (ros:=[]) (Eo A8 (FW)) (by kernel_rfl) (trivial) hS 400
  (t:=Tree.fresh λb=>Tree.br false (Tree.ret (Am (0:Int)) Ar [KC b 108 [(Am Aa.1,Ar),(Am Aa.2.1,Ar),(Am Aa.2.2.1,Ar),(Am Aa.2.2.2.1,Ar),(Am Aa.2.2.2.2.1,Ar),(Am Aa.2.2.2.2.2.1,Ar),(Am Aa.2.2.2.2.2.2.1,Ar),(Am Aa.2.2.2.2.2.2.2.1,Ar),(Am Aa.2.2.2.2.2.2.2.2,Ar)]]) (Tree.need ((0:Int)≤(3:Int)∧(3:Int)<(9:Int)) (Tree.ret (Am Aa.2.2.2.1) Ar [KC b 108 [(Am Aa.1,Ar),(Am Aa.2.1,Ar),(Am Aa.2.2.1,Ar),(Am Aa.2.2.2.1,Ar),(Am Aa.2.2.2.2.1,Ar),(Am Aa.2.2.2.2.2.1,Ar),(Am Aa.2.2.2.2.2.2.1,Ar),(Am Aa.2.2.2.2.2.2.2.1,Ar),(Am Aa.2.2.2.2.2.2.2.2,Ar)]])))
  (by kernel_rfl)
  (λb0_0=>⟨λz1=>DR.at (outf:=Bi) (nwf:=BA) (rowsf:=Bc) (r:=(0:Int)) (by first|exact Eq.symm ((cT z1).trans rfl)|(simp only [Aq,z1,cond_true,cond_false];done)|(exfalso;simp_all;done)|decide) ⟨[],[],(by decide),rfl,rfl,trivial⟩, λz1=>⟨by decide, λy2=>DR.at (outf:=Bi) (nwf:=BA) (rowsf:=Bc) (r:=Aa.2.2.2.1) (by first|exact Eq.symm ((cF z1).trans rfl)|(simp only [Aq,z1,cond_true,cond_false];done)|(exfalso;simp_all;done)|decide) ⟨[],[],(by decide),rfl,rfl,trivial⟩⟩⟩)
theorem AcM {E_:Ev} {G_:Hp} {w_:World} (hS:Sat E_ G_ w_ []):Calls Try.prog 74 #[(.int .i64 (4))] w_ (Post Dg E_ G_ (Bi (Aq (4))) (BA (Aq (4))) (Bc (Aq (4)))):=
 F6 Dg Eg (I:=[]) Try.func74 mix (B:=AP Try.f74) (by kernel_rfl) [(.int .i64 (4))] [.no] (by kernel_rfl) (objs:=[]) (ros:=[]) (Eo A8 (FW)) (by kernel_rfl) (trivial) hS 400
  (t:=Tree.fresh λb=>Tree.br false (Tree.ret (Am (0:Int)) Ar [KC b 108 [(Am Aa.1,Ar),(Am Aa.2.1,Ar),(Am Aa.2.2.1,Ar),(Am Aa.2.2.2.1,Ar),(Am Aa.2.2.2.2.1,Ar),(Am Aa.2.2.2.2.2.1,Ar),(Am Aa.2.2.2.2.2.2.1,Ar),(Am Aa.2.2.2.2.2.2.2.1,Ar),(Am Aa.2.2.2.2.2.2.2.2,Ar)]]) (Tree.need ((0:Int)≤(4:Int)∧(4:Int)<(9:Int)) (Tree.ret (Am Aa.2.2.2.2.1) Ar [KC b 108 [(Am Aa.1,Ar),(Am Aa.2.1,Ar),(Am Aa.2.2.1,Ar),(Am Aa.2.2.2.1,Ar),(Am Aa.2.2.2.2.1,Ar),(Am Aa.2.2.2.2.2.1,Ar),(Am Aa.2.2.2.2.2.2.1,Ar),(Am Aa.2.2.2.2.2.2.2.1,Ar),(Am Aa.2.2.2.2.2.2.2.2,Ar)]])))
  (by kernel_rfl)
  (λb0_0=>⟨λz1=>DR.at (outf:=Bi) (nwf:=BA) (rowsf:=Bc) (r:=(0:Int)) (by first|exact Eq.symm ((cT z1).trans rfl)|(simp only [Aq,z1,cond_true,cond_false];done)|(exfalso;simp_all;done)|decide) ⟨[],[],(by decide),rfl,rfl,trivial⟩, λz1=>⟨by decide, λy2=>DR.at (outf:=Bi) (nwf:=BA) (rowsf:=Bc) (r:=Aa.2.2.2.2.1) (by first|exact Eq.symm ((cF z1).trans rfl)|(simp only [Aq,z1,cond_true,cond_false];done)|(exfalso;simp_all;done)|decide) ⟨[],[],(by decide),rfl,rfl,trivial⟩⟩⟩)
theorem AcN {E_:Ev} {G_:Hp} {w_:World} (hS:Sat E_ G_ w_ []):Calls Try.prog 74 #[(.int .i64 (5))] w_ (Post Dg E_ G_ (Bi (Aq (5))) (BA (Aq (5))) (Bc (Aq (5)))):=
 F6 Dg Eg (I:=[]) Try.func74 mix (B:=AP Try.f74) (by kernel_rfl) [(.int .i64 (5))] [.no] (by kernel_rfl) (objs:=[]) (ros:=[]) (Eo A8 (FW)) (by kernel_rfl) (trivial) hS 400
  (t:=Tree.fresh λb=>Tree.br false (Tree.ret (Am (0:Int)) Ar [KC b 108 [(Am Aa.1,Ar),(Am Aa.2.1,Ar),(Am Aa.2.2.1,Ar),(Am Aa.2.2.2.1,Ar),(Am Aa.2.2.2.2.1,Ar),(Am Aa.2.2.2.2.2.1,Ar),(Am Aa.2.2.2.2.2.2.1,Ar),(Am Aa.2.2.2.2.2.2.2.1,Ar),(Am Aa.2.2.2.2.2.2.2.2,Ar)]]) (Tree.need ((0:Int)≤(5:Int)∧(5:Int)<(9:Int)) (Tree.ret (Am Aa.2.2.2.2.2.1) Ar [KC b 108 [(Am Aa.1,Ar),(Am Aa.2.1,Ar),(Am Aa.2.2.1,Ar),(Am Aa.2.2.2.1,Ar),(Am Aa.2.2.2.2.1,Ar),(Am Aa.2.2.2.2.2.1,Ar),(Am Aa.2.2.2.2.2.2.1,Ar),(Am Aa.2.2.2.2.2.2.2.1,Ar),(Am Aa.2.2.2.2.2.2.2.2,Ar)]])))
  (by kernel_rfl)
  (λb0_0=>⟨λz1=>DR.at (outf:=Bi) (nwf:=BA) (rowsf:=Bc) (r:=(0:Int)) (by first|exact Eq.symm ((cT z1).trans rfl)|(simp only [Aq,z1,cond_true,cond_false];done)|(exfalso;simp_all;done)|decide) ⟨[],[],(by decide),rfl,rfl,trivial⟩, λz1=>⟨by decide, λy2=>DR.at (outf:=Bi) (nwf:=BA) (rowsf:=Bc) (r:=Aa.2.2.2.2.2.1) (by first|exact Eq.symm ((cF z1).trans rfl)|(simp only [Aq,z1,cond_true,cond_false];done)|(exfalso;simp_all;done)|decide) ⟨[],[],(by decide),rfl,rfl,trivial⟩⟩⟩)
theorem AcO {E_:Ev} {G_:Hp} {w_:World} (hS:Sat E_ G_ w_ []):Calls Try.prog 74 #[(.int .i64 (6))] w_ (Post Dg E_ G_ (Bi (Aq (6))) (BA (Aq (6))) (Bc (Aq (6)))):=
 F6 Dg Eg (I:=[]) Try.func74 mix (B:=AP Try.f74) (by kernel_rfl) [(.int .i64 (6))] [.no] (by kernel_rfl) (objs:=[]) (ros:=[]) (Eo A8 (FW)) (by kernel_rfl) (trivial) hS 400
  (t:=Tree.fresh λb=>Tree.br false (Tree.ret (Am (0:Int)) Ar [KC b 108 [(Am Aa.1,Ar),(Am Aa.2.1,Ar),(Am Aa.2.2.1,Ar),(Am Aa.2.2.2.1,Ar),(Am Aa.2.2.2.2.1,Ar),(Am Aa.2.2.2.2.2.1,Ar),(Am Aa.2.2.2.2.2.2.1,Ar),(Am Aa.2.2.2.2.2.2.2.1,Ar),(Am Aa.2.2.2.2.2.2.2.2,Ar)]]) (Tree.need ((0:Int)≤(6:Int)∧(6:Int)<(9:Int)) (Tree.ret (Am Aa.2.2.2.2.2.2.1) Ar [KC b 108 [(Am Aa.1,Ar),(Am Aa.2.1,Ar),(Am Aa.2.2.1,Ar),(Am Aa.2.2.2.1,Ar),(Am Aa.2.2.2.2.1,Ar),(Am Aa.2.2.2.2.2.1,Ar),(Am Aa.2.2.2.2.2.2.1,Ar),(Am Aa.2.2.2.2.2.2.2.1,Ar),(Am Aa.2.2.2.2.2.2.2.2,Ar)]])))
  (by kernel_rfl)
  (λb0_0=>⟨λz1=>DR.at (outf:=Bi) (nwf:=BA) (rowsf:=Bc) (r:=(0:Int)) (by first|exact Eq.symm ((cT z1).trans rfl)|(simp only [Aq,z1,cond_true,cond_false];done)|(exfalso;simp_all;done)|decide) ⟨[],[],(by decide),rfl,rfl,trivial⟩, λz1=>⟨by decide, λy2=>DR.at (outf:=Bi) (nwf:=BA) (rowsf:=Bc) (r:=Aa.2.2.2.2.2.2.1) (by first|exact Eq.symm ((cF z1).trans rfl)|(simp only [Aq,z1,cond_true,cond_false];done)|(exfalso;simp_all;done)|decide) ⟨[],[],(by decide),rfl,rfl,trivial⟩⟩⟩)
theorem AcP {E_:Ev} {G_:Hp} {w_:World} (hS:Sat E_ G_ w_ []):Calls Try.prog 74 #[(.int .i64 (7))] w_ (Post Dg E_ G_ (Bi (Aq (7))) (BA (Aq (7))) (Bc (Aq (7)))):=
 F6 Dg Eg (I:=[]) Try.func74 mix (B:=AP Try.f74) (by kernel_rfl) [(.int .i64 (7))] [.no] (by kernel_rfl) (objs:=[]) (ros:=[]) (Eo A8 (FW)) (by kernel_rfl) (trivial) hS 400
  (t:=Tree.fresh λb=>Tree.br false (Tree.ret (Am (0:Int)) Ar [KC b 108 [(Am Aa.1,Ar),(Am Aa.2.1,Ar),(Am Aa.2.2.1,Ar),(Am Aa.2.2.2.1,Ar),(Am Aa.2.2.2.2.1,Ar),(Am Aa.2.2.2.2.2.1,Ar),(Am Aa.2.2.2.2.2.2.1,Ar),(Am Aa.2.2.2.2.2.2.2.1,Ar),(Am Aa.2.2.2.2.2.2.2.2,Ar)]]) (Tree.need ((0:Int)≤(7:Int)∧(7:Int)<(9:Int)) (Tree.ret (Am Aa.2.2.2.2.2.2.2.1) Ar [KC b 108 [(Am Aa.1,Ar),(Am Aa.2.1,Ar),(Am Aa.2.2.1,Ar),(Am Aa.2.2.2.1,Ar),(Am Aa.2.2.2.2.1,Ar),(Am Aa.2.2.2.2.2.1,Ar),(Am Aa.2.2.2.2.2.2.1,Ar),(Am Aa.2.2.2.2.2.2.2.1,Ar),(Am Aa.2.2.2.2.2.2.2.2,Ar)]])))
  (by kernel_rfl)
  (λb0_0=>⟨λz1=>DR.at (outf:=Bi) (nwf:=BA) (rowsf:=Bc) (r:=(0:Int)) (by first|exact Eq.symm ((cT z1).trans rfl)|(simp only [Aq,z1,cond_true,cond_false];done)|(exfalso;simp_all;done)|decide) ⟨[],[],(by decide),rfl,rfl,trivial⟩, λz1=>⟨by decide, λy2=>DR.at (outf:=Bi) (nwf:=BA) (rowsf:=Bc) (r:=Aa.2.2.2.2.2.2.2.1) (by first|exact Eq.symm ((cF z1).trans rfl)|(simp only [Aq,z1,cond_true,cond_false];done)|(exfalso;simp_all;done)|decide) ⟨[],[],(by decide),rfl,rfl,trivial⟩⟩⟩)
theorem AcQ {E_:Ev} {G_:Hp} {w_:World} (hS:Sat E_ G_ w_ []):Calls Try.prog 74 #[(.int .i64 (8))] w_ (Post Dg E_ G_ (Bi (Aq (8))) (BA (Aq (8))) (Bc (Aq (8)))):=
 F6 Dg Eg (I:=[]) Try.func74 mix (B:=AP Try.f74) (by kernel_rfl) [(.int .i64 (8))] [.no] (by kernel_rfl) (objs:=[]) (ros:=[]) (Eo A8 (FW)) (by kernel_rfl) (trivial) hS 400
  (t:=Tree.fresh λb=>Tree.br false (Tree.ret (Am (0:Int)) Ar [KC b 108 [(Am Aa.1,Ar),(Am Aa.2.1,Ar),(Am Aa.2.2.1,Ar),(Am Aa.2.2.2.1,Ar),(Am Aa.2.2.2.2.1,Ar),(Am Aa.2.2.2.2.2.1,Ar),(Am Aa.2.2.2.2.2.2.1,Ar),(Am Aa.2.2.2.2.2.2.2.1,Ar),(Am Aa.2.2.2.2.2.2.2.2,Ar)]]) (Tree.need ((0:Int)≤(8:Int)∧(8:Int)<(9:Int)) (Tree.ret (Am Aa.2.2.2.2.2.2.2.2) Ar [KC b 108 [(Am Aa.1,Ar),(Am Aa.2.1,Ar),(Am Aa.2.2.1,Ar),(Am Aa.2.2.2.1,Ar),(Am Aa.2.2.2.2.1,Ar),(Am Aa.2.2.2.2.2.1,Ar),(Am Aa.2.2.2.2.2.2.1,Ar),(Am Aa.2.2.2.2.2.2.2.1,Ar),(Am Aa.2.2.2.2.2.2.2.2,Ar)]])))
  (by kernel_rfl)
  (λb0_0=>⟨λz1=>DR.at (outf:=Bi) (nwf:=BA) (rowsf:=Bc) (r:=(0:Int)) (by first|exact Eq.symm ((cT z1).trans rfl)|(simp only [Aq,z1,cond_true,cond_false];done)|(exfalso;simp_all;done)|decide) ⟨[],[],(by decide),rfl,rfl,trivial⟩, λz1=>⟨by decide, λy2=>DR.at (outf:=Bi) (nwf:=BA) (rowsf:=Bc) (r:=Aa.2.2.2.2.2.2.2.2) (by first|exact Eq.symm ((cF z1).trans rfl)|(simp only [Aq,z1,cond_true,cond_false];done)|(exfalso;simp_all;done)|decide) ⟨[],[],(by decide),rfl,rfl,trivial⟩⟩⟩)
theorem WP {E_:Ev} {G_:Hp} {w_:World} (hc:¬(0≤k∧k<9)) (hS:Sat E_ G_ w_ []):Calls Try.prog 74 #[(.int .i64 k)] w_ (Post Dg E_ G_ (Bi (Aq k)) (BA (Aq k)) (Bc (Aq k))):=
 F6 Dg Eg (I:=[]) Try.func74 mix (B:=AP Try.f74) (by kernel_rfl) [(.int .i64 k)] [.no] (by kernel_rfl) (objs:=[]) (ros:=[]) (Eo A8 (FW)) (by kernel_rfl) (trivial) hS 26
  (t:=Tree.fresh λb=>Tree.br (decide (k<(0:Int))||decide (k≥(9:Int))) (Tree.ret (Am (0:Int)) Ar [KC b 108 [(Am Aa.1,Ar),(Am Aa.2.1,Ar),(Am Aa.2.2.1,Ar),(Am Aa.2.2.2.1,Ar),(Am Aa.2.2.2.2.1,Ar),(Am Aa.2.2.2.2.2.1,Ar),(Am Aa.2.2.2.2.2.2.1,Ar),(Am Aa.2.2.2.2.2.2.2.1,Ar),(Am Aa.2.2.2.2.2.2.2.2,Ar)]]) (Tree.need ((0:Int)≤k∧k<(9:Int)) (Tree.stuck [Ab.ops [0,1,1,1] 2,Ab.code [1,1,1,1]] [Iu 12 (kA (some (Addr.add {block:=b,off:=0} (jI k*1)))) (lG 0 (nW (0+jI k*1))),Iu 11 (Am k) Ar,Iu 10 (oM (decide (k<(0:Int))||decide (k≥(9:Int)))) Ar,eg_ 9 (7,false) (oM (decide (k≥(9:Int)))) Ar,eg_ 8 (7,false) (Am k) Ar,Iu 7 (oM (decide (k<(0:Int)))) Ar,Iu 6 (oM (decide (k<(0:Int)))) Ar,Iu 5 (Am k) Ar,Iu 3 (vp_ b) (pc_ 0 0),Iu 1000004 (oP {toList:=[]}) Ar,Iu 4 (Value.agg {toList:=[Am Aa.1,Am Aa.2.1,Am Aa.2.2.1,Am Aa.2.2.2.1,Am Aa.2.2.2.2.1,Am Aa.2.2.2.2.2.1,Am Aa.2.2.2.2.2.2.1,Am Aa.2.2.2.2.2.2.2.1,Am Aa.2.2.2.2.2.2.2.2]}) Ar,Iu 1000002 (oP {toList:=[]}) Ar,Iu 2 (Am (0:Int)) Ar,Iu 0 (Am k) Ar] [KC b 108 [(Am Aa.1,Ar),(Am Aa.2.1,Ar),(Am Aa.2.2.1,Ar),(Am Aa.2.2.2.1,Ar),(Am Aa.2.2.2.2.1,Ar),(Am Aa.2.2.2.2.2.1,Ar),(Am Aa.2.2.2.2.2.2.1,Ar),(Am Aa.2.2.2.2.2.2.2.1,Ar),(Am Aa.2.2.2.2.2.2.2.2,Ar)]])))
  (by kernel_rfl)
  (λb0_0=>⟨λz1=>DR.at (outf:=Bi) (nwf:=BA) (rowsf:=Bc) (r:=(0:Int)) (by first|exact Eq.symm ((cT z1).trans rfl)|(simp only [Aq,z1,cond_true,cond_false];done)|(exfalso;simp_all;done)|decide) ⟨[],[],(by decide),rfl,rfl,trivial⟩, λz1=>⟨by exfalso;simp at z1;omega, λy2=>(by exfalso;simp at z1;omega)⟩⟩)
theorem WQ {E_:Ev} {G_:Hp} {w_:World} (hS:Sat E_ G_ w_ []):Calls Try.prog 74 #[(.int .i64 k)] w_ (Post Dg E_ G_ (Bi (Aq k)) (BA (Aq k)) (Bc (Aq k))):=by
 by_cases hc:0≤k∧k<9
 ·rcases (by omega:k=0∨k=1∨k=2∨k=3∨k=4∨k=5∨k=6∨k=7∨k=8) with rfl|rfl|rfl|rfl|rfl|rfl|rfl|rfl|rfl
  ·exact AcI hS
  ·exact AcJ hS
  ·exact AcK hS
  ·exact AcL hS
  ·exact AcM hS
  ·exact AcN hS
  ·exact AcO hS
  ·exact AcP hS
  ·exact AcQ hS
 ·exact WP k hc hS
end
def N9:Entry Sg:= λ
 |[(.int .i64 k,_)]=>some ⟨(Aq k), λ(r_:Int)=>⟨[],none,[], λss=> .int .i64 (r_), λk_=> .no⟩⟩
 |_=>none
theorem AcR:F9 Dg Try.prog 74 N9:=by
 intro args c r h hr_
 unfold N9 at h
 split at h
 ·injection h with h;subst h;subst hr_
  refine ⟨λK acs _=>A8, λhpre E G w hi hS=>?_⟩
  exact Jj Dg (by exact rfl) (WQ _ hS)
 ·cases h
def TF:List (Nat×Entry Sg):=(74,N9)::TE
theorem OD:BO Dg Try.prog TF:=BO.cons Dg AcR Eg
def Em (s k:Int):Int:=(bif Aq k==(0:Int)||decide (s<(10:Int))||decide (s>(20:Int)) then (0:Int) else iO iB (↑(BitVec.toNat (oK 64 (iO iB (Int.tdiv (iO iB ((1:Int)*(2:Int)^min (jI s) 64)) (Aq k))) &&& ~~~oK 64 (15:Int))):Int))
def ML (r_:Int):List Value→Value:= λss=> .int .i64 (r_)
def NC (r_:Int):List (Chunk Sg):=[]
def LG (r_:Int):List (Mk Sg):=[]
section
variable (s k:Int)
theorem YP {E_:Ev} {G_:Hp} {w_:World} (hS:Sat E_ G_ w_ []):Calls Try.prog 43 #[(.int .i64 s),(.int .i64 k)] w_ (Post Dg E_ G_ (ML (Em s k)) (NC (Em s k)) (LG (Em s k))):=
 F6 Dg OD (I:=[]) Try.func43 mix (B:=AP Try.f43) (by kernel_rfl) [(.int .i64 s),(.int .i64 k)] [.no, .no] (by kernel_rfl) (objs:=[]) (ros:=[]) (Eo A8 (Eo A8 (FW))) (by kernel_rfl) (trivial) hS 400
  (t:=Tree.br (Aq k==(0:Int)||decide (s<(10:Int))||decide (s>(20:Int))) (Tree.ret (Am (0:Int)) Ar []) (Tree.need ((0:Int)≤s) (Tree.need (Aq k≠(0:Int)) (Tree.ret (Am (iO iB (↑(BitVec.toNat (oK 64 (iO iB (Int.tdiv (iO iB ((1:Int)*(2:Int)^min (jI s) 64)) (Aq k))) &&& ~~~oK 64 (15:Int))):Int))) Ar []))))
  (by kernel_rfl)
  (⟨λz0=>DR.at (outf:=ML) (nwf:=NC) (rowsf:=LG) (r:=(0:Int)) (by first|exact Eq.symm ((cT z0).trans rfl)|(simp only [Em,z0,cond_true,cond_false];done)|(exfalso;simp_all;done)|decide) ⟨[],[],(by decide),rfl,rfl,trivial⟩, λz0=>⟨by first|(simp only [kH,beq_eq_false_iff_ne,ne_eq,decide_eq_false_iff_not] at z0;omega)|omega, λy1=>⟨by first|(simp only [kH,beq_eq_false_iff_ne,ne_eq,decide_eq_false_iff_not] at z0;omega)|omega, λy2=>DR.at (outf:=ML) (nwf:=NC) (rowsf:=LG) (r:=iO iB (↑(BitVec.toNat (oK 64 (iO iB (Int.tdiv (iO iB ((1:Int)*(2:Int)^min (jI s) 64)) (Aq k))) &&& ~~~oK 64 (15:Int))):Int)) (by first|exact Eq.symm ((cF z0).trans rfl)|(simp only [Em,z0,cond_true,cond_false];done)|(exfalso;simp_all;done)|decide) ⟨[],[],(by decide),rfl,rfl,trivial⟩⟩⟩⟩)
end
def OE:Entry Sg:= λ
 |[(.int .i64 s,_),(.int .i64 k,_)]=>some ⟨(Em s k), λ(r_:Int)=>⟨[],none,[], λss=> .int .i64 (r_), λk_=> .no⟩⟩
 |_=>none
theorem Afo:F9 Dg Try.prog 43 OE:=by
 intro args c r h hr_
 unfold OE at h
 split at h
 ·injection h with h;subst h;subst hr_
  refine ⟨λK acs _=>A8, λhpre E G w hi hS=>?_⟩
  exact Jj Dg (by exact rfl) (YP _ _ hS)
 ·cases h
def Ve:List (Nat×Entry Sg):=(43,OE)::TF
theorem PD:BO Dg Try.prog Ve:=BO.cons Dg Afo OD
end
section
open Go.Sl
def GU (s:Int):LI:=bif Em s 0==0 then [] else (jQ 9).map λ(k:Nat)=>Em s k
abbrev Afp:Ct Sg:=⟨none,false,[.i .i64], .new 2 [some .i64]⟩
def TG:Entry Sg:=BU Afp GU (λ_=>[])
def TI (s:Int) (Q0:Int→Nat→LI→Prop) (R_:LI→Prop):Prop:=(AV (Em s (0:Int)==0) (R_ ([])) (Ap ((0:Int)≤9∧(9:Int)≤9∧(72:Int)≤140737488355328) (Q0 (0) (9) ([0,0,0,0,0,0,0,0,0]))))
def QM (s k:Int) (n:Nat) (xs:LI) (Q0:Int→Nat→LI→Prop) (R_:LI→Prop):Prop:=(AV (decide (k<9)) (Ap (0≤k∧k<(↑n:Int)) (Q0 (iO iB (k+1)) (n) (List.set xs (jI k) (Em s k)))) (R_ (xs)))
def GR (s k:Int) (n:Nat) (xs r_:LI):Prop:=n=9∧0≤k∧k≤9∧xs.length=9∧(∀j:Nat,j<k.toNat→xs.getD j 0=Em s j)∧r_=(jQ 9).map λ(k:Nat)=>Em s k
abbrev MM (p0:Addr) (s:Int):Hd Sg:=⟨none,[0,1,0,1,1,1],[.blk 0, .code [1,1,1,1]],[11,10,3,0],[.i .i64, .ic .i64 (9), .own 2 [some .i64], .ic .i64 (s)]⟩
theorem WR (s:Int):TI s (λk' n' xs'=>GR s k' n' xs' (GU s)) (λr__=>r__=(GU s)):=by
 unfold TI
 try unfold GR
 refine ⟨λh=>?_, λh=>⟨⟨by omega,by omega,of_decide_eq_true (by kernel_rfl)⟩, λ_=>⟨rfl,by omega,by omega,rfl, λj hj=>absurd hj (kB j),?_⟩⟩⟩
 ·simp only [GU,h,cond_true]
 ·simp only [GU,h,cond_false]
theorem WS (s k:Int) (n:Nat) (xs:LI) {r_:LI} (hI:GR s k n xs r_):QM s k n xs (λk' n' xs'=>GR s k' n' xs' r_∧lx ((9-k').toNat,0,0) ((9-k).toNat,0,0)) (λr__=>r__=r_):=by
 unfold GR at hI
 unfold QM
 try unfold GR
 obtain ⟨hn0,h0,h1,h2,h3,h4⟩:=hI
 refine ⟨λh=>?_, λh=>?_⟩
 ·simp only [decide_eq_true_eq] at h
  rw [Hm (by omega)]
  refine ⟨⟨h0,by omega⟩, λ_=>⟨⟨hn0,by omega,by omega,by simp [h2], λj hj=>?_,h4⟩,Bo⟩⟩
  rw [AoG _ _ _ _ (by omega)]
  by_cases hjk:j=k.toNat
  ·rw [if_pos hjk];congr 1;omega
  ·rw [if_neg hjk];exact h3 j (by omega)
 ·simp only [decide_eq_false_iff_not] at h
  rw [h4]
  apply YO (by simp [h2])
  intro j hj
  rw [AcG _ (by omega)]
  exact h3 j (by omega)
theorem AcS:DV 72 TG:=
 LC Dg PD (I:=[1643000000011,1643000000010,1643000000003,1643000000000]) Try.func72 mix (B:=AP Try.f72) (by kernel_rfl) rfl (by kernel_rfl) 400
  λp0 s hb hp=>⟨[MM p0 s], λj=>iN [Ag (Hd.kd (MM p0 s)) (λk' n' xs'=>GR s k' n' xs' (GU s))] j (λ_=>False), λj=>iN [Ag (Hd.kd (MM p0 s)) (λk' n' xs'=>((9-k').toNat,0,0))] j (λ_=>(0,0,0)),by kernel_rfl,⟨_, λ_ _ _=>by kernel_rfl,WR s⟩,⟨λk n xs hI=>⟨_, λ_ _ _=>by kernel_rfl,WS s k n xs hI⟩,trivial⟩⟩
def TJ:Tb:=(72,TG)::Ve
theorem OG:D7 TJ:=Ea AcS PD
def Ac (t p s:Int):Bool:=decide (t≥1)&&decide (t≤16)&&decide (p≥4)&&decide (p≤1024)&&decide (s≥10)&&decide (s≤20)
abbrev Ajh:Ct Sg:=⟨none,false,[.agg [.i .i64, .i .i64, .i .i64]], .b⟩
def Xq:Entry Sg:=BU Ajh Ac (λ_ _ _=>[])
theorem Aha:DV 45 Xq:=
 EL Dg OG (I:=[]) Try.func45 mix (B:=AP Try.f45) (by kernel_rfl) rfl (by kernel_rfl) 400
  λ_ t p s hb hp=>⟨(Ac t p s), .t, λ_ _ _=>by kernel_rfl,trivial,rfl⟩
def Xr:Tb:=(45,Xq)::TJ
theorem QN:D7 Xr:=Ea Aha OG
def BM (t p s:Int):Int:=bif !Ac t p s then 0 else 2^s.toNat
abbrev AlC:Ct Sg:=⟨none,false,[.agg [.i .i64, .i .i64, .i .i64]], .i .i64⟩
def AaF:Entry Sg:=BU AlC BM (λ_ _ _=>[])
def AaG (t p s:Int) (Q0:Int→Int→Prop) (R_:Int→Prop):Prop:=(AV (!Ac t p s) (R_ (0)) (Q0 (0) (1)))
def Xt (t p s i n:Int) (Q0:Int→Int→Prop) (R_:Int→Prop):Prop:=(AV (decide (i<s)) (Q0 (iO iB (i+1)) (iO iB (n*2))) (R_ (n)))
def IM (t p s i n r_:Int):Prop:=0≤i∧i≤s∧s≤20∧n=2^i.toNat∧r_=2^s.toNat
abbrev Qe (p0:Addr) (t p s:Int):Hd Sg:=⟨none,[0,1,0,1,1,1],[.blk 0, .code [1,1,1,1]],[4,3,1],[.i .i64, .i .i64, .box 23 [.ic .i64 (t), .ic .i64 (p), .ic .i64 (s)]]⟩
theorem AcT (t p s:Int):AaG t p s (λi' n'=>IM t p s i' n' (BM t p s)) (λr__=>r__=(BM t p s)):=by
 unfold AaG
 try unfold IM
 refine ⟨λh=>?_, λh=>?_⟩
 ·simp only [BM,h,cond_true]
 ·have hr:Ac t p s=true:=by simpa using h
  simp only [Ac,iE,decide_eq_true_eq] at hr
  refine ⟨by omega,by omega,by omega,rfl,?_⟩
  simp only [BM,h,cond_false]
theorem AcU (t p s i n:Int) {r_:Int} (hI:IM t p s i n r_):Xt t p s i n (λi' n'=>IM t p s i' n' r_∧lx ((s-i').toNat,0,0) ((s-i).toNat,0,0)) (λr__=>r__=r_):=by
 unfold IM at hI
 unfold Xt
 try unfold IM
 obtain ⟨h0,h1,h2,h3,h4⟩:=hI
 refine ⟨λh=>?_, λh=>?_⟩
 ·simp only [decide_eq_true_eq] at h
  have hp:=WG (show i.toNat+1≤20 by omega)
  have hq:=Sz i.toNat
  rw [Aex] at hp
  rw [Hm (by omega),Hm (by omega),AlB h0,Aex]
  exact ⟨⟨by omega,by omega,h2,by rw [h3],h4⟩,Bo⟩
 ·simp only [decide_eq_false_iff_not] at h
  rw [h3,h4,show i=s by omega]
theorem Aji:DV 50 AaF:=
 LC Dg QN (I:=[1643000000004,1643000000003,1643000000001]) Try.func50 mix (B:=AP Try.f50) (by kernel_rfl) rfl (by kernel_rfl) 400
  λp0 t p s hb hp=>⟨[Qe p0 t p s], λj=>iN [Ag (Hd.kd (Qe p0 t p s)) (λi' n'=>IM t p s i' n' (BM t p s))] j (λ_=>False), λj=>iN [Ag (Hd.kd (Qe p0 t p s)) (λi' n'=>((s-i').toNat,0,0))] j (λ_=>(0,0,0)),by kernel_rfl,⟨_, λ_ _ _=>by kernel_rfl,AcT t p s⟩,⟨λi n hI=>⟨_, λ_ _ _=>by kernel_rfl,AcU t p s i n hI⟩,trivial⟩⟩
def AaH:Tb:=(50,AaF)::Xr
theorem TK:D7 AaH:=Ea Aji QN
def HY (k:Int):Int:=(bif k==0 then 32 else (bif k==1 then 21 else (bif k==2 then 16 else (bif k==3 then 10 else (bif k==4 then 8 else (bif k==5 then 5 else (bif k==6 then 4 else (bif k==7 then 3 else (bif k==8 then 2 else 0)))))))))
abbrev Ajj:Ct Sg:=⟨none,false,[.i .i64], .i .i64⟩
def Xu:Entry Sg:=BU Ajj HY (λ_=>[])
theorem Ahb:DV 76 Xu:=
 EL Dg TK (I:=[]) Try.func76 mix (B:=AP Try.f76) (by kernel_rfl) rfl (by kernel_rfl) 400
  λ_ k hb hp=>⟨(HY k), .t, λ_ _ _=>by kernel_rfl,trivial,rfl⟩
def Xv:Tb:=(76,Xu)::AaH
theorem QO:D7 Xv:=Ea Ahb TK
def Eh (s k:Int):Int:=(bif HY k==0||BM 1 4 s==0 then 0 else iO iB (iO iB (Int.tdiv (BM 1 4 s) (HY k))-Int.tmod (iO iB (Int.tdiv (BM 1 4 s) (HY k))) 16))
abbrev AlD:Ct Sg:=⟨none,false,[.i .i64, .i .i64], .i .i64⟩
def AaI:Entry Sg:=BU AlD Eh (λ_ _=>[])
theorem Ajk:DV 48 AaI:=
 EL Dg QO (I:=[]) Try.func48 mix (B:=AP Try.f48) (by kernel_rfl) rfl (by kernel_rfl) 400
  λ_ s k hb hp=>⟨(Eh s k),(.br (HY k==0||BM 1 4 s==0) .t (.need (HY k≠0) .t)), λ_ _ _=>by kernel_rfl,⟨λz0=>trivial, λz0=>⟨(by first|(simp only [kH,beq_eq_false_iff_ne,ne_eq] at z0;omega)|omega), λz1=>trivial⟩⟩,rfl⟩
def AaJ:Tb:=(48,AaI)::Xv
theorem TL:D7 AaJ:=Ea Ajk QO
theorem AlE:∀i:Nat,i<11→∀k:Nat,k<9→Em (10+(i:Int)) (k:Int)=Eh (10+(i:Int)) (k:Int)∧0<Eh (10+(i:Int)) (k:Int):=by decide+kernel
theorem Ahc {s:Int}:(BM 1 4 s==0)=decide (s<10∨20<s):=by
 by_cases h:s<10∨20<s
 ·have:Ac 1 4 s=false:=by
   simp only [Ac,kI,decide_eq_false_iff_not];omega
  simp [BM,this,h]
 ·have:Ac 1 4 s=true:=by
   simp only [Ac,iE,decide_eq_true_eq];omega
  have:=Sz s.toNat
  simp only [BM, *,kL,cond_false,decide_false]
  simp;omega
theorem OH {k:Int}:(Aq k==0)=decide (k<0∨9≤k):=by
 by_cases h:k<0∨9≤k
 ·have:(decide (k<0)||decide (k≥9))=true:=by simpa using h
  simp [Aq,this,h]
 ·rcases (by omega:k=0∨k=1∨k=2∨k=3∨k=4∨k=5∨k=6∨k=7∨k=8) with rfl|rfl|rfl|rfl|rfl|rfl|rfl|rfl|rfl<;>decide
theorem AlF (k:Int):Aq k=HY k:=by
 by_cases h:k<0∨9≤k
 ·have:(decide (k<0)||decide (k≥9))=true:=by simpa using h
  have e:∀n:Int,0≤n→n<9→(k==n)=false:= λn h0 h1=>by simp;omega
  simp [Aq,HY,this,e]
 ·rcases (by omega:k=0∨k=1∨k=2∨k=3∨k=4∨k=5∨k=6∨k=7∨k=8) with rfl|rfl|rfl|rfl|rfl|rfl|rfl|rfl|rfl<;>decide
theorem LH {s k:Int} (h:k<0∨9≤k∨s<10∨20<s):Em s k=0∧Eh s k=0:=by
 have h1:(Aq k==0||decide (s<10)||decide (s>20))=true:=by
  rw [OH];simp only [lU,decide_eq_true_eq];omega
 have h2:(HY k==0||BM 1 4 s==0)=true:=by
  rw [←AlF,OH,Ahc];simp only [lU,decide_eq_true_eq];omega
 exact ⟨by simp only [Em,h1,cond_true],by simp only [Eh,h2,cond_true]⟩
theorem AcV {s k:Int} (h:0≤k∧k<9∧10≤s∧s≤20):Em s k=Eh s k∧0<Eh s k:=by
 have:=AlE (s-10).toNat (by omega) k.toNat (by omega)
 rwa [show (10+((s-10).toNat:Int))=s by omega,show ((k.toNat:Nat):Int)=k by omega] at this
theorem Aey (s k:Int):Em s k=Eh s k:=by
 by_cases h:0≤k∧k<9∧10≤s∧s≤20
 ·exact (AcV h).1
 ·obtain ⟨h1,h2⟩:=LH (s:=s) (k:=k) (by omega);rw [h1,h2]
theorem S9 {s k:Int} (h:0≤k∧k<9):0<Eh s k↔10≤s∧s≤20:=by
 constructor
 ·intro h1
  apply Classical.byContradiction
  intro h2
  have:=(LH (s:=s) (k:=k) (by omega)).2
  omega
 ·intro h1;exact (AcV (by omega)).2
theorem Ajl (s k:Int):0≤Eh s k:=by
 by_cases h:0≤k∧k<9∧10≤s∧s≤20
 ·have:=(AcV h).2;omega
 ·have:=(LH (s:=s) (k:=k) (by omega)).2;omega
def EO (s:Int):LI:=bif Eh s 0==0 then [] else (jQ 9).map λ(k:Nat)=>Eh s k
abbrev Ajm:Ct Sg:=⟨none,false,[.i .i64], .new 2 [some .i64]⟩
def Xw:Entry Sg:=BU Ajm EO (λ_=>[])
def Xx (s:Int) (Q0:Int→Nat→LI→Prop) (R_:LI→Prop):Prop:=(Q0 (0) (0) ([]))
def Vf (s k:Int) (n:Nat) (xs:LI) (Q0:Int→Nat→LI→Prop) (R_:LI→Prop):Prop:=(AV (decide (k<9)&&decide (Eh s k>0)) (Ap ((n+1)*8≤140737488355328) (Q0 (iO iB (k+1)) (n+1) (xs++[Eh s k]))) (R_ (xs)))
def Il (s k:Int) (n:Nat) (xs r_:LI):Prop:=0≤k∧k≤9∧n=k.toNat∧xs=(jQ n).map (λ(k:Nat)=>Eh s k)∧(0<k→0<Eh s 0)∧r_=bif Eh s 0==0 then [] else (jQ 9).map λ(k:Nat)=>Eh s k
abbrev OI (p0:Addr) (s:Int):Hd Sg:=⟨none,[0,1,0,1,1],[.blk 0, .code [1,1,1]],[4,3,0],[.i .i64, .own 2 [some .i64], .ic .i64 (s)]⟩
theorem AaK (s:Int):Xx s (λk' n' xs'=>Il s k' n' xs' (EO s)) (λr__=>r__=(EO s)):=by
 unfold Xx
 try unfold Il
 exact ⟨by omega,by omega,rfl,rfl, λh=>absurd h (by omega),rfl⟩
theorem AaL (s k:Int) (n:Nat) (xs:LI) {r_:LI} (hI:Il s k n xs r_):Vf s k n xs (λk' n' xs'=>Il s k' n' xs' r_∧lx ((9-k').toNat,0,0) ((9-k).toNat,0,0)) (λr__=>r__=r_):=by
 unfold Il at hI
 unfold Vf
 try unfold Il
 obtain ⟨h0,h1,h2,h3,h4,h5⟩:=hI
 refine ⟨λh=>⟨by omega, λ_=>?_⟩, λh=>?_⟩
 ·simp only [iE,decide_eq_true_eq] at h
  rw [Hm (by omega)]
  refine ⟨⟨by omega,by omega,by omega,?_, λ_=>?_,h5⟩,Bo⟩
  ·rw [AlA,h3,h2,show ((k.toNat:Nat):Int)=k by omega]
  ·exact (S9 (by omega)).2 ((S9 (k:=k) (by omega)).1 h.2)
 ·show xs=r_
  simp only [kI,decide_eq_false_iff_not] at h
  by_cases hk:k=0
  ·have hz:Eh s 0=0:=by
    have:=Ajl s 0
    subst hk
    omega
   rw [h5,h3,h2,hk];simp [hz]
  ·have hp:=h4 (by omega)
   have hp2:=(S9 (s:=s) (k:=0) (by omega)).1 hp
   have hk9:k=9:=by
    apply Classical.byContradiction
    intro hn
    have:=(S9 (s:=s) (k:=k) (by omega)).2 hp2
    omega
   rw [h5,h3,h2,hk9]
   have:(Eh s 0==0)=false:=by simp;omega
   rw [this];rfl
theorem Ahd:DV 75 Xw:=
 LC Dg TL (I:=[411000000004,411000000003,411000000000]) Try.func75 mix (B:=AP Try.f75) (by kernel_rfl) rfl (by kernel_rfl) 400
  λp0 s hb hp=>⟨[OI p0 s], λj=>iN [Ag (Hd.kd (OI p0 s)) (λk' n' xs'=>Il s k' n' xs' (EO s))] j (λ_=>False), λj=>iN [Ag (Hd.kd (OI p0 s)) (λk' n' xs'=>((9-k').toNat,0,0))] j (λ_=>(0,0,0)),by kernel_rfl,⟨_, λ_ _ _=>by kernel_rfl,AaK s⟩,⟨λk n xs hI=>⟨_, λ_ _ _=>by kernel_rfl,AaL s k n xs hI⟩,trivial⟩⟩
def Xy:Tb:=(75,Xw)::AaJ
theorem QP:D7 Xy:=Ea Ahd TL
def MN (l:LI) (z:Int):Option Nat:=l.findIdx? λn=>decide (n≥z)
theorem Vg {l:LI} {z:Int} {i:Nat}:MN l z=some i↔i<l.length∧l.getD i 0≥z∧∀j,j<i→¬(l.getD j 0≥z):=by
 have e:∀j (h:j<l.length),l.getD j 0=l[j]:= λj h=>by rw [iC,iK h];rfl
 unfold MN
 rw [lQ]
 constructor
 ·rintro ⟨h,h1,h2⟩
  refine ⟨h,by rw [e _ h];simpa using h1, λj hj=>?_⟩
  rw [e _ (by omega)];simpa using h2 j hj
 ·rintro ⟨h,h1,h2⟩
  refine ⟨h,by rw [e _ h] at h1;simpa using h1, λj hj=>?_⟩
  have:=h2 j hj
  rw [e _ (by omega)] at this;simpa using this
theorem Vh {l:LI} {z:Int}:MN l z=none↔∀j,j<l.length→¬(l.getD j 0≥z):=by
 have e:∀j (h:j<l.length),l.getD j 0=l[j]:= λj h=>by rw [iC,iK h];rfl
 unfold MN
 rw [mQ]
 constructor
 ·intro h j hj
  have:=h _ (nV hj)
  rw [e _ hj];simpa using this
 ·intro h x hx
  obtain ⟨j,hj,rfl⟩:=nY hx
  have:=h j hj
  rw [e _ hj] at this;simpa using this
def AfZ:Option Nat→Int×Bool
 |some k=>((k:Int),true)
 |none=>(0,false)
theorem Afq (s:Int):(EO s).length≤9:=by
 unfold EO;cases (Eh s 0==0)<;>simp
def Jq (s z:Int):Int×Bool:=bif decide (z<1) then (0,false) else AfZ (MN (EO s) z)
abbrev AoH:Ct Sg:=⟨none,false,[.i .i64, .i .i64], .tup [.i .i64, .b]⟩
def Ahe:Entry Sg:=BU AoH Jq (λ_ _=>[])
def Ahf (s z:Int) (Q0:Int→Nat→LI→Prop) (R_:Int×Bool→Prop):Prop:=(∀r0:LI,r0=(EO s)→(Q0 (0) (iH r0) (r0)))
def Aez (s z k:Int) (n:Nat) (xs:LI) (Q0:Int→Nat→LI→Prop) (R_:Int×Bool→Prop):Prop:=(AV (decide (k<(↑n:Int))&&decide (z≥1)) (Ap (0≤k∧k<(↑n:Int)) (AV (decide (iN xs (jI k) 0≥z)) (R_ ((k,true))) (Q0 (iO iB (k+1)) (n) (xs)))) (R_ ((0,false))))
def JF (s z k:Int) (n:Nat) (xs:LI) (r_:Int×Bool):Prop:=n=xs.length∧xs=EO s∧0≤k∧k≤(EO s).length∧(∀j:Nat,j<k.toNat→¬((EO s).getD j 0≥z))∧r_=Jq s z
abbrev Vj (p0:Addr) (s z:Int):Hd Sg:=⟨none,[0,1,0,1,1],[.blk 0, .code [1,1,1]],[7,6,1],[.i .i64, .own 2 [some .i64], .ic .i64 (z)]⟩
theorem Ahg (s z:Int):Ahf s z (λk' n' xs'=>JF s z k' n' xs' (Jq s z)) (λr__=>r__=(Jq s z)):=by
 unfold Ahf
 try unfold JF
 rintro _ rfl
 exact ⟨rfl,rfl,by omega,by omega, λj hj=>absurd hj (kB j),rfl⟩
theorem Ahh (s z k:Int) (n:Nat) (xs:LI) {r_:Int×Bool} (hI:JF s z k n xs r_):Aez s z k n xs (λk' n' xs'=>JF s z k' n' xs' r_∧lx (((EO s).length-k').toNat,0,0) (((EO s).length-k).toNat,0,0)) (λr__=>r__=r_):=by
 unfold JF at hI
 unfold Aez
 try unfold JF
 obtain ⟨rfl,rfl,h0,h1,h2,h3⟩:=hI
 have hl:=Afq s
 refine ⟨λh=>?_, λh=>?_⟩
 ·simp only [iE,decide_eq_true_eq] at h
  have hz:decide (z<1)=false:=by simp;omega
  refine ⟨by omega, λ_=>⟨λhg=>?_, λhg=>?_⟩⟩
  ·simp only [decide_eq_true_eq] at hg
   have:=Vg.2 ⟨by omega,hg,h2⟩
   show (k,true)=r_
   simp only [h3,Jq,hz,this,cond_false,AfZ]
   rw [show ((k.toNat:Nat):Int)=k by omega]
  ·simp only [decide_eq_false_iff_not] at hg
   rw [Hm (by omega)]
   refine ⟨⟨rfl,rfl,by omega,by omega, λj hj=>?_,h3⟩,Bo⟩
   by_cases hk:j=k.toNat
   ·subst hk;exact hg
   ·exact h2 j (by omega)
 ·simp only [kI,decide_eq_false_iff_not] at h
  show ((0:Int),false)=r_
  rw [h3]
  by_cases hz:z<1
  ·simp [Jq,hz]
  ·have:=Vh (l:=EO s) (z:=z) |>.2 λj hj=>h2 j (by omega)
   simp [Jq,hz,this,AfZ]
theorem Anl:DV 47 Ahe:=
 LC Dg QP (I:=[411000000007,411000000006,411000000001]) Try.func47 mix (B:=AP Try.f47) (by kernel_rfl) rfl (by kernel_rfl) 400
  λp0 s z hb hp=>⟨[Vj p0 s z], λj=>iN [Ag (Hd.kd (Vj p0 s z)) (λk' n' xs'=>JF s z k' n' xs' (Jq s z))] j (λ_=>False), λj=>iN [Ag (Hd.kd (Vj p0 s z)) (λk' n' xs'=>(((EO s).length-k').toNat,0,0))] j (λ_=>(0,0,0)),by kernel_rfl,⟨_, λ_ _ _=>by kernel_rfl,Ahg s z⟩,⟨λk n xs hI=>⟨_, λ_ _ _=>by kernel_rfl,Ahh s z k n xs hI⟩,trivial⟩⟩
def Ahi:Tb:=(47,Ahe)::Xy
theorem Xz:D7 Ahi:=Ea Anl QP
end
section
open Go.Sl
def GZ (n z:Int):Bool:=decide (n≥z)
def TM (r_:Bool):List Value→Value:= λss=> .bool (r_)
def Vk (r_:Bool):List (Chunk Sg):=[]
def QQ (r_:Bool):List (Mk Sg):=[]
section
variable (n z:Int) (b_0:Nat)
theorem AaM {E_:Ev} {G_:Hp} {w_:World} (hr0:G_ b_0=some (.cells ([.int .i64 z]:List Value).toArray 2 (0,0))) (hS:Sat E_ G_ w_ []):Calls Try.prog 73 #[(.int .i64 n),(.pointer (some ⟨b_0,0,none⟩))] w_ (Post Dg E_ G_ (TM (GZ n z)) (Vk (GZ n z)) (QQ (GZ n z))):=
 F6 Dg Xz (I:=[]) Try.func73 mix (B:=AP Try.f73) (by kernel_rfl) [(.int .i64 n),(.pointer (some ⟨b_0,0,none⟩))] [.no, .pt 0 (.cell 0)] (by kernel_rfl) (objs:=[]) (ros:=[.roc b_0 2 [.int .i64 z]]) (Eo A8 (Eo (AgG rfl rfl) (FW))) (by kernel_rfl) (⟨hr0,trivial⟩) hS 400
  (t:=Tree.ret (oM (decide (n≥z))) Ar [Chunk.roc b_0 2 [Am z]])
  (by kernel_rfl)
  (DR.at (outf:=TM) (nwf:=Vk) (rowsf:=QQ) (r:=decide (n≥z)) (by first|exact Eq.symm rfl|(simp only [GZ,cond_true,cond_false];done)|(exfalso;simp_all;done)|decide) ⟨[],[],(by decide),rfl,rfl,trivial⟩)
end
def Qg:Entry Sg:= λ
 |[(.int .i64 n,_),(_, .cells 2 [.int .i64 z])]=>some ⟨(GZ n z), λ(r_:Bool)=>⟨[],none,[], λss=> .bool (r_), λk_=> .no⟩⟩
 |_=>none
theorem Ahj:F9 Dg Try.prog 73 Qg:=by
 intro args c r h hr_
 unfold Qg at h
 split at h
 ·injection h with h;subst h;subst hr_
  refine ⟨λK acs _=>A8, λhpre E G w hi hS=>?_⟩
  have hi_0:=hi _ (iV (i:=1) rfl)
  simp only [EC] at hi_0
  obtain ⟨b_0,e_0,hr0⟩:=hi_0
  subst e_0
  exact Jj Dg (by exact rfl) (AaM _ _ _ hr0 hS)
 ·cases h
def X0:List (Nat×Entry Sg):=(73,Qg)::Ahi
theorem MO:BO Dg Try.prog X0:=BO.cons Dg Ahj Xz
def LJ:Option Nat→Int
 |some k=>(k:Int)
 |none=> -1
def AaN:List Nat:=[103000000008,103000000007,103000000000,103000000001]
def Ih (xs:LI) (z:Int):Int:=LJ (MN xs z)
def Gi (r_:Int):List Value→Value:= λss=> .int .i64 (r_)
def G6 (r_:Int):List (Chunk Sg):=[]
def FI (r_:Int):List (Mk Sg):=[]
section
variable (xs:LI) (z:Int) (a_0:Option Addr) (c_0 b_1:Nat)
abbrev Jl:Type:=Int→Prop
abbrev Oe (xs:LI) (z:Int) (a_0:Option Addr) (c_0 b_1:Nat) (i:Int):List Ak:=[⟨8,none, .int .i64 i, .no⟩,⟨7,none, .int .i64 xs.length, .no⟩,⟨0,none, .slice a_0 xs.length c_0, .pt 0 .slice⟩,⟨1,none, .func (.func 73) #[] #[.pointer (some ⟨b_1,0,none⟩)], .many [.pt 1 (.cell 0)]⟩]
abbrev Og (xs:LI) (z:Int) (a_0:Option Addr) (c_0 b_1:Nat) (i:Int):List (Chunk Sg):=[.ro a_0 xs.length c_0 [.ints .i64 xs], .roc b_1 2 [.int .i64 z]]
abbrev PE (E_:Ev) (G_:Hp) (xs:LI) (z:Int) (a_0:Option Addr) (c_0 b_1:Nat) (r_:Int) (Q1:Jl):Prop:=(∀(i:Int),Q1 i→Sl.SW Dg Try.prog (71:FuncId) (Post Dg E_ G_ (Gi r_) (G6 r_) (FI r_)) (AP Try.f71) Try.f71.ntmps E_ G_ (.code (0::[0,1,0,1]):: .again [0,1,0,1]::[.blk 0, .code [1,1]]) (Oe xs z a_0 c_0 b_1 i) (Og xs z a_0 c_0 b_1 i))
abbrev Nh (xs:LI) (z:Int) (a_0:Option Addr) (c_0 b_1:Nat) (Q1:Jl) (R_:Int→Prop):Prop:=(Q1 ((0:Int)))
abbrev AaO (xs:LI) (z:Int) (a_0:Option Addr) (c_0 b_1:Nat):Tree Sg:=Tree.stuck [Ab.code [0,1,0,1],Ab.blk 0,Ab.code [1,1]] [Iu 8 (Am (0:Int)) Ar,Iu 7 (Am (↑(iH xs):Int)) Ar,Iu 0 (kY a_0 (iH xs) c_0) (ps_ 0),Iu 1 (lX (Fn.func 73) {toList:=[]} {toList:=[vp_ b_1]}) (Pr.many [pc_ 1 0])] [Chunk.ro a_0 (iH xs) c_0 [ci_ xs],Chunk.roc b_1 2 [Am z]]
theorem Ajn {E_:Ev} {G_:Hp} {r_:Int} {Q1:Jl} (hQ:PE E_ G_ xs z a_0 c_0 b_1 r_ Q1) (h:Nh xs z a_0 c_0 b_1 Q1 (λx=>x=r_)):(AaO xs z a_0 c_0 b_1).holds (DR (Gi r_) (G6 r_) (FI r_)) (Sl.SW Dg Try.prog (71:FuncId) (Post Dg E_ G_ (Gi r_) (G6 r_) (FI r_)) (AP Try.f71) Try.f71.ntmps E_ G_):=
 Sl.SW.move Dg [8,7,0,1] [0,1] (by decide) (by kernel_rfl) (by kernel_rfl) (Sl.SW.enter Dg (by kernel_rfl) (hQ ((0:Int)) h))
abbrev Nj (xs:LI) (z:Int) (a_0:Option Addr) (c_0 b_1:Nat) (i:Int) (Q1:Jl) (R_:Int→Prop):Prop:=(((decide (i<(↑(iH xs):Int)))=true→(((0:Int)≤i∧i<(↑(iH xs):Int))∧(((0:Int)≤i∧i<(↑(iH xs):Int))→(((GZ (iN xs (jI i) (0:Int)) z)=true→(R_ (i)))∧((GZ (iN xs (jI i) (0:Int)) z)=false→(Q1 (iO iB (i+(1:Int)))))))))∧((decide (i<(↑(iH xs):Int)))=false→(R_ ((-1:Int)))))
abbrev AaP (xs:LI) (z:Int) (a_0:Option Addr) (c_0 b_1:Nat) (i:Int):Tree Sg:=Tree.br (decide (i<(↑(iH xs):Int))) (Tree.need ((0:Int)≤i∧i<(↑(iH xs):Int)) (Tree.br (GZ (iN xs (jI i) (0:Int)) z) (Tree.ret (Am i) Ar [Chunk.ro a_0 (iH xs) c_0 [ci_ xs],Chunk.roc b_1 2 [Am z]]) (Tree.stuck [Ab.again [0,1,0,1],Ab.blk 0,Ab.code [1,1]] [Iu 8 (Am (iO iB (i+(1:Int)))) Ar,Iu 18 (Am (iO iB (i+(1:Int)))) Ar,Iu 16 (oM (GZ (iN xs (jI i) (0:Int)) z)) Ar,Iu 15 (Am (iN xs (jI i) (0:Int))) Ar,Iu 14 (kA (mJ (λa=>Addr.add a (jI i*1)) a_0)) (lG 0 (PK.elem (jI i) 0)),Iu 13 (Am i) Ar,Iu 12 (kY a_0 (iH xs) c_0) (ps_ 0),Iu 11 (lX (Fn.func 73) {toList:=[]} {toList:=[vp_ b_1]}) (Pr.many [pc_ 1 0]),Iu 5 (Am i) Ar,Iu 10 (Am i) Ar,Iu 9 (oM (decide (i<(↑(iH xs):Int)))) Ar,Iu 7 (Am (↑(iH xs):Int)) Ar,Iu 0 (kY a_0 (iH xs) c_0) (ps_ 0),Iu 1 (lX (Fn.func 73) {toList:=[]} {toList:=[vp_ b_1]}) (Pr.many [pc_ 1 0])] [Chunk.ro a_0 (iH xs) c_0 [ci_ xs],Chunk.roc b_1 2 [Am z]]))) (Tree.ret (Am (-1:Int)) Ar [Chunk.ro a_0 (iH xs) c_0 [ci_ xs],Chunk.roc b_1 2 [Am z]])
theorem Ajo {E_:Ev} {G_:Hp} (i:Int) {r_:Int} {Q1:Jl} (hQ:PE E_ G_ xs z a_0 c_0 b_1 r_ Q1) (h:Nj xs z a_0 c_0 b_1 i Q1 (λx=>x=r_)):(AaP xs z a_0 c_0 b_1 i).holds (DR (Gi r_) (G6 r_) (FI r_)) (Sl.SW Dg Try.prog (71:FuncId) (Post Dg E_ G_ (Gi r_) (G6 r_) (FI r_)) (AP Try.f71) Try.f71.ntmps E_ G_):=
 ⟨λz0=>⟨(h.1 z0).1, λz1=>⟨λz2=>DR.at (outf:=Gi) (nwf:=G6) (rowsf:=FI) (r:=i) (((h.1 z0).2 z1).1 z2) ⟨[],[],(by decide),rfl,rfl,trivial⟩, λz2=>Sl.SW.move Dg [8,7,0,1] [0,1] (by decide) (by kernel_rfl) (by kernel_rfl) (Sl.SW.again Dg (hQ (iO iB (i+(1:Int))) (((h.1 z0).2 z1).2 z2)))⟩⟩, λz0=>DR.at (outf:=Gi) (nwf:=G6) (rowsf:=FI) (r:=(-1:Int)) (h.2 z0) ⟨[],[],(by decide),rfl,rfl,trivial⟩⟩
theorem Ajp {E_:Ev} {G_:Hp} (i:Int) {r_:Int} {Q1:Jl} (hQ:PE E_ G_ xs z a_0 c_0 b_1 r_ Q1) (h:Nj xs z a_0 c_0 b_1 i Q1 (λx=>x=r_)):Sl.SW Dg Try.prog (71:FuncId) (Post Dg E_ G_ (Gi r_) (G6 r_) (FI r_)) (AP Try.f71) Try.f71.ntmps E_ G_ (.code (0::[0,1,0,1]):: .again [0,1,0,1]::[.blk 0, .code [1,1]]) (Oe xs z a_0 c_0 b_1 i) (Og xs z a_0 c_0 b_1 i):=
 Sl.SW.go Dg MO (I:=AaN) Try.func71 mix 400 (t:=AaP xs z a_0 c_0 b_1 i) (by kernel_rfl) (Ajo xs z a_0 c_0 b_1 i hQ h)
theorem Afr {E_:Ev} {G_:Hp} {w_:World} (hr0:Ef G_ a_0 xs.length [.ints .i64 xs]∧xs.length≤c_0) (hr1:G_ b_1=some (.cells ([.int .i64 z]:List Value).toArray 2 (0,0))) {r_:Int} {Q1:Jl} (hQ:PE E_ G_ xs z a_0 c_0 b_1 r_ Q1) (hS:Sat E_ G_ w_ []) (h:Nh xs z a_0 c_0 b_1 Q1 (λx=>x=r_)):Calls Try.prog 71 #[(.slice a_0 xs.length c_0),(.func (.func 73) #[] #[.pointer (some ⟨b_1,0,none⟩)])] w_ (Post Dg E_ G_ (Gi r_) (G6 r_) (FI r_)):=
 F6 Dg MO (I:=AaN) Try.func71 mix (B:=AP Try.f71) (by kernel_rfl) [(.slice a_0 xs.length c_0),(.func (.func 73) #[] #[.pointer (some ⟨b_1,0,none⟩)])] [.pt 0 .slice, .many [.pt 1 (.cell 0)]] (by kernel_rfl) (objs:=[]) (ros:=[.ro a_0 xs.length c_0 [.ints .i64 xs], .roc b_1 2 [.int .i64 z]]) (Eo (AgG rfl rfl) (Eo (Ao8 (Eo (AgG rfl rfl) (FW))) (FW))) (by kernel_rfl) (⟨hr0,hr1,trivial⟩) hS 400
  (t:=AaO xs z a_0 c_0 b_1)
  (by kernel_rfl)
  (Ajn xs z a_0 c_0 b_1 hQ h)
def Je (xs:LI) (z:Int) (a_0:Option Addr) (c_0 b_1:Nat) (i r_:Int):Prop:=0≤i∧i≤xs.length∧(∀j:Nat,j<i.toNat→¬(xs.getD j 0≥z))∧r_=Ih xs z∧xs.length≤9223372036854775807
theorem Ahk (i:Int) {r_:Int} (hI:Je xs z a_0 c_0 b_1 i r_):Nj xs z a_0 c_0 b_1 i (λi'=>Je xs z a_0 c_0 b_1 i' r_∧((xs.length-i').toNat)<((xs.length-i).toNat)) (λx=>x=r_):=by
 unfold Je at hI
 unfold Nj Je
 obtain ⟨h0,h1,h2,h3,hl⟩:=hI
 refine ⟨λh=>?_, λh=>?_⟩
 ·simp only [decide_eq_true_eq] at h
  refine ⟨by omega, λ_=>⟨λhg=>?_, λhg=>?_⟩⟩
  ·simp only [GZ,decide_eq_true_eq] at hg
   have:=Vg.2 ⟨by omega,hg,h2⟩
   show i=r_
   simp only [h3,Ih,this,LJ]
   omega
  ·simp only [GZ,decide_eq_false_iff_not] at hg
   rw [Hm (by omega)]
   refine ⟨⟨by omega,by omega, λj hj=>?_,h3,hl⟩,by omega⟩
   by_cases hk:j=i.toNat
   ·subst hk;exact hg
   ·exact h2 j (by omega)
 ·simp only [decide_eq_false_iff_not] at h
  show (-1:Int)=r_
  have:=Vh (l:=xs) (z:=z) |>.2 λj hj=>h2 j (by omega)
  simp only [h3,Ih,this,LJ]
theorem Ahl {E_:Ev} {G_:Hp} {r_:Int}:∀s_:Int,Je xs z a_0 c_0 b_1 s_ r_→Sl.SW Dg Try.prog (71:FuncId) (Post Dg E_ G_ (Gi r_) (G6 r_) (FI r_)) (AP Try.f71) Try.f71.ntmps E_ G_ (.code (0::[0,1,0,1]):: .again [0,1,0,1]::[.blk 0, .code [1,1]]) (Oe xs z a_0 c_0 b_1 s_) (Og xs z a_0 c_0 b_1 s_):=
 Sl.SW.loop Dg (α:=Int) (λs_=>Oe xs z a_0 c_0 b_1 s_) (λs_=>Og xs z a_0 c_0 b_1 s_) (λs_=>(xs.length-s_).toNat) (λs_=>Je xs z a_0 c_0 b_1 s_ r_) (λi hI ih=>Ajp xs z a_0 c_0 b_1 i (λi' h=>ih i' h.1 h.2) (Ahk xs z a_0 c_0 b_1 i hI))
theorem Afs (hl0:xs.length≤9223372036854775807):Nh xs z a_0 c_0 b_1 (λi=>Je xs z a_0 c_0 b_1 i (Ih xs z)) (λx=>x=(Ih xs z)):=by
 unfold Nh Je
 exact ⟨by omega,by omega, λj hj=>absurd hj (kB j),rfl,hl0⟩
theorem Aft {E_:Ev} {G_:Hp} {w_:World} (hr0:Ef G_ a_0 xs.length [.ints .i64 xs]∧xs.length≤c_0) (hr1:G_ b_1=some (.cells ([.int .i64 z]:List Value).toArray 2 (0,0))) (hS:Sat E_ G_ w_ []):Calls Try.prog 71 #[(.slice a_0 xs.length c_0),(.func (.func 73) #[] #[.pointer (some ⟨b_1,0,none⟩)])] w_ (Post Dg E_ G_ (Gi (Ih xs z)) (G6 (Ih xs z)) (FI (Ih xs z))):=
 Afr xs z a_0 c_0 b_1 hr0 hr1 (λi h=>Ahl xs z a_0 c_0 b_1 i h) hS (Afs xs z a_0 c_0 b_1 hr0.1.bound)
end
def Vl:Entry Sg:= λ
 |[(_, .row n_0 [.ints .i64 xs]),(.func (.func 73) ⟨[]⟩ ⟨[_]⟩, .many [.cells 2 [.int .i64 z]])]=>some ⟨(Ih xs z), λ(r_:Int)=>⟨[],none,[], λss=> .int .i64 (r_), λk_=> .no⟩⟩
 |_=>none
theorem AlG:F9 Dg Try.prog 71 Vl:=by
 intro args c r h hr_
 unfold Vl at h
 split at h
 ·injection h with h;subst h;subst hr_
  refine ⟨λK acs _=>A8, λhpre E G w hi hS=>?_⟩
  have hi_0:=hi _ (iV (i:=0) rfl)
  simp only [EC,Ee,and_true,true_and] at hi_0
  obtain ⟨a_0,c_0,e_0,hr0⟩:=hi_0
  replace hr0:=And.intro hr0.1 hr0.2.1
  have l_0:=hr0.1.len
  simp only [Au.len] at l_0
  subst l_0
  subst e_0
  have hi_1:=hi _ (iV (i:=1) rfl)
  simp only [EC,Ee] at hi_1
  obtain ⟨⟨b_1,e_1,hr1⟩,_⟩:=hi_1
  subst e_1
  exact Jj Dg (by exact rfl) (Aft _ _ _ _ _ hr0 hr1 hS)
 ·cases h
def Ae0:List (Nat×Entry Sg):=(71,Vl)::X0
theorem Vm:BO Dg Try.prog Ae0:=BO.cons Dg AlG MO
end
section
open Go.Sl
def MP (s z:Int):Int×Bool:=(bif decide (z<1) then (0,false) else (let r2:LI:=GU s;(if 0>Ih r2 z then 0 else Ih r2 z,decide (Ih r2 z≥0))))
abbrev AlH:Ct Sg:=⟨none,false,[.i .i64, .i .i64], .tup [.i .i64, .b]⟩
def AaQ:Entry Sg:=BU AlH MP (λ_ _=>[])
theorem Ajq:DV 42 AaQ:=
 EL Dg Vm (I:=[]) Try.func42 mix (B:=AP Try.f42) (by kernel_rfl) rfl (by kernel_rfl) 400
  λ_ s z hb hp=>⟨(MP s z), .t, λ_ _ _=>by kernel_rfl,trivial,rfl⟩
def AaR:Tb:=(42,AaQ)::Ae0
theorem TN:D7 AaR:=Ea Ajq Vm
def Nk (t p s:Int):LI×LI×LI:=([t,p,s],[1,4,10],[16,1024,20])
abbrev Afu:Ct Sg:=⟨none,false,[.agg [.i .i64, .i .i64, .i .i64]], .new 101 [some .i64,some .i64,some .i64]⟩
def TP:Entry Sg:=BU Afu Nk (λ_ _ _=>[])
theorem AcW:DV 79 TP:=
 EL Dg TN (I:=[]) Try.func79 mix (B:=AP Try.f79) (by kernel_rfl) rfl (by kernel_rfl) 400
  λ_ t p s hb hp=>⟨(Nk t p s), .t, λ_ _ _=>by kernel_rfl,trivial,rfl⟩
def TQ:Tb:=(79,TP)::AaR
theorem OJ:D7 TQ:=Ea AcW TN
def Gx (n lo hi:Int):Bool:=decide (n<lo)||decide (n>hi)
abbrev Afv:Ct Sg:=⟨none,false,[.agg [.i .i64, .i .i64, .i .i64]], .b⟩
def TR:Entry Sg:=BU Afv Gx (λ_ _ _=>[])
theorem AcX:DV 80 TR:=
 EL Dg OJ (I:=[]) Try.func80 mix (B:=AP Try.f80) (by kernel_rfl) rfl (by kernel_rfl) 400
  λ_ n lo hi hb hp=>⟨(Gx n lo hi), .t, λ_ _ _=>by kernel_rfl,trivial,rfl⟩
def TS:Tb:=(80,TR)::TQ
theorem OL:D7 TS:=Ea AcX OJ
def QR (n:Nat) (p:Nat→Bool):Option Nat:=(jQ n).find? p
theorem X3 {n i:Nat} {p:Nat→Bool}:QR n p=some i↔p i=true∧i<n∧∀j,j<i→p j=false:=by
 unfold QR
 rw [List.find?_range_eq_some]
 simp
theorem X4 {n:Nat} {p:Nat→Bool}:QR n p=none↔∀j,j<n→p j=false:=by
 unfold QR
 rw [List.find?_range_eq_none]
 simp
def Jm (xs ys zs:LI):Int:=LJ (QR xs.length λj=>Gx (xs.getD j 0) (ys.getD j 0) (zs.getD j 0))
abbrev AlI:Ct Sg:=⟨none,false,[.ro [some .i64,some .i64,some .i64], .fn 80], .i .i64⟩
def AaS:Entry Sg:=BU AlI Jm (λ_ _ _=>[])
def AaT (xs ys zs:LI) (Q0:Int→Prop) (R_:Int→Prop):Prop:=(Q0 (0))
def X5 (xs ys zs:LI) (i:Int) (Q0:Int→Prop) (R_:Int→Prop):Prop:=(AV (decide (i<(↑(iH xs):Int))) (Ap (0≤i∧i<(↑(iH xs):Int)) (AV (Gx (iN xs (jI i) 0) (iN ys (jI i) 0) (iN zs (jI i) 0)) (R_ (i)) (Q0 (iO iB (i+1))))) (R_ ((-1))))
def IP (xs ys zs:LI) (i r_:Int):Prop:=0≤i∧i≤xs.length∧(∀j:Nat,j<i.toNat→Gx (xs.getD j 0) (ys.getD j 0) (zs.getD j 0)=false)∧r_=Jm xs ys zs
abbrev Qh (p0:Addr) (xs ys zs:LI):Hd Sg:=⟨none,[0,1,0,1],[.blk 0, .code [1,1]],[8,7,0,1],[.i .i64, .ic .i64 ((xs.length:Int)), .roc [.ints .i64 (xs), .ints .i64 (ys), .ints .i64 (zs)], .fn 80]⟩
theorem AcY (xs ys zs:LI) (hl0:xs.length≤9223372036854775807):AaT xs ys zs (λi'=>IP xs ys zs i' (Jm xs ys zs)) (λr__=>r__=(Jm xs ys zs)):=by
 unfold AaT
 try unfold IP
 exact ⟨by omega,by omega, λj hj=>absurd hj (kB j),rfl⟩
theorem AcZ (xs ys zs:LI) (hl0:xs.length≤9223372036854775807) (i:Int) {r_:Int} (hI:IP xs ys zs i r_):X5 xs ys zs i (λi'=>IP xs ys zs i' r_∧lx ((xs.length-i').toNat,0,0) ((xs.length-i).toNat,0,0)) (λr__=>r__=r_):=by
 unfold IP at hI
 unfold X5
 try unfold IP
 obtain ⟨h0,h1,h2,h3⟩:=hI
 refine ⟨λh=>?_, λh=>?_⟩
 ·simp only [decide_eq_true_eq] at h
  refine ⟨by omega, λ_=>⟨λhg=>?_, λhg=>?_⟩⟩
  ·have:=(X3 (n:=xs.length) (p:= λj=>Gx (xs.getD j 0) (ys.getD j 0) (zs.getD j 0))).2 ⟨hg,by omega,h2⟩
   show i=r_
   simp only [h3,Jm,this,LJ]
   omega
  ·rw [Hm (by omega)]
   refine ⟨⟨by omega,by omega, λj hj=>?_,h3⟩,Bo⟩
   by_cases hk:j=i.toNat
   ·subst hk;exact hg
   ·exact h2 j (by omega)
 ·simp only [decide_eq_false_iff_not] at h
  show (-1:Int)=r_
  have:=(X4 (n:=xs.length) (p:= λj=>Gx (xs.getD j 0) (ys.getD j 0) (zs.getD j 0))).2 λj hj=>h2 j (by omega)
  simp only [h3,Jm,this,LJ]
theorem Ajr:DV 86 AaS:=
 LC Dg OL (I:=[103000000008,103000000007,103000000000,103000000001]) Try.func86 mix (B:=AP Try.f86) (by kernel_rfl) rfl (by kernel_rfl) 400
  λp0 xs ys zs hb hp=>have hl0:xs.length≤9223372036854775807:=hb.1;⟨[Qh p0 xs ys zs], λj=>iN [Ag (Hd.kd (Qh p0 xs ys zs)) (λi'=>IP xs ys zs i' (Jm xs ys zs))] j (λ_=>False), λj=>iN [Ag (Hd.kd (Qh p0 xs ys zs)) (λi'=>((xs.length-i').toNat,0,0))] j (λ_=>(0,0,0)),by kernel_rfl,⟨_, λ_ _ _=>by kernel_rfl,AcY xs ys zs hl0⟩,⟨λi hI=>⟨_, λ_ _ _=>by kernel_rfl,AcZ xs ys zs hl0 i hI⟩,trivial⟩⟩
def AaU:Tb:=(86,AaS)::TS
theorem TT:D7 AaU:=Ea Ajr OL
def KE (xs ys zs:LI):Bool:=decide (Jm xs ys zs≥0)
abbrev Afw:Ct Sg:=⟨none,false,[.ro [some .i64,some .i64,some .i64], .fn 80], .b⟩
def TU:Entry Sg:=BU Afw KE (λ_ _ _=>[])
theorem Ada:DV 78 TU:=
 EL Dg TT (I:=[]) Try.func78 mix (B:=AP Try.f78) (by kernel_rfl) rfl (by kernel_rfl) 400
  λ_ xs ys zs hb hp=>have hl0:xs.length≤9223372036854775807:=hb.1;⟨(KE xs ys zs), .t, λ_ _ _=>by kernel_rfl,trivial,rfl⟩
def TV:Tb:=(78,TU)::AaU
theorem OM:D7 TV:=Ea Ada TT
def BZ (t p s:Int):Int:=(let r1:LI×LI×LI:=Nk t p s;(bif KE r1.1 r1.2.1 r1.2.2 then 1 else 0))
abbrev Ahm:Ct Sg:=⟨none,false,[.agg [.i .i64, .i .i64, .i .i64]], .i .i64⟩
def Vo:Entry Sg:=BU Ahm BZ (λ_ _ _=>[])
theorem Afx:DV 58 Vo:=
 EL Dg OM (I:=[]) Try.func58 mix (B:=AP Try.f58) (by kernel_rfl) rfl (by kernel_rfl) 400
  λ_ t p s hb hp=>⟨(BZ t p s), .t, λ_ _ _=>by kernel_rfl,trivial,rfl⟩
def Vp:Tb:=(58,Vo)::TV
theorem PG:D7 Vp:=Ea Afx OM
theorem KJ (t p s:Int):BZ t p s=bif Ac t p s then 0 else 1:=by
 have e:∀o:Option Nat,decide (LJ o≥0)=o.isSome:= λo=>by cases o<;>simp [LJ]
 have h:KE [t,p,s] [1,4,10] [16,1024,20]=!Ac t p s:=by
  unfold KE Jm
  rw [e]
  cases hf:QR [t,p,s].length (λj=>Gx ([t,p,s].getD j 0) ([1,4,10].getD j 0) ([16,1024,20].getD j 0)) with
  |none=>
   have hn:=X4.1 hf
   have h0:=hn 0 (by simp)
   have h1:=hn 1 (by simp)
   have h2:=hn 2 (by simp)
   simp [Gx] at h0 h1 h2
   have:Ac t p s=true:=by simp only [Ac,iE,decide_eq_true_eq];omega
   rw [this];rfl
  |some j=>
   obtain ⟨h1,h2,_⟩:=X3.1 hf
   have:Ac t p s=false:=by
    apply Bool.eq_false_iff.2
    intro hr
    simp only [Ac,iE,decide_eq_true_eq] at hr
    have hj:j=0∨j=1∨j=2:=by simp at h2;omega
    rcases hj with rfl|rfl|rfl<;>simp [Gx] at h1<;>omega
   rw [this];rfl
 unfold BZ
 simp only [Nk,h]
 cases Ac t p s<;>rfl
theorem PH {t p s:Int}:Ac t p s=true↔(1≤t∧t≤16)∧(4≤p∧p≤1024)∧10≤s∧s≤20:=by
 simp only [Ac,iE,decide_eq_true_eq];omega
theorem Anm {t p s:Int} (h:(BZ t p s !=0)=false):0≤s:=by
 rw [KJ] at h
 cases hr:Ac t p s with
 |true=>have:=PH.1 hr;omega
 |false=>rw [hr] at h;simp at h
theorem Ar3 {t p s:Int} (h:Ac t p s=true):BM t p s≠0:=by
 have:=Sz s.toNat
 simp only [BM,h,kL,cond_false];omega
theorem Ahn {t p s:Int} {b:Bool} (h:(!Ac t p s||b)=false):BM t p s≠0:=Ar3 (by simpa using (kH.1 h).1)
theorem QT {t p s:Int} {b c:Bool} (h:(!Ac t p s||b||c)=false):BM t p s≠0:=Ahn (kH.1 h).1
theorem WH {t p s:Int} {b c d:Bool} (h:(!Ac t p s||b||c||d)=false):BM t p s≠0:=QT (kH.1 h).1
def G9 (t p s:Int):Int:=(bif BZ t p s !=0 then 0 else iO iB ((1:Int)*2^min (jI s) 64))
abbrev Ajs:Ct Sg:=⟨none,false,[.agg [.i .i64, .i .i64, .i .i64]], .i .i64⟩
def X6:Entry Sg:=BU Ajs G9 (λ_ _ _=>[])
theorem Aho:DV 44 X6:=
 EL Dg PG (I:=[]) Try.func44 mix (B:=AP Try.f44) (by kernel_rfl) rfl (by kernel_rfl) 400
  λ_ t p s hb hp=>⟨(G9 t p s),(.br (BZ t p s !=0) .t (.need (0≤s) .t)), λ_ _ _=>by kernel_rfl,⟨λz1=>trivial, λz1=>⟨(by exact Anm (by assumption)), λz2=>trivial⟩⟩,rfl⟩
def X7:Tb:=(44,X6)::Vp
theorem QU:D7 X7:=Ea Aho PG
theorem JG (t p s:Int):G9 t p s=BM t p s:=by
 unfold G9 BM
 rw [KJ]
 cases hr:Ac t p s with
 |false=>rfl
 |true=>
  have:=PH.1 hr
  have h1:=Sz s.toNat
  have h2:=WG (show s.toNat≤20 by omega)
  simp only [cond_true,kL,cond_false,bne_self_eq_false]
  rw [show min s.toNat 64=s.toNat by omega,Int.one_mul,Hm (by omega)]
theorem Ae1 {t p s:Int} (h:Ac t p s=false):BM t p s=0:=by simp [BM,h]
theorem Aqt {t p s:Int} (h:Ac t p s=true):BM t p s=2^s.toNat:=by simp [BM,h]
theorem Ann {t p s:Int} (h:BM t p s≠0):0≤s:=by
 cases hr:Ac t p s with
 |true=>have:=PH.1 hr;omega
 |false=>exact absurd (Ae1 hr) h
def DW (t p s:Int):Int:=iO iB (G9 t p s*p)
abbrev Ahp:Ct Sg:=⟨none,false,[.agg [.i .i64, .i .i64, .i .i64]], .i .i64⟩
def Vq:Entry Sg:=BU Ahp DW (λ_ _ _=>[])
theorem Afy:DV 70 Vq:=
 EL Dg QU (I:=[]) Try.func70 mix (B:=AP Try.f70) (by kernel_rfl) rfl (by kernel_rfl) 400
  λ_ t p s hb hp=>⟨(DW t p s), .t, λ_ _ _=>by kernel_rfl,trivial,rfl⟩
def Vr:Tb:=(70,Vq)::X7
theorem PI:D7 Vr:=Ea Afy QU
def EG (t p s:Int):Int:=(bif !Ac t p s then 0 else iO iB (BM t p s*p))
abbrev Ajt:Ct Sg:=⟨none,false,[.agg [.i .i64, .i .i64, .i .i64]], .i .i64⟩
def X8:Entry Sg:=BU Ajt EG (λ_ _ _=>[])
theorem Ahq:DV 46 X8:=
 EL Dg PI (I:=[]) Try.func46 mix (B:=AP Try.f46) (by kernel_rfl) rfl (by kernel_rfl) 400
  λ_ t p s hb hp=>⟨(EG t p s), .t, λ_ _ _=>by kernel_rfl,trivial,rfl⟩
def X9:Tb:=(46,X8)::Vr
theorem QV:D7 X9:=Ea Ahq PI
theorem AlJ {t p s z:Int} (h:(decide (z<1)||decide (z>DW t p s))=false):0≤s:=by
 simp only [kH,decide_eq_false_iff_not] at h
 apply Ann (t:=t) (p:=p)
 intro h0
 have:DW t p s=0:=by simp only [DW,JG,h0,Int.zero_mul];rfl
 omega
def H6 (t p s z:Int):Int×Bool:=(bif decide (z<1)||decide (z>DW t p s) then (0,false) else (iO iB (Int.fdiv (iO iB (z-1)) (2^min (jI s) 64)+1),true))
abbrev Ahr:Ct Sg:=⟨none,false,[.agg [.i .i64, .i .i64, .i .i64], .i .i64], .tup [.i .i64, .b]⟩
def Vs:Entry Sg:=BU Ahr H6 (λ_ _ _ _=>[])
theorem Afz:DV 41 Vs:=
 EL Dg QV (I:=[]) Try.func41 mix (B:=AP Try.f41) (by kernel_rfl) rfl (by kernel_rfl) 400
  λ_ t p s z hb hp=>⟨(H6 t p s z),(.br (decide (z<1)||decide (z>DW t p s)) .t (.need (0≤s) .t)), λ_ _ _=>by kernel_rfl,⟨λz1=>trivial, λz1=>⟨(by exact AlJ (by assumption)), λz2=>trivial⟩⟩,rfl⟩
def Vt:Tb:=(41,Vs)::X9
theorem PL:D7 Vt:=Ea Afz QV
def Ia (t p s z:Int):Int×Bool:=(bif !Ac t p s||decide (z<1)||decide (z>EG t p s) then (0,false) else (bif decide (Int.tmod z (BM t p s)>0) then (iO iB (iO iB (Int.tdiv z (BM t p s))+1),true) else (iO iB (Int.tdiv z (BM t p s)),true)))
abbrev Aju:Ct Sg:=⟨none,false,[.agg [.i .i64, .i .i64, .i .i64], .i .i64], .tup [.i .i64, .b]⟩
def XA:Entry Sg:=BU Aju Ia (λ_ _ _ _=>[])
theorem Ahs:DV 49 XA:=
 EL Dg PL (I:=[]) Try.func49 mix (B:=AP Try.f49) (by kernel_rfl) rfl (by kernel_rfl) 400
  λ_ t p s z hb hp=>⟨(Ia t p s z),(.br (!Ac t p s||decide (z<1)||decide (z>EG t p s)) .t (.need (BM t p s≠0) (.need (BM t p s≠0) .t))), λ_ _ _=>by kernel_rfl,⟨λz1=>trivial, λz1=>⟨(by first|exact Ahn|exact QT|exact WH|exact QT (by assumption)|exact WH (by assumption)), λz2=>⟨(by first|exact Ahn|exact QT|exact WH|exact QT (by assumption)|exact WH (by assumption)), λz3=>trivial⟩⟩⟩,rfl⟩
def XB:Tb:=(49,XA)::Vt
theorem QW:D7 XB:=Ea Ahs PL
end
section
open Go.Sl
def Hq (k a b:Int):Bool:=(bif k==3 then (bif k==3 then true else (bif k==8 then (bif a !=0 then false else b==0) else (bif k==1 then (bif k==1 then b==0 else false) else (bif k==2 then (bif k==2 then b==0 else false) else (bif k==6 then (bif k==6 then b==0 else false) else (bif k==7 then (bif k==7 then b==0 else false) else (bif k==9 then b==0 else false))))))) else (bif k==4 then (bif k==4 then true else (bif k==8 then (bif a !=0 then false else b==0) else (bif k==1 then (bif k==1 then b==0 else false) else (bif k==2 then (bif k==2 then b==0 else false) else (bif k==6 then (bif k==6 then b==0 else false) else (bif k==7 then (bif k==7 then b==0 else false) else (bif k==9 then b==0 else false))))))) else (bif k==5 then true else (bif k==8 then (bif a !=0 then false else b==0) else (bif k==1 then (bif k==1 then b==0 else false) else (bif k==2 then (bif k==2 then b==0 else false) else (bif k==6 then (bif k==6 then b==0 else false) else (bif k==7 then (bif k==7 then b==0 else false) else (bif k==9 then b==0 else false)))))))))
abbrev AlK:Ct Sg:=⟨none,false,[.agg [.i .i64, .i .i64, .i .i64]], .b⟩
def AaV:Entry Sg:=BU AlK Hq (λ_ _ _=>[])
theorem Ajv:DV 27 AaV:=
 EL Dg QW (I:=[]) Try.func27 mix (B:=AP Try.f27) (by kernel_rfl) rfl (by kernel_rfl) 400
  λ_ k a b hb hp=>⟨(Hq k a b), .t, λ_ _ _=>by kernel_rfl,trivial,rfl⟩
def AaW:Tb:=(27,AaV)::XB
theorem TW:D7 AaW:=Ea Ajv QW
def JH (k:Int):Int:=(bif k==8 then 0 else (bif k==1 then (bif k==1 then 1 else (bif k==3 then (bif k==3 then 2 else (-1)) else (bif k==4 then (bif k==4 then 2 else (-1)) else (bif k==5 then 2 else (-1))))) else (bif k==2 then (bif k==2 then 1 else (bif k==3 then (bif k==3 then 2 else (-1)) else (bif k==4 then (bif k==4 then 2 else (-1)) else (bif k==5 then 2 else (-1))))) else (bif k==6 then (bif k==6 then 1 else (bif k==3 then (bif k==3 then 2 else (-1)) else (bif k==4 then (bif k==4 then 2 else (-1)) else (bif k==5 then 2 else (-1))))) else (bif k==7 then (bif k==7 then 1 else (bif k==3 then (bif k==3 then 2 else (-1)) else (bif k==4 then (bif k==4 then 2 else (-1)) else (bif k==5 then 2 else (-1))))) else (bif k==9 then 1 else (bif k==3 then (bif k==3 then 2 else (-1)) else (bif k==4 then (bif k==4 then 2 else (-1)) else (bif k==5 then 2 else (-1))))))))))
abbrev AlL:Ct Sg:=⟨none,false,[.i .i64], .i .i64⟩
def AaX:Entry Sg:=BU AlL JH (λ_=>[])
theorem Ajw:DV 77 AaX:=
 EL Dg TW (I:=[]) Try.func77 mix (B:=AP Try.f77) (by kernel_rfl) rfl (by kernel_rfl) 400
  λ_ k hb hp=>⟨(JH k), .t, λ_ _ _=>by kernel_rfl,trivial,rfl⟩
def AaY:Tb:=(77,AaX)::AaW
theorem TY:D7 AaY:=Ea Ajw TW
def Dh (k a b:Int):Bool:=decide (JH k≥0)&&(decide (JH k≥1)||a==0)&&(decide (JH k≥2)||b==0)
abbrev Ajx:Ct Sg:=⟨none,false,[.agg [.i .i64, .i .i64, .i .i64]], .b⟩
def XC:Entry Sg:=BU Ajx Dh (λ_ _ _=>[])
theorem Aht:DV 51 XC:=
 EL Dg TY (I:=[]) Try.func51 mix (B:=AP Try.f51) (by kernel_rfl) rfl (by kernel_rfl) 400
  λ_ k a b hb hp=>⟨(Dh k a b), .t, λ_ _ _=>by kernel_rfl,trivial,rfl⟩
def XD:Tb:=(51,XC)::AaY
theorem QX:D7 XD:=Ea Aht TY
def BI (t p h z:Int):Int×Bool:=(bif !Prod.snd (H6 t p h z) then (0,false) else (bif mI (MP h z) then (Em h (kM (MP h z)),true) else (iO iB (kM (H6 t p h z)*G9 t p h),true)))
abbrev Af0:Ct Sg:=⟨none,false,[.agg [.i .i64, .i .i64, .i .i64], .i .i64], .tup [.i .i64, .b]⟩
def TZ:Entry Sg:=BU Af0 BI (λ_ _ _ _=>[])
theorem Adb:DV 13 TZ:=
 EL Dg QX (I:=[]) Try.func13 mix (B:=AP Try.f13) (by kernel_rfl) rfl (by kernel_rfl) 400
  λ_ t p h z hb hp=>⟨(BI t p h z), .t, λ_ _ _=>by kernel_rfl,trivial,rfl⟩
def Ua:Tb:=(13,TZ)::XD
theorem OO:D7 Ua:=Ea Adb QX
def BJ (t p h z:Int):Int×Bool:=(bif !Ac t p h||decide (z<1)||decide (z>EG t p h) then (0,false) else (bif mI (Jq h z) then (Eh h (kM (Jq h z)),true) else (iO iB (kM (Ia t p h z)*BM t p h),true)))
abbrev Ajy:Ct Sg:=⟨none,false,[.agg [.i .i64, .i .i64, .i .i64], .i .i64], .tup [.i .i64, .b]⟩
def XE:Entry Sg:=BU Ajy BJ (λ_ _ _ _=>[])
theorem Ahu:DV 14 XE:=
 EL Dg OO (I:=[]) Try.func14 mix (B:=AP Try.f14) (by kernel_rfl) rfl (by kernel_rfl) 400
  λ_ t p h z hb hp=>⟨(BJ t p h z), .t, λ_ _ _=>by kernel_rfl,trivial,rfl⟩
def XF:Tb:=(14,XE)::Ua
theorem QY:D7 XF:=Ea Ahu OO
def Bl (c e o x:Int):Bool:=e==c&&(o==0&&(x==0&&true))
abbrev Ahv:Ct Sg:=⟨none,false,[.i .i64, .agg [.i .i64, .i .i64, .i .i64]], .b⟩
def Vu:Entry Sg:=BU Ahv Bl (λ_ _ _ _=>[])
theorem Af1:DV 28 Vu:=
 EL Dg QY (I:=[]) Try.func28 mix (B:=AP Try.f28) (by kernel_rfl) rfl (by kernel_rfl) 400
  λ_ c e o x hb hp=>⟨(Bl c e o x), .t, λ_ _ _=>by kernel_rfl,trivial,rfl⟩
def Vw:Tb:=(28,Vu)::XF
theorem PM:D7 Vw:=Ea Af1 QY
def Ed (a z a2 z2:Int):Bool:=decide (a<iO iB (a2+z2))&&decide (a2<iO iB (a+z))
abbrev Ahw:Ct Sg:=⟨none,false,[.agg [.i .i64, .i .i64], .agg [.i .i64, .i .i64]], .b⟩
def Vx:Entry Sg:=BU Ahw Ed (λ_ _ _ _=>[])
theorem Af2:DV 62 Vx:=
 EL Dg PM (I:=[]) Try.func62 mix (B:=AP Try.f62) (by kernel_rfl) rfl (by kernel_rfl) 400
  λ_ a z a2 z2 hb hp=>⟨(Ed a z a2 z2), .t, λ_ _ _=>by kernel_rfl,trivial,rfl⟩
def Vy:Tb:=(62,Vx)::Vw
theorem PN:D7 Vy:=Ea Af2 PM
def BC (c e o x:Int):Bool:=e==c&&o==0&&x==0
abbrev AlM:Ct Sg:=⟨none,false,[.i .i64, .agg [.i .i64, .i .i64, .i .i64]], .b⟩
def AaZ:Entry Sg:=BU AlM BC (λ_ _ _ _=>[])
theorem Ajz:DV 52 AaZ:=
 EL Dg PN (I:=[]) Try.func52 mix (B:=AP Try.f52) (by kernel_rfl) rfl (by kernel_rfl) 400
  λ_ c e o x hb hp=>⟨(BC c e o x), .t, λ_ _ _=>by kernel_rfl,trivial,rfl⟩
def Aba:Tb:=(52,AaZ)::Vy
theorem Ub:D7 Aba:=Ea Ajz PN
def Et (e o x a b:Int):Bool:=e==0&&o==a&&x==b
abbrev Aj0:Ct Sg:=⟨none,false,[.agg [.i .i64, .i .i64, .i .i64], .i .i64, .i .i64], .b⟩
def XG:Entry Sg:=BU Aj0 Et (λ_ _ _ _ _=>[])
theorem Ahx:DV 56 XG:=
 EL Dg Ub (I:=[]) Try.func56 mix (B:=AP Try.f56) (by kernel_rfl) rfl (by kernel_rfl) 400
  λ_ e o x a b hb hp=>⟨(Et e o x a b), .t, λ_ _ _=>by kernel_rfl,trivial,rfl⟩
def XH:Tb:=(56,XG)::Aba
theorem QZ:D7 XH:=Ea Ahx Ub
def FQ (e o x n:Int):Bool:=e !=0||x==n
abbrev Ano:Ct Sg:=⟨none,false,[.agg [.i .i64, .i .i64, .i .i64], .i .i64], .b⟩
def Ae2:Entry Sg:=BU Ano FQ (λ_ _ _ _=>[])
theorem AlN:DV 54 Ae2:=
 EL Dg QZ (I:=[]) Try.func54 mix (B:=AP Try.f54) (by kernel_rfl) rfl (by kernel_rfl) 400
  λ_ e o x n hb hp=>⟨(FQ e o x n), .t, λ_ _ _=>by kernel_rfl,trivial,rfl⟩
def Ae3:Tb:=(54,Ae2)::XH
theorem Vz:D7 Ae3:=Ea AlN QZ
end
section
open Go.Sl
def JI (t p h a z:Int):Bool:=decide (z≥1)&&decide (a≥G9 t p h)&&decide (z≤DW t p h)&&decide (a≤iO iB (iO iB (G9 t p h+DW t p h)-z))
def YQ (s:MS):Bool:=true
abbrev Ar4:Ct Sg:=⟨some Du,true,[], .b⟩
def Anp:Entry Sg:=BU Ar4 (λ(s:MS)=>true) (λ_=>[])
def Abb (s:MS) (t p h:Int) (l:List (Int×Int)) (x0 x1 x2 x3 x4 x5 x6 x7:Int) (R_:Bool→Prop) (O_:Int→Int→Int→List (Int×Int)→Int→Int→Int→Int→Int→Int→Int→Int→Bool→Prop):Prop:=(O_ (t) (p) (h) (l) (x0) (x1) (x2) (x3) (x4) (x5) (x6) (x7) (true))
theorem AlO (s:MS) (t p h:Int) (l:List (Int×Int)) (x0 x1 x2 x3 x4 x5 x6 x7:Int) (hx:D6 ⟨t,p,h,l,x0,x1,x2,x3,x4,x5,x6,x7⟩ (s)):Abb s t p h l x0 x1 x2 x3 x4 x5 x6 x7 (λr__=>r__=(YQ s)) (λt_ p_ h_ l_ x0_ x1_ x2_ x3_ x4_ x5_ x6_ x7_ r_=>D6 ⟨t_,p_,h_,l_,x0_,x1_,x2_,x3_,x4_,x5_,x6_,x7_⟩ (s)∧r_=(YQ s)):=by
 have key:∀x:MS,D6 x s→Abb s x.t x.p x.h x.l x.r0 x.r1 x.r2 x.r3 x.r4 x.r5 x.r6 x.r7 (λr__=>r__=(YQ s)) (λt_ p_ h_ l_ x0_ x1_ x2_ x3_ x4_ x5_ x6_ x7_ r_=>D6 ⟨t_,p_,h_,l_,x0_,x1_,x2_,x3_,x4_,x5_,x6_,x7_⟩ (s)∧r_=(YQ s)):=by
  intro x ho
  unfold Abb
  cases (show x=s from ho)
  exact ⟨rfl,rfl⟩
 exact key ⟨t,p,h,l,x0,x1,x2,x3,x4,x5,x6,x7⟩ hx
theorem Aqu:DV 26 Anp:=
 Gg Dg Gh true Vz (I:=[]) Try.func26 mix (B:=AP Try.f26) (by kernel_rfl) rfl (by kernel_rfl) 400
  λo s hb hp=>⟨s,s,(YQ s),[],[], λj=>iN [] j (λ_=>False), λj=>iN [] j (λ_=>(0,0,0)),by kernel_rfl, λ_ _=>by kernel_rfl,by kernel_rfl, λt p h l x0 x1 x2 x3 x4 x5 x6 x7 hx=>⟨Abb s t p h l x0 x1 x2 x3 x4 x5 x6 x7 (λr__=>r__=(YQ s)) (λt_ p_ h_ l_ x0_ x1_ x2_ x3_ x4_ x5_ x6_ x7_ r_=>D6 ⟨t_,p_,h_,l_,x0_,x1_,x2_,x3_,x4_,x5_,x6_,x7_⟩ (s)∧r_=(YQ s)), λ_ _ _ _=>by kernel_rfl,AlO s t p h l x0 x1 x2 x3 x4 x5 x6 x7 hx⟩,trivial⟩
def Anq:Tb:=(26,Anp)::Ae3
theorem Ae4:D7 Anq:=Ea Aqu Vz
def KP (s:MS) (a z:Int):Bool:=JI s.t s.p s.h a z
abbrev AlP:Ct Sg:=⟨some Du,true,[.agg [.i .i64, .i .i64]], .b⟩
def Abc:Entry Sg:=BU AlP (λ(s:MS) (a:Int) (z:Int)=>JI s.t s.p s.h a z) (λ_ _ _=>[])
def Oh (s:MS) (a z t p h:Int) (l:List (Int×Int)) (x0 x1 x2 x3 x4 x5 x6 x7:Int) (R_:Bool→Prop) (O_:Int→Int→Int→List (Int×Int)→Int→Int→Int→Int→Int→Int→Int→Int→Bool→Prop):Prop:=(O_ (t) (p) (h) (l) (x0) (x1) (x2) (x3) (x4) (x5) (x6) (x7) (decide (z≥1)&&decide (a≥G9 t p h)&&decide (z≤DW t p h)&&decide (a≤iO iB (iO iB (G9 t p h+DW t p h)-z))))
theorem Adc (s:MS) (a z t p h:Int) (l:List (Int×Int)) (x0 x1 x2 x3 x4 x5 x6 x7:Int) (hx:D6 ⟨t,p,h,l,x0,x1,x2,x3,x4,x5,x6,x7⟩ (s)):Oh s a z t p h l x0 x1 x2 x3 x4 x5 x6 x7 (λr__=>r__=(KP s a z)) (λt_ p_ h_ l_ x0_ x1_ x2_ x3_ x4_ x5_ x6_ x7_ r_=>D6 ⟨t_,p_,h_,l_,x0_,x1_,x2_,x3_,x4_,x5_,x6_,x7_⟩ (s)∧r_=(KP s a z)):=by
 have key:∀x:MS,D6 x s→Oh s a z x.t x.p x.h x.l x.r0 x.r1 x.r2 x.r3 x.r4 x.r5 x.r6 x.r7 (λr__=>r__=(KP s a z)) (λt_ p_ h_ l_ x0_ x1_ x2_ x3_ x4_ x5_ x6_ x7_ r_=>D6 ⟨t_,p_,h_,l_,x0_,x1_,x2_,x3_,x4_,x5_,x6_,x7_⟩ (s)∧r_=(KP s a z)):=by
  intro x ho
  unfold Oh
  cases (show x=s from ho)
  exact ⟨rfl,rfl⟩
 exact key ⟨t,p,h,l,x0,x1,x2,x3,x4,x5,x6,x7⟩ hx
theorem Aj1:DV 61 Abc:=
 Gg Dg Gh true Ae4 (I:=[]) Try.func61 mix (B:=AP Try.f61) (by kernel_rfl) rfl (by kernel_rfl) 400
  λo s a z hb hp=>⟨s,s,(KP s a z),[],[], λj=>iN [] j (λ_=>False), λj=>iN [] j (λ_=>(0,0,0)),by kernel_rfl, λ_ _=>by kernel_rfl,by kernel_rfl, λt p h l x0 x1 x2 x3 x4 x5 x6 x7 hx=>⟨Oh s a z t p h l x0 x1 x2 x3 x4 x5 x6 x7 (λr__=>r__=(KP s a z)) (λt_ p_ h_ l_ x0_ x1_ x2_ x3_ x4_ x5_ x6_ x7_ r_=>D6 ⟨t_,p_,h_,l_,x0_,x1_,x2_,x3_,x4_,x5_,x6_,x7_⟩ (s)∧r_=(KP s a z)), λ_ _ _ _=>by kernel_rfl,Adc s a z t p h l x0 x1 x2 x3 x4 x5 x6 x7 hx⟩,trivial⟩
def Abd:Tb:=(61,Abc)::Anq
theorem Uc:D7 Abd:=Ea Aj1 Ae4
def IZ (s:MS) (k a c e u v:Int):Bool:=e==0&&decide (u≥0)&&decide (u≤s.p)&&v==(s.l.length:Int)
abbrev Anr:Ct Sg:=⟨some Du,true,[.agg [.i .i64, .i .i64, .i .i64], .agg [.i .i64, .i .i64, .i .i64]], .b⟩
def Ae5:Entry Sg:=BU Anr (λ(s:MS) (k:Int) (a:Int) (c:Int) (e:Int) (u:Int) (v:Int)=>e==0&&decide (u≥0)&&decide (u≤s.p)&&v==(s.l.length:Int)) (λ_ _ _ _ _ _ _=>[])
def PO (s:MS) (k a c e u v t p h:Int) (l:List (Int×Int)) (x0 x1 x2 x3 x4 x5 x6 x7:Int) (R_:Bool→Prop) (O_:Int→Int→Int→List (Int×Int)→Int→Int→Int→Int→Int→Int→Int→Int→Bool→Prop):Prop:=(AV (e==0&&decide (u≥0)&&decide (u≤p)) (O_ (t) (p) (h) (l) (x0) (x1) (x2) (x3) (x4) (x5) (x6) (x7) (v==(↑(iH l):Int))) (O_ (t) (p) (h) (l) (x0) (x1) (x2) (x3) (x4) (x5) (x6) (x7) (false)))
theorem Af3 (s:MS) (k a c e u v t p h:Int) (l:List (Int×Int)) (x0 x1 x2 x3 x4 x5 x6 x7:Int) (hx:D6 ⟨t,p,h,l,x0,x1,x2,x3,x4,x5,x6,x7⟩ (s)):PO s k a c e u v t p h l x0 x1 x2 x3 x4 x5 x6 x7 (λr__=>r__=(IZ s k a c e u v)) (λt_ p_ h_ l_ x0_ x1_ x2_ x3_ x4_ x5_ x6_ x7_ r_=>D6 ⟨t_,p_,h_,l_,x0_,x1_,x2_,x3_,x4_,x5_,x6_,x7_⟩ (s)∧r_=(IZ s k a c e u v)):=by
 have key:∀x:MS,D6 x s→PO s k a c e u v x.t x.p x.h x.l x.r0 x.r1 x.r2 x.r3 x.r4 x.r5 x.r6 x.r7 (λr__=>r__=(IZ s k a c e u v)) (λt_ p_ h_ l_ x0_ x1_ x2_ x3_ x4_ x5_ x6_ x7_ r_=>D6 ⟨t_,p_,h_,l_,x0_,x1_,x2_,x3_,x4_,x5_,x6_,x7_⟩ (s)∧r_=(IZ s k a c e u v)):=by
  intro x ho
  unfold PO
  cases (show x=s from ho)
  refine ⟨λhc=>⟨rfl,?_⟩, λhc=>⟨rfl,?_⟩⟩
  ·unfold IZ;rw [hc,oO]
  ·unfold IZ;rw [hc,Bool.false_and]
 exact key ⟨t,p,h,l,x0,x1,x2,x3,x4,x5,x6,x7⟩ hx
theorem AlQ:DV 36 Ae5:=
 Gg Dg Gh true Uc (I:=[]) Try.func36 mix (B:=AP Try.f36) (by kernel_rfl) rfl (by kernel_rfl) 400
  λo s k a c e u v hb hp=>⟨s,s,(IZ s k a c e u v),[],[], λj=>iN [] j (λ_=>False), λj=>iN [] j (λ_=>(0,0,0)),by kernel_rfl, λ_ _=>by kernel_rfl,by kernel_rfl, λt p h l x0 x1 x2 x3 x4 x5 x6 x7 hx=>⟨PO s k a c e u v t p h l x0 x1 x2 x3 x4 x5 x6 x7 (λr__=>r__=(IZ s k a c e u v)) (λt_ p_ h_ l_ x0_ x1_ x2_ x3_ x4_ x5_ x6_ x7_ r_=>D6 ⟨t_,p_,h_,l_,x0_,x1_,x2_,x3_,x4_,x5_,x6_,x7_⟩ (s)∧r_=(IZ s k a c e u v)), λ_ _ _ _=>by kernel_rfl,Af3 s k a c e u v t p h l x0 x1 x2 x3 x4 x5 x6 x7 hx⟩,trivial⟩
def Ae6:Tb:=(36,Ae5)::Abd
theorem V3:D7 Ae6:=Ea AlQ Uc
def I7 (s:MS) (k a c e u v:Int):Bool:=bif decide (a<0)||decide (a≥9) then Bl 7 e u v else e==0&&decide (u≥0)&&decide (u≤4)&&v==0
abbrev Ant:Ct Sg:=⟨some Du,true,[.agg [.i .i64, .i .i64, .i .i64], .agg [.i .i64, .i .i64, .i .i64]], .b⟩
def Ae7:Entry Sg:=BU Ant (λ(s:MS) (k:Int) (a:Int) (c:Int) (e:Int) (u:Int) (v:Int)=>bif decide (a<0)||decide (a≥9) then Bl 7 e u v else e==0&&decide (u≥0)&&decide (u≤4)&&v==0) (λ_ _ _ _ _ _ _=>[])
def PP (s:MS) (k a c e u v t p h:Int) (l:List (Int×Int)) (x0 x1 x2 x3 x4 x5 x6 x7:Int) (R_:Bool→Prop) (O_:Int→Int→Int→List (Int×Int)→Int→Int→Int→Int→Int→Int→Int→Int→Bool→Prop):Prop:=(AV (decide (a<0)||decide (a≥9)) (O_ (t) (p) (h) (l) (x0) (x1) (x2) (x3) (x4) (x5) (x6) (x7) (Bl 7 e u v)) (O_ (t) (p) (h) (l) (x0) (x1) (x2) (x3) (x4) (x5) (x6) (x7) (e==0&&decide (u≥0)&&decide (u≤4)&&v==0)))
theorem Af4 (s:MS) (k a c e u v t p h:Int) (l:List (Int×Int)) (x0 x1 x2 x3 x4 x5 x6 x7:Int) (hx:D6 ⟨t,p,h,l,x0,x1,x2,x3,x4,x5,x6,x7⟩ (s)):PP s k a c e u v t p h l x0 x1 x2 x3 x4 x5 x6 x7 (λr__=>r__=(I7 s k a c e u v)) (λt_ p_ h_ l_ x0_ x1_ x2_ x3_ x4_ x5_ x6_ x7_ r_=>D6 ⟨t_,p_,h_,l_,x0_,x1_,x2_,x3_,x4_,x5_,x6_,x7_⟩ (s)∧r_=(I7 s k a c e u v)):=by
 have key:∀x:MS,D6 x s→PP s k a c e u v x.t x.p x.h x.l x.r0 x.r1 x.r2 x.r3 x.r4 x.r5 x.r6 x.r7 (λr__=>r__=(I7 s k a c e u v)) (λt_ p_ h_ l_ x0_ x1_ x2_ x3_ x4_ x5_ x6_ x7_ r_=>D6 ⟨t_,p_,h_,l_,x0_,x1_,x2_,x3_,x4_,x5_,x6_,x7_⟩ (s)∧r_=(I7 s k a c e u v)):=by
  intro x ho
  unfold PP
  cases (show x=s from ho)
  refine ⟨λhc=>⟨rfl,?_⟩, λhc=>⟨rfl,?_⟩⟩
  ·unfold I7;rw [hc,cond_true]
  ·unfold I7;rw [hc,cond_false]
 exact key ⟨t,p,h,l,x0,x1,x2,x3,x4,x5,x6,x7⟩ hx
theorem AlR:DV 37 Ae7:=
 Gg Dg Gh true V3 (I:=[]) Try.func37 mix (B:=AP Try.f37) (by kernel_rfl) rfl (by kernel_rfl) 400
  λo s k a c e u v hb hp=>⟨s,s,(I7 s k a c e u v),[],[], λj=>iN [] j (λ_=>False), λj=>iN [] j (λ_=>(0,0,0)),by kernel_rfl, λ_ _=>by kernel_rfl,by kernel_rfl, λt p h l x0 x1 x2 x3 x4 x5 x6 x7 hx=>⟨PP s k a c e u v t p h l x0 x1 x2 x3 x4 x5 x6 x7 (λr__=>r__=(I7 s k a c e u v)) (λt_ p_ h_ l_ x0_ x1_ x2_ x3_ x4_ x5_ x6_ x7_ r_=>D6 ⟨t_,p_,h_,l_,x0_,x1_,x2_,x3_,x4_,x5_,x6_,x7_⟩ (s)∧r_=(I7 s k a c e u v)), λ_ _ _ _=>by kernel_rfl,Af4 s k a c e u v t p h l x0 x1 x2 x3 x4 x5 x6 x7 hx⟩,trivial⟩
def Ae8:Tb:=(37,Ae7)::Ae6
theorem V4:D7 Ae8:=Ea AlR V3
def PQ (l:List (Int×Int)) (a:Int):Option (Int×Int):=l.find? λx=>x.1==a
def atR (l:List (Int×Int)) (a:Int):Int×Int×Bool:=(((PQ l a).getD (0,0)).1,((PQ l a).getD (0,0)).2,(PQ l a).isSome)
abbrev Dk (l:List (Int×Int)):Prop:=(l.map (·.1)).Nodup
def okB (x b u:Int×Int):Bool:=!(!(x.1==u.1&&(x.2==u.2&&true))&&Ed x.1 x.2 b.1 b.2)
theorem Ahy {r:List (Int×Int)} (h:PV r=false) (n:Nat):Dq r n∈r:=by
 have hl:0<r.length:=by cases r with|nil=>cases h|cons _ _=>simp
 unfold Dq
 rw [iC,iK (mB _ hl)]
 exact nV _
theorem Ahz {r:List (Int×Int)} (h:PV r=false) (n:Nat):(Hf r n).length<r.length:=by
 have hl:0<r.length:=by cases r with|nil=>cases h|cons _ _=>simp
 unfold Hf
 rw [List.length_eraseIdx_of_lt (mB _ hl)];omega
theorem Ah0 {r:List (Int×Int)} (n:Nat) {x:Int×Int} (h:x∈Hf r n):x∈r:=(nM r _).subset h
theorem YR:∀{r:List (Int×Int)} {j:Nat},j<r.length→∀y,y∈r→y=r.getD j (0,0)∨y∈r.eraseIdx j
 |[],_,h,_,_=>by simp at h
 |x::r,0,_,y,hy=>by
  rcases iG.1 hy with rfl|hy
  ·exact .inl rfl
  ·exact .inr hy
 |x::r,j+1,h,y,hy=>by
  rcases iG.1 hy with rfl|hy
  ·exact .inr (by simp)
  ·rcases YR (by simpa using h) y hy with h|h
   ·exact .inl h
   ·exact .inr (List.mem_cons_of_mem _ h)
theorem AoI {r:List (Int×Int)} {n:Nat} {y:Int×Int} (hy:y∈r) (hne:y≠Dq r n):y∈Hf r n:=by
 have hl:0<r.length:=List.length_pos_of_mem hy
 rcases YR (mB n hl) y hy with h|h
 ·exact absurd h hne
 ·exact h
theorem Aqv {l:List (Int×Int)} {a:Int} (h:∀x∈l,x.1≠a):atR l a=(0,0,false):=by
 have:PQ l a=none:=by
  unfold PQ
  rw [List.find?_eq_none]
  intro x hx he
  exact h x hx (by simpa using he)
 unfold atR;rw [this];rfl
theorem Aqw {l:List (Int×Int)} (hn:Dk l) {x:Int×Int} (hx:x∈l):atR l x.1=(x.1,x.2,true):=by
 have:PQ l x.1=some x:=by
  unfold PQ
  induction l with
  |nil=>cases hx
  |cons y l ih=>
   simp only [Dk,iD,lF] at hn
   rw [List.find?_cons]
   cases he:y.1==x.1 with
   |true=>
    rcases iG.1 hx with rfl|hx
    ·rfl
    ·exact absurd (kN.2 ⟨x,hx,(by simpa using he:y.1=x.1).symm⟩) hn.1
   |false=>
    rcases iG.1 hx with rfl|hx
    ·simp at he
    ·exact ih hn.2 hx
 unfold atR;rw [this];rfl
theorem Ah1 {r:List (Int×Int)} (h:PV r=false) (n:Nat) (f:Int×Int→Bool):r.all f=(f (Dq r n)&&(Hf r n).all f):=by
 have hl:0<r.length:=by cases r with|nil=>cases h|cons _ _=>simp
 rw [mS]
 simp only [iE,jN]
 constructor
 ·exact λH=>⟨H _ (Ahy h n), λx hx=>H x (Ah0 n hx)⟩
 ·rintro ⟨h1,h2⟩ x hx
  rcases YR (mB n hl) x hx with e|e
  ·rw [e];exact h1
  ·exact h2 x e
def SA (s:MS) (a:Int):Int×Int×Bool:=atR s.l a
abbrev Ar5:Ct Sg:=⟨some Du,true,[.i .i64], .tup [.agg [.i .i64, .i .i64], .b]⟩
def Anu:Entry Sg:=BU Ar5 (λ(s:MS) (a:Int)=>atR s.l a) (λs a=>[Dk s.l])
def Abe (s:MS) (a t p h:Int) (l:List (Int×Int)) (x0 x1 x2 x3 x4 x5 x6 x7:Int) (Q0:Int→Int→Int→List (Int×Int)→List (Int×Int)→List (Int×Int)→Int→Int→Int→Int→Int→Int→Int→Int→Prop) (R_:Int×Int×Bool→Prop) (O_:Int→Int→Int→List (Int×Int)→Int→Int→Int→Int→Int→Int→Int→Int→Int×Int×Bool→Prop):Prop:=(Q0 (t) (p) (h) (l) ([]) (l) (x0) (x1) (x2) (x3) (x4) (x5) (x6) (x7))
def Aky (s:MS) (a t_ p_ h_:Int) (l:List (Int×Int)) (cu:List (Int×Int)) (re:List (Int×Int)) (r0_ r1_ r2_ r3_ r4_ r5_ r6_ r7_:Int) (Q0:Int→Int→Int→List (Int×Int)→List (Int×Int)→List (Int×Int)→Int→Int→Int→Int→Int→Int→Int→Int→Prop) (R_:Int×Int×Bool→Prop) (O_:Int→Int→Int→List (Int×Int)→Int→Int→Int→Int→Int→Int→Int→Int→Int×Int×Bool→Prop):Prop:=(AV (PV re) (AV (false) (Ap (Ry cu=true) (AV (kM (hdB cu)==a) (O_ (t_) (p_) (h_) (l) (r0_) (r1_) (r2_) (r3_) (r4_) (r5_) (r6_) (r7_) ((kM (hdB cu),mI (hdB cu),true))) (Q0 (t_) (p_) (h_) (l) (cu) (re) (r0_) (r1_) (r2_) (r3_) (r4_) (r5_) (r6_) (r7_)))) (O_ (t_) (p_) (h_) (l) (r0_) (r1_) (r2_) (r3_) (r4_) (r5_) (r6_) (r7_) ((0,0,false)))) (∀n1_:Nat,(AV (true) (Ap (Ry [Dq re n1_]=true) (AV (kM (hdB [Dq re n1_])==a) (O_ (t_) (p_) (h_) (l) (r0_) (r1_) (r2_) (r3_) (r4_) (r5_) (r6_) (r7_) ((kM (hdB [Dq re n1_]),mI (hdB [Dq re n1_]),true))) (Q0 (t_) (p_) (h_) (l) ([Dq re n1_]) (Hf re n1_) (r0_) (r1_) (r2_) (r3_) (r4_) (r5_) (r6_) (r7_)))) (O_ (t_) (p_) (h_) (l) (r0_) (r1_) (r2_) (r3_) (r4_) (r5_) (r6_) (r7_) ((0,0,false))))))
def JV (s:MS) (a t_ p_ h_:Int) (l:List (Int×Int)) (cu:List (Int×Int)) (re:List (Int×Int)) (r0_ r1_ r2_ r3_ r4_ r5_ r6_ r7_:Int):Prop:=s=⟨t_,p_,h_,l,r0_,r1_,r2_,r3_,r4_,r5_,r6_,r7_⟩∧(∀x∈re,x∈l)∧(∀x∈l,x.1=a→x∈re)
theorem AlS (s:MS) (a t p h:Int) (l:List (Int×Int)) (x0 x1 x2 x3 x4 x5 x6 x7:Int) (hp0:Dk s.l) (hx:D6 ⟨t,p,h,l,x0,x1,x2,x3,x4,x5,x6,x7⟩ (s)):Abe s a t p h l x0 x1 x2 x3 x4 x5 x6 x7 (λt_' p_' h_' l' cu' re' r0_' r1_' r2_' r3_' r4_' r5_' r6_' r7_'=>JV s a t_' p_' h_' l' cu' re' r0_' r1_' r2_' r3_' r4_' r5_' r6_' r7_') (λr__=>r__=(SA s a)) (λt_ p_ h_ l_ x0_ x1_ x2_ x3_ x4_ x5_ x6_ x7_ r_=>D6 ⟨t_,p_,h_,l_,x0_,x1_,x2_,x3_,x4_,x5_,x6_,x7_⟩ (s)∧r_=(SA s a)):=by
 have key:∀x:MS,D6 x s→Abe s a x.t x.p x.h x.l x.r0 x.r1 x.r2 x.r3 x.r4 x.r5 x.r6 x.r7 (λt_' p_' h_' l' cu' re' r0_' r1_' r2_' r3_' r4_' r5_' r6_' r7_'=>JV s a t_' p_' h_' l' cu' re' r0_' r1_' r2_' r3_' r4_' r5_' r6_' r7_') (λr__=>r__=(SA s a)) (λt_ p_ h_ l_ x0_ x1_ x2_ x3_ x4_ x5_ x6_ x7_ r_=>D6 ⟨t_,p_,h_,l_,x0_,x1_,x2_,x3_,x4_,x5_,x6_,x7_⟩ (s)∧r_=(SA s a)):=by
  intro x ho
  unfold Abe
  try unfold JV
  cases (show x=s from ho)
  exact ⟨rfl, λx hx=>hx, λx hx _=>hx⟩
 exact key ⟨t,p,h,l,x0,x1,x2,x3,x4,x5,x6,x7⟩ hx
theorem AlT (s:MS) (a:Int) (hp0:Dk s.l) (t_ p_ h_:Int) (l:List (Int×Int)) (cu:List (Int×Int)) (re:List (Int×Int)) (r0_ r1_ r2_ r3_ r4_ r5_ r6_ r7_:Int) (hI:JV s a t_ p_ h_ l cu re r0_ r1_ r2_ r3_ r4_ r5_ r6_ r7_):Aky s a t_ p_ h_ l cu re r0_ r1_ r2_ r3_ r4_ r5_ r6_ r7_ (λt_' p_' h_' l' cu' re' r0_' r1_' r2_' r3_' r4_' r5_' r6_' r7_'=>JV s a t_' p_' h_' l' cu' re' r0_' r1_' r2_' r3_' r4_' r5_' r6_' r7_'∧lx (re'.length,0,0) (re.length,0,0)) (λr__=>r__=(SA s a)) (λt_ p_ h_ l_ x0_ x1_ x2_ x3_ x4_ x5_ x6_ x7_ r_=>D6 ⟨t_,p_,h_,l_,x0_,x1_,x2_,x3_,x4_,x5_,x6_,x7_⟩ (s)∧r_=(SA s a)):=by
 unfold JV at hI
 unfold Aky
 try unfold JV
 obtain ⟨rfl,h1,h2⟩:=hI
 refine ⟨λhn=>⟨λhx=>(by cases hx), λ_=>⟨rfl,?_⟩⟩, λhn n=>⟨λ_=>⟨rfl, λ_=>⟨λhx=>⟨rfl,?_⟩, λhx=>?_⟩⟩, λhx=>(by cases hx)⟩⟩
 ·refine (Aqv λx hx he=>?_).symm
  have:=h2 x hx he
  cases re with
  |nil=>cases this
  |cons _ _=>cases hn
 ·have hx:((Dq re n).1==a)=true:=hx
  have hx:(Dq re n).1=a:=by simpa using hx
  subst hx
  exact (Aqw hp0 (h1 _ (Ahy hn n))).symm
 ·have hx:((Dq re n).1==a)=false:=hx
  have hx:(Dq re n).1≠a:=by simpa using hx
  have hlen:=Ahz hn n
  exact ⟨⟨rfl, λx hm=>h1 x (Ah0 n hm), λx hm he=>AoI (h2 x hm he) λe=>hx (by rw [←e];exact he)⟩,Bo⟩
theorem Aqx:DV 22 Anu:=
 Gg Dg Gh true V4 (I:=[103000000000,103000000001,103000000004,103000000011]) Try.func22 mix (B:=AP Try.f22) (by kernel_rfl) rfl (by kernel_rfl) 400
  λo s a hb hp=>have hp0:Dk s.l:=hp _ (.head _);⟨s,s,(SA s a),[⟨none,[0,1,0,1],[.blk 0, .code [1,1]],[0,1,4,11],[.boxc o TD.t TD.l, .ic .i64 (a), .box 55 [.ic .i64 (0), .ic .i64 (0)], .agi 1]⟩],[.run], λj=>iN [Ag (Hd.kd (⟨none,[0,1,0,1],[.blk 0, .code [1,1]],[0,1,4,11],[.boxc o TD.t TD.l, .ic .i64 (a), .box 55 [.ic .i64 (0), .ic .i64 (0)], .agi 1]⟩:Hd Sg)) (λt_' p_' h_' l' cu' re' r0_' r1_' r2_' r3_' r4_' r5_' r6_' r7_'=>JV s a t_' p_' h_' l' cu' re' r0_' r1_' r2_' r3_' r4_' r5_' r6_' r7_')] j (λ_=>False), λj=>iN [Ag (Hd.kd (⟨none,[0,1,0,1],[.blk 0, .code [1,1]],[0,1,4,11],[.boxc o TD.t TD.l, .ic .i64 (a), .box 55 [.ic .i64 (0), .ic .i64 (0)], .agi 1]⟩:Hd Sg)) (λt_' p_' h_' l' cu' re' r0_' r1_' r2_' r3_' r4_' r5_' r6_' r7_'=>(re'.length,0,0))] j (λ_=>(0,0,0)),by kernel_rfl, λ_ _=>by kernel_rfl,by kernel_rfl, λt p h l x0 x1 x2 x3 x4 x5 x6 x7 hx=>⟨Abe s a t p h l x0 x1 x2 x3 x4 x5 x6 x7 (λt_' p_' h_' l' cu' re' r0_' r1_' r2_' r3_' r4_' r5_' r6_' r7_'=>JV s a t_' p_' h_' l' cu' re' r0_' r1_' r2_' r3_' r4_' r5_' r6_' r7_') (λr__=>r__=(SA s a)) (λt_ p_ h_ l_ x0_ x1_ x2_ x3_ x4_ x5_ x6_ x7_ r_=>D6 ⟨t_,p_,h_,l_,x0_,x1_,x2_,x3_,x4_,x5_,x6_,x7_⟩ (s)∧r_=(SA s a)), λ_ _ _ _=>by kernel_rfl,AlS s a t p h l x0 x1 x2 x3 x4 x5 x6 x7 hp0 hx⟩,⟨λt_ p_ h_ l cu re r0_ r1_ r2_ r3_ r4_ r5_ r6_ r7_ hI=>⟨_, λ_ _ _=>by kernel_rfl,AlT s a hp0 t_ p_ h_ l cu re r0_ r1_ r2_ r3_ r4_ r5_ r6_ r7_ hI⟩,trivial⟩⟩
def Anv:Tb:=(22,Anu)::Ae8
theorem Ae9:D7 Anv:=Ea Aqx V4
def Eu (s:MS) (a z a2 z2:Int):Bool:=JI s.t s.p s.h a z&&s.l.all λx=>okB x (a,z) (a2,z2)
abbrev AoJ:Ct Sg:=⟨some Du,true,[.agg [.i .i64, .i .i64], .agg [.i .i64, .i .i64]], .b⟩
def Ah2:Entry Sg:=BU AoJ (λ(s:MS) (a:Int) (z:Int) (a2:Int) (z2:Int)=>JI s.t s.p s.h a z&&s.l.all λx=>okB x (a,z) (a2,z2)) (λ_ _ _ _ _=>[])
def SB (s:MS) (a z a2 z2 t p h:Int) (l:List (Int×Int)) (x0 x1 x2 x3 x4 x5 x6 x7:Int) (Q0:Int→Int→Int→List (Int×Int)→List (Int×Int)→List (Int×Int)→Int→Int→Int→Int→Int→Int→Int→Int→Prop) (R_:Bool→Prop) (O_:Int→Int→Int→List (Int×Int)→Int→Int→Int→Int→Int→Int→Int→Int→Bool→Prop):Prop:=(AV (!(decide (z≥1)&&decide (a≥G9 t p h)&&decide (z≤DW t p h)&&decide (a≤iO iB (iO iB (G9 t p h+DW t p h)-z)))) (O_ (t) (p) (h) (l) (x0) (x1) (x2) (x3) (x4) (x5) (x6) (x7) (false)) (Q0 (t) (p) (h) (l) ([]) (l) (x0) (x1) (x2) (x3) (x4) (x5) (x6) (x7)))
def AeA (s:MS) (a z a2 z2 t_ p_ h_:Int) (l:List (Int×Int)) (cu:List (Int×Int)) (re:List (Int×Int)) (r0_ r1_ r2_ r3_ r4_ r5_ r6_ r7_:Int) (Q0:Int→Int→Int→List (Int×Int)→List (Int×Int)→List (Int×Int)→Int→Int→Int→Int→Int→Int→Int→Int→Prop) (R_:Bool→Prop) (O_:Int→Int→Int→List (Int×Int)→Int→Int→Int→Int→Int→Int→Int→Int→Bool→Prop):Prop:=(AV (PV re) (AV (false) (Ap (Ry cu=true) (AV (!(kM (hdB cu)==a2&&(mI (hdB cu)==z2&&true))&&Ed (kM (hdB cu)) (mI (hdB cu)) a z) (O_ (t_) (p_) (h_) (l) (r0_) (r1_) (r2_) (r3_) (r4_) (r5_) (r6_) (r7_) (false)) (Q0 (t_) (p_) (h_) (l) (cu) (re) (r0_) (r1_) (r2_) (r3_) (r4_) (r5_) (r6_) (r7_)))) (O_ (t_) (p_) (h_) (l) (r0_) (r1_) (r2_) (r3_) (r4_) (r5_) (r6_) (r7_) (true))) (∀n1_:Nat,(AV (true) (Ap (Ry [Dq re n1_]=true) (AV (!(kM (hdB [Dq re n1_])==a2&&(mI (hdB [Dq re n1_])==z2&&true))&&Ed (kM (hdB [Dq re n1_])) (mI (hdB [Dq re n1_])) a z) (O_ (t_) (p_) (h_) (l) (r0_) (r1_) (r2_) (r3_) (r4_) (r5_) (r6_) (r7_) (false)) (Q0 (t_) (p_) (h_) (l) ([Dq re n1_]) (Hf re n1_) (r0_) (r1_) (r2_) (r3_) (r4_) (r5_) (r6_) (r7_)))) (O_ (t_) (p_) (h_) (l) (r0_) (r1_) (r2_) (r3_) (r4_) (r5_) (r6_) (r7_) (true)))))
def IC (s:MS) (a z a2 z2 t_ p_ h_:Int) (l:List (Int×Int)) (cu:List (Int×Int)) (re:List (Int×Int)) (r0_ r1_ r2_ r3_ r4_ r5_ r6_ r7_:Int):Prop:=s=⟨t_,p_,h_,l,r0_,r1_,r2_,r3_,r4_,r5_,r6_,r7_⟩∧JI s.t s.p s.h a z=true∧s.l.all (λx=>okB x (a,z) (a2,z2))=re.all λx=>okB x (a,z) (a2,z2)
theorem Ah3 (s:MS) (a z a2 z2 t p h:Int) (l:List (Int×Int)) (x0 x1 x2 x3 x4 x5 x6 x7:Int) (hx:D6 ⟨t,p,h,l,x0,x1,x2,x3,x4,x5,x6,x7⟩ (s)):SB s a z a2 z2 t p h l x0 x1 x2 x3 x4 x5 x6 x7 (λt_' p_' h_' l' cu' re' r0_' r1_' r2_' r3_' r4_' r5_' r6_' r7_'=>IC s a z a2 z2 t_' p_' h_' l' cu' re' r0_' r1_' r2_' r3_' r4_' r5_' r6_' r7_') (λr__=>r__=(Eu s a z a2 z2)) (λt_ p_ h_ l_ x0_ x1_ x2_ x3_ x4_ x5_ x6_ x7_ r_=>D6 ⟨t_,p_,h_,l_,x0_,x1_,x2_,x3_,x4_,x5_,x6_,x7_⟩ (s)∧r_=(Eu s a z a2 z2)):=by
 have key:∀x:MS,D6 x s→SB s a z a2 z2 x.t x.p x.h x.l x.r0 x.r1 x.r2 x.r3 x.r4 x.r5 x.r6 x.r7 (λt_' p_' h_' l' cu' re' r0_' r1_' r2_' r3_' r4_' r5_' r6_' r7_'=>IC s a z a2 z2 t_' p_' h_' l' cu' re' r0_' r1_' r2_' r3_' r4_' r5_' r6_' r7_') (λr__=>r__=(Eu s a z a2 z2)) (λt_ p_ h_ l_ x0_ x1_ x2_ x3_ x4_ x5_ x6_ x7_ r_=>D6 ⟨t_,p_,h_,l_,x0_,x1_,x2_,x3_,x4_,x5_,x6_,x7_⟩ (s)∧r_=(Eu s a z a2 z2)):=by
  intro x ho
  unfold SB
  try unfold IC
  cases (show x=s from ho)
  refine ⟨λhc=>⟨rfl,?_⟩, λhc=>⟨rfl,?_,rfl⟩⟩
  ·have hc:JI s.t s.p s.h a z=false:=(kU _).mp hc
   unfold Eu
   rw [hc,Bool.false_and]
  ·exact (lO _).mp hc
 exact key ⟨t,p,h,l,x0,x1,x2,x3,x4,x5,x6,x7⟩ hx
theorem Ah4 (s:MS) (a z a2 z2 t_ p_ h_:Int) (l:List (Int×Int)) (cu:List (Int×Int)) (re:List (Int×Int)) (r0_ r1_ r2_ r3_ r4_ r5_ r6_ r7_:Int) (hI:IC s a z a2 z2 t_ p_ h_ l cu re r0_ r1_ r2_ r3_ r4_ r5_ r6_ r7_):AeA s a z a2 z2 t_ p_ h_ l cu re r0_ r1_ r2_ r3_ r4_ r5_ r6_ r7_ (λt_' p_' h_' l' cu' re' r0_' r1_' r2_' r3_' r4_' r5_' r6_' r7_'=>IC s a z a2 z2 t_' p_' h_' l' cu' re' r0_' r1_' r2_' r3_' r4_' r5_' r6_' r7_'∧lx (re'.length,0,0) (re.length,0,0)) (λr__=>r__=(Eu s a z a2 z2)) (λt_ p_ h_ l_ x0_ x1_ x2_ x3_ x4_ x5_ x6_ x7_ r_=>D6 ⟨t_,p_,h_,l_,x0_,x1_,x2_,x3_,x4_,x5_,x6_,x7_⟩ (s)∧r_=(Eu s a z a2 z2)):=by
 unfold IC at hI
 unfold AeA
 try unfold IC
 obtain ⟨rfl,h1,h2⟩:=hI
 refine ⟨λhn=>⟨λhx=>(by cases hx), λ_=>⟨rfl,?_⟩⟩, λhn n=>⟨λ_=>⟨rfl, λ_=>⟨λhx=>⟨rfl,?_⟩, λhx=>?_⟩⟩, λhx=>(by cases hx)⟩⟩
 ·have hr:re=[]:=by cases re with|nil=>rfl|cons _ _=>cases hn
  unfold Eu
  dsimp only at h2 ⊢
  rw [h1,h2,hr];rfl
 ·have hx:okB (Dq re n) (a,z) (a2,z2)=false:=by
   unfold okB;exact (lO _).mpr hx
  unfold Eu
  dsimp only at h2 ⊢
  rw [h1,h2,Ah1 hn n,hx];rfl
 ·have hx:okB (Dq re n) (a,z) (a2,z2)=true:=by
   unfold okB;exact (kU _).mpr hx
  have hlen:=Ahz hn n
  refine ⟨⟨rfl,h1,?_⟩,Bo⟩
  rw [h2,Ah1 hn n,hx,oO]
theorem Anw:DV 21 Ah2:=
 Gg Dg Gh true Ae9 (I:=[61,411000000000,411000000004,411000000005,411000000016]) Try.func21 mix (B:=AP Try.f21) (by kernel_rfl) rfl (by kernel_rfl) 400
  λo s a z a2 z2 hb hp=>⟨s,s,(Eu s a z a2 z2),[⟨none,[0,1,0,1,1],[.blk 0, .code [1,1,1]],[0,4,5,16],[.boxc o TD.t TD.l, .box 55 [.ic .i64 (a), .ic .i64 (z)], .box 55 [.ic .i64 (a2), .ic .i64 (z2)], .agi 1]⟩],[.run], λj=>iN [Ag (Hd.kd (⟨none,[0,1,0,1,1],[.blk 0, .code [1,1,1]],[0,4,5,16],[.boxc o TD.t TD.l, .box 55 [.ic .i64 (a), .ic .i64 (z)], .box 55 [.ic .i64 (a2), .ic .i64 (z2)], .agi 1]⟩:Hd Sg)) (λt_' p_' h_' l' cu' re' r0_' r1_' r2_' r3_' r4_' r5_' r6_' r7_'=>IC s a z a2 z2 t_' p_' h_' l' cu' re' r0_' r1_' r2_' r3_' r4_' r5_' r6_' r7_')] j (λ_=>False), λj=>iN [Ag (Hd.kd (⟨none,[0,1,0,1,1],[.blk 0, .code [1,1,1]],[0,4,5,16],[.boxc o TD.t TD.l, .box 55 [.ic .i64 (a), .ic .i64 (z)], .box 55 [.ic .i64 (a2), .ic .i64 (z2)], .agi 1]⟩:Hd Sg)) (λt_' p_' h_' l' cu' re' r0_' r1_' r2_' r3_' r4_' r5_' r6_' r7_'=>(re'.length,0,0))] j (λ_=>(0,0,0)),by kernel_rfl, λ_ _=>by kernel_rfl,by kernel_rfl, λt p h l x0 x1 x2 x3 x4 x5 x6 x7 hx=>⟨SB s a z a2 z2 t p h l x0 x1 x2 x3 x4 x5 x6 x7 (λt_' p_' h_' l' cu' re' r0_' r1_' r2_' r3_' r4_' r5_' r6_' r7_'=>IC s a z a2 z2 t_' p_' h_' l' cu' re' r0_' r1_' r2_' r3_' r4_' r5_' r6_' r7_') (λr__=>r__=(Eu s a z a2 z2)) (λt_ p_ h_ l_ x0_ x1_ x2_ x3_ x4_ x5_ x6_ x7_ r_=>D6 ⟨t_,p_,h_,l_,x0_,x1_,x2_,x3_,x4_,x5_,x6_,x7_⟩ (s)∧r_=(Eu s a z a2 z2)), λ_ _ _ _=>by kernel_rfl,Ah3 s a z a2 z2 t p h l x0 x1 x2 x3 x4 x5 x6 x7 hx⟩,⟨λt_ p_ h_ l cu re r0_ r1_ r2_ r3_ r4_ r5_ r6_ r7_ hI=>⟨_, λ_ _ _=>by kernel_rfl,Ah4 s a z a2 z2 t_ p_ h_ l cu re r0_ r1_ r2_ r3_ r4_ r5_ r6_ r7_ hI⟩,trivial⟩⟩
def Ah5:Tb:=(21,Ah2)::Anv
theorem Aj2:D7 Ah5:=Ea Anw Ae9
end
section
open Go.Sl
def AeB:Tb:=Ah5
theorem V5:D7 AeB:=Aj2
def Hr (xa xz:LI) (u0 u1 u2 u3 u4 u5 u6 u7:Int) (ya yz:LI) (v0 v1 v2 v3 v4 v5 v6 v7:Int):Bool:=decide (xa=ya∧xz=yz)&&(u0==v0&&(u1==v1&&(u2==v2&&(u3==v3&&(u4==v4&&(u5==v5&&(u6==v6&&(u7==v7&&true))))))))
abbrev AlU:Ct Sg:=⟨none,false,[.agg [.ro [some .i64,some .i64], .i .i64, .i .i64, .i .i64, .i .i64, .i .i64, .i .i64, .i .i64, .i .i64], .agg [.ro [some .i64,some .i64], .i .i64, .i .i64, .i .i64, .i .i64, .i .i64, .i .i64, .i .i64, .i .i64]], .b⟩
def Abf:Entry Sg:=BU AlU Hr (λxa xz u0 u1 u2 u3 u4 u5 u6 u7 ya yz v0 v1 v2 v3 v4 v5 v6 v7=>[xa.length=xz.length,ya.length=yz.length])
def Abg (xa xz:LI) (u0 u1 u2 u3 u4 u5 u6 u7:Int) (ya yz:LI) (v0 v1 v2 v3 v4 v5 v6 v7:Int) (Q0:Int→Prop) (R_:Bool→Prop):Prop:=(AV ((↑(iH xa):Int) !=(↑(iH ya):Int)||!(u0==v0&&(u1==v1&&(u2==v2&&(u3==v3&&(u4==v4&&(u5==v5&&(u6==v6&&(u7==v7&&true))))))))) (R_ (false)) (Q0 (0)))
def XI (xa xz:LI) (u0 u1 u2 u3 u4 u5 u6 u7:Int) (ya yz:LI) (v0 v1 v2 v3 v4 v5 v6 v7 i:Int) (Q0:Int→Prop) (R_:Bool→Prop):Prop:=(AV (decide (i<(↑(iH xa):Int))) (Ap (0≤i∧i<(↑(iH xa):Int)) (Ap (0≤i∧i<(↑(iH ya):Int)) (AV (!(iN xa (jI i) 0==iN ya (jI i) 0&&(iN xz (jI i) 0==iN yz (jI i) 0&&true))) (R_ (false)) (Q0 (iO iB (i+1)))))) (R_ (true)))
def IQ (xa xz:LI) (u0 u1 u2 u3 u4 u5 u6 u7:Int) (ya yz:LI) (v0 v1 v2 v3 v4 v5 v6 v7 i:Int) (r_:Bool):Prop:=0≤i∧i≤xa.length∧xa.length=ya.length∧(∀j:Nat,j<i.toNat→xa.getD j 0=ya.getD j 0∧xz.getD j 0=yz.getD j 0)∧r_=decide (xa=ya∧xz=yz)
abbrev Qi (p0:Addr) (xa xz:LI) (u0 u1 u2 u3 u4 u5 u6 u7:Int) (ya yz:LI) (v0 v1 v2 v3 v4 v5 v6 v7:Int):Hd Sg:=⟨none,[0,1,0,1,1],[.blk 0, .code [1,1,1]],[5,2,3],[.i .i64, .box 27 [.roc [.ints .i64 (xa), .ints .i64 (xz)], .ic .i64 (u0), .ic .i64 (u1), .ic .i64 (u2), .ic .i64 (u3), .ic .i64 (u4), .ic .i64 (u5), .ic .i64 (u6), .ic .i64 (u7)], .box 27 [.roc [.ints .i64 (ya), .ints .i64 (yz)], .ic .i64 (v0), .ic .i64 (v1), .ic .i64 (v2), .ic .i64 (v3), .ic .i64 (v4), .ic .i64 (v5), .ic .i64 (v6), .ic .i64 (v7)]]⟩
theorem Ade (xa xz:LI) (u0 u1 u2 u3 u4 u5 u6 u7:Int) (ya yz:LI) (v0 v1 v2 v3 v4 v5 v6 v7:Int) (hp0:xa.length=xz.length) (hp1:ya.length=yz.length) (hl0:xa.length≤9223372036854775807) (hl1:ya.length≤9223372036854775807):Abg xa xz u0 u1 u2 u3 u4 u5 u6 u7 ya yz v0 v1 v2 v3 v4 v5 v6 v7 (λi'=>IQ xa xz u0 u1 u2 u3 u4 u5 u6 u7 ya yz v0 v1 v2 v3 v4 v5 v6 v7 i' (Hr xa xz u0 u1 u2 u3 u4 u5 u6 u7 ya yz v0 v1 v2 v3 v4 v5 v6 v7)) (λr__=>r__=(Hr xa xz u0 u1 u2 u3 u4 u5 u6 u7 ya yz v0 v1 v2 v3 v4 v5 v6 v7)):=by
 unfold Abg
 try unfold IQ
 refine ⟨λh=>?_, λh=>?_⟩
 ·show false=Hr xa xz u0 u1 u2 u3 u4 u5 u6 u7 ya yz v0 v1 v2 v3 v4 v5 v6 v7
  revert h
  unfold Hr
  generalize (u0==v0&&(u1==v1&&(u2==v2&&(u3==v3&&(u4==v4&&(u5==v5&&(u6==v6&&(u7==v7&&true))))))))=e
  intro h
  cases e with
  |false=>simp
  |true=>
   have hne:xa≠ya:= λe2=>by rw [e2] at h;simp at h
   simp [hne]
 ·have hh:xa.length=ya.length∧(u0==v0&&(u1==v1&&(u2==v2&&(u3==v3&&(u4==v4&&(u5==v5&&(u6==v6&&(u7==v7&&true))))))))=true:=by
   simp only [kH,lO,bne_eq_false_iff_eq] at h
   exact ⟨by have:=h.1;omega,h.2⟩
  refine ⟨by omega,by omega,hh.1, λj hj=>absurd hj (kB j),?_⟩
  unfold Hr
  rw [hh.2,Bool.and_true]
theorem Adf (xa xz:LI) (u0 u1 u2 u3 u4 u5 u6 u7:Int) (ya yz:LI) (v0 v1 v2 v3 v4 v5 v6 v7:Int) (hp0:xa.length=xz.length) (hp1:ya.length=yz.length) (hl0:xa.length≤9223372036854775807) (hl1:ya.length≤9223372036854775807) (i:Int) {r_:Bool} (hI:IQ xa xz u0 u1 u2 u3 u4 u5 u6 u7 ya yz v0 v1 v2 v3 v4 v5 v6 v7 i r_):XI xa xz u0 u1 u2 u3 u4 u5 u6 u7 ya yz v0 v1 v2 v3 v4 v5 v6 v7 i (λi'=>IQ xa xz u0 u1 u2 u3 u4 u5 u6 u7 ya yz v0 v1 v2 v3 v4 v5 v6 v7 i' r_∧lx ((xa.length-i').toNat,0,0) ((xa.length-i).toNat,0,0)) (λr__=>r__=r_):=by
 unfold IQ at hI
 unfold XI
 try unfold IQ
 obtain ⟨h0,h1,h2,h3,h4⟩:=hI
 refine ⟨λh=>?_, λh=>?_⟩
 ·simp only [decide_eq_true_eq] at h
  refine ⟨⟨h0,h⟩, λ_=>⟨⟨h0,by omega⟩, λ_=>⟨λhn=>?_, λhn=>?_⟩⟩⟩
  ·show false=r_
   rw [h4]
   symm
   simp only [decide_eq_false_iff_not]
   rintro ⟨rfl,rfl⟩
   simp at hn
  ·rw [Hm (n:=i+1) (by omega)]
   refine ⟨⟨by omega,by omega,h2, λj hj=>?_,h4⟩,Bo⟩
   by_cases hji:j=i.toNat
   ·subst hji;simpa using hn
   ·exact h3 j (by omega)
 ·simp only [decide_eq_false_iff_not] at h
  show true=r_
  rw [h4]
  symm
  simp only [decide_eq_true_eq]
  exact ⟨YO h2 λj hj=>(h3 j (by omega)).1,YO (by omega) λj hj=>(h3 j (by omega)).2⟩
theorem Aj3:DV 11 Abf:=
 LC Dg V5 (I:=[411000000005,411000000002,411000000003]) Try.func11 mix (B:=AP Try.f11) (by kernel_rfl) rfl (by kernel_rfl) 400
  λp0 xa xz u0 u1 u2 u3 u4 u5 u6 u7 ya yz v0 v1 v2 v3 v4 v5 v6 v7 hb hp=>have hl0:xa.length≤9223372036854775807:=hb.1.1;have hl1:ya.length≤9223372036854775807:=hb.2.1.1;have hp0:xa.length=xz.length:=hp _ (.head _);have hp1:ya.length=yz.length:=hp _ (.tail _ (.head _));⟨[Qi p0 xa xz u0 u1 u2 u3 u4 u5 u6 u7 ya yz v0 v1 v2 v3 v4 v5 v6 v7], λj=>iN [Ag (Hd.kd (Qi p0 xa xz u0 u1 u2 u3 u4 u5 u6 u7 ya yz v0 v1 v2 v3 v4 v5 v6 v7)) (λi'=>IQ xa xz u0 u1 u2 u3 u4 u5 u6 u7 ya yz v0 v1 v2 v3 v4 v5 v6 v7 i' (Hr xa xz u0 u1 u2 u3 u4 u5 u6 u7 ya yz v0 v1 v2 v3 v4 v5 v6 v7))] j (λ_=>False), λj=>iN [Ag (Hd.kd (Qi p0 xa xz u0 u1 u2 u3 u4 u5 u6 u7 ya yz v0 v1 v2 v3 v4 v5 v6 v7)) (λi'=>((xa.length-i').toNat,0,0))] j (λ_=>(0,0,0)),by kernel_rfl,⟨_, λ_ _ _=>by kernel_rfl,Ade xa xz u0 u1 u2 u3 u4 u5 u6 u7 ya yz v0 v1 v2 v3 v4 v5 v6 v7 hp0 hp1 hl0 hl1⟩,⟨λi hI=>⟨_, λ_ _ _=>by kernel_rfl,Adf xa xz u0 u1 u2 u3 u4 u5 u6 u7 ya yz v0 v1 v2 v3 v4 v5 v6 v7 hp0 hp1 hl0 hl1 i hI⟩,trivial⟩⟩
def SC:Tb:=(11,Abf)::AeB
theorem ND:D7 SC:=Ea Aj3 V5
end
section
open Go.Sl
def KL (s:MS) (i:Int):Int×Bool:=bif decide (i<0)||decide (i≥8) then (0,false) else ([s.r0,s.r1,s.r2,s.r3,s.r4,s.r5,s.r6,s.r7].getD i.toNat 0,true)
def ApI (t p h:Int):MS:=⟨t,p,h,[],0,0,0,0,0,0,0,0⟩
abbrev Aqy:Ct Sg:=⟨none,false,[.agg [.i .i64, .i .i64, .i .i64]], .nobj Du⟩
def Akz:Entry Sg:=BU Aqy (λ(t:Int) (p:Int) (h:Int)=>⟨t,p,h,[],0,0,0,0,0,0,0,0⟩) (λt p h=>[BZ t p h=0])
def Ak0 (t p h:Int) (Q0:Int→Prop) (O_:Int→Int→Int→List (Int×Int)→Int→Int→Int→Int→Int→Int→Int→Int→Prop):Prop:=(AV (BZ t p h !=0) (Q0 (BZ t p h)) (O_ (t) (p) (h) ([]) (0) (0) (0) (0) (0) (0) (0) (0)))
def YS (t p h q_:Int):Prop:=False
theorem Aj4 (t p h:Int) (hp0:BZ t p h=0):Ak0 t p h (λq_'=>YS t p h q_') (λt_ p_ h_ l_ x0_ x1_ x2_ x3_ x4_ x5_ x6_ x7_=>D6 ⟨t_,p_,h_,l_,x0_,x1_,x2_,x3_,x4_,x5_,x6_,x7_⟩ ((ApI t p h))):=by
 unfold Ak0
 try unfold YS
 refine ⟨λh=>?_, λ_=>rfl⟩
 rw [hp0] at h;cases h
theorem AoK:DV 16 Akz:=
 Ane Dg Gh ND (I:=[1358000]) Try.func16 mix (B:=AP Try.f16) (by kernel_rfl) rfl (by kernel_rfl) 400
  λp0 t p h hb hp=>have hp0:BZ t p h=0:=hp _ (.head _);⟨(ApI t p h),[⟨some 0,[0,0,1,0,1],[.code [1,0,1,0,1], .code [1,1]],[4],[.i .i64]⟩],[.run], λj=>iN [Ag (Hd.kd (⟨some 0,[0,0,1,0,1],[.code [1,0,1,0,1], .code [1,1]],[4],[.i .i64]⟩:Hd Sg)) (λq_'=>YS t p h q_')] j (λ_=>False), λj=>iN [Ag (Hd.kd (⟨some 0,[0,0,1,0,1],[.code [1,0,1,0,1], .code [1,1]],[4],[.i .i64]⟩:Hd Sg)) (λq_'=>(0,0,0))] j (λ_=>(0,0,0)),by kernel_rfl, λ_=>rfl,by kernel_rfl,by kernel_rfl,⟨_, λ_ _ _=>by kernel_rfl,Aj4 t p h hp0⟩,⟨λq_ hI=>False.elim hI,trivial⟩⟩
def Ak1:Tb:=(16,Akz)::SC
theorem Abh:D7 Ak1:=Ea AoK ND
def Gt (s:MS) (i:Int):Int×Bool:=KL s i
abbrev AoL:Ct Sg:=⟨some Du,true,[.i .i64], .tup [.i .i64, .b]⟩
def Ah6:Entry Sg:=BU AoL (λ(s:MS) (i:Int)=>KL s i) (λ_ _=>[])
def Ah7 (s:MS) (i:Int) (Q0:MS→Int→Prop) (Q1:Int→Int→Int→List (Int×Int)→Int→Int→Int→Int→Int→Int→Int→Int→Int→Prop) (R_:Int×Bool→Prop) (O_:Int→Int→Int→List (Int×Int)→Int→Int→Int→Int→Int→Int→Int→Int→Int×Bool→Prop):Prop:=(AV (decide (i<0)||decide (i≥8)) (R_ ((0,false))) (Q0 (s) (i)))
def AeC (s:MS) (i:Int) (u:MS) (i_ t_ p_ h_:Int) (l_:List (Int×Int)) (x0_ x1_ x2_ x3_ x4_ x5_ x6_ x7_:Int) (Q1:Int→Int→Int→List (Int×Int)→Int→Int→Int→Int→Int→Int→Int→Int→Int→Prop):Prop:=(Q1 (t_) (p_) (h_) (l_) (x0_) (x1_) (x2_) (x3_) (x4_) (x5_) (x6_) (x7_) (i_))
def Eb (s:MS) (i:Int) (u:MS) (i_:Int):Prop:=u=s∧i_=i∧0≤i∧i<8
def XJ (s:MS) (i t_ p_ h_:Int) (l_:List (Int×Int)) (r0_ r1_ r2_ r3_ r4_ r5_ r6_ r7_:Int) (Q0:MS→Int→Prop) (Q1:Int→Int→Int→List (Int×Int)→Int→Int→Int→Int→Int→Int→Int→Int→Int→Prop) (R_:Int×Bool→Prop) (O_:Int→Int→Int→List (Int×Int)→Int→Int→Int→Int→Int→Int→Int→Int→Int×Bool→Prop):Prop:=(Ap ((0:Int)≤0∧(0:Int)<8) (O_ (t_) (p_) (h_) (l_) (r0_) (r1_) (r2_) (r3_) (r4_) (r5_) (r6_) (r7_) ((r0_,true))))
def XK (s:MS) (i t_ p_ h_:Int) (l_:List (Int×Int)) (r0_ r1_ r2_ r3_ r4_ r5_ r6_ r7_:Int) (Q0:MS→Int→Prop) (Q1:Int→Int→Int→List (Int×Int)→Int→Int→Int→Int→Int→Int→Int→Int→Int→Prop) (R_:Int×Bool→Prop) (O_:Int→Int→Int→List (Int×Int)→Int→Int→Int→Int→Int→Int→Int→Int→Int×Bool→Prop):Prop:=(Ap ((0:Int)≤1∧(1:Int)<8) (O_ (t_) (p_) (h_) (l_) (r0_) (r1_) (r2_) (r3_) (r4_) (r5_) (r6_) (r7_) ((r1_,true))))
def XL (s:MS) (i t_ p_ h_:Int) (l_:List (Int×Int)) (r0_ r1_ r2_ r3_ r4_ r5_ r6_ r7_:Int) (Q0:MS→Int→Prop) (Q1:Int→Int→Int→List (Int×Int)→Int→Int→Int→Int→Int→Int→Int→Int→Int→Prop) (R_:Int×Bool→Prop) (O_:Int→Int→Int→List (Int×Int)→Int→Int→Int→Int→Int→Int→Int→Int→Int×Bool→Prop):Prop:=(Ap ((0:Int)≤2∧(2:Int)<8) (O_ (t_) (p_) (h_) (l_) (r0_) (r1_) (r2_) (r3_) (r4_) (r5_) (r6_) (r7_) ((r2_,true))))
def XM (s:MS) (i t_ p_ h_:Int) (l_:List (Int×Int)) (r0_ r1_ r2_ r3_ r4_ r5_ r6_ r7_:Int) (Q0:MS→Int→Prop) (Q1:Int→Int→Int→List (Int×Int)→Int→Int→Int→Int→Int→Int→Int→Int→Int→Prop) (R_:Int×Bool→Prop) (O_:Int→Int→Int→List (Int×Int)→Int→Int→Int→Int→Int→Int→Int→Int→Int×Bool→Prop):Prop:=(Ap ((0:Int)≤3∧(3:Int)<8) (O_ (t_) (p_) (h_) (l_) (r0_) (r1_) (r2_) (r3_) (r4_) (r5_) (r6_) (r7_) ((r3_,true))))
def XN (s:MS) (i t_ p_ h_:Int) (l_:List (Int×Int)) (r0_ r1_ r2_ r3_ r4_ r5_ r6_ r7_:Int) (Q0:MS→Int→Prop) (Q1:Int→Int→Int→List (Int×Int)→Int→Int→Int→Int→Int→Int→Int→Int→Int→Prop) (R_:Int×Bool→Prop) (O_:Int→Int→Int→List (Int×Int)→Int→Int→Int→Int→Int→Int→Int→Int→Int×Bool→Prop):Prop:=(Ap ((0:Int)≤4∧(4:Int)<8) (O_ (t_) (p_) (h_) (l_) (r0_) (r1_) (r2_) (r3_) (r4_) (r5_) (r6_) (r7_) ((r4_,true))))
def XO (s:MS) (i t_ p_ h_:Int) (l_:List (Int×Int)) (r0_ r1_ r2_ r3_ r4_ r5_ r6_ r7_:Int) (Q0:MS→Int→Prop) (Q1:Int→Int→Int→List (Int×Int)→Int→Int→Int→Int→Int→Int→Int→Int→Int→Prop) (R_:Int×Bool→Prop) (O_:Int→Int→Int→List (Int×Int)→Int→Int→Int→Int→Int→Int→Int→Int→Int×Bool→Prop):Prop:=(Ap ((0:Int)≤5∧(5:Int)<8) (O_ (t_) (p_) (h_) (l_) (r0_) (r1_) (r2_) (r3_) (r4_) (r5_) (r6_) (r7_) ((r5_,true))))
def XP (s:MS) (i t_ p_ h_:Int) (l_:List (Int×Int)) (r0_ r1_ r2_ r3_ r4_ r5_ r6_ r7_:Int) (Q0:MS→Int→Prop) (Q1:Int→Int→Int→List (Int×Int)→Int→Int→Int→Int→Int→Int→Int→Int→Int→Prop) (R_:Int×Bool→Prop) (O_:Int→Int→Int→List (Int×Int)→Int→Int→Int→Int→Int→Int→Int→Int→Int×Bool→Prop):Prop:=(Ap ((0:Int)≤6∧(6:Int)<8) (O_ (t_) (p_) (h_) (l_) (r0_) (r1_) (r2_) (r3_) (r4_) (r5_) (r6_) (r7_) ((r6_,true))))
def XQ (s:MS) (i t_ p_ h_:Int) (l_:List (Int×Int)) (r0_ r1_ r2_ r3_ r4_ r5_ r6_ r7_:Int) (Q0:MS→Int→Prop) (Q1:Int→Int→Int→List (Int×Int)→Int→Int→Int→Int→Int→Int→Int→Int→Int→Prop) (R_:Int×Bool→Prop) (O_:Int→Int→Int→List (Int×Int)→Int→Int→Int→Int→Int→Int→Int→Int→Int×Bool→Prop):Prop:=(Ap ((0:Int)≤7∧(7:Int)<8) (O_ (t_) (p_) (h_) (l_) (r0_) (r1_) (r2_) (r3_) (r4_) (r5_) (r6_) (r7_) ((r7_,true))))
def BL (s:MS) (i t_ p_ h_:Int) (l_:List (Int×Int)) (r0_ r1_ r2_ r3_ r4_ r5_ r6_ r7_ i_:Int):Prop:=s=⟨t_,p_,h_,l_,r0_,r1_,r2_,r3_,r4_,r5_,r6_,r7_⟩∧i_=i∧0≤i∧i<8
theorem Ah8 (s:MS) (i:Int):Ah7 s i (λu' i_'=>Eb s i u' i_') (λt_' p_' h_' l_' r0_' r1_' r2_' r3_' r4_' r5_' r6_' r7_' i_'=>BL s i t_' p_' h_' l_' r0_' r1_' r2_' r3_' r4_' r5_' r6_' r7_' i_') (λr__=>r__=(Gt s i)) (λt_ p_ h_ l_ x0_ x1_ x2_ x3_ x4_ x5_ x6_ x7_ r_=>D6 ⟨t_,p_,h_,l_,x0_,x1_,x2_,x3_,x4_,x5_,x6_,x7_⟩ (s)∧r_=(Gt s i)):=by
 unfold Ah7
 try unfold Eb
 try unfold BL
 refine ⟨λh=>?_, λh=>⟨rfl,rfl,?_⟩⟩
 ·unfold Gt KL;rw [h];rfl
 ·simp only [kH,decide_eq_false_iff_not] at h;omega
theorem Ah9 (s:MS) (i:Int) (u:MS) (i_ t_ p_ h_:Int) (l_:List (Int×Int)) (x0_ x1_ x2_ x3_ x4_ x5_ x6_ x7_:Int) (hI:Eb s i u i_) (hx:D6 ⟨t_,p_,h_,l_,x0_,x1_,x2_,x3_,x4_,x5_,x6_,x7_⟩ (u)):AeC s i u i_ t_ p_ h_ l_ x0_ x1_ x2_ x3_ x4_ x5_ x6_ x7_ (λt_' p_' h_' l_' r0_' r1_' r2_' r3_' r4_' r5_' r6_' r7_' i_'=>BL s i t_' p_' h_' l_' r0_' r1_' r2_' r3_' r4_' r5_' r6_' r7_' i_'∧lx (1,0,0) (2,0,0)):=by
 unfold Eb at hI
 unfold AeC
 try unfold Eb
 try unfold BL
 obtain ⟨rfl,rfl,h1,h2⟩:=hI
 exact ⟨⟨hx.symm,rfl,h1,h2⟩,Bo⟩
theorem AlV (s:MS) (i t_ p_ h_:Int) (l_:List (Int×Int)) (r0_ r1_ r2_ r3_ r4_ r5_ r6_ r7_ i_:Int) (hI:BL s i t_ p_ h_ l_ r0_ r1_ r2_ r3_ r4_ r5_ r6_ r7_ i_):i_=0∨i_=1∨i_=2∨i_=3∨i_=4∨i_=5∨i_=6∨i_=7:=by
 unfold BL at hI
 omega
theorem Adg (s:MS) (i t_ p_ h_:Int) (l_:List (Int×Int)) (r0_ r1_ r2_ r3_ r4_ r5_ r6_ r7_:Int) (hI:BL s i t_ p_ h_ l_ r0_ r1_ r2_ r3_ r4_ r5_ r6_ r7_ (0:Int)):XJ s i t_ p_ h_ l_ r0_ r1_ r2_ r3_ r4_ r5_ r6_ r7_ (λu' i_'=>Eb s i u' i_'∧lx (2,0,0) (1,0,0)) (λt_' p_' h_' l_' r0_' r1_' r2_' r3_' r4_' r5_' r6_' r7_' i_'=>BL s i t_' p_' h_' l_' r0_' r1_' r2_' r3_' r4_' r5_' r6_' r7_' i_'∧lx (1,0,0) (1,0,0)) (λr__=>r__=(Gt s i)) (λt_ p_ h_ l_ x0_ x1_ x2_ x3_ x4_ x5_ x6_ x7_ r_=>D6 ⟨t_,p_,h_,l_,x0_,x1_,x2_,x3_,x4_,x5_,x6_,x7_⟩ (s)∧r_=(Gt s i)):=by
 unfold BL at hI
 unfold XJ
 try unfold Eb
 try unfold BL
 obtain ⟨rfl,rfl,h1,h2⟩:=hI
 exact ⟨by decide, λ_=>⟨rfl,rfl⟩⟩
theorem Adh (s:MS) (i t_ p_ h_:Int) (l_:List (Int×Int)) (r0_ r1_ r2_ r3_ r4_ r5_ r6_ r7_:Int) (hI:BL s i t_ p_ h_ l_ r0_ r1_ r2_ r3_ r4_ r5_ r6_ r7_ (1:Int)):XK s i t_ p_ h_ l_ r0_ r1_ r2_ r3_ r4_ r5_ r6_ r7_ (λu' i_'=>Eb s i u' i_'∧lx (2,0,0) (1,0,0)) (λt_' p_' h_' l_' r0_' r1_' r2_' r3_' r4_' r5_' r6_' r7_' i_'=>BL s i t_' p_' h_' l_' r0_' r1_' r2_' r3_' r4_' r5_' r6_' r7_' i_'∧lx (1,0,0) (1,0,0)) (λr__=>r__=(Gt s i)) (λt_ p_ h_ l_ x0_ x1_ x2_ x3_ x4_ x5_ x6_ x7_ r_=>D6 ⟨t_,p_,h_,l_,x0_,x1_,x2_,x3_,x4_,x5_,x6_,x7_⟩ (s)∧r_=(Gt s i)):=by
 unfold BL at hI
 unfold XK
 try unfold Eb
 try unfold BL
 obtain ⟨rfl,rfl,h1,h2⟩:=hI
 exact ⟨by decide, λ_=>⟨rfl,rfl⟩⟩
theorem Adi (s:MS) (i t_ p_ h_:Int) (l_:List (Int×Int)) (r0_ r1_ r2_ r3_ r4_ r5_ r6_ r7_:Int) (hI:BL s i t_ p_ h_ l_ r0_ r1_ r2_ r3_ r4_ r5_ r6_ r7_ (2:Int)):XL s i t_ p_ h_ l_ r0_ r1_ r2_ r3_ r4_ r5_ r6_ r7_ (λu' i_'=>Eb s i u' i_'∧lx (2,0,0) (1,0,0)) (λt_' p_' h_' l_' r0_' r1_' r2_' r3_' r4_' r5_' r6_' r7_' i_'=>BL s i t_' p_' h_' l_' r0_' r1_' r2_' r3_' r4_' r5_' r6_' r7_' i_'∧lx (1,0,0) (1,0,0)) (λr__=>r__=(Gt s i)) (λt_ p_ h_ l_ x0_ x1_ x2_ x3_ x4_ x5_ x6_ x7_ r_=>D6 ⟨t_,p_,h_,l_,x0_,x1_,x2_,x3_,x4_,x5_,x6_,x7_⟩ (s)∧r_=(Gt s i)):=by
 unfold BL at hI
 unfold XL
 try unfold Eb
 try unfold BL
 obtain ⟨rfl,rfl,h1,h2⟩:=hI
 exact ⟨by decide, λ_=>⟨rfl,rfl⟩⟩
theorem Adj (s:MS) (i t_ p_ h_:Int) (l_:List (Int×Int)) (r0_ r1_ r2_ r3_ r4_ r5_ r6_ r7_:Int) (hI:BL s i t_ p_ h_ l_ r0_ r1_ r2_ r3_ r4_ r5_ r6_ r7_ (3:Int)):XM s i t_ p_ h_ l_ r0_ r1_ r2_ r3_ r4_ r5_ r6_ r7_ (λu' i_'=>Eb s i u' i_'∧lx (2,0,0) (1,0,0)) (λt_' p_' h_' l_' r0_' r1_' r2_' r3_' r4_' r5_' r6_' r7_' i_'=>BL s i t_' p_' h_' l_' r0_' r1_' r2_' r3_' r4_' r5_' r6_' r7_' i_'∧lx (1,0,0) (1,0,0)) (λr__=>r__=(Gt s i)) (λt_ p_ h_ l_ x0_ x1_ x2_ x3_ x4_ x5_ x6_ x7_ r_=>D6 ⟨t_,p_,h_,l_,x0_,x1_,x2_,x3_,x4_,x5_,x6_,x7_⟩ (s)∧r_=(Gt s i)):=by
 unfold BL at hI
 unfold XM
 try unfold Eb
 try unfold BL
 obtain ⟨rfl,rfl,h1,h2⟩:=hI
 exact ⟨by decide, λ_=>⟨rfl,rfl⟩⟩
theorem Adk (s:MS) (i t_ p_ h_:Int) (l_:List (Int×Int)) (r0_ r1_ r2_ r3_ r4_ r5_ r6_ r7_:Int) (hI:BL s i t_ p_ h_ l_ r0_ r1_ r2_ r3_ r4_ r5_ r6_ r7_ (4:Int)):XN s i t_ p_ h_ l_ r0_ r1_ r2_ r3_ r4_ r5_ r6_ r7_ (λu' i_'=>Eb s i u' i_'∧lx (2,0,0) (1,0,0)) (λt_' p_' h_' l_' r0_' r1_' r2_' r3_' r4_' r5_' r6_' r7_' i_'=>BL s i t_' p_' h_' l_' r0_' r1_' r2_' r3_' r4_' r5_' r6_' r7_' i_'∧lx (1,0,0) (1,0,0)) (λr__=>r__=(Gt s i)) (λt_ p_ h_ l_ x0_ x1_ x2_ x3_ x4_ x5_ x6_ x7_ r_=>D6 ⟨t_,p_,h_,l_,x0_,x1_,x2_,x3_,x4_,x5_,x6_,x7_⟩ (s)∧r_=(Gt s i)):=by
 unfold BL at hI
 unfold XN
 try unfold Eb
 try unfold BL
 obtain ⟨rfl,rfl,h1,h2⟩:=hI
 exact ⟨by decide, λ_=>⟨rfl,rfl⟩⟩
theorem Adl (s:MS) (i t_ p_ h_:Int) (l_:List (Int×Int)) (r0_ r1_ r2_ r3_ r4_ r5_ r6_ r7_:Int) (hI:BL s i t_ p_ h_ l_ r0_ r1_ r2_ r3_ r4_ r5_ r6_ r7_ (5:Int)):XO s i t_ p_ h_ l_ r0_ r1_ r2_ r3_ r4_ r5_ r6_ r7_ (λu' i_'=>Eb s i u' i_'∧lx (2,0,0) (1,0,0)) (λt_' p_' h_' l_' r0_' r1_' r2_' r3_' r4_' r5_' r6_' r7_' i_'=>BL s i t_' p_' h_' l_' r0_' r1_' r2_' r3_' r4_' r5_' r6_' r7_' i_'∧lx (1,0,0) (1,0,0)) (λr__=>r__=(Gt s i)) (λt_ p_ h_ l_ x0_ x1_ x2_ x3_ x4_ x5_ x6_ x7_ r_=>D6 ⟨t_,p_,h_,l_,x0_,x1_,x2_,x3_,x4_,x5_,x6_,x7_⟩ (s)∧r_=(Gt s i)):=by
 unfold BL at hI
 unfold XO
 try unfold Eb
 try unfold BL
 obtain ⟨rfl,rfl,h1,h2⟩:=hI
 exact ⟨by decide, λ_=>⟨rfl,rfl⟩⟩
theorem Adm (s:MS) (i t_ p_ h_:Int) (l_:List (Int×Int)) (r0_ r1_ r2_ r3_ r4_ r5_ r6_ r7_:Int) (hI:BL s i t_ p_ h_ l_ r0_ r1_ r2_ r3_ r4_ r5_ r6_ r7_ (6:Int)):XP s i t_ p_ h_ l_ r0_ r1_ r2_ r3_ r4_ r5_ r6_ r7_ (λu' i_'=>Eb s i u' i_'∧lx (2,0,0) (1,0,0)) (λt_' p_' h_' l_' r0_' r1_' r2_' r3_' r4_' r5_' r6_' r7_' i_'=>BL s i t_' p_' h_' l_' r0_' r1_' r2_' r3_' r4_' r5_' r6_' r7_' i_'∧lx (1,0,0) (1,0,0)) (λr__=>r__=(Gt s i)) (λt_ p_ h_ l_ x0_ x1_ x2_ x3_ x4_ x5_ x6_ x7_ r_=>D6 ⟨t_,p_,h_,l_,x0_,x1_,x2_,x3_,x4_,x5_,x6_,x7_⟩ (s)∧r_=(Gt s i)):=by
 unfold BL at hI
 unfold XP
 try unfold Eb
 try unfold BL
 obtain ⟨rfl,rfl,h1,h2⟩:=hI
 exact ⟨by decide, λ_=>⟨rfl,rfl⟩⟩
theorem Adn (s:MS) (i t_ p_ h_:Int) (l_:List (Int×Int)) (r0_ r1_ r2_ r3_ r4_ r5_ r6_ r7_:Int) (hI:BL s i t_ p_ h_ l_ r0_ r1_ r2_ r3_ r4_ r5_ r6_ r7_ (7:Int)):XQ s i t_ p_ h_ l_ r0_ r1_ r2_ r3_ r4_ r5_ r6_ r7_ (λu' i_'=>Eb s i u' i_'∧lx (2,0,0) (1,0,0)) (λt_' p_' h_' l_' r0_' r1_' r2_' r3_' r4_' r5_' r6_' r7_' i_'=>BL s i t_' p_' h_' l_' r0_' r1_' r2_' r3_' r4_' r5_' r6_' r7_' i_'∧lx (1,0,0) (1,0,0)) (λr__=>r__=(Gt s i)) (λt_ p_ h_ l_ x0_ x1_ x2_ x3_ x4_ x5_ x6_ x7_ r_=>D6 ⟨t_,p_,h_,l_,x0_,x1_,x2_,x3_,x4_,x5_,x6_,x7_⟩ (s)∧r_=(Gt s i)):=by
 unfold BL at hI
 unfold XQ
 try unfold Eb
 try unfold BL
 obtain ⟨rfl,rfl,h1,h2⟩:=hI
 exact ⟨by decide, λ_=>⟨rfl,rfl⟩⟩
theorem Anx:DV 66 Ah6:=
 Gg Dg Gh false Abh (I:=[1026000]) Try.func66 mix (B:=AP Try.f66) (by kernel_rfl) rfl (by kernel_rfl) 400
  λo s i hb hp=>⟨s,s,(Gt s i),[⟨some 0,[0,1,1],[.code [1,1,1]],[0,1],[.objc Du ⟨o,0,none⟩, .i .i64]⟩,⟨some 0,[0,1,1],[.code [1,1,1]],[0,1],[.boxc o Es.t Es.l, .i .i64]⟩],[.opn 0 (λ_=>o) 1, .run], λj=>iN [Ag (Hd.kd (⟨some 0,[0,1,1],[.code [1,1,1]],[0,1],[.objc Du ⟨o,0,none⟩, .i .i64]⟩:Hd Sg)) (λu' i_'=>Eb s i u' i_'),Ag (Hd.kd (⟨some 0,[0,1,1],[.code [1,1,1]],[0,1],[.boxc o Es.t Es.l, .i .i64]⟩:Hd Sg)) (λt_' p_' h_' l_' r0_' r1_' r2_' r3_' r4_' r5_' r6_' r7_' i_'=>BL s i t_' p_' h_' l_' r0_' r1_' r2_' r3_' r4_' r5_' r6_' r7_' i_')] j (λ_=>False), λj=>iN [Ag (Hd.kd (⟨some 0,[0,1,1],[.code [1,1,1]],[0,1],[.objc Du ⟨o,0,none⟩, .i .i64]⟩:Hd Sg)) (λu' i_'=>(2,0,0)),Ag (Hd.kd (⟨some 0,[0,1,1],[.code [1,1,1]],[0,1],[.boxc o Es.t Es.l, .i .i64]⟩:Hd Sg)) (λt_' p_' h_' l_' r0_' r1_' r2_' r3_' r4_' r5_' r6_' r7_' i_'=>(1,0,0))] j (λ_=>(0,0,0)),by kernel_rfl, λ_ _=>by kernel_rfl,by kernel_rfl,⟨_, λ_ _ _=>by kernel_rfl,Ah8 s i⟩,⟨λu i_ hI=>⟨u, λ_=>by kernel_rfl, λt_ p_ h_ l_ x0_ x1_ x2_ x3_ x4_ x5_ x6_ x7_ hx=>⟨_, λ_ _=>by kernel_rfl,Ah9 s i u i_ t_ p_ h_ l_ x0_ x1_ x2_ x3_ x4_ x5_ x6_ x7_ hI hx⟩⟩,⟨λt_ p_ h_ l_ r0_ r1_ r2_ r3_ r4_ r5_ r6_ r7_ i_ hI=>(by
   rcases AlV s i t_ p_ h_ l_ r0_ r1_ r2_ r3_ r4_ r5_ r6_ r7_ i_ hI with rfl|rfl|rfl|rfl|rfl|rfl|rfl|rfl
   ·exact ⟨_, λ_ _ _=>by kernel_rfl,Adg s i t_ p_ h_ l_ r0_ r1_ r2_ r3_ r4_ r5_ r6_ r7_ hI⟩
   ·exact ⟨_, λ_ _ _=>by kernel_rfl,Adh s i t_ p_ h_ l_ r0_ r1_ r2_ r3_ r4_ r5_ r6_ r7_ hI⟩
   ·exact ⟨_, λ_ _ _=>by kernel_rfl,Adi s i t_ p_ h_ l_ r0_ r1_ r2_ r3_ r4_ r5_ r6_ r7_ hI⟩
   ·exact ⟨_, λ_ _ _=>by kernel_rfl,Adj s i t_ p_ h_ l_ r0_ r1_ r2_ r3_ r4_ r5_ r6_ r7_ hI⟩
   ·exact ⟨_, λ_ _ _=>by kernel_rfl,Adk s i t_ p_ h_ l_ r0_ r1_ r2_ r3_ r4_ r5_ r6_ r7_ hI⟩
   ·exact ⟨_, λ_ _ _=>by kernel_rfl,Adl s i t_ p_ h_ l_ r0_ r1_ r2_ r3_ r4_ r5_ r6_ r7_ hI⟩
   ·exact ⟨_, λ_ _ _=>by kernel_rfl,Adm s i t_ p_ h_ l_ r0_ r1_ r2_ r3_ r4_ r5_ r6_ r7_ hI⟩
   ·exact ⟨_, λ_ _ _=>by kernel_rfl,Adn s i t_ p_ h_ l_ r0_ r1_ r2_ r3_ r4_ r5_ r6_ r7_ hI⟩),trivial⟩⟩⟩
def AhA:Tb:=(66,Ah6)::Ak1
theorem XR:D7 AhA:=Ea Anx Abh
def MQ (s:MS) (k a c e u v:Int):Bool:=(let r2:Int×Int×Bool:=atR (MS.l s) a;(bif !r2.2.2 then (let r6:Bool:=Bl 4 e u v;r6) else e==0&&(u==r2.2.1&&(v==0&&true))))
abbrev AlW:Ct Sg:=⟨some Du,true,[.agg [.i .i64, .i .i64, .i .i64], .agg [.i .i64, .i .i64, .i .i64]], .b⟩
def Abi:Entry Sg:=BU AlW MQ (λs k a c e u v=>[Dk s.l])
theorem Aj5:DV 35 Abi:=
 EL Dg XR (I:=[2999998]) Try.func35 mix (B:=AP Try.f35) (by kernel_rfl) rfl (by kernel_rfl) 400
  λ_ s k a c e u v hb hp=>have hp0:Dk s.l:=hp _ (.head _);⟨(MQ s k a c e u v),(.bind (atR (MS.l s) a) λr2:Int×Int×Bool=>(.need (Dk (MS.l s)) .t)), λ_ _ _=>by kernel_rfl,(λr2 e2=>⟨nd_, λz3=>trivial⟩),rfl⟩
def Abj:Tb:=(35,Abi)::AhA
theorem Ud:D7 Abj:=Ea Aj5 XR
def KW (s:MS) (k a c e u v:Int):Bool:=(let r2:Int×Bool:=KL s a;(bif !r2.2 then (let r4:Bool:=Bl 5 e u v;r4) else e==0&&(u==r2.1&&(v==0&&true))))
abbrev Aj6:Ct Sg:=⟨some Du,true,[.agg [.i .i64, .i .i64, .i .i64], .agg [.i .i64, .i .i64, .i .i64]], .b⟩
def XT:Entry Sg:=BU Aj6 KW (λ_ _ _ _ _ _ _=>[])
theorem AhB:DV 34 XT:=
 EL Dg Ud (I:=[2999998]) Try.func34 mix (B:=AP Try.f34) (by kernel_rfl) rfl (by kernel_rfl) 400
  λ_ s k a c e u v hb hp=>⟨(KW s k a c e u v), .t, λ_ _ _=>by kernel_rfl,trivial,rfl⟩
def XU:Tb:=(34,XT)::Abj
theorem Rf:D7 XU:=Ea AhB Ud
def KX (s:MS) (k a c e u v:Int):Bool:=(let r2:Int×Bool:=KL s a;(bif !r2.2 then (let r4:Bool:=Bl 5 e u v;r4) else (let r4:Int×Int×Bool:=atR (MS.l s) c;(bif c !=0&&!r4.2.2 then (let r8:Bool:=Bl 4 e u v;r8) else e==0&&(u==c&&(v==r2.1&&true))))))
abbrev Aj7:Ct Sg:=⟨some Du,true,[.agg [.i .i64, .i .i64, .i .i64], .agg [.i .i64, .i .i64, .i .i64]], .b⟩
def XV:Entry Sg:=BU Aj7 KX (λs k a c e u v=>[Dk s.l])
theorem AhC:DV 33 XV:=
 EL Dg Rf (I:=[2999998]) Try.func33 mix (B:=AP Try.f33) (by kernel_rfl) rfl (by kernel_rfl) 400
  λ_ s k a c e u v hb hp=>have hp0:Dk s.l:=hp _ (.head _);⟨(KX s k a c e u v),(.bind (KL s a) λr2:Int×Bool=>(.br (!r2.2) .t (.bind (atR (MS.l s) c) λr4:Int×Int×Bool=>(.need (Dk (MS.l s)) .t)))), λ_ _ _=>by kernel_rfl,(λr2 e2=>⟨λz3=>trivial, λz3=>(λr4 e4=>⟨nd_, λz5=>trivial⟩)⟩),rfl⟩
def XW:Tb:=(33,XV)::XU
theorem Rh:D7 XW:=Ea AhC Rf
end
section
open Go.Sl
def AhD (e u v o x:Int):Bool:=e==0&&(u==o&&(v==x&&true))
theorem Asq {A:Prop} (h:A):A∧A:=⟨h,h⟩
def Gj (s:MS) (z e u v ax ba bz:Int):Bool:=bif !(BI s.t s.p s.h z).2 then Bl 2 e u v else bif e !=0 then Bl 3 e u v else v==ax&&Eu s u (BI s.t s.p s.h z).1 ba bz
abbrev AoM:Ct Sg:=⟨some Du,true,[.i .i64, .agg [.i .i64, .i .i64, .i .i64], .i .i64, .agg [.i .i64, .i .i64]], .b⟩
def AhE:Entry Sg:=BU AoM (λ(s:MS) (z:Int) (e:Int) (u:Int) (v:Int) (ax:Int) (ba:Int) (bz:Int)=>bif !(BI s.t s.p s.h z).2 then Bl 2 e u v else bif e !=0 then Bl 3 e u v else v==ax&&Eu s u (BI s.t s.p s.h z).1 ba bz) (λ_ _ _ _ _ _ _ _=>[])
def SE (s:MS) (z e u v ax ba bz t p h:Int) (l:List (Int×Int)) (x0 x1 x2 x3 x4 x5 x6 x7:Int) (Q0:Int→Int→Int→List (Int×Int)→Int→Int→Int→Int→Int→Int→Int→Int→Int→Prop) (Q1:Int→Prop) (R_:Bool→Prop) (O_:Int→Int→Int→List (Int×Int)→Int→Int→Int→Int→Int→Int→Int→Int→Bool→Prop):Prop:=(∀r2:Int×Bool,r2=(BI t p h z)→(AV (!r2.2) (∀r4:Bool,r4=(Bl 2 e u v)→(O_ (t) (p) (h) (l) (x0) (x1) (x2) (x3) (x4) (x5) (x6) (x7) (r4))) (AV (e !=0) (∀r5:Bool,r5=(Bl 3 e u v)→(O_ (t) (p) (h) (l) (x0) (x1) (x2) (x3) (x4) (x5) (x6) (x7) (r5))) (Q0 (t) (p) (h) (l) (x0) (x1) (x2) (x3) (x4) (x5) (x6) (x7) r2.1))))
def V6 (s:MS) (z e u v ax ba bz t_ p_ h_:Int) (l_:List (Int×Int)) (r0_ r1_ r2_ r3_ r4_ r5_ r6_ r7_ w_:Int) (Q1:Int→Prop):Prop:=(Q1 (w_))
def Ib (s:MS) (z e u v ax ba bz t_ p_ h_:Int) (l_:List (Int×Int)) (r0_ r1_ r2_ r3_ r4_ r5_ r6_ r7_ w_:Int):Prop:=s=⟨t_,p_,h_,l_,r0_,r1_,r2_,r3_,r4_,r5_,r6_,r7_⟩∧(BI s.t s.p s.h z).2=true∧e=0∧w_=(BI s.t s.p s.h z).1
def AeD (s:MS) (z e u v ax ba bz w_:Int) (Q0:Int→Int→Int→List (Int×Int)→Int→Int→Int→Int→Int→Int→Int→Int→Int→Prop) (Q1:Int→Prop) (R_:Bool→Prop) (O_:Int→Int→Int→List (Int×Int)→Int→Int→Int→Int→Int→Int→Int→Int→Bool→Prop):Prop:=(R_ (v==ax&&(JI (MS.t s) (MS.p s) (MS.h s) u w_&&List.all (MS.l s) λx=>okB x (u,w_) (ba,bz))))
def GG (s:MS) (z e u v ax ba bz w_:Int):Prop:=(BI s.t s.p s.h z).2=true∧e=0∧w_=(BI s.t s.p s.h z).1
theorem AhF (s:MS) (z e u v ax ba bz t p h:Int) (l:List (Int×Int)) (x0 x1 x2 x3 x4 x5 x6 x7:Int) (hx:D6 ⟨t,p,h,l,x0,x1,x2,x3,x4,x5,x6,x7⟩ (s)):SE s z e u v ax ba bz t p h l x0 x1 x2 x3 x4 x5 x6 x7 (λt_' p_' h_' l_' r0_' r1_' r2_' r3_' r4_' r5_' r6_' r7_' w_'=>Ib s z e u v ax ba bz t_' p_' h_' l_' r0_' r1_' r2_' r3_' r4_' r5_' r6_' r7_' w_') (λw_'=>GG s z e u v ax ba bz w_') (λr__=>r__=(Gj s z e u v ax ba bz)) (λt_ p_ h_ l_ x0_ x1_ x2_ x3_ x4_ x5_ x6_ x7_ r_=>D6 ⟨t_,p_,h_,l_,x0_,x1_,x2_,x3_,x4_,x5_,x6_,x7_⟩ (s)∧r_=(Gj s z e u v ax ba bz)):=by
 have key:∀x:MS,D6 x s→SE s z e u v ax ba bz x.t x.p x.h x.l x.r0 x.r1 x.r2 x.r3 x.r4 x.r5 x.r6 x.r7 (λt_' p_' h_' l_' r0_' r1_' r2_' r3_' r4_' r5_' r6_' r7_' w_'=>Ib s z e u v ax ba bz t_' p_' h_' l_' r0_' r1_' r2_' r3_' r4_' r5_' r6_' r7_' w_') (λw_'=>GG s z e u v ax ba bz w_') (λr__=>r__=(Gj s z e u v ax ba bz)) (λt_ p_ h_ l_ x0_ x1_ x2_ x3_ x4_ x5_ x6_ x7_ r_=>D6 ⟨t_,p_,h_,l_,x0_,x1_,x2_,x3_,x4_,x5_,x6_,x7_⟩ (s)∧r_=(Gj s z e u v ax ba bz)):=by
  intro x ho
  unfold SE
  try unfold Ib
  try unfold GG
  rintro r2 rfl
  cases (show x=s from ho)
  refine ⟨λh1=>?_, λh1=>⟨λh2=>?_, λh2=>?_⟩⟩
  ·rintro r4 rfl
   refine ⟨rfl,?_⟩
   unfold Gj;rw [h1];rfl
  ·rintro r5 rfl
   refine ⟨rfl,?_⟩
   unfold Gj;rw [h1,h2];rfl
  ·exact ⟨rfl,by simpa using h1,by simpa using h2,rfl⟩
 exact key ⟨t,p,h,l,x0,x1,x2,x3,x4,x5,x6,x7⟩ hx
theorem V7 (s:MS) (z e u v ax ba bz t_ p_ h_:Int) (l_:List (Int×Int)) (r0_ r1_ r2_ r3_ r4_ r5_ r6_ r7_ w_:Int) (hI:Ib s z e u v ax ba bz t_ p_ h_ l_ r0_ r1_ r2_ r3_ r4_ r5_ r6_ r7_ w_):(D6 ⟨t_,p_,h_,l_,r0_,r1_,r2_,r3_,r4_,r5_,r6_,r7_⟩ s)∧V6 s z e u v ax ba bz t_ p_ h_ l_ r0_ r1_ r2_ r3_ r4_ r5_ r6_ r7_ w_ (λw_'=>GG s z e u v ax ba bz w_'∧lx (1,0,0) (2,0,0)):=by
 unfold Ib at hI
 unfold V6
 try unfold Ib
 try unfold GG
 obtain ⟨rfl,hI⟩:=hI
 exact ⟨rfl,hI,Bo⟩
theorem AhG (s:MS) (z e u v ax ba bz w_:Int) (hI:GG s z e u v ax ba bz w_):AeD s z e u v ax ba bz w_ (λt_' p_' h_' l_' r0_' r1_' r2_' r3_' r4_' r5_' r6_' r7_' w_'=>Ib s z e u v ax ba bz t_' p_' h_' l_' r0_' r1_' r2_' r3_' r4_' r5_' r6_' r7_' w_'∧lx (2,0,0) (1,0,0)) (λw_'=>GG s z e u v ax ba bz w_'∧lx (1,0,0) (1,0,0)) (λr__=>r__=(Gj s z e u v ax ba bz)) (λt_ p_ h_ l_ x0_ x1_ x2_ x3_ x4_ x5_ x6_ x7_ r_=>D6 ⟨t_,p_,h_,l_,x0_,x1_,x2_,x3_,x4_,x5_,x6_,x7_⟩ (s)∧r_=(Gj s z e u v ax ba bz)):=by
 unfold GG at hI
 unfold AeD
 try unfold Ib
 try unfold GG
 obtain ⟨h1,rfl,rfl⟩:=hI
 unfold Gj Eu
 rw [h1];rfl
theorem Anz:DV 64 AhE:=
 Gg Dg Gh true Rh (I:=[1106000,2999998]) Try.func64 mix (B:=AP Try.f64) (by kernel_rfl) rfl (by kernel_rfl) 400
  λo s z e u v ax ba bz hb hp=>⟨s,s,(Gj s z e u v ax ba bz),[⟨some 0,[0,1,1,1],[.code [1,1,1,1]],[0,7,9,3,11],[.boxc o Es.t Es.l, .box 32 [.ic .i64 (e), .ic .i64 (u), .ic .i64 (v)], .box 55 [.ic .i64 (ba), .ic .i64 (bz)], .ic .i64 (ax), .i .i64]⟩,⟨some 0,[0,1,1,1],[.code [1,1,1,1]],[0,7,9,3,11],[.objk Du ⟨o,0,none⟩ (s), .box 32 [.ic .i64 (e), .ic .i64 (u), .ic .i64 (v)], .box 55 [.ic .i64 (ba), .ic .i64 (bz)], .ic .i64 (ax), .i .i64]⟩],[.cls 1, .run], λj=>iN [Ag (Hd.kd (⟨some 0,[0,1,1,1],[.code [1,1,1,1]],[0,7,9,3,11],[.boxc o Es.t Es.l, .box 32 [.ic .i64 (e), .ic .i64 (u), .ic .i64 (v)], .box 55 [.ic .i64 (ba), .ic .i64 (bz)], .ic .i64 (ax), .i .i64]⟩:Hd Sg)) (λt_' p_' h_' l_' r0_' r1_' r2_' r3_' r4_' r5_' r6_' r7_' w_'=>Ib s z e u v ax ba bz t_' p_' h_' l_' r0_' r1_' r2_' r3_' r4_' r5_' r6_' r7_' w_'),Ag (Hd.kd (⟨some 0,[0,1,1,1],[.code [1,1,1,1]],[0,7,9,3,11],[.objk Du ⟨o,0,none⟩ (s), .box 32 [.ic .i64 (e), .ic .i64 (u), .ic .i64 (v)], .box 55 [.ic .i64 (ba), .ic .i64 (bz)], .ic .i64 (ax), .i .i64]⟩:Hd Sg)) (λw_'=>GG s z e u v ax ba bz w_')] j (λ_=>False), λj=>iN [Ag (Hd.kd (⟨some 0,[0,1,1,1],[.code [1,1,1,1]],[0,7,9,3,11],[.boxc o Es.t Es.l, .box 32 [.ic .i64 (e), .ic .i64 (u), .ic .i64 (v)], .box 55 [.ic .i64 (ba), .ic .i64 (bz)], .ic .i64 (ax), .i .i64]⟩:Hd Sg)) (λt_' p_' h_' l_' r0_' r1_' r2_' r3_' r4_' r5_' r6_' r7_' w_'=>(2,0,0)),Ag (Hd.kd (⟨some 0,[0,1,1,1],[.code [1,1,1,1]],[0,7,9,3,11],[.objk Du ⟨o,0,none⟩ (s), .box 32 [.ic .i64 (e), .ic .i64 (u), .ic .i64 (v)], .box 55 [.ic .i64 (ba), .ic .i64 (bz)], .ic .i64 (ax), .i .i64]⟩:Hd Sg)) (λw_'=>(1,0,0))] j (λ_=>(0,0,0)),by kernel_rfl, λ_ _=>by kernel_rfl,by kernel_rfl, λt p h l x0 x1 x2 x3 x4 x5 x6 x7 hx=>⟨SE s z e u v ax ba bz t p h l x0 x1 x2 x3 x4 x5 x6 x7 (λt_' p_' h_' l_' r0_' r1_' r2_' r3_' r4_' r5_' r6_' r7_' w_'=>Ib s z e u v ax ba bz t_' p_' h_' l_' r0_' r1_' r2_' r3_' r4_' r5_' r6_' r7_' w_') (λw_'=>GG s z e u v ax ba bz w_') (λr__=>r__=(Gj s z e u v ax ba bz)) (λt_ p_ h_ l_ x0_ x1_ x2_ x3_ x4_ x5_ x6_ x7_ r_=>D6 ⟨t_,p_,h_,l_,x0_,x1_,x2_,x3_,x4_,x5_,x6_,x7_⟩ (s)∧r_=(Gj s z e u v ax ba bz)), λ_ _ _ _=>by kernel_rfl,AhF s z e u v ax ba bz t p h l x0 x1 x2 x3 x4 x5 x6 x7 hx⟩,⟨λt_ p_ h_ l_ r0_ r1_ r2_ r3_ r4_ r5_ r6_ r7_ w_ hI=>⟨s,V6 s z e u v ax ba bz t_ p_ h_ l_ r0_ r1_ r2_ r3_ r4_ r5_ r6_ r7_ w_ (λw_'=>GG s z e u v ax ba bz w_'∧lx (1,0,0) (2,0,0)),(V7 s z e u v ax ba bz t_ p_ h_ l_ r0_ r1_ r2_ r3_ r4_ r5_ r6_ r7_ w_ hI).1, λ_=>by kernel_rfl,(V7 s z e u v ax ba bz t_ p_ h_ l_ r0_ r1_ r2_ r3_ r4_ r5_ r6_ r7_ w_ hI).2⟩,⟨λw_ hI=>⟨_, λ_ _ _=>by kernel_rfl,AhG s z e u v ax ba bz w_ hI⟩,trivial⟩⟩⟩
def AhH:Tb:=(64,AhE)::XW
theorem XX:D7 AhH:=Ea Anz Rh
def Ja (s:MS) (k a c e u v:Int):Bool:=Gj s a e u v (BI s.t s.p s.h a).1 0 0
abbrev An0:Ct Sg:=⟨some Du,true,[.agg [.i .i64, .i .i64, .i .i64], .agg [.i .i64, .i .i64, .i .i64]], .b⟩
def AeE:Entry Sg:=BU An0 (λ(s:MS) (k:Int) (a:Int) (c:Int) (e:Int) (u:Int) (v:Int)=>Gj s a e u v (BI s.t s.p s.h a).1 0 0) (λ_ _ _ _ _ _ _=>[])
def PR (s:MS) (k a c e u v t p h:Int) (l:List (Int×Int)) (x0 x1 x2 x3 x4 x5 x6 x7:Int) (Q0:Int→Int→Int→List (Int×Int)→Int→Int→Int→Int→Int→Int→Int→Int→Int→Prop) (Q1:Int→Prop) (R_:Bool→Prop) (O_:Int→Int→Int→List (Int×Int)→Int→Int→Int→Int→Int→Int→Int→Int→Bool→Prop):Prop:=(Q0 (t) (p) (h) (l) (x0) (x1) (x2) (x3) (x4) (x5) (x6) (x7) (kM (BI t p h a)))
def SG (s:MS) (k a c e u v t_ p_ h_:Int) (l_:List (Int×Int)) (r0_ r1_ r2_ r3_ r4_ r5_ r6_ r7_ w_:Int) (Q1:Int→Prop):Prop:=(Q1 (w_))
def GX (s:MS) (k a c e u v t_ p_ h_:Int) (l_:List (Int×Int)) (r0_ r1_ r2_ r3_ r4_ r5_ r6_ r7_ w_:Int):Prop:=s=⟨t_,p_,h_,l_,r0_,r1_,r2_,r3_,r4_,r5_,r6_,r7_⟩∧w_=(BI s.t s.p s.h a).1
def Abk (s:MS) (k a c e u v w_:Int) (Q0:Int→Int→Int→List (Int×Int)→Int→Int→Int→Int→Int→Int→Int→Int→Int→Prop) (Q1:Int→Prop) (R_:Bool→Prop) (O_:Int→Int→Int→List (Int×Int)→Int→Int→Int→Int→Int→Int→Int→Int→Bool→Prop):Prop:=(R_ (bif !Prod.snd (BI (MS.t s) (MS.p s) (MS.h s) a) then Bl 2 e u v else bif e !=0 then Bl 3 e u v else v==w_&&Eu s u (kM (BI (MS.t s) (MS.p s) (MS.h s) a)) 0 0))
def Gl (s:MS) (k a c e u v w_:Int):Prop:=w_=(BI s.t s.p s.h a).1
theorem Af5 (s:MS) (k a c e u v t p h:Int) (l:List (Int×Int)) (x0 x1 x2 x3 x4 x5 x6 x7:Int) (hx:D6 ⟨t,p,h,l,x0,x1,x2,x3,x4,x5,x6,x7⟩ (s)):PR s k a c e u v t p h l x0 x1 x2 x3 x4 x5 x6 x7 (λt_' p_' h_' l_' r0_' r1_' r2_' r3_' r4_' r5_' r6_' r7_' w_'=>GX s k a c e u v t_' p_' h_' l_' r0_' r1_' r2_' r3_' r4_' r5_' r6_' r7_' w_') (λw_'=>Gl s k a c e u v w_') (λr__=>r__=(Ja s k a c e u v)) (λt_ p_ h_ l_ x0_ x1_ x2_ x3_ x4_ x5_ x6_ x7_ r_=>D6 ⟨t_,p_,h_,l_,x0_,x1_,x2_,x3_,x4_,x5_,x6_,x7_⟩ (s)∧r_=(Ja s k a c e u v)):=by
 have key:∀x:MS,D6 x s→PR s k a c e u v x.t x.p x.h x.l x.r0 x.r1 x.r2 x.r3 x.r4 x.r5 x.r6 x.r7 (λt_' p_' h_' l_' r0_' r1_' r2_' r3_' r4_' r5_' r6_' r7_' w_'=>GX s k a c e u v t_' p_' h_' l_' r0_' r1_' r2_' r3_' r4_' r5_' r6_' r7_' w_') (λw_'=>Gl s k a c e u v w_') (λr__=>r__=(Ja s k a c e u v)) (λt_ p_ h_ l_ x0_ x1_ x2_ x3_ x4_ x5_ x6_ x7_ r_=>D6 ⟨t_,p_,h_,l_,x0_,x1_,x2_,x3_,x4_,x5_,x6_,x7_⟩ (s)∧r_=(Ja s k a c e u v)):=by
  intro x ho
  unfold PR
  try unfold GX
  try unfold Gl
  cases (show x=s from ho)
  exact ⟨rfl,rfl⟩
 exact key ⟨t,p,h,l,x0,x1,x2,x3,x4,x5,x6,x7⟩ hx
theorem Ue (s:MS) (k a c e u v t_ p_ h_:Int) (l_:List (Int×Int)) (r0_ r1_ r2_ r3_ r4_ r5_ r6_ r7_ w_:Int) (hI:GX s k a c e u v t_ p_ h_ l_ r0_ r1_ r2_ r3_ r4_ r5_ r6_ r7_ w_):(D6 ⟨t_,p_,h_,l_,r0_,r1_,r2_,r3_,r4_,r5_,r6_,r7_⟩ s)∧SG s k a c e u v t_ p_ h_ l_ r0_ r1_ r2_ r3_ r4_ r5_ r6_ r7_ w_ (λw_'=>Gl s k a c e u v w_'∧lx (1,0,0) (2,0,0)):=by
 unfold GX at hI
 unfold SG
 try unfold GX
 try unfold Gl
 obtain ⟨rfl,hI⟩:=hI
 exact ⟨rfl,hI,Bo⟩
theorem Af6 (s:MS) (k a c e u v w_:Int) (hI:Gl s k a c e u v w_):Abk s k a c e u v w_ (λt_' p_' h_' l_' r0_' r1_' r2_' r3_' r4_' r5_' r6_' r7_' w_'=>GX s k a c e u v t_' p_' h_' l_' r0_' r1_' r2_' r3_' r4_' r5_' r6_' r7_' w_'∧lx (2,0,0) (1,0,0)) (λw_'=>Gl s k a c e u v w_'∧lx (1,0,0) (1,0,0)) (λr__=>r__=(Ja s k a c e u v)) (λt_ p_ h_ l_ x0_ x1_ x2_ x3_ x4_ x5_ x6_ x7_ r_=>D6 ⟨t_,p_,h_,l_,x0_,x1_,x2_,x3_,x4_,x5_,x6_,x7_⟩ (s)∧r_=(Ja s k a c e u v)):=by
 unfold Gl at hI
 unfold Abk
 try unfold GX
 try unfold Gl
 subst hI;rfl
theorem AlX:DV 29 AeE:=
 Gg Dg Gh true XX (I:=[1026000]) Try.func29 mix (B:=AP Try.f29) (by kernel_rfl) rfl (by kernel_rfl) 400
  λo s k a c e u v hb hp=>⟨s,s,(Ja s k a c e u v),[⟨some 0,[0,1,1],[.code [1,1,1]],[0,4,5,7],[.boxc o Es.t Es.l, .box 29 [.ic .i64 (k), .ic .i64 (a), .ic .i64 (c)], .box 32 [.ic .i64 (e), .ic .i64 (u), .ic .i64 (v)], .i .i64]⟩,⟨some 0,[0,1,1],[.code [1,1,1]],[0,4,5,7],[.objk Du ⟨o,0,none⟩ (s), .box 29 [.ic .i64 (k), .ic .i64 (a), .ic .i64 (c)], .box 32 [.ic .i64 (e), .ic .i64 (u), .ic .i64 (v)], .i .i64]⟩],[.cls 1, .run], λj=>iN [Ag (Hd.kd (⟨some 0,[0,1,1],[.code [1,1,1]],[0,4,5,7],[.boxc o Es.t Es.l, .box 29 [.ic .i64 (k), .ic .i64 (a), .ic .i64 (c)], .box 32 [.ic .i64 (e), .ic .i64 (u), .ic .i64 (v)], .i .i64]⟩:Hd Sg)) (λt_' p_' h_' l_' r0_' r1_' r2_' r3_' r4_' r5_' r6_' r7_' w_'=>GX s k a c e u v t_' p_' h_' l_' r0_' r1_' r2_' r3_' r4_' r5_' r6_' r7_' w_'),Ag (Hd.kd (⟨some 0,[0,1,1],[.code [1,1,1]],[0,4,5,7],[.objk Du ⟨o,0,none⟩ (s), .box 29 [.ic .i64 (k), .ic .i64 (a), .ic .i64 (c)], .box 32 [.ic .i64 (e), .ic .i64 (u), .ic .i64 (v)], .i .i64]⟩:Hd Sg)) (λw_'=>Gl s k a c e u v w_')] j (λ_=>False), λj=>iN [Ag (Hd.kd (⟨some 0,[0,1,1],[.code [1,1,1]],[0,4,5,7],[.boxc o Es.t Es.l, .box 29 [.ic .i64 (k), .ic .i64 (a), .ic .i64 (c)], .box 32 [.ic .i64 (e), .ic .i64 (u), .ic .i64 (v)], .i .i64]⟩:Hd Sg)) (λt_' p_' h_' l_' r0_' r1_' r2_' r3_' r4_' r5_' r6_' r7_' w_'=>(2,0,0)),Ag (Hd.kd (⟨some 0,[0,1,1],[.code [1,1,1]],[0,4,5,7],[.objk Du ⟨o,0,none⟩ (s), .box 29 [.ic .i64 (k), .ic .i64 (a), .ic .i64 (c)], .box 32 [.ic .i64 (e), .ic .i64 (u), .ic .i64 (v)], .i .i64]⟩:Hd Sg)) (λw_'=>(1,0,0))] j (λ_=>(0,0,0)),by kernel_rfl, λ_ _=>by kernel_rfl,by kernel_rfl, λt p h l x0 x1 x2 x3 x4 x5 x6 x7 hx=>⟨PR s k a c e u v t p h l x0 x1 x2 x3 x4 x5 x6 x7 (λt_' p_' h_' l_' r0_' r1_' r2_' r3_' r4_' r5_' r6_' r7_' w_'=>GX s k a c e u v t_' p_' h_' l_' r0_' r1_' r2_' r3_' r4_' r5_' r6_' r7_' w_') (λw_'=>Gl s k a c e u v w_') (λr__=>r__=(Ja s k a c e u v)) (λt_ p_ h_ l_ x0_ x1_ x2_ x3_ x4_ x5_ x6_ x7_ r_=>D6 ⟨t_,p_,h_,l_,x0_,x1_,x2_,x3_,x4_,x5_,x6_,x7_⟩ (s)∧r_=(Ja s k a c e u v)), λ_ _ _ _=>by kernel_rfl,Af5 s k a c e u v t p h l x0 x1 x2 x3 x4 x5 x6 x7 hx⟩,⟨λt_ p_ h_ l_ r0_ r1_ r2_ r3_ r4_ r5_ r6_ r7_ w_ hI=>⟨s,SG s k a c e u v t_ p_ h_ l_ r0_ r1_ r2_ r3_ r4_ r5_ r6_ r7_ w_ (λw_'=>Gl s k a c e u v w_'∧lx (1,0,0) (2,0,0)),(Ue s k a c e u v t_ p_ h_ l_ r0_ r1_ r2_ r3_ r4_ r5_ r6_ r7_ w_ hI).1, λ_=>by kernel_rfl,(Ue s k a c e u v t_ p_ h_ l_ r0_ r1_ r2_ r3_ r4_ r5_ r6_ r7_ w_ hI).2⟩,⟨λw_ hI=>⟨_, λ_ _ _=>by kernel_rfl,Af6 s k a c e u v w_ hI⟩,trivial⟩⟩⟩
def AeF:Tb:=(29,AeE)::AhH
theorem V8:D7 AeF:=Ea AlX XX
def Ic (s:MS) (k a c e u v:Int):Bool:=bif !(KL s a).2 then Bl 5 e u v else Gj s c e u v (KL s a).1 0 0
abbrev Af7:Ct Sg:=⟨some Du,true,[.agg [.i .i64, .i .i64, .i .i64], .agg [.i .i64, .i .i64, .i .i64]], .b⟩
def Uf:Entry Sg:=BU Af7 Ic (λ_ _ _ _ _ _ _=>[])
def Ug (s:MS) (k a c e u v:Int) (R_:Bool→Prop):Prop:=(AV (!Prod.snd (KL s a)) (R_ (Bl 5 e u v)) (R_ (bif !Prod.snd (BI (MS.t s) (MS.p s) (MS.h s) c) then Bl 2 e u v else bif e !=0 then Bl 3 e u v else v==kM (KL s a)&&Eu s u (kM (BI (MS.t s) (MS.p s) (MS.h s) c)) 0 0)))
theorem WU (s:MS) (k a c e u v:Int):Ug s k a c e u v (λr__=>r__=(Ic s k a c e u v)):=by
 unfold Ug
 refine ⟨λh=>?_, λh=>?_⟩
 ·unfold Ic;rw [h];rfl
 ·unfold Ic;rw [h];rfl
theorem Ado:DV 32 Uf:=
 Vd Dg V8 (I:=[]) Try.func32 mix (B:=AP Try.f32) (by kernel_rfl) rfl (by kernel_rfl) 400
  λ_ s k a c e u v hb hp=>⟨_, λ_ _ _=>by kernel_rfl,WU s k a c e u v⟩
def Uh:Tb:=(32,Uf)::AeF
theorem OQ:D7 Uh:=Ea Ado V8
def Gu (s:MS) (k a c e u v:Int):Bool:=bif !(atR s.l a).2.2 then Bl 4 e u v else Gj s c e u v (BI s.t s.p s.h c).1 (bif u !=a then 0 else (atR s.l a).1) (bif u !=a then 0 else (atR s.l a).2.1)
abbrev Aj8:Ct Sg:=⟨some Du,true,[.agg [.i .i64, .i .i64, .i .i64], .agg [.i .i64, .i .i64, .i .i64]], .b⟩
def XY:Entry Sg:=BU Aj8 (λ(s:MS) (k:Int) (a:Int) (c:Int) (e:Int) (u:Int) (v:Int)=>bif !(atR s.l a).2.2 then Bl 4 e u v else Gj s c e u v (BI s.t s.p s.h c).1 (bif u !=a then 0 else (atR s.l a).1) (bif u !=a then 0 else (atR s.l a).2.1)) (λs k a c e u v=>[Dk s.l])
def XZ (s:MS) (k a c e u v:Int) (Q0:Int→Int→Prop) (Q1:Int→Int→Int→List (Int×Int)→Int→Int→Int→Int→Int→Int→Int→Int→Int→Int→Prop) (Q2:Int→Int→Int→List (Int×Int)→Int→Int→Int→Int→Int→Int→Int→Int→Int→Int→Int→Prop) (Q3:Int→Int→Int→Prop) (R_:Bool→Prop) (O_:Int→Int→Int→List (Int×Int)→Int→Int→Int→Int→Int→Int→Int→Int→Bool→Prop):Prop:=(∀r2:Int×Int×Bool,r2=(atR (MS.l s) a)→(Ap (Dk (MS.l s)) (AV (!r2.2.2) (∀r6:Bool,r6=(Bl 4 e u v)→(R_ (r6))) (AV (u !=a) (Q0 (0) (0)) (Q0 r2.1 r2.2.1)))))
def V9 (s:MS) (k a c e u v y_ z_ t_ p_ h_:Int) (l_:List (Int×Int)) (x0_ x1_ x2_ x3_ x4_ x5_ x6_ x7_:Int) (Q1:Int→Int→Int→List (Int×Int)→Int→Int→Int→Int→Int→Int→Int→Int→Int→Int→Prop):Prop:=(Q1 (t_) (p_) (h_) (l_) (x0_) (x1_) (x2_) (x3_) (x4_) (x5_) (x6_) (x7_) (y_) (z_))
def FK (s:MS) (k a c e u v y_ z_:Int):Prop:=(atR s.l a).2.2=true∧y_=(bif u !=a then 0 else (atR s.l a).1)∧z_=(bif u !=a then 0 else (atR s.l a).2.1)
def VA (s:MS) (k a c e u v t_ p_ h_:Int) (l_:List (Int×Int)) (r0_ r1_ r2_ r3_ r4_ r5_ r6_ r7_ y_ z_:Int) (Q0:Int→Int→Prop) (Q1:Int→Int→Int→List (Int×Int)→Int→Int→Int→Int→Int→Int→Int→Int→Int→Int→Prop) (Q2:Int→Int→Int→List (Int×Int)→Int→Int→Int→Int→Int→Int→Int→Int→Int→Int→Int→Prop) (Q3:Int→Int→Int→Prop) (R_:Bool→Prop) (O_:Int→Int→Int→List (Int×Int)→Int→Int→Int→Int→Int→Int→Int→Int→Bool→Prop):Prop:=(Q2 (t_) (p_) (h_) (l_) (r0_) (r1_) (r2_) (r3_) (r4_) (r5_) (r6_) (r7_) (y_) (z_) (kM (BI t_ p_ h_ c)))
def Fe (s:MS) (k a c e u v t_ p_ h_:Int) (l_:List (Int×Int)) (r0_ r1_ r2_ r3_ r4_ r5_ r6_ r7_ y_ z_:Int):Prop:=s=⟨t_,p_,h_,l_,r0_,r1_,r2_,r3_,r4_,r5_,r6_,r7_⟩∧(atR s.l a).2.2=true∧y_=(bif u !=a then 0 else (atR s.l a).1)∧z_=(bif u !=a then 0 else (atR s.l a).2.1)
def OT (s:MS) (k a c e u v t_ p_ h_:Int) (l_:List (Int×Int)) (r0_ r1_ r2_ r3_ r4_ r5_ r6_ r7_ y_ z_ w_:Int) (Q3:Int→Int→Int→Prop):Prop:=(Q3 (y_) (z_) (w_))
def FM (s:MS) (k a c e u v t_ p_ h_:Int) (l_:List (Int×Int)) (r0_ r1_ r2_ r3_ r4_ r5_ r6_ r7_ y_ z_ w_:Int):Prop:=s=⟨t_,p_,h_,l_,r0_,r1_,r2_,r3_,r4_,r5_,r6_,r7_⟩∧(atR s.l a).2.2=true∧y_=(bif u !=a then 0 else (atR s.l a).1)∧z_=(bif u !=a then 0 else (atR s.l a).2.1)∧w_=(BI s.t s.p s.h c).1
def VB (s:MS) (k a c e u v y_ z_ w_:Int) (Q0:Int→Int→Prop) (Q1:Int→Int→Int→List (Int×Int)→Int→Int→Int→Int→Int→Int→Int→Int→Int→Int→Prop) (Q2:Int→Int→Int→List (Int×Int)→Int→Int→Int→Int→Int→Int→Int→Int→Int→Int→Int→Prop) (Q3:Int→Int→Int→Prop) (R_:Bool→Prop) (O_:Int→Int→Int→List (Int×Int)→Int→Int→Int→Int→Int→Int→Int→Int→Bool→Prop):Prop:=(∀r0:Bool,r0=(bif !Prod.snd (BI (MS.t s) (MS.p s) (MS.h s) c) then Bl 2 e u v else bif e !=0 then Bl 3 e u v else v==w_&&Eu s u (kM (BI (MS.t s) (MS.p s) (MS.h s) c)) y_ z_)→(R_ (r0)))
def ER (s:MS) (k a c e u v y_ z_ w_:Int):Prop:=(atR s.l a).2.2=true∧y_=(bif u !=a then 0 else (atR s.l a).1)∧z_=(bif u !=a then 0 else (atR s.l a).2.1)∧w_=(BI s.t s.p s.h c).1
theorem Abl (s:MS) (k a c e u v:Int) (hp0:Dk s.l):XZ s k a c e u v (λy_' z_'=>FK s k a c e u v y_' z_') (λt_' p_' h_' l_' r0_' r1_' r2_' r3_' r4_' r5_' r6_' r7_' y_' z_'=>Fe s k a c e u v t_' p_' h_' l_' r0_' r1_' r2_' r3_' r4_' r5_' r6_' r7_' y_' z_') (λt_' p_' h_' l_' r0_' r1_' r2_' r3_' r4_' r5_' r6_' r7_' y_' z_' w_'=>FM s k a c e u v t_' p_' h_' l_' r0_' r1_' r2_' r3_' r4_' r5_' r6_' r7_' y_' z_' w_') (λy_' z_' w_'=>ER s k a c e u v y_' z_' w_') (λr__=>r__=(Gu s k a c e u v)) (λt_ p_ h_ l_ x0_ x1_ x2_ x3_ x4_ x5_ x6_ x7_ r_=>D6 ⟨t_,p_,h_,l_,x0_,x1_,x2_,x3_,x4_,x5_,x6_,x7_⟩ (s)∧r_=(Gu s k a c e u v)):=by
 unfold XZ
 try unfold FK
 try unfold Fe
 try unfold FM
 try unfold ER
 rintro r2 rfl
 refine ⟨hp0, λ_=>⟨λh1=>?_, λh1=>⟨λh2=>?_, λh2=>?_⟩⟩⟩
 ·rintro r6 rfl
  show _=Gu s k a c e u v
  unfold Gu;rw [h1];rfl
 ·exact ⟨by simpa using h1,by rw [h2];rfl,by rw [h2];rfl⟩
 ·exact ⟨by simpa using h1,by rw [h2];rfl,by rw [h2];rfl⟩
theorem Abm (s:MS) (k a c e u v:Int) (hp0:Dk s.l) (y_ z_ t_ p_ h_:Int) (l_:List (Int×Int)) (x0_ x1_ x2_ x3_ x4_ x5_ x6_ x7_:Int) (hI:FK s k a c e u v y_ z_) (hx:D6 ⟨t_,p_,h_,l_,x0_,x1_,x2_,x3_,x4_,x5_,x6_,x7_⟩ (s)):V9 s k a c e u v y_ z_ t_ p_ h_ l_ x0_ x1_ x2_ x3_ x4_ x5_ x6_ x7_ (λt_' p_' h_' l_' r0_' r1_' r2_' r3_' r4_' r5_' r6_' r7_' y_' z_'=>Fe s k a c e u v t_' p_' h_' l_' r0_' r1_' r2_' r3_' r4_' r5_' r6_' r7_' y_' z_'∧lx (3,0,0) (4,0,0)):=by
 unfold FK at hI
 unfold V9
 try unfold FK
 try unfold Fe
 try unfold FM
 try unfold ER
 exact ⟨⟨hx.symm,hI⟩,Bo⟩
theorem Abn (s:MS) (k a c e u v:Int) (hp0:Dk s.l) (t_ p_ h_:Int) (l_:List (Int×Int)) (r0_ r1_ r2_ r3_ r4_ r5_ r6_ r7_ y_ z_:Int) (hI:Fe s k a c e u v t_ p_ h_ l_ r0_ r1_ r2_ r3_ r4_ r5_ r6_ r7_ y_ z_):VA s k a c e u v t_ p_ h_ l_ r0_ r1_ r2_ r3_ r4_ r5_ r6_ r7_ y_ z_ (λy_' z_'=>FK s k a c e u v y_' z_'∧lx (4,0,0) (3,0,0)) (λt_' p_' h_' l_' r0_' r1_' r2_' r3_' r4_' r5_' r6_' r7_' y_' z_'=>Fe s k a c e u v t_' p_' h_' l_' r0_' r1_' r2_' r3_' r4_' r5_' r6_' r7_' y_' z_'∧lx (3,0,0) (3,0,0)) (λt_' p_' h_' l_' r0_' r1_' r2_' r3_' r4_' r5_' r6_' r7_' y_' z_' w_'=>FM s k a c e u v t_' p_' h_' l_' r0_' r1_' r2_' r3_' r4_' r5_' r6_' r7_' y_' z_' w_'∧lx (2,0,0) (3,0,0)) (λy_' z_' w_'=>ER s k a c e u v y_' z_' w_'∧lx (1,0,0) (3,0,0)) (λr__=>r__=(Gu s k a c e u v)) (λt_ p_ h_ l_ x0_ x1_ x2_ x3_ x4_ x5_ x6_ x7_ r_=>D6 ⟨t_,p_,h_,l_,x0_,x1_,x2_,x3_,x4_,x5_,x6_,x7_⟩ (s)∧r_=(Gu s k a c e u v)):=by
 unfold Fe at hI
 unfold VA
 try unfold FK
 try unfold Fe
 try unfold FM
 try unfold ER
 obtain ⟨rfl,h1,h2,h3⟩:=hI
 exact ⟨⟨rfl,h1,h2,h3,rfl⟩,Bo⟩
theorem PS (s:MS) (k a c e u v:Int) (hp0:Dk s.l) (t_ p_ h_:Int) (l_:List (Int×Int)) (r0_ r1_ r2_ r3_ r4_ r5_ r6_ r7_ y_ z_ w_:Int) (hI:FM s k a c e u v t_ p_ h_ l_ r0_ r1_ r2_ r3_ r4_ r5_ r6_ r7_ y_ z_ w_):(D6 ⟨t_,p_,h_,l_,r0_,r1_,r2_,r3_,r4_,r5_,r6_,r7_⟩ s)∧OT s k a c e u v t_ p_ h_ l_ r0_ r1_ r2_ r3_ r4_ r5_ r6_ r7_ y_ z_ w_ (λy_' z_' w_'=>ER s k a c e u v y_' z_' w_'∧lx (1,0,0) (2,0,0)):=by
 unfold FM at hI
 unfold OT
 try unfold FK
 try unfold Fe
 try unfold FM
 try unfold ER
 obtain ⟨rfl,hI⟩:=hI
 exact ⟨rfl,hI,Bo⟩
theorem Abp (s:MS) (k a c e u v:Int) (hp0:Dk s.l) (y_ z_ w_:Int) (hI:ER s k a c e u v y_ z_ w_):VB s k a c e u v y_ z_ w_ (λy_' z_'=>FK s k a c e u v y_' z_'∧lx (4,0,0) (1,0,0)) (λt_' p_' h_' l_' r0_' r1_' r2_' r3_' r4_' r5_' r6_' r7_' y_' z_'=>Fe s k a c e u v t_' p_' h_' l_' r0_' r1_' r2_' r3_' r4_' r5_' r6_' r7_' y_' z_'∧lx (3,0,0) (1,0,0)) (λt_' p_' h_' l_' r0_' r1_' r2_' r3_' r4_' r5_' r6_' r7_' y_' z_' w_'=>FM s k a c e u v t_' p_' h_' l_' r0_' r1_' r2_' r3_' r4_' r5_' r6_' r7_' y_' z_' w_'∧lx (2,0,0) (1,0,0)) (λy_' z_' w_'=>ER s k a c e u v y_' z_' w_'∧lx (1,0,0) (1,0,0)) (λr__=>r__=(Gu s k a c e u v)) (λt_ p_ h_ l_ x0_ x1_ x2_ x3_ x4_ x5_ x6_ x7_ r_=>D6 ⟨t_,p_,h_,l_,x0_,x1_,x2_,x3_,x4_,x5_,x6_,x7_⟩ (s)∧r_=(Gu s k a c e u v)):=by
 unfold ER at hI
 unfold VB
 try unfold FK
 try unfold Fe
 try unfold FM
 try unfold ER
 obtain ⟨h1,rfl,rfl,rfl⟩:=hI
 rintro r0 rfl
 unfold Gu;rw [h1];rfl
theorem AhI:DV 31 XY:=
 Gg Dg Gh false OQ (I:=[1426900,2706000,2999998]) Try.func31 mix (B:=AP Try.f31) (by kernel_rfl) rfl (by kernel_rfl) 400
  λo s k a c e u v hb hp=>have hp0:Dk s.l:=hp _ (.head _);⟨s,s,(Gu s k a c e u v),[⟨some 900,[0,1,1,1,1],[.code [1,1,1,1,1]],[0,4,5,7],[.objk Du ⟨o,0,none⟩ (s), .box 29 [.ic .i64 (k), .ic .i64 (a), .ic .i64 (c)], .box 32 [.ic .i64 (e), .ic .i64 (u), .ic .i64 (v)], .box 55 [.i .i64, .i .i64]]⟩,⟨some 900,[0,1,1,1,1],[.code [1,1,1,1,1]],[0,4,5,7],[.boxc o Es.t Es.l, .box 29 [.ic .i64 (k), .ic .i64 (a), .ic .i64 (c)], .box 32 [.ic .i64 (e), .ic .i64 (u), .ic .i64 (v)], .box 55 [.i .i64, .i .i64]]⟩,⟨some 0,[0,1,1,1,1,1],[.code [1,1,1,1,1,1]],[0,4,5,7,9],[.boxc o Es.t Es.l, .box 29 [.ic .i64 (k), .ic .i64 (a), .ic .i64 (c)], .box 32 [.ic .i64 (e), .ic .i64 (u), .ic .i64 (v)], .box 55 [.i .i64, .i .i64], .i .i64]⟩,⟨some 0,[0,1,1,1,1,1],[.code [1,1,1,1,1,1]],[0,4,5,7,9],[.objk Du ⟨o,0,none⟩ (s), .box 29 [.ic .i64 (k), .ic .i64 (a), .ic .i64 (c)], .box 32 [.ic .i64 (e), .ic .i64 (u), .ic .i64 (v)], .box 55 [.i .i64, .i .i64], .i .i64]⟩],[.opn 0 (λ_=>o) 1, .run, .cls 3, .run], λj=>iN [Ag (Hd.kd (⟨some 900,[0,1,1,1,1],[.code [1,1,1,1,1]],[0,4,5,7],[.objk Du ⟨o,0,none⟩ (s), .box 29 [.ic .i64 (k), .ic .i64 (a), .ic .i64 (c)], .box 32 [.ic .i64 (e), .ic .i64 (u), .ic .i64 (v)], .box 55 [.i .i64, .i .i64]]⟩:Hd Sg)) (λy_' z_'=>FK s k a c e u v y_' z_'),Ag (Hd.kd (⟨some 900,[0,1,1,1,1],[.code [1,1,1,1,1]],[0,4,5,7],[.boxc o Es.t Es.l, .box 29 [.ic .i64 (k), .ic .i64 (a), .ic .i64 (c)], .box 32 [.ic .i64 (e), .ic .i64 (u), .ic .i64 (v)], .box 55 [.i .i64, .i .i64]]⟩:Hd Sg)) (λt_' p_' h_' l_' r0_' r1_' r2_' r3_' r4_' r5_' r6_' r7_' y_' z_'=>Fe s k a c e u v t_' p_' h_' l_' r0_' r1_' r2_' r3_' r4_' r5_' r6_' r7_' y_' z_'),Ag (Hd.kd (⟨some 0,[0,1,1,1,1,1],[.code [1,1,1,1,1,1]],[0,4,5,7,9],[.boxc o Es.t Es.l, .box 29 [.ic .i64 (k), .ic .i64 (a), .ic .i64 (c)], .box 32 [.ic .i64 (e), .ic .i64 (u), .ic .i64 (v)], .box 55 [.i .i64, .i .i64], .i .i64]⟩:Hd Sg)) (λt_' p_' h_' l_' r0_' r1_' r2_' r3_' r4_' r5_' r6_' r7_' y_' z_' w_'=>FM s k a c e u v t_' p_' h_' l_' r0_' r1_' r2_' r3_' r4_' r5_' r6_' r7_' y_' z_' w_'),Ag (Hd.kd (⟨some 0,[0,1,1,1,1,1],[.code [1,1,1,1,1,1]],[0,4,5,7,9],[.objk Du ⟨o,0,none⟩ (s), .box 29 [.ic .i64 (k), .ic .i64 (a), .ic .i64 (c)], .box 32 [.ic .i64 (e), .ic .i64 (u), .ic .i64 (v)], .box 55 [.i .i64, .i .i64], .i .i64]⟩:Hd Sg)) (λy_' z_' w_'=>ER s k a c e u v y_' z_' w_')] j (λ_=>False), λj=>iN [Ag (Hd.kd (⟨some 900,[0,1,1,1,1],[.code [1,1,1,1,1]],[0,4,5,7],[.objk Du ⟨o,0,none⟩ (s), .box 29 [.ic .i64 (k), .ic .i64 (a), .ic .i64 (c)], .box 32 [.ic .i64 (e), .ic .i64 (u), .ic .i64 (v)], .box 55 [.i .i64, .i .i64]]⟩:Hd Sg)) (λy_' z_'=>(4,0,0)),Ag (Hd.kd (⟨some 900,[0,1,1,1,1],[.code [1,1,1,1,1]],[0,4,5,7],[.boxc o Es.t Es.l, .box 29 [.ic .i64 (k), .ic .i64 (a), .ic .i64 (c)], .box 32 [.ic .i64 (e), .ic .i64 (u), .ic .i64 (v)], .box 55 [.i .i64, .i .i64]]⟩:Hd Sg)) (λt_' p_' h_' l_' r0_' r1_' r2_' r3_' r4_' r5_' r6_' r7_' y_' z_'=>(3,0,0)),Ag (Hd.kd (⟨some 0,[0,1,1,1,1,1],[.code [1,1,1,1,1,1]],[0,4,5,7,9],[.boxc o Es.t Es.l, .box 29 [.ic .i64 (k), .ic .i64 (a), .ic .i64 (c)], .box 32 [.ic .i64 (e), .ic .i64 (u), .ic .i64 (v)], .box 55 [.i .i64, .i .i64], .i .i64]⟩:Hd Sg)) (λt_' p_' h_' l_' r0_' r1_' r2_' r3_' r4_' r5_' r6_' r7_' y_' z_' w_'=>(2,0,0)),Ag (Hd.kd (⟨some 0,[0,1,1,1,1,1],[.code [1,1,1,1,1,1]],[0,4,5,7,9],[.objk Du ⟨o,0,none⟩ (s), .box 29 [.ic .i64 (k), .ic .i64 (a), .ic .i64 (c)], .box 32 [.ic .i64 (e), .ic .i64 (u), .ic .i64 (v)], .box 55 [.i .i64, .i .i64], .i .i64]⟩:Hd Sg)) (λy_' z_' w_'=>(1,0,0))] j (λ_=>(0,0,0)),by kernel_rfl, λ_ _=>by kernel_rfl,by kernel_rfl,⟨_, λ_ _ _=>by kernel_rfl,Abl s k a c e u v hp0⟩,⟨λy_ z_ hI=>⟨s, λ_=>by kernel_rfl, λt_ p_ h_ l_ x0_ x1_ x2_ x3_ x4_ x5_ x6_ x7_ hx=>⟨_, λ_ _=>by kernel_rfl,Abm s k a c e u v hp0 y_ z_ t_ p_ h_ l_ x0_ x1_ x2_ x3_ x4_ x5_ x6_ x7_ hI hx⟩⟩,⟨λt_ p_ h_ l_ r0_ r1_ r2_ r3_ r4_ r5_ r6_ r7_ y_ z_ hI=>⟨_, λ_ _ _=>by kernel_rfl,Abn s k a c e u v hp0 t_ p_ h_ l_ r0_ r1_ r2_ r3_ r4_ r5_ r6_ r7_ y_ z_ hI⟩,⟨λt_ p_ h_ l_ r0_ r1_ r2_ r3_ r4_ r5_ r6_ r7_ y_ z_ w_ hI=>⟨s,OT s k a c e u v t_ p_ h_ l_ r0_ r1_ r2_ r3_ r4_ r5_ r6_ r7_ y_ z_ w_ (λy_' z_' w_'=>ER s k a c e u v y_' z_' w_'∧lx (1,0,0) (2,0,0)),(PS s k a c e u v hp0 t_ p_ h_ l_ r0_ r1_ r2_ r3_ r4_ r5_ r6_ r7_ y_ z_ w_ hI).1, λ_=>by kernel_rfl,(PS s k a c e u v hp0 t_ p_ h_ l_ r0_ r1_ r2_ r3_ r4_ r5_ r6_ r7_ y_ z_ w_ hI).2⟩,⟨λy_ z_ w_ hI=>⟨_, λ_ _ _=>by kernel_rfl,Abp s k a c e u v hp0 y_ z_ w_ hI⟩,trivial⟩⟩⟩⟩⟩
def Ya:Tb:=(31,XY)::Uh
theorem Ri:D7 Ya:=Ea AhI OQ
def Jr (s:MS) (k a c e u v:Int):Bool:=bif !(atR s.l a).2.2 then Bl 4 e u v else bif [s.r0,s.r1,s.r2,s.r3,s.r4,s.r5,s.r6,s.r7].contains a then Bl 6 e u v else AhD e u v (atR s.l a).2.1 0
abbrev AoN:Ct Sg:=⟨some Du,true,[.agg [.i .i64, .i .i64, .i .i64], .agg [.i .i64, .i .i64, .i .i64]], .b⟩
def AhJ:Entry Sg:=BU AoN (λ(s:MS) (k:Int) (a:Int) (c:Int) (e:Int) (u:Int) (v:Int)=>bif !(atR s.l a).2.2 then Bl 4 e u v else bif [s.r0,s.r1,s.r2,s.r3,s.r4,s.r5,s.r6,s.r7].contains a then Bl 6 e u v else AhD e u v (atR s.l a).2.1 0) (λs k a c e u v=>[Dk s.l])
def AhK (s:MS) (k a c e u v:Int) (Q0:Int→Int→Prop) (Q1:Int→Int→Int→List (Int×Int)→Int→Int→Int→Int→Int→Int→Int→Int→Int→Int→Prop) (R_:Bool→Prop) (O_:Int→Int→Int→List (Int×Int)→Int→Int→Int→Int→Int→Int→Int→Int→Bool→Prop):Prop:=(∀r2:Int×Int×Bool,r2=(atR (MS.l s) a)→(Ap (Dk (MS.l s)) (AV (!r2.2.2) (∀r6:Bool,r6=(Bl 4 e u v)→(R_ (r6))) (Q0 r2.1 r2.2.1))))
def AeG (s:MS) (k a c e u v y_ z_ t_ p_ h_:Int) (l_:List (Int×Int)) (x0_ x1_ x2_ x3_ x4_ x5_ x6_ x7_:Int) (Q1:Int→Int→Int→List (Int×Int)→Int→Int→Int→Int→Int→Int→Int→Int→Int→Int→Prop):Prop:=(Q1 (t_) (p_) (h_) (l_) (x0_) (x1_) (x2_) (x3_) (x4_) (x5_) (x6_) (x7_) (y_) (z_))
def Jf (s:MS) (k a c e u v y_ z_:Int):Prop:=(atR s.l a).2.2=true∧z_=(atR s.l a).2.1
abbrev JW (e u v:Int) (O_:Int→Int→Int→List (Int×Int)→Int→Int→Int→Int→Int→Int→Int→Int→Bool→Prop) (t_ p_ h_:Int) (l_:List (Int×Int)) (r0_ r1_ r2_ r3_ r4_ r5_ r6_ r7_ z_:Int):Prop:=(AV (true) (∀r3:Bool,r3=(Bl 6 e u v)→(O_ (t_) (p_) (h_) (l_) (r0_) (r1_) (r2_) (r3_) (r4_) (r5_) (r6_) (r7_) (r3))) (O_ (t_) (p_) (h_) (l_) (r0_) (r1_) (r2_) (r3_) (r4_) (r5_) (r6_) (r7_) (e==0&&(u==z_&&(v==0&&true)))))
def AeH (s:MS) (k a c e u v t_ p_ h_:Int) (l_:List (Int×Int)) (r0_ r1_ r2_ r3_ r4_ r5_ r6_ r7_ y_ z_:Int) (Q0:Int→Int→Prop) (Q1:Int→Int→Int→List (Int×Int)→Int→Int→Int→Int→Int→Int→Int→Int→Int→Int→Prop) (R_:Bool→Prop) (O_:Int→Int→Int→List (Int×Int)→Int→Int→Int→Int→Int→Int→Int→Int→Bool→Prop):Prop:=(tw_ (Ap ((0:Int)≤0∧(0:Int)<8) (AV (a==r0_) (JW e u v O_ t_ p_ h_ l_ r0_ r1_ r2_ r3_ r4_ r5_ r6_ r7_ z_) (Ap ((0:Int)≤1∧(1:Int)<8) (AV (a==r1_) (JW e u v O_ t_ p_ h_ l_ r0_ r1_ r2_ r3_ r4_ r5_ r6_ r7_ z_) (Ap ((0:Int)≤2∧(2:Int)<8) (AV (a==r2_) (JW e u v O_ t_ p_ h_ l_ r0_ r1_ r2_ r3_ r4_ r5_ r6_ r7_ z_) (Ap ((0:Int)≤3∧(3:Int)<8) (AV (a==r3_) (JW e u v O_ t_ p_ h_ l_ r0_ r1_ r2_ r3_ r4_ r5_ r6_ r7_ z_) (Ap ((0:Int)≤4∧(4:Int)<8) (AV (a==r4_) (JW e u v O_ t_ p_ h_ l_ r0_ r1_ r2_ r3_ r4_ r5_ r6_ r7_ z_) (Ap ((0:Int)≤5∧(5:Int)<8) (AV (a==r5_) (JW e u v O_ t_ p_ h_ l_ r0_ r1_ r2_ r3_ r4_ r5_ r6_ r7_ z_) (Ap ((0:Int)≤6∧(6:Int)<8) (AV (a==r6_) (JW e u v O_ t_ p_ h_ l_ r0_ r1_ r2_ r3_ r4_ r5_ r6_ r7_ z_) (Ap ((0:Int)≤7∧(7:Int)<8) (AV (a==r7_) (JW e u v O_ t_ p_ h_ l_ r0_ r1_ r2_ r3_ r4_ r5_ r6_ r7_ z_) (AV (false) (∀r17:Bool,r17=(Bl 6 e u v)→(O_ (t_) (p_) (h_) (l_) (r0_) (r1_) (r2_) (r3_) (r4_) (r5_) (r6_) (r7_) (r17))) (O_ (t_) (p_) (h_) (l_) (r0_) (r1_) (r2_) (r3_) (r4_) (r5_) (r6_) (r7_) (e==0&&(u==z_&&(v==0&&true))))))))))))))))))))))
def IE (s:MS) (k a c e u v t_ p_ h_:Int) (l_:List (Int×Int)) (r0_ r1_ r2_ r3_ r4_ r5_ r6_ r7_ y_ z_:Int):Prop:=s=⟨t_,p_,h_,l_,r0_,r1_,r2_,r3_,r4_,r5_,r6_,r7_⟩∧(atR s.l a).2.2=true∧z_=(atR s.l a).2.1
theorem AhL (s:MS) (k a c e u v:Int) (hp0:Dk s.l):AhK s k a c e u v (λy_' z_'=>Jf s k a c e u v y_' z_') (λt_' p_' h_' l_' r0_' r1_' r2_' r3_' r4_' r5_' r6_' r7_' y_' z_'=>IE s k a c e u v t_' p_' h_' l_' r0_' r1_' r2_' r3_' r4_' r5_' r6_' r7_' y_' z_') (λr__=>r__=(Jr s k a c e u v)) (λt_ p_ h_ l_ x0_ x1_ x2_ x3_ x4_ x5_ x6_ x7_ r_=>D6 ⟨t_,p_,h_,l_,x0_,x1_,x2_,x3_,x4_,x5_,x6_,x7_⟩ (s)∧r_=(Jr s k a c e u v)):=by
 unfold AhK
 try unfold Jf
 try unfold IE
 rintro r2 rfl
 refine ⟨hp0, λ_=>⟨λh1=>?_, λh1=>⟨by simpa using h1,rfl⟩⟩⟩
 rintro r6 rfl
 show _=Jr s k a c e u v
 unfold Jr;rw [h1];rfl
theorem AhM (s:MS) (k a c e u v:Int) (hp0:Dk s.l) (y_ z_ t_ p_ h_:Int) (l_:List (Int×Int)) (x0_ x1_ x2_ x3_ x4_ x5_ x6_ x7_:Int) (hI:Jf s k a c e u v y_ z_) (hx:D6 ⟨t_,p_,h_,l_,x0_,x1_,x2_,x3_,x4_,x5_,x6_,x7_⟩ (s)):AeG s k a c e u v y_ z_ t_ p_ h_ l_ x0_ x1_ x2_ x3_ x4_ x5_ x6_ x7_ (λt_' p_' h_' l_' r0_' r1_' r2_' r3_' r4_' r5_' r6_' r7_' y_' z_'=>IE s k a c e u v t_' p_' h_' l_' r0_' r1_' r2_' r3_' r4_' r5_' r6_' r7_' y_' z_'∧lx (3,0,0) (4,0,0)):=by
 unfold Jf at hI
 unfold AeG
 try unfold Jf
 try unfold IE
 exact ⟨⟨hx.symm,hI⟩,Bo⟩
theorem AhN (s:MS) (k a c e u v:Int) (hp0:Dk s.l) (t_ p_ h_:Int) (l_:List (Int×Int)) (r0_ r1_ r2_ r3_ r4_ r5_ r6_ r7_ y_ z_:Int) (hI:IE s k a c e u v t_ p_ h_ l_ r0_ r1_ r2_ r3_ r4_ r5_ r6_ r7_ y_ z_):AeH s k a c e u v t_ p_ h_ l_ r0_ r1_ r2_ r3_ r4_ r5_ r6_ r7_ y_ z_ (λy_' z_'=>Jf s k a c e u v y_' z_'∧lx (4,0,0) (3,0,0)) (λt_' p_' h_' l_' r0_' r1_' r2_' r3_' r4_' r5_' r6_' r7_' y_' z_'=>IE s k a c e u v t_' p_' h_' l_' r0_' r1_' r2_' r3_' r4_' r5_' r6_' r7_' y_' z_'∧lx (3,0,0) (3,0,0)) (λr__=>r__=(Jr s k a c e u v)) (λt_ p_ h_ l_ x0_ x1_ x2_ x3_ x4_ x5_ x6_ x7_ r_=>D6 ⟨t_,p_,h_,l_,x0_,x1_,x2_,x3_,x4_,x5_,x6_,x7_⟩ (s)∧r_=(Jr s k a c e u v)):=by
 unfold IE at hI
 unfold AeH JW
 try unfold Jf
 try unfold IE
 obtain ⟨rfl,h1,rfl⟩:=hI
 have key:Jr ⟨t_,p_,h_,l_,r0_,r1_,r2_,r3_,r4_,r5_,r6_,r7_⟩ k a c e u v=bif [r0_,r1_,r2_,r3_,r4_,r5_,r6_,r7_].contains a then Bl 6 e u v else AhD e u v (atR l_ a).2.1 0:=by unfold Jr;rw [h1];rfl
 apply Asq
 refine ⟨by decide, λ_=>⟨λe0=>⟨λ_=>?_, λh=>(by cases h)⟩, λe0=>?_⟩⟩
 ·rintro r rfl;exact ⟨rfl,by rw [key];simp only [lL,e0,jW,kS,cond_true]⟩
 refine ⟨by decide, λ_=>⟨λe1=>⟨λ_=>?_, λh=>(by cases h)⟩, λe1=>?_⟩⟩
 ·rintro r rfl;exact ⟨rfl,by rw [key];simp only [lL,e0,e1,jW,kS,cond_true]⟩
 refine ⟨by decide, λ_=>⟨λe2=>⟨λ_=>?_, λh=>(by cases h)⟩, λe2=>?_⟩⟩
 ·rintro r rfl;exact ⟨rfl,by rw [key];simp only [lL,e0,e1,e2,jW,kS,cond_true]⟩
 refine ⟨by decide, λ_=>⟨λe3=>⟨λ_=>?_, λh=>(by cases h)⟩, λe3=>?_⟩⟩
 ·rintro r rfl;exact ⟨rfl,by rw [key];simp only [lL,e0,e1,e2,e3,jW,kS,cond_true]⟩
 refine ⟨by decide, λ_=>⟨λe4=>⟨λ_=>?_, λh=>(by cases h)⟩, λe4=>?_⟩⟩
 ·rintro r rfl;exact ⟨rfl,by rw [key];simp only [lL,e0,e1,e2,e3,e4,jW,kS,cond_true]⟩
 refine ⟨by decide, λ_=>⟨λe5=>⟨λ_=>?_, λh=>(by cases h)⟩, λe5=>?_⟩⟩
 ·rintro r rfl;exact ⟨rfl,by rw [key];simp only [lL,e0,e1,e2,e3,e4,e5,jW,kS,cond_true]⟩
 refine ⟨by decide, λ_=>⟨λe6=>⟨λ_=>?_, λh=>(by cases h)⟩, λe6=>?_⟩⟩
 ·rintro r rfl;exact ⟨rfl,by rw [key];simp only [lL,e0,e1,e2,e3,e4,e5,e6,jW,kS,cond_true]⟩
 refine ⟨by decide, λ_=>⟨λe7=>⟨λ_=>?_, λh=>(by cases h)⟩, λe7=>?_⟩⟩
 ·rintro r rfl;exact ⟨rfl,by rw [key];simp only [lL,e0,e1,e2,e3,e4,e5,e6,e7,jW,kS,cond_true]⟩
 exact ⟨λh=>(by cases h), λ_=>⟨rfl,by rw [key];simp only [lL,List.contains_nil,e0,e1,e2,e3,e4,e5,e6,e7,jW,cond_false];rfl⟩⟩
theorem An1:DV 30 AhJ:=
 Gg Dg Gh false Ri (I:=[65,81,7746900,2999999,2999998]) Try.func30 mix (B:=AP Try.f30) (by kernel_rfl) rfl (by kernel_rfl) 400
  λo s k a c e u v hb hp=>have hp0:Dk s.l:=hp _ (.head _);⟨s,s,(Jr s k a c e u v),[⟨some 900,[0,1,1,0,0,1,1],[.code [1,1,1,0,0,1,1], .blk 0, .code [1,1,1]],[0,4,5,7],[.objk Du ⟨o,0,none⟩ (s), .box 29 [.ic .i64 (k), .ic .i64 (a), .ic .i64 (c)], .box 32 [.ic .i64 (e), .ic .i64 (u), .ic .i64 (v)], .box 55 [.i .i64, .i .i64]]⟩,⟨some 900,[0,1,1,0,0,1,1],[.code [1,1,1,0,0,1,1], .blk 0, .code [1,1,1]],[0,4,5,7],[.boxc o Es.t Es.l, .box 29 [.ic .i64 (k), .ic .i64 (a), .ic .i64 (c)], .box 32 [.ic .i64 (e), .ic .i64 (u), .ic .i64 (v)], .box 55 [.i .i64, .i .i64]]⟩],[.opn 0 (λ_=>o) 1, .run], λj=>iN [Ag (Hd.kd (⟨some 900,[0,1,1,0,0,1,1],[.code [1,1,1,0,0,1,1], .blk 0, .code [1,1,1]],[0,4,5,7],[.objk Du ⟨o,0,none⟩ (s), .box 29 [.ic .i64 (k), .ic .i64 (a), .ic .i64 (c)], .box 32 [.ic .i64 (e), .ic .i64 (u), .ic .i64 (v)], .box 55 [.i .i64, .i .i64]]⟩:Hd Sg)) (λy_' z_'=>Jf s k a c e u v y_' z_'),Ag (Hd.kd (⟨some 900,[0,1,1,0,0,1,1],[.code [1,1,1,0,0,1,1], .blk 0, .code [1,1,1]],[0,4,5,7],[.boxc o Es.t Es.l, .box 29 [.ic .i64 (k), .ic .i64 (a), .ic .i64 (c)], .box 32 [.ic .i64 (e), .ic .i64 (u), .ic .i64 (v)], .box 55 [.i .i64, .i .i64]]⟩:Hd Sg)) (λt_' p_' h_' l_' r0_' r1_' r2_' r3_' r4_' r5_' r6_' r7_' y_' z_'=>IE s k a c e u v t_' p_' h_' l_' r0_' r1_' r2_' r3_' r4_' r5_' r6_' r7_' y_' z_')] j (λ_=>False), λj=>iN [Ag (Hd.kd (⟨some 900,[0,1,1,0,0,1,1],[.code [1,1,1,0,0,1,1], .blk 0, .code [1,1,1]],[0,4,5,7],[.objk Du ⟨o,0,none⟩ (s), .box 29 [.ic .i64 (k), .ic .i64 (a), .ic .i64 (c)], .box 32 [.ic .i64 (e), .ic .i64 (u), .ic .i64 (v)], .box 55 [.i .i64, .i .i64]]⟩:Hd Sg)) (λy_' z_'=>(4,0,0)),Ag (Hd.kd (⟨some 900,[0,1,1,0,0,1,1],[.code [1,1,1,0,0,1,1], .blk 0, .code [1,1,1]],[0,4,5,7],[.boxc o Es.t Es.l, .box 29 [.ic .i64 (k), .ic .i64 (a), .ic .i64 (c)], .box 32 [.ic .i64 (e), .ic .i64 (u), .ic .i64 (v)], .box 55 [.i .i64, .i .i64]]⟩:Hd Sg)) (λt_' p_' h_' l_' r0_' r1_' r2_' r3_' r4_' r5_' r6_' r7_' y_' z_'=>(3,0,0))] j (λ_=>(0,0,0)),by kernel_rfl, λ_ _=>by kernel_rfl,by kernel_rfl,⟨_, λ_ _ _=>by kernel_rfl,AhL s k a c e u v hp0⟩,⟨λy_ z_ hI=>⟨s, λ_=>by kernel_rfl, λt_ p_ h_ l_ x0_ x1_ x2_ x3_ x4_ x5_ x6_ x7_ hx=>⟨_, λ_ _=>by kernel_rfl,AhM s k a c e u v hp0 y_ z_ t_ p_ h_ l_ x0_ x1_ x2_ x3_ x4_ x5_ x6_ x7_ hI hx⟩⟩,⟨λt_ p_ h_ l_ r0_ r1_ r2_ r3_ r4_ r5_ r6_ r7_ y_ z_ hI=>⟨_, λ_ _ _=>by kernel_rfl,AhN s k a c e u v hp0 t_ p_ h_ l_ r0_ r1_ r2_ r3_ r4_ r5_ r6_ r7_ y_ z_ hI⟩,trivial⟩⟩⟩
def AhO:Tb:=(30,AhJ)::Ya
theorem Yb:D7 AhO:=Ea An1 Ri
end
section
open Go.Sl
def ApJ (s:MS) (k a c e u v:Int):Bool:=bif k==1 then Ja s k a c e u v else bif k==2 then Jr s k a c e u v else bif k==3 then Gu s k a c e u v else bif k==4 then Ic s k a c e u v else bif k==5 then KX s k a c e u v else bif k==6 then KW s k a c e u v else bif k==7 then MQ s k a c e u v else bif k==8 then IZ s k a c e u v else bif k==9 then I7 s k a c e u v else false
theorem AlY {k a c:Int} (h:Hq k a c=true):k=1∨k=2∨k=3∨k=4∨k=5∨k=6∨k=7∨k=8∨k=9:=by
 apply Classical.byContradiction
 intro hn
 simp only [not_or] at hn
 obtain ⟨h1,h2,h3,h4,h5,h6,h7,h8,h9⟩:=hn
 have e:∀i:Int,k≠i→(k==i)=false:= λi h=>by simpa using h
 unfold Hq at h
 rw [e 1 h1,e 2 h2,e 3 h3,e 4 h4,e 5 h5,e 6 h6,e 7 h7,e 8 h8,e 9 h9] at h
 cases h
def BN (s:MS) (k a c e u v:Int):Bool:=bif !Hq k a c then Bl 1 e u v else ApJ s k a c e u v
abbrev AlZ:Ct Sg:=⟨some Du,true,[.agg [.i .i64, .i .i64, .i .i64], .agg [.i .i64, .i .i64, .i .i64]], .b⟩
def Abq:Entry Sg:=BU AlZ BN (λs k a c e u v=>[Dk s.l])
def SH (s:MS) (k a c e u v:Int) (Q0:Int→Prop) (R_:Bool→Prop):Prop:=(AV (!true) (R_ (false)) (AV (!Hq k a c) (R_ (Bl 1 e u v)) (Q0 (k))))
def NE (p0:Addr) (s:MS) (k a c e u v:Int) (Q0:Int→Prop) (R_:Bool→Prop):Prop:=(Ap (p0=p0) (R_ (Gj s a e u v (kM (BI (MS.t s) (MS.p s) (MS.h s) a)) 0 0)))
def NF (p0:Addr) (s:MS) (k a c e u v:Int) (Q0:Int→Prop) (R_:Bool→Prop):Prop:=(Ap (p0=p0) (Ap (Dk (MS.l s)) (R_ (bif !Option.isSome (PQ (MS.l s) a) then Bl 4 e u v else bif List.contains [MS.r0 s,MS.r1 s,MS.r2 s,MS.r3 s,MS.r4 s,MS.r5 s,MS.r6 s,MS.r7 s] a then Bl 6 e u v else AhD e u v (mI (Option.getD (PQ (MS.l s) a) (0,0))) 0))))
def NG (p0:Addr) (s:MS) (k a c e u v:Int) (Q0:Int→Prop) (R_:Bool→Prop):Prop:=(Ap (p0=p0) (Ap (Dk (MS.l s)) (R_ (bif !Option.isSome (PQ (MS.l s) a) then Bl 4 e u v else Gj s c e u v (kM (BI (MS.t s) (MS.p s) (MS.h s) c)) (bif u !=a then 0 else kM (Option.getD (PQ (MS.l s) a) (0,0))) (bif u !=a then 0 else mI (Option.getD (PQ (MS.l s) a) (0,0)))))))
def NH (p0:Addr) (s:MS) (k a c e u v:Int) (Q0:Int→Prop) (R_:Bool→Prop):Prop:=(Ap (p0=p0) (R_ (Ic s 4 a c e u v)))
def NI (p0:Addr) (s:MS) (k a c e u v:Int) (Q0:Int→Prop) (R_:Bool→Prop):Prop:=(Ap (p0=p0) (Ap (Dk (MS.l s)) (R_ (KX s 5 a c e u v))))
def NJ (p0:Addr) (s:MS) (k a c e u v:Int) (Q0:Int→Prop) (R_:Bool→Prop):Prop:=(Ap (p0=p0) (R_ (KW s 6 a c e u v)))
def NK (p0:Addr) (s:MS) (k a c e u v:Int) (Q0:Int→Prop) (R_:Bool→Prop):Prop:=(Ap (p0=p0) (Ap (Dk (MS.l s)) (R_ (MQ s 7 a c e u v))))
def NL (p0:Addr) (s:MS) (k a c e u v:Int) (Q0:Int→Prop) (R_:Bool→Prop):Prop:=(Ap (p0=p0) (R_ (e==0&&decide (u≥0)&&decide (u≤MS.p s)&&v==(↑(iH (MS.l s)):Int))))
def NM (p0:Addr) (s:MS) (k a c e u v:Int) (Q0:Int→Prop) (R_:Bool→Prop):Prop:=(Ap (p0=p0) (R_ (bif decide (a<0)||decide (a≥9) then Bl 7 e u v else e==0&&decide (u≥0)&&decide (u≤4)&&v==0)))
def AX (s:MS) (k a c e u v kk:Int) (r_:Bool):Prop:=kk=k∧Hq k a c=true∧r_=ApJ s k a c e u v
abbrev Qj (p0:Addr) (s:MS) (k a c e u v:Int):Hd Sg:=⟨some 0,[0,1,1,1],[.code [1,1,1,1]],[0,4,5],[.objk Du p0 (s), .box 29 [.i .i64, .ic .i64 (a), .ic .i64 (c)], .box 32 [.ic .i64 (e), .ic .i64 (u), .ic .i64 (v)]]⟩
theorem Adp (s:MS) (k a c e u v:Int) (hp0:Dk s.l):SH s k a c e u v (λkk'=>AX s k a c e u v kk' (BN s k a c e u v)) (λr__=>r__=(BN s k a c e u v)):=by
 unfold SH
 try unfold AX
 refine ⟨λh=>(by cases h), λ_=>⟨λh=>?_, λh=>⟨rfl,by simpa using h,?_⟩⟩⟩
 ·unfold BN;rw [h];rfl
 ·unfold BN;rw [h];rfl
theorem AhP (s:MS) (k a c e u v:Int) (hp0:Dk s.l) (kk:Int) {r_:Bool} (hI:AX s k a c e u v kk r_):kk=1∨kk=2∨kk=3∨kk=4∨kk=5∨kk=6∨kk=7∨kk=8∨kk=9:=by
 unfold AX at hI
 obtain ⟨rfl,h,_⟩:=hI
 exact AlY h
theorem YT {p0:Addr} (s:MS) (k a c e u v:Int) (hp0:Dk s.l) {r_:Bool} (hI:AX s k a c e u v (1:Int) r_):NE p0 s k a c e u v (λkk'=>AX s k a c e u v kk' r_∧lx (1,0,0) (1,0,0)) (λr__=>r__=r_):=by
 unfold AX at hI
 unfold NE
 try unfold AX
 obtain ⟨rfl,_,rfl⟩:=hI
 exact ⟨rfl, λ_=>rfl⟩
theorem YU {p0:Addr} (s:MS) (k a c e u v:Int) (hp0:Dk s.l) {r_:Bool} (hI:AX s k a c e u v (2:Int) r_):NF p0 s k a c e u v (λkk'=>AX s k a c e u v kk' r_∧lx (1,0,0) (1,0,0)) (λr__=>r__=r_):=by
 unfold AX at hI
 unfold NF
 try unfold AX
 obtain ⟨rfl,_,rfl⟩:=hI
 exact ⟨rfl, λ_=>⟨hp0, λ_=>rfl⟩⟩
theorem YV {p0:Addr} (s:MS) (k a c e u v:Int) (hp0:Dk s.l) {r_:Bool} (hI:AX s k a c e u v (3:Int) r_):NG p0 s k a c e u v (λkk'=>AX s k a c e u v kk' r_∧lx (1,0,0) (1,0,0)) (λr__=>r__=r_):=by
 unfold AX at hI
 unfold NG
 try unfold AX
 obtain ⟨rfl,_,rfl⟩:=hI
 exact ⟨rfl, λ_=>⟨hp0, λ_=>rfl⟩⟩
theorem YW {p0:Addr} (s:MS) (k a c e u v:Int) (hp0:Dk s.l) {r_:Bool} (hI:AX s k a c e u v (4:Int) r_):NH p0 s k a c e u v (λkk'=>AX s k a c e u v kk' r_∧lx (1,0,0) (1,0,0)) (λr__=>r__=r_):=by
 unfold AX at hI
 unfold NH
 try unfold AX
 obtain ⟨rfl,_,rfl⟩:=hI
 exact ⟨rfl, λ_=>rfl⟩
theorem YX {p0:Addr} (s:MS) (k a c e u v:Int) (hp0:Dk s.l) {r_:Bool} (hI:AX s k a c e u v (5:Int) r_):NI p0 s k a c e u v (λkk'=>AX s k a c e u v kk' r_∧lx (1,0,0) (1,0,0)) (λr__=>r__=r_):=by
 unfold AX at hI
 unfold NI
 try unfold AX
 obtain ⟨rfl,_,rfl⟩:=hI
 exact ⟨rfl, λ_=>⟨hp0, λ_=>rfl⟩⟩
theorem YY {p0:Addr} (s:MS) (k a c e u v:Int) (hp0:Dk s.l) {r_:Bool} (hI:AX s k a c e u v (6:Int) r_):NJ p0 s k a c e u v (λkk'=>AX s k a c e u v kk' r_∧lx (1,0,0) (1,0,0)) (λr__=>r__=r_):=by
 unfold AX at hI
 unfold NJ
 try unfold AX
 obtain ⟨rfl,_,rfl⟩:=hI
 exact ⟨rfl, λ_=>rfl⟩
theorem YZ {p0:Addr} (s:MS) (k a c e u v:Int) (hp0:Dk s.l) {r_:Bool} (hI:AX s k a c e u v (7:Int) r_):NK p0 s k a c e u v (λkk'=>AX s k a c e u v kk' r_∧lx (1,0,0) (1,0,0)) (λr__=>r__=r_):=by
 unfold AX at hI
 unfold NK
 try unfold AX
 obtain ⟨rfl,_,rfl⟩:=hI
 exact ⟨rfl, λ_=>⟨hp0, λ_=>rfl⟩⟩
theorem Za {p0:Addr} (s:MS) (k a c e u v:Int) (hp0:Dk s.l) {r_:Bool} (hI:AX s k a c e u v (8:Int) r_):NL p0 s k a c e u v (λkk'=>AX s k a c e u v kk' r_∧lx (1,0,0) (1,0,0)) (λr__=>r__=r_):=by
 unfold AX at hI
 unfold NL
 try unfold AX
 obtain ⟨rfl,_,rfl⟩:=hI
 exact ⟨rfl, λ_=>rfl⟩
theorem Zb {p0:Addr} (s:MS) (k a c e u v:Int) (hp0:Dk s.l) {r_:Bool} (hI:AX s k a c e u v (9:Int) r_):NM p0 s k a c e u v (λkk'=>AX s k a c e u v kk' r_∧lx (1,0,0) (1,0,0)) (λr__=>r__=r_):=by
 unfold AX at hI
 unfold NM
 try unfold AX
 obtain ⟨rfl,_,rfl⟩:=hI
 exact ⟨rfl, λ_=>rfl⟩
theorem Aj9:DV 10 Abq:=
 LC Dg Yb (I:=[1106000]) Try.func10 mix (B:=AP Try.f10) (by kernel_rfl) rfl (by kernel_rfl) 400
  λp0 s k a c e u v hb hp=>have hp0:Dk s.l:=hp _ (.head _);⟨[Qj p0 s k a c e u v], λj=>iN [Ag (Hd.kd (Qj p0 s k a c e u v)) (λkk'=>AX s k a c e u v kk' (BN s k a c e u v))] j (λ_=>False), λj=>iN [Ag (Hd.kd (Qj p0 s k a c e u v)) (λkk'=>(1,0,0))] j (λ_=>(0,0,0)),by kernel_rfl,⟨SH s k a c e u v (λkk'=>AX s k a c e u v kk' (BN s k a c e u v)) (λr__=>r__=(BN s k a c e u v)), λ_ _ _=>by kernel_rfl,Adp s k a c e u v hp0⟩,⟨λkk hI=>(by
   rcases AhP s k a c e u v hp0 kk hI with rfl|rfl|rfl|rfl|rfl|rfl|rfl|rfl|rfl
   ·exact ⟨NE p0 s k a c e u v (λkk'=>AX s k a c e u v kk' (BN s k a c e u v)∧lx (1,0,0) (1,0,0)) (λr__=>r__=(BN s k a c e u v)), λ_ _ _=>by kernel_rfl,YT s k a c e u v hp0 hI⟩
   ·exact ⟨NF p0 s k a c e u v (λkk'=>AX s k a c e u v kk' (BN s k a c e u v)∧lx (1,0,0) (1,0,0)) (λr__=>r__=(BN s k a c e u v)), λ_ _ _=>by kernel_rfl,YU s k a c e u v hp0 hI⟩
   ·exact ⟨NG p0 s k a c e u v (λkk'=>AX s k a c e u v kk' (BN s k a c e u v)∧lx (1,0,0) (1,0,0)) (λr__=>r__=(BN s k a c e u v)), λ_ _ _=>by kernel_rfl,YV s k a c e u v hp0 hI⟩
   ·exact ⟨NH p0 s k a c e u v (λkk'=>AX s k a c e u v kk' (BN s k a c e u v)∧lx (1,0,0) (1,0,0)) (λr__=>r__=(BN s k a c e u v)), λ_ _ _=>by kernel_rfl,YW s k a c e u v hp0 hI⟩
   ·exact ⟨NI p0 s k a c e u v (λkk'=>AX s k a c e u v kk' (BN s k a c e u v)∧lx (1,0,0) (1,0,0)) (λr__=>r__=(BN s k a c e u v)), λ_ _ _=>by kernel_rfl,YX s k a c e u v hp0 hI⟩
   ·exact ⟨NJ p0 s k a c e u v (λkk'=>AX s k a c e u v kk' (BN s k a c e u v)∧lx (1,0,0) (1,0,0)) (λr__=>r__=(BN s k a c e u v)), λ_ _ _=>by kernel_rfl,YY s k a c e u v hp0 hI⟩
   ·exact ⟨NK p0 s k a c e u v (λkk'=>AX s k a c e u v kk' (BN s k a c e u v)∧lx (1,0,0) (1,0,0)) (λr__=>r__=(BN s k a c e u v)), λ_ _ _=>by kernel_rfl,YZ s k a c e u v hp0 hI⟩
   ·exact ⟨NL p0 s k a c e u v (λkk'=>AX s k a c e u v kk' (BN s k a c e u v)∧lx (1,0,0) (1,0,0)) (λr__=>r__=(BN s k a c e u v)), λ_ _ _=>by kernel_rfl,Za s k a c e u v hp0 hI⟩
   ·exact ⟨NM p0 s k a c e u v (λkk'=>AX s k a c e u v kk' (BN s k a c e u v)∧lx (1,0,0) (1,0,0)) (λr__=>r__=(BN s k a c e u v)), λ_ _ _=>by kernel_rfl,Zb s k a c e u v hp0 hI⟩),trivial⟩⟩
def Abr:Tb:=(10,Abq)::AhO
theorem Af8:D7 Abr:=Ea Aj9 Yb
end
section
open Go.Sl
def Gw (r f g i j:Int):Int:=bif decide (j<i)&&r==f then g else r
def AhQ:Tb:=Abr
theorem AjA:D7 AhQ:=Af8
end
section
open Go.Sl
def AeI:Tb:=AhQ
theorem VC:D7 AeI:=AjA
end
section
open Go.Sl
def Ba (xs ys:LI):List (Int×Int):=xs.zip ys
def GH (t p h:Int) (xs ys:LI) (i:Nat):MS:=⟨t,p,h,(Ba xs ys).take i,0,0,0,0,0,0,0,0⟩
def OU (t p h:Int) (xs ys:LI) (s0 s1 s2 s3 s4 s5 s6 s7:Int):MS:=⟨t,p,h,Ba xs ys,s0,s1,s2,s3,s4,s5,s6,s7⟩
def LK (t p h:Int) (xs ys:LI):Prop:=∀i:Nat,i<xs.length→Eu (GH t p h xs ys i) (xs.getD i 0) (ys.getD i 0) 0 0=true
def LM (l:List (Int×Int)) (rs:LI):Prop:=∀i:Nat,i<8→rs.getD i 0≠0→(atR l (rs.getD i 0)).2.2=true
theorem WI {xs ys:LI} (hl:xs.length=ys.length) {i:Nat} (hi:i<xs.length):(Ba xs ys)[i]? =some (xs.getD i 0,ys.getD i 0):=by
 unfold Ba
 rw [iC,iC,iK hi,iK (by omega:i<ys.length)]
 rw [iK (by rw [List.length_zip];omega),List.getElem_zip]
 rfl
theorem Jb {xs ys:LI} (hl:xs.length=ys.length):(Ba xs ys).length=xs.length:=by
 unfold Ba;rw [List.length_zip];omega
theorem AoO {xs ys:LI} (hl:xs.length=ys.length) (hn:Dk (Ba xs ys)) {i:Nat} (hi:i<xs.length):He ((Ba xs ys).take i) (xs.getD i 0,ys.getD i 0)=(Ba xs ys).take (i+1):=by
 have hg:=WI hl hi
 have hnot:JM ((Ba xs ys).take i) (xs.getD i 0,ys.getD i 0)=false:=by
  cases hb:JM ((Ba xs ys).take i) (xs.getD i 0,ys.getD i 0) with
  |false=>rfl
  |true=>
   exfalso
   obtain ⟨j,hj⟩:=kT (Akk.1 hb)
   rw [kJ] at hj
   split at hj
   ·rename_i hji
    have e:((Ba xs ys).map (·.1))[i]? =((Ba xs ys).map (·.1))[j]? :=by rw [iM,iM,hg,hj]
    have:=(List.getElem?_inj (by rw [jV,Jb hl];exact hi) hn).1 e
    omega
   ·cases hj
 unfold He
 rw [hnot,cond_false,nN,hg];rfl
theorem Rj {t p h:Int} {xs ys:LI} (hl:xs.length=ys.length):(GH t p h xs ys xs.length).l=Ba xs ys:=by
 show (Ba xs ys).take xs.length=_
 rw [←Jb hl,mH]
def Gm (t p h:Int) (xs ys:LI) (s0 s1 s2 s3 s4 s5 s6 s7:Int):MS:=OU t p h xs ys s0 s1 s2 s3 s4 s5 s6 s7
abbrev Ar6:Ct Sg:=⟨none,false,[.agg [.i .i64, .i .i64, .i .i64], .agg [.ro [some .i64,some .i64], .i .i64, .i .i64, .i .i64, .i .i64, .i .i64, .i .i64, .i .i64, .i .i64]], .nobj Du⟩
def An2:Entry Sg:=BU Ar6 Gm (λt p h xs ys s0 s1 s2 s3 s4 s5 s6 s7=>[BZ t p h=0,xs.length=ys.length,LK t p h xs ys,Dk (Ba xs ys),LM (Ba xs ys) [s0,s1,s2,s3,s4,s5,s6,s7]])
def An3 (t p h:Int) (xs ys:LI) (s0 s1 s2 s3 s4 s5 s6 s7:Int) (Q0:Int→Prop) (Q1:Int→Prop) (Q2:Int→Prop) (Q3:MS→Int→Prop) (Q4:MS→Int→Int→Int→Prop) (Q5:Int→Int→Int→List (Int×Int)→Int→Int→Int→Int→Int→Int→Int→Int→Int→Int→Int→Prop) (Q6:Int→Int→Int→List (Int×Int)→Int→Int→Int→Int→Int→Int→Int→Int→Int→Prop) (Q7:MS→Int→Prop) (Q8:MS→Int→Int→Int→Int→Int→Int→Int→Int→Int→Prop) (Q9:MS→Prop) (Q10:Int→Int→Int→List (Int×Int)→Int→Int→Int→Int→Int→Int→Int→Int→Prop) (Q11:Int→Int→Int→List (Int×Int)→Int→Int→Int→Int→Int→Int→Int→Int→Prop) (Q12:MS→Prop) (R_:MS→Prop):Prop:=(∀r2:MS,r2=({t:=t,p:=p,h:=h,l:=[],r0:=0,r1:=0,r2:=0,r3:=0,r4:=0,r5:=0,r6:=0,r7:=0})→(Ap (BZ t p h=0) (AV (false) (Q0 (t)) (Q3 (r2) (0)))))
def FT (t p h:Int) (xs ys:LI) (s0 s1 s2 s3 s4 s5 s6 s7 q_:Int) (r_:MS):Prop:=False
def FU (t p h:Int) (xs ys:LI) (s0 s1 s2 s3 s4 s5 s6 s7 q_:Int) (r_:MS):Prop:=False
def FV (t p h:Int) (xs ys:LI) (s0 s1 s2 s3 s4 s5 s6 s7 q_:Int) (r_:MS):Prop:=False
def Ak2 (t p h:Int) (xs ys:LI) (s0 s1 s2 s3 s4 s5 s6 s7:Int) (q_:MS) (i_:Int) (Q0:Int→Prop) (Q1:Int→Prop) (Q2:Int→Prop) (Q3:MS→Int→Prop) (Q4:MS→Int→Int→Int→Prop) (Q5:Int→Int→Int→List (Int×Int)→Int→Int→Int→Int→Int→Int→Int→Int→Int→Int→Int→Prop) (Q6:Int→Int→Int→List (Int×Int)→Int→Int→Int→Int→Int→Int→Int→Int→Int→Prop) (Q7:MS→Int→Prop) (Q8:MS→Int→Int→Int→Int→Int→Int→Int→Int→Int→Prop) (Q9:MS→Prop) (Q10:Int→Int→Int→List (Int×Int)→Int→Int→Int→Int→Int→Int→Int→Int→Prop) (Q11:Int→Int→Int→List (Int×Int)→Int→Int→Int→Int→Int→Int→Int→Int→Prop) (Q12:MS→Prop) (R_:MS→Prop):Prop:=(AV (decide (i_<(↑(iH xs):Int))) (Ap (0≤i_∧i_<(↑(iH xs):Int)) (∀r3:Bool,r3=(JI (MS.t q_) (MS.p q_) (MS.h q_) (iN xs (jI i_) 0) (iN ys (jI i_) 0)&&List.all (MS.l q_) λx=>okB x (iN xs (jI i_) 0,iN ys (jI i_) 0) (0,0))→(AV (!r3) (Q1 (i_)) (Q4 (q_) (iN xs (jI i_) 0) (iN ys (jI i_) 0) (i_))))) (Q8 (q_) (s0) (s1) (s2) (s3) (s4) (s5) (s6) (s7) (0)))
def Ff (t p h:Int) (xs ys:LI) (s0 s1 s2 s3 s4 s5 s6 s7:Int) (q_:MS) (i_:Int) (r_:MS):Prop:=r_=OU t p h xs ys s0 s1 s2 s3 s4 s5 s6 s7∧q_=GH t p h xs ys i_.toNat∧0≤i_∧i_≤(xs.length:Int)
def Ak3 (t p h:Int) (xs ys:LI) (s0 s1 s2 s3 s4 s5 s6 s7:Int) (q_:MS) (y_ z_ i_ t_ p_ h_:Int) (l_:List (Int×Int)) (x0_ x1_ x2_ x3_ x4_ x5_ x6_ x7_:Int) (Q5:Int→Int→Int→List (Int×Int)→Int→Int→Int→Int→Int→Int→Int→Int→Int→Int→Int→Prop):Prop:=(Q5 (t_) (p_) (h_) (l_) (x0_) (x1_) (x2_) (x3_) (x4_) (x5_) (x6_) (x7_) (y_) (z_) (i_))
def Fg (t p h:Int) (xs ys:LI) (s0 s1 s2 s3 s4 s5 s6 s7:Int) (q_:MS) (y_ z_ i_:Int) (r_:MS):Prop:=y_=xs.getD i_.toNat 0∧z_=ys.getD i_.toNat 0∧i_<(xs.length:Int)∧r_=OU t p h xs ys s0 s1 s2 s3 s4 s5 s6 s7∧q_=GH t p h xs ys i_.toNat∧0≤i_∧i_≤(xs.length:Int)
def Ak4 (t p h:Int) (xs ys:LI) (s0 s1 s2 s3 s4 s5 s6 s7 t_ p_ h_:Int) (l_:List (Int×Int)) (r0_ r1_ r2_ r3_ r4_ r5_ r6_ r7_ y_ z_ i_:Int) (Q0:Int→Prop) (Q1:Int→Prop) (Q2:Int→Prop) (Q3:MS→Int→Prop) (Q4:MS→Int→Int→Int→Prop) (Q5:Int→Int→Int→List (Int×Int)→Int→Int→Int→Int→Int→Int→Int→Int→Int→Int→Int→Prop) (Q6:Int→Int→Int→List (Int×Int)→Int→Int→Int→Int→Int→Int→Int→Int→Int→Prop) (Q7:MS→Int→Prop) (Q8:MS→Int→Int→Int→Int→Int→Int→Int→Int→Int→Prop) (Q9:MS→Prop) (Q10:Int→Int→Int→List (Int×Int)→Int→Int→Int→Int→Int→Int→Int→Int→Prop) (Q11:Int→Int→Int→List (Int×Int)→Int→Int→Int→Int→Int→Int→Int→Int→Prop) (Q12:MS→Prop) (R_:MS→Prop):Prop:=(Q6 (t_) (p_) (h_) (He l_ (y_,z_)) (r0_) (r1_) (r2_) (r3_) (r4_) (r5_) (r6_) (r7_) (i_))
def Fa (t p h:Int) (xs ys:LI) (s0 s1 s2 s3 s4 s5 s6 s7 t_ p_ h_:Int) (l_:List (Int×Int)) (r0_ r1_ r2_ r3_ r4_ r5_ r6_ r7_ y_ z_ i_:Int) (r_:MS):Prop:=y_=xs.getD i_.toNat 0∧z_=ys.getD i_.toNat 0∧i_<(xs.length:Int)∧r_=OU t p h xs ys s0 s1 s2 s3 s4 s5 s6 s7∧⟨t_,p_,h_,l_,r0_,r1_,r2_,r3_,r4_,r5_,r6_,r7_⟩=GH t p h xs ys i_.toNat∧0≤i_∧i_≤(xs.length:Int)
def Adq (t p h:Int) (xs ys:LI) (s0 s1 s2 s3 s4 s5 s6 s7 t_ p_ h_:Int) (l_:List (Int×Int)) (r0_ r1_ r2_ r3_ r4_ r5_ r6_ r7_ i_:Int) (Q7:MS→Int→Prop):Prop:=(Q7 ({t:=t_,p:=p_,h:=h_,l:=l_,r0:=r0_,r1:=r1_,r2:=r2_,r3:=r3_,r4:=r4_,r5:=r5_,r6:=r6_,r7:=r7_}) (i_))
def Fh (t p h:Int) (xs ys:LI) (s0 s1 s2 s3 s4 s5 s6 s7 t_ p_ h_:Int) (l_:List (Int×Int)) (r0_ r1_ r2_ r3_ r4_ r5_ r6_ r7_ i_:Int) (r_:MS):Prop:=r_=OU t p h xs ys s0 s1 s2 s3 s4 s5 s6 s7∧⟨t_,p_,h_,l_,r0_,r1_,r2_,r3_,r4_,r5_,r6_,r7_⟩=GH t p h xs ys (i_.toNat+1)∧0≤i_∧i_<(xs.length:Int)
def Ak5 (t p h:Int) (xs ys:LI) (s0 s1 s2 s3 s4 s5 s6 s7:Int) (q_:MS) (i_:Int) (Q0:Int→Prop) (Q1:Int→Prop) (Q2:Int→Prop) (Q3:MS→Int→Prop) (Q4:MS→Int→Int→Int→Prop) (Q5:Int→Int→Int→List (Int×Int)→Int→Int→Int→Int→Int→Int→Int→Int→Int→Int→Int→Prop) (Q6:Int→Int→Int→List (Int×Int)→Int→Int→Int→Int→Int→Int→Int→Int→Int→Prop) (Q7:MS→Int→Prop) (Q8:MS→Int→Int→Int→Int→Int→Int→Int→Int→Int→Prop) (Q9:MS→Prop) (Q10:Int→Int→Int→List (Int×Int)→Int→Int→Int→Int→Int→Int→Int→Int→Prop) (Q11:Int→Int→Int→List (Int×Int)→Int→Int→Int→Int→Int→Int→Int→Int→Prop) (Q12:MS→Prop) (R_:MS→Prop):Prop:=(Q3 (q_) (iO iB (i_+1)))
def ES (t p h:Int) (xs ys:LI) (s0 s1 s2 s3 s4 s5 s6 s7:Int) (q_:MS) (i_:Int) (r_:MS):Prop:=r_=OU t p h xs ys s0 s1 s2 s3 s4 s5 s6 s7∧q_=GH t p h xs ys (i_.toNat+1)∧0≤i_∧i_<(xs.length:Int)
def Ak6 (t p h:Int) (xs ys:LI) (s0 s1 s2 s3 s4 s5 s6 s7:Int) (q_:MS) (c0_ c1_ c2_ c3_ c4_ c5_ c6_ c7_ i_:Int) (Q0:Int→Prop) (Q1:Int→Prop) (Q2:Int→Prop) (Q3:MS→Int→Prop) (Q4:MS→Int→Int→Int→Prop) (Q5:Int→Int→Int→List (Int×Int)→Int→Int→Int→Int→Int→Int→Int→Int→Int→Int→Int→Prop) (Q6:Int→Int→Int→List (Int×Int)→Int→Int→Int→Int→Int→Int→Int→Int→Int→Prop) (Q7:MS→Int→Prop) (Q8:MS→Int→Int→Int→Int→Int→Int→Int→Int→Int→Prop) (Q9:MS→Prop) (Q10:Int→Int→Int→List (Int×Int)→Int→Int→Int→Int→Int→Int→Int→Int→Prop) (Q11:Int→Int→Int→List (Int×Int)→Int→Int→Int→Int→Int→Int→Int→Int→Prop) (Q12:MS→Prop) (R_:MS→Prop):Prop:=(AV (decide (i_<8)) (Ap (0≤i_∧i_<8) (∀r2:Int×Int×Bool,r2=(atR (MS.l q_) (iN [c0_,c1_,c2_,c3_,c4_,c5_,c6_,c7_] (jI i_) 0))→(Ap (Dk (MS.l q_)) (AV (iN [c0_,c1_,c2_,c3_,c4_,c5_,c6_,c7_] (jI i_) (0:Int) !=0&&!r2.2.2) (Q2 (i_)) (Q8 (q_) (c0_) (c1_) (c2_) (c3_) (c4_) (c5_) (c6_) (c7_) (iO iB (i_+1))))))) (Q9 (q_)))
def Fj (t p h:Int) (xs ys:LI) (s0 s1 s2 s3 s4 s5 s6 s7:Int) (q_:MS) (c0_ c1_ c2_ c3_ c4_ c5_ c6_ c7_ i_:Int) (r_:MS):Prop:=r_=OU t p h xs ys s0 s1 s2 s3 s4 s5 s6 s7∧q_=GH t p h xs ys xs.length∧0≤i_∧i_≤8∧c0_=s0∧c1_=s1∧c2_=s2∧c3_=s3∧c4_=s4∧c5_=s5∧c6_=s6∧c7_=s7
def Ak7 (t p h:Int) (xs ys:LI) (s0 s1 s2 s3 s4 s5 s6 s7:Int) (q_:MS) (t_ p_ h_:Int) (l_:List (Int×Int)) (x0_ x1_ x2_ x3_ x4_ x5_ x6_ x7_:Int) (Q10:Int→Int→Int→List (Int×Int)→Int→Int→Int→Int→Int→Int→Int→Int→Prop):Prop:=(Q10 (t_) (p_) (h_) (l_) (x0_) (x1_) (x2_) (x3_) (x4_) (x5_) (x6_) (x7_))
def Fp (t p h:Int) (xs ys:LI) (s0 s1 s2 s3 s4 s5 s6 s7:Int) (q_:MS) (r_:MS):Prop:=r_=OU t p h xs ys s0 s1 s2 s3 s4 s5 s6 s7∧q_=GH t p h xs ys xs.length
def AhR (t p h:Int) (xs ys:LI) (s0 s1 s2 s3 s4 s5 s6 s7 t_ p_ h_:Int) (l_:List (Int×Int)) (r0_ r1_ r2_ r3_ r4_ r5_ r6_ r7_:Int) (Q0:Int→Prop) (Q1:Int→Prop) (Q2:Int→Prop) (Q3:MS→Int→Prop) (Q4:MS→Int→Int→Int→Prop) (Q5:Int→Int→Int→List (Int×Int)→Int→Int→Int→Int→Int→Int→Int→Int→Int→Int→Int→Prop) (Q6:Int→Int→Int→List (Int×Int)→Int→Int→Int→Int→Int→Int→Int→Int→Int→Prop) (Q7:MS→Int→Prop) (Q8:MS→Int→Int→Int→Int→Int→Int→Int→Int→Int→Prop) (Q9:MS→Prop) (Q10:Int→Int→Int→List (Int×Int)→Int→Int→Int→Int→Int→Int→Int→Int→Prop) (Q11:Int→Int→Int→List (Int×Int)→Int→Int→Int→Int→Int→Int→Int→Int→Prop) (Q12:MS→Prop) (R_:MS→Prop):Prop:=(Q11 (t_) (p_) (h_) (l_) (s0) (s1) (s2) (s3) (s4) (s5) (s6) (s7))
def Ez (t p h:Int) (xs ys:LI) (s0 s1 s2 s3 s4 s5 s6 s7 t_ p_ h_:Int) (l_:List (Int×Int)) (r0_ r1_ r2_ r3_ r4_ r5_ r6_ r7_:Int) (r_:MS):Prop:=r_=OU t p h xs ys s0 s1 s2 s3 s4 s5 s6 s7∧⟨t_,p_,h_,l_,r0_,r1_,r2_,r3_,r4_,r5_,r6_,r7_⟩=GH t p h xs ys xs.length
def Zd (t p h:Int) (xs ys:LI) (s0 s1 s2 s3 s4 s5 s6 s7 t_ p_ h_:Int) (l_:List (Int×Int)) (r0_ r1_ r2_ r3_ r4_ r5_ r6_ r7_:Int) (Q12:MS→Prop):Prop:=(Q12 ({t:=t_,p:=p_,h:=h_,l:=l_,r0:=r0_,r1:=r1_,r2:=r2_,r3:=r3_,r4:=r4_,r5:=r5_,r6:=r6_,r7:=r7_}))
def EH (t p h:Int) (xs ys:LI) (s0 s1 s2 s3 s4 s5 s6 s7 t_ p_ h_:Int) (l_:List (Int×Int)) (r0_ r1_ r2_ r3_ r4_ r5_ r6_ r7_:Int) (r_:MS):Prop:=r_=⟨t_,p_,h_,l_,r0_,r1_,r2_,r3_,r4_,r5_,r6_,r7_⟩
def AhS (t p h:Int) (xs ys:LI) (s0 s1 s2 s3 s4 s5 s6 s7:Int) (q_:MS) (Q0:Int→Prop) (Q1:Int→Prop) (Q2:Int→Prop) (Q3:MS→Int→Prop) (Q4:MS→Int→Int→Int→Prop) (Q5:Int→Int→Int→List (Int×Int)→Int→Int→Int→Int→Int→Int→Int→Int→Int→Int→Int→Prop) (Q6:Int→Int→Int→List (Int×Int)→Int→Int→Int→Int→Int→Int→Int→Int→Int→Prop) (Q7:MS→Int→Prop) (Q8:MS→Int→Int→Int→Int→Int→Int→Int→Int→Int→Prop) (Q9:MS→Prop) (Q10:Int→Int→Int→List (Int×Int)→Int→Int→Int→Int→Int→Int→Int→Int→Prop) (Q11:Int→Int→Int→List (Int×Int)→Int→Int→Int→Int→Int→Int→Int→Int→Prop) (Q12:MS→Prop) (R_:MS→Prop):Prop:=(R_ (q_))
def Ei (t p h:Int) (xs ys:LI) (s0 s1 s2 s3 s4 s5 s6 s7:Int) (q_:MS) (r_:MS):Prop:=r_=q_
abbrev Adr (p0:Addr) (t p h:Int) (xs ys:LI) (s0 s1 s2 s3 s4 s5 s6 s7:Int):Hd Sg:=⟨some 0,[0,0,1,0,1,1],[.code [1,0,1,0,1,1], .code [1,1,1]],[2],[.box 23 [.i .i64, .ic .i64 (p), .ic .i64 (h)]]⟩
abbrev Ads (p0:Addr) (t p h:Int) (xs ys:LI) (s0 s1 s2 s3 s4 s5 s6 s7:Int):Hd Sg:=⟨some 0,[0,0,1,0,1,0,0,1,1,0,0,1,0,1,1,1],[.code [1,0,1,0,1,0,0,1,1,0,0,1,0,1,1,1], .code [1,1,0,0,1,1,0,0,1,0,1,1,1], .blk 1, .code [1,1,1,0,0,1,0,1,1,1], .again [0,1,0,1,1,1], .blk 0, .code [1,1,1,1]],[19],[.i .i64]⟩
abbrev Adt (p0:Addr) (t p h:Int) (xs ys:LI) (s0 s1 s2 s3 s4 s5 s6 s7:Int):Hd Sg:=⟨some 0,[0,0,1,1,1,0,0,1,1,0,0,1,0,1,1,1,1],[.code [1,0,1,1,1,0,0,1,1,0,0,1,0,1,1,1,1], .blk 3, .code [1,1,1,0,0,1,0,1,1,1,1], .again [0,1,0,1,1,1,1], .blk 2, .code [1,1,1,1,1]],[36],[.i .i64]⟩
abbrev Adu (p0:Addr) (t p h:Int) (xs ys:LI) (s0 s1 s2 s3 s4 s5 s6 s7:Int):Hd Sg:=⟨none,[0,1,0,1,1,1],[.blk 0, .code [1,1,1,1]],[5,17,3,19,18],[.objb Du, .roc [.ints .i64 (xs), .ints .i64 (ys)], .box 27 [.ags 1 (xs.length), .ic .i64 (s0), .ic .i64 (s1), .ic .i64 (s2), .ic .i64 (s3), .ic .i64 (s4), .ic .i64 (s5), .ic .i64 (s6), .ic .i64 (s7)], .i .i64, .ic .i64 ((xs.length:Int))]⟩
abbrev Adv (p0:Addr) (t p h:Int) (xs ys:LI) (s0 s1 s2 s3 s4 s5 s6 s7:Int):Hd Sg:=⟨some 900,[1,1,0,0,1,1,0,0,1,0,1,1,1],[.blk 1, .code [1,1,1,0,0,1,0,1,1,1], .again [0,1,0,1,1,1], .blk 0, .code [1,1,1,1]],[5,17,3,7,19,18],[.objb Du, .roc [.ints .i64 (xs), .ints .i64 (ys)], .box 27 [.ags 1 (xs.length), .ic .i64 (s0), .ic .i64 (s1), .ic .i64 (s2), .ic .i64 (s3), .ic .i64 (s4), .ic .i64 (s5), .ic .i64 (s6), .ic .i64 (s7)], .box 55 [.i .i64, .i .i64], .i .i64, .ic .i64 ((xs.length:Int))]⟩
abbrev Adw (p0:Addr) (t p h:Int) (xs ys:LI) (s0 s1 s2 s3 s4 s5 s6 s7:Int):Hd Sg:=⟨some 900,[1,1,0,0,1,1,0,0,1,0,1,1,1],[.blk 1, .code [1,1,1,0,0,1,0,1,1,1], .again [0,1,0,1,1,1], .blk 0, .code [1,1,1,1]],[5,17,3,7,19,18],[.box Es.t Es.l, .roc [.ints .i64 (xs), .ints .i64 (ys)], .box 27 [.ags 2 (xs.length), .ic .i64 (s0), .ic .i64 (s1), .ic .i64 (s2), .ic .i64 (s3), .ic .i64 (s4), .ic .i64 (s5), .ic .i64 (s6), .ic .i64 (s7)], .box 55 [.i .i64, .i .i64], .i .i64, .ic .i64 ((xs.length:Int))]⟩
abbrev Adx (p0:Addr) (t p h:Int) (xs ys:LI) (s0 s1 s2 s3 s4 s5 s6 s7:Int):Hd Sg:=⟨some 0,[1,1,1,0,0,1,0,1,1,1],[.again [0,1,0,1,1,1], .blk 0, .code [1,1,1,1]],[5,17,3,19,18],[.box Es.t Es.l, .roc [.ints .i64 (xs), .ints .i64 (ys)], .box 27 [.ags 2 (xs.length), .ic .i64 (s0), .ic .i64 (s1), .ic .i64 (s2), .ic .i64 (s3), .ic .i64 (s4), .ic .i64 (s5), .ic .i64 (s6), .ic .i64 (s7)], .i .i64, .ic .i64 ((xs.length:Int))]⟩
abbrev Ady (p0:Addr) (t p h:Int) (xs ys:LI) (s0 s1 s2 s3 s4 s5 s6 s7:Int):Hd Sg:=⟨some 0,[1,1,1,0,0,1,0,1,1,1],[.again [0,1,0,1,1,1], .blk 0, .code [1,1,1,1]],[5,17,3,19,18],[.objb Du, .roc [.ints .i64 (xs), .ints .i64 (ys)], .box 27 [.ags 1 (xs.length), .ic .i64 (s0), .ic .i64 (s1), .ic .i64 (s2), .ic .i64 (s3), .ic .i64 (s4), .ic .i64 (s5), .ic .i64 (s6), .ic .i64 (s7)], .i .i64, .ic .i64 ((xs.length:Int))]⟩
abbrev Adz (p0:Addr) (t p h:Int) (xs ys:LI) (s0 s1 s2 s3 s4 s5 s6 s7:Int):Hd Sg:=⟨none,[0,1,0,1,1,1,1],[.blk 2, .code [1,1,1,1,1]],[5,17,3,35,36],[.objb Du, .roc [.ints .i64 (xs), .ints .i64 (ys)], .box 27 [.ags 1 (xs.length), .ic .i64 (s0), .ic .i64 (s1), .ic .i64 (s2), .ic .i64 (s3), .ic .i64 (s4), .ic .i64 (s5), .ic .i64 (s6), .ic .i64 (s7)], .agg [.i .i64, .i .i64, .i .i64, .i .i64, .i .i64, .i .i64, .i .i64, .i .i64], .i .i64]⟩
abbrev Ad0 (p0:Addr) (t p h:Int) (xs ys:LI) (s0 s1 s2 s3 s4 s5 s6 s7:Int):Hd Sg:=⟨some 0,[0,1,1,1,1,1],[.code [1,1,1,1,1,1]],[5,17,3],[.objb Du, .roc [.ints .i64 (xs), .ints .i64 (ys)], .box 27 [.ags 1 (xs.length), .ic .i64 (s0), .ic .i64 (s1), .ic .i64 (s2), .ic .i64 (s3), .ic .i64 (s4), .ic .i64 (s5), .ic .i64 (s6), .ic .i64 (s7)]]⟩
abbrev Ze (p0:Addr) (t p h:Int) (xs ys:LI) (s0 s1 s2 s3 s4 s5 s6 s7:Int):Hd Sg:=⟨some 0,[0,1,1,1,1,1],[.code [1,1,1,1,1,1]],[5,17,3],[.box Es.t Es.l, .roc [.ints .i64 (xs), .ints .i64 (ys)], .box 27 [.ags 2 (xs.length), .ic .i64 (s0), .ic .i64 (s1), .ic .i64 (s2), .ic .i64 (s3), .ic .i64 (s4), .ic .i64 (s5), .ic .i64 (s6), .ic .i64 (s7)]]⟩
abbrev Zf (p0:Addr) (t p h:Int) (xs ys:LI) (s0 s1 s2 s3 s4 s5 s6 s7:Int):Hd Sg:=⟨some 0,[0,1,1,1,1,1,1],[.code [1,1,1,1,1,1,1]],[5],[.box Es.t Es.l]⟩
abbrev Zg (p0:Addr) (t p h:Int) (xs ys:LI) (s0 s1 s2 s3 s4 s5 s6 s7:Int):Hd Sg:=⟨some 0,[0,1,1,1,1,1,1],[.code [1,1,1,1,1,1,1]],[5],[.objb Du]⟩
theorem Ama (t p h:Int) (xs ys:LI) (s0 s1 s2 s3 s4 s5 s6 s7:Int) (hp0:BZ t p h=0) (hp1:xs.length=ys.length) (hp2:LK t p h xs ys) (hp3:Dk (Ba xs ys)) (hp4:LM (Ba xs ys) [s0,s1,s2,s3,s4,s5,s6,s7]) (hl0:xs.length≤9223372036854775807):An3 t p h xs ys s0 s1 s2 s3 s4 s5 s6 s7 (λq_'=>FT t p h xs ys s0 s1 s2 s3 s4 s5 s6 s7 q_' (Gm t p h xs ys s0 s1 s2 s3 s4 s5 s6 s7)) (λq_'=>FU t p h xs ys s0 s1 s2 s3 s4 s5 s6 s7 q_' (Gm t p h xs ys s0 s1 s2 s3 s4 s5 s6 s7)) (λq_'=>FV t p h xs ys s0 s1 s2 s3 s4 s5 s6 s7 q_' (Gm t p h xs ys s0 s1 s2 s3 s4 s5 s6 s7)) (λq_' i_'=>Ff t p h xs ys s0 s1 s2 s3 s4 s5 s6 s7 q_' i_' (Gm t p h xs ys s0 s1 s2 s3 s4 s5 s6 s7)) (λq_' y_' z_' i_'=>Fg t p h xs ys s0 s1 s2 s3 s4 s5 s6 s7 q_' y_' z_' i_' (Gm t p h xs ys s0 s1 s2 s3 s4 s5 s6 s7)) (λt_' p_' h_' l_' r0_' r1_' r2_' r3_' r4_' r5_' r6_' r7_' y_' z_' i_'=>Fa t p h xs ys s0 s1 s2 s3 s4 s5 s6 s7 t_' p_' h_' l_' r0_' r1_' r2_' r3_' r4_' r5_' r6_' r7_' y_' z_' i_' (Gm t p h xs ys s0 s1 s2 s3 s4 s5 s6 s7)) (λt_' p_' h_' l_' r0_' r1_' r2_' r3_' r4_' r5_' r6_' r7_' i_'=>Fh t p h xs ys s0 s1 s2 s3 s4 s5 s6 s7 t_' p_' h_' l_' r0_' r1_' r2_' r3_' r4_' r5_' r6_' r7_' i_' (Gm t p h xs ys s0 s1 s2 s3 s4 s5 s6 s7)) (λq_' i_'=>ES t p h xs ys s0 s1 s2 s3 s4 s5 s6 s7 q_' i_' (Gm t p h xs ys s0 s1 s2 s3 s4 s5 s6 s7)) (λq_' c0_' c1_' c2_' c3_' c4_' c5_' c6_' c7_' i_'=>Fj t p h xs ys s0 s1 s2 s3 s4 s5 s6 s7 q_' c0_' c1_' c2_' c3_' c4_' c5_' c6_' c7_' i_' (Gm t p h xs ys s0 s1 s2 s3 s4 s5 s6 s7)) (λq_'=>Fp t p h xs ys s0 s1 s2 s3 s4 s5 s6 s7 q_' (Gm t p h xs ys s0 s1 s2 s3 s4 s5 s6 s7)) (λt_' p_' h_' l_' r0_' r1_' r2_' r3_' r4_' r5_' r6_' r7_'=>Ez t p h xs ys s0 s1 s2 s3 s4 s5 s6 s7 t_' p_' h_' l_' r0_' r1_' r2_' r3_' r4_' r5_' r6_' r7_' (Gm t p h xs ys s0 s1 s2 s3 s4 s5 s6 s7)) (λt_' p_' h_' l_' r0_' r1_' r2_' r3_' r4_' r5_' r6_' r7_'=>EH t p h xs ys s0 s1 s2 s3 s4 s5 s6 s7 t_' p_' h_' l_' r0_' r1_' r2_' r3_' r4_' r5_' r6_' r7_' (Gm t p h xs ys s0 s1 s2 s3 s4 s5 s6 s7)) (λq_'=>Ei t p h xs ys s0 s1 s2 s3 s4 s5 s6 s7 q_' (Gm t p h xs ys s0 s1 s2 s3 s4 s5 s6 s7)) (λr__=>r__=(Gm t p h xs ys s0 s1 s2 s3 s4 s5 s6 s7)):=by
 unfold An3
 try unfold FT
 try unfold FU
 try unfold FV
 try unfold Ff
 try unfold Fg
 try unfold Fa
 try unfold Fh
 try unfold ES
 try unfold Fj
 try unfold Fp
 try unfold Ez
 try unfold EH
 try unfold Ei
 rintro r2 rfl
 exact ⟨hp0, λ_=>⟨λh=>(by cases h), λ_=>⟨rfl,rfl,by decide,by omega⟩⟩⟩
theorem Amb (t p h:Int) (xs ys:LI) (s0 s1 s2 s3 s4 s5 s6 s7:Int) (hp0:BZ t p h=0) (hp1:xs.length=ys.length) (hp2:LK t p h xs ys) (hp3:Dk (Ba xs ys)) (hp4:LM (Ba xs ys) [s0,s1,s2,s3,s4,s5,s6,s7]) (hl0:xs.length≤9223372036854775807) (q_:MS) (i_:Int) {r_:MS} (hI:Ff t p h xs ys s0 s1 s2 s3 s4 s5 s6 s7 q_ i_ r_):Ak2 t p h xs ys s0 s1 s2 s3 s4 s5 s6 s7 q_ i_ (λq_'=>FT t p h xs ys s0 s1 s2 s3 s4 s5 s6 s7 q_' r_∧lx (0,0,0) (9,((xs.length:Int)-i_).toNat,9)) (λq_'=>FU t p h xs ys s0 s1 s2 s3 s4 s5 s6 s7 q_' r_∧lx (0,0,0) (9,((xs.length:Int)-i_).toNat,9)) (λq_'=>FV t p h xs ys s0 s1 s2 s3 s4 s5 s6 s7 q_' r_∧lx (0,0,0) (9,((xs.length:Int)-i_).toNat,9)) (λq_' i_'=>Ff t p h xs ys s0 s1 s2 s3 s4 s5 s6 s7 q_' i_' r_∧lx (9,((xs.length:Int)-i_').toNat,9) (9,((xs.length:Int)-i_).toNat,9)) (λq_' y_' z_' i_'=>Fg t p h xs ys s0 s1 s2 s3 s4 s5 s6 s7 q_' y_' z_' i_' r_∧lx (9,((xs.length:Int)-i_').toNat,8) (9,((xs.length:Int)-i_).toNat,9)) (λt_' p_' h_' l_' r0_' r1_' r2_' r3_' r4_' r5_' r6_' r7_' y_' z_' i_'=>Fa t p h xs ys s0 s1 s2 s3 s4 s5 s6 s7 t_' p_' h_' l_' r0_' r1_' r2_' r3_' r4_' r5_' r6_' r7_' y_' z_' i_' r_∧lx (9,((xs.length:Int)-i_').toNat,7) (9,((xs.length:Int)-i_).toNat,9)) (λt_' p_' h_' l_' r0_' r1_' r2_' r3_' r4_' r5_' r6_' r7_' i_'=>Fh t p h xs ys s0 s1 s2 s3 s4 s5 s6 s7 t_' p_' h_' l_' r0_' r1_' r2_' r3_' r4_' r5_' r6_' r7_' i_' r_∧lx (9,((xs.length:Int)-i_').toNat,6) (9,((xs.length:Int)-i_).toNat,9)) (λq_' i_'=>ES t p h xs ys s0 s1 s2 s3 s4 s5 s6 s7 q_' i_' r_∧lx (9,((xs.length:Int)-i_').toNat,5) (9,((xs.length:Int)-i_).toNat,9)) (λq_' c0_' c1_' c2_' c3_' c4_' c5_' c6_' c7_' i_'=>Fj t p h xs ys s0 s1 s2 s3 s4 s5 s6 s7 q_' c0_' c1_' c2_' c3_' c4_' c5_' c6_' c7_' i_' r_∧lx (5,(8-i_').toNat,0) (9,((xs.length:Int)-i_).toNat,9)) (λq_'=>Fp t p h xs ys s0 s1 s2 s3 s4 s5 s6 s7 q_' r_∧lx (4,0,0) (9,((xs.length:Int)-i_).toNat,9)) (λt_' p_' h_' l_' r0_' r1_' r2_' r3_' r4_' r5_' r6_' r7_'=>Ez t p h xs ys s0 s1 s2 s3 s4 s5 s6 s7 t_' p_' h_' l_' r0_' r1_' r2_' r3_' r4_' r5_' r6_' r7_' r_∧lx (3,0,0) (9,((xs.length:Int)-i_).toNat,9)) (λt_' p_' h_' l_' r0_' r1_' r2_' r3_' r4_' r5_' r6_' r7_'=>EH t p h xs ys s0 s1 s2 s3 s4 s5 s6 s7 t_' p_' h_' l_' r0_' r1_' r2_' r3_' r4_' r5_' r6_' r7_' r_∧lx (2,0,0) (9,((xs.length:Int)-i_).toNat,9)) (λq_'=>Ei t p h xs ys s0 s1 s2 s3 s4 s5 s6 s7 q_' r_∧lx (1,0,0) (9,((xs.length:Int)-i_).toNat,9)) (λr__=>r__=r_):=by
 unfold Ff at hI
 unfold Ak2
 try unfold FT
 try unfold FU
 try unfold FV
 try unfold Ff
 try unfold Fg
 try unfold Fa
 try unfold Fh
 try unfold ES
 try unfold Fj
 try unfold Fp
 try unfold Ez
 try unfold EH
 try unfold Ei
 obtain ⟨rfl,rfl,h1,h2⟩:=hI
 refine ⟨λhlt=>?_, λhlt=>?_⟩
 ·have hlt:i_<(xs.length:Int):=by simpa using hlt
  refine ⟨⟨h1,hlt⟩, λ_=>?_⟩
  rintro r3 rfl
  refine ⟨λhn=>?_, λ_=>⟨⟨rfl,rfl,hlt,rfl,rfl,h1,h2⟩,Bo⟩⟩
  have h:=hp2 i_.toNat (by omega)
  unfold Eu at h
  rw [h] at hn;cases hn
 ·have hlt:¬i_<(xs.length:Int):=by simpa using hlt
  have e:i_.toNat=xs.length:=by omega
  rw [e]
  exact ⟨⟨rfl,rfl,by decide,by decide,rfl,rfl,rfl,rfl,rfl,rfl,rfl,rfl⟩,Bo⟩
theorem Amc (t p h:Int) (xs ys:LI) (s0 s1 s2 s3 s4 s5 s6 s7:Int) (hp0:BZ t p h=0) (hp1:xs.length=ys.length) (hp2:LK t p h xs ys) (hp3:Dk (Ba xs ys)) (hp4:LM (Ba xs ys) [s0,s1,s2,s3,s4,s5,s6,s7]) (hl0:xs.length≤9223372036854775807) (q_:MS) (y_ z_ i_ t_ p_ h_:Int) (l_:List (Int×Int)) (x0_ x1_ x2_ x3_ x4_ x5_ x6_ x7_:Int) {r_:MS} (hI:Fg t p h xs ys s0 s1 s2 s3 s4 s5 s6 s7 q_ y_ z_ i_ r_) (hx:D6 ⟨t_,p_,h_,l_,x0_,x1_,x2_,x3_,x4_,x5_,x6_,x7_⟩ (q_)):Ak3 t p h xs ys s0 s1 s2 s3 s4 s5 s6 s7 q_ y_ z_ i_ t_ p_ h_ l_ x0_ x1_ x2_ x3_ x4_ x5_ x6_ x7_ (λt_' p_' h_' l_' r0_' r1_' r2_' r3_' r4_' r5_' r6_' r7_' y_' z_' i_'=>Fa t p h xs ys s0 s1 s2 s3 s4 s5 s6 s7 t_' p_' h_' l_' r0_' r1_' r2_' r3_' r4_' r5_' r6_' r7_' y_' z_' i_' r_∧lx (9,((xs.length:Int)-i_').toNat,7) (9,((xs.length:Int)-i_).toNat,8)):=by
 unfold Fg at hI
 unfold Ak3
 try unfold FT
 try unfold FU
 try unfold FV
 try unfold Ff
 try unfold Fg
 try unfold Fa
 try unfold Fh
 try unfold ES
 try unfold Fj
 try unfold Fp
 try unfold Ez
 try unfold EH
 try unfold Ei
 obtain ⟨h1,h2,h3,h0,rfl,h4,h5⟩:=hI
 exact ⟨⟨h1,h2,h3,h0,hx,h4,h5⟩,Bo⟩
theorem Amd (t p h:Int) (xs ys:LI) (s0 s1 s2 s3 s4 s5 s6 s7:Int) (hp0:BZ t p h=0) (hp1:xs.length=ys.length) (hp2:LK t p h xs ys) (hp3:Dk (Ba xs ys)) (hp4:LM (Ba xs ys) [s0,s1,s2,s3,s4,s5,s6,s7]) (hl0:xs.length≤9223372036854775807) (t_ p_ h_:Int) (l_:List (Int×Int)) (r0_ r1_ r2_ r3_ r4_ r5_ r6_ r7_ y_ z_ i_:Int) {r_:MS} (hI:Fa t p h xs ys s0 s1 s2 s3 s4 s5 s6 s7 t_ p_ h_ l_ r0_ r1_ r2_ r3_ r4_ r5_ r6_ r7_ y_ z_ i_ r_):Ak4 t p h xs ys s0 s1 s2 s3 s4 s5 s6 s7 t_ p_ h_ l_ r0_ r1_ r2_ r3_ r4_ r5_ r6_ r7_ y_ z_ i_ (λq_'=>FT t p h xs ys s0 s1 s2 s3 s4 s5 s6 s7 q_' r_∧lx (0,0,0) (9,((xs.length:Int)-i_).toNat,7)) (λq_'=>FU t p h xs ys s0 s1 s2 s3 s4 s5 s6 s7 q_' r_∧lx (0,0,0) (9,((xs.length:Int)-i_).toNat,7)) (λq_'=>FV t p h xs ys s0 s1 s2 s3 s4 s5 s6 s7 q_' r_∧lx (0,0,0) (9,((xs.length:Int)-i_).toNat,7)) (λq_' i_'=>Ff t p h xs ys s0 s1 s2 s3 s4 s5 s6 s7 q_' i_' r_∧lx (9,((xs.length:Int)-i_').toNat,9) (9,((xs.length:Int)-i_).toNat,7)) (λq_' y_' z_' i_'=>Fg t p h xs ys s0 s1 s2 s3 s4 s5 s6 s7 q_' y_' z_' i_' r_∧lx (9,((xs.length:Int)-i_').toNat,8) (9,((xs.length:Int)-i_).toNat,7)) (λt_' p_' h_' l_' r0_' r1_' r2_' r3_' r4_' r5_' r6_' r7_' y_' z_' i_'=>Fa t p h xs ys s0 s1 s2 s3 s4 s5 s6 s7 t_' p_' h_' l_' r0_' r1_' r2_' r3_' r4_' r5_' r6_' r7_' y_' z_' i_' r_∧lx (9,((xs.length:Int)-i_').toNat,7) (9,((xs.length:Int)-i_).toNat,7)) (λt_' p_' h_' l_' r0_' r1_' r2_' r3_' r4_' r5_' r6_' r7_' i_'=>Fh t p h xs ys s0 s1 s2 s3 s4 s5 s6 s7 t_' p_' h_' l_' r0_' r1_' r2_' r3_' r4_' r5_' r6_' r7_' i_' r_∧lx (9,((xs.length:Int)-i_').toNat,6) (9,((xs.length:Int)-i_).toNat,7)) (λq_' i_'=>ES t p h xs ys s0 s1 s2 s3 s4 s5 s6 s7 q_' i_' r_∧lx (9,((xs.length:Int)-i_').toNat,5) (9,((xs.length:Int)-i_).toNat,7)) (λq_' c0_' c1_' c2_' c3_' c4_' c5_' c6_' c7_' i_'=>Fj t p h xs ys s0 s1 s2 s3 s4 s5 s6 s7 q_' c0_' c1_' c2_' c3_' c4_' c5_' c6_' c7_' i_' r_∧lx (5,(8-i_').toNat,0) (9,((xs.length:Int)-i_).toNat,7)) (λq_'=>Fp t p h xs ys s0 s1 s2 s3 s4 s5 s6 s7 q_' r_∧lx (4,0,0) (9,((xs.length:Int)-i_).toNat,7)) (λt_' p_' h_' l_' r0_' r1_' r2_' r3_' r4_' r5_' r6_' r7_'=>Ez t p h xs ys s0 s1 s2 s3 s4 s5 s6 s7 t_' p_' h_' l_' r0_' r1_' r2_' r3_' r4_' r5_' r6_' r7_' r_∧lx (3,0,0) (9,((xs.length:Int)-i_).toNat,7)) (λt_' p_' h_' l_' r0_' r1_' r2_' r3_' r4_' r5_' r6_' r7_'=>EH t p h xs ys s0 s1 s2 s3 s4 s5 s6 s7 t_' p_' h_' l_' r0_' r1_' r2_' r3_' r4_' r5_' r6_' r7_' r_∧lx (2,0,0) (9,((xs.length:Int)-i_).toNat,7)) (λq_'=>Ei t p h xs ys s0 s1 s2 s3 s4 s5 s6 s7 q_' r_∧lx (1,0,0) (9,((xs.length:Int)-i_).toNat,7)) (λr__=>r__=r_):=by
 unfold Fa at hI
 unfold Ak4
 try unfold FT
 try unfold FU
 try unfold FV
 try unfold Ff
 try unfold Fg
 try unfold Fa
 try unfold Fh
 try unfold ES
 try unfold Fj
 try unfold Fp
 try unfold Ez
 try unfold EH
 try unfold Ei
 obtain ⟨rfl,rfl,h3,h0,hE,h4,h5⟩:=hI
 injection hE with e1 e2 e3 e4 f0 f1 f2 f3 f4 f5 f6 f7
 subst e1 e2 e3 e4 f0 f1 f2 f3 f4 f5 f6 f7
 refine ⟨⟨h0,?_,h4,h3⟩,Bo⟩
 unfold GH
 rw [AoO hp1 hp3 (by omega)]
theorem Abs (t p h:Int) (xs ys:LI) (s0 s1 s2 s3 s4 s5 s6 s7:Int) (hp0:BZ t p h=0) (hp1:xs.length=ys.length) (hp2:LK t p h xs ys) (hp3:Dk (Ba xs ys)) (hp4:LM (Ba xs ys) [s0,s1,s2,s3,s4,s5,s6,s7]) (hl0:xs.length≤9223372036854775807) (t_ p_ h_:Int) (l_:List (Int×Int)) (r0_ r1_ r2_ r3_ r4_ r5_ r6_ r7_ i_:Int) {r_:MS} (hI:Fh t p h xs ys s0 s1 s2 s3 s4 s5 s6 s7 t_ p_ h_ l_ r0_ r1_ r2_ r3_ r4_ r5_ r6_ r7_ i_ r_):(D6 ⟨t_,p_,h_,l_,r0_,r1_,r2_,r3_,r4_,r5_,r6_,r7_⟩ ⟨t_,p_,h_,l_,r0_,r1_,r2_,r3_,r4_,r5_,r6_,r7_⟩)∧Adq t p h xs ys s0 s1 s2 s3 s4 s5 s6 s7 t_ p_ h_ l_ r0_ r1_ r2_ r3_ r4_ r5_ r6_ r7_ i_ (λq_' i_'=>ES t p h xs ys s0 s1 s2 s3 s4 s5 s6 s7 q_' i_' r_∧lx (9,((xs.length:Int)-i_').toNat,5) (9,((xs.length:Int)-i_).toNat,6)):=by
 unfold Fh at hI
 unfold Adq
 try unfold FT
 try unfold FU
 try unfold FV
 try unfold Ff
 try unfold Fg
 try unfold Fa
 try unfold Fh
 try unfold ES
 try unfold Fj
 try unfold Fp
 try unfold Ez
 try unfold EH
 try unfold Ei
 exact ⟨rfl,hI,Bo⟩
theorem Ame (t p h:Int) (xs ys:LI) (s0 s1 s2 s3 s4 s5 s6 s7:Int) (hp0:BZ t p h=0) (hp1:xs.length=ys.length) (hp2:LK t p h xs ys) (hp3:Dk (Ba xs ys)) (hp4:LM (Ba xs ys) [s0,s1,s2,s3,s4,s5,s6,s7]) (hl0:xs.length≤9223372036854775807) (q_:MS) (i_:Int) {r_:MS} (hI:ES t p h xs ys s0 s1 s2 s3 s4 s5 s6 s7 q_ i_ r_):Ak5 t p h xs ys s0 s1 s2 s3 s4 s5 s6 s7 q_ i_ (λq_'=>FT t p h xs ys s0 s1 s2 s3 s4 s5 s6 s7 q_' r_∧lx (0,0,0) (9,((xs.length:Int)-i_).toNat,5)) (λq_'=>FU t p h xs ys s0 s1 s2 s3 s4 s5 s6 s7 q_' r_∧lx (0,0,0) (9,((xs.length:Int)-i_).toNat,5)) (λq_'=>FV t p h xs ys s0 s1 s2 s3 s4 s5 s6 s7 q_' r_∧lx (0,0,0) (9,((xs.length:Int)-i_).toNat,5)) (λq_' i_'=>Ff t p h xs ys s0 s1 s2 s3 s4 s5 s6 s7 q_' i_' r_∧lx (9,((xs.length:Int)-i_').toNat,9) (9,((xs.length:Int)-i_).toNat,5)) (λq_' y_' z_' i_'=>Fg t p h xs ys s0 s1 s2 s3 s4 s5 s6 s7 q_' y_' z_' i_' r_∧lx (9,((xs.length:Int)-i_').toNat,8) (9,((xs.length:Int)-i_).toNat,5)) (λt_' p_' h_' l_' r0_' r1_' r2_' r3_' r4_' r5_' r6_' r7_' y_' z_' i_'=>Fa t p h xs ys s0 s1 s2 s3 s4 s5 s6 s7 t_' p_' h_' l_' r0_' r1_' r2_' r3_' r4_' r5_' r6_' r7_' y_' z_' i_' r_∧lx (9,((xs.length:Int)-i_').toNat,7) (9,((xs.length:Int)-i_).toNat,5)) (λt_' p_' h_' l_' r0_' r1_' r2_' r3_' r4_' r5_' r6_' r7_' i_'=>Fh t p h xs ys s0 s1 s2 s3 s4 s5 s6 s7 t_' p_' h_' l_' r0_' r1_' r2_' r3_' r4_' r5_' r6_' r7_' i_' r_∧lx (9,((xs.length:Int)-i_').toNat,6) (9,((xs.length:Int)-i_).toNat,5)) (λq_' i_'=>ES t p h xs ys s0 s1 s2 s3 s4 s5 s6 s7 q_' i_' r_∧lx (9,((xs.length:Int)-i_').toNat,5) (9,((xs.length:Int)-i_).toNat,5)) (λq_' c0_' c1_' c2_' c3_' c4_' c5_' c6_' c7_' i_'=>Fj t p h xs ys s0 s1 s2 s3 s4 s5 s6 s7 q_' c0_' c1_' c2_' c3_' c4_' c5_' c6_' c7_' i_' r_∧lx (5,(8-i_').toNat,0) (9,((xs.length:Int)-i_).toNat,5)) (λq_'=>Fp t p h xs ys s0 s1 s2 s3 s4 s5 s6 s7 q_' r_∧lx (4,0,0) (9,((xs.length:Int)-i_).toNat,5)) (λt_' p_' h_' l_' r0_' r1_' r2_' r3_' r4_' r5_' r6_' r7_'=>Ez t p h xs ys s0 s1 s2 s3 s4 s5 s6 s7 t_' p_' h_' l_' r0_' r1_' r2_' r3_' r4_' r5_' r6_' r7_' r_∧lx (3,0,0) (9,((xs.length:Int)-i_).toNat,5)) (λt_' p_' h_' l_' r0_' r1_' r2_' r3_' r4_' r5_' r6_' r7_'=>EH t p h xs ys s0 s1 s2 s3 s4 s5 s6 s7 t_' p_' h_' l_' r0_' r1_' r2_' r3_' r4_' r5_' r6_' r7_' r_∧lx (2,0,0) (9,((xs.length:Int)-i_).toNat,5)) (λq_'=>Ei t p h xs ys s0 s1 s2 s3 s4 s5 s6 s7 q_' r_∧lx (1,0,0) (9,((xs.length:Int)-i_).toNat,5)) (λr__=>r__=r_):=by
 unfold ES at hI
 unfold Ak5
 try unfold FT
 try unfold FU
 try unfold FV
 try unfold Ff
 try unfold Fg
 try unfold Fa
 try unfold Fh
 try unfold ES
 try unfold Fj
 try unfold Fp
 try unfold Ez
 try unfold EH
 try unfold Ei
 obtain ⟨h0,rfl,h1,h2⟩:=hI
 rw [Hm (n:=i_+1) (by omega)]
 have e:(i_+1).toNat=i_.toNat+1:=by omega
 exact ⟨⟨h0,by rw [e],by omega,by omega⟩,Bo⟩
theorem Amf (t p h:Int) (xs ys:LI) (s0 s1 s2 s3 s4 s5 s6 s7:Int) (hp0:BZ t p h=0) (hp1:xs.length=ys.length) (hp2:LK t p h xs ys) (hp3:Dk (Ba xs ys)) (hp4:LM (Ba xs ys) [s0,s1,s2,s3,s4,s5,s6,s7]) (hl0:xs.length≤9223372036854775807) (q_:MS) (c0_ c1_ c2_ c3_ c4_ c5_ c6_ c7_ i_:Int) {r_:MS} (hI:Fj t p h xs ys s0 s1 s2 s3 s4 s5 s6 s7 q_ c0_ c1_ c2_ c3_ c4_ c5_ c6_ c7_ i_ r_):Ak6 t p h xs ys s0 s1 s2 s3 s4 s5 s6 s7 q_ c0_ c1_ c2_ c3_ c4_ c5_ c6_ c7_ i_ (λq_'=>FT t p h xs ys s0 s1 s2 s3 s4 s5 s6 s7 q_' r_∧lx (0,0,0) (5,(8-i_).toNat,0)) (λq_'=>FU t p h xs ys s0 s1 s2 s3 s4 s5 s6 s7 q_' r_∧lx (0,0,0) (5,(8-i_).toNat,0)) (λq_'=>FV t p h xs ys s0 s1 s2 s3 s4 s5 s6 s7 q_' r_∧lx (0,0,0) (5,(8-i_).toNat,0)) (λq_' i_'=>Ff t p h xs ys s0 s1 s2 s3 s4 s5 s6 s7 q_' i_' r_∧lx (9,((xs.length:Int)-i_').toNat,9) (5,(8-i_).toNat,0)) (λq_' y_' z_' i_'=>Fg t p h xs ys s0 s1 s2 s3 s4 s5 s6 s7 q_' y_' z_' i_' r_∧lx (9,((xs.length:Int)-i_').toNat,8) (5,(8-i_).toNat,0)) (λt_' p_' h_' l_' r0_' r1_' r2_' r3_' r4_' r5_' r6_' r7_' y_' z_' i_'=>Fa t p h xs ys s0 s1 s2 s3 s4 s5 s6 s7 t_' p_' h_' l_' r0_' r1_' r2_' r3_' r4_' r5_' r6_' r7_' y_' z_' i_' r_∧lx (9,((xs.length:Int)-i_').toNat,7) (5,(8-i_).toNat,0)) (λt_' p_' h_' l_' r0_' r1_' r2_' r3_' r4_' r5_' r6_' r7_' i_'=>Fh t p h xs ys s0 s1 s2 s3 s4 s5 s6 s7 t_' p_' h_' l_' r0_' r1_' r2_' r3_' r4_' r5_' r6_' r7_' i_' r_∧lx (9,((xs.length:Int)-i_').toNat,6) (5,(8-i_).toNat,0)) (λq_' i_'=>ES t p h xs ys s0 s1 s2 s3 s4 s5 s6 s7 q_' i_' r_∧lx (9,((xs.length:Int)-i_').toNat,5) (5,(8-i_).toNat,0)) (λq_' c0_' c1_' c2_' c3_' c4_' c5_' c6_' c7_' i_'=>Fj t p h xs ys s0 s1 s2 s3 s4 s5 s6 s7 q_' c0_' c1_' c2_' c3_' c4_' c5_' c6_' c7_' i_' r_∧lx (5,(8-i_').toNat,0) (5,(8-i_).toNat,0)) (λq_'=>Fp t p h xs ys s0 s1 s2 s3 s4 s5 s6 s7 q_' r_∧lx (4,0,0) (5,(8-i_).toNat,0)) (λt_' p_' h_' l_' r0_' r1_' r2_' r3_' r4_' r5_' r6_' r7_'=>Ez t p h xs ys s0 s1 s2 s3 s4 s5 s6 s7 t_' p_' h_' l_' r0_' r1_' r2_' r3_' r4_' r5_' r6_' r7_' r_∧lx (3,0,0) (5,(8-i_).toNat,0)) (λt_' p_' h_' l_' r0_' r1_' r2_' r3_' r4_' r5_' r6_' r7_'=>EH t p h xs ys s0 s1 s2 s3 s4 s5 s6 s7 t_' p_' h_' l_' r0_' r1_' r2_' r3_' r4_' r5_' r6_' r7_' r_∧lx (2,0,0) (5,(8-i_).toNat,0)) (λq_'=>Ei t p h xs ys s0 s1 s2 s3 s4 s5 s6 s7 q_' r_∧lx (1,0,0) (5,(8-i_).toNat,0)) (λr__=>r__=r_):=by
 unfold Fj at hI
 unfold Ak6
 try unfold FT
 try unfold FU
 try unfold FV
 try unfold Ff
 try unfold Fg
 try unfold Fa
 try unfold Fh
 try unfold ES
 try unfold Fj
 try unfold Fp
 try unfold Ez
 try unfold EH
 try unfold Ei
 obtain ⟨h0,rfl,h1,h2,rfl,rfl,rfl,rfl,rfl,rfl,rfl,rfl⟩:=hI
 refine ⟨λhlt=>?_, λ_=>⟨⟨h0,rfl⟩,Bo⟩⟩
 have hlt:i_<8:=by simpa using hlt
 have hL:(GH t p h xs ys xs.length).l=Ba xs ys:=Rj hp1
 refine ⟨⟨h1,hlt⟩, λ_=>?_⟩
 rintro r2 rfl
 rw [hL]
 refine ⟨hp3, λ_=>⟨λhb=>?_, λ_=>?_⟩⟩
 ·simp only [iE,bne_iff_ne,ne_eq,kU] at hb
  have h:=hp4 i_.toNat (by omega) hb.1
  rw [hb.2] at h;cases h
 ·rw [Hm (n:=i_+1) (by omega)]
  exact ⟨⟨h0,rfl,by omega,by omega,rfl,rfl,rfl,rfl,rfl,rfl,rfl,rfl⟩,Bo⟩
theorem Amg (t p h:Int) (xs ys:LI) (s0 s1 s2 s3 s4 s5 s6 s7:Int) (hp0:BZ t p h=0) (hp1:xs.length=ys.length) (hp2:LK t p h xs ys) (hp3:Dk (Ba xs ys)) (hp4:LM (Ba xs ys) [s0,s1,s2,s3,s4,s5,s6,s7]) (hl0:xs.length≤9223372036854775807) (q_:MS) (t_ p_ h_:Int) (l_:List (Int×Int)) (x0_ x1_ x2_ x3_ x4_ x5_ x6_ x7_:Int) {r_:MS} (hI:Fp t p h xs ys s0 s1 s2 s3 s4 s5 s6 s7 q_ r_) (hx:D6 ⟨t_,p_,h_,l_,x0_,x1_,x2_,x3_,x4_,x5_,x6_,x7_⟩ (q_)):Ak7 t p h xs ys s0 s1 s2 s3 s4 s5 s6 s7 q_ t_ p_ h_ l_ x0_ x1_ x2_ x3_ x4_ x5_ x6_ x7_ (λt_' p_' h_' l_' r0_' r1_' r2_' r3_' r4_' r5_' r6_' r7_'=>Ez t p h xs ys s0 s1 s2 s3 s4 s5 s6 s7 t_' p_' h_' l_' r0_' r1_' r2_' r3_' r4_' r5_' r6_' r7_' r_∧lx (3,0,0) (4,0,0)):=by
 unfold Fp at hI
 unfold Ak7
 try unfold FT
 try unfold FU
 try unfold FV
 try unfold Ff
 try unfold Fg
 try unfold Fa
 try unfold Fh
 try unfold ES
 try unfold Fj
 try unfold Fp
 try unfold Ez
 try unfold EH
 try unfold Ei
 obtain ⟨h0,rfl⟩:=hI
 exact ⟨⟨h0,hx⟩,Bo⟩
theorem AjB (t p h:Int) (xs ys:LI) (s0 s1 s2 s3 s4 s5 s6 s7:Int) (hp0:BZ t p h=0) (hp1:xs.length=ys.length) (hp2:LK t p h xs ys) (hp3:Dk (Ba xs ys)) (hp4:LM (Ba xs ys) [s0,s1,s2,s3,s4,s5,s6,s7]) (hl0:xs.length≤9223372036854775807) (t_ p_ h_:Int) (l_:List (Int×Int)) (r0_ r1_ r2_ r3_ r4_ r5_ r6_ r7_:Int) {r_:MS} (hI:Ez t p h xs ys s0 s1 s2 s3 s4 s5 s6 s7 t_ p_ h_ l_ r0_ r1_ r2_ r3_ r4_ r5_ r6_ r7_ r_):AhR t p h xs ys s0 s1 s2 s3 s4 s5 s6 s7 t_ p_ h_ l_ r0_ r1_ r2_ r3_ r4_ r5_ r6_ r7_ (λq_'=>FT t p h xs ys s0 s1 s2 s3 s4 s5 s6 s7 q_' r_∧lx (0,0,0) (3,0,0)) (λq_'=>FU t p h xs ys s0 s1 s2 s3 s4 s5 s6 s7 q_' r_∧lx (0,0,0) (3,0,0)) (λq_'=>FV t p h xs ys s0 s1 s2 s3 s4 s5 s6 s7 q_' r_∧lx (0,0,0) (3,0,0)) (λq_' i_'=>Ff t p h xs ys s0 s1 s2 s3 s4 s5 s6 s7 q_' i_' r_∧lx (9,((xs.length:Int)-i_').toNat,9) (3,0,0)) (λq_' y_' z_' i_'=>Fg t p h xs ys s0 s1 s2 s3 s4 s5 s6 s7 q_' y_' z_' i_' r_∧lx (9,((xs.length:Int)-i_').toNat,8) (3,0,0)) (λt_' p_' h_' l_' r0_' r1_' r2_' r3_' r4_' r5_' r6_' r7_' y_' z_' i_'=>Fa t p h xs ys s0 s1 s2 s3 s4 s5 s6 s7 t_' p_' h_' l_' r0_' r1_' r2_' r3_' r4_' r5_' r6_' r7_' y_' z_' i_' r_∧lx (9,((xs.length:Int)-i_').toNat,7) (3,0,0)) (λt_' p_' h_' l_' r0_' r1_' r2_' r3_' r4_' r5_' r6_' r7_' i_'=>Fh t p h xs ys s0 s1 s2 s3 s4 s5 s6 s7 t_' p_' h_' l_' r0_' r1_' r2_' r3_' r4_' r5_' r6_' r7_' i_' r_∧lx (9,((xs.length:Int)-i_').toNat,6) (3,0,0)) (λq_' i_'=>ES t p h xs ys s0 s1 s2 s3 s4 s5 s6 s7 q_' i_' r_∧lx (9,((xs.length:Int)-i_').toNat,5) (3,0,0)) (λq_' c0_' c1_' c2_' c3_' c4_' c5_' c6_' c7_' i_'=>Fj t p h xs ys s0 s1 s2 s3 s4 s5 s6 s7 q_' c0_' c1_' c2_' c3_' c4_' c5_' c6_' c7_' i_' r_∧lx (5,(8-i_').toNat,0) (3,0,0)) (λq_'=>Fp t p h xs ys s0 s1 s2 s3 s4 s5 s6 s7 q_' r_∧lx (4,0,0) (3,0,0)) (λt_' p_' h_' l_' r0_' r1_' r2_' r3_' r4_' r5_' r6_' r7_'=>Ez t p h xs ys s0 s1 s2 s3 s4 s5 s6 s7 t_' p_' h_' l_' r0_' r1_' r2_' r3_' r4_' r5_' r6_' r7_' r_∧lx (3,0,0) (3,0,0)) (λt_' p_' h_' l_' r0_' r1_' r2_' r3_' r4_' r5_' r6_' r7_'=>EH t p h xs ys s0 s1 s2 s3 s4 s5 s6 s7 t_' p_' h_' l_' r0_' r1_' r2_' r3_' r4_' r5_' r6_' r7_' r_∧lx (2,0,0) (3,0,0)) (λq_'=>Ei t p h xs ys s0 s1 s2 s3 s4 s5 s6 s7 q_' r_∧lx (1,0,0) (3,0,0)) (λr__=>r__=r_):=by
 unfold Ez at hI
 unfold AhR
 try unfold FT
 try unfold FU
 try unfold FV
 try unfold Ff
 try unfold Fg
 try unfold Fa
 try unfold Fh
 try unfold ES
 try unfold Fj
 try unfold Fp
 try unfold Ez
 try unfold EH
 try unfold Ei
 obtain ⟨h0,hE⟩:=hI
 have hL:(GH t p h xs ys xs.length).l=Ba xs ys:=Rj hp1
 injection hE with e1 e2 e3 e4 f0 f1 f2 f3 f4 f5 f6 f7
 subst e1 e2 e3 e4
 refine ⟨?_,Bo⟩
 rw [h0]
 show _=(⟨t_,p_,h_,(GH t_ p_ h_ xs ys xs.length).l,s0,s1,s2,s3,s4,s5,s6,s7⟩:MS)
 rw [hL];rfl
theorem Yc (t p h:Int) (xs ys:LI) (s0 s1 s2 s3 s4 s5 s6 s7:Int) (hp0:BZ t p h=0) (hp1:xs.length=ys.length) (hp2:LK t p h xs ys) (hp3:Dk (Ba xs ys)) (hp4:LM (Ba xs ys) [s0,s1,s2,s3,s4,s5,s6,s7]) (hl0:xs.length≤9223372036854775807) (t_ p_ h_:Int) (l_:List (Int×Int)) (r0_ r1_ r2_ r3_ r4_ r5_ r6_ r7_:Int) {r_:MS} (hI:EH t p h xs ys s0 s1 s2 s3 s4 s5 s6 s7 t_ p_ h_ l_ r0_ r1_ r2_ r3_ r4_ r5_ r6_ r7_ r_):(D6 ⟨t_,p_,h_,l_,r0_,r1_,r2_,r3_,r4_,r5_,r6_,r7_⟩ ⟨t_,p_,h_,l_,r0_,r1_,r2_,r3_,r4_,r5_,r6_,r7_⟩)∧Zd t p h xs ys s0 s1 s2 s3 s4 s5 s6 s7 t_ p_ h_ l_ r0_ r1_ r2_ r3_ r4_ r5_ r6_ r7_ (λq_'=>Ei t p h xs ys s0 s1 s2 s3 s4 s5 s6 s7 q_' r_∧lx (1,0,0) (2,0,0)):=by
 unfold EH at hI
 unfold Zd
 try unfold FT
 try unfold FU
 try unfold FV
 try unfold Ff
 try unfold Fg
 try unfold Fa
 try unfold Fh
 try unfold ES
 try unfold Fj
 try unfold Fp
 try unfold Ez
 try unfold EH
 try unfold Ei
 exact ⟨rfl,hI,Bo⟩
theorem AjC (t p h:Int) (xs ys:LI) (s0 s1 s2 s3 s4 s5 s6 s7:Int) (hp0:BZ t p h=0) (hp1:xs.length=ys.length) (hp2:LK t p h xs ys) (hp3:Dk (Ba xs ys)) (hp4:LM (Ba xs ys) [s0,s1,s2,s3,s4,s5,s6,s7]) (hl0:xs.length≤9223372036854775807) (q_:MS) {r_:MS} (hI:Ei t p h xs ys s0 s1 s2 s3 s4 s5 s6 s7 q_ r_):AhS t p h xs ys s0 s1 s2 s3 s4 s5 s6 s7 q_ (λq_'=>FT t p h xs ys s0 s1 s2 s3 s4 s5 s6 s7 q_' r_∧lx (0,0,0) (1,0,0)) (λq_'=>FU t p h xs ys s0 s1 s2 s3 s4 s5 s6 s7 q_' r_∧lx (0,0,0) (1,0,0)) (λq_'=>FV t p h xs ys s0 s1 s2 s3 s4 s5 s6 s7 q_' r_∧lx (0,0,0) (1,0,0)) (λq_' i_'=>Ff t p h xs ys s0 s1 s2 s3 s4 s5 s6 s7 q_' i_' r_∧lx (9,((xs.length:Int)-i_').toNat,9) (1,0,0)) (λq_' y_' z_' i_'=>Fg t p h xs ys s0 s1 s2 s3 s4 s5 s6 s7 q_' y_' z_' i_' r_∧lx (9,((xs.length:Int)-i_').toNat,8) (1,0,0)) (λt_' p_' h_' l_' r0_' r1_' r2_' r3_' r4_' r5_' r6_' r7_' y_' z_' i_'=>Fa t p h xs ys s0 s1 s2 s3 s4 s5 s6 s7 t_' p_' h_' l_' r0_' r1_' r2_' r3_' r4_' r5_' r6_' r7_' y_' z_' i_' r_∧lx (9,((xs.length:Int)-i_').toNat,7) (1,0,0)) (λt_' p_' h_' l_' r0_' r1_' r2_' r3_' r4_' r5_' r6_' r7_' i_'=>Fh t p h xs ys s0 s1 s2 s3 s4 s5 s6 s7 t_' p_' h_' l_' r0_' r1_' r2_' r3_' r4_' r5_' r6_' r7_' i_' r_∧lx (9,((xs.length:Int)-i_').toNat,6) (1,0,0)) (λq_' i_'=>ES t p h xs ys s0 s1 s2 s3 s4 s5 s6 s7 q_' i_' r_∧lx (9,((xs.length:Int)-i_').toNat,5) (1,0,0)) (λq_' c0_' c1_' c2_' c3_' c4_' c5_' c6_' c7_' i_'=>Fj t p h xs ys s0 s1 s2 s3 s4 s5 s6 s7 q_' c0_' c1_' c2_' c3_' c4_' c5_' c6_' c7_' i_' r_∧lx (5,(8-i_').toNat,0) (1,0,0)) (λq_'=>Fp t p h xs ys s0 s1 s2 s3 s4 s5 s6 s7 q_' r_∧lx (4,0,0) (1,0,0)) (λt_' p_' h_' l_' r0_' r1_' r2_' r3_' r4_' r5_' r6_' r7_'=>Ez t p h xs ys s0 s1 s2 s3 s4 s5 s6 s7 t_' p_' h_' l_' r0_' r1_' r2_' r3_' r4_' r5_' r6_' r7_' r_∧lx (3,0,0) (1,0,0)) (λt_' p_' h_' l_' r0_' r1_' r2_' r3_' r4_' r5_' r6_' r7_'=>EH t p h xs ys s0 s1 s2 s3 s4 s5 s6 s7 t_' p_' h_' l_' r0_' r1_' r2_' r3_' r4_' r5_' r6_' r7_' r_∧lx (2,0,0) (1,0,0)) (λq_'=>Ei t p h xs ys s0 s1 s2 s3 s4 s5 s6 s7 q_' r_∧lx (1,0,0) (1,0,0)) (λr__=>r__=r_):=by
 unfold Ei at hI
 unfold AhS
 try unfold FT
 try unfold FU
 try unfold FV
 try unfold Ff
 try unfold Fg
 try unfold Fa
 try unfold Fh
 try unfold ES
 try unfold Fj
 try unfold Fp
 try unfold Ez
 try unfold EH
 try unfold Ei
 exact hI.symm
theorem Aqz:DV 8 An2:=
 AgV Dg VC (I:=[2434000,1503042130000,6079274386000,43424338900,694866000,2706000,7826000,2999998,1643000000005,1643000000017,1643000000003,1643000000019,1643000000018,6571000000005,6571000000017,6571000000003,6571000000035,6571000000036]) Try.func8 mix (B:=AP Try.f8) (by kernel_rfl) rfl (by kernel_rfl) 400
  λp0 t p h xs ys s0 s1 s2 s3 s4 s5 s6 s7 hb hp=>have hl0:xs.length≤9223372036854775807:=hb.2.1.1;have hp0:BZ t p h=0:=hp _ (.head _);have hp1:xs.length=ys.length:=hp _ (.tail _ (.head _));have hp2:LK t p h xs ys:=hp _ (.tail _ (.tail _ (.head _)));have hp3:Dk (Ba xs ys):=hp _ (.tail _ (.tail _ (.tail _ (.head _))));have hp4:LM (Ba xs ys) [s0,s1,s2,s3,s4,s5,s6,s7]:=hp _ (.tail _ (.tail _ (.tail _ (.tail _ (.head _)))));⟨[Adr p0 t p h xs ys s0 s1 s2 s3 s4 s5 s6 s7,Ads p0 t p h xs ys s0 s1 s2 s3 s4 s5 s6 s7,Adt p0 t p h xs ys s0 s1 s2 s3 s4 s5 s6 s7,Adu p0 t p h xs ys s0 s1 s2 s3 s4 s5 s6 s7,Adv p0 t p h xs ys s0 s1 s2 s3 s4 s5 s6 s7,Adw p0 t p h xs ys s0 s1 s2 s3 s4 s5 s6 s7,Adx p0 t p h xs ys s0 s1 s2 s3 s4 s5 s6 s7,Ady p0 t p h xs ys s0 s1 s2 s3 s4 s5 s6 s7,Adz p0 t p h xs ys s0 s1 s2 s3 s4 s5 s6 s7,Ad0 p0 t p h xs ys s0 s1 s2 s3 s4 s5 s6 s7,Ze p0 t p h xs ys s0 s1 s2 s3 s4 s5 s6 s7,Zf p0 t p h xs ys s0 s1 s2 s3 s4 s5 s6 s7,Zg p0 t p h xs ys s0 s1 s2 s3 s4 s5 s6 s7],[.run, .run, .run, .run, .opn ⟨Du,Es⟩ 0 (λad=>(ad 0).b) 5, .run, .cls ⟨Du,Es⟩ (λad=>(ad 0).b) (λad i=>ad (i+1)) 7, .run, .run, .opn ⟨Du,Es⟩ 0 (λad=>(ad 0).b) 10, .run, .cls ⟨Du,Es⟩ (λad=>(ad 0).b) (λad i=>ad (i+1)) 12, .run], λj=>iN [Ag (Hd.kd (Adr p0 t p h xs ys s0 s1 s2 s3 s4 s5 s6 s7)) (λq_'=>FT t p h xs ys s0 s1 s2 s3 s4 s5 s6 s7 q_' (Gm t p h xs ys s0 s1 s2 s3 s4 s5 s6 s7)),Ag (Hd.kd (Ads p0 t p h xs ys s0 s1 s2 s3 s4 s5 s6 s7)) (λq_'=>FU t p h xs ys s0 s1 s2 s3 s4 s5 s6 s7 q_' (Gm t p h xs ys s0 s1 s2 s3 s4 s5 s6 s7)),Ag (Hd.kd (Adt p0 t p h xs ys s0 s1 s2 s3 s4 s5 s6 s7)) (λq_'=>FV t p h xs ys s0 s1 s2 s3 s4 s5 s6 s7 q_' (Gm t p h xs ys s0 s1 s2 s3 s4 s5 s6 s7)),Ag (Hd.kd (Adu p0 t p h xs ys s0 s1 s2 s3 s4 s5 s6 s7)) (λq_' i_'=>Ff t p h xs ys s0 s1 s2 s3 s4 s5 s6 s7 q_' i_' (Gm t p h xs ys s0 s1 s2 s3 s4 s5 s6 s7)),Ag (Hd.kd (Adv p0 t p h xs ys s0 s1 s2 s3 s4 s5 s6 s7)) (λq_' y_' z_' i_'=>Fg t p h xs ys s0 s1 s2 s3 s4 s5 s6 s7 q_' y_' z_' i_' (Gm t p h xs ys s0 s1 s2 s3 s4 s5 s6 s7)),Ag (Hd.kd (Adw p0 t p h xs ys s0 s1 s2 s3 s4 s5 s6 s7)) (λt_' p_' h_' l_' r0_' r1_' r2_' r3_' r4_' r5_' r6_' r7_' y_' z_' i_'=>Fa t p h xs ys s0 s1 s2 s3 s4 s5 s6 s7 t_' p_' h_' l_' r0_' r1_' r2_' r3_' r4_' r5_' r6_' r7_' y_' z_' i_' (Gm t p h xs ys s0 s1 s2 s3 s4 s5 s6 s7)),Ag (Hd.kd (Adx p0 t p h xs ys s0 s1 s2 s3 s4 s5 s6 s7)) (λt_' p_' h_' l_' r0_' r1_' r2_' r3_' r4_' r5_' r6_' r7_' i_'=>Fh t p h xs ys s0 s1 s2 s3 s4 s5 s6 s7 t_' p_' h_' l_' r0_' r1_' r2_' r3_' r4_' r5_' r6_' r7_' i_' (Gm t p h xs ys s0 s1 s2 s3 s4 s5 s6 s7)),Ag (Hd.kd (Ady p0 t p h xs ys s0 s1 s2 s3 s4 s5 s6 s7)) (λq_' i_'=>ES t p h xs ys s0 s1 s2 s3 s4 s5 s6 s7 q_' i_' (Gm t p h xs ys s0 s1 s2 s3 s4 s5 s6 s7)),Ag (Hd.kd (Adz p0 t p h xs ys s0 s1 s2 s3 s4 s5 s6 s7)) (λq_' c0_' c1_' c2_' c3_' c4_' c5_' c6_' c7_' i_'=>Fj t p h xs ys s0 s1 s2 s3 s4 s5 s6 s7 q_' c0_' c1_' c2_' c3_' c4_' c5_' c6_' c7_' i_' (Gm t p h xs ys s0 s1 s2 s3 s4 s5 s6 s7)),Ag (Hd.kd (Ad0 p0 t p h xs ys s0 s1 s2 s3 s4 s5 s6 s7)) (λq_'=>Fp t p h xs ys s0 s1 s2 s3 s4 s5 s6 s7 q_' (Gm t p h xs ys s0 s1 s2 s3 s4 s5 s6 s7)),Ag (Hd.kd (Ze p0 t p h xs ys s0 s1 s2 s3 s4 s5 s6 s7)) (λt_' p_' h_' l_' r0_' r1_' r2_' r3_' r4_' r5_' r6_' r7_'=>Ez t p h xs ys s0 s1 s2 s3 s4 s5 s6 s7 t_' p_' h_' l_' r0_' r1_' r2_' r3_' r4_' r5_' r6_' r7_' (Gm t p h xs ys s0 s1 s2 s3 s4 s5 s6 s7)),Ag (Hd.kd (Zf p0 t p h xs ys s0 s1 s2 s3 s4 s5 s6 s7)) (λt_' p_' h_' l_' r0_' r1_' r2_' r3_' r4_' r5_' r6_' r7_'=>EH t p h xs ys s0 s1 s2 s3 s4 s5 s6 s7 t_' p_' h_' l_' r0_' r1_' r2_' r3_' r4_' r5_' r6_' r7_' (Gm t p h xs ys s0 s1 s2 s3 s4 s5 s6 s7)),Ag (Hd.kd (Zg p0 t p h xs ys s0 s1 s2 s3 s4 s5 s6 s7)) (λq_'=>Ei t p h xs ys s0 s1 s2 s3 s4 s5 s6 s7 q_' (Gm t p h xs ys s0 s1 s2 s3 s4 s5 s6 s7))] j (λ_=>False), λj=>iN [Ag (Hd.kd (Adr p0 t p h xs ys s0 s1 s2 s3 s4 s5 s6 s7)) (λq_'=>(0,0,0)),Ag (Hd.kd (Ads p0 t p h xs ys s0 s1 s2 s3 s4 s5 s6 s7)) (λq_'=>(0,0,0)),Ag (Hd.kd (Adt p0 t p h xs ys s0 s1 s2 s3 s4 s5 s6 s7)) (λq_'=>(0,0,0)),Ag (Hd.kd (Adu p0 t p h xs ys s0 s1 s2 s3 s4 s5 s6 s7)) (λq_' i_'=>(9,((xs.length:Int)-i_').toNat,9)),Ag (Hd.kd (Adv p0 t p h xs ys s0 s1 s2 s3 s4 s5 s6 s7)) (λq_' y_' z_' i_'=>(9,((xs.length:Int)-i_').toNat,8)),Ag (Hd.kd (Adw p0 t p h xs ys s0 s1 s2 s3 s4 s5 s6 s7)) (λt_' p_' h_' l_' r0_' r1_' r2_' r3_' r4_' r5_' r6_' r7_' y_' z_' i_'=>(9,((xs.length:Int)-i_').toNat,7)),Ag (Hd.kd (Adx p0 t p h xs ys s0 s1 s2 s3 s4 s5 s6 s7)) (λt_' p_' h_' l_' r0_' r1_' r2_' r3_' r4_' r5_' r6_' r7_' i_'=>(9,((xs.length:Int)-i_').toNat,6)),Ag (Hd.kd (Ady p0 t p h xs ys s0 s1 s2 s3 s4 s5 s6 s7)) (λq_' i_'=>(9,((xs.length:Int)-i_').toNat,5)),Ag (Hd.kd (Adz p0 t p h xs ys s0 s1 s2 s3 s4 s5 s6 s7)) (λq_' c0_' c1_' c2_' c3_' c4_' c5_' c6_' c7_' i_'=>(5,(8-i_').toNat,0)),Ag (Hd.kd (Ad0 p0 t p h xs ys s0 s1 s2 s3 s4 s5 s6 s7)) (λq_'=>(4,0,0)),Ag (Hd.kd (Ze p0 t p h xs ys s0 s1 s2 s3 s4 s5 s6 s7)) (λt_' p_' h_' l_' r0_' r1_' r2_' r3_' r4_' r5_' r6_' r7_'=>(3,0,0)),Ag (Hd.kd (Zf p0 t p h xs ys s0 s1 s2 s3 s4 s5 s6 s7)) (λt_' p_' h_' l_' r0_' r1_' r2_' r3_' r4_' r5_' r6_' r7_'=>(2,0,0)),Ag (Hd.kd (Zg p0 t p h xs ys s0 s1 s2 s3 s4 s5 s6 s7)) (λq_'=>(1,0,0))] j (λ_=>(0,0,0)),by kernel_rfl,⟨_, λ_ _ _=>by kernel_rfl,Ama t p h xs ys s0 s1 s2 s3 s4 s5 s6 s7 hp0 hp1 hp2 hp3 hp4 hl0⟩,⟨λq_ hI=>False.elim hI,⟨λq_ hI=>False.elim hI,⟨λq_ hI=>False.elim hI,⟨λq_ i_ hI=>⟨_, λ_ _ _=>by kernel_rfl,Amb t p h xs ys s0 s1 s2 s3 s4 s5 s6 s7 hp0 hp1 hp2 hp3 hp4 hl0 q_ i_ hI⟩,⟨⟨Gh, λq_ y_ z_ i_ hI=>⟨q_, λ_=>by kernel_rfl, λt_ p_ h_ l_ x0_ x1_ x2_ x3_ x4_ x5_ x6_ x7_ hx=>⟨_, λ_ _=>by kernel_rfl,Amc t p h xs ys s0 s1 s2 s3 s4 s5 s6 s7 hp0 hp1 hp2 hp3 hp4 hl0 q_ y_ z_ i_ t_ p_ h_ l_ x0_ x1_ x2_ x3_ x4_ x5_ x6_ x7_ hI hx⟩⟩⟩,⟨λt_ p_ h_ l_ r0_ r1_ r2_ r3_ r4_ r5_ r6_ r7_ y_ z_ i_ hI=>⟨_, λ_ _ _=>by kernel_rfl,Amd t p h xs ys s0 s1 s2 s3 s4 s5 s6 s7 hp0 hp1 hp2 hp3 hp4 hl0 t_ p_ h_ l_ r0_ r1_ r2_ r3_ r4_ r5_ r6_ r7_ y_ z_ i_ hI⟩,⟨⟨Gh, λt_ p_ h_ l_ r0_ r1_ r2_ r3_ r4_ r5_ r6_ r7_ i_ hI=>⟨⟨t_,p_,h_,l_,r0_,r1_,r2_,r3_,r4_,r5_,r6_,r7_⟩,Adq t p h xs ys s0 s1 s2 s3 s4 s5 s6 s7 t_ p_ h_ l_ r0_ r1_ r2_ r3_ r4_ r5_ r6_ r7_ i_ (λq_' i_'=>ES t p h xs ys s0 s1 s2 s3 s4 s5 s6 s7 q_' i_' (Gm t p h xs ys s0 s1 s2 s3 s4 s5 s6 s7)∧lx (9,((xs.length:Int)-i_').toNat,5) (9,((xs.length:Int)-i_).toNat,6)),(Abs t p h xs ys s0 s1 s2 s3 s4 s5 s6 s7 hp0 hp1 hp2 hp3 hp4 hl0 t_ p_ h_ l_ r0_ r1_ r2_ r3_ r4_ r5_ r6_ r7_ i_ hI).1, λ_=>by kernel_rfl,(Abs t p h xs ys s0 s1 s2 s3 s4 s5 s6 s7 hp0 hp1 hp2 hp3 hp4 hl0 t_ p_ h_ l_ r0_ r1_ r2_ r3_ r4_ r5_ r6_ r7_ i_ hI).2⟩⟩,⟨λq_ i_ hI=>⟨_, λ_ _ _=>by kernel_rfl,Ame t p h xs ys s0 s1 s2 s3 s4 s5 s6 s7 hp0 hp1 hp2 hp3 hp4 hl0 q_ i_ hI⟩,⟨λq_ c0_ c1_ c2_ c3_ c4_ c5_ c6_ c7_ i_ hI=>⟨_, λ_ _ _=>by kernel_rfl,Amf t p h xs ys s0 s1 s2 s3 s4 s5 s6 s7 hp0 hp1 hp2 hp3 hp4 hl0 q_ c0_ c1_ c2_ c3_ c4_ c5_ c6_ c7_ i_ hI⟩,⟨⟨Gh, λq_ hI=>⟨q_, λ_=>by kernel_rfl, λt_ p_ h_ l_ x0_ x1_ x2_ x3_ x4_ x5_ x6_ x7_ hx=>⟨_, λ_ _=>by kernel_rfl,Amg t p h xs ys s0 s1 s2 s3 s4 s5 s6 s7 hp0 hp1 hp2 hp3 hp4 hl0 q_ t_ p_ h_ l_ x0_ x1_ x2_ x3_ x4_ x5_ x6_ x7_ hI hx⟩⟩⟩,⟨λt_ p_ h_ l_ r0_ r1_ r2_ r3_ r4_ r5_ r6_ r7_ hI=>⟨_, λ_ _ _=>by kernel_rfl,AjB t p h xs ys s0 s1 s2 s3 s4 s5 s6 s7 hp0 hp1 hp2 hp3 hp4 hl0 t_ p_ h_ l_ r0_ r1_ r2_ r3_ r4_ r5_ r6_ r7_ hI⟩,⟨⟨Gh, λt_ p_ h_ l_ r0_ r1_ r2_ r3_ r4_ r5_ r6_ r7_ hI=>⟨⟨t_,p_,h_,l_,r0_,r1_,r2_,r3_,r4_,r5_,r6_,r7_⟩,Zd t p h xs ys s0 s1 s2 s3 s4 s5 s6 s7 t_ p_ h_ l_ r0_ r1_ r2_ r3_ r4_ r5_ r6_ r7_ (λq_'=>Ei t p h xs ys s0 s1 s2 s3 s4 s5 s6 s7 q_' (Gm t p h xs ys s0 s1 s2 s3 s4 s5 s6 s7)∧lx (1,0,0) (2,0,0)),(Yc t p h xs ys s0 s1 s2 s3 s4 s5 s6 s7 hp0 hp1 hp2 hp3 hp4 hl0 t_ p_ h_ l_ r0_ r1_ r2_ r3_ r4_ r5_ r6_ r7_ hI).1, λ_=>by kernel_rfl,(Yc t p h xs ys s0 s1 s2 s3 s4 s5 s6 s7 hp0 hp1 hp2 hp3 hp4 hl0 t_ p_ h_ l_ r0_ r1_ r2_ r3_ r4_ r5_ r6_ r7_ hI).2⟩⟩,⟨λq_ hI=>⟨_, λ_ _ _=>by kernel_rfl,AjC t p h xs ys s0 s1 s2 s3 s4 s5 s6 s7 hp0 hp1 hp2 hp3 hp4 hl0 q_ hI⟩,trivial⟩⟩⟩⟩⟩⟩⟩⟩⟩⟩⟩⟩⟩⟩
def An4:Tb:=(8,An2)::AeI
theorem AeJ:D7 An4:=Ea Aqz VC
end
end Go.Proofs.Ytdjfnbbmfmjckaa
