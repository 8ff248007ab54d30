/-
  DERIVED. Part 3 of the texts of this claim.
-/
import Derived.Test.YtdjfnbbmfmjckaaJModelRuns2
import Derived.Test.YtdjfnbbmfmjckaaProg
import Derived.RangeFuncMany
import Derived.RangeFuncLeaves
set_option linter.unusedSimpArgs false
set_option linter.unusedVariables false
open Option.some renaming injEq → iA
open Go.IntKind renaming i64 → iB, wrap → iS
open List renaming getD_eq_getElem?_getD → iC, map_cons → iD, mem_cons → iF, getElem?_append_left → iH, getElem?_append_right → iI, getElem?_eq_getElem → iK, getElem?_map → iL, getD → iM, length → iN, getElem?_set_self → iT, mem_of_getElem? → iV, getElem?_set_ne → iW, zipWith → jA, map_append → jD, getElem?_eq_none → jE, getElem?_cons_zero → jH, range' → jJ, length_append → jK, all_eq_true → jN, append_assoc → jP, range → jQ, map_set → jU, cons_append → jY, map_nil → kB, zipWith_cons_cons → kI, mem_map → kK, getElem?_cons_succ → kL, append_nil → kX, ext_getElem? → kZ, nodup_cons → lD, contains_cons → lK, findIdx?_eq_some_iff_getElem → lN, mem_append → lR, eraseIdx_sublist → mL, findIdx?_eq_none_iff → mN, nodup_range → mX, getElem_mem → nT, getElem?_range → nX
open Nat renaming eq_of_beq_eq_true → iE, beq → iJ, lt_or_ge → jB, ble → jT, le_refl → kA, not_lt_zero → kR, zero_add → lG, mod_lt → lY, sub_self → nE, beq_refl → nO
open Bool renaming and_eq_true → iG, not_true → jW, false_or → jX, or_eq_false_iff → kF, true_or → kQ, not_eq_true' → kW, or_eq_true → lS, eq_iff_iff → mP, true_and → oA, not_eq_false' → oD
open Prod.mk renaming injEq → iO
open Go.Sem renaming run_bind → iQ, run_pure → iY
open Option renaming map_some → iR, map → mG
open Go.Value renaming pointer → kH, slice → lA, func → lU, bool → oM, tuple → oO
open Array renaming getD_eq_getD_getElem? → jC, getElem?_eq_none → kD, mapM_eq_mapM_toList → nW
open Go.Sl.Chunk renaming cells → jG, obj → kP, dead → oN
open Int renaming toNat → jL
open Go.Sl.Pr renaming pt → lE
open Prod renaming fst → kJ, snd → mF
open Go.Sl.PK renaming cell → nU
open BitVec renaming ofInt → oK
namespace Go.Sl
section
open Go.RowKit
theorem Dp.Qd {E:World} {G:Hp} {w:World} {As:List Eo} {k:Nat} {α:Type} {p:α→Prop} {A0:α→Eo} {Bs:α→List Eo} (h:Dp E G w As) (hk:As[k]? =some (λh=>∃x,p x∧Sl.star0 (A0 x::Bs x) h)):
 ∃x,p x∧Dp E G w (As.set k (A0 x)++Bs x):=by
 obtain ⟨h1,h2,o,h3,h4⟩:=h
 obtain ⟨x,hp,o2,h5⟩:=h4 k _ hk
 have hkl:k<As.length:=BN hk
 let o':Nat→Option Nat:= λb=>match o b with
  |some i=>if i=k then (match o2 b with|some 0=>some k|some (j+1)=>some (As.length+j)|none=>none) else if i<As.length then some i else none
  |none=>none
 refine ⟨x,hp,h1,h2,o', λb i hb=>?_, λi A hi=>?_⟩
 ·simp only [o'] at hb
  cases ho:o b with
  |none=>simp [ho] at hb
  |some j=>exact h3 b j ho
 ·rcases jB i As.length with hl|hl
  ·rw [iH (by simpa using hl)] at hi
   by_cases hik:k=i
   ·subst hik
    rw [iT hkl] at hi
    injection hi with hi;subst hi
    have:=h5 0 _ rfl
    have e:part w o' k= λb=>if o2 b=some 0 then part w o k b else none:=by
     funext b
     unfold part
     by_cases ho:o b=some k
     ·by_cases h0:o2 b=some 0
      ·simp [o',ho,h0]
      ·have hne:o' b≠some k:=by
        simp only [o',ho,if_true]
        cases hq:o2 b with
        |none=>simp
        |some j=>
         cases j with
         |zero=>exact absurd hq h0
         |succ j=>simp;omega
       rw [if_neg hne,if_neg h0]
     ·have hne:o' b≠some k:=by
       simp only [o']
       cases hq:o b with
       |none=>simp
       |some j=>
        have hjk:j≠k:= λe=>ho (by rw [hq,e])
        simp only [hjk,if_false]
        split<;>simp [hjk]
      rw [if_neg hne];simp [ho]
    rw [e];exact this
   ·rw [iW hik] at hi
    have:=h4 i A hi
    rw [EL (w':=w) (o':=o') (j:=i)] at this
    ·exact this
    ·refine λb=>⟨⟨λhb=>?_, λhb=>?_⟩, λ_=>rfl⟩
     ·have:¬i=k:= λe=>hik e.symm
      simp only [o',hb,this,if_false,hl,if_true]
     ·simp only [o'] at hb
      cases ho:o b with
      |none=>simp [ho] at hb
      |some j=>
       rw [ho] at hb
       dsimp only at hb
       split at hb
       ·cases hq:o2 b with
        |none=>rw [hq] at hb;cases hb
        |some m=>
         rw [hq] at hb
         cases m with
         |zero=>injection hb with hb;exact absurd hb hik
         |succ m=>injection hb with hb;omega
       ·split at hb
        ·exact hb
        ·cases hb
  ·rw [iI (by simpa using hl)] at hi
   simp only [List.length_set] at hi
   have:=h5 (i-As.length+1) A (by simpa using hi)
   have e:part w o' i= λb=>if o2 b=some (i-As.length+1) then part w o k b else none:=by
    funext b
    unfold part
    by_cases ho:o b=some k
    ·by_cases h0:o2 b=some (i-As.length+1)
     ·have:o' b=some i:=by
       simp only [o',ho,h0,if_true];congr 1;omega
      rw [if_pos this,if_pos h0,if_pos ho]
     ·have hne:o' b≠some i:=by
       simp only [o',ho,if_true]
       cases hq:o2 b with
       |none=>simp
       |some j=>
        cases j with
        |zero=>simp;omega
        |succ j=>
         simp only [ne_eq,iA]
         intro e2
         exact h0 (by rw [hq];congr 1;omega)
      rw [if_neg hne,if_neg h0]
    ·have hne:o' b≠some i:=by
      simp only [o']
      cases hq:o b with
      |none=>simp
      |some j=>
       have hjk:j≠k:= λe=>ho (by rw [hq,e])
       simp only [hjk,if_false]
       split
       ·simp;omega
       ·simp
     rw [if_neg hne];simp [ho]
   rw [e];exact this
theorem Ap0 {Z:Hp} {α:Type} {p:α→Prop} {A0:α→Dl} {Bs:α→List Dl}:Iw Z (λY h=>∃x,p x∧Sl.star (A0 x::Bs x) Y h)= λh=>∃x,p x∧Sl.star0 (Iw Z (A0 x)::(Bs x).map (Iw Z)) h:=by
 funext k
 apply propext
 have e:∀x,Iw Z (Sl.star (A0 x::Bs x))=Sl.star0 (Iw Z (A0 x)::(Bs x).map (Iw Z)):= λx=>by rw [QT,iD]
 constructor
 ·intro h
  obtain ⟨x,hp,hs⟩:=h Z (Hp.le_refl Z)
  refine ⟨x,hp,?_⟩
  rw [←e x]
  exact λY hY=>Aoz hY hs
 ·rintro ⟨x,hp,hs⟩ Y hY
  rw [←e x] at hs
  exact ⟨x,hp,hs Y hY⟩
theorem Sat.Qd {E:Ev} {G:Hp} {w:World} {As:List Dl} {k:Nat} {α:Type} {p:α→Prop} {A0:α→Dl} {Bs:α→List Dl} (h:Sat E G w As) (hk:As[k]? =some (λY h=>∃x,p x∧Sl.star (A0 x::Bs x) Y h)):
 ∃x,p x∧Sat E G w (As.set k (A0 x)++Bs x):=by
 obtain ⟨Z,hz,hw,h0⟩:=h
 obtain ⟨x,hp,h1⟩:=Dp.Qd (k:=k) (A0:= λx=>Iw Z (A0 x)) (Bs:= λx=>(Bs x).map (Iw Z)) h0 (by rw [Ey hk,Ap0])
 refine ⟨x,hp,Z,hz,hw,?_⟩
 rw [jD,jU]
 exact h1
mutual
def Qe (k:Nat):Pr→Pr
 | .no=> .no
 | .pt j pk=>match pk with
   | .obj=>bif iJ j k then .pt j (.cell 0) else .pt j .obj
   |pk=> .pt j pk
 | .many ps=> .many (Agl k ps)
 | .box p=> .box (Qe k p)
def Agl (k:Nat):List Pr→List Pr
 |[]=>[]
 |p::ps=>Qe k p::Agl k ps
end
def Y9 (k:Nat):List (Value×Pr)→List (Value×Pr)
 |[]=>[]
 |x::r=>(x.1,Qe k x.2)::Y9 k r
variable {σ:Type} (D:Addr→σ→Dl)
def opC (k:Nat):Chunk σ→Chunk σ
 | .cells b t cs=> .cells b t (Y9 k cs)
 |c=>c
def opK (k:Nat):List (Chunk σ)→List (Chunk σ)
 |[]=>[]
 |c::r=>opC k c::opK k r
def J9 (k:Nat):List Aj→List Aj
 |[]=>[]
 |e::r=>⟨e.s,e.g,e.v,Qe k e.p⟩::J9 k r
theorem Agm (k:Nat):∀cs:List (Value×Pr),(Y9 k cs).map (·.1)=cs.map (·.1)
 |[]=>rfl
 |x::r=>by simp [Y9,Agm k r]
theorem Ao3 {G:Hp} (k:Nat) (c:Chunk σ):den D G (opC k c)=den D G c:=by
 cases c<;>simp [opC,den,Agm]
theorem Ao4 {k:Nat} {c:Chunk σ} {v:Value} {pk:PK} (h:DK c v pk):DK (opC k c) v pk:=by
 cases c<;>first|exact h|(cases pk<;>first|exact h|exact h.elim)
theorem VS (k:Nat):∀(K:List (Chunk σ)) (j:Nat),(opK k K)[j]? =(K[j]?).map (opC k)
 |[],j=>by simp [opK]
 |c::r,0=>by simp [opK]
 |c::r,j+1=>by simp [opK,VS k r j]
theorem Lr (k:Nat):∀K:List (Chunk σ),(opK k K).length=K.length
 |[]=>rfl
 |c::r=>by simp [opK,Lr k r]
theorem Ao5 {G:Hp} (k:Nat) (K:List (Chunk σ)):(opK k K).map (den D G)=K.map (den D G):=by
 apply kZ
 intro j
 rw [iL,VS,iL]
 cases K[j]? with
 |none=>rfl
 |some c=>simp [Ao3]
section
variable {K K':List (Chunk σ)} {k b:Nat} {s:σ}
mutual
theorem ZW (hk:K[k]? =some (.obj ⟨b,0,none⟩ s)) (h0:∃t cs,K'[k]? =some (.cells b t cs)) (h1:∀(j:Nat) (c:Chunk σ),j≠k→K[j]? =some c→∃c',K'[j]? =some c'∧∀v pk,DK c v pk→DK c' v pk):∀(v:Value) (p:Pr),BP K v p→BP K' v (Qe k p)
 |_, .no,_=>by simp [BP,Qe]
 |v, .pt j pk,h=>by
  rw [Bl] at h
  obtain ⟨c,e1,e2⟩:=h
  by_cases hj:j=k
  ·subst hj
   rw [hk] at e1;injection e1 with e1;subst e1
   cases pk<;>simp only [DK] at e2
   obtain ⟨t,cs,h0⟩:=h0
   have hb:iJ j j=true:=nO j
   simp only [Qe,hb,cond_true]
   rw [Bl]
   exact ⟨_,h0,e2⟩
  ·obtain ⟨c',e3,e4⟩:=h1 j c hj e1
   have:Qe k (.pt j pk)= .pt j pk:=by
    cases pk<;>simp only [Qe]
    have:iJ j k=false:=by
     cases hb:iJ j k with
     |false=>rfl
     |true=>exact absurd (iE hb) hj
    rw [this];rfl
   rw [this,Bl]
   exact ⟨c',e3,e4 v pk e2⟩
 |v, .many ps,h=>by
  cases v<;>simp only [BP,Qe] at h ⊢
  all_goals exact Aju hk h0 h1 _ ps h
 |v, .box p,h=>by
  cases v<;>simp only [BP,Qe] at h ⊢
  ·obtain ⟨v,h2,h3⟩:=h
   exact ⟨v,h2,ZW hk h0 h1 _ p h3⟩
  ·exact ZW hk h0 h1 _ p h
theorem Aju (hk:K[k]? =some (.obj ⟨b,0,none⟩ s)) (h0:∃t cs,K'[k]? =some (.cells b t cs)) (h1:∀(j:Nat) (c:Chunk σ),j≠k→K[j]? =some c→∃c',K'[j]? =some c'∧∀v pk,DK c v pk→DK c' v pk):∀(vs:List Value) (ps:List Pr),AV K vs ps→AV K' vs (Agl k ps)
 |[],[],_=>by simp [AV,Agl]
 |[],_::_,h=>by simp [AV] at h
 |_::_,[],h=>by simp [AV] at h
 |v::vs,p::ps,h=>by
  simp only [AV,Agl] at h ⊢
  exact ⟨ZW hk h0 h1 v p h.1,Aju hk h0 h1 vs ps h.2⟩
end
theorem Agn {k:Nat}:∀{cs:List (Value×Pr)} {x:Value×Pr},x∈Y9 k cs→∃y∈cs,x=(y.1,Qe k y.2)
 |[],x,h=>by simp [Y9] at h
 |y::r,x,h=>by
  simp only [Y9,iF] at h
  rcases h with rfl|h
  ·exact ⟨y,by simp,rfl⟩
  ·obtain ⟨z,h1,h2⟩:=Agn h
   exact ⟨z,by simp [h1],h2⟩
theorem Acn {k:Nat}:∀{L:List Aj} {e:Aj},e∈J9 k L→∃y∈L,e=⟨y.s,y.g,y.v,Qe k y.p⟩
 |[],x,h=>by simp [J9] at h
 |y::r,x,h=>by
  simp only [J9,iF] at h
  rcases h with rfl|h
  ·exact ⟨y,by simp,rfl⟩
  ·obtain ⟨z,h1,h2⟩:=Acn h
   exact ⟨z,by simp [h1],h2⟩
end
theorem SW.open {P:Program} {f:FuncId} {R:Ending→World→Prop} {B:Code} {n:Nat} {E:Ev} {G:Hp} {td:List Ab} {L:List Aj} {K:List (Chunk σ)} (k:Nat) {p0:Addr} {s:σ} (hk:K[k]? =some (.obj p0 s))
 {α:Type} {q:α→Prop} (bf:α→Nat) (tf:α→TypeId) (cf:α→List (Value×Pr)) (rf:α→List (Chunk σ)) (hD:D p0 s= λY h=>∃x,q x∧Sl.star ((jG (bf x) (tf x) (cf x)::rf x).map (den D G)) Y h)
 (hp:∀x,q x→p0=⟨bf x,0,none⟩) (hr:∀x b t cs,jG b t cs∈rf x→cs=[])
 (hc:∀x,q x→∀y∈cf x,BP ((opK k K).set k (.cells (bf x) (tf x) (cf x))++rf x) y.1 y.2)
 (h:∀x,q x→SW D P f R B n E G td (J9 k L) ((opK k K).set k (.cells (bf x) (tf x) (cf x))++rf x)):SW D P f R B n E G td L K:=by
 intro a w hF hS
 have hkl:=BN hk
 have hS1:Sat E G w (K.map (den D G)):=hS
 obtain ⟨x,hx,hS2⟩:=Sat.Qd (p:=q) (A0:= λx=>den D G (.cells (bf x) (tf x) (cf x))) (Bs:= λx=>(rf x).map (den D G)) (k:=k) hS1 (by rw [CQ D hk];simp only [den,hD];rfl)
 have hp0:=hp x hx
 rw [hp0] at hk
 let K':List (Chunk σ):=(opK k K).set k (.cells (bf x) (tf x) (cf x))++rf x
 have hK'k:K'[k]? =some (.cells (bf x) (tf x) (cf x)):=by
  show ((opK k K).set k _++rf x)[k]? =_
  rw [iH (by simp [Lr,hkl]),iT (by rw [Lr];exact hkl)]
 have hK'j:∀(j:Nat) (c:Chunk σ),j≠k→K[j]? =some c→∃c',K'[j]? =some c'∧∀v pk,DK c v pk→DK c' v pk:= λj c hj hjc=>by
  refine ⟨opC k c,?_, λv pk h=>Ao4 h⟩
  show ((opK k K).set k _++rf x)[j]? =_
  rw [iH (by simp [Lr,BN hjc]),iW (λe=>hj e.symm),VS,hjc];rfl
 have hop:= λv p hv=>ZW (K:=K) (K':=K') hk ⟨_,_,hK'k⟩ hK'j v p hv
 refine h x hx a w ⟨λj b t cs hj y hy=>?_,hF.defers,hF.size, λe he hg=>?_, λe he hg=>?_⟩ ?_
 ·by_cases hjk:j=k
  ·subst hjk
   have:=hK'k.symm.trans hj
   injection this with this;injection this with _ _ this;subst this
   exact hc x hx y hy
  ·rcases jB j K.length with hl|hl
   ·have hj':((opK k K).set k (jG (bf x) (tf x) (cf x))++rf x)[j]? =some (.cells b t cs):=hj
    rw [iH (by simp [Lr,hl]),iW (λe=>hjk e.symm),VS] at hj'
    cases hq:K[j]? with
    |none=>rw [hq] at hj';cases hj'
    |some c=>
     rw [hq] at hj'
     cases c<;>simp only [iR,opC,iA] at hj'<;>try cases hj'
     obtain ⟨z,hz,rfl⟩:=Agn hy
     exact hop _ _ (hF.kok _ _ _ _ hq z hz)
   ·have hj':((opK k K).set k (jG (bf x) (tf x) (cf x))++rf x)[j]? =some (.cells b t cs):=hj
    rw [iI (by simpa [Lr] using hl)] at hj'
    have:=hr x b t cs (iV hj')
    subst this;cases hy
 ·obtain ⟨y,hy,rfl⟩:=Acn he
  obtain ⟨e1,e2⟩:=hF.ents y hy hg
  exact ⟨e1,hop _ _ e2⟩
 ·obtain ⟨y,hy,rfl⟩:=Acn he
  exact hF.skipd y hy hg
 ·show Sat E G w _
  rw [jD,jU,Ao5]
  exact hS2
def E5 {α:Type} (xs:List α) (v:α):List Nat→List α
 |[]=>xs
 |i::is=>E5 (xs.set i v) v is
theorem QV {α:Type} {v:α}:∀(is:List Nat) (xs:List α) (j:Nat) (x:α),(E5 xs v is)[j]? =some x→(j∈is∧x=v)∨(j ∉ is∧xs[j]? =some x)
 |[],xs,j,x,h=> .inr ⟨by simp,h⟩
 |i::is,xs,j,x,h=>by
  rcases QV is (xs.set i v) j x h with ⟨h1,h2⟩|⟨h1,h2⟩
  ·exact .inl ⟨by simp [h1],h2⟩
  ·by_cases hij:i=j
   ·subst hij
    rcases jB i xs.length with hl|hl
    ·rw [iT hl] at h2
     injection h2 with h2
     exact .inl ⟨by simp,h2.symm⟩
    ·rw [jE (by simpa using hl)] at h2;cases h2
   ·rw [iW hij] at h2
    exact .inr ⟨by simp [h1];exact λe=>hij e.symm,h2⟩
theorem QW {α β:Type} (f:α→β) (v:α):∀(is:List Nat) (xs:List α),(E5 xs v is).map f=E5 (xs.map f) (f v) is
 |[],xs=>rfl
 |i::is,xs=>by rw [E5,QW f v is,jU];rfl
theorem QX {α:Type} (v:α):∀(is:List Nat) (xs:List α),(E5 xs v is).length=xs.length
 |[],xs=>rfl
 |i::is,xs=>by rw [E5,QX v is];simp
theorem ZX {α:Type} {v:α}:∀{is:List Nat} {xs:List α} {j:Nat},j ∉ is→(E5 xs v is)[j]? =xs[j]?
 |[],xs,j,_=>rfl
 |i::is,xs,j,h=>by
  simp only [iF,not_or] at h
  rw [E5,ZX h.2,iW (λe=>h.1 e.symm)]
theorem Dp.closeAt {E:World} {G:Hp} {w:World} {As Bs:List Eo} {k:Nat} {ks:List Nat} (h:Dp E G w As) (hn:(k::ks).Nodup) (hB:∀(i:Nat) (B:Eo),Bs[i]? =some B→∃j,(k::ks)[i]? =some j∧As[j]? =some B):
 Dp E G w ((E5 As (λ_=>True) ks).set k (Sl.star0 Bs)):=by
 obtain ⟨h1,h2,o,h3,h4⟩:=h
 have hkn:k ∉ ks:=(lD.1 hn).1
 let o':Nat→Option Nat:= λb=>match o b with
  |some i=>if i∈k::ks then some k else some i
  |none=>none
 have hin:∀b,o' b=some k→∃i,o b=some i∧i∈k::ks:= λb hb=>by
  simp only [o'] at hb
  cases ho:o b with
  |none=>simp [ho] at hb
  |some i=>
   rw [ho] at hb
   dsimp only at hb
   by_cases hi:i∈k::ks
   ·exact ⟨i,rfl,hi⟩
   ·rw [if_neg hi] at hb
    injection hb with hb
    exact absurd (by rw [hb];simp) hi
 refine ⟨h1,h2,o', λb i hb=>?_, λi A hi=>?_⟩
 ·simp only [o'] at hb
  cases ho:o b with
  |none=>simp [ho] at hb
  |some j=>exact h3 b j ho
 ·by_cases hik:k=i
  ·subst hik
   have hl:=BN hi
   rw [iT (by simpa using hl)] at hi
   injection hi with hi;subst hi
   refine ⟨λb=>match o b with|some i=>(k::ks).idxOf? i|none=>none, λi B hBi=>?_⟩
   obtain ⟨j,e1,e2⟩:=hB i B hBi
   have:=h4 j B e2
   have e:(λb=>if (match o b with|some i=>(k::ks).idxOf? i|none=>none)=some i then part w o' k b else none)=part w o j:=by
    funext b
    unfold part
    cases ho:o b with
    |none=>simp
    |some m=>
     dsimp only
     by_cases hm:(k::ks).idxOf? m=some i
     ·have hmj:m=j:=by
       have:=(JC hn).1 hm
       rw [e1] at this;injection this with this;exact this.symm
      subst hmj
      have:o' b=some k:=by
       simp only [o',ho]
       rw [if_pos (iV e1)]
      rw [if_pos hm,if_pos this];simp
     ·rw [if_neg hm,if_neg]
      intro e3
      injection e3 with e3
      subst e3
      exact hm ((JC hn).2 e1)
   rw [e];exact this
  ·rw [iW hik] at hi
   rcases QV ks As i A hi with ⟨_,rfl⟩|⟨hni,hA⟩
   ·trivial
   ·have:=h4 i A hA
    rw [EL (w':=w) (o':=o') (j:=i)] at this
    ·exact this
    ·have hnk:¬i∈k::ks:=by
      simp only [iF,not_or]
      exact ⟨λe=>hik e.symm,hni⟩
     refine λb=>⟨⟨λhb=>?_, λhb=>?_⟩, λ_=>rfl⟩
     ·simp only [o',hb];rw [if_neg hnk]
     ·simp only [o'] at hb
      cases ho:o b with
      |none=>simp [ho] at hb
      |some j=>
       rw [ho] at hb
       dsimp only at hb
       split at hb
       ·injection hb with hb;exact absurd hb hik
       ·exact hb
theorem Sat.closeAt {E:Ev} {G:Hp} {w:World} {As Bs:List Dl} {k:Nat} {ks:List Nat} (h:Sat E G w As) (hn:(k::ks).Nodup) (hB:∀(i:Nat) (B:Dl),Bs[i]? =some B→∃j,(k::ks)[i]? =some j∧As[j]? =some B):
 Sat E G w ((E5 As (λ_ _=>True) ks).set k (Sl.star Bs)):=by
 obtain ⟨Z,hz,hw,h0⟩:=h
 refine ⟨Z,hz,hw,?_⟩
 have e:Iw Z (λ_ _=>True)= λ_=>True:=by funext k;exact propext ⟨λ_=>trivial, λ_ _ _=>trivial⟩
 rw [jU,QW,QT,e]
 exact h0.closeAt hn λi B hi=>by
  obtain ⟨C,h1,rfl⟩:=IV hi
  obtain ⟨j,h2,h3⟩:=hB i C h1
  exact ⟨j,h2,Ey h3⟩
mutual
def Uk (k:Nat) (ks:List Nat):Pr→Pr
 | .no=> .no
 | .pt j pk=>bif iJ j k then (match pk with| .cell 0=> .pt k .obj|_=> .no) else bif ks.any (iJ j) then .no else .pt j pk
 | .many ps=> .many (Ago k ks ps)
 | .box p=> .box (Uk k ks p)
def Ago (k:Nat) (ks:List Nat):List Pr→List Pr
 |[]=>[]
 |p::ps=>Uk k ks p::Ago k ks ps
end
def KU (k:Nat) (ks:List Nat):List Aj→List Aj
 |[]=>[]
 |e::r=>⟨e.s,e.g,e.v,Uk k ks e.p⟩::KU k ks r
theorem Aco {k:Nat} {ks:List Nat}:∀{L:List Aj} {e:Aj},e∈KU k ks L→∃y∈L,e=⟨y.s,y.g,y.v,Uk k ks y.p⟩
 |[],x,h=>by simp [KU] at h
 |y::r,x,h=>by
  simp only [KU,iF] at h
  rcases h with rfl|h
  ·exact ⟨y,by simp,rfl⟩
  ·obtain ⟨z,h1,h2⟩:=Aco h
   exact ⟨z,by simp [h1],h2⟩
section
variable {K K':List (Chunk σ)} {k b:Nat} {ks:List Nat} {s:σ}
mutual
theorem Ul {t:TypeId} {cs:List (Value×Pr)} (hk:K[k]? =some (.cells b t cs)) (h0:K'[k]? =some (.obj ⟨b,0,none⟩ s)) (h1:∀j:Nat,j≠k→j ∉ ks→K'[j]? =K[j]?):∀(v:Value) (p:Pr),BP K v p→BP K' v (Uk k ks p)
 |_, .no,_=>by simp [BP,Uk]
 |v, .pt j pk,h=>by
  rw [Bl] at h
  obtain ⟨c,e1,e2⟩:=h
  simp only [Uk]
  cases hj:iJ j k with
  |true=>
   have:=iE hj
   subst this
   simp only [cond_true]
   rw [hk] at e1;injection e1 with e1;subst e1
   split
   ·rw [Bl];exact ⟨_,h0,e2⟩
   ·exact AA
  |false=>
   simp only [cond_false]
   cases hm:ks.any (iJ j) with
   |true=>exact AA
   |false=>
    have hjk:j≠k:= λe=>by rw [e,nO] at hj;cases hj
    have hjn:j ∉ ks:= λhmem=>by
     rw [List.any_eq_false] at hm
     exact hm j hmem (nO j)
    simp only [cond_false]
    rw [Bl]
    exact ⟨c,by rw [h1 j hjk hjn];exact e1,e2⟩
 |v, .many ps,h=>by
  cases v<;>simp only [BP,Uk] at h ⊢
  all_goals exact Ajv hk h0 h1 _ ps h
 |v, .box p,h=>by
  cases v<;>simp only [BP,Uk] at h ⊢
  ·obtain ⟨v,h2,h3⟩:=h
   exact ⟨v,h2,Ul hk h0 h1 _ p h3⟩
  ·exact Ul hk h0 h1 _ p h
theorem Ajv {t:TypeId} {cs:List (Value×Pr)} (hk:K[k]? =some (.cells b t cs)) (h0:K'[k]? =some (.obj ⟨b,0,none⟩ s)) (h1:∀j:Nat,j≠k→j ∉ ks→K'[j]? =K[j]?):∀(vs:List Value) (ps:List Pr),AV K vs ps→AV K' vs (Ago k ks ps)
 |[],[],_=>by simp [AV,Ago]
 |[],_::_,h=>by simp [AV] at h
 |_::_,[],h=>by simp [AV] at h
 |v::vs,p::ps,h=>by
  simp only [AV,Ago] at h ⊢
  exact ⟨Ul hk h0 h1 v p h.1,Ajv hk h0 h1 vs ps h.2⟩
end
end
def Agp (k:Nat) (ks:List Nat):Pr→Bool
 | .no=>true
 | .pt j _=>!(iJ j k)&&!(ks.any (iJ j))
 |_=>false
theorem Ao6 {k:Nat} {ks:List Nat} {p:Pr} (h:Agp k ks p=true):Uk k ks p=p:=by
 cases p with
 |no=>rfl
 |pt j pk=>
  simp only [Agp,iG,kW] at h
  simp only [Uk]
  rw [h.1,h.2];rfl
 |_=>cases h
def KL (m:Nat):List (Chunk σ)→Bool
 |[]=>true
 | .cells _ _ cs::r=>cs.all (λx=>Agp 0 (jJ 1 m) x.2)&&KL m r
 |_::r=>KL m r
theorem ZY {m:Nat}:∀{K:List (Chunk σ)},KL m K=true→∀b t cs,jG b t cs∈K→∀x∈cs,Agp 0 (jJ 1 m) x.2=true
 |[],_,_,_,_,hm,_,_=>by simp at hm
 |c::K,h,b,t,cs,hm,x,hx=>by
  rcases iF.1 hm with rfl|hm
  ·simp only [KL,iG,jN] at h
   exact h.1 x hx
  ·refine ZY (K:=K) ?_ b t cs hm x hx
   cases c<;>simp only [KL,iG] at h<;>first|exact h|exact h.2
theorem SW.close {P:Program} {f:FuncId} {R:Ending→World→Prop} {B:Code} {n:Nat} {E:Ev} {G:Hp} {td:List Ab} {L:List Aj} {K:List (Chunk σ)} (k:Nat) (ks:List Nat) {b:Nat} {t:TypeId} {cs:List (Value×Pr)} {rs:List (Chunk σ)} {s:σ} (hn:(k::ks).Nodup)
 (hk:K[k]? =some (.cells b t cs)) (hr:∀(i:Nat) c,rs[i]? =some c→∃j,ks[i]? =some j∧K[j]? =some c) (hno:∀(j:Nat) b t cs,j≠k→K[j]? =some (.cells b t cs)→∀x∈cs,Agp k ks x.2=true)
 (hD:∀Y h,Sl.star ((jG b t cs::rs).map (den D G)) Y h→D ⟨b,0,none⟩ s Y h)
 (h:SW D P f R B n E G td (KU k ks L) ((E5 K .dead ks).set k (.obj ⟨b,0,none⟩ s))):SW D P f R B n E G td L K:=by
 intro a w hF hS
 have hkl:=BN hk
 have hkn:k ∉ ks:=(lD.1 hn).1
 have hS1:Sat E G w (K.map (den D G)):=hS
 have hS2:=Sat.closeAt (Bs:=(jG b t cs::rs).map (den D G)) hS1 hn λi B hi=>by
  rw [iL] at hi
  cases i with
  |zero=>
   simp only [jH,iR,iA] at hi
   exact ⟨k,rfl,by rw [CQ D hk,hi]⟩
  |succ i=>
   simp only [kL] at hi
   cases hc:rs[i]? with
   |none=>rw [hc] at hi;cases hi
   |some c=>
    rw [hc] at hi;injection hi with hi
    obtain ⟨j,e1,e2⟩:=hr i c hc
    exact ⟨j,by simpa using e1,by rw [CQ D e2,hi]⟩
 let K':List (Chunk σ):=(E5 K .dead ks).set k (.obj ⟨b,0,none⟩ s)
 have h0:K'[k]? =some (.obj ⟨b,0,none⟩ s):=iT (by rw [QX];exact hkl)
 have h1:∀j:Nat,j≠k→j ∉ ks→K'[j]? =K[j]? := λj hj hjn=>by
  show ((E5 K .dead ks).set k _)[j]? =_
  rw [iW (λe=>hj e.symm),ZX hjn]
 have hcl:= λv p hv=>Ul (K:=K) (K':=K') (ks:=ks) hk h0 h1 v p hv
 refine h a w ⟨λj b' t' cs' hj y hy=>?_,hF.defers,hF.size, λe he hg=>?_, λe he hg=>?_⟩ ?_
 ·have hj':((E5 K .dead ks).set k (kP ⟨b,0,none⟩ s))[j]? =some (.cells b' t' cs'):=hj
  by_cases hjk:k=j
  ·subst hjk
   have:=h0.symm.trans hj
   injection this with this;cases this
  ·rw [iW hjk] at hj'
   rcases QV ks K j _ hj' with ⟨_,e⟩|⟨_,e⟩
   ·cases e
   ·have hfar:=hno j b' t' cs' (λe=>hjk e.symm) e y hy
    have hy0:=hF.kok j b' t' cs' e y hy
    have hcl:=Ul (K:=K) (K':=K') (ks:=ks) hk h0 h1 y.1 y.2 hy0
    rw [Ao6 hfar] at hcl
    exact hcl
 ·obtain ⟨y,hy,rfl⟩:=Aco he
  obtain ⟨e1,e2⟩:=hF.ents y hy hg
  exact ⟨e1,hcl _ _ e2⟩
 ·obtain ⟨y,hy,rfl⟩:=Aco he
  exact hF.skipd y hy hg
 ·show Sat E G w _
  rw [jU,QW]
  refine hS2.imp λi B hB=>?_
  by_cases hik:k=i
  ·subst hik
   have hl:=BN hB
   rw [iT (by simpa using hl)] at hB
   injection hB with hB;subst hB
   exact ⟨_,iT (by simpa [QX] using hkl),hD⟩
  ·rw [iW hik] at hB
   exact ⟨B,by rw [iW hik];exact hB, λ_ _ h=>h⟩
end
section
open Go.RowKit
variable {σ:Type}
structure Bx (σ:Type) (w:Wr σ):Type 1 where
 t:TypeId
 l:List (Sh σ)
 R:w.τ→List (Cm σ)→Prop
def DT:Addr→σ→Dl:= λ_ _ _ _=>True
def GT:Hp:= λ_=>none
variable {wr:Wr σ}
def Bx.bk (b:Bx σ wr) (o:Nat) (ad:Nat→Ad) (k:Nat) (y:List (Cm σ)):List (Chunk σ):= .cells o b.t (Je (DL ad b.l k 0 y))::Gp (DL ad b.l k 0 y)
def Bx.A (b:Bx σ wr) (s:wr.τ) (p:Addr):Dl:= λY h=>∃x:Nat×(Nat→Ad)×List (Cm σ),(p=⟨x.1,0,none⟩∧Dy (Ib b.l) x.2.2=true∧b.R s x.2.2)∧star ((b.bk x.1 x.2.1 1 x.2.2).map (den DT GT)) Y h
def G9:List (Sh σ)→Bool
 |[]=>true
 | .i _::l=>G9 l
 | .b::l=>G9 l
 | .ic _ _::l=>G9 l
 | .bc _::l=>G9 l
 | .own _ _::l=>G9 l
 | .mp _ _::l=>G9 l
 | .bm::l=>G9 l
 | .nxt _:: .own t ks::l=>G9 (.own t ks::l)
 |_=>false
theorem Um (ad:Nat→Ad):∀(l:List (Sh σ)) (k j:Nat) (cs:List (Cm σ)),G9 l=true→(Gp (DL ad l k j cs)).length=EP l∧FB (Gp (DL ad l k j cs))=true∧
 (∀(D D':Addr→σ→Dl) (G G':Hp) (k':Nat),(Gp (DL ad l k j cs)).map (den D G)=(Gp (DL ad l k' j cs)).map (den D' G')∧(Je (DL ad l k j cs)).map (·.1)=(Je (DL ad l k' j cs)).map (·.1))∧
 ∀K0 K2:List (Chunk σ),K0.length=k→∀y∈Je (DL ad l k j cs),BP (K0++Gp (DL ad l k j cs)++K2) y.1 y.2
 |[],k,j,cs,_=>⟨rfl,rfl, λ_ _ _ _ _=>⟨rfl,rfl⟩, λ_ _ _ y hy=>by simp [DL,Je] at hy⟩
 |s::l,k,j,cs,h=>by
  have key:G9 l=true→(∀k,FB (s.tp ad k j cs).K=true)→(∀k,(s.tp ad k j cs).K.length=s.nK)→(∀(D D':Addr→σ→Dl) (G G':Hp) (k k':Nat),(s.tp ad k j cs).K.map (den D G)=(s.tp ad k' j cs).K.map (den D' G')∧(s.tp ad k j cs).v=(s.tp ad k' j cs).v)→
   (∀K0 K2:List (Chunk σ),K0.length=k→BP (K0++(s.tp ad k j cs).K++(Gp (DL ad l (k+s.nK) (j+s.nA) (cs.drop s.nC))++K2)) (s.tp ad k j cs).v (s.tp ad k j cs).p)→_:= λhl h1 h2 h3 h4=>by
   obtain ⟨g1,g2,g3,g4⟩:=Um ad l (k+s.nK) (j+s.nA) (cs.drop s.nC) hl
   refine (?_:(Gp (DL ad (s::l) k j cs)).length=EP (s::l)∧FB (Gp (DL ad (s::l) k j cs))=true∧
  (∀(D D':Addr→σ→Dl) (G G':Hp) (k':Nat),(Gp (DL ad (s::l) k j cs)).map (den D G)=(Gp (DL ad (s::l) k' j cs)).map (den D' G')∧(Je (DL ad (s::l) k j cs)).map (·.1)=(Je (DL ad (s::l) k' j cs)).map (·.1))∧
  ∀K0 K2:List (Chunk σ),K0.length=k→∀y∈Je (DL ad (s::l) k j cs),BP (K0++Gp (DL ad (s::l) k j cs)++K2) y.1 y.2)
   simp only [DL,Gp,Je,EP]
   refine ⟨by rw [jK,h2,g1],LQ (h1 k) g2, λD D' G G' k'=>?_, λK0 K2 hk y hy=>?_⟩
   ·obtain ⟨a1,a2⟩:=h3 D D' G G' k k'
    obtain ⟨b1,b2⟩:=g3 D D' G G' (k'+s.nK)
    simp only [jD,iD]
    exact ⟨by rw [a1,b1],by rw [a2,b2]⟩
   ·simp only [iF] at hy
    rcases hy with rfl|hy
    ·have:=h4 K0 K2 hk
     simpa [jP] using this
    ·have:=g4 (K0++(s.tp ad k j cs).K) K2 (by rw [jK,hk,h2]) y hy
     simpa [jP] using this
  cases s with
  |i _=>exact key h (λ_=>rfl) (λ_=>rfl) (λ_ _ _ _ _ _=>⟨rfl,rfl⟩) λ_ _ _=>AA
  |b=>exact key h (λ_=>rfl) (λ_=>rfl) (λ_ _ _ _ _ _=>⟨rfl,rfl⟩) λ_ _ _=>AA
  |ic _ _=>exact key h (λ_=>rfl) (λ_=>rfl) (λ_ _ _ _ _ _=>⟨rfl,rfl⟩) λ_ _ _=>AA
  |bc _=>exact key h (λ_=>rfl) (λ_=>rfl) (λ_ _ _ _ _ _=>⟨rfl,rfl⟩) λ_ _ _=>AA
  |own t ks=>exact key h (λ_=>rfl) (λ_=>rfl) (λ_ _ _ _ _ _=>⟨rfl,rfl⟩) λK0 K2 hk=>Bl.2 ⟨.row (ad j).o t (Ia cs).nOf (ad j).c (D9 ks cs.tail),by subst hk;rw [jP,iI (kA _),nE];rfl,rfl⟩
  |mp kk vk=>exact key h (λ_=>rfl) (λ_=>rfl) (λ_ _ _ _ _ _=>⟨rfl,rfl⟩) λK0 K2 hk=>Bl.2 ⟨.map (ad j).b kk vk (Ia cs).mpOf,by subst hk;rw [jP,iI (kA _),nE];rfl,rfl⟩
  |bm=>exact key h (λ_=>rfl) (λ_=>rfl) (λ_ _ _ _ _ _=>⟨rfl,rfl⟩) λK0 K2 hk=>Bl.2 ⟨.bm (ad j).b (Ia cs).blOf none,by subst hk;rw [jP,iI (kA _),nE];rfl,rfl⟩
  |nxt t=>
   cases l with
   |nil=>simp [G9] at h
   |cons s2 l2=>
    cases s2 with
    |own t2 ks=>exact key (by simpa [G9] using h) (λ_=>rfl) (λ_=>rfl) (λ_ _ _ _ _ _=>⟨rfl,rfl⟩) λK0 K2 hk=>(by
      simp only [Sh.tp,BP]
      exact ⟨.row (ad j).o t2 (Ia cs).nOf (ad j).c (D9 ks cs.tail),by subst hk;simp only [kX];rw [iI (kA _),nE];rfl,rfl⟩)
    |_=>simp [G9] at h
  |_=>simp [G9] at h
theorem Bx.Agq {b:Bx σ wr} (hb:G9 b.l=true) (D D':Addr→σ→Dl) (G G':Hp) (o:Nat) (ad:Nat→Ad) (k k':Nat) (y:List (Cm σ)):(b.bk o ad k y).map (den D G)=(b.bk o ad k' y).map (den D' G'):=by
 obtain ⟨_,_,h3,_⟩:=Um ad b.l k 0 y hb
 obtain ⟨h1,h2⟩:=h3 D D' G G' k'
 simp only [Bx.bk,iD,h1,den,h2]
def Bx.opK (b:Bx σ wr) (k o:Nat) (ad:Nat→Ad) (y:List (Cm σ)) (K:List (Chunk σ)):List (Chunk σ):=(Sl.opK k K).set k (.cells o b.t (Je (DL ad b.l K.length 0 y)))++Gp (DL ad b.l K.length 0 y)
def Un:List (Chunk σ)→Bool
 | .obj _ _::_=>true
 |_=>false
theorem Pv:∀{K:List (Chunk σ)},FB K=true→∀c∈K,∀b t cs,c≠ .cells b t cs
 |[],_,c,hc=>by simp at hc
 |x::K,h,c,hc=>by
  intro b t cs e
  subst e
  simp only [iF] at hc
  rcases hc with rfl|hc
  ·simp [FB] at h
  ·refine Pv (K:=K) ?_ _ hc b t cs rfl
   cases x<;>simp only [FB] at h<;>first|exact h|cases h
variable (D:Addr→σ→Dl)
structure Bx.Is (b:Bx σ wr):Prop where
 c:G9 b.l=true
 d:∀p s,D p (wr.inj s)=b.A s p
section
variable {b:Bx σ wr} {P:Program} {f:FuncId} {R:Ending→World→Prop} {B:Code} {n:Nat} {E:Ev} {G:Hp} {td:List Ab} {L:List Aj} {K:List (Chunk σ)}
theorem Bx.VT (hb:b.Is D) (k:Nat) {p0:Addr} {s:wr.τ} (hk:K[k]? =some (.obj p0 (wr.inj s)))
 (h:∀o ad y,p0=⟨o,0,none⟩→Dy (Ib b.l) y=true→b.R s y→SW D P f R B n E G td (J9 k L) (b.opK k o ad y K)):SW D P f R B n E G td L K:=by
 refine SW.open D k hk (α:=Nat×(Nat→Ad)×List (Cm σ)) (q:= λx=>p0=⟨x.1,0,none⟩∧Dy (Ib b.l) x.2.2=true∧b.R s x.2.2) (λx=>x.1) (λ_=>b.t) (λx=>Je (DL x.2.1 b.l K.length 0 x.2.2)) (λx=>Gp (DL x.2.1 b.l K.length 0 x.2.2)) ?_ (λx hx=>hx.1) (λx o t cs hm=>?_) (λx hx y hy=>?_) (λx hx=>h x.1 x.2.1 x.2.2 hx.1 hx.2.1 hx.2.2)
 ·rw [hb.d]
  funext Y q
  apply propext
  have e:∀x:Nat×(Nat→Ad)×List (Cm σ),(b.bk x.1 x.2.1 1 x.2.2).map (den DT GT)=(jG x.1 b.t (Je (DL x.2.1 b.l K.length 0 x.2.2))::Gp (DL x.2.1 b.l K.length 0 x.2.2)).map (den D G):= λx=>Bx.Agq hb.c DT D GT G x.1 x.2.1 1 K.length x.2.2
  constructor
  ·rintro ⟨x,hx,hs⟩;exact ⟨x,hx,by rw [←e];exact hs⟩
  ·rintro ⟨x,hx,hs⟩;exact ⟨x,hx,by rw [e];exact hs⟩
 ·obtain ⟨_,h2,_⟩:=Um x.2.1 b.l K.length 0 x.2.2 hb.c
  exact absurd rfl (Pv h2 _ hm o t cs)
 ·obtain ⟨_,_,_,h4⟩:=Um x.2.1 b.l K.length 0 x.2.2 hb.c
  have:=h4 ((Sl.opK k K).set k (.cells x.1 b.t (Je (DL x.2.1 b.l K.length 0 x.2.2)))) [] (by simp [Lr]) y hy
  rw [kX] at this
  exact this
theorem Bx.addr (hb:b.Is D) (k:Nat) {p0:Addr} {s:wr.τ} (hk:K[k]? =some (.obj p0 (wr.inj s))) (h:∀o,p0=⟨o,0,none⟩→SW D P f R B n E G td L K):SW D P f R B n E G td L K:=by
 intro a w hF hS
 obtain ⟨_,q,_,h1,_⟩:=hS.get D hk
 simp only [den,hb.d] at h1
 obtain ⟨x,hx,_⟩:=h1
 exact h x.1 hx.1 a w hF hS
theorem Al0 {m i:Nat} (h:i<m):(jJ 1 m)[i]? =some (1+i):=by
 rw [List.getElem?_range' h];simp
theorem Bx.Ags (hb:b.Is D) {o:Nat} {ad:Nat→Ad} {y:List (Cm σ)} {rest:List (Chunk σ)} {s:wr.τ} (hK:K=b.bk o ad 1 y++rest) (hn:KL (EP b.l) rest=true) (hf:Dy (Ib b.l) y=true) (hR:b.R s y)
 (h:SW D P f R B n E G td (KU 0 (jJ 1 (EP b.l)) L) ((E5 K .dead (jJ 1 (EP b.l))).set 0 (.obj ⟨o,0,none⟩ (wr.inj s)))):SW D P f R B n E G td L K:=by
 obtain ⟨h1,h2,_,_⟩:=Um ad b.l 1 0 y hb.c
 refine SW.close D 0 (jJ 1 (EP b.l)) (b:=o) (t:=b.t) (cs:=Je (DL ad b.l 1 0 y)) (rs:=Gp (DL ad b.l 1 0 y)) (s:=wr.inj s) ?_ ?_ ?_ ?_ ?_ h
 ·rw [lD]
  exact ⟨λhm=>by rw [List.mem_range'] at hm;obtain ⟨i,_,e⟩:=hm;omega,List.nodup_range'⟩
 ·rw [hK];rfl
 ·intro i c hc
  have hl:=BN hc
  refine ⟨1+i,Al0 (by omega),?_⟩
  rw [hK,Bx.bk,jY,Nat.add_comm,kL,iH hl]
  exact hc
 ·intro j b' t' cs' hj e
  rw [hK,Bx.bk] at e
  cases j with
  |zero=>exact absurd rfl hj
  |succ j=>
   rw [jY,kL] at e
   rcases lR.1 (iV e) with hm|hm
   ·exact absurd rfl (Pv h2 _ hm b' t' cs')
   ·exact ZY hn b' t' cs' hm
 ·intro Y q hq
  rw [hb.d]
  refine ⟨(o,ad,y),⟨rfl,hf,hR⟩,?_⟩
  rw [Bx.Agq hb.c DT D GT G o ad 1 1 y]
  exact hq
theorem Bx.fold (hb:b.Is D) {w:World} {o k:Nat} {ad:Nat→Ad} {y:List (Cm σ)} {s:wr.τ} {Bs:List Dl} (hf:Dy (Ib b.l) y=true) (hR:b.R s y) (h:Sat E G w ((b.bk o ad k y).map (den D G)++Bs)):Sat E G w (D ⟨o,0,none⟩ (wr.inj s)::Bs):=by
 rw [Bx.Agq hb.c D DT G GT o ad k 1 y] at h
 rw [hb.d]
 exact Sat.Ach (p:= λx:Nat×(Nat→Ad)×List (Cm σ)=>(⟨o,0,none⟩:Addr)=⟨x.1,0,none⟩∧Dy (Ib b.l) x.2.2=true∧b.R s x.2.2) (A:= λx=>star ((b.bk x.1 x.2.1 1 x.2.2).map (den DT GT))) (o,ad,y) ⟨rfl,hf,hR⟩ h.star_append
theorem Bx.post (hb:b.Is D) {w:World} {o:Nat} {ad:Nat→Ad} {y:List (Cm σ)} {s:wr.τ} {out:List Value→Value} {rows:List (Mk σ)} {v:Value} {p:Pr} (hf:Dy (Ib b.l) y=true) (hR:b.R s y) (h:DR out (b.bk o ad 1 y) rows v p K) (hS:Af D E G w K):
 Post D E G out [.obj ⟨o,0,none⟩ (wr.inj s)] rows (.returned v) w:=by
 obtain ⟨acs,h1,h2,h3⟩:=h.post D hS
 exact ⟨acs,h1,h2,Bx.fold D hb hf hR h3⟩
theorem Bx.AmW (hb:b.Is D) {w:World} {o:Nat} {ad:Nat→Ad} {y:List (Cm σ)} {s:wr.τ} {out:List Value→Value} {v:Value} {p:Pr} (hf:Dy (Ib b.l) y=true) (hR:b.R s y) (h:DR (λ_=> .pointer (some ⟨o,0,none⟩)) (b.bk o ad 1 y) [] v p K) (hS:Af D E G w K)
 (ho:∀x,out [x]=x):Post D E G out [] [.obj (wr.inj s)] (.returned v) w:=by
 obtain ⟨acs,h1,h2,h3⟩:=h.post D hS
 cases acs with
 |cons _ _=>exact h1.elim
 |nil=>
  refine ⟨[(some o,0)],⟨⟨o,rfl⟩,trivial⟩,?_,?_⟩
  ·rw [h2];simp only [kI,List.zipWith_nil_right,ho];rfl
  ·simpa [Es,den] using Bx.fold D hb hf hR h3
end
structure Lf (σ:Type) where
 Q:Value→Pr→List (Chunk σ)→Prop
 l:Value→Pr→List (Chunk σ)→Ob σ
 r:Value→Pr→List (Chunk σ)→Ob σ
 b:Value→Pr→List (Chunk σ)→Bool
def Lf.lhs (lf:Lf σ) (hs:List (Hd σ)) (Q:Nat→List (Cm σ)→Prop) (t:Tree σ) (β:BF) (γ:GF):SmW σ:=(t.wp lf.Q (OD hs Q) β γ,t.obl lf.l (KI hs) β γ,t.okb lf.b (NV hs) β γ)
def Lf.rhs (lf:Lf σ) (hs:List (Hd σ)) (t:Tree σ) (W:Prop) (β:BF) (γ:GF):SmW σ:=(W,t.obl lf.r (KJ hs) β γ,true)
inductive Hop where
 |run
 |opn (k:Nat) (o:(Nat→Ad)→Nat) (j:Nat)
 |cls (j:Nat)
section
variable (b:Bx σ wr) (P:Program) (T:List (Nat×Entry σ)) (I:List Nat) (fuel:Nat) (fn:Func) (B:Code) (o:Nat) (lf:Lf σ) (hs:List (Hd σ)) (hk:List Hop) (Inv:Nat→List (Cm σ)→Prop) (ms:Nat→List (Cm σ)→Nat×Nat×Nat)
def Akf (j:Nat) (h:Hd σ):Prop:=
 match hk.getD j .run with
 | .run=>E8 h.kd λx=>Inv j x→∃W:Prop,(∀ad β γ,lf.lhs hs (λj' x'=>Inv j' x'∧lx (ms j' x') (ms j x)) (run P T (h.stp I) fuel B fn.results.toList fn.ntmps h.tds (h.L ad x) (h.K ad x)) β γ=
    lf.rhs hs (run P T (h.stp I) fuel B fn.results.toList fn.ntmps h.tds (h.L ad x) (h.K ad x)) W β γ)∧W
 | .opn k of j2=>match hs[j2]? with
   |some h2=>E8 h.kd λx=>Inv j x→∃s:wr.τ,(∀ad,(h.K ad x)[k]? =some (.obj ⟨of ad,0,none⟩ (wr.inj s)))∧E8 (Ib b.l) λy=>b.R s y→∃W:Prop,(∀ad ad2,(OD [h2] (λ_ x'=>Inv j2 x'∧lx (ms j2 x') (ms j x)) h.tds (J9 k (h.L ad x)) (b.opK k (of ad) ad2 y (h.K ad x)),KI [h2] h.tds (J9 k (h.L ad x)) (b.opK k (of ad) ad2 y (h.K ad x)),NV [h2] h.tds (J9 k (h.L ad x)) (b.opK k (of ad) ad2 y (h.K ad x)))=
     (W,KJ [h2] h.tds (J9 k (h.L ad x)) (b.opK k (of ad) ad2 y (h.K ad x)),true))∧W
   |none=>False
 | .cls j2=>match hs[j2]? with
   |some h2=>E8 h.kd λx=>Inv j x→∃(s:wr.τ) (W:Prop),b.R s (x.take (KT b.l))∧(∀ad,((h.K ad x).take (1+EP b.l),KL (EP b.l) ((h.K ad x).drop (1+EP b.l)),Dy (Ib b.l) (x.take (KT b.l)),OD [h2] (λ_ x'=>Inv j2 x'∧lx (ms j2 x') (ms j x)) h.tds (KU 0 (jJ 1 (EP b.l)) (h.L ad x)) ((E5 (h.K ad x) .dead (jJ 1 (EP b.l))).set 0 (.obj ⟨o,0,none⟩ (wr.inj s))),KI [h2] h.tds (KU 0 (jJ 1 (EP b.l)) (h.L ad x)) ((E5 (h.K ad x) .dead (jJ 1 (EP b.l))).set 0 (.obj ⟨o,0,none⟩ (wr.inj s))),NV [h2] h.tds (KU 0 (jJ 1 (EP b.l)) (h.L ad x)) ((E5 (h.K ad x) .dead (jJ 1 (EP b.l))).set 0 (.obj ⟨o,0,none⟩ (wr.inj s))))=
     (b.bk o ad 1 (x.take (KT b.l)),true,true,W,KJ [h2] h.tds (KU 0 (jJ 1 (EP b.l)) (h.L ad x)) ((E5 (h.K ad x) .dead (jJ 1 (EP b.l))).set 0 (.obj ⟨o,0,none⟩ (wr.inj s))),true))∧W
   |none=>False
def Uo:List (Hd σ)→Nat→Prop
 |[],_=>True
 |h::r,j=>Akf b P T I fuel fn B o lf hs hk Inv ms j h∧Uo r (j+1)
end
section
variable {b:Bx σ wr} {P:Program} {T:List (Nat×Entry σ)} {I:List Nat} {fuel:Nat} {fn:Func} {B:Code} {o:Nat} {lf:Lf σ} {hs:List (Hd σ)} {hk:List Hop} {Inv:Nat→List (Cm σ)→Prop} {ms:Nat→List (Cm σ)→Nat×Nat×Nat} {f:FuncId} {R:Ending→World→Prop} {E:Ev} {G:Hp}
theorem ZZ:∀{l:List (Hd σ)} {m i:Nat} {h:Hd σ},Uo b P T I fuel fn B o lf hs hk Inv ms l m→l[i]? =some h→Akf b P T I fuel fn B o lf hs hk Inv ms (m+i) h
 |[],_,_,_,_,h=>by simp at h
 |h0::r,m,0,h,hs,hg=>by simp at hg;subst hg;exact hs.1
 |h0::r,m,i+1,h,hs,hg=>by
  have:=ZZ hs.2 (i:=i) (by simpa using hg)
  rw [show m+1+i=m+(i+1) by omega] at this
  exact this
theorem OE {h:Hd σ} {j:Nat} (hc:hcode B hs=G8 B hs) (hg:hs[j]? =some h):hcode B [h]=G8 B [h]:=by
 simp only [hcode,G8]
 cases ho:h.ops with
 |some i=>rfl
 |none=>rw [Uj hc hg ho]
def Lf.Ok (lf:Lf σ) (E:Ev) (G:Hp) (R:Ending→World→Prop):Prop:=∀v p K w,lf.l v p K=lf.r v p K→lf.b v p K=true→lf.Q v p K→Af D E G w K→R (.returned v) w
theorem Afv (hT:Cb D P T) (hfn:P.funcs[f]? =some fn) (hmix:P.follows .mixedOrders=true) (hlf:lf.Ok D E G R) (hc:hcode B hs=G8 B hs) {Q:Nat→List (Cm σ)→Prop}
 (H:∀j h,hs[j]? =some h→∀s,Dy h.kd s=true→Q j s→∀ad,SW D P f R B fn.ntmps E G h.tds (h.L ad s) (h.K ad s)) {I:List Nat} {td:List Ab} {L:List Aj} {K:List (Chunk σ)} {W:Prop}
 (h:∀β γ,lf.lhs hs Q (run P T I fuel B fn.results.toList fn.ntmps td L K) β γ=lf.rhs hs (run P T I fuel B fn.results.toList fn.ntmps td L K) W β γ) (hW:W):SW D P f R B fn.ntmps E G td L K:=by
 refine SW.run D hT (I:=I) hfn hmix (R':= λv p K=>lf.l v p K=lf.r v p K∧lf.b v p K=true∧lf.Q v p K) (λv p K w h hS=>hlf v p K w h.1 h.2.1 h.2.2 hS) fuel rfl ?_
 refine Tree.Ho (RQ:=lf.Q) (SQ:=OD hs Q) (roL:=lf.l) (roR:=lf.r) (KI:=KI hs) (KJ:=KJ hs) (rb:=lf.b) (sb:=NV hs)
  (λv p K h1 h2 h3=>⟨h1,h2,h3⟩) (λtd L K h1 h2 h3=>Qb D hc h1 h2 h3 H) _ (λβ γ=>?_) (λβ γ=>congrArg (·.2.1) (h β γ)) (λβ γ=>congrArg (·.2.2) (h β γ))
 have:Tree.wp lf.Q (OD hs Q) (run P T I fuel B fn.results.toList fn.ntmps td L K) β γ=W:=congrArg (·.1) (h β γ)
 rw [this];exact hW
theorem Agt (hb:b.Is D) (hT:Cb D P T) (hfn:P.funcs[f]? =some fn) (hmix:P.follows .mixedOrders=true) (hlf:lf.Ok D E G R) (hc:hcode B hs=G8 B hs) (hst:Uo b P T I fuel fn B o lf hs hk Inv ms hs 0):
 ∀j h,hs[j]? =some h→∀s,Dy h.kd s=true→Inv j s→∀ad,SW D P f R B fn.ntmps E G h.tds (h.L ad s) (h.K ad s):=by
 have loop:∀x:Nat×Nat×Nat,∀j h,hs[j]? =some h→∀s,Dy h.kd s=true→Inv j s→ms j s=x→∀ad,SW D P f R B fn.ntmps E G h.tds (h.L ad s) (h.K ad s):=by
  refine Agj λx ih j h hg s hf hI hm ad=>?_
  have hq:=ZZ hst hg
  rw [lG] at hq
  have H':∀j' h',hs[j']? =some h'→∀s',Dy h'.kd s'=true→(Inv j' s'∧lx (ms j' s') (ms j s))→∀ad',SW D P f R B fn.ntmps E G h'.tds (h'.L ad' s') (h'.K ad' s'):= λj' h' hg' s' hf' hI' ad'=>ih _ (by rw [←hm];exact hI'.2) j' h' hg' s' hf' hI'.1 rfl ad'
  unfold Akf at hq
  split at hq
  ·obtain ⟨W,hW1,hW2⟩:=hq.at s hf hI
   exact Afv D hT hfn hmix hlf hc H' (hW1 ad) hW2
  ·rename_i k of j2 _
   split at hq
   ·rename_i h2 hg2
    obtain ⟨st,hk0,hq⟩:=hq.at s hf hI
    refine Bx.VT D hb k (hk0 ad) λo' ad2 y e hfy hRy=>?_
    injection e with e;subst e
    obtain ⟨W,hW1,hW2⟩:=hq.at y hfy hRy
    have e:=hW1 ad ad2
    simp only [iO] at e
    refine Qb D (hs:=[h2]) (OE hc hg2) e.2.1 e.2.2 (by rw [e.1];exact hW2) λj' h' hg' s' hf' hI' ad'=>?_
    cases j' with
    |zero=>simp at hg';subst hg';exact H' j2 _ hg2 s' hf' hI' ad'
    |succ j'=>simp at hg'
   ·exact hq.elim
  ·rename_i j2 _
   split at hq
   ·rename_i h2 hg2
    obtain ⟨st,W,hR,hW1,hW2⟩:=hq.at s hf hI
    have e:=hW1 ad
    simp only [iO] at e
    refine Bx.Ags D hb (o:=o) (ad:=ad) (y:=s.take (KT b.l)) (rest:=(h.K ad s).drop (1+EP b.l)) (s:=st) (by rw [←e.1,List.take_append_drop]) e.2.1 e.2.2.1 hR ?_
    refine Qb D (hs:=[h2]) (OE hc hg2) e.2.2.2.2.1 e.2.2.2.2.2 (by rw [e.2.2.2.1];exact hW2) λj' h' hg' s' hf' hI' ad'=>?_
    cases j' with
    |zero=>simp at hg';subst hg';exact H' j2 _ hg2 s' hf' hI' ad'
    |succ j'=>simp at hg'
   ·exact hq.elim
 exact λj h hg s hf hI ad=>loop _ j h hg s hf hI rfl ad
end
def Bx.y (b:Bx σ wr) (v:Value) (p:Pr) (K:List (Chunk σ)):Dc σ:=(Sh.box b.t b.l).dc K v p
def Bx.y0 (b:Bx σ wr) (o:Nat) (K:List (Chunk σ)):Dc σ:=b.y (.pointer (some ⟨o,0,none⟩)) (.pt 0 (.cell 0)) K
def Bx.yK (b:Bx σ wr) (o:Nat) (y:Dc σ):List (Chunk σ):=b.bk o (G7 y.ad.tail) 1 y.cs
section
variable (c:Ct σ) (b:Bx σ wr) (o:Nat) (cs:List (Cm σ)) (v:Value) (p:Pr) (K:List (Chunk σ))
def Ct.opR:Ty c.rs.kd:=Y5 c.rs.kd (c.rs.dc K v p).cs
def Ct.opM:List (Mk σ):=c.rs.mks (JB c.rs.kd (c.opR v p K))
def Ct.opIs:List Nat:=Jz 0 ((b.y0 o K).is++(c.rs.dc K v p).is)
def Ct.opTm:List (Chunk σ):=b.yK o (b.y0 o K)++jA Yv (c.opM v p K) (c.retAnc v p K)
def Ct.opl:Ob σ:=⟨[],v,[],Acj K (c.opIs b o v p K) (c.opTm b o v p K)⟩
def Ct.opr:Ob σ:=⟨[],c.rs.out (JB c.rs.kd (c.opR v p K)) (jA Ace (c.opM v p K) (c.retAnc v p K)),[],Ack (c.opTm b o v p K)⟩
def Ct.opb:Bool:=nodupB (c.opIs b o v p K)&&LM (c.opM v p K) (c.retAnc v p K)&&iJ (c.opIs b o v p K).length (c.opTm b o v p K).length&&Dy (Ib b.l) (b.y0 o K).cs
def NW (R:Ty c.RK→Prop) (O:List (Cm σ)→Ty c.rs.kd→Prop):Lf σ:=
 ⟨λv p K=>match Un K with|true=>R (c.retR v p K)|false=>O (b.y0 o K).cs (c.opR v p K), λv p K=>bif Un K then c.roL ⟨o,0,none⟩ cs v p K else c.opl b o v p K,
   λv p K=>bif Un K then c.roR ⟨o,0,none⟩ cs v p K else c.opr b o v p K, λv p K=>bif Un K then c.rob_ ⟨o,0,none⟩ cs v p K else c.opb b o v p K⟩
def Ap1:Ob σ:=⟨[],v,[],Acj K (Jz 0 (b.y v p K).is) (b.yK (G7 (b.y v p K).ad 0).b (b.y v p K))⟩
def Ap2:Ob σ:=⟨[], .pointer (some ⟨(G7 (b.y v p K).ad 0).b,0,none⟩),[],Ack (b.yK (G7 (b.y v p K).ad 0).b (b.y v p K))⟩
def Ap3:Bool:=nodupB (Jz 0 (b.y v p K).is)&&iJ (Jz 0 (b.y v p K).is).length (b.yK (G7 (b.y v p K).ad 0).b (b.y v p K)).length&&Dy (Ib b.l) (b.y v p K).cs
def VU (O:List (Cm σ)→Prop):Lf σ:=⟨λv p K=>O (b.y v p K).cs,Ap1 b,Ap2 b,Ap3 b⟩
end
def Ct.parts (c:Ct σ) (o:Nat) (cs:List (Cm σ)) (r:Ty c.RK):(List Value→Value)×List (Mk σ)×List (Chunk σ):=(c.outC r,c.mksC r,c.nwC ⟨o,0,none⟩ cs r)
theorem Al1 {b:Bx σ wr} (hb:b.Is D) {c:Ct σ} {o:Nat} {cs:List (Cm σ)} {r:Ty c.RK} {s1:wr.τ} {rr:Ty c.rs.kd} (hp:c.parts o cs r=(c.rs.out (JB c.rs.kd rr),c.rs.mks (JB c.rs.kd rr),[.obj ⟨o,0,none⟩ (wr.inj s1)])) {E:Ev} {G:Hp}:
 (NW c b o cs (λx=>x=r) λy x=>b.R s1 y∧x=rr).Ok D E G (Post D E G (c.outC r) (c.nwC ⟨o,0,none⟩ cs r) (c.mksC r)):=by
 intro v p K w hl hbb hQ hS
 simp only [NW] at hl hbb hQ
 cases h0:Un K with
 |true=>
  rw [h0] at hl hbb hQ
  simp only [cond_true] at hl hbb hQ
  have:=Ct.ZH hl hbb
  rw [hQ] at this
  exact this.post D hS
 |false=>
  rw [h0] at hl hbb hQ
  simp only [cond_false] at hl hbb hQ
  simp only [Ct.parts,iO] at hp
  rw [hp.1,hp.2.1,hp.2.2]
  simp only [Ct.opb,iG] at hbb
  simp only [Ct.opl,Ct.opr,Ob.mk.injEq] at hl
  rw [←hQ.2]
  exact Bx.post D hb (p:=p) hbb.2 hQ.1 ⟨c.retAnc v p K,c.opIs b o v p K,Jn hbb.1.1.1,hbb.1.1.2,hl.2.1,ZU hl.2.2.2 hbb.1.2⟩ hS
theorem AmX {b:Bx σ wr} (hb:b.Is D) {c:Ct σ} {s1:wr.τ} {r:Ty c.RK} (h1:∀x,c.outC r [x]=x) (h2:c.mksC r=[.obj (wr.inj s1)]) {E:Ev} {G:Hp}:(VU b λy=>b.R s1 y).Ok D E G (Post D E G (c.outC r) [] (c.mksC r)):=by
 intro v p K w hl hbb hQ hS
 simp only [VU,Ap1,Ap2,Ob.mk.injEq] at hl
 simp only [VU,Ap3,iG] at hbb
 rw [h2]
 have hg:=ZU hl.2.2.2 hbb.1.2
 exact Bx.AmW D hb (o:=(G7 (b.y v p K).ad 0).b) (ad:=G7 (b.y v p K).ad.tail) (p:=p) hbb.2 hQ ⟨[],Jz 0 (b.y v p K).is,Jn hbb.1.1,rfl,hl.2.1,by simpa [Bx.yK] using hg⟩ hS h1
theorem E8.imp:∀{ks:List (Kd σ)} {p q:List (Cm σ)→Prop},(∀cs,p cs→q cs)→E8 ks p→E8 ks q
 |[],_,_,h,hp=>h [] hp
 |_::_,_,_,h,hp=> λa=>E8.imp (λcs=>h _) (hp a)
def Ct.sL (c:Ct σ) (p:Addr) (cs:List (Cm σ)) (ad:Nat→Ad):List Aj:=Eg 0 (Je (DL (OC p ad) c.full 0 0 cs))
def Ct.sK (c:Ct σ) (p:Addr) (cs:List (Cm σ)) (ad:Nat→Ad):List (Chunk σ):=Gp (DL (OC p ad) c.full 0 0 cs)
theorem EX {c:Ct σ} {b:Bx σ wr} (hb:b.Is D) (beg:Bool) {P:Program} {T:List (Nat×Entry σ)} (hT:Cb D P T) {I:List Nat} {f:FuncId} {fn:Func} {B:Code} (hfn:P.funcs[f]? =some fn) (hmix:P.follows .mixedOrders=true) (hB:fn.body=some B)
 (ha:I4 c.ash=true) (hl:jT c.full.length fn.ntmps=true) {F:JX c.AK (Ty c.RK)} {pre:JX c.AK (List Prop)} (fuel:Nat)
 (H:∀o:Nat,E8 c.AK λcs=>WS c.full cs→(∀p∈Ak c.AK pre cs,p)→∃(s0 s1:wr.τ) (rr:Ty c.rs.kd) (hs:List (Hd σ)) (hk:List Hop) (Inv:Nat→List (Cm σ)→Prop) (ms:Nat→List (Cm σ)→Nat×Nat×Nat),hcode B hs=G8 B hs∧
   (∀p ad,(c.sK p cs ad)[0]? =some (.obj p (wr.inj s0)))∧
   c.parts o cs (Ak c.AK F cs)=(c.rs.out (JB c.rs.kd rr),c.rs.mks (JB c.rs.kd rr),[.obj ⟨o,0,none⟩ (wr.inj s1)])∧
   (match beg with
     |false=>∃W:Prop,(∀ad β γ,(NW c b o cs (λx=>x=Ak c.AK F cs) λy x=>b.R s1 y∧x=rr).lhs hs Inv (run P T I fuel B fn.results.toList fn.ntmps [.code []] (c.sL ⟨o,0,none⟩ cs ad) (c.sK ⟨o,0,none⟩ cs ad)) β γ=
       (NW c b o cs (λx=>x=Ak c.AK F cs) λy x=>b.R s1 y∧x=rr).rhs hs (run P T I fuel B fn.results.toList fn.ntmps [.code []] (c.sL ⟨o,0,none⟩ cs ad) (c.sK ⟨o,0,none⟩ cs ad)) W β γ)∧W
     |true=>E8 (Ib b.l) λy=>b.R s0 y→∃W:Prop,(∀ad ad2 β γ,(NW c b o cs (λx=>x=Ak c.AK F cs) λy x=>b.R s1 y∧x=rr).lhs hs Inv (run P T I fuel B fn.results.toList fn.ntmps [.code []] (J9 0 (c.sL ⟨o,0,none⟩ cs ad)) (b.opK 0 o ad2 y (c.sK ⟨o,0,none⟩ cs ad))) β γ=
       (NW c b o cs (λx=>x=Ak c.AK F cs) λy x=>b.R s1 y∧x=rr).rhs hs (run P T I fuel B fn.results.toList fn.ntmps [.code []] (J9 0 (c.sL ⟨o,0,none⟩ cs ad)) (b.opK 0 o ad2 y (c.sK ⟨o,0,none⟩ cs ad))) W β γ)∧W)∧
   Uo b P T I fuel fn B o (NW c b o cs (λx=>x=Ak c.AK F cs) λy x=>b.R s1 y∧x=rr) hs hk Inv ms hs 0):Fv D P f (CP c F pre):=by
 refine Qa D (mk:=[]) hT (I:=I) hfn hmix hB ha hl 0 λp0=>?_
 by_cases hp:∃o,p0=⟨o,0,none⟩
 ·obtain ⟨o,rfl⟩:=hp
  refine E8.imp (λcs hH hbd hpre ad E G=>?_) (H o)
  obtain ⟨s0,s1,rr,hs,hk,Inv,ms,hc,h0,hpt,hbg,hst⟩:=hH hbd hpre
  have hlf:=Al1 D hb hpt (E:=E) (G:=G)
  have loop:=Agt D hb hT hfn hmix hlf hc hst
  show SW D P f _ B fn.ntmps E G [.code []] (c.sL ⟨o,0,none⟩ cs ad) (c.sK ⟨o,0,none⟩ cs ad)
  cases beg with
  |false=>
   obtain ⟨W,hW1,hW2⟩:=hbg
   exact Afv D hT hfn hmix hlf hc loop (hW1 ad) hW2
  |true=>
   refine Bx.VT D hb 0 (h0 ⟨o,0,none⟩ ad) λo' ad2 y e hfy hRy=>?_
   injection e with e;subst e
   obtain ⟨W,hW1,hW2⟩:=hbg.at y hfy hRy
   exact Afv D hT hfn hmix hlf hc loop (hW1 ad ad2) hW2
 ·refine E8.imp (λcs hH hbd hpre ad E G=>?_) (H 0)
  obtain ⟨s0,s1,rr,hs,hk,Inv,ms,hc,h0,hpt,hbg,hst⟩:=hH hbd hpre
  show SW D P f _ B fn.ntmps E G [.code []] (c.sL p0 cs ad) (c.sK p0 cs ad)
  exact Bx.addr D hb 0 (h0 p0 ad) λo e=>absurd ⟨o,e⟩ hp
theorem Al2 {c:Ct σ} {b:Bx σ wr} (hb:b.Is D) {P:Program} {T:List (Nat×Entry σ)} (hT:Cb D P T) {I:List Nat} {f:FuncId} {fn:Func} {B:Code} (hfn:P.funcs[f]? =some fn) (hmix:P.follows .mixedOrders=true) (hB:fn.body=some B)
 (ha:I4 c.ash=true) (hl:jT c.full.length fn.ntmps=true) {F:JX c.AK (Ty c.RK)} {pre:JX c.AK (List Prop)} (fuel:Nat)
 (H:∀p0:Addr,E8 c.AK λcs=>WS c.full cs→(∀p∈Ak c.AK pre cs,p)→∃(s1:wr.τ) (hs:List (Hd σ)) (hk:List Hop) (Inv:Nat→List (Cm σ)→Prop) (ms:Nat→List (Cm σ)→Nat×Nat×Nat),hcode B hs=G8 B hs∧
   (∀x,c.outC (Ak c.AK F cs) [x]=x)∧c.mksC (Ak c.AK F cs)=[.obj (wr.inj s1)]∧c.nwC p0 cs (Ak c.AK F cs)=[]∧
   (∃W:Prop,(∀ad β γ,(VU b λy=>b.R s1 y).lhs hs Inv (run P T I fuel B fn.results.toList fn.ntmps [.code []] (c.sL p0 cs ad) (c.sK p0 cs ad)) β γ=
     (VU b λy=>b.R s1 y).rhs hs (run P T I fuel B fn.results.toList fn.ntmps [.code []] (c.sL p0 cs ad) (c.sK p0 cs ad)) W β γ)∧W)∧
   Uo b P T I fuel fn B 0 (VU b λy=>b.R s1 y) hs hk Inv ms hs 0):Fv D P f (CP c F pre):=by
 refine Qa D (mk:=[]) hT (I:=I) hfn hmix hB ha hl 0 λp0=>?_
 refine E8.imp (λcs hH hbd hpre ad E G=>?_) (H p0)
 obtain ⟨s1,hs,hk,Inv,ms,hc,h1,h2,h3,⟨W,hW1,hW2⟩,hst⟩:=hH hbd hpre
 have hlf:=AmX D hb h1 h2 (E:=E) (G:=G)
 have loop:=Agt D hb hT hfn hmix hlf hc hst
 rw [h3]
 exact Afv D hT hfn hmix hlf hc loop (hW1 ad) hW2
theorem Al3 {c:Ct σ} {P:Program} {T:List (Nat×Entry σ)} (hT:Cb D P T) {I:List Nat} {f:FuncId} {fn:Func} {B:Code} (hfn:P.funcs[f]? =some fn) (hmix:P.follows .mixedOrders=true) (hB:fn.body=some B)
 (ha:I4 c.ash=true) (hl:jT c.full.length fn.ntmps=true) {F:JX c.AK (Ty c.RK)} {pre:JX c.AK (List Prop)} (fuel:Nat)
 (H:∀p0,E8 c.AK λcs=>WS c.full cs→(∀p∈Ak c.AK pre cs,p)→∃W:Prop,(∀ad β γ,c.lhsW p0 cs [] (λr=>r=Ak c.AK F cs) (λ_ _=>False) (c.tree P T I fuel fn B p0 cs ad) β γ=c.rhsW p0 cs [] (c.tree P T I fuel fn B p0 cs ad) W β γ)∧W):Fv D P f (CP c F pre):=
 MC D hT (I:=I) hfn hmix hB ha hl fuel λp0=>E8.imp (λ_ h hb hp=>⟨[], λ_ _=>False, λ_ _=>(0,0,0),rfl,h hb hp,trivial⟩) (H p0)
end
section
open Go.RowKit
variable {σ:Type}
structure BxP (σ:Type):Type 1 where
 wr:Wr σ
 b:Bx σ wr
inductive Ap4 (σ:Type):Type 1 where
 |run
 |opn (b:BxP σ) (k:Nat) (o:(Nat→Ad)→Nat) (j:Nat)
 |cls (b:BxP σ) (o:(Nat→Ad)→Nat) (a:(Nat→Ad)→Nat→Ad) (j:Nat)
variable (D:Addr→σ→Dl)
section
variable (c:Ct σ) (P:Program) (T:List (Nat×Entry σ)) (I:List Nat) (fuel:Nat) (fn:Func) (B:Code) (p0:Addr) (cs:List (Cm σ)) (hs:List (Hd σ)) (hk:List (Ap4 σ)) (r0:Ty c.RK) (Inv:Nat→List (Cm σ)→Prop) (ms:Nat→List (Cm σ)→Nat×Nat×Nat)
def stepG (j:Nat) (h:Hd σ):Prop:=
 match hk.getD j .run with
 | .run=>E8 h.kd λx=>Inv j x→∃W:Prop,(∀ad β γ,c.lhsW p0 cs hs (λr=>r=r0) (λj' x'=>Inv j' x'∧lx (ms j' x') (ms j x)) (run P T (h.stp I) fuel B fn.results.toList fn.ntmps h.tds (h.L ad x) (h.K ad x)) β γ=
    c.rhsW p0 cs hs (run P T (h.stp I) fuel B fn.results.toList fn.ntmps h.tds (h.L ad x) (h.K ad x)) W β γ)∧W
 | .opn b k of j2=>b.b.Is D∧match hs[j2]? with
   |some h2=>E8 h.kd λx=>Inv j x→∃s:b.wr.τ,(∀ad,(h.K ad x)[k]? =some (.obj ⟨of ad,0,none⟩ (b.wr.inj s)))∧E8 (Ib b.b.l) λy=>b.b.R s y→∃W:Prop,(∀ad ad2,(OD [h2] (λ_ x'=>Inv j2 x'∧lx (ms j2 x') (ms j x)) h.tds (J9 k (h.L ad x)) (b.b.opK k (of ad) ad2 y (h.K ad x)),KI [h2] h.tds (J9 k (h.L ad x)) (b.b.opK k (of ad) ad2 y (h.K ad x)),NV [h2] h.tds (J9 k (h.L ad x)) (b.b.opK k (of ad) ad2 y (h.K ad x)))=
     (W,KJ [h2] h.tds (J9 k (h.L ad x)) (b.b.opK k (of ad) ad2 y (h.K ad x)),true))∧W
   |none=>False
 | .cls b of af j2=>b.b.Is D∧match hs[j2]? with
   |some h2=>E8 h.kd λx=>Inv j x→∃(s:b.wr.τ) (W:Prop),b.b.R s (x.take (KT b.b.l))∧(∀ad,((h.K ad x).take (1+EP b.b.l),KL (EP b.b.l) ((h.K ad x).drop (1+EP b.b.l)),Dy (Ib b.b.l) (x.take (KT b.b.l)),OD [h2] (λ_ x'=>Inv j2 x'∧lx (ms j2 x') (ms j x)) h.tds (KU 0 (jJ 1 (EP b.b.l)) (h.L ad x)) ((E5 (h.K ad x) .dead (jJ 1 (EP b.b.l))).set 0 (.obj ⟨of ad,0,none⟩ (b.wr.inj s))),KI [h2] h.tds (KU 0 (jJ 1 (EP b.b.l)) (h.L ad x)) ((E5 (h.K ad x) .dead (jJ 1 (EP b.b.l))).set 0 (.obj ⟨of ad,0,none⟩ (b.wr.inj s))),NV [h2] h.tds (KU 0 (jJ 1 (EP b.b.l)) (h.L ad x)) ((E5 (h.K ad x) .dead (jJ 1 (EP b.b.l))).set 0 (.obj ⟨of ad,0,none⟩ (b.wr.inj s))))=
     (b.b.bk (of ad) (af ad) 1 (x.take (KT b.b.l)),true,true,W,KJ [h2] h.tds (KU 0 (jJ 1 (EP b.b.l)) (h.L ad x)) ((E5 (h.K ad x) .dead (jJ 1 (EP b.b.l))).set 0 (.obj ⟨of ad,0,none⟩ (b.wr.inj s))),true))∧W
   |none=>False
end
section
variable {c:Ct σ} {P:Program} {T:List (Nat×Entry σ)} {I:List Nat} {fuel:Nat} {fn:Func} {B:Code} {p0:Addr} {cs:List (Cm σ)} {hs:List (Hd σ)} {hk:List (Ap4 σ)} {r0:Ty c.RK} {Inv:Nat→List (Cm σ)→Prop} {ms:Nat→List (Cm σ)→Nat×Nat×Nat} {f:FuncId} {R:Ending→World→Prop} {E:Ev} {G:Hp}
end
end
end Go.Sl
namespace Go.Proofs.Ytdjfnbbmfmjckaa
section
open Go.Sl
structure MS where
 t:Int
 p:Int
 h:Int
 l:List (Int×Int)
 r0:Int
 r1:Int
 r2:Int
 r3:Int
 r4:Int
 r5:Int
 r6:Int
 r7:Int
structure RX where
 t:Int
 p:Int
 h:Int
 n:Nat
 a:LI
 z:LI
 r0:Int
 r1:Int
 r2:Int
 r3:Int
 r4:Int
 r5:Int
 r6:Int
 r7:Int
structure RS where
 t:Int
 p:Int
 h:Int
 a:LI
 z:LI
 r0:Int
 r1:Int
 r2:Int
 r3:Int
 r4:Int
 r5:Int
 r6:Int
 r7:Int
inductive Sg where
 |mod (s:MS)
 |rf (s:RS)
 |any (A:List (LI)→Dl) (st:List (LI))
abbrev cX (cs:List (Cm Sg)) (i:Nat):Cm Sg:=cs.getD i (.b false)
def MS.of (cs:List (Cm Sg)):MS:=⟨(cX cs 0).iOf,(cX cs 1).iOf,(cX cs 2).iOf,(cX cs 3).blOf,(cX cs 4).iOf,(cX cs 5).iOf,(cX cs 6).iOf,(cX cs 7).iOf,(cX cs 8).iOf,(cX cs 9).iOf,(cX cs 10).iOf,(cX cs 11).iOf⟩
def RX.of (cs:List (Cm Sg)):RX:=⟨(cX cs 0).iOf,(cX cs 1).iOf,(cX cs 2).iOf,(cX cs 3).nOf,(cX cs 4).liOf,(cX cs 5).liOf,(cX cs 6).iOf,(cX cs 7).iOf,(cX cs 8).iOf,(cX cs 9).iOf,(cX cs 10).iOf,(cX cs 11).iOf,(cX cs 12).iOf,(cX cs 13).iOf⟩
def CB (x s:MS):Prop:=x=s
structure BI (x:RX) (s:RS):Prop where
 n:x.n=x.a.length
 z:x.z.length=x.a.length
 eq:s=⟨x.t,x.p,x.h,x.a,x.z,x.r0,x.r1,x.r2,x.r3,x.r4,x.r5,x.r6,x.r7⟩
def MS.nil:MS:=⟨0,0,0,[],0,0,0,0,0,0,0,0⟩
def RS.nil:RS:=⟨0,0,0,[],[],0,0,0,0,0,0,0,0⟩
def D5:Wr Sg:=⟨MS, .mod, λ
 | .mod s=>s
 |_=>MS.nil, λ
 | .mod _=>true
 |_=>false,MS.nil, λs h=>by cases s<;>first|rfl|cases h⟩
def Dq:Bx Sg D5:=⟨60,[.i .i64, .i .i64, .i .i64, .bm, .i .i64, .i .i64, .i .i64, .i .i64, .i .i64, .i .i64, .i .i64, .i .i64], λs y=>CB (MS.of y) s⟩
def RP:Bx Sg D5:=⟨60,[.i .i64, .i .i64, .i .i64, .bmi, .i .i64, .i .i64, .i .i64, .i .i64, .i .i64, .i .i64, .i .i64, .i .i64], λs y=>CB (MS.of y) s⟩
def D7:Wr Sg:=⟨RS, .rf, λ
 | .rf s=>s
 |_=>RS.nil, λ
 | .rf _=>true
 |_=>false,RS.nil, λs h=>by cases s<;>first|rfl|cases h⟩
def BL:Bx Sg D7:=⟨47,[.i .i64, .i .i64, .i .i64, .own 55 [some .i64,some .i64], .i .i64, .i .i64, .i .i64, .i .i64, .i .i64, .i .i64, .i .i64, .i .i64], λs y=>BI (RX.of y) s⟩
def Dg (p:Addr):Sg→Dl
 | .mod s=>Dq.A s p
 | .rf s=>BL.A s p
 | .any A st=>A st
theorem Gx:Dq.Is Dg:=⟨rfl, λ_ _=>rfl⟩
theorem I5:BL.Is Dg:=⟨rfl, λ_ _=>rfl⟩
theorem mix:Try.prog.follows .mixedOrders=true:=by kernel_rfl
abbrev Tb:=List (Nat×Entry Sg)
abbrev DU (T:Tb):Prop:=Cb Dg Try.prog T
abbrev DZ (n:Nat) (e:Entry Sg):Prop:=Fv Dg Try.prog n e
theorem Ej {n:Nat} {e:Entry Sg} {T:Tb} (h:DZ n e) (h2:DU T):DU ((n,e)::T):=Cb.cons Dg h h2
def II:List (Nat×Entry Sg):=[]
theorem EY:Cb Dg Try.prog II:=Cb.nil Dg _
end
end Go.Proofs.Ytdjfnbbmfmjckaa
namespace Go.Sl
section
open Go.RowKit
def QY (fn:FuncId) (tmps:Array Value) (ps:Array Tmp) (assign body:Code) (D:Nat) (st:LoopState) (pe:Option Code):Loop:=
 {state:=st,pending:=pe,fn,tmps,params:=ps,assign,body,defers:=D}
def mark (D:Nat):Deferred:={target:= .collected D,args:= #[]}
def J3 (w:World) (fn:FuncId) (tmps:Array Value) (ps:Array Tmp) (assign body:Code):World:=
 (w.alloc (.deferred (some []))).alloc (.loop (QY fn tmps ps assign body w.heap.size .ready none))
section
variable {P:Program} {f:Fq} {R:Ending→World→Prop} {k:List Item} {a:Act} {w:World}
theorem WT.rangeFunc {g:Operand} {ps:Array Tmp} {assign body:Code} {gf:Nat} {lb:Array Value} (hro:f.ro=none) (hg:a.eval g= .func (.func gf) #[] lb) (eg:∀args w,(callFunc gf args).run P w= .ok (.enter gf args) w)
 (h:Calls P gf (#[.func (.yield (w.heap.size+1)) #[] #[]]++lb) (J3 w f.id a.tmps ps assign body) λe w3=>(∃v,e= .returned v)∧∃jump w4,(Instr.endLoop (w.heap.size+1)).run P w3= .ok jump w4∧
   WT P {f with df:=mark w.heap.size::f.df} R ((jump.map Item.code).toList++k) a w4):
 WT P f R (.code (.rangeFunc g ps assign body)::k) a w:= λcs hcs=>by
 have hb:(EC f).roundOf=none:=hro
 have he:(Instr.enterLoop (EC f).fn (f.act a).tmps ps assign body (EC f).roundOf).run P w= .ok (w.heap.size+1,[mark w.heap.size]) (J3 w f.id a.tmps ps assign body):=by
  rw [hb];exact run_enterLoop_outer _ _ _ _ _
 have hres:(resolve (f.act a).eval (rangeCall g (w.heap.size+1)) 0).run P (J3 w f.id a.tmps ps assign body)= .ok {target:= .fn (.func gf) lb,args:= #[.func (.yield (w.heap.size+1)) #[] #[]]} (J3 w f.id a.tmps ps assign body):=by
  simp only [resolve,Fq.NJ,hg]
  simp [go_sem]
 have hinv:(invoke (Target.fn (.func gf) lb) #[.func (.yield (w.heap.size+1)) #[] #[]]).run P (J3 w f.id a.tmps ps assign body)= .ok (.enter gf (#[.func (.yield (w.heap.size+1)) #[] #[]]++lb)) (J3 w f.id a.tmps ps assign body):=by
  simp [invoke,go_sem,eg]
 have henter:=stepR_rangeFunc (P:=P) (b:=EC f) (a:=f.act a) (k:=k) (cs:=cs) (w:=w) he hres hinv
 obtain ⟨e,w3,fr,⟨⟨v,rfl⟩,jump,w4,hend,hW⟩,hsteps,_,hleave⟩:=h ((EC f).atR {f.act a with defers:=[mark w.heap.size]++(f.act a).defers} (.inRangeFunc (w.heap.size+1)::k)::cs)
 have s1:=step_leave_returned (c:=(EC f).atR {f.act a with defers:=[mark w.heap.size]++(f.act a).defers} (.inRangeFunc (w.heap.size+1)::k)) (cs:=cs) hleave
 rw [finish_atR_inRangeFunc] at s1
 have s2:=stepR_endRangeFunc (P:=P) (b:=EC f) (a:={f.act a with defers:=[mark w.heap.size]++(f.act a).defers}) (k:=k) (cs:=cs) hend
 obtain ⟨e2,w5,S,h1,h2,h3⟩:=hW cs hcs
 exact ⟨e2,w5,S,h1,Comes.of_steps (.head henter (Steps.trans hsteps (.head s1 (.one s2)))) h2,h3⟩
theorem WT.Aiv {l:Nat} {w':World} (hro:f.ro=some l) (hr:(Instr.beginRound l).run P w= .ok () w') (H:WT P f R k a w'):WT P f R (.beginRound::k) a w:=
 WT.step (λ_=>stepR_beginRound (b:=EC f) hro hr) H
theorem WT.Agu {l:Nat} {v:Value} {t:List Item} {w':World} (hro:f.ro=some l) (hs:∀c cs,Go.step P (lone ((EC f).atR (f.act a) t) (c::cs) w)= .next (lone (c.finish v) cs w')) (hR:R (.returned v) w'):WT P f R t a w:= λcs hcs=>by
 cases cs with
 |nil=>rcases hcs with h|h
       ·rw [hro] at h;cases h
       ·exact absurd rfl h
 |cons c cs=>
  refine ⟨.returned v,w',_,hR,Steps.one (hs c cs),?_⟩
  unfold Fq.fin
  rw [hro]
  exact ⟨v,c,cs,rfl,rfl,rfl⟩
theorem WT.Al4 {l:Nat} {v:Value} {w':World} (hro:f.ro=some l) (hr:(Instr.endRound l none).run P w= .ok v w') (hR:R (.returned v) w'):WT P f R [] a w:=
 WT.Agu hro (λ_ _=>stepR_round_end (b:=EC f) hro rfl hr) hR
theorem WT.Al5 {l:Nat} {v:Value} {w':World} (hro:f.ro=some l) (hr:(Instr.endRound l (some .ret)).run P w= .ok v w') (hR:R (.returned v) w'):WT P f R (.code .ret::k) a w:=
 WT.Agu hro (λ_ _=>stepR_round_ret (b:=EC f) hro rfl hr) hR
theorem Al6 {l:Nat} {fn:FuncId} {tmps:Array Value} {ps:Array Tmp} {assign body:Code} {D:Nat} {asv:Array Value} (h:w.heap[l]? =some (.loop (QY fn tmps ps assign body D .ready none))) (hs:asv.size=ps.size)
 (H:WT P ⟨fn,some l,[]⟩ R [.code assign, .beginRound, .code body] {tmps:=(ps.zip asv).foldl (λt (p,v)=>t.setIfInBounds p v) tmps,defers:=[]} w):PR P l asv w R:=
 ⟨fn,_,assign,body,run_yield h hs,H⟩
theorem WT.Akg {l:Nat} {r:Loop} (hro:f.ro=some l) (h:w.heap[l]? =some (.loop r)) (hr:r.state= .ready) (H:WT P f R k a (w.putObj l (.loop {r with state:= .busy}))):WT P f R (.beginRound::k) a w:=
 WT.Aiv hro (run_beginRound h hr) H
theorem WT.AmY {l:Nat} {r:Loop} (hro:f.ro=some l) (h:w.heap[l]? =some (.loop r)) (hR:R (.returned (.bool true)) (w.putObj l (.loop {r with state:= .ready,pending:=none}))):WT P f R [] a w:=
 WT.Al4 hro (run_endRound none h) hR
theorem WT.Al7 {l:Nat} {r:Loop} (hro:f.ro=some l) (h:w.heap[l]? =some (.loop r)) (hR:R (.returned (.bool false)) (w.putObj l (.loop {r with state:= .done,pending:=some .ret}))):WT P f R (.code .ret::k) a w:=
 WT.Al5 hro (run_endRound (some .ret) h) hR
theorem WT.finish_mark {fn:Func} {t:List Item} {v:Value} {D:Nat} {w':World} (hro:f.ro=none) (hdf:f.df=[mark D]) (hfn:P.funcs[f.id]? =some fn) (ht:t=[]∨∃k,t= .code .ret::k) (hd:a.defers=[])
 (hk:(Instr.takeDeferred D).run P w= .ok [] w') (hr:(results fn a.tmps).run P w'= .ok v w') (hR:R (.returned v) w'):WT P f R t a w:= λcs _=>by
 have hb:(EC f).roundOf=none:=hro
 have hfin:∀fr,fr.fn=f.id→fr.leaving P w' (.returned v)→f.fin P cs (lone fr cs w') (.returned v) w':= λfr h1 h2=>by
  unfold Fq.fin;rw [hro];exact ⟨fr,rfl,h1,h2⟩
 have hc:∀t,Go.step P (lone {(EC f).atR (f.act a) t with mode:= .returning} cs w)= .next (lone {(EC f).atR (f.act a) t with mode:= .returning,defers:=[]} cs w'):= λt=>
  step_collected (fr:={(EC f).atR (f.act a) t with mode:= .returning}) (by simp) (by show f.df++a.defers=_;rw [hdf,hd];rfl) rfl hk
 rcases ht with rfl|⟨k,rfl⟩
 ·exact ⟨.returned v,w',_,hR,Steps.head (stepR_end hb) (.one (hc _)),hfin _ rfl ⟨rfl,rfl,rfl,fn,hfn,hr⟩⟩
 ·exact ⟨.returned v,w',_,hR,Steps.head (stepR_ret hb) (.one (hc _)),hfin _ rfl ⟨rfl,rfl,rfl,fn,hfn,hr⟩⟩
end
end
section
open Go.RowKit
variable {σ:Type} (D:Addr→σ→Dl)
section
variable {P:Program} {R:Ending→World→Prop} {B:Code} {n:Nat} {E:Ev} {G:Hp} {td:List Ab} {L L':List Aj} {K K':List (Chunk σ)}
theorem Af.putObj {w:World} {j l:Nat} {q:Addr} {s s':σ} {x y:Obj} (hS:Af D E G w K) (hj:K[j]? =some (.obj q s)) (hd:D q s=pt l x) (hd':D q s'=pt l y):Af D E G (w.putObj l y) (K.set j (.obj q s')):=by
 have hi:(K.map (den D G))[j]? =some (pt l x):=by rw [iL,hj];simp only [iR,den,hd]
 have hl:=Sat.pt hS hi
 have hlt:=lt_of_heap hl
 have:=Sat.write hS hi (w':=w.putObj l y) (A':=pt l y) ⟨rfl,rfl,rfl⟩ World.putObj_size (λc hc=>World.putObj_heap_other hc) (λY k hk=>by unfold Sl.pt;rw [hk];exact World.putObj_heap_same hlt)
 unfold Af
 rw [jU]
 simp only [den,hd']
 exact this
theorem Bj.setObj {j:Nat} {q:Addr} {s s':σ} (hj:K[j]? =some (.obj q s)):Bj K (K.set j (.obj q s')):=Bj.set hj λv pk h=>by cases pk<;>first|exact h|exact h.elim
theorem DC.setObj {j:Nat} {q:Addr} {s s':σ} (hk:DC K) (hj:K[j]? =some (.obj q s)):DC (K.set j (.obj q s')):=hk.set hj (λv pk h=>by cases pk<;>first|exact h|exact h.elim) λ_ _ _ h=>by cases h
theorem Af.objPt {w:World} {j l:Nat} {q:Addr} {s:σ} {x:Obj} (hS:Af D E G w K) (hj:K[j]? =some (.obj q s)) (hd:D q s=pt l x):w.heap[l]? =some x:=
 Sat.pt hS (i:=j) (by rw [iL,hj];simp only [iR,den,hd])
theorem SW.busy {f:Fq} {l j:Nat} {q:Addr} {s s':σ} {r:Loop} (hro:f.ro=some l) (hj:K[j]? =some (.obj q s)) (hd:D q s=pt l (.loop r)) (hr:r.state= .ready) (hd':D q s'=pt l (.loop {r with state:= .busy}))
 (H:SW D P f R B n E G td L (K.set j (.obj q s'))):SW D P f R B n E G (.raw .beginRound::td) L K:= λa w hF hS=>
 WT.Akg hro (hS.objPt D hj hd) hr (H a _ (hF.ext (Bj.setObj hj) (hF.kok.setObj hj)) (hS.putObj D hj hd hd'))
theorem SW.on {f:Fq} {l j:Nat} {q:Addr} {s s':σ} {r:Loop} (hro:f.ro=some l) (hj:K[j]? =some (.obj q s)) (hd:D q s=pt l (.loop r)) (hd':D q s'=pt l (.loop {r with state:= .ready,pending:=none}))
 (H:∀w',DC (K.set j (.obj q s'))→Af D E G w' (K.set j (.obj q s'))→R (.returned (.bool true)) w'):SW D P f R B n E G [] L K:= λ_ _ hF hS=>
 WT.AmY hro (hS.objPt D hj hd) (H _ (hF.kok.setObj hj) (hS.putObj D hj hd hd'))
theorem SW.off {f:Fq} {l j:Nat} {q:Addr} {s s':σ} {r:Loop} {q0:List Nat} (hro:f.ro=some l) (hc:Sl.sub B q0= .ret) (hj:K[j]? =some (.obj q s)) (hd:D q s=pt l (.loop r)) (hd':D q s'=pt l (.loop {r with state:= .done,pending:=some .ret}))
 (H:∀w',DC (K.set j (.obj q s'))→Af D E G w' (K.set j (.obj q s'))→R (.returned (.bool false)) w'):SW D P f R B n E G (.code q0::td) L K:= λa w hF hS=>by
 show WT P f R (.code (Sl.sub B q0)::td.map (item B)) a w
 rw [hc]
 exact WT.Al7 hro (hS.objPt D hj hd) (H _ (hF.kok.setObj hj) (hS.putObj D hj hd hd'))
theorem SW.rangeFunc {f:FuncId} {p:List Nat} {t gf:Nat} {ps:Array Tmp} {lb:Array Value} {pr:Pr} (hc:Sl.sub B p= .rangeFunc (.tmp t) ps (Sl.sub B (0::p)) (Sl.sub B (1::p))) (hL:(⟨t,none, .func (.func gf) #[] lb,pr⟩:Aj)∈L)
 (eg:∀args w,(callFunc gf args).run P w= .ok (.enter gf args) w)
 (H:∀a w,Fr n L K a→Sat E G (J3 w f a.tmps ps (Sl.sub B (0::p)) (Sl.sub B (1::p))) (K.map (den D G)++[pt w.heap.size (.deferred (some [])),pt (w.heap.size+1) (.loop (QY f a.tmps ps (Sl.sub B (0::p)) (Sl.sub B (1::p)) w.heap.size .ready none))])→
   Calls P gf (#[.func (.yield (w.heap.size+1)) #[] #[]]++lb) (J3 w f a.tmps ps (Sl.sub B (0::p)) (Sl.sub B (1::p))) λe w3=>(∃v,e= .returned v)∧∃r w4,w3.heap[w.heap.size+1]? =some (.loop r)∧r.state≠ .busy∧w4=w3.putObj (w.heap.size+1) (.loop {r with state:= .exhausted})∧
    WT P ⟨f,none,[mark w.heap.size]⟩ R ((r.pending.map Item.code).toList++td.map (item B)) a w4):
 SW D P f R B n E G (.code p::td) L K:= λa w hF hS=>by
 show WT P (f:Fq) R (.code (Sl.sub B p)::td.map (item B)) a w
 rw [hc]
 have hv:=hF.ents _ hL trivial
 refine WT.rangeFunc (f:=(f:Fq)) rfl (lb:=lb) hv.1 eg ?_
 have h1:=Sat.alloc (Sat.alloc hS (.deferred (some []))) (.loop (QY f a.tmps ps (Sl.sub B (0::p)) (Sl.sub B (1::p)) w.heap.size .ready none))
 rw [jP] at h1
 have hsz:(w.alloc (.deferred (some []))).heap.size=w.heap.size+1:=by simp
 rw [hsz] at h1
 refine (H a w hF h1).mono λe w3 ⟨hv,r,w4,h2,h3,h4,h5⟩=>⟨hv,r.pending,w4,?_,h5⟩
 rw [h4]
 exact run_endLoop h2 h3
theorem SW.finish_mark {f:Fq} {fn:Func} {Dm j:Nat} {q:Addr} {s s':σ} {vs:List (Value×Pr)} (hro:f.ro=none) (hdf:f.df=[mark Dm]) (hfn:P.funcs[f.id]? =some fn) (ht:td.map (item B)=[]∨∃k,td.map (item B)= .code .ret::k)
 (hj:K[j]? =some (.obj q s)) (hd:D q s=pt Dm (.deferred (some []))) (hd':D q s'=pt Dm (.deferred none)) (hres:Gq P L (K.set j (.obj q s')) fn.results.toList=some vs)
 (H:∀w',Af D E G w' (K.set j (.obj q s'))→R (.returned (match vs with|[v]=>v.1|vs=> .tuple (vs.map (·.1)).toArray)) w'):SW D P f R B n E G td L K:= λa w hF hS=>by
 have hS':=hS.putObj D hj hd hd'
 have hF':=hF.ext (Bj.setObj (s':=s') hj) (hF.kok.setObj hj)
 refine WT.finish_mark hro hdf hfn ht hF.defers (run_takeDeferred (hS.objPt D hj hd)) ?_ (H _ hS')
 ·have hrun:=(JF D hF' hS' _ _ hres).1
  unfold results
  rw [nW]
  simp only [iQ,Sem.run_map]
  erw [hrun]
  simp only [Result.andThen_ok,iY]
  match vs with
  |[]=>rfl
  |[v]=>rfl
  |_::_::_=>simp
theorem Ae9 {t:TypeId} (h:KY P t=none) (L:List Aj) (K:List (Chunk σ)):Gq P L K [.cell 0 t]=none:=by
 have hc:∀cs off,H9 P t cs off=none:= λcs off=>by unfold H9;rw [h]
 simp only [Gq]
 split
 ·split
  ·rw [hc]
  ·rfl
 ·rfl
theorem Af.order {w:World} {Ks:List (Chunk σ)} (h:Af D E G w K) (is:List Nat) (hn:nodupB is=true) (hg:Ks.map some=is.map (λj=>K[j]?)):Af D E G w Ks:=by
 refine Sat.pick h is (Jn hn) λi B hi=> .inl ?_
 rw [iL] at hi
 cases hc:Ks[i]? with
 |none=>rw [hc] at hi;cases hi
 |some c=>
  rw [hc] at hi;injection hi with hi;subst hi
  have:=congrArg (λl=>l[i]?) hg
  simp only [iL,hc,iR] at this
  cases hj:is[i]? with
  |none=>rw [hj] at this;cases this
  |some j=>
   rw [hj] at this
   simp only [iR,iA] at this
   exact ⟨j,rfl,by rw [iL,←this];rfl⟩
theorem Af.pack {w:World} {Ks K1:List (Chunk σ)} {c:Chunk σ} (h:Af D E G w (Ks++K1)) (hc:den D G c=star (Ks.map (den D G))):Af D E G w (c::K1):=by
 unfold Af at h ⊢
 rw [jD] at h
 rw [iD,hc]
 exact Sat.star_append h
theorem Af.unpack {w:World} {k:Nat} {k0:Chunk σ} {ks:List (Chunk σ)} {c:Chunk σ} (h:Af D E G w K) (hk:K[k]? =some c) (hc:den D G c=star ((k0::ks).map (den D G))):Af D E G w (K.set k k0++ks):=by
 unfold Af at h ⊢
 obtain ⟨_,_,h1⟩:=Sat.Qd (α:=Unit) (p:= λ_=>True) (A0:= λ_=>den D G k0) (Bs:= λ_=>ks.map (den D G)) (k:=k) h (by
  rw [iL,hk]
  simp only [iR,iA,hc]
  funext Y h
  apply propext
  exact ⟨λx=>⟨(),trivial,x⟩, λ⟨_,_,x⟩=>x⟩)
 rw [jD,jU]
 exact h1
end
end
section
open Go.RowKit
variable {σ:Type} (D:Addr→σ→Dl)
section
variable {P:Program} {R:Ending→World→Prop} {B:Code} {n:Nat} {E:Ev} {G:Hp} {td:List Ab} {L L':List Aj} {K K':List (Chunk σ)}
def Agv (L:List Aj) (K':List (Chunk σ)) (e:Aj):Prop:=e.g=none∧(∃p,(⟨e.s,none,e.v,p⟩:Aj)∈L)∧BP K' e.v e.p
theorem Fr.re {a:Act} (hF:Fr n L K a) (hk:DC K') (hL:∀e∈L',Agv L K' e):Fr n L' K' a:=by
 refine ⟨hk,hF.defers,hF.size, λe he _=>?_, λe he hg=>?_⟩
 ·obtain ⟨_,⟨p,hp⟩,h3⟩:=hL e he
  exact ⟨(hF.ents _ hp trivial).1,h3⟩
 ·exact absurd (by rw [(hL e he).1];trivial) hg
theorem SW.re {f:Fq} {α:Type} {Kf:α→List (Chunk σ)} (hS:∀w,Af D E G w K→∃x,Af D E G w (Kf x)) (hk:∀x,DC (Kf x)) (hL:∀x,∀e∈L',Agv L (Kf x) e) (H:∀x,SW D P f R B n E G td L' (Kf x)):SW D P f R B n E G td L K:= λa w hF hw=>
 let ⟨x,hx⟩:=hS w hw
 H x a w (hF.re (hk x) (hL x)) hx
theorem Af.ord {w:World} {Ks:List (Chunk σ)} (h:Af D E G w K) (is:List Nat) (hn:nodupB is=true) (hg:Ks.map (λc=>some (den D G c))=is.map (λj=>K[j]?.map (den D G))):Af D E G w Ks:=by
 refine Sat.pick h is (Jn hn) λi B hi=> .inl ?_
 have e:=congrArg (λl=>l[i]?) hg
 simp only [iL] at e hi
 cases hc:Ks[i]? with
 |none=>rw [hc] at hi;cases hi
 |some c=>
  rw [hc] at hi e
  simp only [iR,iA] at hi e
  subst hi
  cases hj:is[i]? with
  |none=>rw [hj] at e;cases e
  |some j=>
   rw [hj] at e
   simp only [iR,iA] at e
   exact ⟨j,rfl,by rw [iL];exact e.symm⟩
theorem Af.Al8 {w:World} {Ks K1:List (Chunk σ)} {c:Chunk σ} (h:Af D E G w (Ks++K1)) (hc:∀Y k,Sl.star (Ks.map (den D G)) Y k→den D G c Y k):Af D E G w (c::K1):=by
 unfold Af at h ⊢
 rw [jD] at h
 have h1:=Sat.star_append h
 refine Sat.imp h1 λi B hi=>?_
 cases i with
 |zero=>simp only [iD,jH,iA] at hi;exact ⟨_,rfl, λY k hx=>by rw [←hi];exact hc Y k hx⟩
 |succ i=>exact ⟨B,by simpa using hi, λ_ _ hx=>hx⟩
theorem Af.Agw {w:World} {α:Type} {k:Nat} {k0:α→Chunk σ} {ks:α→List (Chunk σ)} {c:Chunk σ} (h:Af D E G w K) (hk:K[k]? =some c) (hc:den D G c= λY h=>∃x,Sl.star ((k0 x::ks x).map (den D G)) Y h):∃x,Af D E G w (K.set k (k0 x)++ks x):=by
 unfold Af at h
 obtain ⟨x,_,h1⟩:=Sat.Qd (α:=α) (p:= λ_=>True) (A0:= λx=>den D G (k0 x)) (Bs:= λx=>(ks x).map (den D G)) (k:=k) h (by
  rw [iL,hk]
  simp only [iR,iA,hc]
  funext Y h
  apply propext
  exact ⟨λ⟨x,hx⟩=>⟨x,trivial,hx⟩, λ⟨x,_,hx⟩=>⟨x,hx⟩⟩)
 refine ⟨x,?_⟩
 unfold Af
 rw [jD,jU]
 exact h1
theorem Agx {t:Tree σ} {R':Value→Pr→List (Chunk σ)→Prop} {S S':List Ab→List Aj→List (Chunk σ)→Prop} {X:Prop} (he:t.holds R' S'=X) (hS:∀td L K,S' td L K→S td L K) (hX:X):t.holds R' S:=
 Tree.FN (λ_ _ _ h=>h) hS (he.mpr hX)
end
end
section
open Go.RowKit
variable {σ:Type} (D:Addr→σ→Dl)
section
variable {P:Program} {R:Ending→World→Prop} {B:Code} {n:Nat} {E:Ev} {G:Hp} {td:List Ab} {L L':List Aj} {K K':List (Chunk σ)}
theorem SW.opCall {f:Fq} {p:List Nat} {i:Nat} {o:Oper} {g:Nat} {args:List (Value×EU σ)} {prs:List Pr} {α:Type} {vf:α→Value} {pf:α→Pr} {Kf:α→List (Chunk σ)} (ho:(opsOf (Sl.sub B p))[i]? =some o) (hgs:gs n (opsOf (Sl.sub B p)) o=some none) (hc:callOf P none L K o=some (g,args,prs))
 (hk:DC K→∀x,Bj K (Kf x)∧DC (Kf x)∧BP (Kf x) (vf x) (pf x))
 (H0:∀w,Af D E G w K→Calls P g (args.map (·.1)).toArray w λen w'=>∃x,en= .returned (vf x)∧Af D E G w' (Kf x))
 (H:∀x,SW D P f R B n E G (.ops p (i+1)::td) (D8 o.dst none (vf x) (pf x) L) (Kf x)):SW D P f R B n E G (.ops p i::td) L K:= λa w hF hS=>by
 obtain ⟨g1,g2,g3⟩:=H5 hgs
 have hi:i<(opsOf (Sl.sub B p)).size:=by
  rcases jB i (opsOf (Sl.sub B p)).size with h|h
  ·exact h
  ·rw [kD h] at ho;cases ho
 show WT P f R (.inRegion (opsOf (Sl.sub B p)) (jJ i ((opsOf (Sl.sub B p)).size-i))::td.map (item B)) a w
 rw [Il hi]
 obtain ⟨hrun,_,_⟩:=Ky (g:=none) hF trivial hc w
 refine WT.PQ ho ((Ed g1).2 trivial) hrun (H0 w hS) λe w' ⟨x,he,hS'⟩=>⟨vf x,he,?_⟩
 obtain ⟨h1,h2,h3⟩:=hk hF.kok x
 exact H x _ w' ((hF.ext h1 h2).put g2 g3 λ_=>⟨rfl,h3⟩) hS'
theorem Af.Aql {w:World} (h:Af D E G w K) (X:List (Chunk σ)):Af D E G w (K++X.map λ_=>oN):=by
 refine Sat.pick h (jQ K.length) mX λi B hi=>?_
 rw [jD] at hi
 by_cases hl:i<K.length
 ·rw [iH (by simpa using hl)] at hi
  exact .inl ⟨i,nX hl,hi⟩
 ·rw [iI (by simpa using hl),iL,iL] at hi
  refine .inr λY k _=>?_
  cases hx:X[i-(K.map (den D G)).length]? with
  |none=>rw [hx] at hi;cases hi
  |some c=>rw [hx] at hi;injection hi with hi;subst hi;trivial
theorem Af.Ap5 {w:World} (h:Af D E G w K) {c:Chunk σ} (hc:nilRow c=true):Af D E G w (K++[c]):=by
 refine Sat.pick h (jQ K.length) mX λi B hi=>?_
 rw [jD] at hi
 by_cases hl:i<K.length
 ·rw [iH (by simpa using hl)] at hi
  exact .inl ⟨i,nX hl,hi⟩
 ·rw [iI (by simpa using hl)] at hi
  refine .inr λY k _=>?_
  cases hx:i-(K.map (den D G)).length with
  |zero=>rw [hx] at hi;simp only [iD,kB,jH,iA] at hi;rw [←hi];exact Np D hc Y k
  |succ m=>rw [hx] at hi;simp at hi
theorem Af.Aqm {w:World} {b:Nat} {l:List (Int×Int)} {it:Option (Nat×List (Int×Int)×List (Int×Int))} (h:Af D E G w (.bm b l it::K)):Af D E G w (.bm b l none::K):=by
 refine Sat.imp h λi B hi=>?_
 cases i with
 |zero=>
  simp only [iD,jH,iA] at hi
  subst hi
  exact ⟨_,rfl, λY k ⟨es,clock,h1,h2,_⟩=>⟨es,clock,h1,h2,trivial⟩⟩
 |succ i=>exact ⟨B,by simpa using hi, λ_ _ hx=>hx⟩
theorem Fr.round1 {a:Act} {p1:Nat} {v1:Value} (hF:Fr n L K a) (h1:p1<n) (hL:∀e∈L',e.g=none∧e.s≠p1∧e∈L):
 Fr n (⟨p1,none,v1, .no⟩::L') K {tmps:=a.tmps.setIfInBounds p1 v1,defers:=[]}:=by
 refine ⟨hF.kok,rfl,by simp [hF.size], λe he hg=>?_, λe he hg=>?_⟩
 ·simp only [iF] at he
  rcases he with rfl|he
  ·refine ⟨?_,AA⟩
   rw [jC,Array.getElem?_setIfInBounds_self_of_lt (by rw [hF.size];exact h1)];rfl
  ·obtain ⟨h3,h4,h6⟩:=hL e he
   have:=hF.ents e h6 (by rw [h3];trivial)
   refine ⟨?_,this.2⟩
   rw [←this.1]
   rw [jC,jC,Array.getElem?_setIfInBounds_ne (λh=>h4 h.symm)]
 ·exfalso
  apply hg
  simp only [iF] at he
  rcases he with rfl|he
  ·trivial
  ·rw [(hL e he).1];trivial
theorem Akh {f:FuncId} {a:Act} {w:World} {p:List Nat} {p1:Nat} {v1:Value} {l Dm:Nat} (hF:Fr n L K a) (hk:DC K') (h1:p1<n) (hL:∀e∈L',e.s≠p1∧Agv L K' e)
 (hr:w.heap[l]? =some (.loop (QY f a.tmps #[p1] (Sl.sub B (0::p)) (Sl.sub B (1::p)) Dm .ready none))) (hS:Af D E G w K')
 (H:SW D P ⟨f,some l,[]⟩ R B n E G [.code (0::p), .raw .beginRound, .code (1::p)] (⟨p1,none,v1, .no⟩::L') K'):PR P l #[v1] w R:=by
 refine Al6 hr rfl ?_
 have e:(#[p1].zip #[v1]).foldl (λ(t:Array Value) (p,v)=>t.setIfInBounds p v) a.tmps=a.tmps.setIfInBounds p1 v1:=by simp
 rw [e]
 exact H _ w ((hF.re hk λe he=>(hL e he).2).round1 h1 λe he=>⟨(hL e he).2.1,(hL e he).1,he⟩) hS
end
end
section
theorem Ic {n:Int} (h: -9223372036854775808≤n∧n<9223372036854775808):iS iB n=n:=by rw [IntKind.wrap_i64];omega
theorem QZ (k:Nat):(0:Int)<2^k:=Int.pow_pos (by decide)
theorem VV {k m:Nat} (h:k≤m):(2:Int)^k≤2^m:=by
 have:=Nat.pow_le_pow_right (n:=2) (by decide) h
 exact_mod_cast this
theorem AdJ (k:Nat):(2:Int)^(k+1)=2^k*2:=Int.pow_succ 2 k
theorem AmZ (xs:LI) (i j:Nat) (v:Int) (hi:i<xs.length):(xs.set i v).getD j 0=if j=i then v else xs.getD j 0:=by
 rw [iC,List.getElem?_set]
 by_cases h:i=j
 ·subst h;simp [hi]
 ·rw [if_neg h,if_neg (λe=>h e.symm)];simp
theorem YA {xs ys:LI} (hl:xs.length=ys.length) (h:∀j,j<xs.length→xs.getD j 0=ys.getD j 0):xs=ys:=by
 apply List.ext_getElem hl
 intro j h1 h2
 have:=h j h1
 rw [iC,iC,iK h1,iK h2] at this
 simpa using this
theorem Acp {n j:Nat} (f:Nat→Int) (h:j<n):((jQ n).map f).getD j 0=f j:=by
 rw [iC,iL,nX h];rfl
theorem Aki {α:Type} (f:Nat→α) (n:Nat):(jQ (n+1)).map f=(jQ n).map f++[f n]:=by rw [List.range_succ];simp
theorem Akj {k:Int} (h:0≤k):(k+1).toNat=k.toNat+1:=by omega
end
end Go.Sl
namespace Go.Proofs.Ytdjfnbbmfmjckaa
section
open Go.Sl
def Aa:Int×Int×Int×Int×Int×Int×Int×Int×Int:=((32:Int),(21:Int),(16:Int),(10:Int),(8:Int),(5:Int),(4:Int),(3:Int),(2:Int))
def OG (r_:Int×Int×Int×Int×Int×Int×Int×Int×Int):List Value→Value:= λss=> .agg #[.int .i64 (r_.1), .int .i64 (r_.2.1), .int .i64 (r_.2.2.1), .int .i64 (r_.2.2.2.1), .int .i64 (r_.2.2.2.2.1), .int .i64 (r_.2.2.2.2.2.1), .int .i64 (r_.2.2.2.2.2.2.1), .int .i64 (r_.2.2.2.2.2.2.2.1), .int .i64 (r_.2.2.2.2.2.2.2.2)]
def Qg (r_:Int×Int×Int×Int×Int×Int×Int×Int×Int):List (Chunk Sg):=[]
def NY (r_:Int×Int×Int×Int×Int×Int×Int×Int×Int):List (Mk Sg):=[]
theorem Wj {E_:Ev} {G_:Hp} {w_:World} (hS:Sat E_ G_ w_ []):Calls Try.prog 85 #[] w_ (Post Dg E_ G_ (OG Aa) (Qg Aa) (NY Aa)):=
 EO Dg EY (I:=[]) Try.func85 mix (B:=AY Try.f85) (by kernel_rfl) [] [] (by kernel_rfl) (objs:=[]) (ros:=[]) (F7) (by kernel_rfl) (trivial) hS 400
  (t:=Tree.fresh λb=>Tree.ret (Value.agg {toList:=[Am (32:Int),Am (21:Int),Am (16:Int),Am (10:Int),Am (8:Int),Am (5:Int),Am (4:Int),Am (3:Int),Am (2:Int)]}) Ar [JG b 108 [(Am (32:Int),Ar),(Am (21:Int),Ar),(Am (16:Int),Ar),(Am (10:Int),Ar),(Am (8:Int),Ar),(Am (5:Int),Ar),(Am (4:Int),Ar),(Am (3:Int),Ar),(Am (2:Int),Ar)]])
  (by kernel_rfl)
  (λb0_0=>DR.at (outf:=OG) (nwf:=Qg) (rowsf:=NY) (r:=((32:Int),(21:Int),(16:Int),(10:Int),(8:Int),(5:Int),(4:Int),(3:Int),(2:Int))) (by first|exact Eq.symm rfl|(simp only [Aa,cond_true,cond_false];done)|(exfalso;simp_all;done)|decide) ⟨[],[],(by decide),rfl,rfl,trivial⟩)
def MH:Entry Sg:= λ
 |[]=>some ⟨Aa, λ(r_:Int×Int×Int×Int×Int×Int×Int×Int×Int)=>⟨[],none,[], λss=> .agg #[.int .i64 (r_.1), .int .i64 (r_.2.1), .int .i64 (r_.2.2.1), .int .i64 (r_.2.2.2.1), .int .i64 (r_.2.2.2.2.1), .int .i64 (r_.2.2.2.2.2.1), .int .i64 (r_.2.2.2.2.2.2.1), .int .i64 (r_.2.2.2.2.2.2.2.1), .int .i64 (r_.2.2.2.2.2.2.2.2)], λk_=> .no⟩⟩
 |_=>none
theorem Acr:Fv Dg Try.prog 85 MH:=by
 intro args c r h hr_
 unfold MH at h
 split at h
 ·injection h with h;subst h;subst hr_
  refine ⟨λK acs _=>AA, λhpre E G w hi hS=>?_⟩
  exact IG Dg (by exact rfl) (Wj hS)
 ·cases h
def RU:List (Nat×Entry Sg):=(85,MH)::II
theorem Ea:Cb Dg Try.prog RU:=Cb.cons Dg Acr EY
def Aq (k:Int):Int:=bif decide (k<0)||decide (k≥9) then 0 else [32,21,16,10,8,5,4,3,2].getD k.toNat 0
def BD (r_:Int):List Value→Value:= λss=> .int .i64 (r_)
def BK (r_:Int):List (Chunk Sg):=[]
def Be (r_:Int):List (Mk Sg):=[]
section
variable (k:Int)
theorem Acs {E_:Ev} {G_:Hp} {w_:World} (hS:Sat E_ G_ w_ []):Calls Try.prog 74 #[(.int .i64 (0))] w_ (Post Dg E_ G_ (BD (Aq (0))) (BK (Aq (0))) (Be (Aq (0)))):=
 EO Dg Ea (I:=[]) Try.func74 mix (B:=AY Try.f74) (by kernel_rfl) [(.int .i64 (0))] [.no] (by kernel_rfl) (objs:=[]) (ros:=[]) (Eh AA (F7)) (by kernel_rfl) (trivial) hS 400
  (t:=Tree.fresh λb=>Tree.br false (Tree.ret (Am (0:Int)) Ar [JG b 108 [(Am Aa.1,Ar),(Am Aa.2.1,Ar),(Am Aa.2.2.1,Ar),(Am Aa.2.2.2.1,Ar),(Am Aa.2.2.2.2.1,Ar),(Am Aa.2.2.2.2.2.1,Ar),(Am Aa.2.2.2.2.2.2.1,Ar),(Am Aa.2.2.2.2.2.2.2.1,Ar),(Am Aa.2.2.2.2.2.2.2.2,Ar)]]) (Tree.need ((0:Int)≤(0:Int)∧(0:Int)<(9:Int)) (Tree.ret (Am Aa.1) Ar [JG b 108 [(Am Aa.1,Ar),(Am Aa.2.1,Ar),(Am Aa.2.2.1,Ar),(Am Aa.2.2.2.1,Ar),(Am Aa.2.2.2.2.1,Ar),(Am Aa.2.2.2.2.2.1,Ar),(Am Aa.2.2.2.2.2.2.1,Ar),(Am Aa.2.2.2.2.2.2.2.1,Ar),(Am Aa.2.2.2.2.2.2.2.2,Ar)]])))
  (by kernel_rfl)
  (λb0_0=>⟨λz1=>DR.at (outf:=BD) (nwf:=BK) (rowsf:=Be) (r:=(0:Int)) (by first|exact Eq.symm ((cT z1).trans rfl)|(simp only [Aq,z1,cond_true,cond_false];done)|(exfalso;simp_all;done)|decide) ⟨[],[],(by decide),rfl,rfl,trivial⟩, λz1=>⟨by decide, λy2=>DR.at (outf:=BD) (nwf:=BK) (rowsf:=Be) (r:=Aa.1) (by first|exact Eq.symm ((cF z1).trans rfl)|(simp only [Aq,z1,cond_true,cond_false];done)|(exfalso;simp_all;done)|decide) ⟨[],[],(by decide),rfl,rfl,trivial⟩⟩⟩)
theorem Acu {E_:Ev} {G_:Hp} {w_:World} (hS:Sat E_ G_ w_ []):Calls Try.prog 74 #[(.int .i64 (1))] w_ (Post Dg E_ G_ (BD (Aq (1))) (BK (Aq (1))) (Be (Aq (1)))):=
 EO Dg Ea (I:=[]) Try.func74 mix (B:=AY Try.f74) (by kernel_rfl) [(.int .i64 (1))] [.no] (by kernel_rfl) (objs:=[]) (ros:=[]) (Eh AA (F7)) (by kernel_rfl) (trivial) hS 400
  (t:=Tree.fresh λb=>Tree.br false (Tree.ret (Am (0:Int)) Ar [JG b 108 [(Am Aa.1,Ar),(Am Aa.2.1,Ar),(Am Aa.2.2.1,Ar),(Am Aa.2.2.2.1,Ar),(Am Aa.2.2.2.2.1,Ar),(Am Aa.2.2.2.2.2.1,Ar),(Am Aa.2.2.2.2.2.2.1,Ar),(Am Aa.2.2.2.2.2.2.2.1,Ar),(Am Aa.2.2.2.2.2.2.2.2,Ar)]]) (Tree.need ((0:Int)≤(1:Int)∧(1:Int)<(9:Int)) (Tree.ret (Am Aa.2.1) Ar [JG b 108 [(Am Aa.1,Ar),(Am Aa.2.1,Ar),(Am Aa.2.2.1,Ar),(Am Aa.2.2.2.1,Ar),(Am Aa.2.2.2.2.1,Ar),(Am Aa.2.2.2.2.2.1,Ar),(Am Aa.2.2.2.2.2.2.1,Ar),(Am Aa.2.2.2.2.2.2.2.1,Ar),(Am Aa.2.2.2.2.2.2.2.2,Ar)]])))
  (by kernel_rfl)
  (λb0_0=>⟨λz1=>DR.at (outf:=BD) (nwf:=BK) (rowsf:=Be) (r:=(0:Int)) (by first|exact Eq.symm ((cT z1).trans rfl)|(simp only [Aq,z1,cond_true,cond_false];done)|(exfalso;simp_all;done)|decide) ⟨[],[],(by decide),rfl,rfl,trivial⟩, λz1=>⟨by decide, λy2=>DR.at (outf:=BD) (nwf:=BK) (rowsf:=Be) (r:=Aa.2.1) (by first|exact Eq.symm ((cF z1).trans rfl)|(simp only [Aq,z1,cond_true,cond_false];done)|(exfalso;simp_all;done)|decide) ⟨[],[],(by decide),rfl,rfl,trivial⟩⟩⟩)
theorem Acv {E_:Ev} {G_:Hp} {w_:World} (hS:Sat E_ G_ w_ []):Calls Try.prog 74 #[(.int .i64 (2))] w_ (Post Dg E_ G_ (BD (Aq (2))) (BK (Aq (2))) (Be (Aq (2)))):=
 EO Dg Ea (I:=[]) Try.func74 mix (B:=AY Try.f74) (by kernel_rfl) [(.int .i64 (2))] [.no] (by kernel_rfl) (objs:=[]) (ros:=[]) (Eh AA (F7)) (by kernel_rfl) (trivial) hS 400
  (t:=Tree.fresh λb=>Tree.br false (Tree.ret (Am (0:Int)) Ar [JG b 108 [(Am Aa.1,Ar),(Am Aa.2.1,Ar),(Am Aa.2.2.1,Ar),(Am Aa.2.2.2.1,Ar),(Am Aa.2.2.2.2.1,Ar),(Am Aa.2.2.2.2.2.1,Ar),(Am Aa.2.2.2.2.2.2.1,Ar),(Am Aa.2.2.2.2.2.2.2.1,Ar),(Am Aa.2.2.2.2.2.2.2.2,Ar)]]) (Tree.need ((0:Int)≤(2:Int)∧(2:Int)<(9:Int)) (Tree.ret (Am Aa.2.2.1) Ar [JG b 108 [(Am Aa.1,Ar),(Am Aa.2.1,Ar),(Am Aa.2.2.1,Ar),(Am Aa.2.2.2.1,Ar),(Am Aa.2.2.2.2.1,Ar),(Am Aa.2.2.2.2.2.1,Ar),(Am Aa.2.2.2.2.2.2.1,Ar),(Am Aa.2.2.2.2.2.2.2.1,Ar),(Am Aa.2.2.2.2.2.2.2.2,Ar)]])))
  (by kernel_rfl)
  (λb0_0=>⟨λz1=>DR.at (outf:=BD) (nwf:=BK) (rowsf:=Be) (r:=(0:Int)) (by first|exact Eq.symm ((cT z1).trans rfl)|(simp only [Aq,z1,cond_true,cond_false];done)|(exfalso;simp_all;done)|decide) ⟨[],[],(by decide),rfl,rfl,trivial⟩, λz1=>⟨by decide, λy2=>DR.at (outf:=BD) (nwf:=BK) (rowsf:=Be) (r:=Aa.2.2.1) (by first|exact Eq.symm ((cF z1).trans rfl)|(simp only [Aq,z1,cond_true,cond_false];done)|(exfalso;simp_all;done)|decide) ⟨[],[],(by decide),rfl,rfl,trivial⟩⟩⟩)
theorem Acw {E_:Ev} {G_:Hp} {w_:World} (hS:Sat E_ G_ w_ []):Calls Try.prog 74 #[(.int .i64 (3))] w_ (Post Dg E_ G_ (BD (Aq (3))) (BK (Aq (3))) (Be (Aq (3)))):=
 EO Dg Ea (I:=[]) Try.func74 mix (B:=AY Try.f74) (by kernel_rfl) [(.int .i64 (3))] [.no] (by kernel_rfl) (objs:=[]) (ros:=[]) (Eh AA (F7)) (by kernel_rfl) (trivial) hS 400
  (t:=Tree.fresh λb=>Tree.br false (Tree.ret (Am (0:Int)) Ar [JG b 108 [(Am Aa.1,Ar),(Am Aa.2.1,Ar),(Am Aa.2.2.1,Ar),(Am Aa.2.2.2.1,Ar),(Am Aa.2.2.2.2.1,Ar),(Am Aa.2.2.2.2.2.1,Ar),(Am Aa.2.2.2.2.2.2.1,Ar),(Am Aa.2.2.2.2.2.2.2.1,Ar),(Am Aa.2.2.2.2.2.2.2.2,Ar)]]) (Tree.need ((0:Int)≤(3:Int)∧(3:Int)<(9:Int)) (Tree.ret (Am Aa.2.2.2.1) Ar [JG b 108 [(Am Aa.1,Ar),(Am Aa.2.1,Ar),(Am Aa.2.2.1,Ar),(Am Aa.2.2.2.1,Ar),(Am Aa.2.2.2.2.1,Ar),(Am Aa.2.2.2.2.2.1,Ar),(Am Aa.2.2.2.2.2.2.1,Ar),(Am Aa.2.2.2.2.2.2.2.1,Ar),(Am Aa.2.2.2.2.2.2.2.2,Ar)]])))
  (by kernel_rfl)
  (λb0_0=>⟨λz1=>DR.at (outf:=BD) (nwf:=BK) (rowsf:=Be) (r:=(0:Int)) (by first|exact Eq.symm ((cT z1).trans rfl)|(simp only [Aq,z1,cond_true,cond_false];done)|(exfalso;simp_all;done)|decide) ⟨[],[],(by decide),rfl,rfl,trivial⟩, λz1=>⟨by decide, λy2=>DR.at (outf:=BD) (nwf:=BK) (rowsf:=Be) (r:=Aa.2.2.2.1) (by first|exact Eq.symm ((cF z1).trans rfl)|(simp only [Aq,z1,cond_true,cond_false];done)|(exfalso;simp_all;done)|decide) ⟨[],[],(by decide),rfl,rfl,trivial⟩⟩⟩)
theorem Acx {E_:Ev} {G_:Hp} {w_:World} (hS:Sat E_ G_ w_ []):Calls Try.prog 74 #[(.int .i64 (4))] w_ (Post Dg E_ G_ (BD (Aq (4))) (BK (Aq (4))) (Be (Aq (4)))):=
 EO Dg Ea (I:=[]) Try.func74 mix (B:=AY Try.f74) (by kernel_rfl) [(.int .i64 (4))] [.no] (by kernel_rfl) (objs:=[]) (ros:=[]) (Eh AA (F7)) (by kernel_rfl) (trivial) hS 400
  (t:=Tree.fresh λb=>Tree.br false (Tree.ret (Am (0:Int)) Ar [JG b 108 [(Am Aa.1,Ar),(Am Aa.2.1,Ar),(Am Aa.2.2.1,Ar),(Am Aa.2.2.2.1,Ar),(Am Aa.2.2.2.2.1,Ar),(Am Aa.2.2.2.2.2.1,Ar),(Am Aa.2.2.2.2.2.2.1,Ar),(Am Aa.2.2.2.2.2.2.2.1,Ar),(Am Aa.2.2.2.2.2.2.2.2,Ar)]]) (Tree.need ((0:Int)≤(4:Int)∧(4:Int)<(9:Int)) (Tree.ret (Am Aa.2.2.2.2.1) Ar [JG b 108 [(Am Aa.1,Ar),(Am Aa.2.1,Ar),(Am Aa.2.2.1,Ar),(Am Aa.2.2.2.1,Ar),(Am Aa.2.2.2.2.1,Ar),(Am Aa.2.2.2.2.2.1,Ar),(Am Aa.2.2.2.2.2.2.1,Ar),(Am Aa.2.2.2.2.2.2.2.1,Ar),(Am Aa.2.2.2.2.2.2.2.2,Ar)]])))
  (by kernel_rfl)
  (λb0_0=>⟨λz1=>DR.at (outf:=BD) (nwf:=BK) (rowsf:=Be) (r:=(0:Int)) (by first|exact Eq.symm ((cT z1).trans rfl)|(simp only [Aq,z1,cond_true,cond_false];done)|(exfalso;simp_all;done)|decide) ⟨[],[],(by decide),rfl,rfl,trivial⟩, λz1=>⟨by decide, λy2=>DR.at (outf:=BD) (nwf:=BK) (rowsf:=Be) (r:=Aa.2.2.2.2.1) (by first|exact Eq.symm ((cF z1).trans rfl)|(simp only [Aq,z1,cond_true,cond_false];done)|(exfalso;simp_all;done)|decide) ⟨[],[],(by decide),rfl,rfl,trivial⟩⟩⟩)
theorem Acy {E_:Ev} {G_:Hp} {w_:World} (hS:Sat E_ G_ w_ []):Calls Try.prog 74 #[(.int .i64 (5))] w_ (Post Dg E_ G_ (BD (Aq (5))) (BK (Aq (5))) (Be (Aq (5)))):=
 EO Dg Ea (I:=[]) Try.func74 mix (B:=AY Try.f74) (by kernel_rfl) [(.int .i64 (5))] [.no] (by kernel_rfl) (objs:=[]) (ros:=[]) (Eh AA (F7)) (by kernel_rfl) (trivial) hS 400
  (t:=Tree.fresh λb=>Tree.br false (Tree.ret (Am (0:Int)) Ar [JG b 108 [(Am Aa.1,Ar),(Am Aa.2.1,Ar),(Am Aa.2.2.1,Ar),(Am Aa.2.2.2.1,Ar),(Am Aa.2.2.2.2.1,Ar),(Am Aa.2.2.2.2.2.1,Ar),(Am Aa.2.2.2.2.2.2.1,Ar),(Am Aa.2.2.2.2.2.2.2.1,Ar),(Am Aa.2.2.2.2.2.2.2.2,Ar)]]) (Tree.need ((0:Int)≤(5:Int)∧(5:Int)<(9:Int)) (Tree.ret (Am Aa.2.2.2.2.2.1) Ar [JG b 108 [(Am Aa.1,Ar),(Am Aa.2.1,Ar),(Am Aa.2.2.1,Ar),(Am Aa.2.2.2.1,Ar),(Am Aa.2.2.2.2.1,Ar),(Am Aa.2.2.2.2.2.1,Ar),(Am Aa.2.2.2.2.2.2.1,Ar),(Am Aa.2.2.2.2.2.2.2.1,Ar),(Am Aa.2.2.2.2.2.2.2.2,Ar)]])))
  (by kernel_rfl)
  (λb0_0=>⟨λz1=>DR.at (outf:=BD) (nwf:=BK) (rowsf:=Be) (r:=(0:Int)) (by first|exact Eq.symm ((cT z1).trans rfl)|(simp only [Aq,z1,cond_true,cond_false];done)|(exfalso;simp_all;done)|decide) ⟨[],[],(by decide),rfl,rfl,trivial⟩, λz1=>⟨by decide, λy2=>DR.at (outf:=BD) (nwf:=BK) (rowsf:=Be) (r:=Aa.2.2.2.2.2.1) (by first|exact Eq.symm ((cF z1).trans rfl)|(simp only [Aq,z1,cond_true,cond_false];done)|(exfalso;simp_all;done)|decide) ⟨[],[],(by decide),rfl,rfl,trivial⟩⟩⟩)
theorem Acz {E_:Ev} {G_:Hp} {w_:World} (hS:Sat E_ G_ w_ []):Calls Try.prog 74 #[(.int .i64 (6))] w_ (Post Dg E_ G_ (BD (Aq (6))) (BK (Aq (6))) (Be (Aq (6)))):=
 EO Dg Ea (I:=[]) Try.func74 mix (B:=AY Try.f74) (by kernel_rfl) [(.int .i64 (6))] [.no] (by kernel_rfl) (objs:=[]) (ros:=[]) (Eh AA (F7)) (by kernel_rfl) (trivial) hS 400
  (t:=Tree.fresh λb=>Tree.br false (Tree.ret (Am (0:Int)) Ar [JG b 108 [(Am Aa.1,Ar),(Am Aa.2.1,Ar),(Am Aa.2.2.1,Ar),(Am Aa.2.2.2.1,Ar),(Am Aa.2.2.2.2.1,Ar),(Am Aa.2.2.2.2.2.1,Ar),(Am Aa.2.2.2.2.2.2.1,Ar),(Am Aa.2.2.2.2.2.2.2.1,Ar),(Am Aa.2.2.2.2.2.2.2.2,Ar)]]) (Tree.need ((0:Int)≤(6:Int)∧(6:Int)<(9:Int)) (Tree.ret (Am Aa.2.2.2.2.2.2.1) Ar [JG b 108 [(Am Aa.1,Ar),(Am Aa.2.1,Ar),(Am Aa.2.2.1,Ar),(Am Aa.2.2.2.1,Ar),(Am Aa.2.2.2.2.1,Ar),(Am Aa.2.2.2.2.2.1,Ar),(Am Aa.2.2.2.2.2.2.1,Ar),(Am Aa.2.2.2.2.2.2.2.1,Ar),(Am Aa.2.2.2.2.2.2.2.2,Ar)]])))
  (by kernel_rfl)
  (λb0_0=>⟨λz1=>DR.at (outf:=BD) (nwf:=BK) (rowsf:=Be) (r:=(0:Int)) (by first|exact Eq.symm ((cT z1).trans rfl)|(simp only [Aq,z1,cond_true,cond_false];done)|(exfalso;simp_all;done)|decide) ⟨[],[],(by decide),rfl,rfl,trivial⟩, λz1=>⟨by decide, λy2=>DR.at (outf:=BD) (nwf:=BK) (rowsf:=Be) (r:=Aa.2.2.2.2.2.2.1) (by first|exact Eq.symm ((cF z1).trans rfl)|(simp only [Aq,z1,cond_true,cond_false];done)|(exfalso;simp_all;done)|decide) ⟨[],[],(by decide),rfl,rfl,trivial⟩⟩⟩)
theorem Ac0 {E_:Ev} {G_:Hp} {w_:World} (hS:Sat E_ G_ w_ []):Calls Try.prog 74 #[(.int .i64 (7))] w_ (Post Dg E_ G_ (BD (Aq (7))) (BK (Aq (7))) (Be (Aq (7)))):=
 EO Dg Ea (I:=[]) Try.func74 mix (B:=AY Try.f74) (by kernel_rfl) [(.int .i64 (7))] [.no] (by kernel_rfl) (objs:=[]) (ros:=[]) (Eh AA (F7)) (by kernel_rfl) (trivial) hS 400
  (t:=Tree.fresh λb=>Tree.br false (Tree.ret (Am (0:Int)) Ar [JG b 108 [(Am Aa.1,Ar),(Am Aa.2.1,Ar),(Am Aa.2.2.1,Ar),(Am Aa.2.2.2.1,Ar),(Am Aa.2.2.2.2.1,Ar),(Am Aa.2.2.2.2.2.1,Ar),(Am Aa.2.2.2.2.2.2.1,Ar),(Am Aa.2.2.2.2.2.2.2.1,Ar),(Am Aa.2.2.2.2.2.2.2.2,Ar)]]) (Tree.need ((0:Int)≤(7:Int)∧(7:Int)<(9:Int)) (Tree.ret (Am Aa.2.2.2.2.2.2.2.1) Ar [JG b 108 [(Am Aa.1,Ar),(Am Aa.2.1,Ar),(Am Aa.2.2.1,Ar),(Am Aa.2.2.2.1,Ar),(Am Aa.2.2.2.2.1,Ar),(Am Aa.2.2.2.2.2.1,Ar),(Am Aa.2.2.2.2.2.2.1,Ar),(Am Aa.2.2.2.2.2.2.2.1,Ar),(Am Aa.2.2.2.2.2.2.2.2,Ar)]])))
  (by kernel_rfl)
  (λb0_0=>⟨λz1=>DR.at (outf:=BD) (nwf:=BK) (rowsf:=Be) (r:=(0:Int)) (by first|exact Eq.symm ((cT z1).trans rfl)|(simp only [Aq,z1,cond_true,cond_false];done)|(exfalso;simp_all;done)|decide) ⟨[],[],(by decide),rfl,rfl,trivial⟩, λz1=>⟨by decide, λy2=>DR.at (outf:=BD) (nwf:=BK) (rowsf:=Be) (r:=Aa.2.2.2.2.2.2.2.1) (by first|exact Eq.symm ((cF z1).trans rfl)|(simp only [Aq,z1,cond_true,cond_false];done)|(exfalso;simp_all;done)|decide) ⟨[],[],(by decide),rfl,rfl,trivial⟩⟩⟩)
theorem Ac1 {E_:Ev} {G_:Hp} {w_:World} (hS:Sat E_ G_ w_ []):Calls Try.prog 74 #[(.int .i64 (8))] w_ (Post Dg E_ G_ (BD (Aq (8))) (BK (Aq (8))) (Be (Aq (8)))):=
 EO Dg Ea (I:=[]) Try.func74 mix (B:=AY Try.f74) (by kernel_rfl) [(.int .i64 (8))] [.no] (by kernel_rfl) (objs:=[]) (ros:=[]) (Eh AA (F7)) (by kernel_rfl) (trivial) hS 400
  (t:=Tree.fresh λb=>Tree.br false (Tree.ret (Am (0:Int)) Ar [JG b 108 [(Am Aa.1,Ar),(Am Aa.2.1,Ar),(Am Aa.2.2.1,Ar),(Am Aa.2.2.2.1,Ar),(Am Aa.2.2.2.2.1,Ar),(Am Aa.2.2.2.2.2.1,Ar),(Am Aa.2.2.2.2.2.2.1,Ar),(Am Aa.2.2.2.2.2.2.2.1,Ar),(Am Aa.2.2.2.2.2.2.2.2,Ar)]]) (Tree.need ((0:Int)≤(8:Int)∧(8:Int)<(9:Int)) (Tree.ret (Am Aa.2.2.2.2.2.2.2.2) Ar [JG b 108 [(Am Aa.1,Ar),(Am Aa.2.1,Ar),(Am Aa.2.2.1,Ar),(Am Aa.2.2.2.1,Ar),(Am Aa.2.2.2.2.1,Ar),(Am Aa.2.2.2.2.2.1,Ar),(Am Aa.2.2.2.2.2.2.1,Ar),(Am Aa.2.2.2.2.2.2.2.1,Ar),(Am Aa.2.2.2.2.2.2.2.2,Ar)]])))
  (by kernel_rfl)
  (λb0_0=>⟨λz1=>DR.at (outf:=BD) (nwf:=BK) (rowsf:=Be) (r:=(0:Int)) (by first|exact Eq.symm ((cT z1).trans rfl)|(simp only [Aq,z1,cond_true,cond_false];done)|(exfalso;simp_all;done)|decide) ⟨[],[],(by decide),rfl,rfl,trivial⟩, λz1=>⟨by decide, λy2=>DR.at (outf:=BD) (nwf:=BK) (rowsf:=Be) (r:=Aa.2.2.2.2.2.2.2.2) (by first|exact Eq.symm ((cF z1).trans rfl)|(simp only [Aq,z1,cond_true,cond_false];done)|(exfalso;simp_all;done)|decide) ⟨[],[],(by decide),rfl,rfl,trivial⟩⟩⟩)
theorem Wl {E_:Ev} {G_:Hp} {w_:World} (hc:¬(0≤k∧k<9)) (hS:Sat E_ G_ w_ []):Calls Try.prog 74 #[(.int .i64 k)] w_ (Post Dg E_ G_ (BD (Aq k)) (BK (Aq k)) (Be (Aq k))):=
 EO Dg Ea (I:=[]) Try.func74 mix (B:=AY Try.f74) (by kernel_rfl) [(.int .i64 k)] [.no] (by kernel_rfl) (objs:=[]) (ros:=[]) (Eh AA (F7)) (by kernel_rfl) (trivial) hS 26
  (t:=Tree.fresh λb=>Tree.br (decide (k<(0:Int))||decide (k≥(9:Int))) (Tree.ret (Am (0:Int)) Ar [JG b 108 [(Am Aa.1,Ar),(Am Aa.2.1,Ar),(Am Aa.2.2.1,Ar),(Am Aa.2.2.2.1,Ar),(Am Aa.2.2.2.2.1,Ar),(Am Aa.2.2.2.2.2.1,Ar),(Am Aa.2.2.2.2.2.2.1,Ar),(Am Aa.2.2.2.2.2.2.2.1,Ar),(Am Aa.2.2.2.2.2.2.2.2,Ar)]]) (Tree.need ((0:Int)≤k∧k<(9:Int)) (Tree.stuck [Ab.ops [0,1,1,1] 2,Ab.code [1,1,1,1]] [Hy 12 (kH (some (Addr.add {block:=b,off:=0} (jL k*1)))) (lE 0 (nU (0+jL k*1))),Hy 11 (Am k) Ar,Hy 10 (oM (decide (k<(0:Int))||decide (k≥(9:Int)))) Ar,eg_ 9 (7,false) (oM (decide (k≥(9:Int)))) Ar,eg_ 8 (7,false) (Am k) Ar,Hy 7 (oM (decide (k<(0:Int)))) Ar,Hy 6 (oM (decide (k<(0:Int)))) Ar,Hy 5 (Am k) Ar,Hy 3 (vp_ b) (pc_ 0 0),Hy 1000004 (oO {toList:=[]}) Ar,Hy 4 (Value.agg {toList:=[Am Aa.1,Am Aa.2.1,Am Aa.2.2.1,Am Aa.2.2.2.1,Am Aa.2.2.2.2.1,Am Aa.2.2.2.2.2.1,Am Aa.2.2.2.2.2.2.1,Am Aa.2.2.2.2.2.2.2.1,Am Aa.2.2.2.2.2.2.2.2]}) Ar,Hy 1000002 (oO {toList:=[]}) Ar,Hy 2 (Am (0:Int)) Ar,Hy 0 (Am k) Ar] [JG b 108 [(Am Aa.1,Ar),(Am Aa.2.1,Ar),(Am Aa.2.2.1,Ar),(Am Aa.2.2.2.1,Ar),(Am Aa.2.2.2.2.1,Ar),(Am Aa.2.2.2.2.2.1,Ar),(Am Aa.2.2.2.2.2.2.1,Ar),(Am Aa.2.2.2.2.2.2.2.1,Ar),(Am Aa.2.2.2.2.2.2.2.2,Ar)]])))
  (by kernel_rfl)
  (λb0_0=>⟨λz1=>DR.at (outf:=BD) (nwf:=BK) (rowsf:=Be) (r:=(0:Int)) (by first|exact Eq.symm ((cT z1).trans rfl)|(simp only [Aq,z1,cond_true,cond_false];done)|(exfalso;simp_all;done)|decide) ⟨[],[],(by decide),rfl,rfl,trivial⟩, λz1=>⟨by exfalso;simp at z1;omega, λy2=>(by exfalso;simp at z1;omega)⟩⟩)
theorem Wn {E_:Ev} {G_:Hp} {w_:World} (hS:Sat E_ G_ w_ []):Calls Try.prog 74 #[(.int .i64 k)] w_ (Post Dg E_ G_ (BD (Aq k)) (BK (Aq k)) (Be (Aq k))):=by
 by_cases hc:0≤k∧k<9
 ·rcases (by omega:k=0∨k=1∨k=2∨k=3∨k=4∨k=5∨k=6∨k=7∨k=8) with rfl|rfl|rfl|rfl|rfl|rfl|rfl|rfl|rfl
  ·exact Acs hS
  ·exact Acu hS
  ·exact Acv hS
  ·exact Acw hS
  ·exact Acx hS
  ·exact Acy hS
  ·exact Acz hS
  ·exact Ac0 hS
  ·exact Ac1 hS
 ·exact Wl k hc hS
end
def MJ:Entry Sg:= λ
 |[(.int .i64 k,_)]=>some ⟨(Aq k), λ(r_:Int)=>⟨[],none,[], λss=> .int .i64 (r_), λk_=> .no⟩⟩
 |_=>none
theorem Ac2:Fv Dg Try.prog 74 MJ:=by
 intro args c r h hr_
 unfold MJ at h
 split at h
 ·injection h with h;subst h;subst hr_
  refine ⟨λK acs _=>AA, λhpre E G w hi hS=>?_⟩
  exact IG Dg (by exact rfl) (Wn _ hS)
 ·cases h
def RV:List (Nat×Entry Sg):=(74,MJ)::RU
theorem NZ:Cb Dg Try.prog RV:=Cb.cons Dg Ac2 Ea
def Ee (s k:Int):Int:=(bif Aq k==(0:Int)||decide (s<(10:Int))||decide (s>(20:Int)) then (0:Int) else iS iB (↑(BitVec.toNat (oK 64 (iS iB (Int.tdiv (iS iB ((1:Int)*(2:Int)^min (jL s) 64)) (Aq k))) &&& ~~~oK 64 (15:Int))):Int))
def Ls (r_:Int):List Value→Value:= λss=> .int .i64 (r_)
def MK (r_:Int):List (Chunk Sg):=[]
def KN (r_:Int):List (Mk Sg):=[]
section
variable (s k:Int)
theorem YB {E_:Ev} {G_:Hp} {w_:World} (hS:Sat E_ G_ w_ []):Calls Try.prog 43 #[(.int .i64 s),(.int .i64 k)] w_ (Post Dg E_ G_ (Ls (Ee s k)) (MK (Ee s k)) (KN (Ee s k))):=
 EO Dg NZ (I:=[]) Try.func43 mix (B:=AY Try.f43) (by kernel_rfl) [(.int .i64 s),(.int .i64 k)] [.no, .no] (by kernel_rfl) (objs:=[]) (ros:=[]) (Eh AA (Eh AA (F7))) (by kernel_rfl) (trivial) hS 400
  (t:=Tree.br (Aq k==(0:Int)||decide (s<(10:Int))||decide (s>(20:Int))) (Tree.ret (Am (0:Int)) Ar []) (Tree.need ((0:Int)≤s) (Tree.need (Aq k≠(0:Int)) (Tree.ret (Am (iS iB (↑(BitVec.toNat (oK 64 (iS iB (Int.tdiv (iS iB ((1:Int)*(2:Int)^min (jL s) 64)) (Aq k))) &&& ~~~oK 64 (15:Int))):Int))) Ar []))))
  (by kernel_rfl)
  (⟨λz0=>DR.at (outf:=Ls) (nwf:=MK) (rowsf:=KN) (r:=(0:Int)) (by first|exact Eq.symm ((cT z0).trans rfl)|(simp only [Ee,z0,cond_true,cond_false];done)|(exfalso;simp_all;done)|decide) ⟨[],[],(by decide),rfl,rfl,trivial⟩, λz0=>⟨by first|(simp only [kF,beq_eq_false_iff_ne,ne_eq,decide_eq_false_iff_not] at z0;omega)|omega, λy1=>⟨by first|(simp only [kF,beq_eq_false_iff_ne,ne_eq,decide_eq_false_iff_not] at z0;omega)|omega, λy2=>DR.at (outf:=Ls) (nwf:=MK) (rowsf:=KN) (r:=iS iB (↑(BitVec.toNat (oK 64 (iS iB (Int.tdiv (iS iB ((1:Int)*(2:Int)^min (jL s) 64)) (Aq k))) &&& ~~~oK 64 (15:Int))):Int)) (by first|exact Eq.symm ((cF z0).trans rfl)|(simp only [Ee,z0,cond_true,cond_false];done)|(exfalso;simp_all;done)|decide) ⟨[],[],(by decide),rfl,rfl,trivial⟩⟩⟩⟩)
end
def Oa:Entry Sg:= λ
 |[(.int .i64 s,_),(.int .i64 k,_)]=>some ⟨(Ee s k), λ(r_:Int)=>⟨[],none,[], λss=> .int .i64 (r_), λk_=> .no⟩⟩
 |_=>none
theorem AeA:Fv Dg Try.prog 43 Oa:=by
 intro args c r h hr_
 unfold Oa at h
 split at h
 ·injection h with h;subst h;subst hr_
  refine ⟨λK acs _=>AA, λhpre E G w hi hS=>?_⟩
  exact IG Dg (by exact rfl) (YB _ _ hS)
 ·cases h
def Ur:List (Nat×Entry Sg):=(43,Oa)::RV
theorem OH:Cb Dg Try.prog Ur:=Cb.cons Dg AeA NZ
end
section
open Go.Sl
def Gu (s:Int):LI:=bif Ee s 0==0 then [] else (jQ 9).map λ(k:Nat)=>Ee s k
abbrev AeB:Ct Sg:=⟨none,false,[.i .i64], .new 2 [some .i64]⟩
def RY:Entry Sg:=CP AeB Gu (λ_=>[])
def RZ (s:Int) (Q0:Int→Nat→LI→Prop) (R_:LI→Prop):Prop:=(BH (Ee s (0:Int)==0) (R_ ([])) (Ba ((0:Int)≤9∧(9:Int)≤9∧(72:Int)≤140737488355328) (Q0 (0) (9) ([0,0,0,0,0,0,0,0,0]))))
def Qh (s k:Int) (n:Nat) (xs:LI) (Q0:Int→Nat→LI→Prop) (R_:LI→Prop):Prop:=(BH (decide (k<9)) (Ba (0≤k∧k<(↑n:Int)) (Q0 (iS iB (k+1)) (n) (List.set xs (jL k) (Ee s k)))) (R_ (xs)))
def Gt (s k:Int) (n:Nat) (xs r_:LI):Prop:=n=9∧0≤k∧k≤9∧xs.length=9∧(∀j:Nat,j<k.toNat→xs.getD j 0=Ee s j)∧r_=(jQ 9).map λ(k:Nat)=>Ee s k
abbrev Lt (p0:Addr) (s:Int):Hd Sg:=⟨none,[0,1,0,1,1,1],[.blk 0, .code [1,1,1,1]],[11,10,3,0],[.i .i64, .ic .i64 (9), .own 2 [some .i64], .ic .i64 (s)]⟩
theorem Wp (s:Int):RZ s (λk' n' xs'=>Gt s k' n' xs' (Gu s)) (λr__=>r__=(Gu s)):=by
 unfold RZ
 try unfold Gt
 refine ⟨λh=>?_, λh=>⟨⟨by omega,by omega,of_decide_eq_true (by kernel_rfl)⟩, λ_=>⟨rfl,by omega,by omega,rfl, λj hj=>absurd hj (kR j),?_⟩⟩⟩
 ·simp only [Gu,h,cond_true]
 ·simp only [Gu,h,cond_false]
theorem Wq (s k:Int) (n:Nat) (xs:LI) {r_:LI} (hI:Gt s k n xs r_):Qh s k n xs (λk' n' xs'=>Gt s k' n' xs' r_∧lx ((9-k').toNat,0,0) ((9-k).toNat,0,0)) (λr__=>r__=r_):=by
 unfold Gt at hI
 unfold Qh
 try unfold Gt
 obtain ⟨hn0,h0,h1,h2,h3,h4⟩:=hI
 refine ⟨λh=>?_, λh=>?_⟩
 ·simp only [decide_eq_true_eq] at h
  rw [Ic (by omega)]
  refine ⟨⟨h0,by omega⟩, λ_=>⟨⟨hn0,by omega,by omega,by simp [h2], λj hj=>?_,h4⟩,BU⟩⟩
  rw [AmZ _ _ _ _ (by omega)]
  by_cases hjk:j=k.toNat
  ·rw [if_pos hjk];congr 1;omega
  ·rw [if_neg hjk];exact h3 j (by omega)
 ·simp only [decide_eq_false_iff_not] at h
  rw [h4]
  apply YA (by simp [h2])
  intro j hj
  rw [Acp _ (by omega)]
  exact h3 j (by omega)
theorem Ac3:DZ 72 RY:=
 MC Dg OH (I:=[1643000000011,1643000000010,1643000000003,1643000000000]) Try.func72 mix (B:=AY Try.f72) (by kernel_rfl) rfl (by kernel_rfl) 400
  λp0 s hb hp=>⟨[Lt p0 s], λj=>iM [Ak (Hd.kd (Lt p0 s)) (λk' n' xs'=>Gt s k' n' xs' (Gu s))] j (λ_=>False), λj=>iM [Ak (Hd.kd (Lt p0 s)) (λk' n' xs'=>((9-k').toNat,0,0))] j (λ_=>(0,0,0)),by kernel_rfl,⟨_, λ_ _ _=>by kernel_rfl,Wp s⟩,⟨λk n xs hI=>⟨_, λ_ _ _=>by kernel_rfl,Wq s k n xs hI⟩,trivial⟩⟩
def Si:Tb:=(72,RY)::Ur
theorem Oc:DU Si:=Ej Ac3 OH
def Ap (t p s:Int):Bool:=decide (t≥1)&&decide (t≤16)&&decide (p≥4)&&decide (p≤1024)&&decide (s≥10)&&decide (s≤20)
abbrev Aiw:Ct Sg:=⟨none,false,[.agg [.i .i64, .i .i64, .i .i64]], .b⟩
def WU:Entry Sg:=CP Aiw Ap (λ_ _ _=>[])
theorem Agy:DZ 45 WU:=
 EG Dg Oc (I:=[]) Try.func45 mix (B:=AY Try.f45) (by kernel_rfl) rfl (by kernel_rfl) 400
  λ_ t p s hb hp=>⟨(Ap t p s), .t, λ_ _ _=>by kernel_rfl,trivial,rfl⟩
def WV:Tb:=(45,WU)::Si
theorem Qi:DU WV:=Ej Agy Oc
def BX (t p s:Int):Int:=bif !Ap t p s then 0 else 2^s.toNat
abbrev Akk:Ct Sg:=⟨none,false,[.agg [.i .i64, .i .i64, .i .i64]], .i .i64⟩
def Aaa:Entry Sg:=CP Akk BX (λ_ _ _=>[])
def Aab (t p s:Int) (Q0:Int→Int→Prop) (R_:Int→Prop):Prop:=(BH (!Ap t p s) (R_ (0)) (Q0 (0) (1)))
def WW (t p s i n:Int) (Q0:Int→Int→Prop) (R_:Int→Prop):Prop:=(BH (decide (i<s)) (Q0 (iS iB (i+1)) (iS iB (n*2))) (R_ (n)))
def Io (t p s i n r_:Int):Prop:=0≤i∧i≤s∧s≤20∧n=2^i.toNat∧r_=2^s.toNat
abbrev Px (p0:Addr) (t p s:Int):Hd Sg:=⟨none,[0,1,0,1,1,1],[.blk 0, .code [1,1,1,1]],[4,3,1],[.i .i64, .i .i64, .box 23 [.ic .i64 (t), .ic .i64 (p), .ic .i64 (s)]]⟩
theorem Ac4 (t p s:Int):Aab t p s (λi' n'=>Io t p s i' n' (BX t p s)) (λr__=>r__=(BX t p s)):=by
 unfold Aab
 try unfold Io
 refine ⟨λh=>?_, λh=>?_⟩
 ·simp only [BX,h,cond_true]
 ·have hr:Ap t p s=true:=by simpa using h
  simp only [Ap,iG,decide_eq_true_eq] at hr
  refine ⟨by omega,by omega,by omega,rfl,?_⟩
  simp only [BX,h,cond_false]
theorem Ac5 (t p s i n:Int) {r_:Int} (hI:Io t p s i n r_):WW t p s i n (λi' n'=>Io t p s i' n' r_∧lx ((s-i').toNat,0,0) ((s-i).toNat,0,0)) (λr__=>r__=r_):=by
 unfold Io at hI
 unfold WW
 try unfold Io
 obtain ⟨h0,h1,h2,h3,h4⟩:=hI
 refine ⟨λh=>?_, λh=>?_⟩
 ·simp only [decide_eq_true_eq] at h
  have hp:=VV (show i.toNat+1≤20 by omega)
  have hq:=QZ i.toNat
  rw [AdJ] at hp
  rw [Ic (by omega),Ic (by omega),Akj h0,AdJ]
  exact ⟨⟨by omega,by omega,h2,by rw [h3],h4⟩,BU⟩
 ·simp only [decide_eq_false_iff_not] at h
  rw [h3,h4,show i=s by omega]
theorem Aix:DZ 50 Aaa:=
 MC Dg Qi (I:=[1643000000004,1643000000003,1643000000001]) Try.func50 mix (B:=AY Try.f50) (by kernel_rfl) rfl (by kernel_rfl) 400
  λp0 t p s hb hp=>⟨[Px p0 t p s], λj=>iM [Ak (Hd.kd (Px p0 t p s)) (λi' n'=>Io t p s i' n' (BX t p s))] j (λ_=>False), λj=>iM [Ak (Hd.kd (Px p0 t p s)) (λi' n'=>((s-i').toNat,0,0))] j (λ_=>(0,0,0)),by kernel_rfl,⟨_, λ_ _ _=>by kernel_rfl,Ac4 t p s⟩,⟨λi n hI=>⟨_, λ_ _ _=>by kernel_rfl,Ac5 t p s i n hI⟩,trivial⟩⟩
def Aac:Tb:=(50,Aaa)::WV
theorem Sj:DU Aac:=Ej Aix Qi
def GR (k:Int):Int:=(bif k==0 then 32 else (bif k==1 then 21 else (bif k==2 then 16 else (bif k==3 then 10 else (bif k==4 then 8 else (bif k==5 then 5 else (bif k==6 then 4 else (bif k==7 then 3 else (bif k==8 then 2 else 0)))))))))
abbrev Aiy:Ct Sg:=⟨none,false,[.i .i64], .i .i64⟩
def WX:Entry Sg:=CP Aiy GR (λ_=>[])
theorem Agz:DZ 76 WX:=
 EG Dg Sj (I:=[]) Try.func76 mix (B:=AY Try.f76) (by kernel_rfl) rfl (by kernel_rfl) 400
  λ_ k hb hp=>⟨(GR k), .t, λ_ _ _=>by kernel_rfl,trivial,rfl⟩
def WY:Tb:=(76,WX)::Aac
theorem Qj:DU WY:=Ej Agz Sj
def Eb (s k:Int):Int:=(bif GR k==0||BX 1 4 s==0 then 0 else iS iB (iS iB (Int.tdiv (BX 1 4 s) (GR k))-Int.tmod (iS iB (Int.tdiv (BX 1 4 s) (GR k))) 16))
abbrev Akl:Ct Sg:=⟨none,false,[.i .i64, .i .i64], .i .i64⟩
def Aad:Entry Sg:=CP Akl Eb (λ_ _=>[])
theorem Aiz:DZ 48 Aad:=
 EG Dg Qj (I:=[]) Try.func48 mix (B:=AY Try.f48) (by kernel_rfl) rfl (by kernel_rfl) 400
  λ_ s k hb hp=>⟨(Eb s k),(.br (GR k==0||BX 1 4 s==0) .t (.need (GR k≠0) .t)), λ_ _ _=>by kernel_rfl,⟨λz0=>trivial, λz0=>⟨(by first|(simp only [kF,beq_eq_false_iff_ne,ne_eq] at z0;omega)|omega), λz1=>trivial⟩⟩,rfl⟩
def Aae:Tb:=(48,Aad)::WY
theorem Sm:DU Aae:=Ej Aiz Qj
theorem Akm:∀i:Nat,i<11→∀k:Nat,k<9→Ee (10+(i:Int)) (k:Int)=Eb (10+(i:Int)) (k:Int)∧0<Eb (10+(i:Int)) (k:Int):=by decide+kernel
theorem Ag0 {s:Int}:(BX 1 4 s==0)=decide (s<10∨20<s):=by
 by_cases h:s<10∨20<s
 ·have:Ap 1 4 s=false:=by
   simp only [Ap,Bool.and_eq_false_iff,decide_eq_false_iff_not];omega
  simp [BX,this,h]
 ·have:Ap 1 4 s=true:=by
   simp only [Ap,iG,decide_eq_true_eq];omega
  have:=QZ s.toNat
  simp only [BX, *,jW,cond_false,decide_false]
  simp;omega
theorem Oe {k:Int}:(Aq k==0)=decide (k<0∨9≤k):=by
 by_cases h:k<0∨9≤k
 ·have:(decide (k<0)||decide (k≥9))=true:=by simpa using h
  simp [Aq,this,h]
 ·rcases (by omega:k=0∨k=1∨k=2∨k=3∨k=4∨k=5∨k=6∨k=7∨k=8) with rfl|rfl|rfl|rfl|rfl|rfl|rfl|rfl|rfl<;>decide
theorem Akn (k:Int):Aq k=GR k:=by
 by_cases h:k<0∨9≤k
 ·have:(decide (k<0)||decide (k≥9))=true:=by simpa using h
  have e:∀n:Int,0≤n→n<9→(k==n)=false:= λn h0 h1=>by simp;omega
  simp [Aq,GR,this,e]
 ·rcases (by omega:k=0∨k=1∨k=2∨k=3∨k=4∨k=5∨k=6∨k=7∨k=8) with rfl|rfl|rfl|rfl|rfl|rfl|rfl|rfl|rfl<;>decide
theorem KO {s k:Int} (h:k<0∨9≤k∨s<10∨20<s):Ee s k=0∧Eb s k=0:=by
 have h1:(Aq k==0||decide (s<10)||decide (s>20))=true:=by
  rw [Oe];simp only [lS,decide_eq_true_eq];omega
 have h2:(GR k==0||BX 1 4 s==0)=true:=by
  rw [←Akn,Oe,Ag0];simp only [lS,decide_eq_true_eq];omega
 exact ⟨by simp only [Ee,h1,cond_true],by simp only [Eb,h2,cond_true]⟩
theorem Ac6 {s k:Int} (h:0≤k∧k<9∧10≤s∧s≤20):Ee s k=Eb s k∧0<Eb s k:=by
 have:=Akm (s-10).toNat (by omega) k.toNat (by omega)
 rwa [show (10+((s-10).toNat:Int))=s by omega,show ((k.toNat:Nat):Int)=k by omega] at this
theorem AdK (s k:Int):Ee s k=Eb s k:=by
 by_cases h:0≤k∧k<9∧10≤s∧s≤20
 ·exact (Ac6 h).1
 ·obtain ⟨h1,h2⟩:=KO (s:=s) (k:=k) (by omega);rw [h1,h2]
theorem Rf {s k:Int} (h:0≤k∧k<9):0<Eb s k↔10≤s∧s≤20:=by
 constructor
 ·intro h1
  apply Classical.byContradiction
  intro h2
  have:=(KO (s:=s) (k:=k) (by omega)).2
  omega
 ·intro h1;exact (Ac6 (by omega)).2
theorem Ai0 (s k:Int):0≤Eb s k:=by
 by_cases h:0≤k∧k<9∧10≤s∧s≤20
 ·have:=(Ac6 h).2;omega
 ·have:=(KO (s:=s) (k:=k) (by omega)).2;omega
def ED (s:Int):LI:=bif Eb s 0==0 then [] else (jQ 9).map λ(k:Nat)=>Eb s k
abbrev Ai1:Ct Sg:=⟨none,false,[.i .i64], .new 2 [some .i64]⟩
def WZ:Entry Sg:=CP Ai1 ED (λ_=>[])
def Xa (s:Int) (Q0:Int→Nat→LI→Prop) (R_:LI→Prop):Prop:=(Q0 (0) (0) ([]))
def Us (s k:Int) (n:Nat) (xs:LI) (Q0:Int→Nat→LI→Prop) (R_:LI→Prop):Prop:=(BH (decide (k<9)&&decide (Eb s k>0)) (Ba ((n+1)*8≤140737488355328) (Q0 (iS iB (k+1)) (n+1) (xs++[Eb s k]))) (R_ (xs)))
def Hq (s k:Int) (n:Nat) (xs r_:LI):Prop:=0≤k∧k≤9∧n=k.toNat∧xs=(jQ n).map (λ(k:Nat)=>Eb s k)∧(0<k→0<Eb s 0)∧r_=bif Eb s 0==0 then [] else (jQ 9).map λ(k:Nat)=>Eb s k
abbrev Og (p0:Addr) (s:Int):Hd Sg:=⟨none,[0,1,0,1,1],[.blk 0, .code [1,1,1]],[4,3,0],[.i .i64, .own 2 [some .i64], .ic .i64 (s)]⟩
theorem Aaf (s:Int):Xa s (λk' n' xs'=>Hq s k' n' xs' (ED s)) (λr__=>r__=(ED s)):=by
 unfold Xa
 try unfold Hq
 exact ⟨by omega,by omega,rfl,rfl, λh=>absurd h (by omega),rfl⟩
theorem Aag (s k:Int) (n:Nat) (xs:LI) {r_:LI} (hI:Hq s k n xs r_):Us s k n xs (λk' n' xs'=>Hq s k' n' xs' r_∧lx ((9-k').toNat,0,0) ((9-k).toNat,0,0)) (λr__=>r__=r_):=by
 unfold Hq at hI
 unfold Us
 try unfold Hq
 obtain ⟨h0,h1,h2,h3,h4,h5⟩:=hI
 refine ⟨λh=>⟨by omega, λ_=>?_⟩, λh=>?_⟩
 ·simp only [iG,decide_eq_true_eq] at h
  rw [Ic (by omega)]
  refine ⟨⟨by omega,by omega,by omega,?_, λ_=>?_,h5⟩,BU⟩
  ·rw [Aki,h3,h2,show ((k.toNat:Nat):Int)=k by omega]
  ·exact (Rf (by omega)).2 ((Rf (k:=k) (by omega)).1 h.2)
 ·show xs=r_
  simp only [Bool.and_eq_false_iff,decide_eq_false_iff_not] at h
  by_cases hk:k=0
  ·have hz:Eb s 0=0:=by
    have:=Ai0 s 0
    subst hk
    omega
   rw [h5,h3,h2,hk];simp [hz]
  ·have hp:=h4 (by omega)
   have hp2:=(Rf (s:=s) (k:=0) (by omega)).1 hp
   have hk9:k=9:=by
    apply Classical.byContradiction
    intro hn
    have:=(Rf (s:=s) (k:=k) (by omega)).2 hp2
    omega
   rw [h5,h3,h2,hk9]
   have:(Eb s 0==0)=false:=by simp;omega
   rw [this];rfl
theorem Ag1:DZ 75 WZ:=
 MC Dg Sm (I:=[411000000004,411000000003,411000000000]) Try.func75 mix (B:=AY Try.f75) (by kernel_rfl) rfl (by kernel_rfl) 400
  λp0 s hb hp=>⟨[Og p0 s], λj=>iM [Ak (Hd.kd (Og p0 s)) (λk' n' xs'=>Hq s k' n' xs' (ED s))] j (λ_=>False), λj=>iM [Ak (Hd.kd (Og p0 s)) (λk' n' xs'=>((9-k').toNat,0,0))] j (λ_=>(0,0,0)),by kernel_rfl,⟨_, λ_ _ _=>by kernel_rfl,Aaf s⟩,⟨λk n xs hI=>⟨_, λ_ _ _=>by kernel_rfl,Aag s k n xs hI⟩,trivial⟩⟩
def Xb:Tb:=(75,WZ)::Aae
theorem Qk:DU Xb:=Ej Ag1 Sm
def Lu (l:LI) (z:Int):Option Nat:=l.findIdx? λn=>decide (n≥z)
theorem Ut {l:LI} {z:Int} {i:Nat}:Lu l z=some i↔i<l.length∧l.getD i 0≥z∧∀j,j<i→¬(l.getD j 0≥z):=by
 have e:∀j (h:j<l.length),l.getD j 0=l[j]:= λj h=>by rw [iC,iK h];rfl
 unfold Lu
 rw [lN]
 constructor
 ·rintro ⟨h,h1,h2⟩
  refine ⟨h,by rw [e _ h];simpa using h1, λj hj=>?_⟩
  rw [e _ (by omega)];simpa using h2 j hj
 ·rintro ⟨h,h1,h2⟩
  refine ⟨h,by rw [e _ h] at h1;simpa using h1, λj hj=>?_⟩
  have:=h2 j hj
  rw [e _ (by omega)] at this;simpa using this
theorem Uu {l:LI} {z:Int}:Lu l z=none↔∀j,j<l.length→¬(l.getD j 0≥z):=by
 have e:∀j (h:j<l.length),l.getD j 0=l[j]:= λj h=>by rw [iC,iK h];rfl
 unfold Lu
 rw [mN]
 constructor
 ·intro h j hj
  have:=h _ (nT hj)
  rw [e _ hj];simpa using this
 ·intro h x hx
  obtain ⟨j,hj,rfl⟩:=List.getElem_of_mem hx
  have:=h j hj
  rw [e _ hj] at this;simpa using this
def Afw:Option Nat→Int×Bool
 |some k=>((k:Int),true)
 |none=>(0,false)
theorem AeC (s:Int):(ED s).length≤9:=by
 unfold ED;cases (Eb s 0==0)<;>simp
def IQ (s z:Int):Int×Bool:=bif decide (z<1) then (0,false) else Afw (Lu (ED s) z)
abbrev Ana:Ct Sg:=⟨none,false,[.i .i64, .i .i64], .tup [.i .i64, .b]⟩
def Ag2:Entry Sg:=CP Ana IQ (λ_ _=>[])
def Ag3 (s z:Int) (Q0:Int→Nat→LI→Prop) (R_:Int×Bool→Prop):Prop:=(∀r0:LI,r0=(ED s)→(Q0 (0) (iN r0) (r0)))
def AdL (s z k:Int) (n:Nat) (xs:LI) (Q0:Int→Nat→LI→Prop) (R_:Int×Bool→Prop):Prop:=(BH (decide (k<(↑n:Int))&&decide (z≥1)) (Ba (0≤k∧k<(↑n:Int)) (BH (decide (iM xs (jL k) 0≥z)) (R_ ((k,true))) (Q0 (iS iB (k+1)) (n) (xs)))) (R_ ((0,false))))
def Jo (s z k:Int) (n:Nat) (xs:LI) (r_:Int×Bool):Prop:=n=xs.length∧xs=ED s∧0≤k∧k≤(ED s).length∧(∀j:Nat,j<k.toNat→¬((ED s).getD j 0≥z))∧r_=IQ s z
abbrev Uw (p0:Addr) (s z:Int):Hd Sg:=⟨none,[0,1,0,1,1],[.blk 0, .code [1,1,1]],[7,6,1],[.i .i64, .own 2 [some .i64], .ic .i64 (z)]⟩
theorem Ag4 (s z:Int):Ag3 s z (λk' n' xs'=>Jo s z k' n' xs' (IQ s z)) (λr__=>r__=(IQ s z)):=by
 unfold Ag3
 try unfold Jo
 rintro _ rfl
 exact ⟨rfl,rfl,by omega,by omega, λj hj=>absurd hj (kR j),rfl⟩
theorem Ag5 (s z k:Int) (n:Nat) (xs:LI) {r_:Int×Bool} (hI:Jo s z k n xs r_):AdL s z k n xs (λk' n' xs'=>Jo s z k' n' xs' r_∧lx (((ED s).length-k').toNat,0,0) (((ED s).length-k).toNat,0,0)) (λr__=>r__=r_):=by
 unfold Jo at hI
 unfold AdL
 try unfold Jo
 obtain ⟨rfl,rfl,h0,h1,h2,h3⟩:=hI
 have hl:=AeC s
 refine ⟨λh=>?_, λh=>?_⟩
 ·simp only [iG,decide_eq_true_eq] at h
  have hz:decide (z<1)=false:=by simp;omega
  refine ⟨by omega, λ_=>⟨λhg=>?_, λhg=>?_⟩⟩
  ·simp only [decide_eq_true_eq] at hg
   have:=Ut.2 ⟨by omega,hg,h2⟩
   show (k,true)=r_
   simp only [h3,IQ,hz,this,cond_false,Afw]
   rw [show ((k.toNat:Nat):Int)=k by omega]
  ·simp only [decide_eq_false_iff_not] at hg
   rw [Ic (by omega)]
   refine ⟨⟨rfl,rfl,by omega,by omega, λj hj=>?_,h3⟩,BU⟩
   by_cases hk:j=k.toNat
   ·subst hk;exact hg
   ·exact h2 j (by omega)
 ·simp only [Bool.and_eq_false_iff,decide_eq_false_iff_not] at h
  show ((0:Int),false)=r_
  rw [h3]
  by_cases hz:z<1
  ·simp [IQ,hz]
  ·have:=Uu (l:=ED s) (z:=z) |>.2 λj hj=>h2 j (by omega)
   simp [IQ,hz,this,Afw]
theorem Al9:DZ 47 Ag2:=
 MC Dg Qk (I:=[411000000007,411000000006,411000000001]) Try.func47 mix (B:=AY Try.f47) (by kernel_rfl) rfl (by kernel_rfl) 400
  λp0 s z hb hp=>⟨[Uw p0 s z], λj=>iM [Ak (Hd.kd (Uw p0 s z)) (λk' n' xs'=>Jo s z k' n' xs' (IQ s z))] j (λ_=>False), λj=>iM [Ak (Hd.kd (Uw p0 s z)) (λk' n' xs'=>(((ED s).length-k').toNat,0,0))] j (λ_=>(0,0,0)),by kernel_rfl,⟨_, λ_ _ _=>by kernel_rfl,Ag4 s z⟩,⟨λk n xs hI=>⟨_, λ_ _ _=>by kernel_rfl,Ag5 s z k n xs hI⟩,trivial⟩⟩
def Ag6:Tb:=(47,Ag2)::Xb
theorem Xc:DU Ag6:=Ej Al9 Qk
end
section
open Go.Sl
def Gy (n z:Int):Bool:=decide (n≥z)
def Sr (r_:Bool):List Value→Value:= λss=> .bool (r_)
def Ux (r_:Bool):List (Chunk Sg):=[]
def Ql (r_:Bool):List (Mk Sg):=[]
section
variable (n z:Int) (b_0:Nat)
theorem Aah {E_:Ev} {G_:Hp} {w_:World} (hr0:G_ b_0=some (.cells ([.int .i64 z]:List Value).toArray 2 (0,0))) (hS:Sat E_ G_ w_ []):Calls Try.prog 73 #[(.int .i64 n),(.pointer (some ⟨b_0,0,none⟩))] w_ (Post Dg E_ G_ (Sr (Gy n z)) (Ux (Gy n z)) (Ql (Gy n z))):=
 EO Dg Xc (I:=[]) Try.func73 mix (B:=AY Try.f73) (by kernel_rfl) [(.int .i64 n),(.pointer (some ⟨b_0,0,none⟩))] [.no, .pt 0 (.cell 0)] (by kernel_rfl) (objs:=[]) (ros:=[.roc b_0 2 [.int .i64 z]]) (Eh AA (Eh (Aga rfl rfl) (F7))) (by kernel_rfl) (⟨hr0,trivial⟩) hS 400
  (t:=Tree.ret (oM (decide (n≥z))) Ar [Chunk.roc b_0 2 [Am z]])
  (by kernel_rfl)
  (DR.at (outf:=Sr) (nwf:=Ux) (rowsf:=Ql) (r:=decide (n≥z)) (by first|exact Eq.symm rfl|(simp only [Gy,cond_true,cond_false];done)|(exfalso;simp_all;done)|decide) ⟨[],[],(by decide),rfl,rfl,trivial⟩)
end
def Py:Entry Sg:= λ
 |[(.int .i64 n,_),(_, .cells 2 [.int .i64 z])]=>some ⟨(Gy n z), λ(r_:Bool)=>⟨[],none,[], λss=> .bool (r_), λk_=> .no⟩⟩
 |_=>none
theorem Ag7:Fv Dg Try.prog 73 Py:=by
 intro args c r h hr_
 unfold Py at h
 split at h
 ·injection h with h;subst h;subst hr_
  refine ⟨λK acs _=>AA, λhpre E G w hi hS=>?_⟩
  have hi_0:=hi _ (iV (i:=1) rfl)
  simp only [F5] at hi_0
  obtain ⟨b_0,e_0,hr0⟩:=hi_0
  subst e_0
  exact IG Dg (by exact rfl) (Aah _ _ _ hr0 hS)
 ·cases h
def Xd:List (Nat×Entry Sg):=(73,Py)::Ag6
theorem L6:Cb Dg Try.prog Xd:=Cb.cons Dg Ag7 Xc
def KP:Option Nat→Int
 |some k=>(k:Int)
 |none=> -1
def Aai:List Nat:=[103000000008,103000000007,103000000000,103000000001]
def Hf (xs:LI) (z:Int):Int:=KP (Lu xs z)
def FH (r_:Int):List Value→Value:= λss=> .int .i64 (r_)
def FZ (r_:Int):List (Chunk Sg):=[]
def EZ (r_:Int):List (Mk Sg):=[]
section
variable (xs:LI) (z:Int) (a_0:Option Addr) (c_0 b_1:Nat)
abbrev IJ:Type:=Int→Prop
abbrev Ns (xs:LI) (z:Int) (a_0:Option Addr) (c_0 b_1:Nat) (i:Int):List Aj:=[⟨8,none, .int .i64 i, .no⟩,⟨7,none, .int .i64 xs.length, .no⟩,⟨0,none, .slice a_0 xs.length c_0, .pt 0 .slice⟩,⟨1,none, .func (.func 73) #[] #[.pointer (some ⟨b_1,0,none⟩)], .many [.pt 1 (.cell 0)]⟩]
abbrev Nu (xs:LI) (z:Int) (a_0:Option Addr) (c_0 b_1:Nat) (i:Int):List (Chunk Sg):=[.ro a_0 xs.length c_0 [.ints .i64 xs], .roc b_1 2 [.int .i64 z]]
abbrev OI (E_:Ev) (G_:Hp) (xs:LI) (z:Int) (a_0:Option Addr) (c_0 b_1:Nat) (r_:Int) (Q1:IJ):Prop:=(∀(i:Int),Q1 i→Sl.SW Dg Try.prog (71:FuncId) (Post Dg E_ G_ (FH r_) (FZ r_) (EZ r_)) (AY Try.f71) Try.f71.ntmps E_ G_ (.code (0::[0,1,0,1]):: .again [0,1,0,1]::[.blk 0, .code [1,1]]) (Ns xs z a_0 c_0 b_1 i) (Nu xs z a_0 c_0 b_1 i))
abbrev LU (xs:LI) (z:Int) (a_0:Option Addr) (c_0 b_1:Nat) (Q1:IJ) (R_:Int→Prop):Prop:=(Q1 ((0:Int)))
abbrev Aaj (xs:LI) (z:Int) (a_0:Option Addr) (c_0 b_1:Nat):Tree Sg:=Tree.stuck [Ab.code [0,1,0,1],Ab.blk 0,Ab.code [1,1]] [Hy 8 (Am (0:Int)) Ar,Hy 7 (Am (↑(iN xs):Int)) Ar,Hy 0 (lA a_0 (iN xs) c_0) (ps_ 0),Hy 1 (lU (Fn.func 73) {toList:=[]} {toList:=[vp_ b_1]}) (Pr.many [pc_ 1 0])] [Chunk.ro a_0 (iN xs) c_0 [ci_ xs],Chunk.roc b_1 2 [Am z]]
theorem Ai2 {E_:Ev} {G_:Hp} {r_:Int} {Q1:IJ} (hQ:OI E_ G_ xs z a_0 c_0 b_1 r_ Q1) (h:LU xs z a_0 c_0 b_1 Q1 (λx=>x=r_)):(Aaj xs z a_0 c_0 b_1).holds (DR (FH r_) (FZ r_) (EZ r_)) (Sl.SW Dg Try.prog (71:FuncId) (Post Dg E_ G_ (FH r_) (FZ r_) (EZ r_)) (AY Try.f71) Try.f71.ntmps E_ G_):=
 Sl.SW.move Dg [8,7,0,1] [0,1] (by decide) (by kernel_rfl) (by kernel_rfl) (Sl.SW.enter Dg (by kernel_rfl) (hQ ((0:Int)) h))
abbrev LV (xs:LI) (z:Int) (a_0:Option Addr) (c_0 b_1:Nat) (i:Int) (Q1:IJ) (R_:Int→Prop):Prop:=(((decide (i<(↑(iN xs):Int)))=true→(((0:Int)≤i∧i<(↑(iN xs):Int))∧(((0:Int)≤i∧i<(↑(iN xs):Int))→(((Gy (iM xs (jL i) (0:Int)) z)=true→(R_ (i)))∧((Gy (iM xs (jL i) (0:Int)) z)=false→(Q1 (iS iB (i+(1:Int)))))))))∧((decide (i<(↑(iN xs):Int)))=false→(R_ ((-1:Int)))))
abbrev Aak (xs:LI) (z:Int) (a_0:Option Addr) (c_0 b_1:Nat) (i:Int):Tree Sg:=Tree.br (decide (i<(↑(iN xs):Int))) (Tree.need ((0:Int)≤i∧i<(↑(iN xs):Int)) (Tree.br (Gy (iM xs (jL i) (0:Int)) z) (Tree.ret (Am i) Ar [Chunk.ro a_0 (iN xs) c_0 [ci_ xs],Chunk.roc b_1 2 [Am z]]) (Tree.stuck [Ab.again [0,1,0,1],Ab.blk 0,Ab.code [1,1]] [Hy 8 (Am (iS iB (i+(1:Int)))) Ar,Hy 18 (Am (iS iB (i+(1:Int)))) Ar,Hy 16 (oM (Gy (iM xs (jL i) (0:Int)) z)) Ar,Hy 15 (Am (iM xs (jL i) (0:Int))) Ar,Hy 14 (kH (mG (λa=>Addr.add a (jL i*1)) a_0)) (lE 0 (PK.elem (jL i) 0)),Hy 13 (Am i) Ar,Hy 12 (lA a_0 (iN xs) c_0) (ps_ 0),Hy 11 (lU (Fn.func 73) {toList:=[]} {toList:=[vp_ b_1]}) (Pr.many [pc_ 1 0]),Hy 5 (Am i) Ar,Hy 10 (Am i) Ar,Hy 9 (oM (decide (i<(↑(iN xs):Int)))) Ar,Hy 7 (Am (↑(iN xs):Int)) Ar,Hy 0 (lA a_0 (iN xs) c_0) (ps_ 0),Hy 1 (lU (Fn.func 73) {toList:=[]} {toList:=[vp_ b_1]}) (Pr.many [pc_ 1 0])] [Chunk.ro a_0 (iN xs) c_0 [ci_ xs],Chunk.roc b_1 2 [Am z]]))) (Tree.ret (Am (-1:Int)) Ar [Chunk.ro a_0 (iN xs) c_0 [ci_ xs],Chunk.roc b_1 2 [Am z]])
theorem Ai3 {E_:Ev} {G_:Hp} (i:Int) {r_:Int} {Q1:IJ} (hQ:OI E_ G_ xs z a_0 c_0 b_1 r_ Q1) (h:LV xs z a_0 c_0 b_1 i Q1 (λx=>x=r_)):(Aak xs z a_0 c_0 b_1 i).holds (DR (FH r_) (FZ r_) (EZ r_)) (Sl.SW Dg Try.prog (71:FuncId) (Post Dg E_ G_ (FH r_) (FZ r_) (EZ r_)) (AY Try.f71) Try.f71.ntmps E_ G_):=
 ⟨λz0=>⟨(h.1 z0).1, λz1=>⟨λz2=>DR.at (outf:=FH) (nwf:=FZ) (rowsf:=EZ) (r:=i) (((h.1 z0).2 z1).1 z2) ⟨[],[],(by decide),rfl,rfl,trivial⟩, λz2=>Sl.SW.move Dg [8,7,0,1] [0,1] (by decide) (by kernel_rfl) (by kernel_rfl) (Sl.SW.again Dg (hQ (iS iB (i+(1:Int))) (((h.1 z0).2 z1).2 z2)))⟩⟩, λz0=>DR.at (outf:=FH) (nwf:=FZ) (rowsf:=EZ) (r:=(-1:Int)) (h.2 z0) ⟨[],[],(by decide),rfl,rfl,trivial⟩⟩
theorem Ai4 {E_:Ev} {G_:Hp} (i:Int) {r_:Int} {Q1:IJ} (hQ:OI E_ G_ xs z a_0 c_0 b_1 r_ Q1) (h:LV xs z a_0 c_0 b_1 i Q1 (λx=>x=r_)):Sl.SW Dg Try.prog (71:FuncId) (Post Dg E_ G_ (FH r_) (FZ r_) (EZ r_)) (AY Try.f71) Try.f71.ntmps E_ G_ (.code (0::[0,1,0,1]):: .again [0,1,0,1]::[.blk 0, .code [1,1]]) (Ns xs z a_0 c_0 b_1 i) (Nu xs z a_0 c_0 b_1 i):=
 Sl.SW.go Dg L6 (I:=Aai) Try.func71 mix 400 (t:=Aak xs z a_0 c_0 b_1 i) (by kernel_rfl) (Ai3 xs z a_0 c_0 b_1 i hQ h)
theorem AeD {E_:Ev} {G_:Hp} {w_:World} (hr0:En G_ a_0 xs.length [.ints .i64 xs]∧xs.length≤c_0) (hr1:G_ b_1=some (.cells ([.int .i64 z]:List Value).toArray 2 (0,0))) {r_:Int} {Q1:IJ} (hQ:OI E_ G_ xs z a_0 c_0 b_1 r_ Q1) (hS:Sat E_ G_ w_ []) (h:LU xs z a_0 c_0 b_1 Q1 (λx=>x=r_)):Calls Try.prog 71 #[(.slice a_0 xs.length c_0),(.func (.func 73) #[] #[.pointer (some ⟨b_1,0,none⟩)])] w_ (Post Dg E_ G_ (FH r_) (FZ r_) (EZ r_)):=
 EO Dg L6 (I:=Aai) Try.func71 mix (B:=AY Try.f71) (by kernel_rfl) [(.slice a_0 xs.length c_0),(.func (.func 73) #[] #[.pointer (some ⟨b_1,0,none⟩)])] [.pt 0 .slice, .many [.pt 1 (.cell 0)]] (by kernel_rfl) (objs:=[]) (ros:=[.ro a_0 xs.length c_0 [.ints .i64 xs], .roc b_1 2 [.int .i64 z]]) (Eh (Aga rfl rfl) (Eh (AmS (Eh (Aga rfl rfl) (F7))) (F7))) (by kernel_rfl) (⟨hr0,hr1,trivial⟩) hS 400
  (t:=Aaj xs z a_0 c_0 b_1)
  (by kernel_rfl)
  (Ai2 xs z a_0 c_0 b_1 hQ h)
def I9 (xs:LI) (z:Int) (a_0:Option Addr) (c_0 b_1:Nat) (i r_:Int):Prop:=0≤i∧i≤xs.length∧(∀j:Nat,j<i.toNat→¬(xs.getD j 0≥z))∧r_=Hf xs z∧xs.length≤9223372036854775807
theorem Ag8 (i:Int) {r_:Int} (hI:I9 xs z a_0 c_0 b_1 i r_):LV xs z a_0 c_0 b_1 i (λi'=>I9 xs z a_0 c_0 b_1 i' r_∧((xs.length-i').toNat)<((xs.length-i).toNat)) (λx=>x=r_):=by
 unfold I9 at hI
 unfold LV I9
 obtain ⟨h0,h1,h2,h3,hl⟩:=hI
 refine ⟨λh=>?_, λh=>?_⟩
 ·simp only [decide_eq_true_eq] at h
  refine ⟨by omega, λ_=>⟨λhg=>?_, λhg=>?_⟩⟩
  ·simp only [Gy,decide_eq_true_eq] at hg
   have:=Ut.2 ⟨by omega,hg,h2⟩
   show i=r_
   simp only [h3,Hf,this,KP]
   omega
  ·simp only [Gy,decide_eq_false_iff_not] at hg
   rw [Ic (by omega)]
   refine ⟨⟨by omega,by omega, λj hj=>?_,h3,hl⟩,by omega⟩
   by_cases hk:j=i.toNat
   ·subst hk;exact hg
   ·exact h2 j (by omega)
 ·simp only [decide_eq_false_iff_not] at h
  show (-1:Int)=r_
  have:=Uu (l:=xs) (z:=z) |>.2 λj hj=>h2 j (by omega)
  simp only [h3,Hf,this,KP]
theorem Ag9 {E_:Ev} {G_:Hp} {r_:Int}:∀s_:Int,I9 xs z a_0 c_0 b_1 s_ r_→Sl.SW Dg Try.prog (71:FuncId) (Post Dg E_ G_ (FH r_) (FZ r_) (EZ r_)) (AY Try.f71) Try.f71.ntmps E_ G_ (.code (0::[0,1,0,1]):: .again [0,1,0,1]::[.blk 0, .code [1,1]]) (Ns xs z a_0 c_0 b_1 s_) (Nu xs z a_0 c_0 b_1 s_):=
 Sl.SW.loop Dg (α:=Int) (λs_=>Ns xs z a_0 c_0 b_1 s_) (λs_=>Nu xs z a_0 c_0 b_1 s_) (λs_=>(xs.length-s_).toNat) (λs_=>I9 xs z a_0 c_0 b_1 s_ r_) (λi hI ih=>Ai4 xs z a_0 c_0 b_1 i (λi' h=>ih i' h.1 h.2) (Ag8 xs z a_0 c_0 b_1 i hI))
theorem AeE (hl0:xs.length≤9223372036854775807):LU xs z a_0 c_0 b_1 (λi=>I9 xs z a_0 c_0 b_1 i (Hf xs z)) (λx=>x=(Hf xs z)):=by
 unfold LU I9
 exact ⟨by omega,by omega, λj hj=>absurd hj (kR j),rfl,hl0⟩
theorem AeF {E_:Ev} {G_:Hp} {w_:World} (hr0:En G_ a_0 xs.length [.ints .i64 xs]∧xs.length≤c_0) (hr1:G_ b_1=some (.cells ([.int .i64 z]:List Value).toArray 2 (0,0))) (hS:Sat E_ G_ w_ []):Calls Try.prog 71 #[(.slice a_0 xs.length c_0),(.func (.func 73) #[] #[.pointer (some ⟨b_1,0,none⟩)])] w_ (Post Dg E_ G_ (FH (Hf xs z)) (FZ (Hf xs z)) (EZ (Hf xs z))):=
 AeD xs z a_0 c_0 b_1 hr0 hr1 (λi h=>Ag9 xs z a_0 c_0 b_1 i h) hS (AeE xs z a_0 c_0 b_1 hr0.1.bound)
end
def Uy:Entry Sg:= λ
 |[(_, .row n_0 [.ints .i64 xs]),(.func (.func 73) ⟨[]⟩ ⟨[_]⟩, .many [.cells 2 [.int .i64 z]])]=>some ⟨(Hf xs z), λ(r_:Int)=>⟨[],none,[], λss=> .int .i64 (r_), λk_=> .no⟩⟩
 |_=>none
theorem Ako:Fv Dg Try.prog 71 Uy:=by
 intro args c r h hr_
 unfold Uy at h
 split at h
 ·injection h with h;subst h;subst hr_
  refine ⟨λK acs _=>AA, λhpre E G w hi hS=>?_⟩
  have hi_0:=hi _ (iV (i:=0) rfl)
  simp only [F5,F6,and_true,true_and] at hi_0
  obtain ⟨a_0,c_0,e_0,hr0⟩:=hi_0
  replace hr0:=And.intro hr0.1 hr0.2.1
  have l_0:=hr0.1.len
  simp only [Au.len] at l_0
  subst l_0
  subst e_0
  have hi_1:=hi _ (iV (i:=1) rfl)
  simp only [F5,F6] at hi_1
  obtain ⟨⟨b_1,e_1,hr1⟩,_⟩:=hi_1
  subst e_1
  exact IG Dg (by exact rfl) (AeF _ _ _ _ _ hr0 hr1 hS)
 ·cases h
def AdM:List (Nat×Entry Sg):=(71,Uy)::Xd
theorem Uz:Cb Dg Try.prog AdM:=Cb.cons Dg Ako L6
end
section
open Go.Sl
def L8 (s z:Int):Int×Bool:=(bif decide (z<1) then (0,false) else (let r2:LI:=Gu s;(if 0>Hf r2 z then 0 else Hf r2 z,decide (Hf r2 z≥0))))
abbrev Akp:Ct Sg:=⟨none,false,[.i .i64, .i .i64], .tup [.i .i64, .b]⟩
def Aal:Entry Sg:=CP Akp L8 (λ_ _=>[])
theorem Ai5:DZ 42 Aal:=
 EG Dg Uz (I:=[]) Try.func42 mix (B:=AY Try.f42) (by kernel_rfl) rfl (by kernel_rfl) 400
  λ_ s z hb hp=>⟨(L8 s z), .t, λ_ _ _=>by kernel_rfl,trivial,rfl⟩
def Aam:Tb:=(42,Aal)::AdM
theorem Su:DU Aam:=Ej Ai5 Uz
def LW (t p s:Int):LI×LI×LI:=([t,p,s],[1,4,10],[16,1024,20])
abbrev AeG:Ct Sg:=⟨none,false,[.agg [.i .i64, .i .i64, .i .i64]], .new 101 [some .i64,some .i64,some .i64]⟩
def Sv:Entry Sg:=CP AeG LW (λ_ _ _=>[])
theorem Ac7:DZ 79 Sv:=
 EG Dg Su (I:=[]) Try.func79 mix (B:=AY Try.f79) (by kernel_rfl) rfl (by kernel_rfl) 400
  λ_ t p s hb hp=>⟨(LW t p s), .t, λ_ _ _=>by kernel_rfl,trivial,rfl⟩
def Sz:Tb:=(79,Sv)::Aam
theorem Oh:DU Sz:=Ej Ac7 Su
def FU (n lo hi:Int):Bool:=decide (n<lo)||decide (n>hi)
abbrev AeH:Ct Sg:=⟨none,false,[.agg [.i .i64, .i .i64, .i .i64]], .b⟩
def S9:Entry Sg:=CP AeH FU (λ_ _ _=>[])
theorem Ac8:DZ 80 S9:=
 EG Dg Oh (I:=[]) Try.func80 mix (B:=AY Try.f80) (by kernel_rfl) rfl (by kernel_rfl) 400
  λ_ n lo hi hb hp=>⟨(FU n lo hi), .t, λ_ _ _=>by kernel_rfl,trivial,rfl⟩
def SA:Tb:=(80,S9)::Sz
theorem Oi:DU SA:=Ej Ac8 Oh
def Qm (n:Nat) (p:Nat→Bool):Option Nat:=(jQ n).find? p
theorem Xe {n i:Nat} {p:Nat→Bool}:Qm n p=some i↔p i=true∧i<n∧∀j,j<i→p j=false:=by
 unfold Qm
 rw [List.find?_range_eq_some]
 simp
theorem Xf {n:Nat} {p:Nat→Bool}:Qm n p=none↔∀j,j<n→p j=false:=by
 unfold Qm
 rw [List.find?_range_eq_none]
 simp
def IK (xs ys zs:LI):Int:=KP (Qm xs.length λj=>FU (xs.getD j 0) (ys.getD j 0) (zs.getD j 0))
abbrev Akq:Ct Sg:=⟨none,false,[.ro [some .i64,some .i64,some .i64], .fn 80], .i .i64⟩
def Aan:Entry Sg:=CP Akq IK (λ_ _ _=>[])
def Aao (xs ys zs:LI) (Q0:Int→Prop) (R_:Int→Prop):Prop:=(Q0 (0))
def Xg (xs ys zs:LI) (i:Int) (Q0:Int→Prop) (R_:Int→Prop):Prop:=(BH (decide (i<(↑(iN xs):Int))) (Ba (0≤i∧i<(↑(iN xs):Int)) (BH (FU (iM xs (jL i) 0) (iM ys (jL i) 0) (iM zs (jL i) 0)) (R_ (i)) (Q0 (iS iB (i+1))))) (R_ ((-1))))
def Ip (xs ys zs:LI) (i r_:Int):Prop:=0≤i∧i≤xs.length∧(∀j:Nat,j<i.toNat→FU (xs.getD j 0) (ys.getD j 0) (zs.getD j 0)=false)∧r_=IK xs ys zs
abbrev Pz (p0:Addr) (xs ys zs:LI):Hd Sg:=⟨none,[0,1,0,1],[.blk 0, .code [1,1]],[8,7,0,1],[.i .i64, .ic .i64 ((xs.length:Int)), .roc [.ints .i64 (xs), .ints .i64 (ys), .ints .i64 (zs)], .fn 80]⟩
theorem Ac9 (xs ys zs:LI) (hl0:xs.length≤9223372036854775807):Aao xs ys zs (λi'=>Ip xs ys zs i' (IK xs ys zs)) (λr__=>r__=(IK xs ys zs)):=by
 unfold Aao
 try unfold Ip
 exact ⟨by omega,by omega, λj hj=>absurd hj (kR j),rfl⟩
theorem AcA (xs ys zs:LI) (hl0:xs.length≤9223372036854775807) (i:Int) {r_:Int} (hI:Ip xs ys zs i r_):Xg xs ys zs i (λi'=>Ip xs ys zs i' r_∧lx ((xs.length-i').toNat,0,0) ((xs.length-i).toNat,0,0)) (λr__=>r__=r_):=by
 unfold Ip at hI
 unfold Xg
 try unfold Ip
 obtain ⟨h0,h1,h2,h3⟩:=hI
 refine ⟨λh=>?_, λh=>?_⟩
 ·simp only [decide_eq_true_eq] at h
  refine ⟨by omega, λ_=>⟨λhg=>?_, λhg=>?_⟩⟩
  ·have:=(Xe (n:=xs.length) (p:= λj=>FU (xs.getD j 0) (ys.getD j 0) (zs.getD j 0))).2 ⟨hg,by omega,h2⟩
   show i=r_
   simp only [h3,IK,this,KP]
   omega
  ·rw [Ic (by omega)]
   refine ⟨⟨by omega,by omega, λj hj=>?_,h3⟩,BU⟩
   by_cases hk:j=i.toNat
   ·subst hk;exact hg
   ·exact h2 j (by omega)
 ·simp only [decide_eq_false_iff_not] at h
  show (-1:Int)=r_
  have:=(Xf (n:=xs.length) (p:= λj=>FU (xs.getD j 0) (ys.getD j 0) (zs.getD j 0))).2 λj hj=>h2 j (by omega)
  simp only [h3,IK,this,KP]
theorem Ai6:DZ 86 Aan:=
 MC Dg Oi (I:=[103000000008,103000000007,103000000000,103000000001]) Try.func86 mix (B:=AY Try.f86) (by kernel_rfl) rfl (by kernel_rfl) 400
  λp0 xs ys zs hb hp=>have hl0:xs.length≤9223372036854775807:=hb.1;⟨[Pz p0 xs ys zs], λj=>iM [Ak (Hd.kd (Pz p0 xs ys zs)) (λi'=>Ip xs ys zs i' (IK xs ys zs))] j (λ_=>False), λj=>iM [Ak (Hd.kd (Pz p0 xs ys zs)) (λi'=>((xs.length-i').toNat,0,0))] j (λ_=>(0,0,0)),by kernel_rfl,⟨_, λ_ _ _=>by kernel_rfl,Ac9 xs ys zs hl0⟩,⟨λi hI=>⟨_, λ_ _ _=>by kernel_rfl,AcA xs ys zs hl0 i hI⟩,trivial⟩⟩
def Aap:Tb:=(86,Aan)::SA
theorem SB:DU Aap:=Ej Ai6 Oi
def JJ (xs ys zs:LI):Bool:=decide (IK xs ys zs≥0)
abbrev AeI:Ct Sg:=⟨none,false,[.ro [some .i64,some .i64,some .i64], .fn 80], .b⟩
def SC:Entry Sg:=CP AeI JJ (λ_ _ _=>[])
theorem AcB:DZ 78 SC:=
 EG Dg SB (I:=[]) Try.func78 mix (B:=AY Try.f78) (by kernel_rfl) rfl (by kernel_rfl) 400
  λ_ xs ys zs hb hp=>have hl0:xs.length≤9223372036854775807:=hb.1;⟨(JJ xs ys zs), .t, λ_ _ _=>by kernel_rfl,trivial,rfl⟩
def SE:Tb:=(78,SC)::Aap
theorem Oj:DU SE:=Ej AcB SB
def Eu (t p s:Int):Int:=(let r1:LI×LI×LI:=LW t p s;(bif JJ r1.1 r1.2.1 r1.2.2 then 1 else 0))
abbrev AgA:Ct Sg:=⟨none,false,[.agg [.i .i64, .i .i64, .i .i64]], .i .i64⟩
def U0:Entry Sg:=CP AgA Eu (λ_ _ _=>[])
theorem AeJ:DZ 58 U0:=
 EG Dg Oj (I:=[]) Try.func58 mix (B:=AY Try.f58) (by kernel_rfl) rfl (by kernel_rfl) 400
  λ_ t p s hb hp=>⟨(Eu t p s), .t, λ_ _ _=>by kernel_rfl,trivial,rfl⟩
def U1:Tb:=(58,U0)::SE
theorem OJ:DU U1:=Ej AeJ Oj
theorem JP (t p s:Int):Eu t p s=bif Ap t p s then 0 else 1:=by
 have e:∀o:Option Nat,decide (KP o≥0)=o.isSome:= λo=>by cases o<;>simp [KP]
 have h:JJ [t,p,s] [1,4,10] [16,1024,20]=!Ap t p s:=by
  unfold JJ IK
  rw [e]
  cases hf:Qm [t,p,s].length (λj=>FU ([t,p,s].getD j 0) ([1,4,10].getD j 0) ([16,1024,20].getD j 0)) with
  |none=>
   have hn:=Xf.1 hf
   have h0:=hn 0 (by simp)
   have h1:=hn 1 (by simp)
   have h2:=hn 2 (by simp)
   simp [FU] at h0 h1 h2
   have:Ap t p s=true:=by simp only [Ap,iG,decide_eq_true_eq];omega
   rw [this];rfl
  |some j=>
   obtain ⟨h1,h2,_⟩:=Xe.1 hf
   have:Ap t p s=false:=by
    apply Bool.eq_false_iff.2
    intro hr
    simp only [Ap,iG,decide_eq_true_eq] at hr
    have hj:j=0∨j=1∨j=2:=by simp at h2;omega
    rcases hj with rfl|rfl|rfl<;>simp [FU] at h1<;>omega
   rw [this];rfl
 unfold Eu
 simp only [LW,h]
 cases Ap t p s<;>rfl
theorem OL {t p s:Int}:Ap t p s=true↔(1≤t∧t≤16)∧(4≤p∧p≤1024)∧10≤s∧s≤20:=by
 simp only [Ap,iG,decide_eq_true_eq];omega
theorem AlA {t p s:Int} (h:(Eu t p s !=0)=false):0≤s:=by
 rw [JP] at h
 cases hr:Ap t p s with
 |true=>have:=OL.1 hr;omega
 |false=>rw [hr] at h;simp at h
theorem Ap6 {t p s:Int} (h:Ap t p s=true):BX t p s≠0:=by
 have:=QZ s.toNat
 simp only [BX,h,jW,cond_false];omega
theorem AgB {t p s:Int} {b:Bool} (h:(!Ap t p s||b)=false):BX t p s≠0:=Ap6 (by simpa using (kF.1 h).1)
theorem Qn {t p s:Int} {b c:Bool} (h:(!Ap t p s||b||c)=false):BX t p s≠0:=AgB (kF.1 h).1
theorem VW {t p s:Int} {b c d:Bool} (h:(!Ap t p s||b||c||d)=false):BX t p s≠0:=Qn (kF.1 h).1
def Gh (t p s:Int):Int:=(bif Eu t p s !=0 then 0 else iS iB ((1:Int)*2^min (jL s) 64))
abbrev Ai7:Ct Sg:=⟨none,false,[.agg [.i .i64, .i .i64, .i .i64]], .i .i64⟩
def Xh:Entry Sg:=CP Ai7 Gh (λ_ _ _=>[])
theorem AgC:DZ 44 Xh:=
 EG Dg OJ (I:=[]) Try.func44 mix (B:=AY Try.f44) (by kernel_rfl) rfl (by kernel_rfl) 400
  λ_ t p s hb hp=>⟨(Gh t p s),(.br (Eu t p s !=0) .t (.need (0≤s) .t)), λ_ _ _=>by kernel_rfl,⟨λz1=>trivial, λz1=>⟨(by exact AlA (by assumption)), λz2=>trivial⟩⟩,rfl⟩
def Xi:Tb:=(44,Xh)::U1
theorem Qo:DU Xi:=Ej AgC OJ
theorem Jp (t p s:Int):Gh t p s=BX t p s:=by
 unfold Gh BX
 rw [JP]
 cases hr:Ap t p s with
 |false=>rfl
 |true=>
  have:=OL.1 hr
  have h1:=QZ s.toNat
  have h2:=VV (show s.toNat≤20 by omega)
  simp only [cond_true,jW,cond_false,bne_self_eq_false]
  rw [show min s.toNat 64=s.toNat by omega,Int.one_mul,Ic (by omega)]
theorem AdN {t p s:Int} (h:Ap t p s=false):BX t p s=0:=by simp [BX,h]
theorem Ao7 {t p s:Int} (h:Ap t p s=true):BX t p s=2^s.toNat:=by simp [BX,h]
theorem AlB {t p s:Int} (h:BX t p s≠0):0≤s:=by
 cases hr:Ap t p s with
 |true=>have:=OL.1 hr;omega
 |false=>exact absurd (AdN hr) h
def DV (t p s:Int):Int:=iS iB (Gh t p s*p)
abbrev AgD:Ct Sg:=⟨none,false,[.agg [.i .i64, .i .i64, .i .i64]], .i .i64⟩
def U2:Entry Sg:=CP AgD DV (λ_ _ _=>[])
theorem AeK:DZ 70 U2:=
 EG Dg Qo (I:=[]) Try.func70 mix (B:=AY Try.f70) (by kernel_rfl) rfl (by kernel_rfl) 400
  λ_ t p s hb hp=>⟨(DV t p s), .t, λ_ _ _=>by kernel_rfl,trivial,rfl⟩
def U3:Tb:=(70,U2)::Xi
theorem OM:DU U3:=Ej AeK Qo
def Ew (t p s:Int):Int:=(bif !Ap t p s then 0 else iS iB (BX t p s*p))
abbrev Ai8:Ct Sg:=⟨none,false,[.agg [.i .i64, .i .i64, .i .i64]], .i .i64⟩
def Xj:Entry Sg:=CP Ai8 Ew (λ_ _ _=>[])
theorem AgE:DZ 46 Xj:=
 EG Dg OM (I:=[]) Try.func46 mix (B:=AY Try.f46) (by kernel_rfl) rfl (by kernel_rfl) 400
  λ_ t p s hb hp=>⟨(Ew t p s), .t, λ_ _ _=>by kernel_rfl,trivial,rfl⟩
def Xk:Tb:=(46,Xj)::U3
theorem Qp:DU Xk:=Ej AgE OM
theorem Akr {t p s z:Int} (h:(decide (z<1)||decide (z>DV t p s))=false):0≤s:=by
 simp only [kF,decide_eq_false_iff_not] at h
 apply AlB (t:=t) (p:=p)
 intro h0
 have:DV t p s=0:=by simp only [DV,Jp,h0,Int.zero_mul];rfl
 omega
def GL (t p s z:Int):Int×Bool:=(bif decide (z<1)||decide (z>DV t p s) then (0,false) else (iS iB (Int.fdiv (iS iB (z-1)) (2^min (jL s) 64)+1),true))
abbrev AgF:Ct Sg:=⟨none,false,[.agg [.i .i64, .i .i64, .i .i64], .i .i64], .tup [.i .i64, .b]⟩
def U4:Entry Sg:=CP AgF GL (λ_ _ _ _=>[])
theorem AeL:DZ 41 U4:=
 EG Dg Qp (I:=[]) Try.func41 mix (B:=AY Try.f41) (by kernel_rfl) rfl (by kernel_rfl) 400
  λ_ t p s z hb hp=>⟨(GL t p s z),(.br (decide (z<1)||decide (z>DV t p s)) .t (.need (0≤s) .t)), λ_ _ _=>by kernel_rfl,⟨λz1=>trivial, λz1=>⟨(by exact Akr (by assumption)), λz2=>trivial⟩⟩,rfl⟩
def U5:Tb:=(41,U4)::Xk
theorem OO:DU U5:=Ej AeL Qp
def GU (t p s z:Int):Int×Bool:=(bif !Ap t p s||decide (z<1)||decide (z>Ew t p s) then (0,false) else (bif decide (Int.tmod z (BX t p s)>0) then (iS iB (iS iB (Int.tdiv z (BX t p s))+1),true) else (iS iB (Int.tdiv z (BX t p s)),true)))
abbrev Ai9:Ct Sg:=⟨none,false,[.agg [.i .i64, .i .i64, .i .i64], .i .i64], .tup [.i .i64, .b]⟩
def Xl:Entry Sg:=CP Ai9 GU (λ_ _ _ _=>[])
theorem AgG:DZ 49 Xl:=
 EG Dg OO (I:=[]) Try.func49 mix (B:=AY Try.f49) (by kernel_rfl) rfl (by kernel_rfl) 400
  λ_ t p s z hb hp=>⟨(GU t p s z),(.br (!Ap t p s||decide (z<1)||decide (z>Ew t p s)) .t (.need (BX t p s≠0) (.need (BX t p s≠0) .t))), λ_ _ _=>by kernel_rfl,⟨λz1=>trivial, λz1=>⟨(by first|exact AgB|exact Qn|exact VW|exact Qn (by assumption)|exact VW (by assumption)), λz2=>⟨(by first|exact AgB|exact Qn|exact VW|exact Qn (by assumption)|exact VW (by assumption)), λz3=>trivial⟩⟩⟩,rfl⟩
def Xm:Tb:=(49,Xl)::U5
theorem Qq:DU Xm:=Ej AgG OO
end
section
open Go.Sl
def Iq (k a b:Int):Bool:=(bif k==3 then (bif k==3 then true else (bif k==8 then (bif a !=0 then false else b==0) else (bif k==1 then (bif k==1 then b==0 else false) else (bif k==2 then (bif k==2 then b==0 else false) else (bif k==6 then (bif k==6 then b==0 else false) else (bif k==7 then (bif k==7 then b==0 else false) else (bif k==9 then b==0 else false))))))) else (bif k==4 then (bif k==4 then true else (bif k==8 then (bif a !=0 then false else b==0) else (bif k==1 then (bif k==1 then b==0 else false) else (bif k==2 then (bif k==2 then b==0 else false) else (bif k==6 then (bif k==6 then b==0 else false) else (bif k==7 then (bif k==7 then b==0 else false) else (bif k==9 then b==0 else false))))))) else (bif k==5 then true else (bif k==8 then (bif a !=0 then false else b==0) else (bif k==1 then (bif k==1 then b==0 else false) else (bif k==2 then (bif k==2 then b==0 else false) else (bif k==6 then (bif k==6 then b==0 else false) else (bif k==7 then (bif k==7 then b==0 else false) else (bif k==9 then b==0 else false)))))))))
abbrev Aks:Ct Sg:=⟨none,false,[.agg [.i .i64, .i .i64, .i .i64]], .b⟩
def Aaq:Entry Sg:=CP Aks Iq (λ_ _ _=>[])
theorem AiA:DZ 27 Aaq:=
 EG Dg Qq (I:=[]) Try.func27 mix (B:=AY Try.f27) (by kernel_rfl) rfl (by kernel_rfl) 400
  λ_ k a b hb hp=>⟨(Iq k a b), .t, λ_ _ _=>by kernel_rfl,trivial,rfl⟩
def Aar:Tb:=(27,Aaq)::Xm
theorem SG:DU Aar:=Ej AiA Qq
def Jq (k:Int):Int:=(bif k==8 then 0 else (bif k==1 then (bif k==1 then 1 else (bif k==3 then (bif k==3 then 2 else (-1)) else (bif k==4 then (bif k==4 then 2 else (-1)) else (bif k==5 then 2 else (-1))))) else (bif k==2 then (bif k==2 then 1 else (bif k==3 then (bif k==3 then 2 else (-1)) else (bif k==4 then (bif k==4 then 2 else (-1)) else (bif k==5 then 2 else (-1))))) else (bif k==6 then (bif k==6 then 1 else (bif k==3 then (bif k==3 then 2 else (-1)) else (bif k==4 then (bif k==4 then 2 else (-1)) else (bif k==5 then 2 else (-1))))) else (bif k==7 then (bif k==7 then 1 else (bif k==3 then (bif k==3 then 2 else (-1)) else (bif k==4 then (bif k==4 then 2 else (-1)) else (bif k==5 then 2 else (-1))))) else (bif k==9 then 1 else (bif k==3 then (bif k==3 then 2 else (-1)) else (bif k==4 then (bif k==4 then 2 else (-1)) else (bif k==5 then 2 else (-1))))))))))
abbrev Akt:Ct Sg:=⟨none,false,[.i .i64], .i .i64⟩
def Aas:Entry Sg:=CP Akt Jq (λ_=>[])
theorem AiB:DZ 77 Aas:=
 EG Dg SG (I:=[]) Try.func77 mix (B:=AY Try.f77) (by kernel_rfl) rfl (by kernel_rfl) 400
  λ_ k hb hp=>⟨(Jq k), .t, λ_ _ _=>by kernel_rfl,trivial,rfl⟩
def Aat:Tb:=(77,Aas)::Aar
theorem SH:DU Aat:=Ej AiB SG
def Dk (k a b:Int):Bool:=decide (Jq k≥0)&&(decide (Jq k≥1)||a==0)&&(decide (Jq k≥2)||b==0)
abbrev AiC:Ct Sg:=⟨none,false,[.agg [.i .i64, .i .i64, .i .i64]], .b⟩
def Xn:Entry Sg:=CP AiC Dk (λ_ _ _=>[])
theorem AgH:DZ 51 Xn:=
 EG Dg SH (I:=[]) Try.func51 mix (B:=AY Try.f51) (by kernel_rfl) rfl (by kernel_rfl) 400
  λ_ k a b hb hp=>⟨(Dk k a b), .t, λ_ _ _=>by kernel_rfl,trivial,rfl⟩
def Xo:Tb:=(51,Xn)::Aat
theorem Qr:DU Xo:=Ej AgH SH
def Az (t p h z:Int):Int×Bool:=(bif !Prod.snd (GL t p h z) then (0,false) else (bif mF (L8 h z) then (Ee h (kJ (L8 h z)),true) else (iS iB (kJ (GL t p h z)*Gh t p h),true)))
abbrev AeM:Ct Sg:=⟨none,false,[.agg [.i .i64, .i .i64, .i .i64], .i .i64], .tup [.i .i64, .b]⟩
def SI:Entry Sg:=CP AeM Az (λ_ _ _ _=>[])
theorem AcC:DZ 13 SI:=
 EG Dg Qr (I:=[]) Try.func13 mix (B:=AY Try.f13) (by kernel_rfl) rfl (by kernel_rfl) 400
  λ_ t p h z hb hp=>⟨(Az t p h z), .t, λ_ _ _=>by kernel_rfl,trivial,rfl⟩
def SK:Tb:=(13,SI)::Xo
theorem Ol:DU SK:=Ej AcC Qr
def BR (t p h z:Int):Int×Bool:=(bif !Ap t p h||decide (z<1)||decide (z>Ew t p h) then (0,false) else (bif mF (IQ h z) then (Eb h (kJ (IQ h z)),true) else (iS iB (kJ (GU t p h z)*BX t p h),true)))
abbrev AiD:Ct Sg:=⟨none,false,[.agg [.i .i64, .i .i64, .i .i64], .i .i64], .tup [.i .i64, .b]⟩
def Xp:Entry Sg:=CP AiD BR (λ_ _ _ _=>[])
theorem AgI:DZ 14 Xp:=
 EG Dg Ol (I:=[]) Try.func14 mix (B:=AY Try.f14) (by kernel_rfl) rfl (by kernel_rfl) 400
  λ_ t p h z hb hp=>⟨(BR t p h z), .t, λ_ _ _=>by kernel_rfl,trivial,rfl⟩
def Xq:Tb:=(14,Xp)::SK
theorem Qs:DU Xq:=Ej AgI Ol
def BG (c e o x:Int):Bool:=e==c&&(o==0&&(x==0&&true))
abbrev AgJ:Ct Sg:=⟨none,false,[.i .i64, .agg [.i .i64, .i .i64, .i .i64]], .b⟩
def U6:Entry Sg:=CP AgJ BG (λ_ _ _ _=>[])
theorem AeN:DZ 28 U6:=
 EG Dg Qs (I:=[]) Try.func28 mix (B:=AY Try.f28) (by kernel_rfl) rfl (by kernel_rfl) 400
  λ_ c e o x hb hp=>⟨(BG c e o x), .t, λ_ _ _=>by kernel_rfl,trivial,rfl⟩
def U7:Tb:=(28,U6)::Xq
theorem OQ:DU U7:=Ej AeN Qs
def DY (a z a2 z2:Int):Bool:=decide (a<iS iB (a2+z2))&&decide (a2<iS iB (a+z))
abbrev AgK:Ct Sg:=⟨none,false,[.agg [.i .i64, .i .i64], .agg [.i .i64, .i .i64]], .b⟩
def U8:Entry Sg:=CP AgK DY (λ_ _ _ _=>[])
theorem AeO:DZ 62 U8:=
 EG Dg OQ (I:=[]) Try.func62 mix (B:=AY Try.f62) (by kernel_rfl) rfl (by kernel_rfl) 400
  λ_ a z a2 z2 hb hp=>⟨(DY a z a2 z2), .t, λ_ _ _=>by kernel_rfl,trivial,rfl⟩
def U9:Tb:=(62,U8)::U7
theorem OT:DU U9:=Ej AeO OQ
def BM (c e o x:Int):Bool:=e==c&&o==0&&x==0
abbrev Aku:Ct Sg:=⟨none,false,[.i .i64, .agg [.i .i64, .i .i64, .i .i64]], .b⟩
def Aau:Entry Sg:=CP Aku BM (λ_ _ _ _=>[])
theorem AiE:DZ 52 Aau:=
 EG Dg OT (I:=[]) Try.func52 mix (B:=AY Try.f52) (by kernel_rfl) rfl (by kernel_rfl) 400
  λ_ c e o x hb hp=>⟨(BM c e o x), .t, λ_ _ _=>by kernel_rfl,trivial,rfl⟩
def Aav:Tb:=(52,Aau)::U9
theorem SL:DU Aav:=Ej AiE OT
def Em (e o x a b:Int):Bool:=e==0&&o==a&&x==b
abbrev AiF:Ct Sg:=⟨none,false,[.agg [.i .i64, .i .i64, .i .i64], .i .i64, .i .i64], .b⟩
def Xr:Entry Sg:=CP AiF Em (λ_ _ _ _ _=>[])
theorem AgL:DZ 56 Xr:=
 EG Dg SL (I:=[]) Try.func56 mix (B:=AY Try.f56) (by kernel_rfl) rfl (by kernel_rfl) 400
  λ_ e o x a b hb hp=>⟨(Em e o x a b), .t, λ_ _ _=>by kernel_rfl,trivial,rfl⟩
def Xt:Tb:=(56,Xr)::Aav
theorem Qu:DU Xt:=Ej AgL SL
def Fz (e o x n:Int):Bool:=e !=0||x==n
abbrev AlC:Ct Sg:=⟨none,false,[.agg [.i .i64, .i .i64, .i .i64], .i .i64], .b⟩
def AdO:Entry Sg:=CP AlC Fz (λ_ _ _ _=>[])
theorem Akv:DZ 54 AdO:=
 EG Dg Qu (I:=[]) Try.func54 mix (B:=AY Try.f54) (by kernel_rfl) rfl (by kernel_rfl) 400
  λ_ e o x n hb hp=>⟨(Fz e o x n), .t, λ_ _ _=>by kernel_rfl,trivial,rfl⟩
def AdP:Tb:=(54,AdO)::Xt
theorem UA:DU AdP:=Ej Akv Qu
end
section
open Go.Sl
def JY (t p h a z:Int):Bool:=decide (z≥1)&&decide (a≥Gh t p h)&&decide (z≤DV t p h)&&decide (a≤iS iB (iS iB (Gh t p h+DV t p h)-z))
def YC (s:MS):Bool:=true
abbrev Ap7:Ct Sg:=⟨some D5,true,[], .b⟩
def AlD:Entry Sg:=CP Ap7 (λ(s:MS)=>true) (λ_=>[])
def Aaw (s:MS) (t p h:Int) (l:List (Int×Int)) (x0 x1 x2 x3 x4 x5 x6 x7:Int) (R_:Bool→Prop) (O_:Int→Int→Int→List (Int×Int)→Int→Int→Int→Int→Int→Int→Int→Int→Bool→Prop):Prop:=(O_ (t) (p) (h) (l) (x0) (x1) (x2) (x3) (x4) (x5) (x6) (x7) (true))
theorem Akw (s:MS) (t p h:Int) (l:List (Int×Int)) (x0 x1 x2 x3 x4 x5 x6 x7:Int) (hx:CB ⟨t,p,h,l,x0,x1,x2,x3,x4,x5,x6,x7⟩ (s)):Aaw s t p h l x0 x1 x2 x3 x4 x5 x6 x7 (λr__=>r__=(YC s)) (λt_ p_ h_ l_ x0_ x1_ x2_ x3_ x4_ x5_ x6_ x7_ r_=>CB ⟨t_,p_,h_,l_,x0_,x1_,x2_,x3_,x4_,x5_,x6_,x7_⟩ (s)∧r_=(YC s)):=by
 have key:∀x:MS,CB x s→Aaw s x.t x.p x.h x.l x.r0 x.r1 x.r2 x.r3 x.r4 x.r5 x.r6 x.r7 (λr__=>r__=(YC s)) (λt_ p_ h_ l_ x0_ x1_ x2_ x3_ x4_ x5_ x6_ x7_ r_=>CB ⟨t_,p_,h_,l_,x0_,x1_,x2_,x3_,x4_,x5_,x6_,x7_⟩ (s)∧r_=(YC s)):=by
  intro x ho
  unfold Aaw
  cases (show x=s from ho)
  exact ⟨rfl,rfl⟩
 exact key ⟨t,p,h,l,x0,x1,x2,x3,x4,x5,x6,x7⟩ hx
theorem Ao8:DZ 26 AlD:=
 EX Dg Gx true UA (I:=[]) Try.func26 mix (B:=AY Try.f26) (by kernel_rfl) rfl (by kernel_rfl) 400
  λo s hb hp=>⟨s,s,(YC s),[],[], λj=>iM [] j (λ_=>False), λj=>iM [] j (λ_=>(0,0,0)),by kernel_rfl, λ_ _=>by kernel_rfl,by kernel_rfl, λt p h l x0 x1 x2 x3 x4 x5 x6 x7 hx=>⟨Aaw s t p h l x0 x1 x2 x3 x4 x5 x6 x7 (λr__=>r__=(YC s)) (λt_ p_ h_ l_ x0_ x1_ x2_ x3_ x4_ x5_ x6_ x7_ r_=>CB ⟨t_,p_,h_,l_,x0_,x1_,x2_,x3_,x4_,x5_,x6_,x7_⟩ (s)∧r_=(YC s)), λ_ _ _ _=>by kernel_rfl,Akw s t p h l x0 x1 x2 x3 x4 x5 x6 x7 hx⟩,trivial⟩
def AlE:Tb:=(26,AlD)::AdP
theorem AdQ:DU AlE:=Ej Ao8 UA
def JS (s:MS) (a z:Int):Bool:=JY s.t s.p s.h a z
abbrev Akx:Ct Sg:=⟨some D5,true,[.agg [.i .i64, .i .i64]], .b⟩
def Aax:Entry Sg:=CP Akx (λ(s:MS) (a:Int) (z:Int)=>JY s.t s.p s.h a z) (λ_ _ _=>[])
def Nv (s:MS) (a z t p h:Int) (l:List (Int×Int)) (x0 x1 x2 x3 x4 x5 x6 x7:Int) (R_:Bool→Prop) (O_:Int→Int→Int→List (Int×Int)→Int→Int→Int→Int→Int→Int→Int→Int→Bool→Prop):Prop:=(O_ (t) (p) (h) (l) (x0) (x1) (x2) (x3) (x4) (x5) (x6) (x7) (decide (z≥1)&&decide (a≥Gh t p h)&&decide (z≤DV t p h)&&decide (a≤iS iB (iS iB (Gh t p h+DV t p h)-z))))
theorem AcD (s:MS) (a z t p h:Int) (l:List (Int×Int)) (x0 x1 x2 x3 x4 x5 x6 x7:Int) (hx:CB ⟨t,p,h,l,x0,x1,x2,x3,x4,x5,x6,x7⟩ (s)):Nv s a z t p h l x0 x1 x2 x3 x4 x5 x6 x7 (λr__=>r__=(JS s a z)) (λt_ p_ h_ l_ x0_ x1_ x2_ x3_ x4_ x5_ x6_ x7_ r_=>CB ⟨t_,p_,h_,l_,x0_,x1_,x2_,x3_,x4_,x5_,x6_,x7_⟩ (s)∧r_=(JS s a z)):=by
 have key:∀x:MS,CB x s→Nv s a z x.t x.p x.h x.l x.r0 x.r1 x.r2 x.r3 x.r4 x.r5 x.r6 x.r7 (λr__=>r__=(JS s a z)) (λt_ p_ h_ l_ x0_ x1_ x2_ x3_ x4_ x5_ x6_ x7_ r_=>CB ⟨t_,p_,h_,l_,x0_,x1_,x2_,x3_,x4_,x5_,x6_,x7_⟩ (s)∧r_=(JS s a z)):=by
  intro x ho
  unfold Nv
  cases (show x=s from ho)
  exact ⟨rfl,rfl⟩
 exact key ⟨t,p,h,l,x0,x1,x2,x3,x4,x5,x6,x7⟩ hx
theorem AiG:DZ 61 Aax:=
 EX Dg Gx true AdQ (I:=[]) Try.func61 mix (B:=AY Try.f61) (by kernel_rfl) rfl (by kernel_rfl) 400
  λo s a z hb hp=>⟨s,s,(JS s a z),[],[], λj=>iM [] j (λ_=>False), λj=>iM [] j (λ_=>(0,0,0)),by kernel_rfl, λ_ _=>by kernel_rfl,by kernel_rfl, λt p h l x0 x1 x2 x3 x4 x5 x6 x7 hx=>⟨Nv s a z t p h l x0 x1 x2 x3 x4 x5 x6 x7 (λr__=>r__=(JS s a z)) (λt_ p_ h_ l_ x0_ x1_ x2_ x3_ x4_ x5_ x6_ x7_ r_=>CB ⟨t_,p_,h_,l_,x0_,x1_,x2_,x3_,x4_,x5_,x6_,x7_⟩ (s)∧r_=(JS s a z)), λ_ _ _ _=>by kernel_rfl,AcD s a z t p h l x0 x1 x2 x3 x4 x5 x6 x7 hx⟩,trivial⟩
def Aay:Tb:=(61,Aax)::AlE
theorem SN:DU Aay:=Ej AiG AdQ
def I7 (s:MS) (k a c e u v:Int):Bool:=e==0&&decide (u≥0)&&decide (u≤s.p)&&v==(s.l.length:Int)
abbrev AlF:Ct Sg:=⟨some D5,true,[.agg [.i .i64, .i .i64, .i .i64], .agg [.i .i64, .i .i64, .i .i64]], .b⟩
def AdR:Entry Sg:=CP AlF (λ(s:MS) (k:Int) (a:Int) (c:Int) (e:Int) (u:Int) (v:Int)=>e==0&&decide (u≥0)&&decide (u≤s.p)&&v==(s.l.length:Int)) (λ_ _ _ _ _ _ _=>[])
def OU (s:MS) (k a c e u v t p h:Int) (l:List (Int×Int)) (x0 x1 x2 x3 x4 x5 x6 x7:Int) (R_:Bool→Prop) (O_:Int→Int→Int→List (Int×Int)→Int→Int→Int→Int→Int→Int→Int→Int→Bool→Prop):Prop:=(BH (e==0&&decide (u≥0)&&decide (u≤p)) (O_ (t) (p) (h) (l) (x0) (x1) (x2) (x3) (x4) (x5) (x6) (x7) (v==(↑(iN l):Int))) (O_ (t) (p) (h) (l) (x0) (x1) (x2) (x3) (x4) (x5) (x6) (x7) (false)))
theorem AeP (s:MS) (k a c e u v t p h:Int) (l:List (Int×Int)) (x0 x1 x2 x3 x4 x5 x6 x7:Int) (hx:CB ⟨t,p,h,l,x0,x1,x2,x3,x4,x5,x6,x7⟩ (s)):OU s k a c e u v t p h l x0 x1 x2 x3 x4 x5 x6 x7 (λr__=>r__=(I7 s k a c e u v)) (λt_ p_ h_ l_ x0_ x1_ x2_ x3_ x4_ x5_ x6_ x7_ r_=>CB ⟨t_,p_,h_,l_,x0_,x1_,x2_,x3_,x4_,x5_,x6_,x7_⟩ (s)∧r_=(I7 s k a c e u v)):=by
 have key:∀x:MS,CB x s→OU s k a c e u v x.t x.p x.h x.l x.r0 x.r1 x.r2 x.r3 x.r4 x.r5 x.r6 x.r7 (λr__=>r__=(I7 s k a c e u v)) (λt_ p_ h_ l_ x0_ x1_ x2_ x3_ x4_ x5_ x6_ x7_ r_=>CB ⟨t_,p_,h_,l_,x0_,x1_,x2_,x3_,x4_,x5_,x6_,x7_⟩ (s)∧r_=(I7 s k a c e u v)):=by
  intro x ho
  unfold OU
  cases (show x=s from ho)
  refine ⟨λhc=>⟨rfl,?_⟩, λhc=>⟨rfl,?_⟩⟩
  ·unfold I7;rw [hc,oA]
  ·unfold I7;rw [hc,Bool.false_and]
 exact key ⟨t,p,h,l,x0,x1,x2,x3,x4,x5,x6,x7⟩ hx
theorem Aky:DZ 36 AdR:=
 EX Dg Gx true SN (I:=[]) Try.func36 mix (B:=AY Try.f36) (by kernel_rfl) rfl (by kernel_rfl) 400
  λo s k a c e u v hb hp=>⟨s,s,(I7 s k a c e u v),[],[], λj=>iM [] j (λ_=>False), λj=>iM [] j (λ_=>(0,0,0)),by kernel_rfl, λ_ _=>by kernel_rfl,by kernel_rfl, λt p h l x0 x1 x2 x3 x4 x5 x6 x7 hx=>⟨OU s k a c e u v t p h l x0 x1 x2 x3 x4 x5 x6 x7 (λr__=>r__=(I7 s k a c e u v)) (λt_ p_ h_ l_ x0_ x1_ x2_ x3_ x4_ x5_ x6_ x7_ r_=>CB ⟨t_,p_,h_,l_,x0_,x1_,x2_,x3_,x4_,x5_,x6_,x7_⟩ (s)∧r_=(I7 s k a c e u v)), λ_ _ _ _=>by kernel_rfl,AeP s k a c e u v t p h l x0 x1 x2 x3 x4 x5 x6 x7 hx⟩,trivial⟩
def AdS:Tb:=(36,AdR)::Aay
theorem UB:DU AdS:=Ej Aky SN
def H8 (s:MS) (k a c e u v:Int):Bool:=bif decide (a<0)||decide (a≥9) then BG 7 e u v else e==0&&decide (u≥0)&&decide (u≤4)&&v==0
abbrev AlG:Ct Sg:=⟨some D5,true,[.agg [.i .i64, .i .i64, .i .i64], .agg [.i .i64, .i .i64, .i .i64]], .b⟩
def AdT:Entry Sg:=CP AlG (λ(s:MS) (k:Int) (a:Int) (c:Int) (e:Int) (u:Int) (v:Int)=>bif decide (a<0)||decide (a≥9) then BG 7 e u v else e==0&&decide (u≥0)&&decide (u≤4)&&v==0) (λ_ _ _ _ _ _ _=>[])
def OV (s:MS) (k a c e u v t p h:Int) (l:List (Int×Int)) (x0 x1 x2 x3 x4 x5 x6 x7:Int) (R_:Bool→Prop) (O_:Int→Int→Int→List (Int×Int)→Int→Int→Int→Int→Int→Int→Int→Int→Bool→Prop):Prop:=(BH (decide (a<0)||decide (a≥9)) (O_ (t) (p) (h) (l) (x0) (x1) (x2) (x3) (x4) (x5) (x6) (x7) (BG 7 e u v)) (O_ (t) (p) (h) (l) (x0) (x1) (x2) (x3) (x4) (x5) (x6) (x7) (e==0&&decide (u≥0)&&decide (u≤4)&&v==0)))
theorem AeQ (s:MS) (k a c e u v t p h:Int) (l:List (Int×Int)) (x0 x1 x2 x3 x4 x5 x6 x7:Int) (hx:CB ⟨t,p,h,l,x0,x1,x2,x3,x4,x5,x6,x7⟩ (s)):OV s k a c e u v t p h l x0 x1 x2 x3 x4 x5 x6 x7 (λr__=>r__=(H8 s k a c e u v)) (λt_ p_ h_ l_ x0_ x1_ x2_ x3_ x4_ x5_ x6_ x7_ r_=>CB ⟨t_,p_,h_,l_,x0_,x1_,x2_,x3_,x4_,x5_,x6_,x7_⟩ (s)∧r_=(H8 s k a c e u v)):=by
 have key:∀x:MS,CB x s→OV s k a c e u v x.t x.p x.h x.l x.r0 x.r1 x.r2 x.r3 x.r4 x.r5 x.r6 x.r7 (λr__=>r__=(H8 s k a c e u v)) (λt_ p_ h_ l_ x0_ x1_ x2_ x3_ x4_ x5_ x6_ x7_ r_=>CB ⟨t_,p_,h_,l_,x0_,x1_,x2_,x3_,x4_,x5_,x6_,x7_⟩ (s)∧r_=(H8 s k a c e u v)):=by
  intro x ho
  unfold OV
  cases (show x=s from ho)
  refine ⟨λhc=>⟨rfl,?_⟩, λhc=>⟨rfl,?_⟩⟩
  ·unfold H8;rw [hc,cond_true]
  ·unfold H8;rw [hc,cond_false]
 exact key ⟨t,p,h,l,x0,x1,x2,x3,x4,x5,x6,x7⟩ hx
theorem Akz:DZ 37 AdT:=
 EX Dg Gx true UB (I:=[]) Try.func37 mix (B:=AY Try.f37) (by kernel_rfl) rfl (by kernel_rfl) 400
  λo s k a c e u v hb hp=>⟨s,s,(H8 s k a c e u v),[],[], λj=>iM [] j (λ_=>False), λj=>iM [] j (λ_=>(0,0,0)),by kernel_rfl, λ_ _=>by kernel_rfl,by kernel_rfl, λt p h l x0 x1 x2 x3 x4 x5 x6 x7 hx=>⟨OV s k a c e u v t p h l x0 x1 x2 x3 x4 x5 x6 x7 (λr__=>r__=(H8 s k a c e u v)) (λt_ p_ h_ l_ x0_ x1_ x2_ x3_ x4_ x5_ x6_ x7_ r_=>CB ⟨t_,p_,h_,l_,x0_,x1_,x2_,x3_,x4_,x5_,x6_,x7_⟩ (s)∧r_=(H8 s k a c e u v)), λ_ _ _ _=>by kernel_rfl,AeQ s k a c e u v t p h l x0 x1 x2 x3 x4 x5 x6 x7 hx⟩,trivial⟩
def AdU:Tb:=(37,AdT)::AdS
theorem UC:DU AdU:=Ej Akz UB
def OW (l:List (Int×Int)) (a:Int):Option (Int×Int):=l.find? λx=>x.1==a
def atR (l:List (Int×Int)) (a:Int):Int×Int×Bool:=(((OW l a).getD (0,0)).1,((OW l a).getD (0,0)).2,(OW l a).isSome)
abbrev BZ (l:List (Int×Int)):Prop:=(l.map (·.1)).Nodup
def okB (x b u:Int×Int):Bool:=!(!(x.1==u.1&&(x.2==u.2&&true))&&DY x.1 x.2 b.1 b.2)
theorem AgM {r:List (Int×Int)} (h:Pg r=false) (n:Nat):Dx r n∈r:=by
 have hl:0<r.length:=by cases r with|nil=>cases h|cons _ _=>simp
 unfold Dx
 rw [iC,iK (lY _ hl)]
 exact nT _
theorem AgN {r:List (Int×Int)} (h:Pg r=false) (n:Nat):(G5 r n).length<r.length:=by
 have hl:0<r.length:=by cases r with|nil=>cases h|cons _ _=>simp
 unfold G5
 rw [List.length_eraseIdx_of_lt (lY _ hl)];omega
theorem AgO {r:List (Int×Int)} (n:Nat) {x:Int×Int} (h:x∈G5 r n):x∈r:=(mL r _).subset h
theorem YD:∀{r:List (Int×Int)} {j:Nat},j<r.length→∀y,y∈r→y=r.getD j (0,0)∨y∈r.eraseIdx j
 |[],_,h,_,_=>by simp at h
 |x::r,0,_,y,hy=>by
  rcases iF.1 hy with rfl|hy
  ·exact .inl rfl
  ·exact .inr hy
 |x::r,j+1,h,y,hy=>by
  rcases iF.1 hy with rfl|hy
  ·exact .inr (by simp)
  ·rcases YD (by simpa using h) y hy with h|h
   ·exact .inl h
   ·exact .inr (List.mem_cons_of_mem _ h)
theorem Anb {r:List (Int×Int)} {n:Nat} {y:Int×Int} (hy:y∈r) (hne:y≠Dx r n):y∈G5 r n:=by
 have hl:0<r.length:=List.length_pos_of_mem hy
 rcases YD (lY n hl) y hy with h|h
 ·exact absurd h hne
 ·exact h
theorem Ao9 {l:List (Int×Int)} {a:Int} (h:∀x∈l,x.1≠a):atR l a=(0,0,false):=by
 have:OW l a=none:=by
  unfold OW
  rw [List.find?_eq_none]
  intro x hx he
  exact h x hx (by simpa using he)
 unfold atR;rw [this];rfl
theorem AoA {l:List (Int×Int)} (hn:BZ l) {x:Int×Int} (hx:x∈l):atR l x.1=(x.1,x.2,true):=by
 have:OW l x.1=some x:=by
  unfold OW
  induction l with
  |nil=>cases hx
  |cons y l ih=>
   simp only [BZ,iD,lD] at hn
   rw [List.find?_cons]
   cases he:y.1==x.1 with
   |true=>
    rcases iF.1 hx with rfl|hx
    ·rfl
    ·exact absurd (kK.2 ⟨x,hx,(by simpa using he:y.1=x.1).symm⟩) hn.1
   |false=>
    rcases iF.1 hx with rfl|hx
    ·simp at he
    ·exact ih hn.2 hx
 unfold atR;rw [this];rfl
theorem AgP {r:List (Int×Int)} (h:Pg r=false) (n:Nat) (f:Int×Int→Bool):r.all f=(f (Dx r n)&&(G5 r n).all f):=by
 have hl:0<r.length:=by cases r with|nil=>cases h|cons _ _=>simp
 rw [mP]
 simp only [iG,jN]
 constructor
 ·exact λH=>⟨H _ (AgM h n), λx hx=>H x (AgO n hx)⟩
 ·rintro ⟨h1,h2⟩ x hx
  rcases YD (lY n hl) x hx with e|e
  ·rw [e];exact h1
  ·exact h2 x e
def Rh (s:MS) (a:Int):Int×Int×Bool:=atR s.l a
abbrev Ap8:Ct Sg:=⟨some D5,true,[.i .i64], .tup [.agg [.i .i64, .i .i64], .b]⟩
def AlH:Entry Sg:=CP Ap8 (λ(s:MS) (a:Int)=>atR s.l a) (λs a=>[BZ s.l])
def Aaz (s:MS) (a t p h:Int) (l:List (Int×Int)) (x0 x1 x2 x3 x4 x5 x6 x7:Int) (Q0:Int→Int→Int→List (Int×Int)→List (Int×Int)→List (Int×Int)→Int→Int→Int→Int→Int→Int→Int→Int→Prop) (R_:Int×Int×Bool→Prop) (O_:Int→Int→Int→List (Int×Int)→Int→Int→Int→Int→Int→Int→Int→Int→Int×Int×Bool→Prop):Prop:=(Q0 (t) (p) (h) (l) ([]) (l) (x0) (x1) (x2) (x3) (x4) (x5) (x6) (x7))
def Ajw (s:MS) (a t_ p_ h_:Int) (l:List (Int×Int)) (cu:List (Int×Int)) (re:List (Int×Int)) (r0_ r1_ r2_ r3_ r4_ r5_ r6_ r7_:Int) (Q0:Int→Int→Int→List (Int×Int)→List (Int×Int)→List (Int×Int)→Int→Int→Int→Int→Int→Int→Int→Int→Prop) (R_:Int×Int×Bool→Prop) (O_:Int→Int→Int→List (Int×Int)→Int→Int→Int→Int→Int→Int→Int→Int→Int×Int×Bool→Prop):Prop:=(BH (Pg re) (BH (false) (Ba (QF cu=true) (BH (kJ (hdB cu)==a) (O_ (t_) (p_) (h_) (l) (r0_) (r1_) (r2_) (r3_) (r4_) (r5_) (r6_) (r7_) ((kJ (hdB cu),mF (hdB cu),true))) (Q0 (t_) (p_) (h_) (l) (cu) (re) (r0_) (r1_) (r2_) (r3_) (r4_) (r5_) (r6_) (r7_)))) (O_ (t_) (p_) (h_) (l) (r0_) (r1_) (r2_) (r3_) (r4_) (r5_) (r6_) (r7_) ((0,0,false)))) (∀n1_:Nat,(BH (true) (Ba (QF [Dx re n1_]=true) (BH (kJ (hdB [Dx re n1_])==a) (O_ (t_) (p_) (h_) (l) (r0_) (r1_) (r2_) (r3_) (r4_) (r5_) (r6_) (r7_) ((kJ (hdB [Dx re n1_]),mF (hdB [Dx re n1_]),true))) (Q0 (t_) (p_) (h_) (l) ([Dx re n1_]) (G5 re n1_) (r0_) (r1_) (r2_) (r3_) (r4_) (r5_) (r6_) (r7_)))) (O_ (t_) (p_) (h_) (l) (r0_) (r1_) (r2_) (r3_) (r4_) (r5_) (r6_) (r7_) ((0,0,false))))))
def J4 (s:MS) (a t_ p_ h_:Int) (l:List (Int×Int)) (cu:List (Int×Int)) (re:List (Int×Int)) (r0_ r1_ r2_ r3_ r4_ r5_ r6_ r7_:Int):Prop:=s=⟨t_,p_,h_,l,r0_,r1_,r2_,r3_,r4_,r5_,r6_,r7_⟩∧(∀x∈re,x∈l)∧(∀x∈l,x.1=a→x∈re)
theorem Ak0 (s:MS) (a t p h:Int) (l:List (Int×Int)) (x0 x1 x2 x3 x4 x5 x6 x7:Int) (hp0:BZ s.l) (hx:CB ⟨t,p,h,l,x0,x1,x2,x3,x4,x5,x6,x7⟩ (s)):Aaz s a t p h l x0 x1 x2 x3 x4 x5 x6 x7 (λt_' p_' h_' l' cu' re' r0_' r1_' r2_' r3_' r4_' r5_' r6_' r7_'=>J4 s a t_' p_' h_' l' cu' re' r0_' r1_' r2_' r3_' r4_' r5_' r6_' r7_') (λr__=>r__=(Rh s a)) (λt_ p_ h_ l_ x0_ x1_ x2_ x3_ x4_ x5_ x6_ x7_ r_=>CB ⟨t_,p_,h_,l_,x0_,x1_,x2_,x3_,x4_,x5_,x6_,x7_⟩ (s)∧r_=(Rh s a)):=by
 have key:∀x:MS,CB x s→Aaz s a x.t x.p x.h x.l x.r0 x.r1 x.r2 x.r3 x.r4 x.r5 x.r6 x.r7 (λt_' p_' h_' l' cu' re' r0_' r1_' r2_' r3_' r4_' r5_' r6_' r7_'=>J4 s a t_' p_' h_' l' cu' re' r0_' r1_' r2_' r3_' r4_' r5_' r6_' r7_') (λr__=>r__=(Rh s a)) (λt_ p_ h_ l_ x0_ x1_ x2_ x3_ x4_ x5_ x6_ x7_ r_=>CB ⟨t_,p_,h_,l_,x0_,x1_,x2_,x3_,x4_,x5_,x6_,x7_⟩ (s)∧r_=(Rh s a)):=by
  intro x ho
  unfold Aaz
  try unfold J4
  cases (show x=s from ho)
  exact ⟨rfl, λx hx=>hx, λx hx _=>hx⟩
 exact key ⟨t,p,h,l,x0,x1,x2,x3,x4,x5,x6,x7⟩ hx
theorem Ak1 (s:MS) (a:Int) (hp0:BZ s.l) (t_ p_ h_:Int) (l:List (Int×Int)) (cu:List (Int×Int)) (re:List (Int×Int)) (r0_ r1_ r2_ r3_ r4_ r5_ r6_ r7_:Int) (hI:J4 s a t_ p_ h_ l cu re r0_ r1_ r2_ r3_ r4_ r5_ r6_ r7_):Ajw s a t_ p_ h_ l cu re r0_ r1_ r2_ r3_ r4_ r5_ r6_ r7_ (λt_' p_' h_' l' cu' re' r0_' r1_' r2_' r3_' r4_' r5_' r6_' r7_'=>J4 s a t_' p_' h_' l' cu' re' r0_' r1_' r2_' r3_' r4_' r5_' r6_' r7_'∧lx (re'.length,0,0) (re.length,0,0)) (λr__=>r__=(Rh s a)) (λt_ p_ h_ l_ x0_ x1_ x2_ x3_ x4_ x5_ x6_ x7_ r_=>CB ⟨t_,p_,h_,l_,x0_,x1_,x2_,x3_,x4_,x5_,x6_,x7_⟩ (s)∧r_=(Rh s a)):=by
 unfold J4 at hI
 unfold Ajw
 try unfold J4
 obtain ⟨rfl,h1,h2⟩:=hI
 refine ⟨λhn=>⟨λhx=>(by cases hx), λ_=>⟨rfl,?_⟩⟩, λhn n=>⟨λ_=>⟨rfl, λ_=>⟨λhx=>⟨rfl,?_⟩, λhx=>?_⟩⟩, λhx=>(by cases hx)⟩⟩
 ·refine (Ao9 λx hx he=>?_).symm
  have:=h2 x hx he
  cases re with
  |nil=>cases this
  |cons _ _=>cases hn
 ·have hx:((Dx re n).1==a)=true:=hx
  have hx:(Dx re n).1=a:=by simpa using hx
  subst hx
  exact (AoA hp0 (h1 _ (AgM hn n))).symm
 ·have hx:((Dx re n).1==a)=false:=hx
  have hx:(Dx re n).1≠a:=by simpa using hx
  have hlen:=AgN hn n
  exact ⟨⟨rfl, λx hm=>h1 x (AgO n hm), λx hm he=>Anb (h2 x hm he) λe=>hx (by rw [←e];exact he)⟩,BU⟩
theorem AoB:DZ 22 AlH:=
 EX Dg Gx true UC (I:=[103000000000,103000000001,103000000004,103000000011]) Try.func22 mix (B:=AY Try.f22) (by kernel_rfl) rfl (by kernel_rfl) 400
  λo s a hb hp=>have hp0:BZ s.l:=hp _ (.head _);⟨s,s,(Rh s a),[⟨none,[0,1,0,1],[.blk 0, .code [1,1]],[0,1,4,11],[.boxc o RP.t RP.l, .ic .i64 (a), .box 55 [.ic .i64 (0), .ic .i64 (0)], .agi 1]⟩],[.run], λj=>iM [Ak (Hd.kd (⟨none,[0,1,0,1],[.blk 0, .code [1,1]],[0,1,4,11],[.boxc o RP.t RP.l, .ic .i64 (a), .box 55 [.ic .i64 (0), .ic .i64 (0)], .agi 1]⟩:Hd Sg)) (λt_' p_' h_' l' cu' re' r0_' r1_' r2_' r3_' r4_' r5_' r6_' r7_'=>J4 s a t_' p_' h_' l' cu' re' r0_' r1_' r2_' r3_' r4_' r5_' r6_' r7_')] j (λ_=>False), λj=>iM [Ak (Hd.kd (⟨none,[0,1,0,1],[.blk 0, .code [1,1]],[0,1,4,11],[.boxc o RP.t RP.l, .ic .i64 (a), .box 55 [.ic .i64 (0), .ic .i64 (0)], .agi 1]⟩:Hd Sg)) (λt_' p_' h_' l' cu' re' r0_' r1_' r2_' r3_' r4_' r5_' r6_' r7_'=>(re'.length,0,0))] j (λ_=>(0,0,0)),by kernel_rfl, λ_ _=>by kernel_rfl,by kernel_rfl, λt p h l x0 x1 x2 x3 x4 x5 x6 x7 hx=>⟨Aaz s a t p h l x0 x1 x2 x3 x4 x5 x6 x7 (λt_' p_' h_' l' cu' re' r0_' r1_' r2_' r3_' r4_' r5_' r6_' r7_'=>J4 s a t_' p_' h_' l' cu' re' r0_' r1_' r2_' r3_' r4_' r5_' r6_' r7_') (λr__=>r__=(Rh s a)) (λt_ p_ h_ l_ x0_ x1_ x2_ x3_ x4_ x5_ x6_ x7_ r_=>CB ⟨t_,p_,h_,l_,x0_,x1_,x2_,x3_,x4_,x5_,x6_,x7_⟩ (s)∧r_=(Rh s a)), λ_ _ _ _=>by kernel_rfl,Ak0 s a t p h l x0 x1 x2 x3 x4 x5 x6 x7 hp0 hx⟩,⟨λt_ p_ h_ l cu re r0_ r1_ r2_ r3_ r4_ r5_ r6_ r7_ hI=>⟨_, λ_ _ _=>by kernel_rfl,Ak1 s a hp0 t_ p_ h_ l cu re r0_ r1_ r2_ r3_ r4_ r5_ r6_ r7_ hI⟩,trivial⟩⟩
def AlI:Tb:=(22,AlH)::AdU
theorem AdV:DU AlI:=Ej AoB UC
def EQ (s:MS) (a z a2 z2:Int):Bool:=JY s.t s.p s.h a z&&s.l.all λx=>okB x (a,z) (a2,z2)
abbrev Ane:Ct Sg:=⟨some D5,true,[.agg [.i .i64, .i .i64], .agg [.i .i64, .i .i64]], .b⟩
def AgQ:Entry Sg:=CP Ane (λ(s:MS) (a:Int) (z:Int) (a2:Int) (z2:Int)=>JY s.t s.p s.h a z&&s.l.all λx=>okB x (a,z) (a2,z2)) (λ_ _ _ _ _=>[])
def Ri (s:MS) (a z a2 z2 t p h:Int) (l:List (Int×Int)) (x0 x1 x2 x3 x4 x5 x6 x7:Int) (Q0:Int→Int→Int→List (Int×Int)→List (Int×Int)→List (Int×Int)→Int→Int→Int→Int→Int→Int→Int→Int→Prop) (R_:Bool→Prop) (O_:Int→Int→Int→List (Int×Int)→Int→Int→Int→Int→Int→Int→Int→Int→Bool→Prop):Prop:=(BH (!(decide (z≥1)&&decide (a≥Gh t p h)&&decide (z≤DV t p h)&&decide (a≤iS iB (iS iB (Gh t p h+DV t p h)-z)))) (O_ (t) (p) (h) (l) (x0) (x1) (x2) (x3) (x4) (x5) (x6) (x7) (false)) (Q0 (t) (p) (h) (l) ([]) (l) (x0) (x1) (x2) (x3) (x4) (x5) (x6) (x7)))
def AdW (s:MS) (a z a2 z2 t_ p_ h_:Int) (l:List (Int×Int)) (cu:List (Int×Int)) (re:List (Int×Int)) (r0_ r1_ r2_ r3_ r4_ r5_ r6_ r7_:Int) (Q0:Int→Int→Int→List (Int×Int)→List (Int×Int)→List (Int×Int)→Int→Int→Int→Int→Int→Int→Int→Int→Prop) (R_:Bool→Prop) (O_:Int→Int→Int→List (Int×Int)→Int→Int→Int→Int→Int→Int→Int→Int→Bool→Prop):Prop:=(BH (Pg re) (BH (false) (Ba (QF cu=true) (BH (!(kJ (hdB cu)==a2&&(mF (hdB cu)==z2&&true))&&DY (kJ (hdB cu)) (mF (hdB cu)) a z) (O_ (t_) (p_) (h_) (l) (r0_) (r1_) (r2_) (r3_) (r4_) (r5_) (r6_) (r7_) (false)) (Q0 (t_) (p_) (h_) (l) (cu) (re) (r0_) (r1_) (r2_) (r3_) (r4_) (r5_) (r6_) (r7_)))) (O_ (t_) (p_) (h_) (l) (r0_) (r1_) (r2_) (r3_) (r4_) (r5_) (r6_) (r7_) (true))) (∀n1_:Nat,(BH (true) (Ba (QF [Dx re n1_]=true) (BH (!(kJ (hdB [Dx re n1_])==a2&&(mF (hdB [Dx re n1_])==z2&&true))&&DY (kJ (hdB [Dx re n1_])) (mF (hdB [Dx re n1_])) a z) (O_ (t_) (p_) (h_) (l) (r0_) (r1_) (r2_) (r3_) (r4_) (r5_) (r6_) (r7_) (false)) (Q0 (t_) (p_) (h_) (l) ([Dx re n1_]) (G5 re n1_) (r0_) (r1_) (r2_) (r3_) (r4_) (r5_) (r6_) (r7_)))) (O_ (t_) (p_) (h_) (l) (r0_) (r1_) (r2_) (r3_) (r4_) (r5_) (r6_) (r7_) (true)))))
def Ie (s:MS) (a z a2 z2 t_ p_ h_:Int) (l:List (Int×Int)) (cu:List (Int×Int)) (re:List (Int×Int)) (r0_ r1_ r2_ r3_ r4_ r5_ r6_ r7_:Int):Prop:=s=⟨t_,p_,h_,l,r0_,r1_,r2_,r3_,r4_,r5_,r6_,r7_⟩∧JY s.t s.p s.h a z=true∧s.l.all (λx=>okB x (a,z) (a2,z2))=re.all λx=>okB x (a,z) (a2,z2)
theorem AgR (s:MS) (a z a2 z2 t p h:Int) (l:List (Int×Int)) (x0 x1 x2 x3 x4 x5 x6 x7:Int) (hx:CB ⟨t,p,h,l,x0,x1,x2,x3,x4,x5,x6,x7⟩ (s)):Ri s a z a2 z2 t p h l x0 x1 x2 x3 x4 x5 x6 x7 (λt_' p_' h_' l' cu' re' r0_' r1_' r2_' r3_' r4_' r5_' r6_' r7_'=>Ie s a z a2 z2 t_' p_' h_' l' cu' re' r0_' r1_' r2_' r3_' r4_' r5_' r6_' r7_') (λr__=>r__=(EQ s a z a2 z2)) (λt_ p_ h_ l_ x0_ x1_ x2_ x3_ x4_ x5_ x6_ x7_ r_=>CB ⟨t_,p_,h_,l_,x0_,x1_,x2_,x3_,x4_,x5_,x6_,x7_⟩ (s)∧r_=(EQ s a z a2 z2)):=by
 have key:∀x:MS,CB x s→Ri s a z a2 z2 x.t x.p x.h x.l x.r0 x.r1 x.r2 x.r3 x.r4 x.r5 x.r6 x.r7 (λt_' p_' h_' l' cu' re' r0_' r1_' r2_' r3_' r4_' r5_' r6_' r7_'=>Ie s a z a2 z2 t_' p_' h_' l' cu' re' r0_' r1_' r2_' r3_' r4_' r5_' r6_' r7_') (λr__=>r__=(EQ s a z a2 z2)) (λt_ p_ h_ l_ x0_ x1_ x2_ x3_ x4_ x5_ x6_ x7_ r_=>CB ⟨t_,p_,h_,l_,x0_,x1_,x2_,x3_,x4_,x5_,x6_,x7_⟩ (s)∧r_=(EQ s a z a2 z2)):=by
  intro x ho
  unfold Ri
  try unfold Ie
  cases (show x=s from ho)
  refine ⟨λhc=>⟨rfl,?_⟩, λhc=>⟨rfl,?_,rfl⟩⟩
  ·have hc:JY s.t s.p s.h a z=false:=(kW _).mp hc
   unfold EQ
   rw [hc,Bool.false_and]
  ·exact (oD _).mp hc
 exact key ⟨t,p,h,l,x0,x1,x2,x3,x4,x5,x6,x7⟩ hx
theorem AgS (s:MS) (a z a2 z2 t_ p_ h_:Int) (l:List (Int×Int)) (cu:List (Int×Int)) (re:List (Int×Int)) (r0_ r1_ r2_ r3_ r4_ r5_ r6_ r7_:Int) (hI:Ie s a z a2 z2 t_ p_ h_ l cu re r0_ r1_ r2_ r3_ r4_ r5_ r6_ r7_):AdW s a z a2 z2 t_ p_ h_ l cu re r0_ r1_ r2_ r3_ r4_ r5_ r6_ r7_ (λt_' p_' h_' l' cu' re' r0_' r1_' r2_' r3_' r4_' r5_' r6_' r7_'=>Ie s a z a2 z2 t_' p_' h_' l' cu' re' r0_' r1_' r2_' r3_' r4_' r5_' r6_' r7_'∧lx (re'.length,0,0) (re.length,0,0)) (λr__=>r__=(EQ s a z a2 z2)) (λt_ p_ h_ l_ x0_ x1_ x2_ x3_ x4_ x5_ x6_ x7_ r_=>CB ⟨t_,p_,h_,l_,x0_,x1_,x2_,x3_,x4_,x5_,x6_,x7_⟩ (s)∧r_=(EQ s a z a2 z2)):=by
 unfold Ie at hI
 unfold AdW
 try unfold Ie
 obtain ⟨rfl,h1,h2⟩:=hI
 refine ⟨λhn=>⟨λhx=>(by cases hx), λ_=>⟨rfl,?_⟩⟩, λhn n=>⟨λ_=>⟨rfl, λ_=>⟨λhx=>⟨rfl,?_⟩, λhx=>?_⟩⟩, λhx=>(by cases hx)⟩⟩
 ·have hr:re=[]:=by cases re with|nil=>rfl|cons _ _=>cases hn
  unfold EQ
  dsimp only at h2 ⊢
  rw [h1,h2,hr];rfl
 ·have hx:okB (Dx re n) (a,z) (a2,z2)=false:=by
   unfold okB;exact (oD _).mpr hx
  unfold EQ
  dsimp only at h2 ⊢
  rw [h1,h2,AgP hn n,hx];rfl
 ·have hx:okB (Dx re n) (a,z) (a2,z2)=true:=by
   unfold okB;exact (kW _).mpr hx
  have hlen:=AgN hn n
  refine ⟨⟨rfl,h1,?_⟩,BU⟩
  rw [h2,AgP hn n,hx,oA]
theorem AlJ:DZ 21 AgQ:=
 EX Dg Gx true AdV (I:=[61,411000000000,411000000004,411000000005,411000000016]) Try.func21 mix (B:=AY Try.f21) (by kernel_rfl) rfl (by kernel_rfl) 400
  λo s a z a2 z2 hb hp=>⟨s,s,(EQ s a z a2 z2),[⟨none,[0,1,0,1,1],[.blk 0, .code [1,1,1]],[0,4,5,16],[.boxc o RP.t RP.l, .box 55 [.ic .i64 (a), .ic .i64 (z)], .box 55 [.ic .i64 (a2), .ic .i64 (z2)], .agi 1]⟩],[.run], λj=>iM [Ak (Hd.kd (⟨none,[0,1,0,1,1],[.blk 0, .code [1,1,1]],[0,4,5,16],[.boxc o RP.t RP.l, .box 55 [.ic .i64 (a), .ic .i64 (z)], .box 55 [.ic .i64 (a2), .ic .i64 (z2)], .agi 1]⟩:Hd Sg)) (λt_' p_' h_' l' cu' re' r0_' r1_' r2_' r3_' r4_' r5_' r6_' r7_'=>Ie s a z a2 z2 t_' p_' h_' l' cu' re' r0_' r1_' r2_' r3_' r4_' r5_' r6_' r7_')] j (λ_=>False), λj=>iM [Ak (Hd.kd (⟨none,[0,1,0,1,1],[.blk 0, .code [1,1,1]],[0,4,5,16],[.boxc o RP.t RP.l, .box 55 [.ic .i64 (a), .ic .i64 (z)], .box 55 [.ic .i64 (a2), .ic .i64 (z2)], .agi 1]⟩:Hd Sg)) (λt_' p_' h_' l' cu' re' r0_' r1_' r2_' r3_' r4_' r5_' r6_' r7_'=>(re'.length,0,0))] j (λ_=>(0,0,0)),by kernel_rfl, λ_ _=>by kernel_rfl,by kernel_rfl, λt p h l x0 x1 x2 x3 x4 x5 x6 x7 hx=>⟨Ri s a z a2 z2 t p h l x0 x1 x2 x3 x4 x5 x6 x7 (λt_' p_' h_' l' cu' re' r0_' r1_' r2_' r3_' r4_' r5_' r6_' r7_'=>Ie s a z a2 z2 t_' p_' h_' l' cu' re' r0_' r1_' r2_' r3_' r4_' r5_' r6_' r7_') (λr__=>r__=(EQ s a z a2 z2)) (λt_ p_ h_ l_ x0_ x1_ x2_ x3_ x4_ x5_ x6_ x7_ r_=>CB ⟨t_,p_,h_,l_,x0_,x1_,x2_,x3_,x4_,x5_,x6_,x7_⟩ (s)∧r_=(EQ s a z a2 z2)), λ_ _ _ _=>by kernel_rfl,AgR s a z a2 z2 t p h l x0 x1 x2 x3 x4 x5 x6 x7 hx⟩,⟨λt_ p_ h_ l cu re r0_ r1_ r2_ r3_ r4_ r5_ r6_ r7_ hI=>⟨_, λ_ _ _=>by kernel_rfl,AgS s a z a2 z2 t_ p_ h_ l cu re r0_ r1_ r2_ r3_ r4_ r5_ r6_ r7_ hI⟩,trivial⟩⟩
def AgT:Tb:=(21,AgQ)::AlI
theorem AiH:DU AgT:=Ej AlJ AdV
end
section
open Go.Sl
def AdX:Tb:=AgT
theorem UD:DU AdX:=AiH
def Hr (xa xz:LI) (u0 u1 u2 u3 u4 u5 u6 u7:Int) (ya yz:LI) (v0 v1 v2 v3 v4 v5 v6 v7:Int):Bool:=decide (xa=ya∧xz=yz)&&(u0==v0&&(u1==v1&&(u2==v2&&(u3==v3&&(u4==v4&&(u5==v5&&(u6==v6&&(u7==v7&&true))))))))
abbrev Ak2:Ct Sg:=⟨none,false,[.agg [.ro [some .i64,some .i64], .i .i64, .i .i64, .i .i64, .i .i64, .i .i64, .i .i64, .i .i64, .i .i64], .agg [.ro [some .i64,some .i64], .i .i64, .i .i64, .i .i64, .i .i64, .i .i64, .i .i64, .i .i64, .i .i64]], .b⟩
def Aa0:Entry Sg:=CP Ak2 Hr (λxa xz u0 u1 u2 u3 u4 u5 u6 u7 ya yz v0 v1 v2 v3 v4 v5 v6 v7=>[xa.length=xz.length,ya.length=yz.length])
def Aa1 (xa xz:LI) (u0 u1 u2 u3 u4 u5 u6 u7:Int) (ya yz:LI) (v0 v1 v2 v3 v4 v5 v6 v7:Int) (Q0:Int→Prop) (R_:Bool→Prop):Prop:=(BH ((↑(iN xa):Int) !=(↑(iN ya):Int)||!(u0==v0&&(u1==v1&&(u2==v2&&(u3==v3&&(u4==v4&&(u5==v5&&(u6==v6&&(u7==v7&&true))))))))) (R_ (false)) (Q0 (0)))
def Xu (xa xz:LI) (u0 u1 u2 u3 u4 u5 u6 u7:Int) (ya yz:LI) (v0 v1 v2 v3 v4 v5 v6 v7 i:Int) (Q0:Int→Prop) (R_:Bool→Prop):Prop:=(BH (decide (i<(↑(iN xa):Int))) (Ba (0≤i∧i<(↑(iN xa):Int)) (Ba (0≤i∧i<(↑(iN ya):Int)) (BH (!(iM xa (jL i) 0==iM ya (jL i) 0&&(iM xz (jL i) 0==iM yz (jL i) 0&&true))) (R_ (false)) (Q0 (iS iB (i+1)))))) (R_ (true)))
def Ir (xa xz:LI) (u0 u1 u2 u3 u4 u5 u6 u7:Int) (ya yz:LI) (v0 v1 v2 v3 v4 v5 v6 v7 i:Int) (r_:Bool):Prop:=0≤i∧i≤xa.length∧xa.length=ya.length∧(∀j:Nat,j<i.toNat→xa.getD j 0=ya.getD j 0∧xz.getD j 0=yz.getD j 0)∧r_=decide (xa=ya∧xz=yz)
abbrev P5 (p0:Addr) (xa xz:LI) (u0 u1 u2 u3 u4 u5 u6 u7:Int) (ya yz:LI) (v0 v1 v2 v3 v4 v5 v6 v7:Int):Hd Sg:=⟨none,[0,1,0,1,1],[.blk 0, .code [1,1,1]],[5,2,3],[.i .i64, .box 27 [.roc [.ints .i64 (xa), .ints .i64 (xz)], .ic .i64 (u0), .ic .i64 (u1), .ic .i64 (u2), .ic .i64 (u3), .ic .i64 (u4), .ic .i64 (u5), .ic .i64 (u6), .ic .i64 (u7)], .box 27 [.roc [.ints .i64 (ya), .ints .i64 (yz)], .ic .i64 (v0), .ic .i64 (v1), .ic .i64 (v2), .ic .i64 (v3), .ic .i64 (v4), .ic .i64 (v5), .ic .i64 (v6), .ic .i64 (v7)]]⟩
theorem AcE (xa xz:LI) (u0 u1 u2 u3 u4 u5 u6 u7:Int) (ya yz:LI) (v0 v1 v2 v3 v4 v5 v6 v7:Int) (hp0:xa.length=xz.length) (hp1:ya.length=yz.length) (hl0:xa.length≤9223372036854775807) (hl1:ya.length≤9223372036854775807):Aa1 xa xz u0 u1 u2 u3 u4 u5 u6 u7 ya yz v0 v1 v2 v3 v4 v5 v6 v7 (λi'=>Ir xa xz u0 u1 u2 u3 u4 u5 u6 u7 ya yz v0 v1 v2 v3 v4 v5 v6 v7 i' (Hr xa xz u0 u1 u2 u3 u4 u5 u6 u7 ya yz v0 v1 v2 v3 v4 v5 v6 v7)) (λr__=>r__=(Hr xa xz u0 u1 u2 u3 u4 u5 u6 u7 ya yz v0 v1 v2 v3 v4 v5 v6 v7)):=by
 unfold Aa1
 try unfold Ir
 refine ⟨λh=>?_, λh=>?_⟩
 ·show false=Hr xa xz u0 u1 u2 u3 u4 u5 u6 u7 ya yz v0 v1 v2 v3 v4 v5 v6 v7
  revert h
  unfold Hr
  generalize (u0==v0&&(u1==v1&&(u2==v2&&(u3==v3&&(u4==v4&&(u5==v5&&(u6==v6&&(u7==v7&&true))))))))=e
  intro h
  cases e with
  |false=>simp
  |true=>
   have hne:xa≠ya:= λe2=>by rw [e2] at h;simp at h
   simp [hne]
 ·have hh:xa.length=ya.length∧(u0==v0&&(u1==v1&&(u2==v2&&(u3==v3&&(u4==v4&&(u5==v5&&(u6==v6&&(u7==v7&&true))))))))=true:=by
   simp only [kF,oD,bne_eq_false_iff_eq] at h
   exact ⟨by have:=h.1;omega,h.2⟩
  refine ⟨by omega,by omega,hh.1, λj hj=>absurd hj (kR j),?_⟩
  unfold Hr
  rw [hh.2,Bool.and_true]
theorem AcF (xa xz:LI) (u0 u1 u2 u3 u4 u5 u6 u7:Int) (ya yz:LI) (v0 v1 v2 v3 v4 v5 v6 v7:Int) (hp0:xa.length=xz.length) (hp1:ya.length=yz.length) (hl0:xa.length≤9223372036854775807) (hl1:ya.length≤9223372036854775807) (i:Int) {r_:Bool} (hI:Ir xa xz u0 u1 u2 u3 u4 u5 u6 u7 ya yz v0 v1 v2 v3 v4 v5 v6 v7 i r_):Xu xa xz u0 u1 u2 u3 u4 u5 u6 u7 ya yz v0 v1 v2 v3 v4 v5 v6 v7 i (λi'=>Ir xa xz u0 u1 u2 u3 u4 u5 u6 u7 ya yz v0 v1 v2 v3 v4 v5 v6 v7 i' r_∧lx ((xa.length-i').toNat,0,0) ((xa.length-i).toNat,0,0)) (λr__=>r__=r_):=by
 unfold Ir at hI
 unfold Xu
 try unfold Ir
 obtain ⟨h0,h1,h2,h3,h4⟩:=hI
 refine ⟨λh=>?_, λh=>?_⟩
 ·simp only [decide_eq_true_eq] at h
  refine ⟨⟨h0,h⟩, λ_=>⟨⟨h0,by omega⟩, λ_=>⟨λhn=>?_, λhn=>?_⟩⟩⟩
  ·show false=r_
   rw [h4]
   symm
   simp only [decide_eq_false_iff_not]
   rintro ⟨rfl,rfl⟩
   simp at hn
  ·rw [Ic (n:=i+1) (by omega)]
   refine ⟨⟨by omega,by omega,h2, λj hj=>?_,h4⟩,BU⟩
   by_cases hji:j=i.toNat
   ·subst hji;simpa using hn
   ·exact h3 j (by omega)
 ·simp only [decide_eq_false_iff_not] at h
  show true=r_
  rw [h4]
  symm
  simp only [decide_eq_true_eq]
  exact ⟨YA h2 λj hj=>(h3 j (by omega)).1,YA (by omega) λj hj=>(h3 j (by omega)).2⟩
theorem AiI:DZ 11 Aa0:=
 MC Dg UD (I:=[411000000005,411000000002,411000000003]) Try.func11 mix (B:=AY Try.f11) (by kernel_rfl) rfl (by kernel_rfl) 400
  λp0 xa xz u0 u1 u2 u3 u4 u5 u6 u7 ya yz v0 v1 v2 v3 v4 v5 v6 v7 hb hp=>have hl0:xa.length≤9223372036854775807:=hb.1.1;have hl1:ya.length≤9223372036854775807:=hb.2.1.1;have hp0:xa.length=xz.length:=hp _ (.head _);have hp1:ya.length=yz.length:=hp _ (.tail _ (.head _));⟨[P5 p0 xa xz u0 u1 u2 u3 u4 u5 u6 u7 ya yz v0 v1 v2 v3 v4 v5 v6 v7], λj=>iM [Ak (Hd.kd (P5 p0 xa xz u0 u1 u2 u3 u4 u5 u6 u7 ya yz v0 v1 v2 v3 v4 v5 v6 v7)) (λi'=>Ir xa xz u0 u1 u2 u3 u4 u5 u6 u7 ya yz v0 v1 v2 v3 v4 v5 v6 v7 i' (Hr xa xz u0 u1 u2 u3 u4 u5 u6 u7 ya yz v0 v1 v2 v3 v4 v5 v6 v7))] j (λ_=>False), λj=>iM [Ak (Hd.kd (P5 p0 xa xz u0 u1 u2 u3 u4 u5 u6 u7 ya yz v0 v1 v2 v3 v4 v5 v6 v7)) (λi'=>((xa.length-i').toNat,0,0))] j (λ_=>(0,0,0)),by kernel_rfl,⟨_, λ_ _ _=>by kernel_rfl,AcE xa xz u0 u1 u2 u3 u4 u5 u6 u7 ya yz v0 v1 v2 v3 v4 v5 v6 v7 hp0 hp1 hl0 hl1⟩,⟨λi hI=>⟨_, λ_ _ _=>by kernel_rfl,AcF xa xz u0 u1 u2 u3 u4 u5 u6 u7 ya yz v0 v1 v2 v3 v4 v5 v6 v7 hp0 hp1 hl0 hl1 i hI⟩,trivial⟩⟩
def Rj:Tb:=(11,Aa0)::AdX
theorem ML:DU Rj:=Ej AiI UD
end
section
open Go.Sl
def Hw (s:MS) (i:Int):Int×Bool:=bif decide (i<0)||decide (i≥8) then (0,false) else ([s.r0,s.r1,s.r2,s.r3,s.r4,s.r5,s.r6,s.r7].getD i.toNat 0,true)
def AnX (t p h:Int):MS:=⟨t,p,h,[],0,0,0,0,0,0,0,0⟩
abbrev AoC:Ct Sg:=⟨none,false,[.agg [.i .i64, .i .i64, .i .i64]], .nobj D5⟩
def Ajx:Entry Sg:=CP AoC (λ(t:Int) (p:Int) (h:Int)=>⟨t,p,h,[],0,0,0,0,0,0,0,0⟩) (λt p h=>[Eu t p h=0])
def Ajy (t p h:Int) (Q0:Int→Prop) (O_:Int→Int→Int→List (Int×Int)→Int→Int→Int→Int→Int→Int→Int→Int→Prop):Prop:=(BH (Eu t p h !=0) (Q0 (Eu t p h)) (O_ (t) (p) (h) ([]) (0) (0) (0) (0) (0) (0) (0) (0)))
def YE (t p h q_:Int):Prop:=False
theorem AiJ (t p h:Int) (hp0:Eu t p h=0):Ajy t p h (λq_'=>YE t p h q_') (λt_ p_ h_ l_ x0_ x1_ x2_ x3_ x4_ x5_ x6_ x7_=>CB ⟨t_,p_,h_,l_,x0_,x1_,x2_,x3_,x4_,x5_,x6_,x7_⟩ ((AnX t p h))):=by
 unfold Ajy
 try unfold YE
 refine ⟨λh=>?_, λ_=>rfl⟩
 rw [hp0] at h;cases h
theorem Anf:DZ 16 Ajx:=
 Al2 Dg Gx ML (I:=[1358000]) Try.func16 mix (B:=AY Try.f16) (by kernel_rfl) rfl (by kernel_rfl) 400
  λp0 t p h hb hp=>have hp0:Eu t p h=0:=hp _ (.head _);⟨(AnX t p h),[⟨some 0,[0,0,1,0,1],[.code [1,0,1,0,1], .code [1,1]],[4],[.i .i64]⟩],[.run], λj=>iM [Ak (Hd.kd (⟨some 0,[0,0,1,0,1],[.code [1,0,1,0,1], .code [1,1]],[4],[.i .i64]⟩:Hd Sg)) (λq_'=>YE t p h q_')] j (λ_=>False), λj=>iM [Ak (Hd.kd (⟨some 0,[0,0,1,0,1],[.code [1,0,1,0,1], .code [1,1]],[4],[.i .i64]⟩:Hd Sg)) (λq_'=>(0,0,0))] j (λ_=>(0,0,0)),by kernel_rfl, λ_=>rfl,by kernel_rfl,by kernel_rfl,⟨_, λ_ _ _=>by kernel_rfl,AiJ t p h hp0⟩,⟨λq_ hI=>False.elim hI,trivial⟩⟩
def Ajz:Tb:=(16,Ajx)::Rj
theorem Aa2:DU Ajz:=Ej Anf ML
def FP (s:MS) (i:Int):Int×Bool:=Hw s i
abbrev Ang:Ct Sg:=⟨some D5,true,[.i .i64], .tup [.i .i64, .b]⟩
def AgU:Entry Sg:=CP Ang (λ(s:MS) (i:Int)=>Hw s i) (λ_ _=>[])
def AgV (s:MS) (i:Int) (Q0:MS→Int→Prop) (Q1:Int→Int→Int→List (Int×Int)→Int→Int→Int→Int→Int→Int→Int→Int→Int→Prop) (R_:Int×Bool→Prop) (O_:Int→Int→Int→List (Int×Int)→Int→Int→Int→Int→Int→Int→Int→Int→Int×Bool→Prop):Prop:=(BH (decide (i<0)||decide (i≥8)) (R_ ((0,false))) (Q0 (s) (i)))
def AdY (s:MS) (i:Int) (u:MS) (i_ t_ p_ h_:Int) (l_:List (Int×Int)) (x0_ x1_ x2_ x3_ x4_ x5_ x6_ x7_:Int) (Q1:Int→Int→Int→List (Int×Int)→Int→Int→Int→Int→Int→Int→Int→Int→Int→Prop):Prop:=(Q1 (t_) (p_) (h_) (l_) (x0_) (x1_) (x2_) (x3_) (x4_) (x5_) (x6_) (x7_) (i_))
def DW (s:MS) (i:Int) (u:MS) (i_:Int):Prop:=u=s∧i_=i∧0≤i∧i<8
def Xv (s:MS) (i t_ p_ h_:Int) (l_:List (Int×Int)) (r0_ r1_ r2_ r3_ r4_ r5_ r6_ r7_:Int) (Q0:MS→Int→Prop) (Q1:Int→Int→Int→List (Int×Int)→Int→Int→Int→Int→Int→Int→Int→Int→Int→Prop) (R_:Int×Bool→Prop) (O_:Int→Int→Int→List (Int×Int)→Int→Int→Int→Int→Int→Int→Int→Int→Int×Bool→Prop):Prop:=(Ba ((0:Int)≤0∧(0:Int)<8) (O_ (t_) (p_) (h_) (l_) (r0_) (r1_) (r2_) (r3_) (r4_) (r5_) (r6_) (r7_) ((r0_,true))))
def Xw (s:MS) (i t_ p_ h_:Int) (l_:List (Int×Int)) (r0_ r1_ r2_ r3_ r4_ r5_ r6_ r7_:Int) (Q0:MS→Int→Prop) (Q1:Int→Int→Int→List (Int×Int)→Int→Int→Int→Int→Int→Int→Int→Int→Int→Prop) (R_:Int×Bool→Prop) (O_:Int→Int→Int→List (Int×Int)→Int→Int→Int→Int→Int→Int→Int→Int→Int×Bool→Prop):Prop:=(Ba ((0:Int)≤1∧(1:Int)<8) (O_ (t_) (p_) (h_) (l_) (r0_) (r1_) (r2_) (r3_) (r4_) (r5_) (r6_) (r7_) ((r1_,true))))
def Xx (s:MS) (i t_ p_ h_:Int) (l_:List (Int×Int)) (r0_ r1_ r2_ r3_ r4_ r5_ r6_ r7_:Int) (Q0:MS→Int→Prop) (Q1:Int→Int→Int→List (Int×Int)→Int→Int→Int→Int→Int→Int→Int→Int→Int→Prop) (R_:Int×Bool→Prop) (O_:Int→Int→Int→List (Int×Int)→Int→Int→Int→Int→Int→Int→Int→Int→Int×Bool→Prop):Prop:=(Ba ((0:Int)≤2∧(2:Int)<8) (O_ (t_) (p_) (h_) (l_) (r0_) (r1_) (r2_) (r3_) (r4_) (r5_) (r6_) (r7_) ((r2_,true))))
def Xy (s:MS) (i t_ p_ h_:Int) (l_:List (Int×Int)) (r0_ r1_ r2_ r3_ r4_ r5_ r6_ r7_:Int) (Q0:MS→Int→Prop) (Q1:Int→Int→Int→List (Int×Int)→Int→Int→Int→Int→Int→Int→Int→Int→Int→Prop) (R_:Int×Bool→Prop) (O_:Int→Int→Int→List (Int×Int)→Int→Int→Int→Int→Int→Int→Int→Int→Int×Bool→Prop):Prop:=(Ba ((0:Int)≤3∧(3:Int)<8) (O_ (t_) (p_) (h_) (l_) (r0_) (r1_) (r2_) (r3_) (r4_) (r5_) (r6_) (r7_) ((r3_,true))))
def Xz (s:MS) (i t_ p_ h_:Int) (l_:List (Int×Int)) (r0_ r1_ r2_ r3_ r4_ r5_ r6_ r7_:Int) (Q0:MS→Int→Prop) (Q1:Int→Int→Int→List (Int×Int)→Int→Int→Int→Int→Int→Int→Int→Int→Int→Prop) (R_:Int×Bool→Prop) (O_:Int→Int→Int→List (Int×Int)→Int→Int→Int→Int→Int→Int→Int→Int→Int×Bool→Prop):Prop:=(Ba ((0:Int)≤4∧(4:Int)<8) (O_ (t_) (p_) (h_) (l_) (r0_) (r1_) (r2_) (r3_) (r4_) (r5_) (r6_) (r7_) ((r4_,true))))
def X0 (s:MS) (i t_ p_ h_:Int) (l_:List (Int×Int)) (r0_ r1_ r2_ r3_ r4_ r5_ r6_ r7_:Int) (Q0:MS→Int→Prop) (Q1:Int→Int→Int→List (Int×Int)→Int→Int→Int→Int→Int→Int→Int→Int→Int→Prop) (R_:Int×Bool→Prop) (O_:Int→Int→Int→List (Int×Int)→Int→Int→Int→Int→Int→Int→Int→Int→Int×Bool→Prop):Prop:=(Ba ((0:Int)≤5∧(5:Int)<8) (O_ (t_) (p_) (h_) (l_) (r0_) (r1_) (r2_) (r3_) (r4_) (r5_) (r6_) (r7_) ((r5_,true))))
def X3 (s:MS) (i t_ p_ h_:Int) (l_:List (Int×Int)) (r0_ r1_ r2_ r3_ r4_ r5_ r6_ r7_:Int) (Q0:MS→Int→Prop) (Q1:Int→Int→Int→List (Int×Int)→Int→Int→Int→Int→Int→Int→Int→Int→Int→Prop) (R_:Int×Bool→Prop) (O_:Int→Int→Int→List (Int×Int)→Int→Int→Int→Int→Int→Int→Int→Int→Int×Bool→Prop):Prop:=(Ba ((0:Int)≤6∧(6:Int)<8) (O_ (t_) (p_) (h_) (l_) (r0_) (r1_) (r2_) (r3_) (r4_) (r5_) (r6_) (r7_) ((r6_,true))))
def X4 (s:MS) (i t_ p_ h_:Int) (l_:List (Int×Int)) (r0_ r1_ r2_ r3_ r4_ r5_ r6_ r7_:Int) (Q0:MS→Int→Prop) (Q1:Int→Int→Int→List (Int×Int)→Int→Int→Int→Int→Int→Int→Int→Int→Int→Prop) (R_:Int×Bool→Prop) (O_:Int→Int→Int→List (Int×Int)→Int→Int→Int→Int→Int→Int→Int→Int→Int×Bool→Prop):Prop:=(Ba ((0:Int)≤7∧(7:Int)<8) (O_ (t_) (p_) (h_) (l_) (r0_) (r1_) (r2_) (r3_) (r4_) (r5_) (r6_) (r7_) ((r7_,true))))
def BV (s:MS) (i t_ p_ h_:Int) (l_:List (Int×Int)) (r0_ r1_ r2_ r3_ r4_ r5_ r6_ r7_ i_:Int):Prop:=s=⟨t_,p_,h_,l_,r0_,r1_,r2_,r3_,r4_,r5_,r6_,r7_⟩∧i_=i∧0≤i∧i<8
theorem AgW (s:MS) (i:Int):AgV s i (λu' i_'=>DW s i u' i_') (λt_' p_' h_' l_' r0_' r1_' r2_' r3_' r4_' r5_' r6_' r7_' i_'=>BV s i t_' p_' h_' l_' r0_' r1_' r2_' r3_' r4_' r5_' r6_' r7_' i_') (λr__=>r__=(FP s i)) (λt_ p_ h_ l_ x0_ x1_ x2_ x3_ x4_ x5_ x6_ x7_ r_=>CB ⟨t_,p_,h_,l_,x0_,x1_,x2_,x3_,x4_,x5_,x6_,x7_⟩ (s)∧r_=(FP s i)):=by
 unfold AgV
 try unfold DW
 try unfold BV
 refine ⟨λh=>?_, λh=>⟨rfl,rfl,?_⟩⟩
 ·unfold FP Hw;rw [h];rfl
 ·simp only [kF,decide_eq_false_iff_not] at h;omega
theorem AgX (s:MS) (i:Int) (u:MS) (i_ t_ p_ h_:Int) (l_:List (Int×Int)) (x0_ x1_ x2_ x3_ x4_ x5_ x6_ x7_:Int) (hI:DW s i u i_) (hx:CB ⟨t_,p_,h_,l_,x0_,x1_,x2_,x3_,x4_,x5_,x6_,x7_⟩ (u)):AdY s i u i_ t_ p_ h_ l_ x0_ x1_ x2_ x3_ x4_ x5_ x6_ x7_ (λt_' p_' h_' l_' r0_' r1_' r2_' r3_' r4_' r5_' r6_' r7_' i_'=>BV s i t_' p_' h_' l_' r0_' r1_' r2_' r3_' r4_' r5_' r6_' r7_' i_'∧lx (1,0,0) (2,0,0)):=by
 unfold DW at hI
 unfold AdY
 try unfold DW
 try unfold BV
 obtain ⟨rfl,rfl,h1,h2⟩:=hI
 exact ⟨⟨hx.symm,rfl,h1,h2⟩,BU⟩
theorem Ak3 (s:MS) (i t_ p_ h_:Int) (l_:List (Int×Int)) (r0_ r1_ r2_ r3_ r4_ r5_ r6_ r7_ i_:Int) (hI:BV s i t_ p_ h_ l_ r0_ r1_ r2_ r3_ r4_ r5_ r6_ r7_ i_):i_=0∨i_=1∨i_=2∨i_=3∨i_=4∨i_=5∨i_=6∨i_=7:=by
 unfold BV at hI
 omega
theorem AcG (s:MS) (i t_ p_ h_:Int) (l_:List (Int×Int)) (r0_ r1_ r2_ r3_ r4_ r5_ r6_ r7_:Int) (hI:BV s i t_ p_ h_ l_ r0_ r1_ r2_ r3_ r4_ r5_ r6_ r7_ (0:Int)):Xv s i t_ p_ h_ l_ r0_ r1_ r2_ r3_ r4_ r5_ r6_ r7_ (λu' i_'=>DW s i u' i_'∧lx (2,0,0) (1,0,0)) (λt_' p_' h_' l_' r0_' r1_' r2_' r3_' r4_' r5_' r6_' r7_' i_'=>BV s i t_' p_' h_' l_' r0_' r1_' r2_' r3_' r4_' r5_' r6_' r7_' i_'∧lx (1,0,0) (1,0,0)) (λr__=>r__=(FP s i)) (λt_ p_ h_ l_ x0_ x1_ x2_ x3_ x4_ x5_ x6_ x7_ r_=>CB ⟨t_,p_,h_,l_,x0_,x1_,x2_,x3_,x4_,x5_,x6_,x7_⟩ (s)∧r_=(FP s i)):=by
 unfold BV at hI
 unfold Xv
 try unfold DW
 try unfold BV
 obtain ⟨rfl,rfl,h1,h2⟩:=hI
 exact ⟨by decide, λ_=>⟨rfl,rfl⟩⟩
theorem AcH (s:MS) (i t_ p_ h_:Int) (l_:List (Int×Int)) (r0_ r1_ r2_ r3_ r4_ r5_ r6_ r7_:Int) (hI:BV s i t_ p_ h_ l_ r0_ r1_ r2_ r3_ r4_ r5_ r6_ r7_ (1:Int)):Xw s i t_ p_ h_ l_ r0_ r1_ r2_ r3_ r4_ r5_ r6_ r7_ (λu' i_'=>DW s i u' i_'∧lx (2,0,0) (1,0,0)) (λt_' p_' h_' l_' r0_' r1_' r2_' r3_' r4_' r5_' r6_' r7_' i_'=>BV s i t_' p_' h_' l_' r0_' r1_' r2_' r3_' r4_' r5_' r6_' r7_' i_'∧lx (1,0,0) (1,0,0)) (λr__=>r__=(FP s i)) (λt_ p_ h_ l_ x0_ x1_ x2_ x3_ x4_ x5_ x6_ x7_ r_=>CB ⟨t_,p_,h_,l_,x0_,x1_,x2_,x3_,x4_,x5_,x6_,x7_⟩ (s)∧r_=(FP s i)):=by
 unfold BV at hI
 unfold Xw
 try unfold DW
 try unfold BV
 obtain ⟨rfl,rfl,h1,h2⟩:=hI
 exact ⟨by decide, λ_=>⟨rfl,rfl⟩⟩
theorem AcI (s:MS) (i t_ p_ h_:Int) (l_:List (Int×Int)) (r0_ r1_ r2_ r3_ r4_ r5_ r6_ r7_:Int) (hI:BV s i t_ p_ h_ l_ r0_ r1_ r2_ r3_ r4_ r5_ r6_ r7_ (2:Int)):Xx s i t_ p_ h_ l_ r0_ r1_ r2_ r3_ r4_ r5_ r6_ r7_ (λu' i_'=>DW s i u' i_'∧lx (2,0,0) (1,0,0)) (λt_' p_' h_' l_' r0_' r1_' r2_' r3_' r4_' r5_' r6_' r7_' i_'=>BV s i t_' p_' h_' l_' r0_' r1_' r2_' r3_' r4_' r5_' r6_' r7_' i_'∧lx (1,0,0) (1,0,0)) (λr__=>r__=(FP s i)) (λt_ p_ h_ l_ x0_ x1_ x2_ x3_ x4_ x5_ x6_ x7_ r_=>CB ⟨t_,p_,h_,l_,x0_,x1_,x2_,x3_,x4_,x5_,x6_,x7_⟩ (s)∧r_=(FP s i)):=by
 unfold BV at hI
 unfold Xx
 try unfold DW
 try unfold BV
 obtain ⟨rfl,rfl,h1,h2⟩:=hI
 exact ⟨by decide, λ_=>⟨rfl,rfl⟩⟩
theorem AcJ (s:MS) (i t_ p_ h_:Int) (l_:List (Int×Int)) (r0_ r1_ r2_ r3_ r4_ r5_ r6_ r7_:Int) (hI:BV s i t_ p_ h_ l_ r0_ r1_ r2_ r3_ r4_ r5_ r6_ r7_ (3:Int)):Xy s i t_ p_ h_ l_ r0_ r1_ r2_ r3_ r4_ r5_ r6_ r7_ (λu' i_'=>DW s i u' i_'∧lx (2,0,0) (1,0,0)) (λt_' p_' h_' l_' r0_' r1_' r2_' r3_' r4_' r5_' r6_' r7_' i_'=>BV s i t_' p_' h_' l_' r0_' r1_' r2_' r3_' r4_' r5_' r6_' r7_' i_'∧lx (1,0,0) (1,0,0)) (λr__=>r__=(FP s i)) (λt_ p_ h_ l_ x0_ x1_ x2_ x3_ x4_ x5_ x6_ x7_ r_=>CB ⟨t_,p_,h_,l_,x0_,x1_,x2_,x3_,x4_,x5_,x6_,x7_⟩ (s)∧r_=(FP s i)):=by
 unfold BV at hI
 unfold Xy
 try unfold DW
 try unfold BV
 obtain ⟨rfl,rfl,h1,h2⟩:=hI
 exact ⟨by decide, λ_=>⟨rfl,rfl⟩⟩
theorem AcK (s:MS) (i t_ p_ h_:Int) (l_:List (Int×Int)) (r0_ r1_ r2_ r3_ r4_ r5_ r6_ r7_:Int) (hI:BV s i t_ p_ h_ l_ r0_ r1_ r2_ r3_ r4_ r5_ r6_ r7_ (4:Int)):Xz s i t_ p_ h_ l_ r0_ r1_ r2_ r3_ r4_ r5_ r6_ r7_ (λu' i_'=>DW s i u' i_'∧lx (2,0,0) (1,0,0)) (λt_' p_' h_' l_' r0_' r1_' r2_' r3_' r4_' r5_' r6_' r7_' i_'=>BV s i t_' p_' h_' l_' r0_' r1_' r2_' r3_' r4_' r5_' r6_' r7_' i_'∧lx (1,0,0) (1,0,0)) (λr__=>r__=(FP s i)) (λt_ p_ h_ l_ x0_ x1_ x2_ x3_ x4_ x5_ x6_ x7_ r_=>CB ⟨t_,p_,h_,l_,x0_,x1_,x2_,x3_,x4_,x5_,x6_,x7_⟩ (s)∧r_=(FP s i)):=by
 unfold BV at hI
 unfold Xz
 try unfold DW
 try unfold BV
 obtain ⟨rfl,rfl,h1,h2⟩:=hI
 exact ⟨by decide, λ_=>⟨rfl,rfl⟩⟩
theorem AcL (s:MS) (i t_ p_ h_:Int) (l_:List (Int×Int)) (r0_ r1_ r2_ r3_ r4_ r5_ r6_ r7_:Int) (hI:BV s i t_ p_ h_ l_ r0_ r1_ r2_ r3_ r4_ r5_ r6_ r7_ (5:Int)):X0 s i t_ p_ h_ l_ r0_ r1_ r2_ r3_ r4_ r5_ r6_ r7_ (λu' i_'=>DW s i u' i_'∧lx (2,0,0) (1,0,0)) (λt_' p_' h_' l_' r0_' r1_' r2_' r3_' r4_' r5_' r6_' r7_' i_'=>BV s i t_' p_' h_' l_' r0_' r1_' r2_' r3_' r4_' r5_' r6_' r7_' i_'∧lx (1,0,0) (1,0,0)) (λr__=>r__=(FP s i)) (λt_ p_ h_ l_ x0_ x1_ x2_ x3_ x4_ x5_ x6_ x7_ r_=>CB ⟨t_,p_,h_,l_,x0_,x1_,x2_,x3_,x4_,x5_,x6_,x7_⟩ (s)∧r_=(FP s i)):=by
 unfold BV at hI
 unfold X0
 try unfold DW
 try unfold BV
 obtain ⟨rfl,rfl,h1,h2⟩:=hI
 exact ⟨by decide, λ_=>⟨rfl,rfl⟩⟩
theorem AcM (s:MS) (i t_ p_ h_:Int) (l_:List (Int×Int)) (r0_ r1_ r2_ r3_ r4_ r5_ r6_ r7_:Int) (hI:BV s i t_ p_ h_ l_ r0_ r1_ r2_ r3_ r4_ r5_ r6_ r7_ (6:Int)):X3 s i t_ p_ h_ l_ r0_ r1_ r2_ r3_ r4_ r5_ r6_ r7_ (λu' i_'=>DW s i u' i_'∧lx (2,0,0) (1,0,0)) (λt_' p_' h_' l_' r0_' r1_' r2_' r3_' r4_' r5_' r6_' r7_' i_'=>BV s i t_' p_' h_' l_' r0_' r1_' r2_' r3_' r4_' r5_' r6_' r7_' i_'∧lx (1,0,0) (1,0,0)) (λr__=>r__=(FP s i)) (λt_ p_ h_ l_ x0_ x1_ x2_ x3_ x4_ x5_ x6_ x7_ r_=>CB ⟨t_,p_,h_,l_,x0_,x1_,x2_,x3_,x4_,x5_,x6_,x7_⟩ (s)∧r_=(FP s i)):=by
 unfold BV at hI
 unfold X3
 try unfold DW
 try unfold BV
 obtain ⟨rfl,rfl,h1,h2⟩:=hI
 exact ⟨by decide, λ_=>⟨rfl,rfl⟩⟩
theorem AcN (s:MS) (i t_ p_ h_:Int) (l_:List (Int×Int)) (r0_ r1_ r2_ r3_ r4_ r5_ r6_ r7_:Int) (hI:BV s i t_ p_ h_ l_ r0_ r1_ r2_ r3_ r4_ r5_ r6_ r7_ (7:Int)):X4 s i t_ p_ h_ l_ r0_ r1_ r2_ r3_ r4_ r5_ r6_ r7_ (λu' i_'=>DW s i u' i_'∧lx (2,0,0) (1,0,0)) (λt_' p_' h_' l_' r0_' r1_' r2_' r3_' r4_' r5_' r6_' r7_' i_'=>BV s i t_' p_' h_' l_' r0_' r1_' r2_' r3_' r4_' r5_' r6_' r7_' i_'∧lx (1,0,0) (1,0,0)) (λr__=>r__=(FP s i)) (λt_ p_ h_ l_ x0_ x1_ x2_ x3_ x4_ x5_ x6_ x7_ r_=>CB ⟨t_,p_,h_,l_,x0_,x1_,x2_,x3_,x4_,x5_,x6_,x7_⟩ (s)∧r_=(FP s i)):=by
 unfold BV at hI
 unfold X4
 try unfold DW
 try unfold BV
 obtain ⟨rfl,rfl,h1,h2⟩:=hI
 exact ⟨by decide, λ_=>⟨rfl,rfl⟩⟩
theorem AlK:DZ 66 AgU:=
 EX Dg Gx false Aa2 (I:=[1026000]) Try.func66 mix (B:=AY Try.f66) (by kernel_rfl) rfl (by kernel_rfl) 400
  λo s i hb hp=>⟨s,s,(FP s i),[⟨some 0,[0,1,1],[.code [1,1,1]],[0,1],[.objc D5 ⟨o,0,none⟩, .i .i64]⟩,⟨some 0,[0,1,1],[.code [1,1,1]],[0,1],[.boxc o Dq.t Dq.l, .i .i64]⟩],[.opn 0 (λ_=>o) 1, .run], λj=>iM [Ak (Hd.kd (⟨some 0,[0,1,1],[.code [1,1,1]],[0,1],[.objc D5 ⟨o,0,none⟩, .i .i64]⟩:Hd Sg)) (λu' i_'=>DW s i u' i_'),Ak (Hd.kd (⟨some 0,[0,1,1],[.code [1,1,1]],[0,1],[.boxc o Dq.t Dq.l, .i .i64]⟩:Hd Sg)) (λt_' p_' h_' l_' r0_' r1_' r2_' r3_' r4_' r5_' r6_' r7_' i_'=>BV s i t_' p_' h_' l_' r0_' r1_' r2_' r3_' r4_' r5_' r6_' r7_' i_')] j (λ_=>False), λj=>iM [Ak (Hd.kd (⟨some 0,[0,1,1],[.code [1,1,1]],[0,1],[.objc D5 ⟨o,0,none⟩, .i .i64]⟩:Hd Sg)) (λu' i_'=>(2,0,0)),Ak (Hd.kd (⟨some 0,[0,1,1],[.code [1,1,1]],[0,1],[.boxc o Dq.t Dq.l, .i .i64]⟩:Hd Sg)) (λt_' p_' h_' l_' r0_' r1_' r2_' r3_' r4_' r5_' r6_' r7_' i_'=>(1,0,0))] j (λ_=>(0,0,0)),by kernel_rfl, λ_ _=>by kernel_rfl,by kernel_rfl,⟨_, λ_ _ _=>by kernel_rfl,AgW s i⟩,⟨λu i_ hI=>⟨u, λ_=>by kernel_rfl, λt_ p_ h_ l_ x0_ x1_ x2_ x3_ x4_ x5_ x6_ x7_ hx=>⟨_, λ_ _=>by kernel_rfl,AgX s i u i_ t_ p_ h_ l_ x0_ x1_ x2_ x3_ x4_ x5_ x6_ x7_ hI hx⟩⟩,⟨λt_ p_ h_ l_ r0_ r1_ r2_ r3_ r4_ r5_ r6_ r7_ i_ hI=>(by
   rcases Ak3 s i t_ p_ h_ l_ r0_ r1_ r2_ r3_ r4_ r5_ r6_ r7_ i_ hI with rfl|rfl|rfl|rfl|rfl|rfl|rfl|rfl
   ·exact ⟨_, λ_ _ _=>by kernel_rfl,AcG s i t_ p_ h_ l_ r0_ r1_ r2_ r3_ r4_ r5_ r6_ r7_ hI⟩
   ·exact ⟨_, λ_ _ _=>by kernel_rfl,AcH s i t_ p_ h_ l_ r0_ r1_ r2_ r3_ r4_ r5_ r6_ r7_ hI⟩
   ·exact ⟨_, λ_ _ _=>by kernel_rfl,AcI s i t_ p_ h_ l_ r0_ r1_ r2_ r3_ r4_ r5_ r6_ r7_ hI⟩
   ·exact ⟨_, λ_ _ _=>by kernel_rfl,AcJ s i t_ p_ h_ l_ r0_ r1_ r2_ r3_ r4_ r5_ r6_ r7_ hI⟩
   ·exact ⟨_, λ_ _ _=>by kernel_rfl,AcK s i t_ p_ h_ l_ r0_ r1_ r2_ r3_ r4_ r5_ r6_ r7_ hI⟩
   ·exact ⟨_, λ_ _ _=>by kernel_rfl,AcL s i t_ p_ h_ l_ r0_ r1_ r2_ r3_ r4_ r5_ r6_ r7_ hI⟩
   ·exact ⟨_, λ_ _ _=>by kernel_rfl,AcM s i t_ p_ h_ l_ r0_ r1_ r2_ r3_ r4_ r5_ r6_ r7_ hI⟩
   ·exact ⟨_, λ_ _ _=>by kernel_rfl,AcN s i t_ p_ h_ l_ r0_ r1_ r2_ r3_ r4_ r5_ r6_ r7_ hI⟩),trivial⟩⟩⟩
def AgY:Tb:=(66,AgU)::Ajz
theorem X5:DU AgY:=Ej AlK Aa2
def L9 (s:MS) (k a c e u v:Int):Bool:=(let r2:Int×Int×Bool:=atR (MS.l s) a;(bif !r2.2.2 then (let r6:Bool:=BG 4 e u v;r6) else e==0&&(u==r2.2.1&&(v==0&&true))))
abbrev Ak4:Ct Sg:=⟨some D5,true,[.agg [.i .i64, .i .i64, .i .i64], .agg [.i .i64, .i .i64, .i .i64]], .b⟩
def Aa3:Entry Sg:=CP Ak4 L9 (λs k a c e u v=>[BZ s.l])
theorem AiK:DZ 35 Aa3:=
 EG Dg X5 (I:=[2999998]) Try.func35 mix (B:=AY Try.f35) (by kernel_rfl) rfl (by kernel_rfl) 400
  λ_ s k a c e u v hb hp=>have hp0:BZ s.l:=hp _ (.head _);⟨(L9 s k a c e u v),(.bind (atR (MS.l s) a) λr2:Int×Int×Bool=>(.need (BZ (MS.l s)) .t)), λ_ _ _=>by kernel_rfl,(λr2 e2=>⟨nd_, λz3=>trivial⟩),rfl⟩
def Aa4:Tb:=(35,Aa3)::AgY
theorem SS:DU Aa4:=Ej AiK X5
def JZ (s:MS) (k a c e u v:Int):Bool:=(let r2:Int×Bool:=Hw s a;(bif !r2.2 then (let r4:Bool:=BG 5 e u v;r4) else e==0&&(u==r2.1&&(v==0&&true))))
abbrev AiL:Ct Sg:=⟨some D5,true,[.agg [.i .i64, .i .i64, .i .i64], .agg [.i .i64, .i .i64, .i .i64]], .b⟩
def X6:Entry Sg:=CP AiL JZ (λ_ _ _ _ _ _ _=>[])
theorem AgZ:DZ 34 X6:=
 EG Dg SS (I:=[2999998]) Try.func34 mix (B:=AY Try.f34) (by kernel_rfl) rfl (by kernel_rfl) 400
  λ_ s k a c e u v hb hp=>⟨(JZ s k a c e u v), .t, λ_ _ _=>by kernel_rfl,trivial,rfl⟩
def X7:Tb:=(34,X6)::Aa4
theorem Qv:DU X7:=Ej AgZ SS
def GX (s:MS) (k a c e u v:Int):Bool:=(let r2:Int×Bool:=Hw s a;(bif !r2.2 then (let r4:Bool:=BG 5 e u v;r4) else (let r4:Int×Int×Bool:=atR (MS.l s) c;(bif c !=0&&!r4.2.2 then (let r8:Bool:=BG 4 e u v;r8) else e==0&&(u==c&&(v==r2.1&&true))))))
abbrev AiM:Ct Sg:=⟨some D5,true,[.agg [.i .i64, .i .i64, .i .i64], .agg [.i .i64, .i .i64, .i .i64]], .b⟩
def X8:Entry Sg:=CP AiM GX (λs k a c e u v=>[BZ s.l])
theorem Aha:DZ 33 X8:=
 EG Dg Qv (I:=[2999998]) Try.func33 mix (B:=AY Try.f33) (by kernel_rfl) rfl (by kernel_rfl) 400
  λ_ s k a c e u v hb hp=>have hp0:BZ s.l:=hp _ (.head _);⟨(GX s k a c e u v),(.bind (Hw s a) λr2:Int×Bool=>(.br (!r2.2) .t (.bind (atR (MS.l s) c) λr4:Int×Int×Bool=>(.need (BZ (MS.l s)) .t)))), λ_ _ _=>by kernel_rfl,(λr2 e2=>⟨λz3=>trivial, λz3=>(λr4 e4=>⟨nd_, λz5=>trivial⟩)⟩),rfl⟩
def X9:Tb:=(33,X8)::X7
theorem Qw:DU X9:=Ej Aha Qv
end
section
open Go.Sl
def Ahb (e u v o x:Int):Bool:=e==0&&(u==o&&(v==x&&true))
theorem Aqn {A:Prop} (h:A):A∧A:=⟨h,h⟩
def ER (s:MS) (z e u v ax ba bz:Int):Bool:=bif !(Az s.t s.p s.h z).2 then BG 2 e u v else bif e !=0 then BG 3 e u v else v==ax&&EQ s u (Az s.t s.p s.h z).1 ba bz
abbrev Anh:Ct Sg:=⟨some D5,true,[.i .i64, .agg [.i .i64, .i .i64, .i .i64], .i .i64, .agg [.i .i64, .i .i64]], .b⟩
def Ahc:Entry Sg:=CP Anh (λ(s:MS) (z:Int) (e:Int) (u:Int) (v:Int) (ax:Int) (ba:Int) (bz:Int)=>bif !(Az s.t s.p s.h z).2 then BG 2 e u v else bif e !=0 then BG 3 e u v else v==ax&&EQ s u (Az s.t s.p s.h z).1 ba bz) (λ_ _ _ _ _ _ _ _=>[])
def Rk (s:MS) (z e u v ax ba bz t p h:Int) (l:List (Int×Int)) (x0 x1 x2 x3 x4 x5 x6 x7:Int) (Q0:Int→Int→Int→List (Int×Int)→Int→Int→Int→Int→Int→Int→Int→Int→Int→Prop) (Q1:Int→Prop) (R_:Bool→Prop) (O_:Int→Int→Int→List (Int×Int)→Int→Int→Int→Int→Int→Int→Int→Int→Bool→Prop):Prop:=(∀r2:Int×Bool,r2=(Az t p h z)→(BH (!r2.2) (∀r4:Bool,r4=(BG 2 e u v)→(O_ (t) (p) (h) (l) (x0) (x1) (x2) (x3) (x4) (x5) (x6) (x7) (r4))) (BH (e !=0) (∀r5:Bool,r5=(BG 3 e u v)→(O_ (t) (p) (h) (l) (x0) (x1) (x2) (x3) (x4) (x5) (x6) (x7) (r5))) (Q0 (t) (p) (h) (l) (x0) (x1) (x2) (x3) (x4) (x5) (x6) (x7) r2.1))))
def UE (s:MS) (z e u v ax ba bz t_ p_ h_:Int) (l_:List (Int×Int)) (r0_ r1_ r2_ r3_ r4_ r5_ r6_ r7_ w_:Int) (Q1:Int→Prop):Prop:=(Q1 (w_))
def GY (s:MS) (z e u v ax ba bz t_ p_ h_:Int) (l_:List (Int×Int)) (r0_ r1_ r2_ r3_ r4_ r5_ r6_ r7_ w_:Int):Prop:=s=⟨t_,p_,h_,l_,r0_,r1_,r2_,r3_,r4_,r5_,r6_,r7_⟩∧(Az s.t s.p s.h z).2=true∧e=0∧w_=(Az s.t s.p s.h z).1
def AdZ (s:MS) (z e u v ax ba bz w_:Int) (Q0:Int→Int→Int→List (Int×Int)→Int→Int→Int→Int→Int→Int→Int→Int→Int→Prop) (Q1:Int→Prop) (R_:Bool→Prop) (O_:Int→Int→Int→List (Int×Int)→Int→Int→Int→Int→Int→Int→Int→Int→Bool→Prop):Prop:=(R_ (v==ax&&(JY (MS.t s) (MS.p s) (MS.h s) u w_&&List.all (MS.l s) λx=>okB x (u,w_) (ba,bz))))
def Gi (s:MS) (z e u v ax ba bz w_:Int):Prop:=(Az s.t s.p s.h z).2=true∧e=0∧w_=(Az s.t s.p s.h z).1
theorem Ahd (s:MS) (z e u v ax ba bz t p h:Int) (l:List (Int×Int)) (x0 x1 x2 x3 x4 x5 x6 x7:Int) (hx:CB ⟨t,p,h,l,x0,x1,x2,x3,x4,x5,x6,x7⟩ (s)):Rk s z e u v ax ba bz t p h l x0 x1 x2 x3 x4 x5 x6 x7 (λt_' p_' h_' l_' r0_' r1_' r2_' r3_' r4_' r5_' r6_' r7_' w_'=>GY s z e u v ax ba bz t_' p_' h_' l_' r0_' r1_' r2_' r3_' r4_' r5_' r6_' r7_' w_') (λw_'=>Gi s z e u v ax ba bz w_') (λr__=>r__=(ER s z e u v ax ba bz)) (λt_ p_ h_ l_ x0_ x1_ x2_ x3_ x4_ x5_ x6_ x7_ r_=>CB ⟨t_,p_,h_,l_,x0_,x1_,x2_,x3_,x4_,x5_,x6_,x7_⟩ (s)∧r_=(ER s z e u v ax ba bz)):=by
 have key:∀x:MS,CB x s→Rk s z e u v ax ba bz x.t x.p x.h x.l x.r0 x.r1 x.r2 x.r3 x.r4 x.r5 x.r6 x.r7 (λt_' p_' h_' l_' r0_' r1_' r2_' r3_' r4_' r5_' r6_' r7_' w_'=>GY s z e u v ax ba bz t_' p_' h_' l_' r0_' r1_' r2_' r3_' r4_' r5_' r6_' r7_' w_') (λw_'=>Gi s z e u v ax ba bz w_') (λr__=>r__=(ER s z e u v ax ba bz)) (λt_ p_ h_ l_ x0_ x1_ x2_ x3_ x4_ x5_ x6_ x7_ r_=>CB ⟨t_,p_,h_,l_,x0_,x1_,x2_,x3_,x4_,x5_,x6_,x7_⟩ (s)∧r_=(ER s z e u v ax ba bz)):=by
  intro x ho
  unfold Rk
  try unfold GY
  try unfold Gi
  rintro r2 rfl
  cases (show x=s from ho)
  refine ⟨λh1=>?_, λh1=>⟨λh2=>?_, λh2=>?_⟩⟩
  ·rintro r4 rfl
   refine ⟨rfl,?_⟩
   unfold ER;rw [h1];rfl
  ·rintro r5 rfl
   refine ⟨rfl,?_⟩
   unfold ER;rw [h1,h2];rfl
  ·exact ⟨rfl,by simpa using h1,by simpa using h2,rfl⟩
 exact key ⟨t,p,h,l,x0,x1,x2,x3,x4,x5,x6,x7⟩ hx
theorem UF (s:MS) (z e u v ax ba bz t_ p_ h_:Int) (l_:List (Int×Int)) (r0_ r1_ r2_ r3_ r4_ r5_ r6_ r7_ w_:Int) (hI:GY s z e u v ax ba bz t_ p_ h_ l_ r0_ r1_ r2_ r3_ r4_ r5_ r6_ r7_ w_):(CB ⟨t_,p_,h_,l_,r0_,r1_,r2_,r3_,r4_,r5_,r6_,r7_⟩ s)∧UE s z e u v ax ba bz t_ p_ h_ l_ r0_ r1_ r2_ r3_ r4_ r5_ r6_ r7_ w_ (λw_'=>Gi s z e u v ax ba bz w_'∧lx (1,0,0) (2,0,0)):=by
 unfold GY at hI
 unfold UE
 try unfold GY
 try unfold Gi
 obtain ⟨rfl,hI⟩:=hI
 exact ⟨rfl,hI,BU⟩
theorem Ahe (s:MS) (z e u v ax ba bz w_:Int) (hI:Gi s z e u v ax ba bz w_):AdZ s z e u v ax ba bz w_ (λt_' p_' h_' l_' r0_' r1_' r2_' r3_' r4_' r5_' r6_' r7_' w_'=>GY s z e u v ax ba bz t_' p_' h_' l_' r0_' r1_' r2_' r3_' r4_' r5_' r6_' r7_' w_'∧lx (2,0,0) (1,0,0)) (λw_'=>Gi s z e u v ax ba bz w_'∧lx (1,0,0) (1,0,0)) (λr__=>r__=(ER s z e u v ax ba bz)) (λt_ p_ h_ l_ x0_ x1_ x2_ x3_ x4_ x5_ x6_ x7_ r_=>CB ⟨t_,p_,h_,l_,x0_,x1_,x2_,x3_,x4_,x5_,x6_,x7_⟩ (s)∧r_=(ER s z e u v ax ba bz)):=by
 unfold Gi at hI
 unfold AdZ
 try unfold GY
 try unfold Gi
 obtain ⟨h1,rfl,rfl⟩:=hI
 unfold ER EQ
 rw [h1];rfl
theorem AlL:DZ 64 Ahc:=
 EX Dg Gx true Qw (I:=[1106000,2999998]) Try.func64 mix (B:=AY Try.f64) (by kernel_rfl) rfl (by kernel_rfl) 400
  λo s z e u v ax ba bz hb hp=>⟨s,s,(ER s z e u v ax ba bz),[⟨some 0,[0,1,1,1],[.code [1,1,1,1]],[0,7,9,3,11],[.boxc o Dq.t Dq.l, .box 32 [.ic .i64 (e), .ic .i64 (u), .ic .i64 (v)], .box 55 [.ic .i64 (ba), .ic .i64 (bz)], .ic .i64 (ax), .i .i64]⟩,⟨some 0,[0,1,1,1],[.code [1,1,1,1]],[0,7,9,3,11],[.objk D5 ⟨o,0,none⟩ (s), .box 32 [.ic .i64 (e), .ic .i64 (u), .ic .i64 (v)], .box 55 [.ic .i64 (ba), .ic .i64 (bz)], .ic .i64 (ax), .i .i64]⟩],[.cls 1, .run], λj=>iM [Ak (Hd.kd (⟨some 0,[0,1,1,1],[.code [1,1,1,1]],[0,7,9,3,11],[.boxc o Dq.t Dq.l, .box 32 [.ic .i64 (e), .ic .i64 (u), .ic .i64 (v)], .box 55 [.ic .i64 (ba), .ic .i64 (bz)], .ic .i64 (ax), .i .i64]⟩:Hd Sg)) (λt_' p_' h_' l_' r0_' r1_' r2_' r3_' r4_' r5_' r6_' r7_' w_'=>GY s z e u v ax ba bz t_' p_' h_' l_' r0_' r1_' r2_' r3_' r4_' r5_' r6_' r7_' w_'),Ak (Hd.kd (⟨some 0,[0,1,1,1],[.code [1,1,1,1]],[0,7,9,3,11],[.objk D5 ⟨o,0,none⟩ (s), .box 32 [.ic .i64 (e), .ic .i64 (u), .ic .i64 (v)], .box 55 [.ic .i64 (ba), .ic .i64 (bz)], .ic .i64 (ax), .i .i64]⟩:Hd Sg)) (λw_'=>Gi s z e u v ax ba bz w_')] j (λ_=>False), λj=>iM [Ak (Hd.kd (⟨some 0,[0,1,1,1],[.code [1,1,1,1]],[0,7,9,3,11],[.boxc o Dq.t Dq.l, .box 32 [.ic .i64 (e), .ic .i64 (u), .ic .i64 (v)], .box 55 [.ic .i64 (ba), .ic .i64 (bz)], .ic .i64 (ax), .i .i64]⟩:Hd Sg)) (λt_' p_' h_' l_' r0_' r1_' r2_' r3_' r4_' r5_' r6_' r7_' w_'=>(2,0,0)),Ak (Hd.kd (⟨some 0,[0,1,1,1],[.code [1,1,1,1]],[0,7,9,3,11],[.objk D5 ⟨o,0,none⟩ (s), .box 32 [.ic .i64 (e), .ic .i64 (u), .ic .i64 (v)], .box 55 [.ic .i64 (ba), .ic .i64 (bz)], .ic .i64 (ax), .i .i64]⟩:Hd Sg)) (λw_'=>(1,0,0))] j (λ_=>(0,0,0)),by kernel_rfl, λ_ _=>by kernel_rfl,by kernel_rfl, λt p h l x0 x1 x2 x3 x4 x5 x6 x7 hx=>⟨Rk s z e u v ax ba bz t p h l x0 x1 x2 x3 x4 x5 x6 x7 (λt_' p_' h_' l_' r0_' r1_' r2_' r3_' r4_' r5_' r6_' r7_' w_'=>GY s z e u v ax ba bz t_' p_' h_' l_' r0_' r1_' r2_' r3_' r4_' r5_' r6_' r7_' w_') (λw_'=>Gi s z e u v ax ba bz w_') (λr__=>r__=(ER s z e u v ax ba bz)) (λt_ p_ h_ l_ x0_ x1_ x2_ x3_ x4_ x5_ x6_ x7_ r_=>CB ⟨t_,p_,h_,l_,x0_,x1_,x2_,x3_,x4_,x5_,x6_,x7_⟩ (s)∧r_=(ER s z e u v ax ba bz)), λ_ _ _ _=>by kernel_rfl,Ahd s z e u v ax ba bz t p h l x0 x1 x2 x3 x4 x5 x6 x7 hx⟩,⟨λt_ p_ h_ l_ r0_ r1_ r2_ r3_ r4_ r5_ r6_ r7_ w_ hI=>⟨s,UE s z e u v ax ba bz t_ p_ h_ l_ r0_ r1_ r2_ r3_ r4_ r5_ r6_ r7_ w_ (λw_'=>Gi s z e u v ax ba bz w_'∧lx (1,0,0) (2,0,0)),(UF s z e u v ax ba bz t_ p_ h_ l_ r0_ r1_ r2_ r3_ r4_ r5_ r6_ r7_ w_ hI).1, λ_=>by kernel_rfl,(UF s z e u v ax ba bz t_ p_ h_ l_ r0_ r1_ r2_ r3_ r4_ r5_ r6_ r7_ w_ hI).2⟩,⟨λw_ hI=>⟨_, λ_ _ _=>by kernel_rfl,Ahe s z e u v ax ba bz w_ hI⟩,trivial⟩⟩⟩
def Ahf:Tb:=(64,Ahc)::X9
theorem XA:DU Ahf:=Ej AlL Qw
def I8 (s:MS) (k a c e u v:Int):Bool:=ER s a e u v (Az s.t s.p s.h a).1 0 0
abbrev AlM:Ct Sg:=⟨some D5,true,[.agg [.i .i64, .i .i64, .i .i64], .agg [.i .i64, .i .i64, .i .i64]], .b⟩
def Aea:Entry Sg:=CP AlM (λ(s:MS) (k:Int) (a:Int) (c:Int) (e:Int) (u:Int) (v:Int)=>ER s a e u v (Az s.t s.p s.h a).1 0 0) (λ_ _ _ _ _ _ _=>[])
def OX (s:MS) (k a c e u v t p h:Int) (l:List (Int×Int)) (x0 x1 x2 x3 x4 x5 x6 x7:Int) (Q0:Int→Int→Int→List (Int×Int)→Int→Int→Int→Int→Int→Int→Int→Int→Int→Prop) (Q1:Int→Prop) (R_:Bool→Prop) (O_:Int→Int→Int→List (Int×Int)→Int→Int→Int→Int→Int→Int→Int→Int→Bool→Prop):Prop:=(Q0 (t) (p) (h) (l) (x0) (x1) (x2) (x3) (x4) (x5) (x6) (x7) (kJ (Az t p h a)))
def Rl (s:MS) (k a c e u v t_ p_ h_:Int) (l_:List (Int×Int)) (r0_ r1_ r2_ r3_ r4_ r5_ r6_ r7_ w_:Int) (Q1:Int→Prop):Prop:=(Q1 (w_))
def Gv (s:MS) (k a c e u v t_ p_ h_:Int) (l_:List (Int×Int)) (r0_ r1_ r2_ r3_ r4_ r5_ r6_ r7_ w_:Int):Prop:=s=⟨t_,p_,h_,l_,r0_,r1_,r2_,r3_,r4_,r5_,r6_,r7_⟩∧w_=(Az s.t s.p s.h a).1
def Aa5 (s:MS) (k a c e u v w_:Int) (Q0:Int→Int→Int→List (Int×Int)→Int→Int→Int→Int→Int→Int→Int→Int→Int→Prop) (Q1:Int→Prop) (R_:Bool→Prop) (O_:Int→Int→Int→List (Int×Int)→Int→Int→Int→Int→Int→Int→Int→Int→Bool→Prop):Prop:=(R_ (bif !Prod.snd (Az (MS.t s) (MS.p s) (MS.h s) a) then BG 2 e u v else bif e !=0 then BG 3 e u v else v==w_&&EQ s u (kJ (Az (MS.t s) (MS.p s) (MS.h s) a)) 0 0))
def FI (s:MS) (k a c e u v w_:Int):Prop:=w_=(Az s.t s.p s.h a).1
theorem AeR (s:MS) (k a c e u v t p h:Int) (l:List (Int×Int)) (x0 x1 x2 x3 x4 x5 x6 x7:Int) (hx:CB ⟨t,p,h,l,x0,x1,x2,x3,x4,x5,x6,x7⟩ (s)):OX s k a c e u v t p h l x0 x1 x2 x3 x4 x5 x6 x7 (λt_' p_' h_' l_' r0_' r1_' r2_' r3_' r4_' r5_' r6_' r7_' w_'=>Gv s k a c e u v t_' p_' h_' l_' r0_' r1_' r2_' r3_' r4_' r5_' r6_' r7_' w_') (λw_'=>FI s k a c e u v w_') (λr__=>r__=(I8 s k a c e u v)) (λt_ p_ h_ l_ x0_ x1_ x2_ x3_ x4_ x5_ x6_ x7_ r_=>CB ⟨t_,p_,h_,l_,x0_,x1_,x2_,x3_,x4_,x5_,x6_,x7_⟩ (s)∧r_=(I8 s k a c e u v)):=by
 have key:∀x:MS,CB x s→OX s k a c e u v x.t x.p x.h x.l x.r0 x.r1 x.r2 x.r3 x.r4 x.r5 x.r6 x.r7 (λt_' p_' h_' l_' r0_' r1_' r2_' r3_' r4_' r5_' r6_' r7_' w_'=>Gv s k a c e u v t_' p_' h_' l_' r0_' r1_' r2_' r3_' r4_' r5_' r6_' r7_' w_') (λw_'=>FI s k a c e u v w_') (λr__=>r__=(I8 s k a c e u v)) (λt_ p_ h_ l_ x0_ x1_ x2_ x3_ x4_ x5_ x6_ x7_ r_=>CB ⟨t_,p_,h_,l_,x0_,x1_,x2_,x3_,x4_,x5_,x6_,x7_⟩ (s)∧r_=(I8 s k a c e u v)):=by
  intro x ho
  unfold OX
  try unfold Gv
  try unfold FI
  cases (show x=s from ho)
  exact ⟨rfl,rfl⟩
 exact key ⟨t,p,h,l,x0,x1,x2,x3,x4,x5,x6,x7⟩ hx
theorem SV (s:MS) (k a c e u v t_ p_ h_:Int) (l_:List (Int×Int)) (r0_ r1_ r2_ r3_ r4_ r5_ r6_ r7_ w_:Int) (hI:Gv s k a c e u v t_ p_ h_ l_ r0_ r1_ r2_ r3_ r4_ r5_ r6_ r7_ w_):(CB ⟨t_,p_,h_,l_,r0_,r1_,r2_,r3_,r4_,r5_,r6_,r7_⟩ s)∧Rl s k a c e u v t_ p_ h_ l_ r0_ r1_ r2_ r3_ r4_ r5_ r6_ r7_ w_ (λw_'=>FI s k a c e u v w_'∧lx (1,0,0) (2,0,0)):=by
 unfold Gv at hI
 unfold Rl
 try unfold Gv
 try unfold FI
 obtain ⟨rfl,hI⟩:=hI
 exact ⟨rfl,hI,BU⟩
theorem AeS (s:MS) (k a c e u v w_:Int) (hI:FI s k a c e u v w_):Aa5 s k a c e u v w_ (λt_' p_' h_' l_' r0_' r1_' r2_' r3_' r4_' r5_' r6_' r7_' w_'=>Gv s k a c e u v t_' p_' h_' l_' r0_' r1_' r2_' r3_' r4_' r5_' r6_' r7_' w_'∧lx (2,0,0) (1,0,0)) (λw_'=>FI s k a c e u v w_'∧lx (1,0,0) (1,0,0)) (λr__=>r__=(I8 s k a c e u v)) (λt_ p_ h_ l_ x0_ x1_ x2_ x3_ x4_ x5_ x6_ x7_ r_=>CB ⟨t_,p_,h_,l_,x0_,x1_,x2_,x3_,x4_,x5_,x6_,x7_⟩ (s)∧r_=(I8 s k a c e u v)):=by
 unfold FI at hI
 unfold Aa5
 try unfold Gv
 try unfold FI
 subst hI;rfl
theorem Ak5:DZ 29 Aea:=
 EX Dg Gx true XA (I:=[1026000]) Try.func29 mix (B:=AY Try.f29) (by kernel_rfl) rfl (by kernel_rfl) 400
  λo s k a c e u v hb hp=>⟨s,s,(I8 s k a c e u v),[⟨some 0,[0,1,1],[.code [1,1,1]],[0,4,5,7],[.boxc o Dq.t Dq.l, .box 29 [.ic .i64 (k), .ic .i64 (a), .ic .i64 (c)], .box 32 [.ic .i64 (e), .ic .i64 (u), .ic .i64 (v)], .i .i64]⟩,⟨some 0,[0,1,1],[.code [1,1,1]],[0,4,5,7],[.objk D5 ⟨o,0,none⟩ (s), .box 29 [.ic .i64 (k), .ic .i64 (a), .ic .i64 (c)], .box 32 [.ic .i64 (e), .ic .i64 (u), .ic .i64 (v)], .i .i64]⟩],[.cls 1, .run], λj=>iM [Ak (Hd.kd (⟨some 0,[0,1,1],[.code [1,1,1]],[0,4,5,7],[.boxc o Dq.t Dq.l, .box 29 [.ic .i64 (k), .ic .i64 (a), .ic .i64 (c)], .box 32 [.ic .i64 (e), .ic .i64 (u), .ic .i64 (v)], .i .i64]⟩:Hd Sg)) (λt_' p_' h_' l_' r0_' r1_' r2_' r3_' r4_' r5_' r6_' r7_' w_'=>Gv s k a c e u v t_' p_' h_' l_' r0_' r1_' r2_' r3_' r4_' r5_' r6_' r7_' w_'),Ak (Hd.kd (⟨some 0,[0,1,1],[.code [1,1,1]],[0,4,5,7],[.objk D5 ⟨o,0,none⟩ (s), .box 29 [.ic .i64 (k), .ic .i64 (a), .ic .i64 (c)], .box 32 [.ic .i64 (e), .ic .i64 (u), .ic .i64 (v)], .i .i64]⟩:Hd Sg)) (λw_'=>FI s k a c e u v w_')] j (λ_=>False), λj=>iM [Ak (Hd.kd (⟨some 0,[0,1,1],[.code [1,1,1]],[0,4,5,7],[.boxc o Dq.t Dq.l, .box 29 [.ic .i64 (k), .ic .i64 (a), .ic .i64 (c)], .box 32 [.ic .i64 (e), .ic .i64 (u), .ic .i64 (v)], .i .i64]⟩:Hd Sg)) (λt_' p_' h_' l_' r0_' r1_' r2_' r3_' r4_' r5_' r6_' r7_' w_'=>(2,0,0)),Ak (Hd.kd (⟨some 0,[0,1,1],[.code [1,1,1]],[0,4,5,7],[.objk D5 ⟨o,0,none⟩ (s), .box 29 [.ic .i64 (k), .ic .i64 (a), .ic .i64 (c)], .box 32 [.ic .i64 (e), .ic .i64 (u), .ic .i64 (v)], .i .i64]⟩:Hd Sg)) (λw_'=>(1,0,0))] j (λ_=>(0,0,0)),by kernel_rfl, λ_ _=>by kernel_rfl,by kernel_rfl, λt p h l x0 x1 x2 x3 x4 x5 x6 x7 hx=>⟨OX s k a c e u v t p h l x0 x1 x2 x3 x4 x5 x6 x7 (λt_' p_' h_' l_' r0_' r1_' r2_' r3_' r4_' r5_' r6_' r7_' w_'=>Gv s k a c e u v t_' p_' h_' l_' r0_' r1_' r2_' r3_' r4_' r5_' r6_' r7_' w_') (λw_'=>FI s k a c e u v w_') (λr__=>r__=(I8 s k a c e u v)) (λt_ p_ h_ l_ x0_ x1_ x2_ x3_ x4_ x5_ x6_ x7_ r_=>CB ⟨t_,p_,h_,l_,x0_,x1_,x2_,x3_,x4_,x5_,x6_,x7_⟩ (s)∧r_=(I8 s k a c e u v)), λ_ _ _ _=>by kernel_rfl,AeR s k a c e u v t p h l x0 x1 x2 x3 x4 x5 x6 x7 hx⟩,⟨λt_ p_ h_ l_ r0_ r1_ r2_ r3_ r4_ r5_ r6_ r7_ w_ hI=>⟨s,Rl s k a c e u v t_ p_ h_ l_ r0_ r1_ r2_ r3_ r4_ r5_ r6_ r7_ w_ (λw_'=>FI s k a c e u v w_'∧lx (1,0,0) (2,0,0)),(SV s k a c e u v t_ p_ h_ l_ r0_ r1_ r2_ r3_ r4_ r5_ r6_ r7_ w_ hI).1, λ_=>by kernel_rfl,(SV s k a c e u v t_ p_ h_ l_ r0_ r1_ r2_ r3_ r4_ r5_ r6_ r7_ w_ hI).2⟩,⟨λw_ hI=>⟨_, λ_ _ _=>by kernel_rfl,AeS s k a c e u v w_ hI⟩,trivial⟩⟩⟩
def Aeb:Tb:=(29,Aea)::Ahf
theorem UG:DU Aeb:=Ej Ak5 XA
def Fj (s:MS) (k a c e u v:Int):Bool:=bif !(Hw s a).2 then BG 5 e u v else ER s c e u v (Hw s a).1 0 0
abbrev AeT:Ct Sg:=⟨some D5,true,[.agg [.i .i64, .i .i64, .i .i64], .agg [.i .i64, .i .i64, .i .i64]], .b⟩
def SX:Entry Sg:=CP AeT Fj (λ_ _ _ _ _ _ _=>[])
def SY (s:MS) (k a c e u v:Int) (R_:Bool→Prop):Prop:=(BH (!Prod.snd (Hw s a)) (R_ (BG 5 e u v)) (R_ (bif !Prod.snd (Az (MS.t s) (MS.p s) (MS.h s) c) then BG 2 e u v else bif e !=0 then BG 3 e u v else v==kJ (Hw s a)&&EQ s u (kJ (Az (MS.t s) (MS.p s) (MS.h s) c)) 0 0)))
theorem Ws (s:MS) (k a c e u v:Int):SY s k a c e u v (λr__=>r__=(Fj s k a c e u v)):=by
 unfold SY
 refine ⟨λh=>?_, λh=>?_⟩
 ·unfold Fj;rw [h];rfl
 ·unfold Fj;rw [h];rfl
theorem AcO:DZ 32 SX:=
 Al3 Dg UG (I:=[]) Try.func32 mix (B:=AY Try.f32) (by kernel_rfl) rfl (by kernel_rfl) 400
  λ_ s k a c e u v hb hp=>⟨_, λ_ _ _=>by kernel_rfl,Ws s k a c e u v⟩
def Tc:Tb:=(32,SX)::Aeb
theorem Om:DU Tc:=Ej AcO UG
def Fa (s:MS) (k a c e u v:Int):Bool:=bif !(atR s.l a).2.2 then BG 4 e u v else ER s c e u v (Az s.t s.p s.h c).1 (bif u !=a then 0 else (atR s.l a).1) (bif u !=a then 0 else (atR s.l a).2.1)
abbrev AiN:Ct Sg:=⟨some D5,true,[.agg [.i .i64, .i .i64, .i .i64], .agg [.i .i64, .i .i64, .i .i64]], .b⟩
def XB:Entry Sg:=CP AiN (λ(s:MS) (k:Int) (a:Int) (c:Int) (e:Int) (u:Int) (v:Int)=>bif !(atR s.l a).2.2 then BG 4 e u v else ER s c e u v (Az s.t s.p s.h c).1 (bif u !=a then 0 else (atR s.l a).1) (bif u !=a then 0 else (atR s.l a).2.1)) (λs k a c e u v=>[BZ s.l])
def XC (s:MS) (k a c e u v:Int) (Q0:Int→Int→Prop) (Q1:Int→Int→Int→List (Int×Int)→Int→Int→Int→Int→Int→Int→Int→Int→Int→Int→Prop) (Q2:Int→Int→Int→List (Int×Int)→Int→Int→Int→Int→Int→Int→Int→Int→Int→Int→Int→Prop) (Q3:Int→Int→Int→Prop) (R_:Bool→Prop) (O_:Int→Int→Int→List (Int×Int)→Int→Int→Int→Int→Int→Int→Int→Int→Bool→Prop):Prop:=(∀r2:Int×Int×Bool,r2=(atR (MS.l s) a)→(Ba (BZ (MS.l s)) (BH (!r2.2.2) (∀r6:Bool,r6=(BG 4 e u v)→(R_ (r6))) (BH (u !=a) (Q0 (0) (0)) (Q0 r2.1 r2.2.1)))))
def UH (s:MS) (k a c e u v y_ z_ t_ p_ h_:Int) (l_:List (Int×Int)) (x0_ x1_ x2_ x3_ x4_ x5_ x6_ x7_:Int) (Q1:Int→Int→Int→List (Int×Int)→Int→Int→Int→Int→Int→Int→Int→Int→Int→Int→Prop):Prop:=(Q1 (t_) (p_) (h_) (l_) (x0_) (x1_) (x2_) (x3_) (x4_) (x5_) (x6_) (x7_) (y_) (z_))
def Fb (s:MS) (k a c e u v y_ z_:Int):Prop:=(atR s.l a).2.2=true∧y_=(bif u !=a then 0 else (atR s.l a).1)∧z_=(bif u !=a then 0 else (atR s.l a).2.1)
def UI (s:MS) (k a c e u v t_ p_ h_:Int) (l_:List (Int×Int)) (r0_ r1_ r2_ r3_ r4_ r5_ r6_ r7_ y_ z_:Int) (Q0:Int→Int→Prop) (Q1:Int→Int→Int→List (Int×Int)→Int→Int→Int→Int→Int→Int→Int→Int→Int→Int→Prop) (Q2:Int→Int→Int→List (Int×Int)→Int→Int→Int→Int→Int→Int→Int→Int→Int→Int→Int→Prop) (Q3:Int→Int→Int→Prop) (R_:Bool→Prop) (O_:Int→Int→Int→List (Int×Int)→Int→Int→Int→Int→Int→Int→Int→Int→Bool→Prop):Prop:=(Q2 (t_) (p_) (h_) (l_) (r0_) (r1_) (r2_) (r3_) (r4_) (r5_) (r6_) (r7_) (y_) (z_) (kJ (Az t_ p_ h_ c)))
def EM (s:MS) (k a c e u v t_ p_ h_:Int) (l_:List (Int×Int)) (r0_ r1_ r2_ r3_ r4_ r5_ r6_ r7_ y_ z_:Int):Prop:=s=⟨t_,p_,h_,l_,r0_,r1_,r2_,r3_,r4_,r5_,r6_,r7_⟩∧(atR s.l a).2.2=true∧y_=(bif u !=a then 0 else (atR s.l a).1)∧z_=(bif u !=a then 0 else (atR s.l a).2.1)
def Oo (s:MS) (k a c e u v t_ p_ h_:Int) (l_:List (Int×Int)) (r0_ r1_ r2_ r3_ r4_ r5_ r6_ r7_ y_ z_ w_:Int) (Q3:Int→Int→Int→Prop):Prop:=(Q3 (y_) (z_) (w_))
def Fe (s:MS) (k a c e u v t_ p_ h_:Int) (l_:List (Int×Int)) (r0_ r1_ r2_ r3_ r4_ r5_ r6_ r7_ y_ z_ w_:Int):Prop:=s=⟨t_,p_,h_,l_,r0_,r1_,r2_,r3_,r4_,r5_,r6_,r7_⟩∧(atR s.l a).2.2=true∧y_=(bif u !=a then 0 else (atR s.l a).1)∧z_=(bif u !=a then 0 else (atR s.l a).2.1)∧w_=(Az s.t s.p s.h c).1
def UJ (s:MS) (k a c e u v y_ z_ w_:Int) (Q0:Int→Int→Prop) (Q1:Int→Int→Int→List (Int×Int)→Int→Int→Int→Int→Int→Int→Int→Int→Int→Int→Prop) (Q2:Int→Int→Int→List (Int×Int)→Int→Int→Int→Int→Int→Int→Int→Int→Int→Int→Int→Prop) (Q3:Int→Int→Int→Prop) (R_:Bool→Prop) (O_:Int→Int→Int→List (Int×Int)→Int→Int→Int→Int→Int→Int→Int→Int→Bool→Prop):Prop:=(∀r0:Bool,r0=(bif !Prod.snd (Az (MS.t s) (MS.p s) (MS.h s) c) then BG 2 e u v else bif e !=0 then BG 3 e u v else v==w_&&EQ s u (kJ (Az (MS.t s) (MS.p s) (MS.h s) c)) y_ z_)→(R_ (r0)))
def EH (s:MS) (k a c e u v y_ z_ w_:Int):Prop:=(atR s.l a).2.2=true∧y_=(bif u !=a then 0 else (atR s.l a).1)∧z_=(bif u !=a then 0 else (atR s.l a).2.1)∧w_=(Az s.t s.p s.h c).1
theorem Aa6 (s:MS) (k a c e u v:Int) (hp0:BZ s.l):XC s k a c e u v (λy_' z_'=>Fb s k a c e u v y_' z_') (λt_' p_' h_' l_' r0_' r1_' r2_' r3_' r4_' r5_' r6_' r7_' y_' z_'=>EM s k a c e u v t_' p_' h_' l_' r0_' r1_' r2_' r3_' r4_' r5_' r6_' r7_' y_' z_') (λt_' p_' h_' l_' r0_' r1_' r2_' r3_' r4_' r5_' r6_' r7_' y_' z_' w_'=>Fe s k a c e u v t_' p_' h_' l_' r0_' r1_' r2_' r3_' r4_' r5_' r6_' r7_' y_' z_' w_') (λy_' z_' w_'=>EH s k a c e u v y_' z_' w_') (λr__=>r__=(Fa s k a c e u v)) (λt_ p_ h_ l_ x0_ x1_ x2_ x3_ x4_ x5_ x6_ x7_ r_=>CB ⟨t_,p_,h_,l_,x0_,x1_,x2_,x3_,x4_,x5_,x6_,x7_⟩ (s)∧r_=(Fa s k a c e u v)):=by
 unfold XC
 try unfold Fb
 try unfold EM
 try unfold Fe
 try unfold EH
 rintro r2 rfl
 refine ⟨hp0, λ_=>⟨λh1=>?_, λh1=>⟨λh2=>?_, λh2=>?_⟩⟩⟩
 ·rintro r6 rfl
  show _=Fa s k a c e u v
  unfold Fa;rw [h1];rfl
 ·exact ⟨by simpa using h1,by rw [h2];rfl,by rw [h2];rfl⟩
 ·exact ⟨by simpa using h1,by rw [h2];rfl,by rw [h2];rfl⟩
theorem Aa7 (s:MS) (k a c e u v:Int) (hp0:BZ s.l) (y_ z_ t_ p_ h_:Int) (l_:List (Int×Int)) (x0_ x1_ x2_ x3_ x4_ x5_ x6_ x7_:Int) (hI:Fb s k a c e u v y_ z_) (hx:CB ⟨t_,p_,h_,l_,x0_,x1_,x2_,x3_,x4_,x5_,x6_,x7_⟩ (s)):UH s k a c e u v y_ z_ t_ p_ h_ l_ x0_ x1_ x2_ x3_ x4_ x5_ x6_ x7_ (λt_' p_' h_' l_' r0_' r1_' r2_' r3_' r4_' r5_' r6_' r7_' y_' z_'=>EM s k a c e u v t_' p_' h_' l_' r0_' r1_' r2_' r3_' r4_' r5_' r6_' r7_' y_' z_'∧lx (3,0,0) (4,0,0)):=by
 unfold Fb at hI
 unfold UH
 try unfold Fb
 try unfold EM
 try unfold Fe
 try unfold EH
 exact ⟨⟨hx.symm,hI⟩,BU⟩
theorem Aa8 (s:MS) (k a c e u v:Int) (hp0:BZ s.l) (t_ p_ h_:Int) (l_:List (Int×Int)) (r0_ r1_ r2_ r3_ r4_ r5_ r6_ r7_ y_ z_:Int) (hI:EM s k a c e u v t_ p_ h_ l_ r0_ r1_ r2_ r3_ r4_ r5_ r6_ r7_ y_ z_):UI s k a c e u v t_ p_ h_ l_ r0_ r1_ r2_ r3_ r4_ r5_ r6_ r7_ y_ z_ (λy_' z_'=>Fb s k a c e u v y_' z_'∧lx (4,0,0) (3,0,0)) (λt_' p_' h_' l_' r0_' r1_' r2_' r3_' r4_' r5_' r6_' r7_' y_' z_'=>EM s k a c e u v t_' p_' h_' l_' r0_' r1_' r2_' r3_' r4_' r5_' r6_' r7_' y_' z_'∧lx (3,0,0) (3,0,0)) (λt_' p_' h_' l_' r0_' r1_' r2_' r3_' r4_' r5_' r6_' r7_' y_' z_' w_'=>Fe s k a c e u v t_' p_' h_' l_' r0_' r1_' r2_' r3_' r4_' r5_' r6_' r7_' y_' z_' w_'∧lx (2,0,0) (3,0,0)) (λy_' z_' w_'=>EH s k a c e u v y_' z_' w_'∧lx (1,0,0) (3,0,0)) (λr__=>r__=(Fa s k a c e u v)) (λt_ p_ h_ l_ x0_ x1_ x2_ x3_ x4_ x5_ x6_ x7_ r_=>CB ⟨t_,p_,h_,l_,x0_,x1_,x2_,x3_,x4_,x5_,x6_,x7_⟩ (s)∧r_=(Fa s k a c e u v)):=by
 unfold EM at hI
 unfold UI
 try unfold Fb
 try unfold EM
 try unfold Fe
 try unfold EH
 obtain ⟨rfl,h1,h2,h3⟩:=hI
 exact ⟨⟨rfl,h1,h2,h3,rfl⟩,BU⟩
theorem OY (s:MS) (k a c e u v:Int) (hp0:BZ s.l) (t_ p_ h_:Int) (l_:List (Int×Int)) (r0_ r1_ r2_ r3_ r4_ r5_ r6_ r7_ y_ z_ w_:Int) (hI:Fe s k a c e u v t_ p_ h_ l_ r0_ r1_ r2_ r3_ r4_ r5_ r6_ r7_ y_ z_ w_):(CB ⟨t_,p_,h_,l_,r0_,r1_,r2_,r3_,r4_,r5_,r6_,r7_⟩ s)∧Oo s k a c e u v t_ p_ h_ l_ r0_ r1_ r2_ r3_ r4_ r5_ r6_ r7_ y_ z_ w_ (λy_' z_' w_'=>EH s k a c e u v y_' z_' w_'∧lx (1,0,0) (2,0,0)):=by
 unfold Fe at hI
 unfold Oo
 try unfold Fb
 try unfold EM
 try unfold Fe
 try unfold EH
 obtain ⟨rfl,hI⟩:=hI
 exact ⟨rfl,hI,BU⟩
theorem Aa9 (s:MS) (k a c e u v:Int) (hp0:BZ s.l) (y_ z_ w_:Int) (hI:EH s k a c e u v y_ z_ w_):UJ s k a c e u v y_ z_ w_ (λy_' z_'=>Fb s k a c e u v y_' z_'∧lx (4,0,0) (1,0,0)) (λt_' p_' h_' l_' r0_' r1_' r2_' r3_' r4_' r5_' r6_' r7_' y_' z_'=>EM s k a c e u v t_' p_' h_' l_' r0_' r1_' r2_' r3_' r4_' r5_' r6_' r7_' y_' z_'∧lx (3,0,0) (1,0,0)) (λt_' p_' h_' l_' r0_' r1_' r2_' r3_' r4_' r5_' r6_' r7_' y_' z_' w_'=>Fe s k a c e u v t_' p_' h_' l_' r0_' r1_' r2_' r3_' r4_' r5_' r6_' r7_' y_' z_' w_'∧lx (2,0,0) (1,0,0)) (λy_' z_' w_'=>EH s k a c e u v y_' z_' w_'∧lx (1,0,0) (1,0,0)) (λr__=>r__=(Fa s k a c e u v)) (λt_ p_ h_ l_ x0_ x1_ x2_ x3_ x4_ x5_ x6_ x7_ r_=>CB ⟨t_,p_,h_,l_,x0_,x1_,x2_,x3_,x4_,x5_,x6_,x7_⟩ (s)∧r_=(Fa s k a c e u v)):=by
 unfold EH at hI
 unfold UJ
 try unfold Fb
 try unfold EM
 try unfold Fe
 try unfold EH
 obtain ⟨h1,rfl,rfl,rfl⟩:=hI
 rintro r0 rfl
 unfold Fa;rw [h1];rfl
theorem Ahg:DZ 31 XB:=
 EX Dg Gx false Om (I:=[1426900,2706000,2999998]) Try.func31 mix (B:=AY Try.f31) (by kernel_rfl) rfl (by kernel_rfl) 400
  λo s k a c e u v hb hp=>have hp0:BZ s.l:=hp _ (.head _);⟨s,s,(Fa s k a c e u v),[⟨some 900,[0,1,1,1,1],[.code [1,1,1,1,1]],[0,4,5,7],[.objk D5 ⟨o,0,none⟩ (s), .box 29 [.ic .i64 (k), .ic .i64 (a), .ic .i64 (c)], .box 32 [.ic .i64 (e), .ic .i64 (u), .ic .i64 (v)], .box 55 [.i .i64, .i .i64]]⟩,⟨some 900,[0,1,1,1,1],[.code [1,1,1,1,1]],[0,4,5,7],[.boxc o Dq.t Dq.l, .box 29 [.ic .i64 (k), .ic .i64 (a), .ic .i64 (c)], .box 32 [.ic .i64 (e), .ic .i64 (u), .ic .i64 (v)], .box 55 [.i .i64, .i .i64]]⟩,⟨some 0,[0,1,1,1,1,1],[.code [1,1,1,1,1,1]],[0,4,5,7,9],[.boxc o Dq.t Dq.l, .box 29 [.ic .i64 (k), .ic .i64 (a), .ic .i64 (c)], .box 32 [.ic .i64 (e), .ic .i64 (u), .ic .i64 (v)], .box 55 [.i .i64, .i .i64], .i .i64]⟩,⟨some 0,[0,1,1,1,1,1],[.code [1,1,1,1,1,1]],[0,4,5,7,9],[.objk D5 ⟨o,0,none⟩ (s), .box 29 [.ic .i64 (k), .ic .i64 (a), .ic .i64 (c)], .box 32 [.ic .i64 (e), .ic .i64 (u), .ic .i64 (v)], .box 55 [.i .i64, .i .i64], .i .i64]⟩],[.opn 0 (λ_=>o) 1, .run, .cls 3, .run], λj=>iM [Ak (Hd.kd (⟨some 900,[0,1,1,1,1],[.code [1,1,1,1,1]],[0,4,5,7],[.objk D5 ⟨o,0,none⟩ (s), .box 29 [.ic .i64 (k), .ic .i64 (a), .ic .i64 (c)], .box 32 [.ic .i64 (e), .ic .i64 (u), .ic .i64 (v)], .box 55 [.i .i64, .i .i64]]⟩:Hd Sg)) (λy_' z_'=>Fb s k a c e u v y_' z_'),Ak (Hd.kd (⟨some 900,[0,1,1,1,1],[.code [1,1,1,1,1]],[0,4,5,7],[.boxc o Dq.t Dq.l, .box 29 [.ic .i64 (k), .ic .i64 (a), .ic .i64 (c)], .box 32 [.ic .i64 (e), .ic .i64 (u), .ic .i64 (v)], .box 55 [.i .i64, .i .i64]]⟩:Hd Sg)) (λt_' p_' h_' l_' r0_' r1_' r2_' r3_' r4_' r5_' r6_' r7_' y_' z_'=>EM s k a c e u v t_' p_' h_' l_' r0_' r1_' r2_' r3_' r4_' r5_' r6_' r7_' y_' z_'),Ak (Hd.kd (⟨some 0,[0,1,1,1,1,1],[.code [1,1,1,1,1,1]],[0,4,5,7,9],[.boxc o Dq.t Dq.l, .box 29 [.ic .i64 (k), .ic .i64 (a), .ic .i64 (c)], .box 32 [.ic .i64 (e), .ic .i64 (u), .ic .i64 (v)], .box 55 [.i .i64, .i .i64], .i .i64]⟩:Hd Sg)) (λt_' p_' h_' l_' r0_' r1_' r2_' r3_' r4_' r5_' r6_' r7_' y_' z_' w_'=>Fe s k a c e u v t_' p_' h_' l_' r0_' r1_' r2_' r3_' r4_' r5_' r6_' r7_' y_' z_' w_'),Ak (Hd.kd (⟨some 0,[0,1,1,1,1,1],[.code [1,1,1,1,1,1]],[0,4,5,7,9],[.objk D5 ⟨o,0,none⟩ (s), .box 29 [.ic .i64 (k), .ic .i64 (a), .ic .i64 (c)], .box 32 [.ic .i64 (e), .ic .i64 (u), .ic .i64 (v)], .box 55 [.i .i64, .i .i64], .i .i64]⟩:Hd Sg)) (λy_' z_' w_'=>EH s k a c e u v y_' z_' w_')] j (λ_=>False), λj=>iM [Ak (Hd.kd (⟨some 900,[0,1,1,1,1],[.code [1,1,1,1,1]],[0,4,5,7],[.objk D5 ⟨o,0,none⟩ (s), .box 29 [.ic .i64 (k), .ic .i64 (a), .ic .i64 (c)], .box 32 [.ic .i64 (e), .ic .i64 (u), .ic .i64 (v)], .box 55 [.i .i64, .i .i64]]⟩:Hd Sg)) (λy_' z_'=>(4,0,0)),Ak (Hd.kd (⟨some 900,[0,1,1,1,1],[.code [1,1,1,1,1]],[0,4,5,7],[.boxc o Dq.t Dq.l, .box 29 [.ic .i64 (k), .ic .i64 (a), .ic .i64 (c)], .box 32 [.ic .i64 (e), .ic .i64 (u), .ic .i64 (v)], .box 55 [.i .i64, .i .i64]]⟩:Hd Sg)) (λt_' p_' h_' l_' r0_' r1_' r2_' r3_' r4_' r5_' r6_' r7_' y_' z_'=>(3,0,0)),Ak (Hd.kd (⟨some 0,[0,1,1,1,1,1],[.code [1,1,1,1,1,1]],[0,4,5,7,9],[.boxc o Dq.t Dq.l, .box 29 [.ic .i64 (k), .ic .i64 (a), .ic .i64 (c)], .box 32 [.ic .i64 (e), .ic .i64 (u), .ic .i64 (v)], .box 55 [.i .i64, .i .i64], .i .i64]⟩:Hd Sg)) (λt_' p_' h_' l_' r0_' r1_' r2_' r3_' r4_' r5_' r6_' r7_' y_' z_' w_'=>(2,0,0)),Ak (Hd.kd (⟨some 0,[0,1,1,1,1,1],[.code [1,1,1,1,1,1]],[0,4,5,7,9],[.objk D5 ⟨o,0,none⟩ (s), .box 29 [.ic .i64 (k), .ic .i64 (a), .ic .i64 (c)], .box 32 [.ic .i64 (e), .ic .i64 (u), .ic .i64 (v)], .box 55 [.i .i64, .i .i64], .i .i64]⟩:Hd Sg)) (λy_' z_' w_'=>(1,0,0))] j (λ_=>(0,0,0)),by kernel_rfl, λ_ _=>by kernel_rfl,by kernel_rfl,⟨_, λ_ _ _=>by kernel_rfl,Aa6 s k a c e u v hp0⟩,⟨λy_ z_ hI=>⟨s, λ_=>by kernel_rfl, λt_ p_ h_ l_ x0_ x1_ x2_ x3_ x4_ x5_ x6_ x7_ hx=>⟨_, λ_ _=>by kernel_rfl,Aa7 s k a c e u v hp0 y_ z_ t_ p_ h_ l_ x0_ x1_ x2_ x3_ x4_ x5_ x6_ x7_ hI hx⟩⟩,⟨λt_ p_ h_ l_ r0_ r1_ r2_ r3_ r4_ r5_ r6_ r7_ y_ z_ hI=>⟨_, λ_ _ _=>by kernel_rfl,Aa8 s k a c e u v hp0 t_ p_ h_ l_ r0_ r1_ r2_ r3_ r4_ r5_ r6_ r7_ y_ z_ hI⟩,⟨λt_ p_ h_ l_ r0_ r1_ r2_ r3_ r4_ r5_ r6_ r7_ y_ z_ w_ hI=>⟨s,Oo s k a c e u v t_ p_ h_ l_ r0_ r1_ r2_ r3_ r4_ r5_ r6_ r7_ y_ z_ w_ (λy_' z_' w_'=>EH s k a c e u v y_' z_' w_'∧lx (1,0,0) (2,0,0)),(OY s k a c e u v hp0 t_ p_ h_ l_ r0_ r1_ r2_ r3_ r4_ r5_ r6_ r7_ y_ z_ w_ hI).1, λ_=>by kernel_rfl,(OY s k a c e u v hp0 t_ p_ h_ l_ r0_ r1_ r2_ r3_ r4_ r5_ r6_ r7_ y_ z_ w_ hI).2⟩,⟨λy_ z_ w_ hI=>⟨_, λ_ _ _=>by kernel_rfl,Aa9 s k a c e u v hp0 y_ z_ w_ hI⟩,trivial⟩⟩⟩⟩⟩
def XD:Tb:=(31,XB)::Tc
theorem Qx:DU XD:=Ej Ahg Om
def Ig (s:MS) (k a c e u v:Int):Bool:=bif !(atR s.l a).2.2 then BG 4 e u v else bif [s.r0,s.r1,s.r2,s.r3,s.r4,s.r5,s.r6,s.r7].contains a then BG 6 e u v else Ahb e u v (atR s.l a).2.1 0
abbrev Ani:Ct Sg:=⟨some D5,true,[.agg [.i .i64, .i .i64, .i .i64], .agg [.i .i64, .i .i64, .i .i64]], .b⟩
def Ahh:Entry Sg:=CP Ani (λ(s:MS) (k:Int) (a:Int) (c:Int) (e:Int) (u:Int) (v:Int)=>bif !(atR s.l a).2.2 then BG 4 e u v else bif [s.r0,s.r1,s.r2,s.r3,s.r4,s.r5,s.r6,s.r7].contains a then BG 6 e u v else Ahb e u v (atR s.l a).2.1 0) (λs k a c e u v=>[BZ s.l])
def Ahi (s:MS) (k a c e u v:Int) (Q0:Int→Int→Prop) (Q1:Int→Int→Int→List (Int×Int)→Int→Int→Int→Int→Int→Int→Int→Int→Int→Int→Prop) (R_:Bool→Prop) (O_:Int→Int→Int→List (Int×Int)→Int→Int→Int→Int→Int→Int→Int→Int→Bool→Prop):Prop:=(∀r2:Int×Int×Bool,r2=(atR (MS.l s) a)→(Ba (BZ (MS.l s)) (BH (!r2.2.2) (∀r6:Bool,r6=(BG 4 e u v)→(R_ (r6))) (Q0 r2.1 r2.2.1))))
def Aec (s:MS) (k a c e u v y_ z_ t_ p_ h_:Int) (l_:List (Int×Int)) (x0_ x1_ x2_ x3_ x4_ x5_ x6_ x7_:Int) (Q1:Int→Int→Int→List (Int×Int)→Int→Int→Int→Int→Int→Int→Int→Int→Int→Int→Prop):Prop:=(Q1 (t_) (p_) (h_) (l_) (x0_) (x1_) (x2_) (x3_) (x4_) (x5_) (x6_) (x7_) (y_) (z_))
def IA (s:MS) (k a c e u v y_ z_:Int):Prop:=(atR s.l a).2.2=true∧z_=(atR s.l a).2.1
abbrev J5 (e u v:Int) (O_:Int→Int→Int→List (Int×Int)→Int→Int→Int→Int→Int→Int→Int→Int→Bool→Prop) (t_ p_ h_:Int) (l_:List (Int×Int)) (r0_ r1_ r2_ r3_ r4_ r5_ r6_ r7_ z_:Int):Prop:=(BH (true) (∀r3:Bool,r3=(BG 6 e u v)→(O_ (t_) (p_) (h_) (l_) (r0_) (r1_) (r2_) (r3_) (r4_) (r5_) (r6_) (r7_) (r3))) (O_ (t_) (p_) (h_) (l_) (r0_) (r1_) (r2_) (r3_) (r4_) (r5_) (r6_) (r7_) (e==0&&(u==z_&&(v==0&&true)))))
def Aed (s:MS) (k a c e u v t_ p_ h_:Int) (l_:List (Int×Int)) (r0_ r1_ r2_ r3_ r4_ r5_ r6_ r7_ y_ z_:Int) (Q0:Int→Int→Prop) (Q1:Int→Int→Int→List (Int×Int)→Int→Int→Int→Int→Int→Int→Int→Int→Int→Int→Prop) (R_:Bool→Prop) (O_:Int→Int→Int→List (Int×Int)→Int→Int→Int→Int→Int→Int→Int→Int→Bool→Prop):Prop:=(tw_ (Ba ((0:Int)≤0∧(0:Int)<8) (BH (a==r0_) (J5 e u v O_ t_ p_ h_ l_ r0_ r1_ r2_ r3_ r4_ r5_ r6_ r7_ z_) (Ba ((0:Int)≤1∧(1:Int)<8) (BH (a==r1_) (J5 e u v O_ t_ p_ h_ l_ r0_ r1_ r2_ r3_ r4_ r5_ r6_ r7_ z_) (Ba ((0:Int)≤2∧(2:Int)<8) (BH (a==r2_) (J5 e u v O_ t_ p_ h_ l_ r0_ r1_ r2_ r3_ r4_ r5_ r6_ r7_ z_) (Ba ((0:Int)≤3∧(3:Int)<8) (BH (a==r3_) (J5 e u v O_ t_ p_ h_ l_ r0_ r1_ r2_ r3_ r4_ r5_ r6_ r7_ z_) (Ba ((0:Int)≤4∧(4:Int)<8) (BH (a==r4_) (J5 e u v O_ t_ p_ h_ l_ r0_ r1_ r2_ r3_ r4_ r5_ r6_ r7_ z_) (Ba ((0:Int)≤5∧(5:Int)<8) (BH (a==r5_) (J5 e u v O_ t_ p_ h_ l_ r0_ r1_ r2_ r3_ r4_ r5_ r6_ r7_ z_) (Ba ((0:Int)≤6∧(6:Int)<8) (BH (a==r6_) (J5 e u v O_ t_ p_ h_ l_ r0_ r1_ r2_ r3_ r4_ r5_ r6_ r7_ z_) (Ba ((0:Int)≤7∧(7:Int)<8) (BH (a==r7_) (J5 e u v O_ t_ p_ h_ l_ r0_ r1_ r2_ r3_ r4_ r5_ r6_ r7_ z_) (BH (false) (∀r17:Bool,r17=(BG 6 e u v)→(O_ (t_) (p_) (h_) (l_) (r0_) (r1_) (r2_) (r3_) (r4_) (r5_) (r6_) (r7_) (r17))) (O_ (t_) (p_) (h_) (l_) (r0_) (r1_) (r2_) (r3_) (r4_) (r5_) (r6_) (r7_) (e==0&&(u==z_&&(v==0&&true))))))))))))))))))))))
def Ih (s:MS) (k a c e u v t_ p_ h_:Int) (l_:List (Int×Int)) (r0_ r1_ r2_ r3_ r4_ r5_ r6_ r7_ y_ z_:Int):Prop:=s=⟨t_,p_,h_,l_,r0_,r1_,r2_,r3_,r4_,r5_,r6_,r7_⟩∧(atR s.l a).2.2=true∧z_=(atR s.l a).2.1
theorem Ahj (s:MS) (k a c e u v:Int) (hp0:BZ s.l):Ahi s k a c e u v (λy_' z_'=>IA s k a c e u v y_' z_') (λt_' p_' h_' l_' r0_' r1_' r2_' r3_' r4_' r5_' r6_' r7_' y_' z_'=>Ih s k a c e u v t_' p_' h_' l_' r0_' r1_' r2_' r3_' r4_' r5_' r6_' r7_' y_' z_') (λr__=>r__=(Ig s k a c e u v)) (λt_ p_ h_ l_ x0_ x1_ x2_ x3_ x4_ x5_ x6_ x7_ r_=>CB ⟨t_,p_,h_,l_,x0_,x1_,x2_,x3_,x4_,x5_,x6_,x7_⟩ (s)∧r_=(Ig s k a c e u v)):=by
 unfold Ahi
 try unfold IA
 try unfold Ih
 rintro r2 rfl
 refine ⟨hp0, λ_=>⟨λh1=>?_, λh1=>⟨by simpa using h1,rfl⟩⟩⟩
 rintro r6 rfl
 show _=Ig s k a c e u v
 unfold Ig;rw [h1];rfl
theorem Ahk (s:MS) (k a c e u v:Int) (hp0:BZ s.l) (y_ z_ t_ p_ h_:Int) (l_:List (Int×Int)) (x0_ x1_ x2_ x3_ x4_ x5_ x6_ x7_:Int) (hI:IA s k a c e u v y_ z_) (hx:CB ⟨t_,p_,h_,l_,x0_,x1_,x2_,x3_,x4_,x5_,x6_,x7_⟩ (s)):Aec s k a c e u v y_ z_ t_ p_ h_ l_ x0_ x1_ x2_ x3_ x4_ x5_ x6_ x7_ (λt_' p_' h_' l_' r0_' r1_' r2_' r3_' r4_' r5_' r6_' r7_' y_' z_'=>Ih s k a c e u v t_' p_' h_' l_' r0_' r1_' r2_' r3_' r4_' r5_' r6_' r7_' y_' z_'∧lx (3,0,0) (4,0,0)):=by
 unfold IA at hI
 unfold Aec
 try unfold IA
 try unfold Ih
 exact ⟨⟨hx.symm,hI⟩,BU⟩
theorem Ahl (s:MS) (k a c e u v:Int) (hp0:BZ s.l) (t_ p_ h_:Int) (l_:List (Int×Int)) (r0_ r1_ r2_ r3_ r4_ r5_ r6_ r7_ y_ z_:Int) (hI:Ih s k a c e u v t_ p_ h_ l_ r0_ r1_ r2_ r3_ r4_ r5_ r6_ r7_ y_ z_):Aed s k a c e u v t_ p_ h_ l_ r0_ r1_ r2_ r3_ r4_ r5_ r6_ r7_ y_ z_ (λy_' z_'=>IA s k a c e u v y_' z_'∧lx (4,0,0) (3,0,0)) (λt_' p_' h_' l_' r0_' r1_' r2_' r3_' r4_' r5_' r6_' r7_' y_' z_'=>Ih s k a c e u v t_' p_' h_' l_' r0_' r1_' r2_' r3_' r4_' r5_' r6_' r7_' y_' z_'∧lx (3,0,0) (3,0,0)) (λr__=>r__=(Ig s k a c e u v)) (λt_ p_ h_ l_ x0_ x1_ x2_ x3_ x4_ x5_ x6_ x7_ r_=>CB ⟨t_,p_,h_,l_,x0_,x1_,x2_,x3_,x4_,x5_,x6_,x7_⟩ (s)∧r_=(Ig s k a c e u v)):=by
 unfold Ih at hI
 unfold Aed J5
 try unfold IA
 try unfold Ih
 obtain ⟨rfl,h1,rfl⟩:=hI
 have key:Ig ⟨t_,p_,h_,l_,r0_,r1_,r2_,r3_,r4_,r5_,r6_,r7_⟩ k a c e u v=bif [r0_,r1_,r2_,r3_,r4_,r5_,r6_,r7_].contains a then BG 6 e u v else Ahb e u v (atR l_ a).2.1 0:=by unfold Ig;rw [h1];rfl
 apply Aqn
 refine ⟨by decide, λ_=>⟨λe0=>⟨λ_=>?_, λh=>(by cases h)⟩, λe0=>?_⟩⟩
 ·rintro r rfl;exact ⟨rfl,by rw [key];simp only [lK,e0,jX,kQ,cond_true]⟩
 refine ⟨by decide, λ_=>⟨λe1=>⟨λ_=>?_, λh=>(by cases h)⟩, λe1=>?_⟩⟩
 ·rintro r rfl;exact ⟨rfl,by rw [key];simp only [lK,e0,e1,jX,kQ,cond_true]⟩
 refine ⟨by decide, λ_=>⟨λe2=>⟨λ_=>?_, λh=>(by cases h)⟩, λe2=>?_⟩⟩
 ·rintro r rfl;exact ⟨rfl,by rw [key];simp only [lK,e0,e1,e2,jX,kQ,cond_true]⟩
 refine ⟨by decide, λ_=>⟨λe3=>⟨λ_=>?_, λh=>(by cases h)⟩, λe3=>?_⟩⟩
 ·rintro r rfl;exact ⟨rfl,by rw [key];simp only [lK,e0,e1,e2,e3,jX,kQ,cond_true]⟩
 refine ⟨by decide, λ_=>⟨λe4=>⟨λ_=>?_, λh=>(by cases h)⟩, λe4=>?_⟩⟩
 ·rintro r rfl;exact ⟨rfl,by rw [key];simp only [lK,e0,e1,e2,e3,e4,jX,kQ,cond_true]⟩
 refine ⟨by decide, λ_=>⟨λe5=>⟨λ_=>?_, λh=>(by cases h)⟩, λe5=>?_⟩⟩
 ·rintro r rfl;exact ⟨rfl,by rw [key];simp only [lK,e0,e1,e2,e3,e4,e5,jX,kQ,cond_true]⟩
 refine ⟨by decide, λ_=>⟨λe6=>⟨λ_=>?_, λh=>(by cases h)⟩, λe6=>?_⟩⟩
 ·rintro r rfl;exact ⟨rfl,by rw [key];simp only [lK,e0,e1,e2,e3,e4,e5,e6,jX,kQ,cond_true]⟩
 refine ⟨by decide, λ_=>⟨λe7=>⟨λ_=>?_, λh=>(by cases h)⟩, λe7=>?_⟩⟩
 ·rintro r rfl;exact ⟨rfl,by rw [key];simp only [lK,e0,e1,e2,e3,e4,e5,e6,e7,jX,kQ,cond_true]⟩
 exact ⟨λh=>(by cases h), λ_=>⟨rfl,by rw [key];simp only [lK,List.contains_nil,e0,e1,e2,e3,e4,e5,e6,e7,jX,cond_false];rfl⟩⟩
theorem AlN:DZ 30 Ahh:=
 EX Dg Gx false Qx (I:=[65,81,7746900,2999999,2999998]) Try.func30 mix (B:=AY Try.f30) (by kernel_rfl) rfl (by kernel_rfl) 400
  λo s k a c e u v hb hp=>have hp0:BZ s.l:=hp _ (.head _);⟨s,s,(Ig s k a c e u v),[⟨some 900,[0,1,1,0,0,1,1],[.code [1,1,1,0,0,1,1], .blk 0, .code [1,1,1]],[0,4,5,7],[.objk D5 ⟨o,0,none⟩ (s), .box 29 [.ic .i64 (k), .ic .i64 (a), .ic .i64 (c)], .box 32 [.ic .i64 (e), .ic .i64 (u), .ic .i64 (v)], .box 55 [.i .i64, .i .i64]]⟩,⟨some 900,[0,1,1,0,0,1,1],[.code [1,1,1,0,0,1,1], .blk 0, .code [1,1,1]],[0,4,5,7],[.boxc o Dq.t Dq.l, .box 29 [.ic .i64 (k), .ic .i64 (a), .ic .i64 (c)], .box 32 [.ic .i64 (e), .ic .i64 (u), .ic .i64 (v)], .box 55 [.i .i64, .i .i64]]⟩],[.opn 0 (λ_=>o) 1, .run], λj=>iM [Ak (Hd.kd (⟨some 900,[0,1,1,0,0,1,1],[.code [1,1,1,0,0,1,1], .blk 0, .code [1,1,1]],[0,4,5,7],[.objk D5 ⟨o,0,none⟩ (s), .box 29 [.ic .i64 (k), .ic .i64 (a), .ic .i64 (c)], .box 32 [.ic .i64 (e), .ic .i64 (u), .ic .i64 (v)], .box 55 [.i .i64, .i .i64]]⟩:Hd Sg)) (λy_' z_'=>IA s k a c e u v y_' z_'),Ak (Hd.kd (⟨some 900,[0,1,1,0,0,1,1],[.code [1,1,1,0,0,1,1], .blk 0, .code [1,1,1]],[0,4,5,7],[.boxc o Dq.t Dq.l, .box 29 [.ic .i64 (k), .ic .i64 (a), .ic .i64 (c)], .box 32 [.ic .i64 (e), .ic .i64 (u), .ic .i64 (v)], .box 55 [.i .i64, .i .i64]]⟩:Hd Sg)) (λt_' p_' h_' l_' r0_' r1_' r2_' r3_' r4_' r5_' r6_' r7_' y_' z_'=>Ih s k a c e u v t_' p_' h_' l_' r0_' r1_' r2_' r3_' r4_' r5_' r6_' r7_' y_' z_')] j (λ_=>False), λj=>iM [Ak (Hd.kd (⟨some 900,[0,1,1,0,0,1,1],[.code [1,1,1,0,0,1,1], .blk 0, .code [1,1,1]],[0,4,5,7],[.objk D5 ⟨o,0,none⟩ (s), .box 29 [.ic .i64 (k), .ic .i64 (a), .ic .i64 (c)], .box 32 [.ic .i64 (e), .ic .i64 (u), .ic .i64 (v)], .box 55 [.i .i64, .i .i64]]⟩:Hd Sg)) (λy_' z_'=>(4,0,0)),Ak (Hd.kd (⟨some 900,[0,1,1,0,0,1,1],[.code [1,1,1,0,0,1,1], .blk 0, .code [1,1,1]],[0,4,5,7],[.boxc o Dq.t Dq.l, .box 29 [.ic .i64 (k), .ic .i64 (a), .ic .i64 (c)], .box 32 [.ic .i64 (e), .ic .i64 (u), .ic .i64 (v)], .box 55 [.i .i64, .i .i64]]⟩:Hd Sg)) (λt_' p_' h_' l_' r0_' r1_' r2_' r3_' r4_' r5_' r6_' r7_' y_' z_'=>(3,0,0))] j (λ_=>(0,0,0)),by kernel_rfl, λ_ _=>by kernel_rfl,by kernel_rfl,⟨_, λ_ _ _=>by kernel_rfl,Ahj s k a c e u v hp0⟩,⟨λy_ z_ hI=>⟨s, λ_=>by kernel_rfl, λt_ p_ h_ l_ x0_ x1_ x2_ x3_ x4_ x5_ x6_ x7_ hx=>⟨_, λ_ _=>by kernel_rfl,Ahk s k a c e u v hp0 y_ z_ t_ p_ h_ l_ x0_ x1_ x2_ x3_ x4_ x5_ x6_ x7_ hI hx⟩⟩,⟨λt_ p_ h_ l_ r0_ r1_ r2_ r3_ r4_ r5_ r6_ r7_ y_ z_ hI=>⟨_, λ_ _ _=>by kernel_rfl,Ahl s k a c e u v hp0 t_ p_ h_ l_ r0_ r1_ r2_ r3_ r4_ r5_ r6_ r7_ y_ z_ hI⟩,trivial⟩⟩⟩
def Ahm:Tb:=(30,Ahh)::XD
theorem XE:DU Ahm:=Ej AlN Qx
end
section
open Go.Sl
def AnY (s:MS) (k a c e u v:Int):Bool:=bif k==1 then I8 s k a c e u v else bif k==2 then Ig s k a c e u v else bif k==3 then Fa s k a c e u v else bif k==4 then Fj s k a c e u v else bif k==5 then GX s k a c e u v else bif k==6 then JZ s k a c e u v else bif k==7 then L9 s k a c e u v else bif k==8 then I7 s k a c e u v else bif k==9 then H8 s k a c e u v else false
theorem Ak6 {k a c:Int} (h:Iq k a c=true):k=1∨k=2∨k=3∨k=4∨k=5∨k=6∨k=7∨k=8∨k=9:=by
 apply Classical.byContradiction
 intro hn
 simp only [not_or] at hn
 obtain ⟨h1,h2,h3,h4,h5,h6,h7,h8,h9⟩:=hn
 have e:∀i:Int,k≠i→(k==i)=false:= λi h=>by simpa using h
 unfold Iq at h
 rw [e 1 h1,e 2 h2,e 3 h3,e 4 h4,e 5 h5,e 6 h6,e 7 h7,e 8 h8,e 9 h9] at h
 cases h
def Bo (s:MS) (k a c e u v:Int):Bool:=bif !Iq k a c then BG 1 e u v else AnY s k a c e u v
abbrev Ak7:Ct Sg:=⟨some D5,true,[.agg [.i .i64, .i .i64, .i .i64], .agg [.i .i64, .i .i64, .i .i64]], .b⟩
def AaA:Entry Sg:=CP Ak7 Bo (λs k a c e u v=>[BZ s.l])
def Rn (s:MS) (k a c e u v:Int) (Q0:Int→Prop) (R_:Bool→Prop):Prop:=(BH (!true) (R_ (false)) (BH (!Iq k a c) (R_ (BG 1 e u v)) (Q0 (k))))
def MM (p0:Addr) (s:MS) (k a c e u v:Int) (Q0:Int→Prop) (R_:Bool→Prop):Prop:=(Ba (p0=p0) (R_ (ER s a e u v (kJ (Az (MS.t s) (MS.p s) (MS.h s) a)) 0 0)))
def MN (p0:Addr) (s:MS) (k a c e u v:Int) (Q0:Int→Prop) (R_:Bool→Prop):Prop:=(Ba (p0=p0) (Ba (BZ (MS.l s)) (R_ (bif !Option.isSome (OW (MS.l s) a) then BG 4 e u v else bif List.contains [MS.r0 s,MS.r1 s,MS.r2 s,MS.r3 s,MS.r4 s,MS.r5 s,MS.r6 s,MS.r7 s] a then BG 6 e u v else Ahb e u v (mF (Option.getD (OW (MS.l s) a) (0,0))) 0))))
def MO (p0:Addr) (s:MS) (k a c e u v:Int) (Q0:Int→Prop) (R_:Bool→Prop):Prop:=(Ba (p0=p0) (Ba (BZ (MS.l s)) (R_ (bif !Option.isSome (OW (MS.l s) a) then BG 4 e u v else ER s c e u v (kJ (Az (MS.t s) (MS.p s) (MS.h s) c)) (bif u !=a then 0 else kJ (Option.getD (OW (MS.l s) a) (0,0))) (bif u !=a then 0 else mF (Option.getD (OW (MS.l s) a) (0,0)))))))
def MP (p0:Addr) (s:MS) (k a c e u v:Int) (Q0:Int→Prop) (R_:Bool→Prop):Prop:=(Ba (p0=p0) (R_ (Fj s 4 a c e u v)))
def MQ (p0:Addr) (s:MS) (k a c e u v:Int) (Q0:Int→Prop) (R_:Bool→Prop):Prop:=(Ba (p0=p0) (Ba (BZ (MS.l s)) (R_ (GX s 5 a c e u v))))
def MR (p0:Addr) (s:MS) (k a c e u v:Int) (Q0:Int→Prop) (R_:Bool→Prop):Prop:=(Ba (p0=p0) (R_ (JZ s 6 a c e u v)))
def MV (p0:Addr) (s:MS) (k a c e u v:Int) (Q0:Int→Prop) (R_:Bool→Prop):Prop:=(Ba (p0=p0) (Ba (BZ (MS.l s)) (R_ (L9 s 7 a c e u v))))
def MW (p0:Addr) (s:MS) (k a c e u v:Int) (Q0:Int→Prop) (R_:Bool→Prop):Prop:=(Ba (p0=p0) (R_ (e==0&&decide (u≥0)&&decide (u≤MS.p s)&&v==(↑(iN (MS.l s)):Int))))
def MX (p0:Addr) (s:MS) (k a c e u v:Int) (Q0:Int→Prop) (R_:Bool→Prop):Prop:=(Ba (p0=p0) (R_ (bif decide (a<0)||decide (a≥9) then BG 7 e u v else e==0&&decide (u≥0)&&decide (u≤4)&&v==0)))
def AZ (s:MS) (k a c e u v kk:Int) (r_:Bool):Prop:=kk=k∧Iq k a c=true∧r_=AnY s k a c e u v
abbrev P6 (p0:Addr) (s:MS) (k a c e u v:Int):Hd Sg:=⟨some 0,[0,1,1,1],[.code [1,1,1,1]],[0,4,5],[.objk D5 p0 (s), .box 29 [.i .i64, .ic .i64 (a), .ic .i64 (c)], .box 32 [.ic .i64 (e), .ic .i64 (u), .ic .i64 (v)]]⟩
theorem AcP (s:MS) (k a c e u v:Int) (hp0:BZ s.l):Rn s k a c e u v (λkk'=>AZ s k a c e u v kk' (Bo s k a c e u v)) (λr__=>r__=(Bo s k a c e u v)):=by
 unfold Rn
 try unfold AZ
 refine ⟨λh=>(by cases h), λ_=>⟨λh=>?_, λh=>⟨rfl,by simpa using h,?_⟩⟩⟩
 ·unfold Bo;rw [h];rfl
 ·unfold Bo;rw [h];rfl
theorem Ahn (s:MS) (k a c e u v:Int) (hp0:BZ s.l) (kk:Int) {r_:Bool} (hI:AZ s k a c e u v kk r_):kk=1∨kk=2∨kk=3∨kk=4∨kk=5∨kk=6∨kk=7∨kk=8∨kk=9:=by
 unfold AZ at hI
 obtain ⟨rfl,h,_⟩:=hI
 exact Ak6 h
theorem YF {p0:Addr} (s:MS) (k a c e u v:Int) (hp0:BZ s.l) {r_:Bool} (hI:AZ s k a c e u v (1:Int) r_):MM p0 s k a c e u v (λkk'=>AZ s k a c e u v kk' r_∧lx (1,0,0) (1,0,0)) (λr__=>r__=r_):=by
 unfold AZ at hI
 unfold MM
 try unfold AZ
 obtain ⟨rfl,_,rfl⟩:=hI
 exact ⟨rfl, λ_=>rfl⟩
theorem YG {p0:Addr} (s:MS) (k a c e u v:Int) (hp0:BZ s.l) {r_:Bool} (hI:AZ s k a c e u v (2:Int) r_):MN p0 s k a c e u v (λkk'=>AZ s k a c e u v kk' r_∧lx (1,0,0) (1,0,0)) (λr__=>r__=r_):=by
 unfold AZ at hI
 unfold MN
 try unfold AZ
 obtain ⟨rfl,_,rfl⟩:=hI
 exact ⟨rfl, λ_=>⟨hp0, λ_=>rfl⟩⟩
theorem YH {p0:Addr} (s:MS) (k a c e u v:Int) (hp0:BZ s.l) {r_:Bool} (hI:AZ s k a c e u v (3:Int) r_):MO p0 s k a c e u v (λkk'=>AZ s k a c e u v kk' r_∧lx (1,0,0) (1,0,0)) (λr__=>r__=r_):=by
 unfold AZ at hI
 unfold MO
 try unfold AZ
 obtain ⟨rfl,_,rfl⟩:=hI
 exact ⟨rfl, λ_=>⟨hp0, λ_=>rfl⟩⟩
theorem YI {p0:Addr} (s:MS) (k a c e u v:Int) (hp0:BZ s.l) {r_:Bool} (hI:AZ s k a c e u v (4:Int) r_):MP p0 s k a c e u v (λkk'=>AZ s k a c e u v kk' r_∧lx (1,0,0) (1,0,0)) (λr__=>r__=r_):=by
 unfold AZ at hI
 unfold MP
 try unfold AZ
 obtain ⟨rfl,_,rfl⟩:=hI
 exact ⟨rfl, λ_=>rfl⟩
theorem YJ {p0:Addr} (s:MS) (k a c e u v:Int) (hp0:BZ s.l) {r_:Bool} (hI:AZ s k a c e u v (5:Int) r_):MQ p0 s k a c e u v (λkk'=>AZ s k a c e u v kk' r_∧lx (1,0,0) (1,0,0)) (λr__=>r__=r_):=by
 unfold AZ at hI
 unfold MQ
 try unfold AZ
 obtain ⟨rfl,_,rfl⟩:=hI
 exact ⟨rfl, λ_=>⟨hp0, λ_=>rfl⟩⟩
theorem YK {p0:Addr} (s:MS) (k a c e u v:Int) (hp0:BZ s.l) {r_:Bool} (hI:AZ s k a c e u v (6:Int) r_):MR p0 s k a c e u v (λkk'=>AZ s k a c e u v kk' r_∧lx (1,0,0) (1,0,0)) (λr__=>r__=r_):=by
 unfold AZ at hI
 unfold MR
 try unfold AZ
 obtain ⟨rfl,_,rfl⟩:=hI
 exact ⟨rfl, λ_=>rfl⟩
theorem YL {p0:Addr} (s:MS) (k a c e u v:Int) (hp0:BZ s.l) {r_:Bool} (hI:AZ s k a c e u v (7:Int) r_):MV p0 s k a c e u v (λkk'=>AZ s k a c e u v kk' r_∧lx (1,0,0) (1,0,0)) (λr__=>r__=r_):=by
 unfold AZ at hI
 unfold MV
 try unfold AZ
 obtain ⟨rfl,_,rfl⟩:=hI
 exact ⟨rfl, λ_=>⟨hp0, λ_=>rfl⟩⟩
theorem YM {p0:Addr} (s:MS) (k a c e u v:Int) (hp0:BZ s.l) {r_:Bool} (hI:AZ s k a c e u v (8:Int) r_):MW p0 s k a c e u v (λkk'=>AZ s k a c e u v kk' r_∧lx (1,0,0) (1,0,0)) (λr__=>r__=r_):=by
 unfold AZ at hI
 unfold MW
 try unfold AZ
 obtain ⟨rfl,_,rfl⟩:=hI
 exact ⟨rfl, λ_=>rfl⟩
theorem YN {p0:Addr} (s:MS) (k a c e u v:Int) (hp0:BZ s.l) {r_:Bool} (hI:AZ s k a c e u v (9:Int) r_):MX p0 s k a c e u v (λkk'=>AZ s k a c e u v kk' r_∧lx (1,0,0) (1,0,0)) (λr__=>r__=r_):=by
 unfold AZ at hI
 unfold MX
 try unfold AZ
 obtain ⟨rfl,_,rfl⟩:=hI
 exact ⟨rfl, λ_=>rfl⟩
theorem AiO:DZ 10 AaA:=
 MC Dg XE (I:=[1106000]) Try.func10 mix (B:=AY Try.f10) (by kernel_rfl) rfl (by kernel_rfl) 400
  λp0 s k a c e u v hb hp=>have hp0:BZ s.l:=hp _ (.head _);⟨[P6 p0 s k a c e u v], λj=>iM [Ak (Hd.kd (P6 p0 s k a c e u v)) (λkk'=>AZ s k a c e u v kk' (Bo s k a c e u v))] j (λ_=>False), λj=>iM [Ak (Hd.kd (P6 p0 s k a c e u v)) (λkk'=>(1,0,0))] j (λ_=>(0,0,0)),by kernel_rfl,⟨Rn s k a c e u v (λkk'=>AZ s k a c e u v kk' (Bo s k a c e u v)) (λr__=>r__=(Bo s k a c e u v)), λ_ _ _=>by kernel_rfl,AcP s k a c e u v hp0⟩,⟨λkk hI=>(by
   rcases Ahn s k a c e u v hp0 kk hI with rfl|rfl|rfl|rfl|rfl|rfl|rfl|rfl|rfl
   ·exact ⟨MM p0 s k a c e u v (λkk'=>AZ s k a c e u v kk' (Bo s k a c e u v)∧lx (1,0,0) (1,0,0)) (λr__=>r__=(Bo s k a c e u v)), λ_ _ _=>by kernel_rfl,YF s k a c e u v hp0 hI⟩
   ·exact ⟨MN p0 s k a c e u v (λkk'=>AZ s k a c e u v kk' (Bo s k a c e u v)∧lx (1,0,0) (1,0,0)) (λr__=>r__=(Bo s k a c e u v)), λ_ _ _=>by kernel_rfl,YG s k a c e u v hp0 hI⟩
   ·exact ⟨MO p0 s k a c e u v (λkk'=>AZ s k a c e u v kk' (Bo s k a c e u v)∧lx (1,0,0) (1,0,0)) (λr__=>r__=(Bo s k a c e u v)), λ_ _ _=>by kernel_rfl,YH s k a c e u v hp0 hI⟩
   ·exact ⟨MP p0 s k a c e u v (λkk'=>AZ s k a c e u v kk' (Bo s k a c e u v)∧lx (1,0,0) (1,0,0)) (λr__=>r__=(Bo s k a c e u v)), λ_ _ _=>by kernel_rfl,YI s k a c e u v hp0 hI⟩
   ·exact ⟨MQ p0 s k a c e u v (λkk'=>AZ s k a c e u v kk' (Bo s k a c e u v)∧lx (1,0,0) (1,0,0)) (λr__=>r__=(Bo s k a c e u v)), λ_ _ _=>by kernel_rfl,YJ s k a c e u v hp0 hI⟩
   ·exact ⟨MR p0 s k a c e u v (λkk'=>AZ s k a c e u v kk' (Bo s k a c e u v)∧lx (1,0,0) (1,0,0)) (λr__=>r__=(Bo s k a c e u v)), λ_ _ _=>by kernel_rfl,YK s k a c e u v hp0 hI⟩
   ·exact ⟨MV p0 s k a c e u v (λkk'=>AZ s k a c e u v kk' (Bo s k a c e u v)∧lx (1,0,0) (1,0,0)) (λr__=>r__=(Bo s k a c e u v)), λ_ _ _=>by kernel_rfl,YL s k a c e u v hp0 hI⟩
   ·exact ⟨MW p0 s k a c e u v (λkk'=>AZ s k a c e u v kk' (Bo s k a c e u v)∧lx (1,0,0) (1,0,0)) (λr__=>r__=(Bo s k a c e u v)), λ_ _ _=>by kernel_rfl,YM s k a c e u v hp0 hI⟩
   ·exact ⟨MX p0 s k a c e u v (λkk'=>AZ s k a c e u v kk' (Bo s k a c e u v)∧lx (1,0,0) (1,0,0)) (λr__=>r__=(Bo s k a c e u v)), λ_ _ _=>by kernel_rfl,YN s k a c e u v hp0 hI⟩),trivial⟩⟩
def AaB:Tb:=(10,AaA)::Ahm
theorem Td:DU AaB:=Ej AiO XE
end
section
open Go.Sl
def mvL (s:MS) (f g z:Int):List (Int×Int):=F8 (FY s.l ((atR s.l f).1,(atR s.l f).2.1)) (g,z)
def DX (r f g i j:Int):Int:=bif decide (j<i)&&r==f then g else r
def IR (s:MS) (f g z i:Int):MS:=⟨s.t,s.p,s.h,mvL s f g z,DX s.r0 f g i 0,DX s.r1 f g i 1,DX s.r2 f g i 2,DX s.r3 f g i 3,DX s.r4 f g i 4,DX s.r5 f g i 5,DX s.r6 f g i 6,DX s.r7 f g i 7⟩
def Ff (s:MS) (f g z:Int):MS:=IR s f g z 8
abbrev Anj:Ct Sg:=⟨some D5,false,[.i .i64, .i .i64, .i .i64], .skip⟩
def Aho:Entry Sg:=CP Anj (λ(s:MS) (f:Int) (g:Int) (z:Int)=>IR s f g z 8) (λs f g z=>[BZ s.l])
def Ahp (s:MS) (f g z:Int) (Q0:Int→Int→Prop) (Q1:Int→Int→Int→List (Int×Int)→Int→Int→Int→Int→Int→Int→Int→Int→Int→Int→Prop) (Q2:Int→Int→Int→List (Int×Int)→Int→Int→Int→Int→Int→Int→Int→Int→Int→Int→Int→Int→Int→Int→Int→Int→Int→Prop) (R_:MS→Prop) (O_:Int→Int→Int→List (Int×Int)→Int→Int→Int→Int→Int→Int→Int→Int→Unit→Prop):Prop:=(∀r0:Int×Int×Bool,r0=(atR (MS.l s) f)→(Ba (BZ (MS.l s)) (Q0 r0.1 r0.2.1)))
def Aee (s:MS) (f g z y_ z_ t_ p_ h_:Int) (l_:List (Int×Int)) (x0_ x1_ x2_ x3_ x4_ x5_ x6_ x7_:Int) (Q1:Int→Int→Int→List (Int×Int)→Int→Int→Int→Int→Int→Int→Int→Int→Int→Int→Prop):Prop:=(Q1 (t_) (p_) (h_) (l_) (x0_) (x1_) (x2_) (x3_) (x4_) (x5_) (x6_) (x7_) (y_) (z_))
def D6 (s:MS) (f g z y_ z_:Int):Prop:=y_=(atR s.l f).1∧z_=(atR s.l f).2.1
def Aef (s:MS) (f g z t_ p_ h_:Int) (l_:List (Int×Int)) (r0_ r1_ r2_ r3_ r4_ r5_ r6_ r7_ y_ z_:Int) (Q0:Int→Int→Prop) (Q1:Int→Int→Int→List (Int×Int)→Int→Int→Int→Int→Int→Int→Int→Int→Int→Int→Prop) (Q2:Int→Int→Int→List (Int×Int)→Int→Int→Int→Int→Int→Int→Int→Int→Int→Int→Int→Int→Int→Int→Int→Int→Int→Prop) (R_:MS→Prop) (O_:Int→Int→Int→List (Int×Int)→Int→Int→Int→Int→Int→Int→Int→Int→Unit→Prop):Prop:=(Q2 (t_) (p_) (h_) (F8 (FY l_ (y_,z_)) (g,z)) (r0_) (r1_) (r2_) (r3_) (r4_) (r5_) (r6_) (r7_) (r0_) (r1_) (r2_) (r3_) (r4_) (r5_) (r6_) (r7_) (0))
def Dv (s:MS) (f g z t_ p_ h_:Int) (l_:List (Int×Int)) (r0_ r1_ r2_ r3_ r4_ r5_ r6_ r7_ y_ z_:Int):Prop:=s=⟨t_,p_,h_,l_,r0_,r1_,r2_,r3_,r4_,r5_,r6_,r7_⟩∧y_=(atR s.l f).1∧z_=(atR s.l f).2.1
def XF (s:MS) (f g z t_ p_ h_:Int) (l_:List (Int×Int)) (r0_ r1_ r2_ r3_ r4_ r5_ r6_ r7_ c0_ c1_ c2_ c3_ c4_ c5_ c6_ c7_:Int) (Q0:Int→Int→Prop) (Q1:Int→Int→Int→List (Int×Int)→Int→Int→Int→Int→Int→Int→Int→Int→Int→Int→Prop) (Q2:Int→Int→Int→List (Int×Int)→Int→Int→Int→Int→Int→Int→Int→Int→Int→Int→Int→Int→Int→Int→Int→Int→Int→Prop) (R_:MS→Prop) (O_:Int→Int→Int→List (Int×Int)→Int→Int→Int→Int→Int→Int→Int→Int→Unit→Prop):Prop:=(BH (true) (Ba ((0:Int)≤0∧(0:Int)<8) (BH (iM [c0_,c1_,c2_,c3_,c4_,c5_,c6_,c7_] 0 0==f) (Ba ((0:Int)≤0∧(0:Int)<8) (Q2 (t_) (p_) (h_) (l_) (g) (r1_) (r2_) (r3_) (r4_) (r5_) (r6_) (r7_) (c0_) (c1_) (c2_) (c3_) (c4_) (c5_) (c6_) (c7_) (1))) (Q2 (t_) (p_) (h_) (l_) (r0_) (r1_) (r2_) (r3_) (r4_) (r5_) (r6_) (r7_) (c0_) (c1_) (c2_) (c3_) (c4_) (c5_) (c6_) (c7_) (1)))) (O_ (t_) (p_) (h_) (l_) (r0_) (r1_) (r2_) (r3_) (r4_) (r5_) (r6_) (r7_) (())))
def XG (s:MS) (f g z t_ p_ h_:Int) (l_:List (Int×Int)) (r0_ r1_ r2_ r3_ r4_ r5_ r6_ r7_ c0_ c1_ c2_ c3_ c4_ c5_ c6_ c7_:Int) (Q0:Int→Int→Prop) (Q1:Int→Int→Int→List (Int×Int)→Int→Int→Int→Int→Int→Int→Int→Int→Int→Int→Prop) (Q2:Int→Int→Int→List (Int×Int)→Int→Int→Int→Int→Int→Int→Int→Int→Int→Int→Int→Int→Int→Int→Int→Int→Int→Prop) (R_:MS→Prop) (O_:Int→Int→Int→List (Int×Int)→Int→Int→Int→Int→Int→Int→Int→Int→Unit→Prop):Prop:=(BH (true) (Ba ((0:Int)≤1∧(1:Int)<8) (BH (iM [c0_,c1_,c2_,c3_,c4_,c5_,c6_,c7_] 1 0==f) (Ba ((0:Int)≤1∧(1:Int)<8) (Q2 (t_) (p_) (h_) (l_) (r0_) (g) (r2_) (r3_) (r4_) (r5_) (r6_) (r7_) (c0_) (c1_) (c2_) (c3_) (c4_) (c5_) (c6_) (c7_) (2))) (Q2 (t_) (p_) (h_) (l_) (r0_) (r1_) (r2_) (r3_) (r4_) (r5_) (r6_) (r7_) (c0_) (c1_) (c2_) (c3_) (c4_) (c5_) (c6_) (c7_) (2)))) (O_ (t_) (p_) (h_) (l_) (r0_) (r1_) (r2_) (r3_) (r4_) (r5_) (r6_) (r7_) (())))
def XH (s:MS) (f g z t_ p_ h_:Int) (l_:List (Int×Int)) (r0_ r1_ r2_ r3_ r4_ r5_ r6_ r7_ c0_ c1_ c2_ c3_ c4_ c5_ c6_ c7_:Int) (Q0:Int→Int→Prop) (Q1:Int→Int→Int→List (Int×Int)→Int→Int→Int→Int→Int→Int→Int→Int→Int→Int→Prop) (Q2:Int→Int→Int→List (Int×Int)→Int→Int→Int→Int→Int→Int→Int→Int→Int→Int→Int→Int→Int→Int→Int→Int→Int→Prop) (R_:MS→Prop) (O_:Int→Int→Int→List (Int×Int)→Int→Int→Int→Int→Int→Int→Int→Int→Unit→Prop):Prop:=(BH (true) (Ba ((0:Int)≤2∧(2:Int)<8) (BH (iM [c0_,c1_,c2_,c3_,c4_,c5_,c6_,c7_] 2 0==f) (Ba ((0:Int)≤2∧(2:Int)<8) (Q2 (t_) (p_) (h_) (l_) (r0_) (r1_) (g) (r3_) (r4_) (r5_) (r6_) (r7_) (c0_) (c1_) (c2_) (c3_) (c4_) (c5_) (c6_) (c7_) (3))) (Q2 (t_) (p_) (h_) (l_) (r0_) (r1_) (r2_) (r3_) (r4_) (r5_) (r6_) (r7_) (c0_) (c1_) (c2_) (c3_) (c4_) (c5_) (c6_) (c7_) (3)))) (O_ (t_) (p_) (h_) (l_) (r0_) (r1_) (r2_) (r3_) (r4_) (r5_) (r6_) (r7_) (())))
def XI (s:MS) (f g z t_ p_ h_:Int) (l_:List (Int×Int)) (r0_ r1_ r2_ r3_ r4_ r5_ r6_ r7_ c0_ c1_ c2_ c3_ c4_ c5_ c6_ c7_:Int) (Q0:Int→Int→Prop) (Q1:Int→Int→Int→List (Int×Int)→Int→Int→Int→Int→Int→Int→Int→Int→Int→Int→Prop) (Q2:Int→Int→Int→List (Int×Int)→Int→Int→Int→Int→Int→Int→Int→Int→Int→Int→Int→Int→Int→Int→Int→Int→Int→Prop) (R_:MS→Prop) (O_:Int→Int→Int→List (Int×Int)→Int→Int→Int→Int→Int→Int→Int→Int→Unit→Prop):Prop:=(BH (true) (Ba ((0:Int)≤3∧(3:Int)<8) (BH (iM [c0_,c1_,c2_,c3_,c4_,c5_,c6_,c7_] 3 0==f) (Ba ((0:Int)≤3∧(3:Int)<8) (Q2 (t_) (p_) (h_) (l_) (r0_) (r1_) (r2_) (g) (r4_) (r5_) (r6_) (r7_) (c0_) (c1_) (c2_) (c3_) (c4_) (c5_) (c6_) (c7_) (4))) (Q2 (t_) (p_) (h_) (l_) (r0_) (r1_) (r2_) (r3_) (r4_) (r5_) (r6_) (r7_) (c0_) (c1_) (c2_) (c3_) (c4_) (c5_) (c6_) (c7_) (4)))) (O_ (t_) (p_) (h_) (l_) (r0_) (r1_) (r2_) (r3_) (r4_) (r5_) (r6_) (r7_) (())))
def XJ (s:MS) (f g z t_ p_ h_:Int) (l_:List (Int×Int)) (r0_ r1_ r2_ r3_ r4_ r5_ r6_ r7_ c0_ c1_ c2_ c3_ c4_ c5_ c6_ c7_:Int) (Q0:Int→Int→Prop) (Q1:Int→Int→Int→List (Int×Int)→Int→Int→Int→Int→Int→Int→Int→Int→Int→Int→Prop) (Q2:Int→Int→Int→List (Int×Int)→Int→Int→Int→Int→Int→Int→Int→Int→Int→Int→Int→Int→Int→Int→Int→Int→Int→Prop) (R_:MS→Prop) (O_:Int→Int→Int→List (Int×Int)→Int→Int→Int→Int→Int→Int→Int→Int→Unit→Prop):Prop:=(BH (true) (Ba ((0:Int)≤4∧(4:Int)<8) (BH (iM [c0_,c1_,c2_,c3_,c4_,c5_,c6_,c7_] 4 0==f) (Ba ((0:Int)≤4∧(4:Int)<8) (Q2 (t_) (p_) (h_) (l_) (r0_) (r1_) (r2_) (r3_) (g) (r5_) (r6_) (r7_) (c0_) (c1_) (c2_) (c3_) (c4_) (c5_) (c6_) (c7_) (5))) (Q2 (t_) (p_) (h_) (l_) (r0_) (r1_) (r2_) (r3_) (r4_) (r5_) (r6_) (r7_) (c0_) (c1_) (c2_) (c3_) (c4_) (c5_) (c6_) (c7_) (5)))) (O_ (t_) (p_) (h_) (l_) (r0_) (r1_) (r2_) (r3_) (r4_) (r5_) (r6_) (r7_) (())))
def XK (s:MS) (f g z t_ p_ h_:Int) (l_:List (Int×Int)) (r0_ r1_ r2_ r3_ r4_ r5_ r6_ r7_ c0_ c1_ c2_ c3_ c4_ c5_ c6_ c7_:Int) (Q0:Int→Int→Prop) (Q1:Int→Int→Int→List (Int×Int)→Int→Int→Int→Int→Int→Int→Int→Int→Int→Int→Prop) (Q2:Int→Int→Int→List (Int×Int)→Int→Int→Int→Int→Int→Int→Int→Int→Int→Int→Int→Int→Int→Int→Int→Int→Int→Prop) (R_:MS→Prop) (O_:Int→Int→Int→List (Int×Int)→Int→Int→Int→Int→Int→Int→Int→Int→Unit→Prop):Prop:=(BH (true) (Ba ((0:Int)≤5∧(5:Int)<8) (BH (iM [c0_,c1_,c2_,c3_,c4_,c5_,c6_,c7_] 5 0==f) (Ba ((0:Int)≤5∧(5:Int)<8) (Q2 (t_) (p_) (h_) (l_) (r0_) (r1_) (r2_) (r3_) (r4_) (g) (r6_) (r7_) (c0_) (c1_) (c2_) (c3_) (c4_) (c5_) (c6_) (c7_) (6))) (Q2 (t_) (p_) (h_) (l_) (r0_) (r1_) (r2_) (r3_) (r4_) (r5_) (r6_) (r7_) (c0_) (c1_) (c2_) (c3_) (c4_) (c5_) (c6_) (c7_) (6)))) (O_ (t_) (p_) (h_) (l_) (r0_) (r1_) (r2_) (r3_) (r4_) (r5_) (r6_) (r7_) (())))
def XL (s:MS) (f g z t_ p_ h_:Int) (l_:List (Int×Int)) (r0_ r1_ r2_ r3_ r4_ r5_ r6_ r7_ c0_ c1_ c2_ c3_ c4_ c5_ c6_ c7_:Int) (Q0:Int→Int→Prop) (Q1:Int→Int→Int→List (Int×Int)→Int→Int→Int→Int→Int→Int→Int→Int→Int→Int→Prop) (Q2:Int→Int→Int→List (Int×Int)→Int→Int→Int→Int→Int→Int→Int→Int→Int→Int→Int→Int→Int→Int→Int→Int→Int→Prop) (R_:MS→Prop) (O_:Int→Int→Int→List (Int×Int)→Int→Int→Int→Int→Int→Int→Int→Int→Unit→Prop):Prop:=(BH (true) (Ba ((0:Int)≤6∧(6:Int)<8) (BH (iM [c0_,c1_,c2_,c3_,c4_,c5_,c6_,c7_] 6 0==f) (Ba ((0:Int)≤6∧(6:Int)<8) (Q2 (t_) (p_) (h_) (l_) (r0_) (r1_) (r2_) (r3_) (r4_) (r5_) (g) (r7_) (c0_) (c1_) (c2_) (c3_) (c4_) (c5_) (c6_) (c7_) (7))) (Q2 (t_) (p_) (h_) (l_) (r0_) (r1_) (r2_) (r3_) (r4_) (r5_) (r6_) (r7_) (c0_) (c1_) (c2_) (c3_) (c4_) (c5_) (c6_) (c7_) (7)))) (O_ (t_) (p_) (h_) (l_) (r0_) (r1_) (r2_) (r3_) (r4_) (r5_) (r6_) (r7_) (())))
def XM (s:MS) (f g z t_ p_ h_:Int) (l_:List (Int×Int)) (r0_ r1_ r2_ r3_ r4_ r5_ r6_ r7_ c0_ c1_ c2_ c3_ c4_ c5_ c6_ c7_:Int) (Q0:Int→Int→Prop) (Q1:Int→Int→Int→List (Int×Int)→Int→Int→Int→Int→Int→Int→Int→Int→Int→Int→Prop) (Q2:Int→Int→Int→List (Int×Int)→Int→Int→Int→Int→Int→Int→Int→Int→Int→Int→Int→Int→Int→Int→Int→Int→Int→Prop) (R_:MS→Prop) (O_:Int→Int→Int→List (Int×Int)→Int→Int→Int→Int→Int→Int→Int→Int→Unit→Prop):Prop:=(BH (true) (Ba ((0:Int)≤7∧(7:Int)<8) (BH (iM [c0_,c1_,c2_,c3_,c4_,c5_,c6_,c7_] 7 0==f) (Ba ((0:Int)≤7∧(7:Int)<8) (Q2 (t_) (p_) (h_) (l_) (r0_) (r1_) (r2_) (r3_) (r4_) (r5_) (r6_) (g) (c0_) (c1_) (c2_) (c3_) (c4_) (c5_) (c6_) (c7_) (8))) (Q2 (t_) (p_) (h_) (l_) (r0_) (r1_) (r2_) (r3_) (r4_) (r5_) (r6_) (r7_) (c0_) (c1_) (c2_) (c3_) (c4_) (c5_) (c6_) (c7_) (8)))) (O_ (t_) (p_) (h_) (l_) (r0_) (r1_) (r2_) (r3_) (r4_) (r5_) (r6_) (r7_) (())))
def XN (s:MS) (f g z t_ p_ h_:Int) (l_:List (Int×Int)) (r0_ r1_ r2_ r3_ r4_ r5_ r6_ r7_ c0_ c1_ c2_ c3_ c4_ c5_ c6_ c7_:Int) (Q0:Int→Int→Prop) (Q1:Int→Int→Int→List (Int×Int)→Int→Int→Int→Int→Int→Int→Int→Int→Int→Int→Prop) (Q2:Int→Int→Int→List (Int×Int)→Int→Int→Int→Int→Int→Int→Int→Int→Int→Int→Int→Int→Int→Int→Int→Int→Int→Prop) (R_:MS→Prop) (O_:Int→Int→Int→List (Int×Int)→Int→Int→Int→Int→Int→Int→Int→Int→Unit→Prop):Prop:=(BH (false) (Ba ((0:Int)≤8∧(8:Int)<8) (BH (iM [c0_,c1_,c2_,c3_,c4_,c5_,c6_,c7_] 8 0==f) (Ba ((0:Int)≤8∧(8:Int)<8) False) (Q2 (t_) (p_) (h_) (l_) (r0_) (r1_) (r2_) (r3_) (r4_) (r5_) (r6_) (r7_) (c0_) (c1_) (c2_) (c3_) (c4_) (c5_) (c6_) (c7_) (9)))) (O_ (t_) (p_) (h_) (l_) (r0_) (r1_) (r2_) (r3_) (r4_) (r5_) (r6_) (r7_) (())))
def BQ (s:MS) (f g z t_ p_ h_:Int) (l_:List (Int×Int)) (r0_ r1_ r2_ r3_ r4_ r5_ r6_ r7_ c0_ c1_ c2_ c3_ c4_ c5_ c6_ c7_ i_:Int):Prop:=0≤i_∧i_≤8∧⟨t_,p_,h_,l_,r0_,r1_,r2_,r3_,r4_,r5_,r6_,r7_⟩=IR s f g z i_∧(c0_=s.r0∧c1_=s.r1∧c2_=s.r2∧c3_=s.r3∧c4_=s.r4∧c5_=s.r5∧c6_=s.r6∧c7_=s.r7)
theorem Ahq (s:MS) (f g z:Int) (hp0:BZ s.l):Ahp s f g z (λy_' z_'=>D6 s f g z y_' z_') (λt_' p_' h_' l_' r0_' r1_' r2_' r3_' r4_' r5_' r6_' r7_' y_' z_'=>Dv s f g z t_' p_' h_' l_' r0_' r1_' r2_' r3_' r4_' r5_' r6_' r7_' y_' z_') (λt_' p_' h_' l_' r0_' r1_' r2_' r3_' r4_' r5_' r6_' r7_' c0_' c1_' c2_' c3_' c4_' c5_' c6_' c7_' i_'=>BQ s f g z t_' p_' h_' l_' r0_' r1_' r2_' r3_' r4_' r5_' r6_' r7_' c0_' c1_' c2_' c3_' c4_' c5_' c6_' c7_' i_') (λr__=>r__=(Ff s f g z)) (λt_ p_ h_ l_ x0_ x1_ x2_ x3_ x4_ x5_ x6_ x7_ r_=>CB ⟨t_,p_,h_,l_,x0_,x1_,x2_,x3_,x4_,x5_,x6_,x7_⟩ ((Ff s f g z))∧r_=()):=by
 unfold Ahp
 try unfold D6
 try unfold Dv
 try unfold BQ
 rintro r0 rfl
 exact ⟨hp0, λ_=>⟨rfl,rfl⟩⟩
theorem Ahr (s:MS) (f g z:Int) (hp0:BZ s.l) (y_ z_ t_ p_ h_:Int) (l_:List (Int×Int)) (x0_ x1_ x2_ x3_ x4_ x5_ x6_ x7_:Int) (hI:D6 s f g z y_ z_) (hx:CB ⟨t_,p_,h_,l_,x0_,x1_,x2_,x3_,x4_,x5_,x6_,x7_⟩ (s)):Aee s f g z y_ z_ t_ p_ h_ l_ x0_ x1_ x2_ x3_ x4_ x5_ x6_ x7_ (λt_' p_' h_' l_' r0_' r1_' r2_' r3_' r4_' r5_' r6_' r7_' y_' z_'=>Dv s f g z t_' p_' h_' l_' r0_' r1_' r2_' r3_' r4_' r5_' r6_' r7_' y_' z_'∧lx (3,0,0) (4,0,0)):=by
 unfold D6 at hI
 unfold Aee
 try unfold D6
 try unfold Dv
 try unfold BQ
 exact ⟨⟨hx.symm,hI⟩,BU⟩
theorem Ahs (s:MS) (f g z:Int) (hp0:BZ s.l) (t_ p_ h_:Int) (l_:List (Int×Int)) (r0_ r1_ r2_ r3_ r4_ r5_ r6_ r7_ y_ z_:Int) (hI:Dv s f g z t_ p_ h_ l_ r0_ r1_ r2_ r3_ r4_ r5_ r6_ r7_ y_ z_):Aef s f g z t_ p_ h_ l_ r0_ r1_ r2_ r3_ r4_ r5_ r6_ r7_ y_ z_ (λy_' z_'=>D6 s f g z y_' z_'∧lx (4,0,0) (3,0,0)) (λt_' p_' h_' l_' r0_' r1_' r2_' r3_' r4_' r5_' r6_' r7_' y_' z_'=>Dv s f g z t_' p_' h_' l_' r0_' r1_' r2_' r3_' r4_' r5_' r6_' r7_' y_' z_'∧lx (3,0,0) (3,0,0)) (λt_' p_' h_' l_' r0_' r1_' r2_' r3_' r4_' r5_' r6_' r7_' c0_' c1_' c2_' c3_' c4_' c5_' c6_' c7_' i_'=>BQ s f g z t_' p_' h_' l_' r0_' r1_' r2_' r3_' r4_' r5_' r6_' r7_' c0_' c1_' c2_' c3_' c4_' c5_' c6_' c7_' i_'∧lx (2,(8-i_').toNat,0) (3,0,0)) (λr__=>r__=(Ff s f g z)) (λt_ p_ h_ l_ x0_ x1_ x2_ x3_ x4_ x5_ x6_ x7_ r_=>CB ⟨t_,p_,h_,l_,x0_,x1_,x2_,x3_,x4_,x5_,x6_,x7_⟩ ((Ff s f g z))∧r_=()):=by
 unfold Dv at hI
 unfold Aef
 try unfold D6
 try unfold Dv
 try unfold BQ
 obtain ⟨rfl,rfl,rfl⟩:=hI
 exact ⟨⟨by decide,by decide,rfl,rfl,rfl,rfl,rfl,rfl,rfl,rfl,rfl⟩,BU⟩
theorem Ak8 (s:MS) (f g z:Int) (hp0:BZ s.l) (t_ p_ h_:Int) (l_:List (Int×Int)) (r0_ r1_ r2_ r3_ r4_ r5_ r6_ r7_ c0_ c1_ c2_ c3_ c4_ c5_ c6_ c7_ i_:Int) (hI:BQ s f g z t_ p_ h_ l_ r0_ r1_ r2_ r3_ r4_ r5_ r6_ r7_ c0_ c1_ c2_ c3_ c4_ c5_ c6_ c7_ i_):i_=0∨i_=1∨i_=2∨i_=3∨i_=4∨i_=5∨i_=6∨i_=7∨i_=8:=by
 unfold BQ at hI
 omega
theorem AcQ (s:MS) (f g z:Int) (hp0:BZ s.l) (t_ p_ h_:Int) (l_:List (Int×Int)) (r0_ r1_ r2_ r3_ r4_ r5_ r6_ r7_ c0_ c1_ c2_ c3_ c4_ c5_ c6_ c7_:Int) (hI:BQ s f g z t_ p_ h_ l_ r0_ r1_ r2_ r3_ r4_ r5_ r6_ r7_ c0_ c1_ c2_ c3_ c4_ c5_ c6_ c7_ (0:Int)):XF s f g z t_ p_ h_ l_ r0_ r1_ r2_ r3_ r4_ r5_ r6_ r7_ c0_ c1_ c2_ c3_ c4_ c5_ c6_ c7_ (λy_' z_'=>D6 s f g z y_' z_'∧lx (4,0,0) (2,(8-(0:Int)).toNat,0)) (λt_' p_' h_' l_' r0_' r1_' r2_' r3_' r4_' r5_' r6_' r7_' y_' z_'=>Dv s f g z t_' p_' h_' l_' r0_' r1_' r2_' r3_' r4_' r5_' r6_' r7_' y_' z_'∧lx (3,0,0) (2,(8-(0:Int)).toNat,0)) (λt_' p_' h_' l_' r0_' r1_' r2_' r3_' r4_' r5_' r6_' r7_' c0_' c1_' c2_' c3_' c4_' c5_' c6_' c7_' i_'=>BQ s f g z t_' p_' h_' l_' r0_' r1_' r2_' r3_' r4_' r5_' r6_' r7_' c0_' c1_' c2_' c3_' c4_' c5_' c6_' c7_' i_'∧lx (2,(8-i_').toNat,0) (2,(8-(0:Int)).toNat,0)) (λr__=>r__=(Ff s f g z)) (λt_ p_ h_ l_ x0_ x1_ x2_ x3_ x4_ x5_ x6_ x7_ r_=>CB ⟨t_,p_,h_,l_,x0_,x1_,x2_,x3_,x4_,x5_,x6_,x7_⟩ ((Ff s f g z))∧r_=()):=by
 unfold BQ at hI
 unfold XF
 try unfold D6
 try unfold Dv
 try unfold BQ
 obtain ⟨_,_,hE,rfl,rfl,rfl,rfl,rfl,rfl,rfl,rfl⟩:=hI
 injection hE with e1 e2 e3 e4 f0 f1 f2 f3 f4 f5 f6 f7
 subst e1 e2 e3 e4 f0 f1 f2 f3 f4 f5 f6 f7
 refine ⟨λ_=>⟨by decide, λ_=>⟨λe=>?_, λe=>?_⟩⟩, λh=>(by cases h)⟩
 ·have e:(s.r0==f)=true:=e
  refine ⟨by decide, λ_=>⟨⟨by decide,by decide,?_,rfl,rfl,rfl,rfl,rfl,rfl,rfl,rfl⟩,BU⟩⟩
  unfold IR DX;rw [e];first|done|rfl
 ·have e:(s.r0==f)=false:=e
  refine ⟨⟨by decide,by decide,?_,rfl,rfl,rfl,rfl,rfl,rfl,rfl,rfl⟩,BU⟩
  unfold IR DX;rw [e];first|done|rfl
theorem AcR (s:MS) (f g z:Int) (hp0:BZ s.l) (t_ p_ h_:Int) (l_:List (Int×Int)) (r0_ r1_ r2_ r3_ r4_ r5_ r6_ r7_ c0_ c1_ c2_ c3_ c4_ c5_ c6_ c7_:Int) (hI:BQ s f g z t_ p_ h_ l_ r0_ r1_ r2_ r3_ r4_ r5_ r6_ r7_ c0_ c1_ c2_ c3_ c4_ c5_ c6_ c7_ (1:Int)):XG s f g z t_ p_ h_ l_ r0_ r1_ r2_ r3_ r4_ r5_ r6_ r7_ c0_ c1_ c2_ c3_ c4_ c5_ c6_ c7_ (λy_' z_'=>D6 s f g z y_' z_'∧lx (4,0,0) (2,(8-(1:Int)).toNat,0)) (λt_' p_' h_' l_' r0_' r1_' r2_' r3_' r4_' r5_' r6_' r7_' y_' z_'=>Dv s f g z t_' p_' h_' l_' r0_' r1_' r2_' r3_' r4_' r5_' r6_' r7_' y_' z_'∧lx (3,0,0) (2,(8-(1:Int)).toNat,0)) (λt_' p_' h_' l_' r0_' r1_' r2_' r3_' r4_' r5_' r6_' r7_' c0_' c1_' c2_' c3_' c4_' c5_' c6_' c7_' i_'=>BQ s f g z t_' p_' h_' l_' r0_' r1_' r2_' r3_' r4_' r5_' r6_' r7_' c0_' c1_' c2_' c3_' c4_' c5_' c6_' c7_' i_'∧lx (2,(8-i_').toNat,0) (2,(8-(1:Int)).toNat,0)) (λr__=>r__=(Ff s f g z)) (λt_ p_ h_ l_ x0_ x1_ x2_ x3_ x4_ x5_ x6_ x7_ r_=>CB ⟨t_,p_,h_,l_,x0_,x1_,x2_,x3_,x4_,x5_,x6_,x7_⟩ ((Ff s f g z))∧r_=()):=by
 unfold BQ at hI
 unfold XG
 try unfold D6
 try unfold Dv
 try unfold BQ
 obtain ⟨_,_,hE,rfl,rfl,rfl,rfl,rfl,rfl,rfl,rfl⟩:=hI
 injection hE with e1 e2 e3 e4 f0 f1 f2 f3 f4 f5 f6 f7
 subst e1 e2 e3 e4 f0 f1 f2 f3 f4 f5 f6 f7
 refine ⟨λ_=>⟨by decide, λ_=>⟨λe=>?_, λe=>?_⟩⟩, λh=>(by cases h)⟩
 ·have e:(s.r1==f)=true:=e
  refine ⟨by decide, λ_=>⟨⟨by decide,by decide,?_,rfl,rfl,rfl,rfl,rfl,rfl,rfl,rfl⟩,BU⟩⟩
  unfold IR DX;rw [e];first|done|rfl
 ·have e:(s.r1==f)=false:=e
  refine ⟨⟨by decide,by decide,?_,rfl,rfl,rfl,rfl,rfl,rfl,rfl,rfl⟩,BU⟩
  unfold IR DX;rw [e];first|done|rfl
theorem AcS (s:MS) (f g z:Int) (hp0:BZ s.l) (t_ p_ h_:Int) (l_:List (Int×Int)) (r0_ r1_ r2_ r3_ r4_ r5_ r6_ r7_ c0_ c1_ c2_ c3_ c4_ c5_ c6_ c7_:Int) (hI:BQ s f g z t_ p_ h_ l_ r0_ r1_ r2_ r3_ r4_ r5_ r6_ r7_ c0_ c1_ c2_ c3_ c4_ c5_ c6_ c7_ (2:Int)):XH s f g z t_ p_ h_ l_ r0_ r1_ r2_ r3_ r4_ r5_ r6_ r7_ c0_ c1_ c2_ c3_ c4_ c5_ c6_ c7_ (λy_' z_'=>D6 s f g z y_' z_'∧lx (4,0,0) (2,(8-(2:Int)).toNat,0)) (λt_' p_' h_' l_' r0_' r1_' r2_' r3_' r4_' r5_' r6_' r7_' y_' z_'=>Dv s f g z t_' p_' h_' l_' r0_' r1_' r2_' r3_' r4_' r5_' r6_' r7_' y_' z_'∧lx (3,0,0) (2,(8-(2:Int)).toNat,0)) (λt_' p_' h_' l_' r0_' r1_' r2_' r3_' r4_' r5_' r6_' r7_' c0_' c1_' c2_' c3_' c4_' c5_' c6_' c7_' i_'=>BQ s f g z t_' p_' h_' l_' r0_' r1_' r2_' r3_' r4_' r5_' r6_' r7_' c0_' c1_' c2_' c3_' c4_' c5_' c6_' c7_' i_'∧lx (2,(8-i_').toNat,0) (2,(8-(2:Int)).toNat,0)) (λr__=>r__=(Ff s f g z)) (λt_ p_ h_ l_ x0_ x1_ x2_ x3_ x4_ x5_ x6_ x7_ r_=>CB ⟨t_,p_,h_,l_,x0_,x1_,x2_,x3_,x4_,x5_,x6_,x7_⟩ ((Ff s f g z))∧r_=()):=by
 unfold BQ at hI
 unfold XH
 try unfold D6
 try unfold Dv
 try unfold BQ
 obtain ⟨_,_,hE,rfl,rfl,rfl,rfl,rfl,rfl,rfl,rfl⟩:=hI
 injection hE with e1 e2 e3 e4 f0 f1 f2 f3 f4 f5 f6 f7
 subst e1 e2 e3 e4 f0 f1 f2 f3 f4 f5 f6 f7
 refine ⟨λ_=>⟨by decide, λ_=>⟨λe=>?_, λe=>?_⟩⟩, λh=>(by cases h)⟩
 ·have e:(s.r2==f)=true:=e
  refine ⟨by decide, λ_=>⟨⟨by decide,by decide,?_,rfl,rfl,rfl,rfl,rfl,rfl,rfl,rfl⟩,BU⟩⟩
  unfold IR DX;rw [e];first|done|rfl
 ·have e:(s.r2==f)=false:=e
  refine ⟨⟨by decide,by decide,?_,rfl,rfl,rfl,rfl,rfl,rfl,rfl,rfl⟩,BU⟩
  unfold IR DX;rw [e];first|done|rfl
theorem AcT (s:MS) (f g z:Int) (hp0:BZ s.l) (t_ p_ h_:Int) (l_:List (Int×Int)) (r0_ r1_ r2_ r3_ r4_ r5_ r6_ r7_ c0_ c1_ c2_ c3_ c4_ c5_ c6_ c7_:Int) (hI:BQ s f g z t_ p_ h_ l_ r0_ r1_ r2_ r3_ r4_ r5_ r6_ r7_ c0_ c1_ c2_ c3_ c4_ c5_ c6_ c7_ (3:Int)):XI s f g z t_ p_ h_ l_ r0_ r1_ r2_ r3_ r4_ r5_ r6_ r7_ c0_ c1_ c2_ c3_ c4_ c5_ c6_ c7_ (λy_' z_'=>D6 s f g z y_' z_'∧lx (4,0,0) (2,(8-(3:Int)).toNat,0)) (λt_' p_' h_' l_' r0_' r1_' r2_' r3_' r4_' r5_' r6_' r7_' y_' z_'=>Dv s f g z t_' p_' h_' l_' r0_' r1_' r2_' r3_' r4_' r5_' r6_' r7_' y_' z_'∧lx (3,0,0) (2,(8-(3:Int)).toNat,0)) (λt_' p_' h_' l_' r0_' r1_' r2_' r3_' r4_' r5_' r6_' r7_' c0_' c1_' c2_' c3_' c4_' c5_' c6_' c7_' i_'=>BQ s f g z t_' p_' h_' l_' r0_' r1_' r2_' r3_' r4_' r5_' r6_' r7_' c0_' c1_' c2_' c3_' c4_' c5_' c6_' c7_' i_'∧lx (2,(8-i_').toNat,0) (2,(8-(3:Int)).toNat,0)) (λr__=>r__=(Ff s f g z)) (λt_ p_ h_ l_ x0_ x1_ x2_ x3_ x4_ x5_ x6_ x7_ r_=>CB ⟨t_,p_,h_,l_,x0_,x1_,x2_,x3_,x4_,x5_,x6_,x7_⟩ ((Ff s f g z))∧r_=()):=by
 unfold BQ at hI
 unfold XI
 try unfold D6
 try unfold Dv
 try unfold BQ
 obtain ⟨_,_,hE,rfl,rfl,rfl,rfl,rfl,rfl,rfl,rfl⟩:=hI
 injection hE with e1 e2 e3 e4 f0 f1 f2 f3 f4 f5 f6 f7
 subst e1 e2 e3 e4 f0 f1 f2 f3 f4 f5 f6 f7
 refine ⟨λ_=>⟨by decide, λ_=>⟨λe=>?_, λe=>?_⟩⟩, λh=>(by cases h)⟩
 ·have e:(s.r3==f)=true:=e
  refine ⟨by decide, λ_=>⟨⟨by decide,by decide,?_,rfl,rfl,rfl,rfl,rfl,rfl,rfl,rfl⟩,BU⟩⟩
  unfold IR DX;rw [e];first|done|rfl
 ·have e:(s.r3==f)=false:=e
  refine ⟨⟨by decide,by decide,?_,rfl,rfl,rfl,rfl,rfl,rfl,rfl,rfl⟩,BU⟩
  unfold IR DX;rw [e];first|done|rfl
theorem AcU (s:MS) (f g z:Int) (hp0:BZ s.l) (t_ p_ h_:Int) (l_:List (Int×Int)) (r0_ r1_ r2_ r3_ r4_ r5_ r6_ r7_ c0_ c1_ c2_ c3_ c4_ c5_ c6_ c7_:Int) (hI:BQ s f g z t_ p_ h_ l_ r0_ r1_ r2_ r3_ r4_ r5_ r6_ r7_ c0_ c1_ c2_ c3_ c4_ c5_ c6_ c7_ (4:Int)):XJ s f g z t_ p_ h_ l_ r0_ r1_ r2_ r3_ r4_ r5_ r6_ r7_ c0_ c1_ c2_ c3_ c4_ c5_ c6_ c7_ (λy_' z_'=>D6 s f g z y_' z_'∧lx (4,0,0) (2,(8-(4:Int)).toNat,0)) (λt_' p_' h_' l_' r0_' r1_' r2_' r3_' r4_' r5_' r6_' r7_' y_' z_'=>Dv s f g z t_' p_' h_' l_' r0_' r1_' r2_' r3_' r4_' r5_' r6_' r7_' y_' z_'∧lx (3,0,0) (2,(8-(4:Int)).toNat,0)) (λt_' p_' h_' l_' r0_' r1_' r2_' r3_' r4_' r5_' r6_' r7_' c0_' c1_' c2_' c3_' c4_' c5_' c6_' c7_' i_'=>BQ s f g z t_' p_' h_' l_' r0_' r1_' r2_' r3_' r4_' r5_' r6_' r7_' c0_' c1_' c2_' c3_' c4_' c5_' c6_' c7_' i_'∧lx (2,(8-i_').toNat,0) (2,(8-(4:Int)).toNat,0)) (λr__=>r__=(Ff s f g z)) (λt_ p_ h_ l_ x0_ x1_ x2_ x3_ x4_ x5_ x6_ x7_ r_=>CB ⟨t_,p_,h_,l_,x0_,x1_,x2_,x3_,x4_,x5_,x6_,x7_⟩ ((Ff s f g z))∧r_=()):=by
 unfold BQ at hI
 unfold XJ
 try unfold D6
 try unfold Dv
 try unfold BQ
 obtain ⟨_,_,hE,rfl,rfl,rfl,rfl,rfl,rfl,rfl,rfl⟩:=hI
 injection hE with e1 e2 e3 e4 f0 f1 f2 f3 f4 f5 f6 f7
 subst e1 e2 e3 e4 f0 f1 f2 f3 f4 f5 f6 f7
 refine ⟨λ_=>⟨by decide, λ_=>⟨λe=>?_, λe=>?_⟩⟩, λh=>(by cases h)⟩
 ·have e:(s.r4==f)=true:=e
  refine ⟨by decide, λ_=>⟨⟨by decide,by decide,?_,rfl,rfl,rfl,rfl,rfl,rfl,rfl,rfl⟩,BU⟩⟩
  unfold IR DX;rw [e];first|done|rfl
 ·have e:(s.r4==f)=false:=e
  refine ⟨⟨by decide,by decide,?_,rfl,rfl,rfl,rfl,rfl,rfl,rfl,rfl⟩,BU⟩
  unfold IR DX;rw [e];first|done|rfl
theorem AcV (s:MS) (f g z:Int) (hp0:BZ s.l) (t_ p_ h_:Int) (l_:List (Int×Int)) (r0_ r1_ r2_ r3_ r4_ r5_ r6_ r7_ c0_ c1_ c2_ c3_ c4_ c5_ c6_ c7_:Int) (hI:BQ s f g z t_ p_ h_ l_ r0_ r1_ r2_ r3_ r4_ r5_ r6_ r7_ c0_ c1_ c2_ c3_ c4_ c5_ c6_ c7_ (5:Int)):XK s f g z t_ p_ h_ l_ r0_ r1_ r2_ r3_ r4_ r5_ r6_ r7_ c0_ c1_ c2_ c3_ c4_ c5_ c6_ c7_ (λy_' z_'=>D6 s f g z y_' z_'∧lx (4,0,0) (2,(8-(5:Int)).toNat,0)) (λt_' p_' h_' l_' r0_' r1_' r2_' r3_' r4_' r5_' r6_' r7_' y_' z_'=>Dv s f g z t_' p_' h_' l_' r0_' r1_' r2_' r3_' r4_' r5_' r6_' r7_' y_' z_'∧lx (3,0,0) (2,(8-(5:Int)).toNat,0)) (λt_' p_' h_' l_' r0_' r1_' r2_' r3_' r4_' r5_' r6_' r7_' c0_' c1_' c2_' c3_' c4_' c5_' c6_' c7_' i_'=>BQ s f g z t_' p_' h_' l_' r0_' r1_' r2_' r3_' r4_' r5_' r6_' r7_' c0_' c1_' c2_' c3_' c4_' c5_' c6_' c7_' i_'∧lx (2,(8-i_').toNat,0) (2,(8-(5:Int)).toNat,0)) (λr__=>r__=(Ff s f g z)) (λt_ p_ h_ l_ x0_ x1_ x2_ x3_ x4_ x5_ x6_ x7_ r_=>CB ⟨t_,p_,h_,l_,x0_,x1_,x2_,x3_,x4_,x5_,x6_,x7_⟩ ((Ff s f g z))∧r_=()):=by
 unfold BQ at hI
 unfold XK
 try unfold D6
 try unfold Dv
 try unfold BQ
 obtain ⟨_,_,hE,rfl,rfl,rfl,rfl,rfl,rfl,rfl,rfl⟩:=hI
 injection hE with e1 e2 e3 e4 f0 f1 f2 f3 f4 f5 f6 f7
 subst e1 e2 e3 e4 f0 f1 f2 f3 f4 f5 f6 f7
 refine ⟨λ_=>⟨by decide, λ_=>⟨λe=>?_, λe=>?_⟩⟩, λh=>(by cases h)⟩
 ·have e:(s.r5==f)=true:=e
  refine ⟨by decide, λ_=>⟨⟨by decide,by decide,?_,rfl,rfl,rfl,rfl,rfl,rfl,rfl,rfl⟩,BU⟩⟩
  unfold IR DX;rw [e];first|done|rfl
 ·have e:(s.r5==f)=false:=e
  refine ⟨⟨by decide,by decide,?_,rfl,rfl,rfl,rfl,rfl,rfl,rfl,rfl⟩,BU⟩
  unfold IR DX;rw [e];first|done|rfl
theorem AcW (s:MS) (f g z:Int) (hp0:BZ s.l) (t_ p_ h_:Int) (l_:List (Int×Int)) (r0_ r1_ r2_ r3_ r4_ r5_ r6_ r7_ c0_ c1_ c2_ c3_ c4_ c5_ c6_ c7_:Int) (hI:BQ s f g z t_ p_ h_ l_ r0_ r1_ r2_ r3_ r4_ r5_ r6_ r7_ c0_ c1_ c2_ c3_ c4_ c5_ c6_ c7_ (6:Int)):XL s f g z t_ p_ h_ l_ r0_ r1_ r2_ r3_ r4_ r5_ r6_ r7_ c0_ c1_ c2_ c3_ c4_ c5_ c6_ c7_ (λy_' z_'=>D6 s f g z y_' z_'∧lx (4,0,0) (2,(8-(6:Int)).toNat,0)) (λt_' p_' h_' l_' r0_' r1_' r2_' r3_' r4_' r5_' r6_' r7_' y_' z_'=>Dv s f g z t_' p_' h_' l_' r0_' r1_' r2_' r3_' r4_' r5_' r6_' r7_' y_' z_'∧lx (3,0,0) (2,(8-(6:Int)).toNat,0)) (λt_' p_' h_' l_' r0_' r1_' r2_' r3_' r4_' r5_' r6_' r7_' c0_' c1_' c2_' c3_' c4_' c5_' c6_' c7_' i_'=>BQ s f g z t_' p_' h_' l_' r0_' r1_' r2_' r3_' r4_' r5_' r6_' r7_' c0_' c1_' c2_' c3_' c4_' c5_' c6_' c7_' i_'∧lx (2,(8-i_').toNat,0) (2,(8-(6:Int)).toNat,0)) (λr__=>r__=(Ff s f g z)) (λt_ p_ h_ l_ x0_ x1_ x2_ x3_ x4_ x5_ x6_ x7_ r_=>CB ⟨t_,p_,h_,l_,x0_,x1_,x2_,x3_,x4_,x5_,x6_,x7_⟩ ((Ff s f g z))∧r_=()):=by
 unfold BQ at hI
 unfold XL
 try unfold D6
 try unfold Dv
 try unfold BQ
 obtain ⟨_,_,hE,rfl,rfl,rfl,rfl,rfl,rfl,rfl,rfl⟩:=hI
 injection hE with e1 e2 e3 e4 f0 f1 f2 f3 f4 f5 f6 f7
 subst e1 e2 e3 e4 f0 f1 f2 f3 f4 f5 f6 f7
 refine ⟨λ_=>⟨by decide, λ_=>⟨λe=>?_, λe=>?_⟩⟩, λh=>(by cases h)⟩
 ·have e:(s.r6==f)=true:=e
  refine ⟨by decide, λ_=>⟨⟨by decide,by decide,?_,rfl,rfl,rfl,rfl,rfl,rfl,rfl,rfl⟩,BU⟩⟩
  unfold IR DX;rw [e];first|done|rfl
 ·have e:(s.r6==f)=false:=e
  refine ⟨⟨by decide,by decide,?_,rfl,rfl,rfl,rfl,rfl,rfl,rfl,rfl⟩,BU⟩
  unfold IR DX;rw [e];first|done|rfl
theorem AcX (s:MS) (f g z:Int) (hp0:BZ s.l) (t_ p_ h_:Int) (l_:List (Int×Int)) (r0_ r1_ r2_ r3_ r4_ r5_ r6_ r7_ c0_ c1_ c2_ c3_ c4_ c5_ c6_ c7_:Int) (hI:BQ s f g z t_ p_ h_ l_ r0_ r1_ r2_ r3_ r4_ r5_ r6_ r7_ c0_ c1_ c2_ c3_ c4_ c5_ c6_ c7_ (7:Int)):XM s f g z t_ p_ h_ l_ r0_ r1_ r2_ r3_ r4_ r5_ r6_ r7_ c0_ c1_ c2_ c3_ c4_ c5_ c6_ c7_ (λy_' z_'=>D6 s f g z y_' z_'∧lx (4,0,0) (2,(8-(7:Int)).toNat,0)) (λt_' p_' h_' l_' r0_' r1_' r2_' r3_' r4_' r5_' r6_' r7_' y_' z_'=>Dv s f g z t_' p_' h_' l_' r0_' r1_' r2_' r3_' r4_' r5_' r6_' r7_' y_' z_'∧lx (3,0,0) (2,(8-(7:Int)).toNat,0)) (λt_' p_' h_' l_' r0_' r1_' r2_' r3_' r4_' r5_' r6_' r7_' c0_' c1_' c2_' c3_' c4_' c5_' c6_' c7_' i_'=>BQ s f g z t_' p_' h_' l_' r0_' r1_' r2_' r3_' r4_' r5_' r6_' r7_' c0_' c1_' c2_' c3_' c4_' c5_' c6_' c7_' i_'∧lx (2,(8-i_').toNat,0) (2,(8-(7:Int)).toNat,0)) (λr__=>r__=(Ff s f g z)) (λt_ p_ h_ l_ x0_ x1_ x2_ x3_ x4_ x5_ x6_ x7_ r_=>CB ⟨t_,p_,h_,l_,x0_,x1_,x2_,x3_,x4_,x5_,x6_,x7_⟩ ((Ff s f g z))∧r_=()):=by
 unfold BQ at hI
 unfold XM
 try unfold D6
 try unfold Dv
 try unfold BQ
 obtain ⟨_,_,hE,rfl,rfl,rfl,rfl,rfl,rfl,rfl,rfl⟩:=hI
 injection hE with e1 e2 e3 e4 f0 f1 f2 f3 f4 f5 f6 f7
 subst e1 e2 e3 e4 f0 f1 f2 f3 f4 f5 f6 f7
 refine ⟨λ_=>⟨by decide, λ_=>⟨λe=>?_, λe=>?_⟩⟩, λh=>(by cases h)⟩
 ·have e:(s.r7==f)=true:=e
  refine ⟨by decide, λ_=>⟨⟨by decide,by decide,?_,rfl,rfl,rfl,rfl,rfl,rfl,rfl,rfl⟩,BU⟩⟩
  unfold IR DX;rw [e];first|done|rfl
 ·have e:(s.r7==f)=false:=e
  refine ⟨⟨by decide,by decide,?_,rfl,rfl,rfl,rfl,rfl,rfl,rfl,rfl⟩,BU⟩
  unfold IR DX;rw [e];first|done|rfl
theorem AcY (s:MS) (f g z:Int) (hp0:BZ s.l) (t_ p_ h_:Int) (l_:List (Int×Int)) (r0_ r1_ r2_ r3_ r4_ r5_ r6_ r7_ c0_ c1_ c2_ c3_ c4_ c5_ c6_ c7_:Int) (hI:BQ s f g z t_ p_ h_ l_ r0_ r1_ r2_ r3_ r4_ r5_ r6_ r7_ c0_ c1_ c2_ c3_ c4_ c5_ c6_ c7_ (8:Int)):XN s f g z t_ p_ h_ l_ r0_ r1_ r2_ r3_ r4_ r5_ r6_ r7_ c0_ c1_ c2_ c3_ c4_ c5_ c6_ c7_ (λy_' z_'=>D6 s f g z y_' z_'∧lx (4,0,0) (2,(8-(8:Int)).toNat,0)) (λt_' p_' h_' l_' r0_' r1_' r2_' r3_' r4_' r5_' r6_' r7_' y_' z_'=>Dv s f g z t_' p_' h_' l_' r0_' r1_' r2_' r3_' r4_' r5_' r6_' r7_' y_' z_'∧lx (3,0,0) (2,(8-(8:Int)).toNat,0)) (λt_' p_' h_' l_' r0_' r1_' r2_' r3_' r4_' r5_' r6_' r7_' c0_' c1_' c2_' c3_' c4_' c5_' c6_' c7_' i_'=>BQ s f g z t_' p_' h_' l_' r0_' r1_' r2_' r3_' r4_' r5_' r6_' r7_' c0_' c1_' c2_' c3_' c4_' c5_' c6_' c7_' i_'∧lx (2,(8-i_').toNat,0) (2,(8-(8:Int)).toNat,0)) (λr__=>r__=(Ff s f g z)) (λt_ p_ h_ l_ x0_ x1_ x2_ x3_ x4_ x5_ x6_ x7_ r_=>CB ⟨t_,p_,h_,l_,x0_,x1_,x2_,x3_,x4_,x5_,x6_,x7_⟩ ((Ff s f g z))∧r_=()):=by
 unfold BQ at hI
 unfold XN
 try unfold D6
 try unfold Dv
 try unfold BQ
 obtain ⟨_,_,hE,_⟩:=hI
 exact ⟨λh=>(by cases h), λ_=>⟨hE,rfl⟩⟩
theorem AlO:DZ 59 Aho:=
 EX Dg Gx false Td (I:=[1006900,2999998,427000000000,427000000001,427000000002,427000000033,427000000034]) Try.func59 mix (B:=AY Try.f59) (by kernel_rfl) rfl (by kernel_rfl) 400
  λo s f g z hb hp=>have hp0:BZ s.l:=hp _ (.head _);⟨s,(Ff s f g z),(),[⟨some 900,[0,1],[.code [1,1]],[0,1,2,3,8],[.objk D5 ⟨o,0,none⟩ (s), .ic .i64 (f), .ic .i64 (g), .ic .i64 (z), .box 55 [.i .i64, .i .i64]]⟩,⟨some 900,[0,1],[.code [1,1]],[0,1,2,3,8],[.boxc o Dq.t Dq.l, .ic .i64 (f), .ic .i64 (g), .ic .i64 (z), .box 55 [.i .i64, .i .i64]]⟩,⟨none,[0,1,1,1,1],[.blk 0],[0,1,2,33,34],[.boxc o Dq.t Dq.l, .ic .i64 (f), .ic .i64 (g), .agg [.i .i64, .i .i64, .i .i64, .i .i64, .i .i64, .i .i64, .i .i64, .i .i64], .i .i64]⟩],[.opn 0 (λ_=>o) 1, .run, .run], λj=>iM [Ak (Hd.kd (⟨some 900,[0,1],[.code [1,1]],[0,1,2,3,8],[.objk D5 ⟨o,0,none⟩ (s), .ic .i64 (f), .ic .i64 (g), .ic .i64 (z), .box 55 [.i .i64, .i .i64]]⟩:Hd Sg)) (λy_' z_'=>D6 s f g z y_' z_'),Ak (Hd.kd (⟨some 900,[0,1],[.code [1,1]],[0,1,2,3,8],[.boxc o Dq.t Dq.l, .ic .i64 (f), .ic .i64 (g), .ic .i64 (z), .box 55 [.i .i64, .i .i64]]⟩:Hd Sg)) (λt_' p_' h_' l_' r0_' r1_' r2_' r3_' r4_' r5_' r6_' r7_' y_' z_'=>Dv s f g z t_' p_' h_' l_' r0_' r1_' r2_' r3_' r4_' r5_' r6_' r7_' y_' z_'),Ak (Hd.kd (⟨none,[0,1,1,1,1],[.blk 0],[0,1,2,33,34],[.boxc o Dq.t Dq.l, .ic .i64 (f), .ic .i64 (g), .agg [.i .i64, .i .i64, .i .i64, .i .i64, .i .i64, .i .i64, .i .i64, .i .i64], .i .i64]⟩:Hd Sg)) (λt_' p_' h_' l_' r0_' r1_' r2_' r3_' r4_' r5_' r6_' r7_' c0_' c1_' c2_' c3_' c4_' c5_' c6_' c7_' i_'=>BQ s f g z t_' p_' h_' l_' r0_' r1_' r2_' r3_' r4_' r5_' r6_' r7_' c0_' c1_' c2_' c3_' c4_' c5_' c6_' c7_' i_')] j (λ_=>False), λj=>iM [Ak (Hd.kd (⟨some 900,[0,1],[.code [1,1]],[0,1,2,3,8],[.objk D5 ⟨o,0,none⟩ (s), .ic .i64 (f), .ic .i64 (g), .ic .i64 (z), .box 55 [.i .i64, .i .i64]]⟩:Hd Sg)) (λy_' z_'=>(4,0,0)),Ak (Hd.kd (⟨some 900,[0,1],[.code [1,1]],[0,1,2,3,8],[.boxc o Dq.t Dq.l, .ic .i64 (f), .ic .i64 (g), .ic .i64 (z), .box 55 [.i .i64, .i .i64]]⟩:Hd Sg)) (λt_' p_' h_' l_' r0_' r1_' r2_' r3_' r4_' r5_' r6_' r7_' y_' z_'=>(3,0,0)),Ak (Hd.kd (⟨none,[0,1,1,1,1],[.blk 0],[0,1,2,33,34],[.boxc o Dq.t Dq.l, .ic .i64 (f), .ic .i64 (g), .agg [.i .i64, .i .i64, .i .i64, .i .i64, .i .i64, .i .i64, .i .i64, .i .i64], .i .i64]⟩:Hd Sg)) (λt_' p_' h_' l_' r0_' r1_' r2_' r3_' r4_' r5_' r6_' r7_' c0_' c1_' c2_' c3_' c4_' c5_' c6_' c7_' i_'=>(2,(8-i_').toNat,0))] j (λ_=>(0,0,0)),by kernel_rfl, λ_ _=>by kernel_rfl,by kernel_rfl,⟨_, λ_ _ _=>by kernel_rfl,Ahq s f g z hp0⟩,⟨λy_ z_ hI=>⟨s, λ_=>by kernel_rfl, λt_ p_ h_ l_ x0_ x1_ x2_ x3_ x4_ x5_ x6_ x7_ hx=>⟨_, λ_ _=>by kernel_rfl,Ahr s f g z hp0 y_ z_ t_ p_ h_ l_ x0_ x1_ x2_ x3_ x4_ x5_ x6_ x7_ hI hx⟩⟩,⟨λt_ p_ h_ l_ r0_ r1_ r2_ r3_ r4_ r5_ r6_ r7_ y_ z_ hI=>⟨_, λ_ _ _=>by kernel_rfl,Ahs s f g z hp0 t_ p_ h_ l_ r0_ r1_ r2_ r3_ r4_ r5_ r6_ r7_ y_ z_ hI⟩,⟨λt_ p_ h_ l_ r0_ r1_ r2_ r3_ r4_ r5_ r6_ r7_ c0_ c1_ c2_ c3_ c4_ c5_ c6_ c7_ i_ hI=>(by
   rcases Ak8 s f g z hp0 t_ p_ h_ l_ r0_ r1_ r2_ r3_ r4_ r5_ r6_ r7_ c0_ c1_ c2_ c3_ c4_ c5_ c6_ c7_ i_ hI with rfl|rfl|rfl|rfl|rfl|rfl|rfl|rfl|rfl
   ·exact ⟨_, λ_ _ _=>by kernel_rfl,AcQ s f g z hp0 t_ p_ h_ l_ r0_ r1_ r2_ r3_ r4_ r5_ r6_ r7_ c0_ c1_ c2_ c3_ c4_ c5_ c6_ c7_ hI⟩
   ·exact ⟨_, λ_ _ _=>by kernel_rfl,AcR s f g z hp0 t_ p_ h_ l_ r0_ r1_ r2_ r3_ r4_ r5_ r6_ r7_ c0_ c1_ c2_ c3_ c4_ c5_ c6_ c7_ hI⟩
   ·exact ⟨_, λ_ _ _=>by kernel_rfl,AcS s f g z hp0 t_ p_ h_ l_ r0_ r1_ r2_ r3_ r4_ r5_ r6_ r7_ c0_ c1_ c2_ c3_ c4_ c5_ c6_ c7_ hI⟩
   ·exact ⟨_, λ_ _ _=>by kernel_rfl,AcT s f g z hp0 t_ p_ h_ l_ r0_ r1_ r2_ r3_ r4_ r5_ r6_ r7_ c0_ c1_ c2_ c3_ c4_ c5_ c6_ c7_ hI⟩
   ·exact ⟨_, λ_ _ _=>by kernel_rfl,AcU s f g z hp0 t_ p_ h_ l_ r0_ r1_ r2_ r3_ r4_ r5_ r6_ r7_ c0_ c1_ c2_ c3_ c4_ c5_ c6_ c7_ hI⟩
   ·exact ⟨_, λ_ _ _=>by kernel_rfl,AcV s f g z hp0 t_ p_ h_ l_ r0_ r1_ r2_ r3_ r4_ r5_ r6_ r7_ c0_ c1_ c2_ c3_ c4_ c5_ c6_ c7_ hI⟩
   ·exact ⟨_, λ_ _ _=>by kernel_rfl,AcW s f g z hp0 t_ p_ h_ l_ r0_ r1_ r2_ r3_ r4_ r5_ r6_ r7_ c0_ c1_ c2_ c3_ c4_ c5_ c6_ c7_ hI⟩
   ·exact ⟨_, λ_ _ _=>by kernel_rfl,AcX s f g z hp0 t_ p_ h_ l_ r0_ r1_ r2_ r3_ r4_ r5_ r6_ r7_ c0_ c1_ c2_ c3_ c4_ c5_ c6_ c7_ hI⟩
   ·exact ⟨_, λ_ _ _=>by kernel_rfl,AcY s f g z hp0 t_ p_ h_ l_ r0_ r1_ r2_ r3_ r4_ r5_ r6_ r7_ c0_ c1_ c2_ c3_ c4_ c5_ c6_ c7_ hI⟩),trivial⟩⟩⟩⟩
def Aht:Tb:=(59,Aho)::AaB
theorem XO:DU Aht:=Ej AlO Td
end
end Go.Proofs.Ytdjfnbbmfmjckaa
