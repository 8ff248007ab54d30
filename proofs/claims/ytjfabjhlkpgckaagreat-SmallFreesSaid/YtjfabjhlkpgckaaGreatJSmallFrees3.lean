/-
  DERIVED. Part 3 of the texts of this claim.
-/
import Derived.Test.YtjfabjhlkpgckaaGreatJSmallFrees2
import Derived.Test.YtjfabjhlkpgckaaGreatProg
set_option linter.unusedSimpArgs false
set_option linter.unusedVariables false
open Go.IntKind renaming wrap → iA, i64 → iB, u32 → iO
open List renaming length → iC, getD → iE, getD_eq_getElem?_getD → iI, map_cons → iM, mem_cons → iN, getElem?_append_left → iQ, getElem?_eq_getElem → iR, getElem?_append_right → iS, getElem?_map → iV, length_append → jA, getElem?_set_self → jC, map_append → jD, getElem?_set_ne → jE, getElem?_eq_none → jG, append_assoc → jJ, length_cons → jK, mem_singleton → jL, cons_append → jM, length_map → jR, length_take → jT, replicate → jU, length_singleton → jW, mem_append → jX
open Go.Value renaming slice → iD, pointer → iT, int → iZ
open Prod renaming fst → iF, snd → iH
open Option.some renaming injEq → iG
open Int renaming toNat → iJ, toNat_natCast → jP, mul_le_mul_of_nonneg_right → jZ
open Bool renaming and_eq_true → iK, not_eq_true' → jB, not_eq_false' → jF, or_eq_false_iff → jI, not_true → jO, true_and → jV, false_or → jY
open Nat renaming eq_of_beq_eq_true → iL, le_of_ble_eq_true → iW, lt_or_ge → jH, zero_add → jS
open BitVec renaming ofInt → iP, toNat → jN
open Prod.mk renaming injEq → iU
open Option renaming map_some → iX, map → iY
open List.cons renaming injEq → jQ
namespace Go.Sl
section
open Go.RowKit
variable {σ:Type}
structure Hd (σ:Type) where
 ops:Option Nat
 p:List Nat
 td:List Ab
 slots:List Nat
 shs:List (Sh σ)
def Hd.tds (h:Hd σ):List Ab:=
 match h.ops with
 |none=> .code (0::h.p):: .again h.p::h.td
 |some i=>bif Nat.beq i 900 then .code h.p::h.td else .ops h.p i::h.td
def Hd.stp (h:Hd σ) (I:List Nat):List Nat:=
 match h.ops with
 |none=>I
 |some i=>I.filter λx=>!(Nat.beq x (stopC h.p i))
def entsOf:List Nat→List (Tp σ)→List Ent
 |s::ss,t::ts=>⟨s,none,t.v,t.p⟩::entsOf ss ts
 |_,_=>[]
def Hd.L (h:Hd σ) (ad:Nat→Ad) (cs:List (Cm σ)):List Ent:=entsOf h.slots (tps ad h.shs 0 0 cs)
def Hd.K (h:Hd σ) (ad:Nat→Ad) (cs:List (Cm σ)):List (Chunk σ):=tpK (tps ad h.shs 0 0 cs)
@[reducible] def Hd.kd (h:Hd σ):List (Kd σ):=kds h.shs
def isNil (v:Value) (p:Pr):Bool:=
 match p with
 | .no=>match v with
   | .slice none 0 0=>true
   |_=>false
 |_=>false
def nilCells (k:Nat):Nat→List (Sh σ)→List (Chunk σ)→List (Chunk σ)
 |off, .own t ks::l,K=>match K[k]? with
  |some (.cells _ _ cs)=>match cs[off]? with
   |some x=>bif isNil x.1 x.2&&nilRow (σ:=σ) (.row none t 0 0 (colsOf (σ:=σ) ks [])) then nilCells k (off+1) l (setNilC K k off++[.row none t 0 0 (colsOf (σ:=σ) ks [])]) else nilCells k (off+1) l K
   |_=>nilCells k (off+1) l K
  |_=>nilCells k (off+1) l K
 |off, .ro ks::l,K=>bif isFzK ks then (match K[k]? with
  |some (.cells _ _ cs)=>match cs[off]? with
   |some x=>match x.2 with
    | .pt k' .slice=>nilCells k (off+1) l (fzAt K k')
    |_=>bif isNil x.1 x.2 then nilCells k (off+1) l (fzAt (setNilC K k off++[.row none 0 0 0 [.ints .i64 []]]) (setNilC K k off).length) else nilCells k (off+1) l K
   |_=>nilCells k (off+1) l K
  |_=>nilCells k (off+1) l K) else nilCells k (off+1) l K
 |off,_::l,K=>nilCells k (off+1) l K
 |_,[],K=>K
def nil1 (s:Nat) (sh:Sh σ) (L:List Ent) (K:List (Chunk σ)):List Ent×List (Chunk σ):=
 match sh with
 | .own t ks=>match look L s with
   |some e=>bif isNil e.v e.p&&nilRow (σ:=σ) (.row none t 0 0 (colsOf (σ:=σ) ks [])) then (setNil s K.length L,K++[.row none t 0 0 (colsOf (σ:=σ) ks [])]) else (L,K)
   |_=>(L,K)
 | .ro ks=>bif isFzK ks then (match look L s with
   |some e=>match e.p with
    | .pt k .slice=>(L,fzAt K k)
    |_=>bif isNil e.v e.p then (setNil s K.length L,fzAt (K++[.row none 0 0 0 [.ints .i64 []]]) K.length) else (L,K)
   |_=>(L,K)) else (L,K)
 | .box _ l=>match look L s with
   |some e=>match e.p with
    | .pt k (.cell 0)=>(L,nilCells k 0 l K)
    |_=>(L,K)
   |_=>(L,K)
 |_=>(L,K)
def nils:List Nat→List (Sh σ)→List Ent→List (Chunk σ)→List Ent×List (Chunk σ)
 |s::ss,sh::shs,L,K=>match nil1 s sh L K with
  |(L',K')=>nils ss shs L' K'
 |_,_,L,K=>(L,K)
def vsAt (L:List Ent):List Nat→List Value
 |[]=>[]
 |s::r=>(match look L s with|some e=>e.v|none=>undef)::vsAt L r
def psAt (L:List Ent):List Nat→List Pr
 |[]=>[]
 |s::r=>(match look L s with|some e=>e.p|none=> .no)::psAt L r
def eqNs:List Nat→List Nat→Bool
 |[],[]=>true
 |a::r,b::s=>Nat.beq a b&&eqNs r s
 |_,_=>false
def Hd.at (h:Hd σ) (td:List Ab):Bool:=
 match h.ops,td with
 |none, .code q::_=>eqNs h.p q
 |none, .again q::_=>eqNs h.p q
 |some i, .ops q k::_=>eqNs h.p q&&Nat.beq i k
 |some i, .code q::_=>Nat.beq i 900&&eqNs h.p q
 |_,_=>false
def Hd.leafTd (h:Hd σ) (td:List Ab):List Ab:=
 match h.ops,td with
 |some i,_=>bif Nat.beq i 900 then .code h.p::h.td else .ops h.p i::h.td
 |none, .again _::_=> .again h.p::h.td
 |none,_=> .code h.p::h.td
def findH:List (Hd σ)→Nat→List Ab→Option (Nat×Hd σ)
 |[],_,_=>none
 |h::r,j,td=>bif h.at td then some (j,h) else findH r (j+1) td
theorem findH_get:∀{hs:List (Hd σ)} {m:Nat} {td:List Ab} {j:Nat} {h:Hd σ},findH hs m td=some (j,h)→∃i,j=m+i∧hs[i]? =some h
 |[],_,_,_,_,h=>by simp [findH] at h
 |h0::r,m,td,j,h,he=>by
  simp only [findH] at he
  cases hb:h0.at td with
  |true=>rw [hb] at he;simp at he;exact ⟨0,by omega,by simp [he.2]⟩
  |false=>
   rw [hb] at he
   obtain ⟨i,h1,h2⟩:=findH_get (by simpa using he)
   exact ⟨i+1,by omega,by simpa using h2⟩
def Hd.dec (h:Hd σ) (L:List Ent) (K:List (Chunk σ)):Dc σ:=dcs K h.shs (vsAt L h.slots) (psAt L h.slots)
def hdL (h:Hd σ) (td:List Ab) (L:List Ent) (K:List (Chunk σ)):Ob σ:=
 ⟨td,undef,renL (fixIs 0 (h.dec L K).is) (pickL h.slots L),(renK (fixIs 0 (h.dec L K).is) K).map some⟩
def hdR (h:Hd σ) (td:List Ab) (L:List Ent) (K:List (Chunk σ)):Ob σ:=
 ⟨h.leafTd td,undef,h.L (adF (h.dec L K).ad) (h.dec L K).cs,(h.K (adF (h.dec L K).ad) (h.dec L K).cs).map some⟩
def soL (hs:List (Hd σ)) (td:List Ab) (L:List Ent) (K:List (Chunk σ)):Ob σ:=
 match findH hs 0 td with
 |none=>⟨[],undef,[],[]⟩
 |some (_,h)=>match nils h.slots h.shs L K with
  |(L',K')=>hdL h td L' K'
def soR (hs:List (Hd σ)) (td:List Ab) (L:List Ent) (K:List (Chunk σ)):Ob σ:=
 match findH hs 0 td with
 |none=>⟨[],undef,[],[]⟩
 |some (_,h)=>match nils h.slots h.shs L K with
  |(L',K')=>hdR h td L' K'
def soB (hs:List (Hd σ)) (td:List Ab) (L:List Ent) (K:List (Chunk σ)):Bool:=
 match findH hs 0 td with
 |none=>true
 |some (_,h)=>match nils h.slots h.shs L K with
  |(L',K')=>nodupB (fixIs 0 (h.dec L' K').is)&&fitsC h.kd (h.dec L' K').cs
def soQ (hs:List (Hd σ)) (Q:Nat→List (Cm σ)→Prop) (td:List Ab) (L:List Ent) (K:List (Chunk σ)):Prop:=
 match findH hs 0 td with
 |none=>False
 |some (j,h)=>match nils h.slots h.shs L K with
  |(L',K')=>Q j (h.dec L' K').cs
def hcode (B:Code):List (Hd σ)→List Code
 |[]=>[]
 |h::r=>(match h.ops with
  |none=>sub B h.p
  |some _=> .skip)::hcode B r
def hcode' (B:Code):List (Hd σ)→List Code
 |[]=>[]
 |h::r=>(match h.ops with
  |none=> .loop (sub B (0::h.p))
  |some _=> .skip)::hcode' B r
theorem hcode_get {B:Code}:∀{hs:List (Hd σ)} {j:Nat} {h:Hd σ},hcode B hs=hcode' B hs→hs[j]? =some h→h.ops=none→Code.loop (sub B (0::h.p))=sub B h.p
 |[],_,_,_,h,_=>by simp at h
 |h0::r,0,h,he,hg,ho=>by
  simp at hg;subst hg
  simp only [hcode,hcode',jQ] at he
  rw [ho] at he
  exact he.1.symm
 |h0::r,j+1,h,he,hg,ho=>by
  simp only [hcode,hcode',jQ] at he
  exact hcode_get he.2 (by simpa using hg) ho
variable (D:Addr→σ→Asn)
section
variable {P:Program} {f:FuncId} {R:Ending→World→Prop} {B:Code} {n:Nat} {E:Ev} {G:Hp} {td:List Ab}
theorem nilCells_ok {k:Nat} {L:List Ent}:∀(l:List (Sh σ)) (off:Nat) (K:List (Chunk σ)),SW D P f R B n E G td L (nilCells k off l K)→SW D P f R B n E G td L K
 |[],_,_,h=>by simpa [nilCells] using h
 |s::l,off,K,h=>by
  cases s with
  |own t ks=>
   simp only [nilCells] at h
   split at h
   ·split at h
    ·rename_i x _
     cases hn:(isNil x.1 x.2&&nilRow (σ:=σ) (.row none t 0 0 (colsOf (σ:=σ) ks []))) with
     |true=>rw [hn] at h;simp only [iK] at hn;exact SW.nilc D k off t _ hn.2 (nilCells_ok l _ _ h)
     |false=>rw [hn] at h;exact nilCells_ok l _ _ h
    ·exact nilCells_ok l _ _ h
   ·exact nilCells_ok l _ _ h
  |ro ks=>
   simp only [nilCells] at h
   cases hz:isFzK ks with
   |false=>rw [hz] at h;exact nilCells_ok l _ _ h
   |true=>
    rw [hz] at h
    simp only [cond_true] at h
    split at h
    ·split at h
     ·rename_i x _
      split at h
      ·exact SW.fzAt D _ (nilCells_ok l _ _ h)
      ·cases hn:isNil x.1 x.2 with
       |true=>rw [hn] at h;exact SW.nilc D k off 0 [.ints .i64 []] rfl (SW.fzAt D _ (nilCells_ok l _ _ h))
       |false=>rw [hn] at h;exact nilCells_ok l _ _ h
     ·exact nilCells_ok l _ _ h
    ·exact nilCells_ok l _ _ h
  |_=>simp only [nilCells] at h;exact nilCells_ok l _ _ h
theorem nil1_ok {s:Nat} {sh:Sh σ} {L L':List Ent} {K K':List (Chunk σ)} (he:nil1 s sh L K=(L',K')) (h:SW D P f R B n E G td L' K'):SW D P f R B n E G td L K:=by
 unfold nil1 at he
 split at he
 ·rename_i t ks
  split at he
  ·rename_i e _
   cases hn:(isNil e.v e.p&&nilRow (σ:=σ) (.row none t 0 0 (colsOf (σ:=σ) ks []))) with
   |true=>rw [hn] at he;simp at he;rw [←he.1,←he.2] at h;simp only [iK] at hn;exact SW.nil D s t _ hn.2 h
   |false=>rw [hn] at he;simp at he;rw [←he.1,←he.2] at h;exact h
  ·simp at he;rw [←he.1,←he.2] at h;exact h
 ·rename_i ks
  cases hz:isFzK ks with
  |false=>rw [hz] at he;simp at he;rw [←he.1,←he.2] at h;exact h
  |true=>
   rw [hz] at he
   simp only [cond_true] at he
   split at he
   ·rename_i e _
    split at he
    ·simp at he;rw [←he.1,←he.2] at h;exact SW.fzAt D _ h
    ·cases hn:isNil e.v e.p with
     |true=>rw [hn] at he;simp at he;rw [←he.1,←he.2] at h;exact SW.nil D s 0 [.ints .i64 []] rfl (SW.fzAt D _ h)
     |false=>rw [hn] at he;simp at he;rw [←he.1,←he.2] at h;exact h
   ·simp at he;rw [←he.1,←he.2] at h;exact h
 ·split at he
  ·split at he
   ·simp at he;rw [←he.1,←he.2] at h;exact nilCells_ok D _ _ _ h
   ·simp at he;rw [←he.1,←he.2] at h;exact h
  ·simp at he;rw [←he.1,←he.2] at h;exact h
 ·simp at he;rw [←he.1,←he.2] at h;exact h
theorem nils_ok:∀{ss:List Nat} {shs:List (Sh σ)} {L L':List Ent} {K K':List (Chunk σ)},nils ss shs L K=(L',K')→SW D P f R B n E G td L' K'→SW D P f R B n E G td L K
 |[],_,L,L',K,K',he,h=>by simp only [nils,iU] at he;rw [←he.1,←he.2] at h;exact h
 |_::_,[],L,L',K,K',he,h=>by simp only [nils,iU] at he;rw [←he.1,←he.2] at h;exact h
 |s::ss,sh::shs,L,L',K,K',he,h=>by
  simp only [nils] at he
  cases e:nil1 s sh L K with
  |mk L1 K1=>rw [e] at he;exact nil1_ok D e (nils_ok he h)
theorem soQ_ok {hs:List (Hd σ)} {Q:Nat→List (Cm σ)→Prop} {L:List Ent} {K:List (Chunk σ)} (hc:hcode B hs=hcode' B hs) (he:soL hs td L K=soR hs td L K) (hb:soB hs td L K=true) (hq:soQ hs Q td L K)
 (H:∀j h,hs[j]? =some h→∀cs,fitsC h.kd cs=true→Q j cs→∀ad,SW D P f R B n E G h.tds (h.L ad cs) (h.K ad cs)):SW D P f R B n E G td L K:=by
 unfold soL soR at he
 unfold soB at hb
 unfold soQ at hq
 cases hf:findH hs 0 td with
 |none=>rw [hf] at hq;exact hq.elim
 |some x=>
  obtain ⟨j,h⟩:=x
  rw [hf] at he hb hq
  dsimp only at he hb hq
  obtain ⟨i,hi,hg⟩:=findH_get hf
  rw [jS] at hi
  subst hi
  cases en:nils h.slots h.shs L K with
  |mk L1 K1=>
   rw [en] at he hb hq
   dsimp only at he hb hq
   simp only [iK] at hb
   simp only [hdL,hdR,Ob.mk.injEq] at he
   have hK:renK (fixIs 0 (h.dec L1 K1).is) K1=h.K (adF (h.dec L1 K1).ad) (h.dec L1 K1).cs:=by
    have:=he.2.2.2
    exact (List.map_inj_right (λ_ _ h=>Option.some.inj h)).1 this
   have hsw:=H _ h hg (h.dec L1 K1).cs hb.2 hq (adF (h.dec L1 K1).ad)
   refine nils_ok D en (SW.move D h.slots (fixIs 0 (h.dec L1 K1).is) (nodupB_ok hb.1) he.2.2.1 hK ?_)
   rw [he.1]
   unfold Hd.leafTd
   unfold Hd.tds at hsw
   cases ho:h.ops with
   |some i=>rw [ho] at hsw;exact hsw
   |none=>
    rw [ho] at hsw
    have hcd:=hcode_get hc hg ho
    split
    ·rename_i e;cases e
    ·exact SW.again D hsw
    ·exact SW.enter D hcd hsw
end
def lx (x y:Nat×Nat×Nat):Prop:=x.1<y.1∨(x.1=y.1∧(x.2.1<y.2.1∨(x.2.1=y.2.1∧x.2.2<y.2.2)))
theorem lx_rec {C:Nat×Nat×Nat→Prop} (h:∀x,(∀y,lx y x→C y)→C x):∀x,C x:=by
 have h3:∀a,(∀a',a'<a→∀b c,C (a',b,c))→∀b,(∀b',b'<b→∀c,C (a,b',c))→∀c,C (a,b,c):=by
  intro a ha b hb c
  induction c using Nat.strongRecOn with
  |_ c ih=>
   refine h _ λy hy=>?_
   obtain ⟨y1,y2,y3⟩:=y
   rcases hy with hy|⟨e,hy|⟨e2,hy⟩⟩
   ·exact ha _ hy _ _
   ·simp only at e hy;subst e;exact hb _ hy _
   ·simp only at e e2 hy;subst e;subst e2;exact ih _ hy
 have h2:∀a,(∀a',a'<a→∀b c,C (a',b,c))→∀b c,C (a,b,c):=by
  intro a ha b
  induction b using Nat.strongRecOn with
  |_ b ih=>exact h3 a ha b ih
 have h1:∀a b c,C (a,b,c):=by
  intro a
  induction a using Nat.strongRecOn with
  |_ a ih=>exact h2 a ih
 exact λx=>h1 x.1 x.2.1 x.2.2
abbrev SmW (σ:Type):=Prop×List (Ob σ)×Bool
def Ct.lhsW (c:Ct σ) (p0:Addr) (cs:List (Cm σ)) (hs:List (Hd σ)) (R:Ty c.RK→Prop) (Q:Nat→List (Cm σ)→Prop) (t:Tree σ) (β:BF) (γ:GF):SmW σ:=
 (t.wp (λv p K=>R (c.retR v p K)) (soQ hs Q) β γ,t.obl (c.roL p0 cs) (soL hs) β γ,t.okb (c.rob_ p0 cs) (soB hs) β γ)
def Ct.rhsW (c:Ct σ) (p0:Addr) (cs:List (Cm σ)) (hs:List (Hd σ)) (t:Tree σ) (W:Prop) (β:BF) (γ:GF):SmW σ:=
 (W,t.obl (c.roR p0 cs) (soR hs) β γ,true)
theorem wp_tree {c:Ct σ} {p0:Addr} {cs:List (Cm σ)} {hs:List (Hd σ)} {r0:Ty c.RK} {Q:Nat→List (Cm σ)→Prop} {t:Tree σ} {W:Prop} (h:∀β γ,c.lhsW p0 cs hs (λr=>r=r0) Q t β γ=c.rhsW p0 cs hs t W β γ) (hW:W)
 {P:Program} {f:FuncId} {R:Ending→World→Prop} {B:Code} {n:Nat} {E:Ev} {G:Hp} (hc:hcode B hs=hcode' B hs) (H:∀j h,hs[j]? =some h→∀x,fitsC h.kd x=true→Q j x→∀ad,SW D P f R B n E G h.tds (h.L ad x) (h.K ad x)):
 t.holds (RetOk (c.outC r0) (c.nwC p0 cs r0) (c.mksC r0)) (SW D P f R B n E G):=by
 refine Tree.wp_holds (RQ:= λv p K=>c.retR v p K=r0) (SQ:=soQ hs Q) (roL:=c.roL p0 cs) (roR:=c.roR p0 cs) (soL:=soL hs) (soR:=soR hs) (rb:=c.rob_ p0 cs) (sb:=soB hs)
  (λv p K h1 h2 h3=>by have:=Ct.ret_ok h1 h2;rw [h3] at this;exact this) (λtd L K h1 h2 h3=>soQ_ok D hc h1 h2 h3 H) t (λβ γ=>?_) (λβ γ=>congrArg (·.2.1) (h β γ)) (λβ γ=>congrArg (·.2.2) (h β γ))
 have:t.wp (λv p K=>c.retR v p K=r0) (soQ hs Q) β γ=W:=congrArg (·.1) (h β γ)
 rw [this];exact hW
def stepsC (c:Ct σ) (P:Program) (T:List (Nat×Entry σ)) (I:List Nat) (fuel:Nat) (fn:Func) (B:Code) (p0:Addr) (cs:List (Cm σ)) (hs:List (Hd σ)) (r0:Ty c.RK) (Inv:Nat→List (Cm σ)→Prop) (ms:Nat→List (Cm σ)→Nat×Nat×Nat):List (Hd σ)→Nat→Prop
 |[],_=>True
 |h::r,j=>(AllC h.kd λx=>Inv j x→∃W:Prop,(∀ad β γ,c.lhsW p0 cs hs (λr=>r=r0) (λj' x'=>Inv j' x'∧lx (ms j' x') (ms j x)) (run P T (h.stp I) fuel B fn.results.toList fn.ntmps h.tds (h.L ad x) (h.K ad x)) β γ=
   c.rhsW p0 cs hs (run P T (h.stp I) fuel B fn.results.toList fn.ntmps h.tds (h.L ad x) (h.K ad x)) W β γ)∧W)∧stepsC c P T I fuel fn B p0 cs hs r0 Inv ms r (j+1)
theorem stepsC_get {c:Ct σ} {P:Program} {T:List (Nat×Entry σ)} {I:List Nat} {fuel:Nat} {fn:Func} {B:Code} {p0:Addr} {cs:List (Cm σ)} {hs:List (Hd σ)} {r0:Ty c.RK} {Inv:Nat→List (Cm σ)→Prop} {ms:Nat→List (Cm σ)→Nat×Nat×Nat}:∀{l:List (Hd σ)} {m:Nat} {i:Nat} {h:Hd σ},stepsC c P T I fuel fn B p0 cs hs r0 Inv ms l m→l[i]? =some h→
 AllC h.kd λx=>Inv (m+i) x→∃W:Prop,(∀ad β γ,c.lhsW p0 cs hs (λr=>r=r0) (λj' x'=>Inv j' x'∧lx (ms j' x') (ms (m+i) x)) (run P T (h.stp I) fuel B fn.results.toList fn.ntmps h.tds (h.L ad x) (h.K ad x)) β γ=
  c.rhsW p0 cs hs (run P T (h.stp I) fuel B fn.results.toList fn.ntmps h.tds (h.L ad x) (h.K ad x)) W β γ)∧W
 |[],_,_,_,_,h=>by simp at h
 |h0::r,m,0,h,hs,hg=>by simp at hg;subst hg;exact hs.1
 |h0::r,m,i+1,h,hs,hg=>by
  have:=stepsC_get hs.2 (i:=i) (by simpa using hg)
  rw [show m+1+i=m+(i+1) by omega] at this
  exact this
theorem ent_wp {c:Ct σ} {P:Program} {T:List (Nat×Entry σ)} (hT:TableOk D P T) {I:List Nat} {f:FuncId} {fn:Func} {B:Code} (hfn:P.funcs[f]? =some fn) (hmix:P.follows .mixedOrders=true) (hB:fn.body=some B)
 (ha:isArgs c.ash=true) (hl:Nat.ble c.full.length fn.ntmps=true) {F:Cur c.AK (Ty c.RK)} {pre:Cur c.AK (List Prop)} (fuel:Nat)
 (H:∀p0,AllC c.AK λcs=>bds c.full cs→(∀p∈appC c.AK pre cs,p)→∃(hs:List (Hd σ)) (Inv:Nat→List (Cm σ)→Prop) (ms:Nat→List (Cm σ)→Nat×Nat×Nat),hcode B hs=hcode' B hs∧
   (∃W:Prop,(∀ad β γ,c.lhsW p0 cs hs (λr=>r=appC c.AK F cs) Inv (c.tree P T I fuel fn B p0 cs ad) β γ=c.rhsW p0 cs hs (c.tree P T I fuel fn B p0 cs ad) W β γ)∧W)∧
   stepsC c P T I fuel fn B p0 cs hs (appC c.AK F cs) Inv ms hs 0):EntryOk D P f (entC c F pre):=by
 refine ent_of D (mk:=[]) hT (I:=I) hfn hmix hB ha hl fuel λp0=>?_
 have key:∀{ks:List (Kd σ)} {p q:List (Cm σ)→Prop},(∀cs,p cs→q cs)→AllC ks p→AllC ks q:=by
  intro ks
  induction ks with
  |nil=>exact λh hp=>h [] hp
  |cons k ks ih=>exact λh hp a=>ih (λcs=>h _) (hp a)
 refine key (λcs hH hb hp ad E G=>?_) (H p0)
 obtain ⟨hs,Inv,ms,hc,⟨W,hW,hW'⟩,hst⟩:=hH hb hp
 have loop:∀x:Nat×Nat×Nat,∀j h,hs[j]? =some h→∀s,fitsC h.kd s=true→Inv j s→ms j s=x→∀ad,SW D P f (Post D E G (c.outC (appC c.AK F cs)) (c.nwC p0 cs (appC c.AK F cs)) (c.mksC (appC c.AK F cs))) B fn.ntmps E G h.tds (h.L ad s) (h.K ad s):=by
  refine lx_rec λx ih j h hg s hf hI hm ad=>?_
  have hq:=stepsC_get hst hg
  rw [jS] at hq
  obtain ⟨W1,hW1,hW2⟩:=hq.at s hf hI
  exact SW.go D hT (I:=h.stp I) hfn hmix fuel rfl (wp_tree D (hW1 ad) hW2 hc λj' h' hg' s' hf' hI' ad'=>ih _ (by rw [←hm];exact hI'.2) j' h' hg' s' hf' hI'.1 rfl ad')
 exact wp_tree D (hW ad) hW' hc λj h hg s hf hI ad=>loop _ j h hg s hf hI rfl ad
theorem ent_wm {c:Ct σ} (mk:List Nat) {P:Program} {T:List (Nat×Entry σ)} (hT:TableOk D P T) {I:List Nat} {f:FuncId} {fn:Func} {B:Code} (hfn:P.funcs[f]? =some fn) (hmix:P.follows .mixedOrders=true) (hB:fn.body=some B)
 (ha:isArgs c.ash=true) (hl:Nat.ble c.full.length fn.ntmps=true) {F:Cur c.AK (Ty c.RK)} {pre:Cur c.AK (List Prop)} (fuel:Nat)
 (H:∀p0,AllC c.AK λcs=>bds c.full cs→(∀p∈appC c.AK pre cs,p)→∃W:Prop,(∀ad β γ,c.lhsW p0 cs [] (λr=>r=appC c.AK F cs) (λ_ _=>False) (c.treeM mk P T I fuel fn B p0 cs ad) β γ=c.rhsW p0 cs [] (c.treeM mk P T I fuel fn B p0 cs ad) W β γ)∧W):EntryOk D P f (entC c F pre):=by
 refine ent_of D (mk:=mk) hT (I:=I) hfn hmix hB ha hl fuel λp0=>?_
 have key:∀{ks:List (Kd σ)} {p q:List (Cm σ)→Prop},(∀cs,p cs→q cs)→AllC ks p→AllC ks q:=by
  intro ks
  induction ks with
  |nil=>exact λh hp=>h [] hp
  |cons k ks ih=>exact λh hp a=>ih (λcs=>h _) (hp a)
 refine key (λcs hH hb hp ad E G=>?_) (H p0)
 obtain ⟨W,hW,hW'⟩:=hH hb hp
 exact wp_tree D (hW ad) hW' rfl λj h hg=>by simp at hg
theorem law_of {c:Ct σ} {P:Program} {f:FuncId} {F:Cur c.AK (Ty c.RK)} {pre:Cur c.AK (List Prop)} (h:EntryOk D P f (entC c F pre)) (args:List (Value×Info σ)) (cs:List (Cm σ)) (hc:argsC c.ob c.ash args=some cs) (v:Value) (hv:c.outC (appC c.AK F cs) []=v) (hm:c.mksC (appC c.AK F cs)=[]) (ho:objOf args=none)
 (hpre:∀p∈appC c.AK pre cs,p) {E:Ev} {G:Hp} {w:World} (hi:∀x∈args,iOk G E.z x.1 x.2) (hS:Sat E G w []):Calls P f (args.map (·.1)).toArray w (λen w'=>en= .returned v∧Sat E G w' []):=by
 have he:entC c F pre args=some ⟨appC c.AK F cs, λr=>⟨appC c.AK pre cs,newC c.rob (toCm c.RK r),c.mksC r,c.outC r,c.rs.outp⟩⟩:=by unfold entC;rw [hc]
 have:=(h args _ _ he rfl).2 hpre E G w hi (by simpa [objAs,ho] using hS)
 refine this.mono λen w' ⟨acs,h1,h2,h3⟩=>?_
 dsimp only at h1 h2 h3
 rw [hm] at h1 h2 h3
 cases acs with
 |nil=>exact ⟨by rw [h2,←hv];rfl,by simpa [newAs,ho] using h3⟩
 |cons _ _=>exact h1.elim
theorem int_cases9 (k:Int):k=0∨k=1∨k=2∨k=3∨k=4∨k=5∨k=6∨k=7∨k=8∨(∃m:Nat,k=Int.negSucc m)∨∃m:Nat,k=Int.ofNat (m+9):=by
 cases k with
 |negSucc m=>exact .inr (.inr (.inr (.inr (.inr (.inr (.inr (.inr (.inr (.inl ⟨m,rfl⟩)))))))))
 |ofNat n=>
  by_cases h:n<9
  ·have e:n=0∨n=1∨n=2∨n=3∨n=4∨n=5∨n=6∨n=7∨n=8:=by omega
   rcases e with rfl|rfl|rfl|rfl|rfl|rfl|rfl|rfl|rfl<;>simp
  ·exact .inr (.inr (.inr (.inr (.inr (.inr (.inr (.inr (.inr (.inr ⟨n-9,by congr 1;omega⟩)))))))))
abbrev tw_ (A:Prop):Prop:=A∧A
abbrev aw_ (p A:Prop):Prop:=p∧(p→A)
abbrev bw_ (c:Bool) (A B:Prop):Prop:=(c=true→A)∧(c=false→B)
theorem stuck_ {p:Prop} (h:p:=by exfalso;simp_all;done):p:=h
theorem lxo_ {x y:Nat×Nat×Nat} (h:lx x y:=by first|exact Or.inl (by omega)|exact Or.inr ⟨by omega,Or.inl (by omega)⟩|exact Or.inr ⟨by omega,Or.inr ⟨by omega,by omega⟩⟩|(unfold lx;dsimp only;omega)):lx x y:=h
end
section
open Go.RowKit
theorem Sat0.openAt {E:World} {G:Hp} {w:World} {As:List Asn0} {k:Nat} {α:Type} {p:α→Prop} {A0:α→Asn0} {Bs:α→List Asn0} (h:Sat0 E G w As) (hk:As[k]? =some (λh=>∃x,p x∧Sl.star0 (A0 x::Bs x) h)):
 ∃x,p x∧Sat0 E G w (As.set k (A0 x)++Bs x):=by
 obtain ⟨h1,h2,o,h3,h4⟩:=h
 obtain ⟨x,hp,o2,h5⟩:=h4 k _ hk
 have hkl:k<As.length:=lt_of_get hk
 let o':Nat→Option Nat:= λb=>match o b with
  |some i=>if i=k then (match o2 b with|some 0=>some k|some (j+1)=>some (As.length+j)|none=>none) else if i<As.length then some i else none
  |none=>none
 refine ⟨x,hp,h1,h2,o', λb i hb=>?_, λi A hi=>?_⟩
 ·simp only [o'] at hb
  cases ho:o b with
  |none=>simp [ho] at hb
  |some j=>exact h3 b j ho
 ·rcases jH i As.length with hl|hl
  ·rw [iQ (by simpa using hl)] at hi
   by_cases hik:k=i
   ·subst hik
    rw [jC hkl] at hi
    injection hi with hi;subst hi
    have:=h5 0 _ rfl
    have e:part w o' k= λb=>if o2 b=some 0 then part w o k b else none:=by
     funext b
     unfold part
     by_cases ho:o b=some k
     ·by_cases h0:o2 b=some 0
      ·simp [o',ho,h0]
      ·have hne:o' b≠some k:=by
        simp only [o',ho,if_true]
        cases hq:o2 b with
        |none=>simp
        |some j=>
         cases j with
         |zero=>exact absurd hq h0
         |succ j=>simp;omega
       rw [if_neg hne,if_neg h0]
     ·have hne:o' b≠some k:=by
       simp only [o']
       cases hq:o b with
       |none=>simp
       |some j=>
        have hjk:j≠k:= λe=>ho (by rw [hq,e])
        simp only [hjk,if_false]
        split<;>simp [hjk]
      rw [if_neg hne];simp [ho]
    rw [e];exact this
   ·rw [jE hik] at hi
    have:=h4 i A hi
    rw [part_congr (w':=w) (o':=o') (j:=i)] at this
    ·exact this
    ·refine λb=>⟨⟨λhb=>?_, λhb=>?_⟩, λ_=>rfl⟩
     ·have:¬i=k:= λe=>hik e.symm
      simp only [o',hb,this,if_false,hl,if_true]
     ·simp only [o'] at hb
      cases ho:o b with
      |none=>simp [ho] at hb
      |some j=>
       rw [ho] at hb
       dsimp only at hb
       split at hb
       ·cases hq:o2 b with
        |none=>rw [hq] at hb;cases hb
        |some m=>
         rw [hq] at hb
         cases m with
         |zero=>injection hb with hb;exact absurd hb hik
         |succ m=>injection hb with hb;omega
       ·split at hb
        ·exact hb
        ·cases hb
  ·rw [iS (by simpa using hl)] at hi
   simp only [List.length_set] at hi
   have:=h5 (i-As.length+1) A (by simpa using hi)
   have e:part w o' i= λb=>if o2 b=some (i-As.length+1) then part w o k b else none:=by
    funext b
    unfold part
    by_cases ho:o b=some k
    ·by_cases h0:o2 b=some (i-As.length+1)
     ·have:o' b=some i:=by
       simp only [o',ho,h0,if_true];congr 1;omega
      rw [if_pos this,if_pos h0,if_pos ho]
     ·have hne:o' b≠some i:=by
       simp only [o',ho,if_true]
       cases hq:o2 b with
       |none=>simp
       |some j=>
        cases j with
        |zero=>simp;omega
        |succ j=>
         simp only [ne_eq,iG]
         intro e2
         exact h0 (by rw [hq];congr 1;omega)
      rw [if_neg hne,if_neg h0]
    ·have hne:o' b≠some i:=by
      simp only [o']
      cases hq:o b with
      |none=>simp
      |some j=>
       have hjk:j≠k:= λe=>ho (by rw [hq,e])
       simp only [hjk,if_false]
       split
       ·simp;omega
       ·simp
     rw [if_neg hne];simp [ho]
   rw [e];exact this
theorem upZ_ex {Z:Hp} {α:Type} {p:α→Prop} {A0:α→Asn} {Bs:α→List Asn}:upZ Z (λY h=>∃x,p x∧Sl.star (A0 x::Bs x) Y h)= λh=>∃x,p x∧Sl.star0 (upZ Z (A0 x)::(Bs x).map (upZ Z)) h:=by
 funext k
 apply propext
 have e:∀x,upZ Z (Sl.star (A0 x::Bs x))=Sl.star0 (upZ Z (A0 x)::(Bs x).map (upZ Z)):= λx=>by rw [upZ_star,iM]
 constructor
 ·intro h
  obtain ⟨x,hp,hs⟩:=h Z (Hp.le_refl Z)
  refine ⟨x,hp,?_⟩
  rw [←e x]
  exact λY hY=>star_up hY hs
 ·rintro ⟨x,hp,hs⟩ Y hY
  rw [←e x] at hs
  exact ⟨x,hp,hs Y hY⟩
theorem Sat.openAt {E:Ev} {G:Hp} {w:World} {As:List Asn} {k:Nat} {α:Type} {p:α→Prop} {A0:α→Asn} {Bs:α→List Asn} (h:Sat E G w As) (hk:As[k]? =some (λY h=>∃x,p x∧Sl.star (A0 x::Bs x) Y h)):
 ∃x,p x∧Sat E G w (As.set k (A0 x)++Bs x):=by
 obtain ⟨Z,hz,hw,h0⟩:=h
 obtain ⟨x,hp,h1⟩:=Sat0.openAt (k:=k) (A0:= λx=>upZ Z (A0 x)) (Bs:= λx=>(Bs x).map (upZ Z)) h0 (by rw [map_get hk,upZ_ex])
 refine ⟨x,hp,Z,hz,hw,?_⟩
 rw [jD,List.map_set]
 exact h1
mutual
def opP (k:Nat):Pr→Pr
 | .no=> .no
 | .pt j pk=>match pk with
   | .obj=>bif Nat.beq j k then .pt j (.cell 0) else .pt j .obj
   |pk=> .pt j pk
 | .many ps=> .many (opPs k ps)
 | .box p=> .box (opP k p)
def opPs (k:Nat):List Pr→List Pr
 |[]=>[]
 |p::ps=>opP k p::opPs k ps
end
def opCs (k:Nat):List (Value×Pr)→List (Value×Pr)
 |[]=>[]
 |x::r=>(x.1,opP k x.2)::opCs k r
variable {σ:Type} (D:Addr→σ→Asn)
def opC (k:Nat):Chunk σ→Chunk σ
 | .cells b t cs=> .cells b t (opCs k cs)
 |c=>c
def opK (k:Nat):List (Chunk σ)→List (Chunk σ)
 |[]=>[]
 |c::r=>opC k c::opK k r
def opL (k:Nat):List Ent→List Ent
 |[]=>[]
 |e::r=>⟨e.s,e.g,e.v,opP k e.p⟩::opL k r
theorem opCs_fst (k:Nat):∀cs:List (Value×Pr),(opCs k cs).map (·.1)=cs.map (·.1)
 |[]=>rfl
 |x::r=>by simp [opCs,opCs_fst k r]
theorem opC_den {G:Hp} (k:Nat) (c:Chunk σ):den D G (opC k c)=den D G c:=by
 cases c<;>simp [opC,den,opCs_fst]
theorem opC_cOk {k:Nat} {c:Chunk σ} {v:Value} {pk:PK} (h:cOk c v pk):cOk (opC k c) v pk:=by
 cases c<;>first|exact h|(cases pk<;>first|exact h|exact h.elim)
theorem opK_get (k:Nat):∀(K:List (Chunk σ)) (j:Nat),(opK k K)[j]? =(K[j]?).map (opC k)
 |[],j=>by simp [opK]
 |c::r,0=>by simp [opK]
 |c::r,j+1=>by simp [opK,opK_get k r j]
theorem opK_len (k:Nat):∀K:List (Chunk σ),(opK k K).length=K.length
 |[]=>rfl
 |c::r=>by simp [opK,opK_len k r]
theorem opK_map {G:Hp} (k:Nat) (K:List (Chunk σ)):(opK k K).map (den D G)=K.map (den D G):=by
 apply List.ext_getElem?
 intro j
 rw [iV,opK_get,iV]
 cases K[j]? with
 |none=>rfl
 |some c=>simp [opC_den]
section
variable {K K':List (Chunk σ)} {k b:Nat} {s:σ}
mutual
theorem opP_ok (hk:K[k]? =some (.obj ⟨b,0,none⟩ s)) (h0:∃t cs,K'[k]? =some (.cells b t cs)) (h1:∀(j:Nat) (c:Chunk σ),j≠k→K[j]? =some c→∃c',K'[j]? =some c'∧∀v pk,cOk c v pk→cOk c' v pk):∀(v:Value) (p:Pr),pOk K v p→pOk K' v (opP k p)
 |_, .no,_=>by simp [pOk,opP]
 |v, .pt j pk,h=>by
  rw [pOk_pt] at h
  obtain ⟨c,e1,e2⟩:=h
  by_cases hj:j=k
  ·subst hj
   rw [hk] at e1;injection e1 with e1;subst e1
   cases pk<;>simp only [cOk] at e2
   obtain ⟨t,cs,h0⟩:=h0
   have hb:Nat.beq j j=true:=Nat.beq_refl j
   simp only [opP,hb,cond_true]
   rw [pOk_pt]
   exact ⟨_,h0,e2⟩
  ·obtain ⟨c',e3,e4⟩:=h1 j c hj e1
   have:opP k (.pt j pk)= .pt j pk:=by
    cases pk<;>simp only [opP]
    have:Nat.beq j k=false:=by
     cases hb:Nat.beq j k with
     |false=>rfl
     |true=>exact absurd (iL hb) hj
    rw [this];rfl
   rw [this,pOk_pt]
   exact ⟨c',e3,e4 v pk e2⟩
 |v, .many ps,h=>by
  cases v<;>simp only [pOk,opP] at h ⊢
  all_goals exact opPs_ok hk h0 h1 _ ps h
 |v, .box p,h=>by
  cases v<;>simp only [pOk,opP] at h ⊢
  exact opP_ok hk h0 h1 _ p h
theorem opPs_ok (hk:K[k]? =some (.obj ⟨b,0,none⟩ s)) (h0:∃t cs,K'[k]? =some (.cells b t cs)) (h1:∀(j:Nat) (c:Chunk σ),j≠k→K[j]? =some c→∃c',K'[j]? =some c'∧∀v pk,cOk c v pk→cOk c' v pk):∀(vs:List Value) (ps:List Pr),psOk K vs ps→psOk K' vs (opPs k ps)
 |[],[],_=>by simp [psOk,opPs]
 |[],_::_,h=>by simp [psOk] at h
 |_::_,[],h=>by simp [psOk] at h
 |v::vs,p::ps,h=>by
  simp only [psOk,opPs] at h ⊢
  exact ⟨opP_ok hk h0 h1 v p h.1,opPs_ok hk h0 h1 vs ps h.2⟩
end
theorem opCs_mem {k:Nat}:∀{cs:List (Value×Pr)} {x:Value×Pr},x∈opCs k cs→∃y∈cs,x=(y.1,opP k y.2)
 |[],x,h=>by simp [opCs] at h
 |y::r,x,h=>by
  simp only [opCs,iN] at h
  rcases h with rfl|h
  ·exact ⟨y,by simp,rfl⟩
  ·obtain ⟨z,h1,h2⟩:=opCs_mem h
   exact ⟨z,by simp [h1],h2⟩
theorem opL_mem {k:Nat}:∀{L:List Ent} {e:Ent},e∈opL k L→∃y∈L,e=⟨y.s,y.g,y.v,opP k y.p⟩
 |[],x,h=>by simp [opL] at h
 |y::r,x,h=>by
  simp only [opL,iN] at h
  rcases h with rfl|h
  ·exact ⟨y,by simp,rfl⟩
  ·obtain ⟨z,h1,h2⟩:=opL_mem h
   exact ⟨z,by simp [h1],h2⟩
end
theorem SW.open {P:Program} {f:FuncId} {R:Ending→World→Prop} {B:Code} {n:Nat} {E:Ev} {G:Hp} {td:List Ab} {L:List Ent} {K:List (Chunk σ)} (k:Nat) {p0:Addr} {s:σ} (hk:K[k]? =some (.obj p0 s))
 {α:Type} {q:α→Prop} (bf:α→Nat) (tf:α→TypeId) (cf:α→List (Value×Pr)) (rf:α→List (Chunk σ)) (hD:D p0 s= λY h=>∃x,q x∧Sl.star ((Chunk.cells (bf x) (tf x) (cf x)::rf x).map (den D G)) Y h)
 (hp:∀x,q x→p0=⟨bf x,0,none⟩) (hr:∀x b t cs,Chunk.cells b t cs∈rf x→cs=[])
 (hc:∀x,q x→∀y∈cf x,pOk ((opK k K).set k (.cells (bf x) (tf x) (cf x))++rf x) y.1 y.2)
 (h:∀x,q x→SW D P f R B n E G td (opL k L) ((opK k K).set k (.cells (bf x) (tf x) (cf x))++rf x)):SW D P f R B n E G td L K:=by
 intro a w hF hS
 have hkl:=lt_of_get hk
 have hS1:Sat E G w (K.map (den D G)):=hS
 obtain ⟨x,hx,hS2⟩:=Sat.openAt (p:=q) (A0:= λx=>den D G (.cells (bf x) (tf x) (cf x))) (Bs:= λx=>(rf x).map (den D G)) (k:=k) hS1 (by rw [map_den_get D hk];simp only [den,hD];rfl)
 have hp0:=hp x hx
 rw [hp0] at hk
 let K':List (Chunk σ):=(opK k K).set k (.cells (bf x) (tf x) (cf x))++rf x
 have hK'k:K'[k]? =some (.cells (bf x) (tf x) (cf x)):=by
  show ((opK k K).set k _++rf x)[k]? =_
  rw [iQ (by simp [opK_len,hkl]),jC (by rw [opK_len];exact hkl)]
 have hK'j:∀(j:Nat) (c:Chunk σ),j≠k→K[j]? =some c→∃c',K'[j]? =some c'∧∀v pk,cOk c v pk→cOk c' v pk:= λj c hj hjc=>by
  refine ⟨opC k c,?_, λv pk h=>opC_cOk h⟩
  show ((opK k K).set k _++rf x)[j]? =_
  rw [iQ (by simp [opK_len,lt_of_get hjc]),jE (λe=>hj e.symm),opK_get,hjc];rfl
 have hop:= λv p hv=>opP_ok (K:=K) (K':=K') hk ⟨_,_,hK'k⟩ hK'j v p hv
 refine h x hx a w ⟨λj b t cs hj y hy=>?_,hF.defers,hF.size, λe he hg=>?_, λe he hg=>?_⟩ ?_
 ·by_cases hjk:j=k
  ·subst hjk
   have:=hK'k.symm.trans hj
   injection this with this;injection this with _ _ this;subst this
   exact hc x hx y hy
  ·rcases jH j K.length with hl|hl
   ·have hj':((opK k K).set k (Chunk.cells (bf x) (tf x) (cf x))++rf x)[j]? =some (.cells b t cs):=hj
    rw [iQ (by simp [opK_len,hl]),jE (λe=>hjk e.symm),opK_get] at hj'
    cases hq:K[j]? with
    |none=>rw [hq] at hj';cases hj'
    |some c=>
     rw [hq] at hj'
     cases c<;>simp only [iX,opC,iG] at hj'<;>try cases hj'
     obtain ⟨z,hz,rfl⟩:=opCs_mem hy
     exact hop _ _ (hF.kok _ _ _ _ hq z hz)
   ·have hj':((opK k K).set k (Chunk.cells (bf x) (tf x) (cf x))++rf x)[j]? =some (.cells b t cs):=hj
    rw [iS (by simpa [opK_len] using hl)] at hj'
    have:=hr x b t cs (List.mem_of_getElem? hj')
    subst this;cases hy
 ·obtain ⟨y,hy,rfl⟩:=opL_mem he
  obtain ⟨e1,e2⟩:=hF.ents y hy hg
  exact ⟨e1,hop _ _ e2⟩
 ·obtain ⟨y,hy,rfl⟩:=opL_mem he
  exact hF.skipd y hy hg
 ·show Sat E G w _
  rw [jD,List.map_set,opK_map]
  exact hS2
def setAll {α:Type} (xs:List α) (v:α):List Nat→List α
 |[]=>xs
 |i::is=>setAll (xs.set i v) v is
theorem setAll_get {α:Type} {v:α}:∀(is:List Nat) (xs:List α) (j:Nat) (x:α),(setAll xs v is)[j]? =some x→(j∈is∧x=v)∨(j ∉ is∧xs[j]? =some x)
 |[],xs,j,x,h=> .inr ⟨by simp,h⟩
 |i::is,xs,j,x,h=>by
  rcases setAll_get is (xs.set i v) j x h with ⟨h1,h2⟩|⟨h1,h2⟩
  ·exact .inl ⟨by simp [h1],h2⟩
  ·by_cases hij:i=j
   ·subst hij
    rcases jH i xs.length with hl|hl
    ·rw [jC hl] at h2
     injection h2 with h2
     exact .inl ⟨by simp,h2.symm⟩
    ·rw [jG (by simpa using hl)] at h2;cases h2
   ·rw [jE hij] at h2
    exact .inr ⟨by simp [h1];exact λe=>hij e.symm,h2⟩
theorem setAll_map {α β:Type} (f:α→β) (v:α):∀(is:List Nat) (xs:List α),(setAll xs v is).map f=setAll (xs.map f) (f v) is
 |[],xs=>rfl
 |i::is,xs=>by rw [setAll,setAll_map f v is,List.map_set];rfl
theorem setAll_len {α:Type} (v:α):∀(is:List Nat) (xs:List α),(setAll xs v is).length=xs.length
 |[],xs=>rfl
 |i::is,xs=>by rw [setAll,setAll_len v is];simp
theorem setAll_not {α:Type} {v:α}:∀{is:List Nat} {xs:List α} {j:Nat},j ∉ is→(setAll xs v is)[j]? =xs[j]?
 |[],xs,j,_=>rfl
 |i::is,xs,j,h=>by
  simp only [iN,not_or] at h
  rw [setAll,setAll_not h.2,jE (λe=>h.1 e.symm)]
theorem Sat0.closeAt {E:World} {G:Hp} {w:World} {As Bs:List Asn0} {k:Nat} {ks:List Nat} (h:Sat0 E G w As) (hn:(k::ks).Nodup) (hB:∀(i:Nat) (B:Asn0),Bs[i]? =some B→∃j,(k::ks)[i]? =some j∧As[j]? =some B):
 Sat0 E G w ((setAll As (λ_=>True) ks).set k (Sl.star0 Bs)):=by
 obtain ⟨h1,h2,o,h3,h4⟩:=h
 have hkn:k ∉ ks:=(List.nodup_cons.1 hn).1
 let o':Nat→Option Nat:= λb=>match o b with
  |some i=>if i∈k::ks then some k else some i
  |none=>none
 have hin:∀b,o' b=some k→∃i,o b=some i∧i∈k::ks:= λb hb=>by
  simp only [o'] at hb
  cases ho:o b with
  |none=>simp [ho] at hb
  |some i=>
   rw [ho] at hb
   dsimp only at hb
   by_cases hi:i∈k::ks
   ·exact ⟨i,rfl,hi⟩
   ·rw [if_neg hi] at hb
    injection hb with hb
    exact absurd (by rw [hb];simp) hi
 refine ⟨h1,h2,o', λb i hb=>?_, λi A hi=>?_⟩
 ·simp only [o'] at hb
  cases ho:o b with
  |none=>simp [ho] at hb
  |some j=>exact h3 b j ho
 ·by_cases hik:k=i
  ·subst hik
   have hl:=lt_of_get hi
   rw [jC (by simpa using hl)] at hi
   injection hi with hi;subst hi
   refine ⟨λb=>match o b with|some i=>(k::ks).idxOf? i|none=>none, λi B hBi=>?_⟩
   obtain ⟨j,e1,e2⟩:=hB i B hBi
   have:=h4 j B e2
   have e:(λb=>if (match o b with|some i=>(k::ks).idxOf? i|none=>none)=some i then part w o' k b else none)=part w o j:=by
    funext b
    unfold part
    cases ho:o b with
    |none=>simp
    |some m=>
     dsimp only
     by_cases hm:(k::ks).idxOf? m=some i
     ·have hmj:m=j:=by
       have:=(idx_of hn).1 hm
       rw [e1] at this;injection this with this;exact this.symm
      subst hmj
      have:o' b=some k:=by
       simp only [o',ho]
       rw [if_pos (List.mem_of_getElem? e1)]
      rw [if_pos hm,if_pos this];simp
     ·rw [if_neg hm,if_neg]
      intro e3
      injection e3 with e3
      subst e3
      exact hm ((idx_of hn).2 e1)
   rw [e];exact this
  ·rw [jE hik] at hi
   rcases setAll_get ks As i A hi with ⟨_,rfl⟩|⟨hni,hA⟩
   ·trivial
   ·have:=h4 i A hA
    rw [part_congr (w':=w) (o':=o') (j:=i)] at this
    ·exact this
    ·have hnk:¬i∈k::ks:=by
      simp only [iN,not_or]
      exact ⟨λe=>hik e.symm,hni⟩
     refine λb=>⟨⟨λhb=>?_, λhb=>?_⟩, λ_=>rfl⟩
     ·simp only [o',hb];rw [if_neg hnk]
     ·simp only [o'] at hb
      cases ho:o b with
      |none=>simp [ho] at hb
      |some j=>
       rw [ho] at hb
       dsimp only at hb
       split at hb
       ·injection hb with hb;exact absurd hb hik
       ·exact hb
theorem Sat.closeAt {E:Ev} {G:Hp} {w:World} {As Bs:List Asn} {k:Nat} {ks:List Nat} (h:Sat E G w As) (hn:(k::ks).Nodup) (hB:∀(i:Nat) (B:Asn),Bs[i]? =some B→∃j,(k::ks)[i]? =some j∧As[j]? =some B):
 Sat E G w ((setAll As (λ_ _=>True) ks).set k (Sl.star Bs)):=by
 obtain ⟨Z,hz,hw,h0⟩:=h
 refine ⟨Z,hz,hw,?_⟩
 have e:upZ Z (λ_ _=>True)= λ_=>True:=by funext k;exact propext ⟨λ_=>trivial, λ_ _ _=>trivial⟩
 rw [List.map_set,setAll_map,upZ_star,e]
 exact h0.closeAt hn λi B hi=>by
  obtain ⟨C,h1,rfl⟩:=get_map hi
  obtain ⟨j,h2,h3⟩:=hB i C h1
  exact ⟨j,h2,map_get h3⟩
mutual
def clP (k:Nat) (ks:List Nat):Pr→Pr
 | .no=> .no
 | .pt j pk=>bif Nat.beq j k then (match pk with| .cell 0=> .pt k .obj|_=> .no) else bif ks.any (Nat.beq j) then .no else .pt j pk
 | .many ps=> .many (clPs k ks ps)
 | .box p=> .box (clP k ks p)
def clPs (k:Nat) (ks:List Nat):List Pr→List Pr
 |[]=>[]
 |p::ps=>clP k ks p::clPs k ks ps
end
def clL (k:Nat) (ks:List Nat):List Ent→List Ent
 |[]=>[]
 |e::r=>⟨e.s,e.g,e.v,clP k ks e.p⟩::clL k ks r
theorem clL_mem {k:Nat} {ks:List Nat}:∀{L:List Ent} {e:Ent},e∈clL k ks L→∃y∈L,e=⟨y.s,y.g,y.v,clP k ks y.p⟩
 |[],x,h=>by simp [clL] at h
 |y::r,x,h=>by
  simp only [clL,iN] at h
  rcases h with rfl|h
  ·exact ⟨y,by simp,rfl⟩
  ·obtain ⟨z,h1,h2⟩:=clL_mem h
   exact ⟨z,by simp [h1],h2⟩
section
variable {K K':List (Chunk σ)} {k b:Nat} {ks:List Nat} {s:σ}
mutual
theorem clP_ok {t:TypeId} {cs:List (Value×Pr)} (hk:K[k]? =some (.cells b t cs)) (h0:K'[k]? =some (.obj ⟨b,0,none⟩ s)) (h1:∀j:Nat,j≠k→j ∉ ks→K'[j]? =K[j]?):∀(v:Value) (p:Pr),pOk K v p→pOk K' v (clP k ks p)
 |_, .no,_=>by simp [pOk,clP]
 |v, .pt j pk,h=>by
  rw [pOk_pt] at h
  obtain ⟨c,e1,e2⟩:=h
  simp only [clP]
  cases hj:Nat.beq j k with
  |true=>
   have:=iL hj
   subst this
   simp only [cond_true]
   rw [hk] at e1;injection e1 with e1;subst e1
   split
   ·rw [pOk_pt];exact ⟨_,h0,e2⟩
   ·exact pOk_no
  |false=>
   simp only [cond_false]
   cases hm:ks.any (Nat.beq j) with
   |true=>exact pOk_no
   |false=>
    have hjk:j≠k:= λe=>by rw [e,Nat.beq_refl] at hj;cases hj
    have hjn:j ∉ ks:= λhmem=>by
     rw [List.any_eq_false] at hm
     exact hm j hmem (Nat.beq_refl j)
    simp only [cond_false]
    rw [pOk_pt]
    exact ⟨c,by rw [h1 j hjk hjn];exact e1,e2⟩
 |v, .many ps,h=>by
  cases v<;>simp only [pOk,clP] at h ⊢
  all_goals exact clPs_ok hk h0 h1 _ ps h
 |v, .box p,h=>by
  cases v<;>simp only [pOk,clP] at h ⊢
  exact clP_ok hk h0 h1 _ p h
theorem clPs_ok {t:TypeId} {cs:List (Value×Pr)} (hk:K[k]? =some (.cells b t cs)) (h0:K'[k]? =some (.obj ⟨b,0,none⟩ s)) (h1:∀j:Nat,j≠k→j ∉ ks→K'[j]? =K[j]?):∀(vs:List Value) (ps:List Pr),psOk K vs ps→psOk K' vs (clPs k ks ps)
 |[],[],_=>by simp [psOk,clPs]
 |[],_::_,h=>by simp [psOk] at h
 |_::_,[],h=>by simp [psOk] at h
 |v::vs,p::ps,h=>by
  simp only [psOk,clPs] at h ⊢
  exact ⟨clP_ok hk h0 h1 v p h.1,clPs_ok hk h0 h1 vs ps h.2⟩
end
end
theorem SW.close {P:Program} {f:FuncId} {R:Ending→World→Prop} {B:Code} {n:Nat} {E:Ev} {G:Hp} {td:List Ab} {L:List Ent} {K:List (Chunk σ)} (k:Nat) (ks:List Nat) {b:Nat} {t:TypeId} {cs:List (Value×Pr)} {rs:List (Chunk σ)} {s:σ} (hn:(k::ks).Nodup)
 (hk:K[k]? =some (.cells b t cs)) (hr:∀(i:Nat) c,rs[i]? =some c→∃j,ks[i]? =some j∧K[j]? =some c) (hno:∀(j:Nat) b t cs,j≠k→K[j]? ≠some (.cells b t cs))
 (hD:∀Y h,Sl.star ((Chunk.cells b t cs::rs).map (den D G)) Y h→D ⟨b,0,none⟩ s Y h)
 (h:SW D P f R B n E G td (clL k ks L) ((setAll K .dead ks).set k (.obj ⟨b,0,none⟩ s))):SW D P f R B n E G td L K:=by
 intro a w hF hS
 have hkl:=lt_of_get hk
 have hkn:k ∉ ks:=(List.nodup_cons.1 hn).1
 have hS1:Sat E G w (K.map (den D G)):=hS
 have hS2:=Sat.closeAt (Bs:=(Chunk.cells b t cs::rs).map (den D G)) hS1 hn λi B hi=>by
  rw [iV] at hi
  cases i with
  |zero=>
   simp only [List.getElem?_cons_zero,iX,iG] at hi
   exact ⟨k,rfl,by rw [map_den_get D hk,hi]⟩
  |succ i=>
   simp only [List.getElem?_cons_succ] at hi
   cases hc:rs[i]? with
   |none=>rw [hc] at hi;cases hi
   |some c=>
    rw [hc] at hi;injection hi with hi
    obtain ⟨j,e1,e2⟩:=hr i c hc
    exact ⟨j,by simpa using e1,by rw [map_den_get D e2,hi]⟩
 let K':List (Chunk σ):=(setAll K .dead ks).set k (.obj ⟨b,0,none⟩ s)
 have h0:K'[k]? =some (.obj ⟨b,0,none⟩ s):=jC (by rw [setAll_len];exact hkl)
 have h1:∀j:Nat,j≠k→j ∉ ks→K'[j]? =K[j]? := λj hj hjn=>by
  show ((setAll K .dead ks).set k _)[j]? =_
  rw [jE (λe=>hj e.symm),setAll_not hjn]
 have hcl:= λv p hv=>clP_ok (K:=K) (K':=K') (ks:=ks) hk h0 h1 v p hv
 refine h a w ⟨λj b' t' cs' hj y hy=>?_,hF.defers,hF.size, λe he hg=>?_, λe he hg=>?_⟩ ?_
 ·exfalso
  have hj':((setAll K .dead ks).set k (Chunk.obj ⟨b,0,none⟩ s))[j]? =some (.cells b' t' cs'):=hj
  by_cases hjk:k=j
  ·subst hjk
   have:=h0.symm.trans hj
   injection this with this;cases this
  ·rw [jE hjk] at hj'
   rcases setAll_get ks K j _ hj' with ⟨_,e⟩|⟨_,e⟩
   ·cases e
   ·exact hno j b' t' cs' (λe=>hjk e.symm) e
 ·obtain ⟨y,hy,rfl⟩:=clL_mem he
  obtain ⟨e1,e2⟩:=hF.ents y hy hg
  exact ⟨e1,hcl _ _ e2⟩
 ·obtain ⟨y,hy,rfl⟩:=clL_mem he
  exact hF.skipd y hy hg
 ·show Sat E G w _
  rw [List.map_set,setAll_map]
  refine hS2.imp λi B hB=>?_
  by_cases hik:k=i
  ·subst hik
   have hl:=lt_of_get hB
   rw [jC (by simpa using hl)] at hB
   injection hB with hB;subst hB
   exact ⟨_,jC (by simpa [setAll_len] using hkl),hD⟩
  ·rw [jE hik] at hB
   exact ⟨B,by rw [jE hik];exact hB, λ_ _ h=>h⟩
end
section
open Go.RowKit
variable {σ:Type}
structure Bx (σ:Type) (w:Wr σ):Type 1 where
 t:TypeId
 l:List (Sh σ)
 R:w.τ→List (Cm σ)→Prop
def DT:Addr→σ→Asn:= λ_ _ _ _=>True
def GT:Hp:= λ_=>none
variable {wr:Wr σ}
def Bx.bk (b:Bx σ wr) (o:Nat) (ad:Nat→Ad) (k:Nat) (y:List (Cm σ)):List (Chunk σ):= .cells o b.t (tpC (tps ad b.l k 0 y))::tpK (tps ad b.l k 0 y)
def Bx.A (b:Bx σ wr) (s:wr.τ) (p:Addr):Asn:= λY h=>∃x:Nat×(Nat→Ad)×List (Cm σ),(p=⟨x.1,0,none⟩∧fitsC (kds b.l) x.2.2=true∧b.R s x.2.2)∧star ((b.bk x.1 x.2.1 1 x.2.2).map (den DT GT)) Y h
def cellSh:List (Sh σ)→Bool
 |[]=>true
 | .i _::l=>cellSh l
 | .b::l=>cellSh l
 | .ic _ _::l=>cellSh l
 | .bc _::l=>cellSh l
 | .own _ _::l=>cellSh l
 | .mp _ _::l=>cellSh l
 | .nxt _:: .own t ks::l=>cellSh (.own t ks::l)
 |_=>false
theorem tpC_ok (ad:Nat→Ad):∀(l:List (Sh σ)) (k j:Nat) (cs:List (Cm σ)),cellSh l=true→(tpK (tps ad l k j cs)).length=nKs l∧noCells (tpK (tps ad l k j cs))=true∧
 (∀(D D':Addr→σ→Asn) (G G':Hp) (k':Nat),(tpK (tps ad l k j cs)).map (den D G)=(tpK (tps ad l k' j cs)).map (den D' G')∧(tpC (tps ad l k j cs)).map (·.1)=(tpC (tps ad l k' j cs)).map (·.1))∧
 ∀K0 K2:List (Chunk σ),K0.length=k→∀y∈tpC (tps ad l k j cs),pOk (K0++tpK (tps ad l k j cs)++K2) y.1 y.2
 |[],k,j,cs,_=>⟨rfl,rfl, λ_ _ _ _ _=>⟨rfl,rfl⟩, λ_ _ _ y hy=>by simp [tps,tpC] at hy⟩
 |s::l,k,j,cs,h=>by
  have key:cellSh l=true→(∀k,noCells (s.tp ad k j cs).K=true)→(∀k,(s.tp ad k j cs).K.length=s.nK)→(∀(D D':Addr→σ→Asn) (G G':Hp) (k k':Nat),(s.tp ad k j cs).K.map (den D G)=(s.tp ad k' j cs).K.map (den D' G')∧(s.tp ad k j cs).v=(s.tp ad k' j cs).v)→
   (∀K0 K2:List (Chunk σ),K0.length=k→pOk (K0++(s.tp ad k j cs).K++(tpK (tps ad l (k+s.nK) (j+s.nA) (cs.drop s.nC))++K2)) (s.tp ad k j cs).v (s.tp ad k j cs).p)→_:= λhl h1 h2 h3 h4=>by
   obtain ⟨g1,g2,g3,g4⟩:=tpC_ok ad l (k+s.nK) (j+s.nA) (cs.drop s.nC) hl
   refine (?_:(tpK (tps ad (s::l) k j cs)).length=nKs (s::l)∧noCells (tpK (tps ad (s::l) k j cs))=true∧
  (∀(D D':Addr→σ→Asn) (G G':Hp) (k':Nat),(tpK (tps ad (s::l) k j cs)).map (den D G)=(tpK (tps ad (s::l) k' j cs)).map (den D' G')∧(tpC (tps ad (s::l) k j cs)).map (·.1)=(tpC (tps ad (s::l) k' j cs)).map (·.1))∧
  ∀K0 K2:List (Chunk σ),K0.length=k→∀y∈tpC (tps ad (s::l) k j cs),pOk (K0++tpK (tps ad (s::l) k j cs)++K2) y.1 y.2)
   simp only [tps,tpK,tpC,nKs]
   refine ⟨by rw [jA,h2,g1],noCells_app (h1 k) g2, λD D' G G' k'=>?_, λK0 K2 hk y hy=>?_⟩
   ·obtain ⟨a1,a2⟩:=h3 D D' G G' k k'
    obtain ⟨b1,b2⟩:=g3 D D' G G' (k'+s.nK)
    simp only [jD,iM]
    exact ⟨by rw [a1,b1],by rw [a2,b2]⟩
   ·simp only [iN] at hy
    rcases hy with rfl|hy
    ·have:=h4 K0 K2 hk
     simpa [jJ] using this
    ·have:=g4 (K0++(s.tp ad k j cs).K) K2 (by rw [jA,hk,h2]) y hy
     simpa [jJ] using this
  cases s with
  |i _=>exact key h (λ_=>rfl) (λ_=>rfl) (λ_ _ _ _ _ _=>⟨rfl,rfl⟩) λ_ _ _=>pOk_no
  |b=>exact key h (λ_=>rfl) (λ_=>rfl) (λ_ _ _ _ _ _=>⟨rfl,rfl⟩) λ_ _ _=>pOk_no
  |ic _ _=>exact key h (λ_=>rfl) (λ_=>rfl) (λ_ _ _ _ _ _=>⟨rfl,rfl⟩) λ_ _ _=>pOk_no
  |bc _=>exact key h (λ_=>rfl) (λ_=>rfl) (λ_ _ _ _ _ _=>⟨rfl,rfl⟩) λ_ _ _=>pOk_no
  |own t ks=>exact key h (λ_=>rfl) (λ_=>rfl) (λ_ _ _ _ _ _=>⟨rfl,rfl⟩) λK0 K2 hk=>pOk_pt.2 ⟨.row (ad j).o t (hdC cs).nOf (ad j).c (colsOf ks cs.tail),by subst hk;rw [jJ,iS (Nat.le_refl _),Nat.sub_self];rfl,rfl⟩
  |mp kk vk=>exact key h (λ_=>rfl) (λ_=>rfl) (λ_ _ _ _ _ _=>⟨rfl,rfl⟩) λK0 K2 hk=>pOk_pt.2 ⟨.map (ad j).b kk vk (hdC cs).mpOf,by subst hk;rw [jJ,iS (Nat.le_refl _),Nat.sub_self];rfl,rfl⟩
  |nxt t=>
   cases l with
   |nil=>simp [cellSh] at h
   |cons s2 l2=>
    cases s2 with
    |own t2 ks=>exact key (by simpa [cellSh] using h) (λ_=>rfl) (λ_=>rfl) (λ_ _ _ _ _ _=>⟨rfl,rfl⟩) λK0 K2 hk=>(by
      simp only [Sh.tp,pOk]
      exact ⟨.row (ad j).o t2 (hdC cs).nOf (ad j).c (colsOf ks cs.tail),by subst hk;simp only [List.append_nil];rw [iS (Nat.le_refl _),Nat.sub_self];rfl,rfl⟩)
    |_=>simp [cellSh] at h
  |_=>simp [cellSh] at h
theorem Bx.bk_den {b:Bx σ wr} (hb:cellSh b.l=true) (D D':Addr→σ→Asn) (G G':Hp) (o:Nat) (ad:Nat→Ad) (k k':Nat) (y:List (Cm σ)):(b.bk o ad k y).map (den D G)=(b.bk o ad k' y).map (den D' G'):=by
 obtain ⟨_,_,h3,_⟩:=tpC_ok ad b.l k 0 y hb
 obtain ⟨h1,h2⟩:=h3 D D' G G' k'
 simp only [Bx.bk,iM,h1,den,h2]
def Bx.opK (b:Bx σ wr) (k o:Nat) (ad:Nat→Ad) (y:List (Cm σ)) (K:List (Chunk σ)):List (Chunk σ):=(Sl.opK k K).set k (.cells o b.t (tpC (tps ad b.l K.length 0 y)))++tpK (tps ad b.l K.length 0 y)
def isObj0:List (Chunk σ)→Bool
 | .obj _ _::_=>true
 |_=>false
theorem noCells_mem:∀{K:List (Chunk σ)},noCells K=true→∀c∈K,∀b t cs,c≠ .cells b t cs
 |[],_,c,hc=>by simp at hc
 |x::K,h,c,hc=>by
  intro b t cs e
  subst e
  simp only [iN] at hc
  rcases hc with rfl|hc
  ·simp [noCells] at h
  ·refine noCells_mem (K:=K) ?_ _ hc b t cs rfl
   cases x<;>simp only [noCells] at h<;>first|exact h|cases h
variable (D:Addr→σ→Asn)
structure Bx.Is (b:Bx σ wr):Prop where
 c:cellSh b.l=true
 d:∀p s,D p (wr.inj s)=b.A s p
section
variable {b:Bx σ wr} {P:Program} {f:FuncId} {R:Ending→World→Prop} {B:Code} {n:Nat} {E:Ev} {G:Hp} {td:List Ab} {L:List Ent} {K:List (Chunk σ)}
theorem Bx.open_ok (hb:b.Is D) (k:Nat) {p0:Addr} {s:wr.τ} (hk:K[k]? =some (.obj p0 (wr.inj s)))
 (h:∀o ad y,p0=⟨o,0,none⟩→fitsC (kds b.l) y=true→b.R s y→SW D P f R B n E G td (opL k L) (b.opK k o ad y K)):SW D P f R B n E G td L K:=by
 refine SW.open D k hk (α:=Nat×(Nat→Ad)×List (Cm σ)) (q:= λx=>p0=⟨x.1,0,none⟩∧fitsC (kds b.l) x.2.2=true∧b.R s x.2.2) (λx=>x.1) (λ_=>b.t) (λx=>tpC (tps x.2.1 b.l K.length 0 x.2.2)) (λx=>tpK (tps x.2.1 b.l K.length 0 x.2.2)) ?_ (λx hx=>hx.1) (λx o t cs hm=>?_) (λx hx y hy=>?_) (λx hx=>h x.1 x.2.1 x.2.2 hx.1 hx.2.1 hx.2.2)
 ·rw [hb.d]
  funext Y q
  apply propext
  have e:∀x:Nat×(Nat→Ad)×List (Cm σ),(b.bk x.1 x.2.1 1 x.2.2).map (den DT GT)=(Chunk.cells x.1 b.t (tpC (tps x.2.1 b.l K.length 0 x.2.2))::tpK (tps x.2.1 b.l K.length 0 x.2.2)).map (den D G):= λx=>Bx.bk_den hb.c DT D GT G x.1 x.2.1 1 K.length x.2.2
  constructor
  ·rintro ⟨x,hx,hs⟩;exact ⟨x,hx,by rw [←e];exact hs⟩
  ·rintro ⟨x,hx,hs⟩;exact ⟨x,hx,by rw [e];exact hs⟩
 ·obtain ⟨_,h2,_⟩:=tpC_ok x.2.1 b.l K.length 0 x.2.2 hb.c
  exact absurd rfl (noCells_mem h2 _ hm o t cs)
 ·obtain ⟨_,_,_,h4⟩:=tpC_ok x.2.1 b.l K.length 0 x.2.2 hb.c
  have:=h4 ((Sl.opK k K).set k (.cells x.1 b.t (tpC (tps x.2.1 b.l K.length 0 x.2.2)))) [] (by simp [opK_len]) y hy
  rw [List.append_nil] at this
  exact this
theorem Bx.addr (hb:b.Is D) (k:Nat) {p0:Addr} {s:wr.τ} (hk:K[k]? =some (.obj p0 (wr.inj s))) (h:∀o,p0=⟨o,0,none⟩→SW D P f R B n E G td L K):SW D P f R B n E G td L K:=by
 intro a w hF hS
 obtain ⟨_,q,_,h1,_⟩:=hS.get D hk
 simp only [den,hb.d] at h1
 obtain ⟨x,hx,_⟩:=h1
 exact h x.1 hx.1 a w hF hS
theorem range_get {m i:Nat} (h:i<m):(List.range' 1 m)[i]? =some (1+i):=by
 rw [List.getElem?_range' h];simp
theorem Bx.close_ok (hb:b.Is D) {o:Nat} {ad:Nat→Ad} {y:List (Cm σ)} {rest:List (Chunk σ)} {s:wr.τ} (hK:K=b.bk o ad 1 y++rest) (hn:noCells rest=true) (hf:fitsC (kds b.l) y=true) (hR:b.R s y)
 (h:SW D P f R B n E G td (clL 0 (List.range' 1 (nKs b.l)) L) ((setAll K .dead (List.range' 1 (nKs b.l))).set 0 (.obj ⟨o,0,none⟩ (wr.inj s)))):SW D P f R B n E G td L K:=by
 obtain ⟨h1,h2,_,_⟩:=tpC_ok ad b.l 1 0 y hb.c
 refine SW.close D 0 (List.range' 1 (nKs b.l)) (b:=o) (t:=b.t) (cs:=tpC (tps ad b.l 1 0 y)) (rs:=tpK (tps ad b.l 1 0 y)) (s:=wr.inj s) ?_ ?_ ?_ ?_ ?_ h
 ·rw [List.nodup_cons]
  exact ⟨λhm=>by rw [List.mem_range'] at hm;obtain ⟨i,_,e⟩:=hm;omega,List.nodup_range'⟩
 ·rw [hK];rfl
 ·intro i c hc
  have hl:=lt_of_get hc
  refine ⟨1+i,range_get (by omega),?_⟩
  rw [hK,Bx.bk,jM,Nat.add_comm,List.getElem?_cons_succ,iQ hl]
  exact hc
 ·intro j b' t' cs' hj e
  rw [hK,Bx.bk] at e
  cases j with
  |zero=>exact hj rfl
  |succ j=>
   rw [jM,List.getElem?_cons_succ] at e
   exact absurd rfl (noCells_mem (noCells_app h2 hn) _ (List.mem_of_getElem? e) b' t' cs')
 ·intro Y q hq
  rw [hb.d]
  refine ⟨(o,ad,y),⟨rfl,hf,hR⟩,?_⟩
  rw [Bx.bk_den hb.c DT D GT G o ad 1 1 y]
  exact hq
theorem Bx.fold (hb:b.Is D) {w:World} {o k:Nat} {ad:Nat→Ad} {y:List (Cm σ)} {s:wr.τ} {Bs:List Asn} (hf:fitsC (kds b.l) y=true) (hR:b.R s y) (h:Sat E G w ((b.bk o ad k y).map (den D G)++Bs)):Sat E G w (D ⟨o,0,none⟩ (wr.inj s)::Bs):=by
 rw [Bx.bk_den hb.c D DT G GT o ad k 1 y] at h
 rw [hb.d]
 exact Sat.to_exists_cons (p:= λx:Nat×(Nat→Ad)×List (Cm σ)=>(⟨o,0,none⟩:Addr)=⟨x.1,0,none⟩∧fitsC (kds b.l) x.2.2=true∧b.R s x.2.2) (A:= λx=>star ((b.bk x.1 x.2.1 1 x.2.2).map (den DT GT))) (o,ad,y) ⟨rfl,hf,hR⟩ h.star_append
theorem Bx.post (hb:b.Is D) {w:World} {o:Nat} {ad:Nat→Ad} {y:List (Cm σ)} {s:wr.τ} {out:List Value→Value} {rows:List (Mk σ)} {v:Value} {p:Pr} (hf:fitsC (kds b.l) y=true) (hR:b.R s y) (h:RetOk out (b.bk o ad 1 y) rows v p K) (hS:SatK D E G w K):
 Post D E G out [.obj ⟨o,0,none⟩ (wr.inj s)] rows (.returned v) w:=by
 obtain ⟨acs,h1,h2,h3⟩:=h.post D hS
 exact ⟨acs,h1,h2,Bx.fold D hb hf hR h3⟩
theorem Bx.post_new (hb:b.Is D) {w:World} {o:Nat} {ad:Nat→Ad} {y:List (Cm σ)} {s:wr.τ} {out:List Value→Value} {v:Value} {p:Pr} (hf:fitsC (kds b.l) y=true) (hR:b.R s y) (h:RetOk (λ_=> .pointer (some ⟨o,0,none⟩)) (b.bk o ad 1 y) [] v p K) (hS:SatK D E G w K)
 (ho:∀x,out [x]=x):Post D E G out [] [.obj (wr.inj s)] (.returned v) w:=by
 obtain ⟨acs,h1,h2,h3⟩:=h.post D hS
 cases acs with
 |cons _ _=>exact h1.elim
 |nil=>
  refine ⟨[(some o,0)],⟨⟨o,rfl⟩,trivial⟩,?_,?_⟩
  ·rw [h2];simp only [List.zipWith_cons_cons,List.zipWith_nil_right,ho];rfl
  ·simpa [sliceC,den] using Bx.fold D hb hf hR h3
end
structure Lf (σ:Type) where
 Q:Value→Pr→List (Chunk σ)→Prop
 l:Value→Pr→List (Chunk σ)→Ob σ
 r:Value→Pr→List (Chunk σ)→Ob σ
 b:Value→Pr→List (Chunk σ)→Bool
def Lf.lhs (lf:Lf σ) (hs:List (Hd σ)) (Q:Nat→List (Cm σ)→Prop) (t:Tree σ) (β:BF) (γ:GF):SmW σ:=(t.wp lf.Q (soQ hs Q) β γ,t.obl lf.l (soL hs) β γ,t.okb lf.b (soB hs) β γ)
def Lf.rhs (lf:Lf σ) (hs:List (Hd σ)) (t:Tree σ) (W:Prop) (β:BF) (γ:GF):SmW σ:=(W,t.obl lf.r (soR hs) β γ,true)
inductive Hop where
 |run
 |opn (k:Nat) (o:(Nat→Ad)→Nat) (j:Nat)
 |cls (j:Nat)
section
variable (b:Bx σ wr) (P:Program) (T:List (Nat×Entry σ)) (I:List Nat) (fuel:Nat) (fn:Func) (B:Code) (o:Nat) (lf:Lf σ) (hs:List (Hd σ)) (hk:List Hop) (Inv:Nat→List (Cm σ)→Prop) (ms:Nat→List (Cm σ)→Nat×Nat×Nat)
def stepH (j:Nat) (h:Hd σ):Prop:=
 match hk.getD j .run with
 | .run=>AllC h.kd λx=>Inv j x→∃W:Prop,(∀ad β γ,lf.lhs hs (λj' x'=>Inv j' x'∧lx (ms j' x') (ms j x)) (run P T (h.stp I) fuel B fn.results.toList fn.ntmps h.tds (h.L ad x) (h.K ad x)) β γ=
    lf.rhs hs (run P T (h.stp I) fuel B fn.results.toList fn.ntmps h.tds (h.L ad x) (h.K ad x)) W β γ)∧W
 | .opn k of j2=>match hs[j2]? with
   |some h2=>AllC h.kd λx=>Inv j x→∃s:wr.τ,(∀ad,(h.K ad x)[k]? =some (.obj ⟨of ad,0,none⟩ (wr.inj s)))∧AllC (kds b.l) λy=>b.R s y→∃W:Prop,(∀ad ad2,(soQ [h2] (λ_ x'=>Inv j2 x'∧lx (ms j2 x') (ms j x)) h.tds (opL k (h.L ad x)) (b.opK k (of ad) ad2 y (h.K ad x)),soL [h2] h.tds (opL k (h.L ad x)) (b.opK k (of ad) ad2 y (h.K ad x)),soB [h2] h.tds (opL k (h.L ad x)) (b.opK k (of ad) ad2 y (h.K ad x)))=
     (W,soR [h2] h.tds (opL k (h.L ad x)) (b.opK k (of ad) ad2 y (h.K ad x)),true))∧W
   |none=>False
 | .cls j2=>match hs[j2]? with
   |some h2=>AllC h.kd λx=>Inv j x→∃(s:wr.τ) (W:Prop),b.R s (x.take (nCs b.l))∧(∀ad,((h.K ad x).take (1+nKs b.l),noCells ((h.K ad x).drop (1+nKs b.l)),fitsC (kds b.l) (x.take (nCs b.l)),soQ [h2] (λ_ x'=>Inv j2 x'∧lx (ms j2 x') (ms j x)) h.tds (clL 0 (List.range' 1 (nKs b.l)) (h.L ad x)) ((setAll (h.K ad x) .dead (List.range' 1 (nKs b.l))).set 0 (.obj ⟨o,0,none⟩ (wr.inj s))),soL [h2] h.tds (clL 0 (List.range' 1 (nKs b.l)) (h.L ad x)) ((setAll (h.K ad x) .dead (List.range' 1 (nKs b.l))).set 0 (.obj ⟨o,0,none⟩ (wr.inj s))),soB [h2] h.tds (clL 0 (List.range' 1 (nKs b.l)) (h.L ad x)) ((setAll (h.K ad x) .dead (List.range' 1 (nKs b.l))).set 0 (.obj ⟨o,0,none⟩ (wr.inj s))))=
     (b.bk o ad 1 (x.take (nCs b.l)),true,true,W,soR [h2] h.tds (clL 0 (List.range' 1 (nKs b.l)) (h.L ad x)) ((setAll (h.K ad x) .dead (List.range' 1 (nKs b.l))).set 0 (.obj ⟨o,0,none⟩ (wr.inj s))),true))∧W
   |none=>False
def stepsH:List (Hd σ)→Nat→Prop
 |[],_=>True
 |h::r,j=>stepH b P T I fuel fn B o lf hs hk Inv ms j h∧stepsH r (j+1)
end
section
variable {b:Bx σ wr} {P:Program} {T:List (Nat×Entry σ)} {I:List Nat} {fuel:Nat} {fn:Func} {B:Code} {o:Nat} {lf:Lf σ} {hs:List (Hd σ)} {hk:List Hop} {Inv:Nat→List (Cm σ)→Prop} {ms:Nat→List (Cm σ)→Nat×Nat×Nat} {f:FuncId} {R:Ending→World→Prop} {E:Ev} {G:Hp}
theorem stepsH_get:∀{l:List (Hd σ)} {m i:Nat} {h:Hd σ},stepsH b P T I fuel fn B o lf hs hk Inv ms l m→l[i]? =some h→stepH b P T I fuel fn B o lf hs hk Inv ms (m+i) h
 |[],_,_,_,_,h=>by simp at h
 |h0::r,m,0,h,hs,hg=>by simp at hg;subst hg;exact hs.1
 |h0::r,m,i+1,h,hs,hg=>by
  have:=stepsH_get hs.2 (i:=i) (by simpa using hg)
  rw [show m+1+i=m+(i+1) by omega] at this
  exact this
theorem hcode_one {h:Hd σ} {j:Nat} (hc:hcode B hs=hcode' B hs) (hg:hs[j]? =some h):hcode B [h]=hcode' B [h]:=by
 simp only [hcode,hcode']
 cases ho:h.ops with
 |some i=>rfl
 |none=>rw [hcode_get hc hg ho]
def Lf.Ok (lf:Lf σ) (E:Ev) (G:Hp) (R:Ending→World→Prop):Prop:=∀v p K w,lf.l v p K=lf.r v p K→lf.b v p K=true→lf.Q v p K→SatK D E G w K→R (.returned v) w
theorem lf_go (hT:TableOk D P T) (hfn:P.funcs[f]? =some fn) (hmix:P.follows .mixedOrders=true) (hlf:lf.Ok D E G R) (hc:hcode B hs=hcode' B hs) {Q:Nat→List (Cm σ)→Prop}
 (H:∀j h,hs[j]? =some h→∀s,fitsC h.kd s=true→Q j s→∀ad,SW D P f R B fn.ntmps E G h.tds (h.L ad s) (h.K ad s)) {I:List Nat} {td:List Ab} {L:List Ent} {K:List (Chunk σ)} {W:Prop}
 (h:∀β γ,lf.lhs hs Q (run P T I fuel B fn.results.toList fn.ntmps td L K) β γ=lf.rhs hs (run P T I fuel B fn.results.toList fn.ntmps td L K) W β γ) (hW:W):SW D P f R B fn.ntmps E G td L K:=by
 refine SW.run D hT (I:=I) hfn hmix (R':= λv p K=>lf.l v p K=lf.r v p K∧lf.b v p K=true∧lf.Q v p K) (λv p K w h hS=>hlf v p K w h.1 h.2.1 h.2.2 hS) fuel rfl ?_
 refine Tree.wp_holds (RQ:=lf.Q) (SQ:=soQ hs Q) (roL:=lf.l) (roR:=lf.r) (soL:=soL hs) (soR:=soR hs) (rb:=lf.b) (sb:=soB hs)
  (λv p K h1 h2 h3=>⟨h1,h2,h3⟩) (λtd L K h1 h2 h3=>soQ_ok D hc h1 h2 h3 H) _ (λβ γ=>?_) (λβ γ=>congrArg (·.2.1) (h β γ)) (λβ γ=>congrArg (·.2.2) (h β γ))
 have:Tree.wp lf.Q (soQ hs Q) (run P T I fuel B fn.results.toList fn.ntmps td L K) β γ=W:=congrArg (·.1) (h β γ)
 rw [this];exact hW
theorem heads_ok (hb:b.Is D) (hT:TableOk D P T) (hfn:P.funcs[f]? =some fn) (hmix:P.follows .mixedOrders=true) (hlf:lf.Ok D E G R) (hc:hcode B hs=hcode' B hs) (hst:stepsH b P T I fuel fn B o lf hs hk Inv ms hs 0):
 ∀j h,hs[j]? =some h→∀s,fitsC h.kd s=true→Inv j s→∀ad,SW D P f R B fn.ntmps E G h.tds (h.L ad s) (h.K ad s):=by
 have loop:∀x:Nat×Nat×Nat,∀j h,hs[j]? =some h→∀s,fitsC h.kd s=true→Inv j s→ms j s=x→∀ad,SW D P f R B fn.ntmps E G h.tds (h.L ad s) (h.K ad s):=by
  refine lx_rec λx ih j h hg s hf hI hm ad=>?_
  have hq:=stepsH_get hst hg
  rw [jS] at hq
  have H':∀j' h',hs[j']? =some h'→∀s',fitsC h'.kd s'=true→(Inv j' s'∧lx (ms j' s') (ms j s))→∀ad',SW D P f R B fn.ntmps E G h'.tds (h'.L ad' s') (h'.K ad' s'):= λj' h' hg' s' hf' hI' ad'=>ih _ (by rw [←hm];exact hI'.2) j' h' hg' s' hf' hI'.1 rfl ad'
  unfold stepH at hq
  split at hq
  ·obtain ⟨W,hW1,hW2⟩:=hq.at s hf hI
   exact lf_go D hT hfn hmix hlf hc H' (hW1 ad) hW2
  ·rename_i k of j2 _
   split at hq
   ·rename_i h2 hg2
    obtain ⟨st,hk0,hq⟩:=hq.at s hf hI
    refine Bx.open_ok D hb k (hk0 ad) λo' ad2 y e hfy hRy=>?_
    injection e with e;subst e
    obtain ⟨W,hW1,hW2⟩:=hq.at y hfy hRy
    have e:=hW1 ad ad2
    simp only [iU] at e
    refine soQ_ok D (hs:=[h2]) (hcode_one hc hg2) e.2.1 e.2.2 (by rw [e.1];exact hW2) λj' h' hg' s' hf' hI' ad'=>?_
    cases j' with
    |zero=>simp at hg';subst hg';exact H' j2 _ hg2 s' hf' hI' ad'
    |succ j'=>simp at hg'
   ·exact hq.elim
  ·rename_i j2 _
   split at hq
   ·rename_i h2 hg2
    obtain ⟨st,W,hR,hW1,hW2⟩:=hq.at s hf hI
    have e:=hW1 ad
    simp only [iU] at e
    refine Bx.close_ok D hb (o:=o) (ad:=ad) (y:=s.take (nCs b.l)) (rest:=(h.K ad s).drop (1+nKs b.l)) (s:=st) (by rw [←e.1,List.take_append_drop]) e.2.1 e.2.2.1 hR ?_
    refine soQ_ok D (hs:=[h2]) (hcode_one hc hg2) e.2.2.2.2.1 e.2.2.2.2.2 (by rw [e.2.2.2.1];exact hW2) λj' h' hg' s' hf' hI' ad'=>?_
    cases j' with
    |zero=>simp at hg';subst hg';exact H' j2 _ hg2 s' hf' hI' ad'
    |succ j'=>simp at hg'
   ·exact hq.elim
 exact λj h hg s hf hI ad=>loop _ j h hg s hf hI rfl ad
end
def Bx.y (b:Bx σ wr) (v:Value) (p:Pr) (K:List (Chunk σ)):Dc σ:=(Sh.box b.t b.l).dc K v p
def Bx.y0 (b:Bx σ wr) (o:Nat) (K:List (Chunk σ)):Dc σ:=b.y (.pointer (some ⟨o,0,none⟩)) (.pt 0 (.cell 0)) K
def Bx.yK (b:Bx σ wr) (o:Nat) (y:Dc σ):List (Chunk σ):=b.bk o (adF y.ad.tail) 1 y.cs
section
variable (c:Ct σ) (b:Bx σ wr) (o:Nat) (cs:List (Cm σ)) (v:Value) (p:Pr) (K:List (Chunk σ))
def Ct.opR:Ty c.rs.kd:=ofCm c.rs.kd (c.rs.dc K v p).cs
def Ct.opM:List (Mk σ):=c.rs.mks (toCm c.rs.kd (c.opR v p K))
def Ct.opIs:List Nat:=fixIs 0 ((b.y0 o K).is++(c.rs.dc K v p).is)
def Ct.opTm:List (Chunk σ):=b.yK o (b.y0 o K)++List.zipWith ancC (c.opM v p K) (c.retAnc v p K)
def Ct.opl:Ob σ:=⟨[],v,[],lhsK K (c.opIs b o v p K) (c.opTm b o v p K)⟩
def Ct.opr:Ob σ:=⟨[],c.rs.out (toCm c.rs.kd (c.opR v p K)) (List.zipWith ancV (c.opM v p K) (c.retAnc v p K)),[],rhsK (c.opTm b o v p K)⟩
def Ct.opb:Bool:=nodupB (c.opIs b o v p K)&&ancOk (c.opM v p K) (c.retAnc v p K)&&Nat.beq (c.opIs b o v p K).length (c.opTm b o v p K).length&&fitsC (kds b.l) (b.y0 o K).cs
def selfLf (R:Ty c.RK→Prop) (O:List (Cm σ)→Ty c.rs.kd→Prop):Lf σ:=
 ⟨λv p K=>match isObj0 K with|true=>R (c.retR v p K)|false=>O (b.y0 o K).cs (c.opR v p K), λv p K=>bif isObj0 K then c.roL ⟨o,0,none⟩ cs v p K else c.opl b o v p K,
   λv p K=>bif isObj0 K then c.roR ⟨o,0,none⟩ cs v p K else c.opr b o v p K, λv p K=>bif isObj0 K then c.rob_ ⟨o,0,none⟩ cs v p K else c.opb b o v p K⟩
def newl:Ob σ:=⟨[],v,[],lhsK K (fixIs 0 (b.y v p K).is) (b.yK (adF (b.y v p K).ad 0).b (b.y v p K))⟩
def newr:Ob σ:=⟨[], .pointer (some ⟨(adF (b.y v p K).ad 0).b,0,none⟩),[],rhsK (b.yK (adF (b.y v p K).ad 0).b (b.y v p K))⟩
def newb:Bool:=nodupB (fixIs 0 (b.y v p K).is)&&Nat.beq (fixIs 0 (b.y v p K).is).length (b.yK (adF (b.y v p K).ad 0).b (b.y v p K)).length&&fitsC (kds b.l) (b.y v p K).cs
def newLf (O:List (Cm σ)→Prop):Lf σ:=⟨λv p K=>O (b.y v p K).cs,newl b,newr b,newb b⟩
end
def Ct.parts (c:Ct σ) (o:Nat) (cs:List (Cm σ)) (r:Ty c.RK):(List Value→Value)×List (Mk σ)×List (Chunk σ):=(c.outC r,c.mksC r,c.nwC ⟨o,0,none⟩ cs r)
theorem selfLf_ok {b:Bx σ wr} (hb:b.Is D) {c:Ct σ} {o:Nat} {cs:List (Cm σ)} {r:Ty c.RK} {s1:wr.τ} {rr:Ty c.rs.kd} (hp:c.parts o cs r=(c.rs.out (toCm c.rs.kd rr),c.rs.mks (toCm c.rs.kd rr),[.obj ⟨o,0,none⟩ (wr.inj s1)])) {E:Ev} {G:Hp}:
 (selfLf c b o cs (λx=>x=r) λy x=>b.R s1 y∧x=rr).Ok D E G (Post D E G (c.outC r) (c.nwC ⟨o,0,none⟩ cs r) (c.mksC r)):=by
 intro v p K w hl hbb hQ hS
 simp only [selfLf] at hl hbb hQ
 cases h0:isObj0 K with
 |true=>
  rw [h0] at hl hbb hQ
  simp only [cond_true] at hl hbb hQ
  have:=Ct.ret_ok hl hbb
  rw [hQ] at this
  exact this.post D hS
 |false=>
  rw [h0] at hl hbb hQ
  simp only [cond_false] at hl hbb hQ
  simp only [Ct.parts,iU] at hp
  rw [hp.1,hp.2.1,hp.2.2]
  simp only [Ct.opb,iK] at hbb
  simp only [Ct.opl,Ct.opr,Ob.mk.injEq] at hl
  rw [←hQ.2]
  exact Bx.post D hb (p:=p) hbb.2 hQ.1 ⟨c.retAnc v p K,c.opIs b o v p K,nodupB_ok hbb.1.1.1,hbb.1.1.2,hl.2.1,got_of hl.2.2.2 hbb.1.2⟩ hS
theorem newLf_ok {b:Bx σ wr} (hb:b.Is D) {c:Ct σ} {s1:wr.τ} {r:Ty c.RK} (h1:∀x,c.outC r [x]=x) (h2:c.mksC r=[.obj (wr.inj s1)]) {E:Ev} {G:Hp}:(newLf b λy=>b.R s1 y).Ok D E G (Post D E G (c.outC r) [] (c.mksC r)):=by
 intro v p K w hl hbb hQ hS
 simp only [newLf,newl,newr,Ob.mk.injEq] at hl
 simp only [newLf,newb,iK] at hbb
 rw [h2]
 have hg:=got_of hl.2.2.2 hbb.1.2
 exact Bx.post_new D hb (o:=(adF (b.y v p K).ad 0).b) (ad:=adF (b.y v p K).ad.tail) (p:=p) hbb.2 hQ ⟨[],fixIs 0 (b.y v p K).is,nodupB_ok hbb.1.1,rfl,hl.2.1,by simpa [Bx.yK] using hg⟩ hS h1
theorem AllC.imp:∀{ks:List (Kd σ)} {p q:List (Cm σ)→Prop},(∀cs,p cs→q cs)→AllC ks p→AllC ks q
 |[],_,_,h,hp=>h [] hp
 |_::_,_,_,h,hp=> λa=>AllC.imp (λcs=>h _) (hp a)
def Ct.sL (c:Ct σ) (p:Addr) (cs:List (Cm σ)) (ad:Nat→Ad):List Ent:=argEnts 0 (tpC (tps (adP p ad) c.full 0 0 cs))
def Ct.sK (c:Ct σ) (p:Addr) (cs:List (Cm σ)) (ad:Nat→Ad):List (Chunk σ):=tpK (tps (adP p ad) c.full 0 0 cs)
theorem ent_ob {c:Ct σ} {b:Bx σ wr} (hb:b.Is D) (beg:Bool) {P:Program} {T:List (Nat×Entry σ)} (hT:TableOk D P T) {I:List Nat} {f:FuncId} {fn:Func} {B:Code} (hfn:P.funcs[f]? =some fn) (hmix:P.follows .mixedOrders=true) (hB:fn.body=some B)
 (ha:isArgs c.ash=true) (hl:Nat.ble c.full.length fn.ntmps=true) {F:Cur c.AK (Ty c.RK)} {pre:Cur c.AK (List Prop)} (fuel:Nat)
 (H:∀o:Nat,AllC c.AK λcs=>bds c.full cs→(∀p∈appC c.AK pre cs,p)→∃(s0 s1:wr.τ) (rr:Ty c.rs.kd) (hs:List (Hd σ)) (hk:List Hop) (Inv:Nat→List (Cm σ)→Prop) (ms:Nat→List (Cm σ)→Nat×Nat×Nat),hcode B hs=hcode' B hs∧
   (∀p ad,(c.sK p cs ad)[0]? =some (.obj p (wr.inj s0)))∧
   c.parts o cs (appC c.AK F cs)=(c.rs.out (toCm c.rs.kd rr),c.rs.mks (toCm c.rs.kd rr),[.obj ⟨o,0,none⟩ (wr.inj s1)])∧
   (match beg with
     |false=>∃W:Prop,(∀ad β γ,(selfLf c b o cs (λx=>x=appC c.AK F cs) λy x=>b.R s1 y∧x=rr).lhs hs Inv (run P T I fuel B fn.results.toList fn.ntmps [.code []] (c.sL ⟨o,0,none⟩ cs ad) (c.sK ⟨o,0,none⟩ cs ad)) β γ=
       (selfLf c b o cs (λx=>x=appC c.AK F cs) λy x=>b.R s1 y∧x=rr).rhs hs (run P T I fuel B fn.results.toList fn.ntmps [.code []] (c.sL ⟨o,0,none⟩ cs ad) (c.sK ⟨o,0,none⟩ cs ad)) W β γ)∧W
     |true=>AllC (kds b.l) λy=>b.R s0 y→∃W:Prop,(∀ad ad2 β γ,(selfLf c b o cs (λx=>x=appC c.AK F cs) λy x=>b.R s1 y∧x=rr).lhs hs Inv (run P T I fuel B fn.results.toList fn.ntmps [.code []] (opL 0 (c.sL ⟨o,0,none⟩ cs ad)) (b.opK 0 o ad2 y (c.sK ⟨o,0,none⟩ cs ad))) β γ=
       (selfLf c b o cs (λx=>x=appC c.AK F cs) λy x=>b.R s1 y∧x=rr).rhs hs (run P T I fuel B fn.results.toList fn.ntmps [.code []] (opL 0 (c.sL ⟨o,0,none⟩ cs ad)) (b.opK 0 o ad2 y (c.sK ⟨o,0,none⟩ cs ad))) W β γ)∧W)∧
   stepsH b P T I fuel fn B o (selfLf c b o cs (λx=>x=appC c.AK F cs) λy x=>b.R s1 y∧x=rr) hs hk Inv ms hs 0):EntryOk D P f (entC c F pre):=by
 refine ent_of D (mk:=[]) hT (I:=I) hfn hmix hB ha hl 0 λp0=>?_
 by_cases hp:∃o,p0=⟨o,0,none⟩
 ·obtain ⟨o,rfl⟩:=hp
  refine AllC.imp (λcs hH hbd hpre ad E G=>?_) (H o)
  obtain ⟨s0,s1,rr,hs,hk,Inv,ms,hc,h0,hpt,hbg,hst⟩:=hH hbd hpre
  have hlf:=selfLf_ok D hb hpt (E:=E) (G:=G)
  have loop:=heads_ok D hb hT hfn hmix hlf hc hst
  show SW D P f _ B fn.ntmps E G [.code []] (c.sL ⟨o,0,none⟩ cs ad) (c.sK ⟨o,0,none⟩ cs ad)
  cases beg with
  |false=>
   obtain ⟨W,hW1,hW2⟩:=hbg
   exact lf_go D hT hfn hmix hlf hc loop (hW1 ad) hW2
  |true=>
   refine Bx.open_ok D hb 0 (h0 ⟨o,0,none⟩ ad) λo' ad2 y e hfy hRy=>?_
   injection e with e;subst e
   obtain ⟨W,hW1,hW2⟩:=hbg.at y hfy hRy
   exact lf_go D hT hfn hmix hlf hc loop (hW1 ad ad2) hW2
 ·refine AllC.imp (λcs hH hbd hpre ad E G=>?_) (H 0)
  obtain ⟨s0,s1,rr,hs,hk,Inv,ms,hc,h0,hpt,hbg,hst⟩:=hH hbd hpre
  show SW D P f _ B fn.ntmps E G [.code []] (c.sL p0 cs ad) (c.sK p0 cs ad)
  exact Bx.addr D hb 0 (h0 p0 ad) λo e=>absurd ⟨o,e⟩ hp
theorem ent_nw {c:Ct σ} {b:Bx σ wr} (hb:b.Is D) {P:Program} {T:List (Nat×Entry σ)} (hT:TableOk D P T) {I:List Nat} {f:FuncId} {fn:Func} {B:Code} (hfn:P.funcs[f]? =some fn) (hmix:P.follows .mixedOrders=true) (hB:fn.body=some B)
 (ha:isArgs c.ash=true) (hl:Nat.ble c.full.length fn.ntmps=true) {F:Cur c.AK (Ty c.RK)} {pre:Cur c.AK (List Prop)} (fuel:Nat)
 (H:∀p0:Addr,AllC c.AK λcs=>bds c.full cs→(∀p∈appC c.AK pre cs,p)→∃(s1:wr.τ) (hs:List (Hd σ)) (hk:List Hop) (Inv:Nat→List (Cm σ)→Prop) (ms:Nat→List (Cm σ)→Nat×Nat×Nat),hcode B hs=hcode' B hs∧
   (∀x,c.outC (appC c.AK F cs) [x]=x)∧c.mksC (appC c.AK F cs)=[.obj (wr.inj s1)]∧c.nwC p0 cs (appC c.AK F cs)=[]∧
   (∃W:Prop,(∀ad β γ,(newLf b λy=>b.R s1 y).lhs hs Inv (run P T I fuel B fn.results.toList fn.ntmps [.code []] (c.sL p0 cs ad) (c.sK p0 cs ad)) β γ=
     (newLf b λy=>b.R s1 y).rhs hs (run P T I fuel B fn.results.toList fn.ntmps [.code []] (c.sL p0 cs ad) (c.sK p0 cs ad)) W β γ)∧W)∧
   stepsH b P T I fuel fn B 0 (newLf b λy=>b.R s1 y) hs hk Inv ms hs 0):EntryOk D P f (entC c F pre):=by
 refine ent_of D (mk:=[]) hT (I:=I) hfn hmix hB ha hl 0 λp0=>?_
 refine AllC.imp (λcs hH hbd hpre ad E G=>?_) (H p0)
 obtain ⟨s1,hs,hk,Inv,ms,hc,h1,h2,h3,⟨W,hW1,hW2⟩,hst⟩:=hH hbd hpre
 have hlf:=newLf_ok D hb h1 h2 (E:=E) (G:=G)
 have loop:=heads_ok D hb hT hfn hmix hlf hc hst
 rw [h3]
 exact lf_go D hT hfn hmix hlf hc loop (hW1 ad) hW2
theorem ent_w0 {c:Ct σ} {P:Program} {T:List (Nat×Entry σ)} (hT:TableOk D P T) {I:List Nat} {f:FuncId} {fn:Func} {B:Code} (hfn:P.funcs[f]? =some fn) (hmix:P.follows .mixedOrders=true) (hB:fn.body=some B)
 (ha:isArgs c.ash=true) (hl:Nat.ble c.full.length fn.ntmps=true) {F:Cur c.AK (Ty c.RK)} {pre:Cur c.AK (List Prop)} (fuel:Nat)
 (H:∀p0,AllC c.AK λcs=>bds c.full cs→(∀p∈appC c.AK pre cs,p)→∃W:Prop,(∀ad β γ,c.lhsW p0 cs [] (λr=>r=appC c.AK F cs) (λ_ _=>False) (c.tree P T I fuel fn B p0 cs ad) β γ=c.rhsW p0 cs [] (c.tree P T I fuel fn B p0 cs ad) W β γ)∧W):EntryOk D P f (entC c F pre):=
 ent_wp D hT (I:=I) hfn hmix hB ha hl fuel λp0=>AllC.imp (λ_ h hb hp=>⟨[], λ_ _=>False, λ_ _=>(0,0,0),rfl,h hb hp,trivial⟩) (H p0)
end
end Go.Sl
namespace Go.Proofs.YtjfabjhlkpgckaaGreat
section
open Go.Sl
inductive Sg where
 |view (s:VS)
 |ref (s:VS)
 |any (A:List (LI)→Asn) (st:List (LI))
def bd32 (x:Int):Prop:=0≤x∧x<4294967296
abbrev bdL (xs:LI):Prop:=∀v∈xs,bd32 v
abbrev cX (cs:List (Cm Sg)) (i:Nat):Cm Sg:=cs.getD i (.b false)
structure VX where
 n:Int
 nw:Nat
 vals:LI
 fr:Int→Option Int
 nr:Nat
 reads:LI
 fp:Int→Option Int
 nq:Nat
 qc:LI
 qv:LI
 miss:Int
 stuck:Bool
def VX.of (cs:List (Cm Sg)):VX:=⟨(cX cs 0).iOf,(cX cs 1).nOf,(cX cs 2).liOf,(cX cs 3).mpOf,(cX cs 4).nOf,(cX cs 5).liOf,(cX cs 6).mpOf,(cX cs 7).nOf,(cX cs 8).liOf,(cX cs 9).liOf,(cX cs 10).iOf,(cX cs 11).bOf⟩
structure VOk (x:VX) (s:VS):Prop where
 n:s.n=x.n
 nr:x.nr=x.reads.length
 nq:x.nq=x.qc.length
 all:s.all=true
 nw:x.nw=x.vals.length
 len:x.n=x.vals.length
 src:∀i:Int,0≤i→i<x.n→s.src i=some (x.vals.getD i.toNat 0)
 bv:∀v∈x.vals,bd32 v
 reads:s.reads=x.reads
 fr:∀i,(x.fr i).getD 0=bif x.reads.contains i then 1 else 0
 wrote:s.wrote=x.qc
 ql:x.qv.length=x.qc.length
 fp:∀i,x.fp i=(x.qc.idxOf? i).map λk=>(k:Int)
 put:∀i,s.put i=(x.qc.idxOf? i).map λk=>x.qv.getD k 0
 bq:∀v∈x.qv,bd32 v
 miss:s.miss=bif x.stuck then x.miss else-1
 m0:x.stuck=true→0≤x.miss
 rl:x.reads.length≤x.n.toNat
 wl:x.qc.length≤x.n.toNat
 rn:x.reads.Nodup
 wn:x.qc.Nodup
 ri:∀i∈x.reads,0≤i∧i<x.n
 wi:∀i∈x.qc,0≤i∧i<x.n
 nb:x.n≤1000000
structure RX where
 n:Int
 nk:Nat
 knows:List Bool
 nv:Nat
 val:LI
 np:Nat
 isput:List Bool
 nt:Nat
 to:LI
 nr:Nat
 reads:LI
 nq:Nat
 wrote:LI
 miss:Int
 all:Bool
def RX.of (cs:List (Cm Sg)):RX:=⟨(cX cs 0).iOf,(cX cs 1).nOf,(cX cs 2).lbOf,(cX cs 3).nOf,(cX cs 4).liOf,(cX cs 5).nOf,(cX cs 6).lbOf,(cX cs 7).nOf,(cX cs 8).liOf,(cX cs 9).nOf,(cX cs 10).liOf,(cX cs 11).nOf,(cX cs 12).liOf,(cX cs 13).iOf,(cX cs 14).bOf⟩
structure Aj (x:RX) (s:VS):Prop where
 n:s.n=x.n
 all:s.all=x.all
 nk:x.nk=x.knows.length
 nv:x.nv=x.val.length
 np:x.np=x.isput.length
 nt:x.nt=x.to.length
 nr:x.nr=x.reads.length
 nq:x.nq=x.wrote.length
 lk:x.knows.length=x.n.toNat
 lv:x.val.length=x.n.toNat
 lp:x.isput.length=x.n.toNat
 lt:x.to.length=x.n.toNat
 src:∀i:Int,0≤i→i<x.n→s.src i=bif x.knows.getD i.toNat false then some (x.val.getD i.toNat 0) else none
 put:∀i:Int,0≤i→i<x.n→s.put i=bif x.isput.getD i.toNat false then some (x.to.getD i.toNat 0) else none
 bv:∀v∈x.val,bd32 v
 bt:∀v∈x.to,bd32 v
 reads:s.reads=x.reads
 wrote:s.wrote=x.wrote
 miss:s.miss=x.miss
 m0:x.miss= -1∨0≤x.miss
 nb:x.n≤1000000
 rl:x.reads.length≤x.n.toNat
 wl:x.wrote.length≤x.n.toNat
 rn:x.reads.Nodup
 wn:x.wrote.Nodup
 ri:∀i∈x.reads,0≤i∧i<x.n
 wi:∀i∈x.wrote,0≤i∧i<x.n∧x.isput.getD i.toNat false=true
 pw:∀i:Int,0≤i→i<x.n→x.isput.getD i.toNat false=true→i∈x.wrote
 ka:x.all=true→∀i:Int,0≤i→i<x.n→x.knows.getD i.toNat false=true
def wView:Wr Sg:=⟨VS, .view, λ
 | .view s=>s
 |_=>VS.whole [], λ
 | .view _=>true
 |_=>false,VS.whole [], λs h=>by cases s<;>first|rfl|cases h⟩
def bxV:Bx Sg wView:=⟨66,[.i .i64, .nxt 58, .own 60 [some .u32], .mp .i64 .i64, .own 3 [some .i64], .mp .i64 .i64, .own 95 [some .i64,some .u32], .i .i64, .b], λs y=>VOk (VX.of y) s⟩
def Ap:Wr Sg:=⟨VS, .ref, λ | .ref s=>s|_=>VS.whole [], λ | .ref _=>true|_=>false,VS.whole [], λs h=>by cases s<;>first|rfl|cases h⟩
def AB:Bx Sg Ap:=⟨70,[.i .i64, .own 4 [none], .own 60 [some .u32], .own 4 [none], .own 60 [some .u32], .own 3 [some .i64], .own 3 [some .i64], .i .i64, .b], λs y=>Aj (RX.of y) s⟩
def Dg (p:Addr):Sg→Asn
 | .view s=>bxV.A s p
 | .ref s=>AB.A s p
 | .any A st=>A st
theorem bxV_ok:bxV.Is Dg:=⟨rfl, λ_ _=>rfl⟩
theorem Dk:AB.Is Dg:=⟨rfl, λ_ _=>rfl⟩
theorem mix:Tryz.prog.follows .mixedOrders=true:=by kernel_rfl
abbrev Tb:=List (Nat×Entry Sg)
abbrev TOk (T:Tb):Prop:=TableOk Dg Tryz.prog T
abbrev EOk (n:Nat) (e:Entry Sg):Prop:=EntryOk Dg Tryz.prog n e
theorem tc_ {n:Nat} {e:Entry Sg} {T:Tb} (h:EOk n e) (h2:TOk T):TOk ((n,e)::T):=TableOk.cons Dg h h2
def T_nil:List (Nat×Entry Sg):=[]
theorem T_nil_ok:TableOk Dg Tryz.prog T_nil:=TableOk.nil Dg _
end
end Go.Proofs.YtjfabjhlkpgckaaGreat
namespace Go.Sl
section
theorem w64 {n:Int} (h: -9223372036854775808≤n∧n<9223372036854775808):iA iB n=n:=by rw [IntKind.wrap_i64];omega
theorem wu64 {n:Int} (h:0≤n∧n<18446744073709551616):iA IntKind.u64 n=n:=by rw [IntKind.wrap_u64];omega
theorem wu32 {n:Int} (h:0≤n∧n<4294967296):iA iO n=n:=by rw [IntKind.wrap_u32];omega
theorem pow2_pos (k:Nat):(0:Int)<2^k:=Int.pow_pos (by decide)
theorem pow2_le {k m:Nat} (h:k≤m):(2:Int)^k≤2^m:=by
 have:=Nat.pow_le_pow_right (n:=2) (by decide) h
 exact_mod_cast this
theorem getD_set (xs:LI) (i j:Nat) (v:Int) (hi:i<xs.length):(xs.set i v).getD j 0=if j=i then v else xs.getD j 0:=by
 rw [iI,List.getElem?_set]
 by_cases h:i=j
 ·subst h;simp [hi]
 ·rw [if_neg h,if_neg (λe=>h e.symm)];simp
theorem ext_getD {xs ys:LI} (hl:xs.length=ys.length) (h:∀j,j<xs.length→xs.getD j 0=ys.getD j 0):xs=ys:=by
 apply List.ext_getElem hl
 intro j h1 h2
 have:=h j h1
 rw [iI,iI,iR h1,iR h2] at this
 simpa using this
theorem toNat_succ {k:Int} (h:0≤k):(k+1).toNat=k.toNat+1:=by omega
end
end Go.Sl
namespace Go.Proofs.YtjfabjhlkpgckaaGreat
section
open Go.Sl Go.RowKit
theorem nodup_len:∀(n:Nat) (l:LI),l.Nodup→(∀x∈l,0≤x∧x<n)→l.length≤n
 |0,l,_,h=>by
  cases l with
  |nil=>simp
  |cons x r=>have:=h x (by simp);omega
 |n+1,l,hn,h=>by
  by_cases hm:(n:Int)∈l
  ·have h1:=nodup_len n (l.erase (n:Int)) (hn.erase _) λx hx=>by
    rw [hn.mem_erase_iff] at hx
    have:=h x hx.2
    have:x≠(n:Int):=hx.1
    omega
   rw [List.length_erase_of_mem hm] at h1
   omega
  ·have h1:=nodup_len n l hn λx hx=>by
    have:=h x hx
    have:x≠(n:Int):= λe=>hm (e▸hx)
    omega
   omega
theorem nodup_len' {n:Int} {l:LI} (hn:l.Nodup) (h:∀x∈l,0≤x∧x<n):l.length≤n.toNat:=by
 refine nodup_len n.toNat l hn λx hx=>?_
 have:=h x hx;omega
theorem nodup_snoc {l:LI} {i:Int} (h:l.Nodup) (hi:¬i∈l):(l++[i]).Nodup:=by
 rw [List.nodup_append]
 exact ⟨h,by simp, λa ha b hb=>by simp at hb;subst hb;exact λe=>hi (e▸ha)⟩
theorem idx_lt {l:LI} {i:Int} {k:Nat} (h:l.idxOf? i=some k):k<l.length∧l.getD k 0=i:=by
 rw [List.idxOf?_eq_some_iff] at h
 obtain ⟨h1,h2,_⟩:=h
 exact ⟨h1,by rw [iI,iR h1];simpa using h2⟩
theorem idx_none {l:LI} {i:Int} (h:l.idxOf? i=none):¬i∈l:=by
 rw [List.idxOf?_eq_none_iff] at h
 exact h
theorem idx_snoc (l:LI) (i j:Int) (hi:¬i∈l):(l++[i]).idxOf? j=bif j==i then some l.length else l.idxOf? j:=by
 rw [List.idxOf?,List.findIdx?_append]
 by_cases hj:j=i
 ·subst hj
  have:List.findIdx? (λx=>x==j) l=none:=by
   rw [List.findIdx?_eq_none_iff]
   intro x hx
   simp only [beq_eq_false_iff_ne,ne_eq]
   intro e;exact hi (e▸hx)
  rw [this]
  simp
 ·have:(j==i)=false:=by simpa using hj
  rw [this]
  have h2:List.findIdx? (λx=>x==j) [i]=none:=by
   rw [List.findIdx?_eq_none_iff]
   intro x hx
   simp at hx;subst hx
   simp;exact λe=>hj e.symm
  rw [h2]
  simp [List.idxOf?]
theorem getD_mem {l:LI} {k:Nat} (h:k<l.length):l.getD k 0∈l:=by
 rw [iI,iR h];exact List.getElem_mem h
theorem set_snoc (l:LI) (y:Int):(l++[0]).set l.length y=l++[y]:=by
 rw [List.set_append_right _ _ (Nat.le_refl _)];simp
theorem getD_snoc (l:LI) (y:Int) (j:Nat):(l++[y]).getD j 0=bif Nat.beq j l.length then y else l.getD j 0:=by
 by_cases h:j=l.length
 ·subst h;simp
 ·have e:Nat.beq j l.length=false:=by
   cases hb:Nat.beq j l.length with
   |false=>rfl
   |true=>exact absurd (iL hb) h
  rw [e]
  simp only [cond_false,iI]
  rcases jH j l.length with hl|hl
  ·rw [iQ hl]
  ·rw [jG (by simp;omega),jG hl]
section
variable {x:VX} {s:VS}
theorem VOk.there (ho:VOk x s) (i:Int):(true&&decide (i≥0)&&decide (i<x.n)&&!x.stuck)=s.there i:=by
 unfold VS.there
 rw [ho.n,ho.miss]
 cases hs:x.stuck with
 |false=>simp
 |true=>
  have:=ho.m0 hs
  simp;omega
theorem VOk.putSome (ho:VOk x s) {i:Int} {j:Nat} (h:x.qc.idxOf? i=some j):x.fp i=some (j:Int)∧s.put i=some (x.qv.getD j 0)∧j<x.nq∧j<x.qv.length∧nv (x.qv.getD j 0)=x.qv.getD j 0:=by
 obtain ⟨h1,h2⟩:=idx_lt h
 have hl:j<x.qv.length:=by rw [ho.ql];exact h1
 refine ⟨by rw [ho.fp,h];rfl,by rw [ho.put,h];rfl,by rw [ho.nq];exact h1,hl,nv_id (ho.bq _ (getD_mem hl))⟩
theorem VOk.putNone (ho:VOk x s) {i:Int} (h:x.qc.idxOf? i=none):x.fp i=none∧s.put i=none:=⟨by rw [ho.fp,h];rfl,by rw [ho.put,h];rfl⟩
theorem VOk.readIs (ho:VOk x s) (i:Int):((x.fr i).getD 0==0)=!s.reads.contains i:=by
 rw [ho.fr,ho.reads]
 cases x.reads.contains i<;>rfl
theorem VOk.more (ho:VOk x s) {i:Int} (h0:0≤i) (h1:i<x.n) (hc:s.reads.contains i=false):
 VOk {x with fr:=mupd x.fr i 1,nr:=x.nr+1,reads:=x.reads++[i]} {s with reads:=s.reads++[i]}:=by
 have hni:¬i∈x.reads:=by
  rw [ho.reads] at hc
  simpa using hc
 have hri:∀j∈x.reads++[i],0≤j∧j<x.n:= λj hj=>by
  simp only [jX,jL] at hj
  rcases hj with hj|rfl
  ·exact ho.ri j hj
  ·exact ⟨h0,h1⟩
 have hn:=nodup_snoc ho.rn hni
 exact {ho with
  nr:=by simp [ho.nr]
  reads:=by simp [ho.reads]
  fr:= λj=>by
   simp only [mupd]
   by_cases hj:j=i
   ·subst hj;simp
   ·have e:(j==i)=false:=by simpa using hj
    rw [e]
    simp only [cond_false,ho.fr]
    congr 1
    simp [hj]
  rl:=nodup_len' hn hri
  rn:=hn
  ri:=hri}
theorem VOk.missing (ho:VOk x s) {i:Int} (h0:0≤i):VOk {x with miss:=i,stuck:=true} {s with miss:=i}:=
 {ho with miss:=rfl,m0:= λ_=>h0}
theorem VOk.bound (ho:VOk x s):x.nr≤1000000∧x.nq≤1000000:=by
 have:=ho.rl;have:=ho.wl;have:=ho.nb;have:=ho.nr;have:=ho.nq
 omega
theorem VS.thereOf {s:VS} {i:Int} (h:s.there i=true):0≤i∧i<s.n:=by
 unfold VS.there at h
 simp only [iK,decide_eq_true_eq] at h
 exact ⟨h.1.1,h.1.2⟩
theorem VOk.putNew (ho:VOk x s) {i y:Int} (h0:0≤i) (h1:i<x.n) (hy:bd32 y) (hq:x.qc.idxOf? i=none):
 VOk {x with fp:=mupd x.fp i x.nq,nq:=x.nq+1,qc:=x.qc++[i],qv:=(x.qv++[0]).set (iJ (x.nq:Int)) y} {s with put:=mupd s.put i y,wrote:=s.wrote++[i]}:=by
 have hni:=idx_none hq
 have hwi:∀j∈x.qc++[i],0≤j∧j<x.n:= λj hj=>by
  simp only [jX,jL] at hj
  rcases hj with hj|rfl
  ·exact ho.wi j hj
  ·exact ⟨h0,h1⟩
 have hn:=nodup_snoc ho.wn hni
 have hqv:(x.qv++[0]).set (iJ (x.nq:Int)) y=x.qv++[y]:=by
  rw [jP,ho.nq,←ho.ql,set_snoc]
 rw [hqv]
 exact {ho with
  nq:=by simp [ho.nq]
  wrote:=by simp [ho.wrote]
  ql:=by simp [ho.ql]
  fp:= λj=>by
   simp only [mupd,idx_snoc _ _ _ hni]
   cases hj:j==i with
   |true=>simp [ho.nq]
   |false=>simpa using ho.fp j
  put:= λj=>by
   simp only [mupd,idx_snoc _ _ _ hni]
   cases hj:j==i with
   |true=>simp [←ho.ql]
   |false=>
    simp only [cond_false,ho.put]
    cases hjj:x.qc.idxOf? j with
    |none=>rfl
    |some m=>
     have:=idx_lt hjj
     simp only [iX,iG,getD_snoc]
     have e:Nat.beq m x.qv.length=false:=by
      cases hb:Nat.beq m x.qv.length with
      |false=>rfl
      |true=>have:=iL hb;have:=ho.ql;omega
     rw [e];rfl
  bq:= λv hv=>by
   simp only [jX,jL] at hv
   rcases hv with hv|rfl
   ·exact ho.bq v hv
   ·exact hy
  wl:=nodup_len' hn hwi
  wn:=hn
  wi:=hwi}
theorem VOk.putOld (ho:VOk x s) {i y:Int} {j:Nat} (hy:bd32 y) (hq:x.qc.idxOf? i=some j):
 VOk {x with qv:=x.qv.set (iJ (j:Int)) y} {s with put:=mupd s.put i y}:=by
 obtain ⟨h1,h2⟩:=idx_lt hq
 rw [jP]
 exact {ho with
  ql:=by simp [ho.ql]
  put:= λm=>by
   simp only [mupd]
   by_cases hm:m=i
   ·subst hm
    simp only [beq_self_eq_true,cond_true,hq,iX]
    rw [getD_set _ _ _ _ (by rw [ho.ql];exact h1)];simp
   ·have e:(m==i)=false:=by simpa using hm
    rw [e]
    simp only [cond_false,ho.put]
    cases hmm:x.qc.idxOf? m with
    |none=>rfl
    |some q=>
     have hqq:=idx_lt hmm
     simp only [iX,iG]
     rw [getD_set _ _ _ _ (by rw [ho.ql];exact h1),if_neg]
     intro e2
     subst e2
     exact hm (hqq.2.symm.trans h2)
  bq:= λv hv=>by
   rcases List.mem_or_eq_of_mem_set hv with hv|rfl
   ·exact ho.bq v hv
   ·exact hy}
theorem VOk.puts {x:VX} {s:VS} (ho:VOk x s):x.qv=s.puts:=by
 unfold VS.puts
 rw [ho.wrote]
 apply List.ext_getElem (by simp [ho.ql])
 intro j h1 h2
 have hjq:j<x.qc.length:=by rw [←ho.ql];exact h1
 simp only [List.getElem_map,ho.put]
 have hi:x.qc.idxOf? x.qc[j]=some j:=by
  rw [List.idxOf?_eq_some_iff]
  refine ⟨hjq,rfl, λm hm e=>?_⟩
  have a:=ho.wn.idxOf_getElem m (by omega)
  have b:=ho.wn.idxOf_getElem j hjq
  rw [e] at a;omega
 rw [hi]
 simp [iI,h1]
end
theorem take_snoc {xs:LI} {k:Nat} (h:k<xs.length):xs.take (k+1)=xs.take k++[xs.getD k 0]:=by
 rw [List.take_add_one,iI,iR h];rfl
def VS.blank (n:Int):VS:=⟨n,false,mnil,mnil,[],[], -1⟩
theorem rep_snoc {α:Type} (n:Nat) (x:α):jU n x++[x]=jU (n+1) x:=by rw [List.replicate_succ']
theorem rep_getD {n j:Nat}:(jU n false).getD j false=false:=by
 rw [iI,List.getElem?_replicate]
 split<;>rfl
theorem contains_of {xs:LI} {i:Int} {j:Nat} (h:j<xs.length) (e:xs.getD j 0=i):xs.contains i=true:=by
 rw [List.contains_iff_mem]
 rw [iI,iR h] at e
 simp only [Option.getD_some] at e
 exact e▸List.getElem_mem h
theorem contains_not {xs:LI} {i:Int} (h:∀j:Nat,j<xs.length→xs.getD j 0≠i):xs.contains i=false:=by
 cases hc:xs.contains i with
 |false=>rfl
 |true=>
  rw [List.contains_iff_mem] at hc
  obtain ⟨j,hj,e⟩:=List.getElem_of_mem hc
  exact absurd (by rw [iI,iR hj];exact e) (h j hj)
section
variable {x:RX} {s:VS}
theorem Aj.bound (ho:Aj x s):x.nr≤1000000∧x.nq≤1000000:=by
 have:=ho.rl;have:=ho.wl;have:=ho.nb;have:=ho.nr;have:=ho.nq
 omega
theorem Aj.there (ho:Aj x s) (i:Int):(decide (i<0)||decide (i≥x.n)||decide (x.miss≥0))=!s.there i:=by
 unfold VS.there
 rw [ho.n,ho.miss]
 apply Bool.eq_iff_iff.2
 simp only [Bool.or_eq_true,decide_eq_true_eq,jB,Bool.and_eq_false_iff,decide_eq_false_iff_not]
 omega
theorem Aj.more (ho:Aj x s) {i:Int} (h0:0≤i) (h1:i<x.n) (hc:s.reads.contains i=false):
 Aj {x with nr:=x.nr+1,reads:=x.reads++[i]} {s with reads:=s.reads++[i]}:=by
 have hni:¬i∈x.reads:=by
  rw [ho.reads] at hc
  simpa using hc
 have hri:∀j∈x.reads++[i],0≤j∧j<x.n:= λj hj=>by
  simp only [jX,jL] at hj
  rcases hj with hj|rfl
  ·exact ho.ri j hj
  ·exact ⟨h0,h1⟩
 have hn:=nodup_snoc ho.rn hni
 exact {ho with
  nr:=by simp [ho.nr]
  reads:=by simp [ho.reads]
  rl:=nodup_len' hn hri
  rn:=hn
  ri:=hri}
theorem Aj.missing (ho:Aj x s) {i:Int} (h0:0≤i):Aj {x with miss:=i} {s with miss:=i}:=
 {ho with miss:=rfl,m0:= .inr h0}
theorem CW (xs:List Bool) (i j:Nat) (v:Bool) (hi:i<xs.length):(xs.set i v).getD j false=if j=i then v else xs.getD j false:=by
 rw [iI,List.getElem?_set]
 by_cases h:i=j
 ·subst h;simp [hi]
 ·rw [if_neg h,if_neg (λe=>h e.symm)];simp
theorem Aj.putNew (ho:Aj x s) {i y:Int} (h0:0≤i) (h1:i<x.n) (hy:bd32 y) (hq:x.isput.getD i.toNat false=false):
 Aj {x with isput:=x.isput.set i.toNat true,to:=x.to.set i.toNat y,nq:=x.nq+1,wrote:=x.wrote++[i]} {s with put:=mupd s.put i y,wrote:=s.wrote++[i]}:=by
 have m3:=ho.lp;have m4:=ho.lt
 have hni:¬i∈x.wrote:= λh=>by have:=(ho.wi i h).2.2;rw [hq] at this;cases this
 have hset:∀j:Int,0≤j→(x.isput.set i.toNat true).getD j.toNat false=if j=i then true else x.isput.getD j.toNat false:= λj hj=>by
  rw [CW _ _ _ _ (by omega)]
  by_cases e:j=i
  ·subst e;simp
  ·rw [if_neg (by omega),if_neg e]
 have hwi:∀j∈x.wrote++[i],0≤j∧j<x.n∧(x.isput.set i.toNat true).getD j.toNat false=true:= λj hj=>by
  simp only [jX,jL] at hj
  rcases hj with hj|rfl
  ·obtain ⟨a1,a2,a3⟩:=ho.wi j hj
   refine ⟨a1,a2,?_⟩
   rw [hset j a1,a3];simp
  ·exact ⟨h0,h1,by rw [hset j h0];simp⟩
 have hn:=nodup_snoc ho.wn hni
 exact {ho with
  np:=by simp [ho.np]
  nt:=by simp [ho.nt]
  nq:=by simp [ho.nq]
  lp:=by simp [ho.lp]
  lt:=by simp [ho.lt]
  put:= λj hj hj1=>by
   simp only [mupd]
   rw [hset j hj,getD_set _ _ _ _ (by omega)]
   by_cases e:j=i
   ·subst e;simp
   ·have e1:(j==i)=false:=by simpa using e
    rw [e1,if_neg e,if_neg (by omega)]
    simpa using ho.put j hj hj1
  bt:= λv hv=>by
   rcases List.mem_or_eq_of_mem_set hv with hv|rfl
   ·exact ho.bt v hv
   ·exact hy
  wrote:=by simp [ho.wrote]
  wl:=nodup_len' hn λj hj=>⟨(hwi j hj).1,(hwi j hj).2.1⟩
  wn:=hn
  wi:=hwi
  pw:= λj hj hj1 hjp=>by
   rw [hset j hj] at hjp
   by_cases e:j=i
   ·simp [e]
   ·rw [if_neg e] at hjp
    simp [ho.pw j hj hj1 hjp]}
theorem Aj.putOld (ho:Aj x s) {i y:Int} (h0:0≤i) (h1:i<x.n) (hy:bd32 y) (hq:x.isput.getD i.toNat false=true):
 Aj {x with isput:=x.isput.set i.toNat true,to:=x.to.set i.toNat y} {s with put:=mupd s.put i y}:=by
 have m3:=ho.lp;have m4:=ho.lt
 have hset:∀j:Int,0≤j→(x.isput.set i.toNat true).getD j.toNat false=x.isput.getD j.toNat false:= λj hj=>by
  rw [CW _ _ _ _ (by omega)]
  by_cases e:j.toNat=i.toNat
  ·rw [if_pos e,e,hq]
  ·rw [if_neg e]
 exact {ho with
  np:=by simp [ho.np]
  nt:=by simp [ho.nt]
  lp:=by simp [ho.lp]
  lt:=by simp [ho.lt]
  put:= λj hj hj1=>by
   simp only [mupd]
   rw [hset j hj,getD_set _ _ _ _ (by omega)]
   by_cases e:j=i
   ·subst e;rw [hq];simp
   ·have e1:(j==i)=false:=by simpa using e
    rw [e1,if_neg (by omega)]
    simpa using ho.put j hj hj1
  bt:= λv hv=>by
   rcases List.mem_or_eq_of_mem_set hv with hv|rfl
   ·exact ho.bt v hv
   ·exact hy
  wi:= λj hj=>by
   obtain ⟨a1,a2,a3⟩:=ho.wi j hj
   exact ⟨a1,a2,by rw [hset j a1,a3]⟩
  pw:= λj hj hj1 hjp=>by
   rw [hset j hj] at hjp
   exact ho.pw j hj hj1 hjp}
theorem Aj.fill {x:RX} {s:VS} (ho:Aj x s) {i y:Int} (h0:0≤i) (h1:i<x.n) (hy:bd32 y):
 Aj {x with knows:=x.knows.set i.toNat true,val:=x.val.set i.toNat y} {s with src:=mupd s.src i y}:=by
 have m3:=ho.lk;have m4:=ho.lv
 exact {ho with
  nk:=by simp [ho.nk]
  nv:=by simp [ho.nv]
  lk:=by simp [ho.lk]
  lv:=by simp [ho.lv]
  src:= λj hj hj1=>by
   simp only [mupd]
   rw [CW _ _ _ _ (by omega),getD_set _ _ _ _ (by omega)]
   by_cases e:j=i
   ·subst e;simp
   ·have e1:(j==i)=false:=by simpa using e
    rw [e1,if_neg (by omega),if_neg (by omega)]
    simpa using ho.src j hj hj1
  bv:= λv hv=>by
   rcases List.mem_or_eq_of_mem_set hv with hv|rfl
   ·exact ho.bv v hv
   ·exact hy
  ka:= λha j hj hj1=>by
   rw [CW _ _ _ _ (by omega)]
   by_cases e:j.toNat=i.toNat
   ·rw [if_pos e]
   ·rw [if_neg e];exact ho.ka ha j hj hj1}
end
def WI (xs:LI) (i:Nat) (x:RX):Prop:=∃g:Int→Option Int,Aj x {VS.blank xs.length with src:=g}∧∀j:Int,0≤j→j<xs.length→g j=if j<i then some (xs.getD j.toNat 0) else none
section
variable {xs:LI} {x:RX} {i:Nat}
theorem WI.start (ho:Aj x (VS.blank xs.length)):WI xs 0 x:=
 ⟨mnil,ho, λj hj _=>by rw [if_neg (by omega)];rfl⟩
theorem WI.len (h:WI xs i x):x.nk=xs.length∧x.nv=xs.length∧x.n=xs.length:=by
 obtain ⟨g,h,_⟩:=h
 have a:=h.nk;have b:=h.nv;have c:=h.lk;have d:=h.lv
 have e:(xs.length:Int)=x.n:=h.n
 omega
theorem WI.step (h:WI xs i x) (hi:i<xs.length) (hb:∀v∈xs,bd32 v):WI xs (i+1) {x with knows:=x.knows.set i true,val:=x.val.set i (xs.getD i 0)}:=by
 have hn:=h.len.2.2
 obtain ⟨g,ho,hg⟩:=h
 refine ⟨_,ho.fill (i:=i) (y:=xs.getD i 0) (by omega) (by rw [hn];omega) (hb _ (getD_mem hi)), λj hj hj1=>?_⟩
 simp only [mupd]
 by_cases e:j=i
 ·subst e;rw [if_pos (by omega)];simp
 ·have e1:(j==(i:Int))=false:=by simpa using e
  rw [e1]
  simp only [cond_false]
  rw [hg j hj hj1]
  by_cases e2:j<i
  ·rw [if_pos e2,if_pos (by omega)]
  ·rw [if_neg e2,if_neg (by omega)]
theorem WI.done (h:WI xs xs.length x):Aj {x with all:=true} (VS.whole xs):=by
 have hn:=h.len.2.2
 obtain ⟨g,ho,hg⟩:=h
 exact {ho with
  all:=rfl
  src:= λj hj hj1=>by
   have hj1':j<x.n:=hj1
   rw [hn] at hj1'
   rw [←ho.src j hj hj1]
   show (VS.whole xs).src j=g j
   rw [hg j hj hj1',if_pos hj1']
   have e1:decide (0≤j)=true:=by simpa using hj
   have e2:decide (j<(xs.length:Int))=true:=by simpa using hj1'
   simp only [VS.whole,e1,e2,Bool.and_self,cond_true]
  ka:= λ_ j hj hj1=>by
   have hj1':j<x.n:=hj1
   have e:g j=_:=ho.src j hj hj1
   rw [hn] at hj1'
   rw [hg j hj hj1',if_pos hj1'] at e
   cases hk:x.knows.getD j.toNat false with
   |true=>rfl
   |false=>rw [hk] at e;cases e}
end
theorem JR {x:RX} {s:VS} (ho:Aj x s):(x.wrote,x.wrote.map λj=>x.to.getD j.toNat 0)=(s.wrote,s.puts):=by
 unfold VS.puts
 rw [ho.wrote]
 congr 1
 apply List.map_congr_left
 intro i hi
 obtain ⟨h0,h1,h2⟩:=ho.wi i hi
 rw [ho.put i h0 h1,h2]
 rfl
end
section
open Go.Sl
theorem row_none {G:Hp} {n:Nat} {cols:List Col} (h:RowAt G none n cols):n=0:=by
 rcases Nat.eq_zero_or_pos n with h0|h0
 ·exact h0
 ·obtain ⟨b,hb,_⟩:=h.2.1 0 h0
  cases hb
theorem row_two {G:Hp} {a:Option Addr} {n:Nat} {k k':IntKind} {xs ys:LI} (h:RowAt G a n [.ints k xs, .ints k' ys]):n=ys.length:=(h.1 (.ints k' ys) (by simp)).symm
def cloneVals (xs:LI):LI:=(xs)
def cloneVals_out (r_:LI):List Value→Value:= λss=>ss.getD 0 undef
def cloneVals_nw (r_:LI):List (Chunk Sg):=[]
def cloneVals_rows (r_:LI):List (Mk Sg):=[.row 60 [.ints .u32 (r_)]]
section
variable (xs:LI) (a_0:Option Addr) (c_0:Nat)
def cloneVals_wp0 (xs:LI) (a_0:Option Addr) (c_0:Nat) (R_:LI→Prop):Prop:=(((Option.isNone a_0)=true→(R_ ([])))∧((Option.isNone a_0)=false→(∀b1_0:Nat,(((0+iC xs)*4≤140737488355328)∧(((0+iC xs)*4≤140737488355328)→(∀(b3_0:Option Nat) (b3_1:Nat),(R_ ([]++xs))))))))
theorem cloneVals_calls {E_:Ev} {G_:Hp} {w_:World} (hr0:RowAt G_ a_0 xs.length [.ints .u32 xs]∧xs.length≤c_0) (hp0:xs.length*16≤140737488355328) (hS:Sat E_ G_ w_ []):Calls Tryz.prog 25 #[(.slice a_0 xs.length c_0)] w_ (Post Dg E_ G_ (cloneVals_out (cloneVals xs)) (cloneVals_nw (cloneVals xs)) (cloneVals_rows (cloneVals xs))):=by
 have h:cloneVals_wp0 xs a_0 c_0 (λx=>x=(cloneVals xs)):=by
  unfold cloneVals_wp0
  refine ⟨λh=>?_, λ_ _=>⟨by simp only [jS];omega, λ_ _ _=>by simp [cloneVals]⟩⟩
  cases a_0 with
  |some b=>simp at h
  |none=>
   have hz:=row_none hr0.1
   have hx:xs=[]:=List.eq_nil_of_length_eq_zero hz
   subst hx
   rfl
 exact calls_post Dg T_nil_ok (I:=[]) Tryz.func25 mix (B:=bodyOf Tryz.f25) (by kernel_rfl) [(.slice a_0 xs.length c_0)] [.pt 0 .slice] (by kernel_rfl) (objs:=[]) (ros:=[.ro a_0 xs.length c_0 [.ints .u32 xs]]) (psOk_cons (pOk_at rfl rfl) (psOk_nil)) (by kernel_rfl) (⟨hr0,trivial⟩) hS 400
  (t:=Tree.br (Option.isNone a_0) (Tree.ret (iD none 0 0) pn_ [Chunk.ro a_0 (iC xs) c_0 [cu_ xs]]) (Tree.fresh λb=>Tree.need ((0+iC xs)*4≤140737488355328) (Tree.freshS λa cap=>Tree.ret (vs_ (ob_ a) (0+iC xs) cap) (ps_ 2) [Chunk.ro a_0 (iC xs) c_0 [cu_ xs],Chunk.dead,kr_ a 60 (0+iC xs) cap [cu_ ([]++xs)]])))
  (by kernel_rfl)
  (⟨λz0=>RetOk.at (outf:=cloneVals_out) (nwf:=cloneVals_nw) (rowsf:=cloneVals_rows) (r:=[]) (h.1 z0) ⟨[(none,0,0,none)],[1000],(by decide),rfl,rfl,⟨.inr (by kernel_rfl),trivial⟩⟩, λz0=> λb1_0=>⟨((h.2 z0) b1_0).1, λz2=> λb3_0 b3_1=>RetOk.at (outf:=cloneVals_out) (nwf:=cloneVals_nw) (rowsf:=cloneVals_rows) (r:=[]++xs) ((((h.2 z0) b1_0).2 z2) b3_0 b3_1) ⟨[(b3_0,0+iC xs,b3_1,none)],[2],(by decide),rfl,rfl,⟨.inl rfl,trivial⟩⟩⟩⟩)
end
def cloneVals_e:Entry Sg:= λ
 |[(_, .row n_0 [.ints .u32 xs])]=>some ⟨(cloneVals xs), λ(r_:LI)=>⟨[(xs.length*16≤140737488355328:Prop)],none,[.row 60 [.ints .u32 (r_)]], λss=>ss.getD 0 undef, λk_=> .pt k_ .slice⟩⟩
 |_=>none
theorem cloneVals_ok:EntryOk Dg Tryz.prog 25 cloneVals_e:=by
 intro args c r h hr_
 unfold cloneVals_e at h
 split at h
 ·injection h with h;subst h;subst hr_
  refine ⟨(by
  intro K acs hl
  match acs,hl with
  |[a0_],hl=>
   simp only [acsOk,acOk] at hl
   simp [pOk,psOk,cOk,sliceC,sliceV,sliceVal,lenC,Col.len,fzB,Col.isFz]), λhpre E G w hi hS=>?_⟩
  have hi_0:=hi _ (List.mem_of_getElem? (i:=0) rfl)
  simp only [iOk,isOk,and_true,true_and] at hi_0
  obtain ⟨a_0,c_0,e_0,hr0⟩:=hi_0
  replace hr0:=And.intro hr0.1 hr0.2.1
  have l_0:=hr0.1.len
  simp only [Col.len] at l_0
  subst l_0
  subst e_0
  exact entry_post Dg (by exact rfl) (cloneVals_calls _ _ _ hr0 (hpre _ (by simp)) hS)
 ·cases h
def T_cloneVals:List (Nat×Entry Sg):=(25,cloneVals_e)::T_nil
theorem T_cloneVals_ok:TableOk Dg Tryz.prog T_cloneVals:=TableOk.cons Dg cloneVals_ok T_nil_ok
def Bv (xs:LI):LI:=(xs)
def BZ (r_:LI):List Value→Value:= λss=>ss.getD 0 undef
def CO (r_:LI):List (Chunk Sg):=[]
def BL (r_:LI):List (Mk Sg):=[.row 3 [.ints .i64 (r_)]]
section
variable (xs:LI) (a_0:Option Addr) (c_0:Nat)
def DD (xs:LI) (a_0:Option Addr) (c_0:Nat) (R_:LI→Prop):Prop:=(((Option.isNone a_0)=true→(R_ ([])))∧((Option.isNone a_0)=false→(∀b1_0:Nat,(((0+iC xs)*8≤140737488355328)∧(((0+iC xs)*8≤140737488355328)→(∀(b3_0:Option Nat) (b3_1:Nat),(R_ ([]++xs))))))))
theorem FZ {E_:Ev} {G_:Hp} {w_:World} (hr0:RowAt G_ a_0 xs.length [.ints .i64 xs]∧xs.length≤c_0) (hp0:xs.length*16≤140737488355328) (hS:Sat E_ G_ w_ []):Calls Tryz.prog 45 #[(.slice a_0 xs.length c_0)] w_ (Post Dg E_ G_ (BZ (Bv xs)) (CO (Bv xs)) (BL (Bv xs))):=by
 have h:DD xs a_0 c_0 (λx=>x=(Bv xs)):=by
  unfold DD
  refine ⟨λh=>?_, λ_ _=>⟨by simp only [jS];omega, λ_ _ _=>by simp [Bv]⟩⟩
  cases a_0 with
  |some b=>simp at h
  |none=>
   have hz:=row_none hr0.1
   have hx:xs=[]:=List.eq_nil_of_length_eq_zero hz
   subst hx
   rfl
 exact calls_post Dg T_cloneVals_ok (I:=[]) Tryz.func45 mix (B:=bodyOf Tryz.f45) (by kernel_rfl) [(.slice a_0 xs.length c_0)] [.pt 0 .slice] (by kernel_rfl) (objs:=[]) (ros:=[.ro a_0 xs.length c_0 [.ints .i64 xs]]) (psOk_cons (pOk_at rfl rfl) (psOk_nil)) (by kernel_rfl) (⟨hr0,trivial⟩) hS 400
  (t:=Tree.br (Option.isNone a_0) (Tree.ret (iD none 0 0) pn_ [Chunk.ro a_0 (iC xs) c_0 [ci_ xs]]) (Tree.fresh λb=>Tree.need ((0+iC xs)*8≤140737488355328) (Tree.freshS λa cap=>Tree.ret (vs_ (ob_ a) (0+iC xs) cap) (ps_ 2) [Chunk.ro a_0 (iC xs) c_0 [ci_ xs],Chunk.dead,kr_ a 3 (0+iC xs) cap [ci_ ([]++xs)]])))
  (by kernel_rfl)
  (⟨λz0=>RetOk.at (outf:=BZ) (nwf:=CO) (rowsf:=BL) (r:=[]) (h.1 z0) ⟨[(none,0,0,none)],[1000],(by decide),rfl,rfl,⟨.inr (by kernel_rfl),trivial⟩⟩, λz0=> λb1_0=>⟨((h.2 z0) b1_0).1, λz2=> λb3_0 b3_1=>RetOk.at (outf:=BZ) (nwf:=CO) (rowsf:=BL) (r:=[]++xs) ((((h.2 z0) b1_0).2 z2) b3_0 b3_1) ⟨[(b3_0,0+iC xs,b3_1,none)],[2],(by decide),rfl,rfl,⟨.inl rfl,trivial⟩⟩⟩⟩)
end
def Di:Entry Sg:= λ
 |[(_, .row n_0 [.ints .i64 xs])]=>some ⟨(Bv xs), λ(r_:LI)=>⟨[(xs.length*16≤140737488355328:Prop)],none,[.row 3 [.ints .i64 (r_)]], λss=>ss.getD 0 undef, λk_=> .pt k_ .slice⟩⟩
 |_=>none
theorem Jb:EntryOk Dg Tryz.prog 45 Di:=by
 intro args c r h hr_
 unfold Di at h
 split at h
 ·injection h with h;subst h;subst hr_
  refine ⟨(by
  intro K acs hl
  match acs,hl with
  |[a0_],hl=>
   simp only [acsOk,acOk] at hl
   simp [pOk,psOk,cOk,sliceC,sliceV,sliceVal,lenC,Col.len,fzB,Col.isFz]), λhpre E G w hi hS=>?_⟩
  have hi_0:=hi _ (List.mem_of_getElem? (i:=0) rfl)
  simp only [iOk,isOk,and_true,true_and] at hi_0
  obtain ⟨a_0,c_0,e_0,hr0⟩:=hi_0
  replace hr0:=And.intro hr0.1 hr0.2.1
  have l_0:=hr0.1.len
  simp only [Col.len] at l_0
  subst l_0
  subst e_0
  exact entry_post Dg (by exact rfl) (FZ _ _ _ hr0 (hpre _ (by simp)) hS)
 ·cases h
def ET:List (Nat×Entry Sg):=(45,Di)::T_cloneVals
theorem Dl:TableOk Dg Tryz.prog ET:=TableOk.cons Dg Jb T_cloneVals_ok
def clonePairs (xs ys:LI):LI×LI:=(xs,ys)
def clonePairs_out (r_:LI×LI):List Value→Value:= λss=>ss.getD 0 undef
def clonePairs_nw (r_:LI×LI):List (Chunk Sg):=[]
def clonePairs_rows (r_:LI×LI):List (Mk Sg):=[.row 95 [.ints .i64 (r_.1), .ints .u32 (r_.2)]]
section
variable (xs ys:LI) (a_0:Option Addr) (c_0:Nat)
def clonePairs_wp0 (xs ys:LI) (a_0:Option Addr) (c_0:Nat) (R_:LI×LI→Prop):Prop:=(((Option.isNone a_0)=true→(R_ (([],[]))))∧((Option.isNone a_0)=false→(∀b1_0:Nat,(((0+iC xs)*16≤140737488355328)∧(((0+iC xs)*16≤140737488355328)→(∀(b3_0:Option Nat) (b3_1:Nat),(R_ (([]++xs,[]++ys)))))))))
theorem clonePairs_calls {E_:Ev} {G_:Hp} {w_:World} (hr0:RowAt G_ a_0 xs.length [.ints .i64 xs, .ints .u32 ys]∧xs.length≤c_0) (hp0:xs.length*16≤140737488355328) (hS:Sat E_ G_ w_ []):Calls Tryz.prog 46 #[(.slice a_0 xs.length c_0)] w_ (Post Dg E_ G_ (clonePairs_out (clonePairs xs ys)) (clonePairs_nw (clonePairs xs ys)) (clonePairs_rows (clonePairs xs ys))):=by
 have h:clonePairs_wp0 xs ys a_0 c_0 (λx=>x=(clonePairs xs ys)):=by
  unfold clonePairs_wp0
  refine ⟨λh=>?_, λ_ _=>⟨by simp only [jS];omega, λ_ _ _=>by simp [clonePairs]⟩⟩
  cases a_0 with
  |some b=>simp at h
  |none=>
   have hz:=row_none hr0.1
   have hx:xs=[]:=List.eq_nil_of_length_eq_zero hz
   have hy:ys=[]:=List.eq_nil_of_length_eq_zero (row_two hr0.1▸hz)
   subst hx;subst hy
   rfl
 exact calls_post Dg Dl (I:=[]) Tryz.func46 mix (B:=bodyOf Tryz.f46) (by kernel_rfl) [(.slice a_0 xs.length c_0)] [.pt 0 .slice] (by kernel_rfl) (objs:=[]) (ros:=[.ro a_0 xs.length c_0 [.ints .i64 xs, .ints .u32 ys]]) (psOk_cons (pOk_at rfl rfl) (psOk_nil)) (by kernel_rfl) (⟨hr0,trivial⟩) hS 400
  (t:=Tree.br (Option.isNone a_0) (Tree.ret (iD none 0 0) pn_ [Chunk.ro a_0 (iC xs) c_0 [ci_ xs,cu_ ys]]) (Tree.fresh λb=>Tree.need ((0+iC xs)*16≤140737488355328) (Tree.freshS λa cap=>Tree.ret (vs_ (ob_ a) (0+iC xs) cap) (ps_ 2) [Chunk.ro a_0 (iC xs) c_0 [ci_ xs,cu_ ys],Chunk.dead,kr_ a 95 (0+iC xs) cap [ci_ ([]++xs),cu_ ([]++ys)]])))
  (by kernel_rfl)
  (⟨λz0=>RetOk.at (outf:=clonePairs_out) (nwf:=clonePairs_nw) (rowsf:=clonePairs_rows) (r:=([],[])) (h.1 z0) ⟨[(none,0,0,none)],[1000],(by decide),rfl,rfl,⟨.inr (by kernel_rfl),trivial⟩⟩, λz0=> λb1_0=>⟨((h.2 z0) b1_0).1, λz2=> λb3_0 b3_1=>RetOk.at (outf:=clonePairs_out) (nwf:=clonePairs_nw) (rowsf:=clonePairs_rows) (r:=([]++xs,[]++ys)) ((((h.2 z0) b1_0).2 z2) b3_0 b3_1) ⟨[(b3_0,0+iC xs,b3_1,none)],[2],(by decide),rfl,rfl,⟨.inl rfl,trivial⟩⟩⟩⟩)
end
def clonePairs_e:Entry Sg:= λ
 |[(_, .row n_0 [.ints .i64 xs, .ints .u32 ys])]=>some ⟨(clonePairs xs ys), λ(r_:LI×LI)=>⟨[(xs.length*16≤140737488355328:Prop)],none,[.row 95 [.ints .i64 (r_.1), .ints .u32 (r_.2)]], λss=>ss.getD 0 undef, λk_=> .pt k_ .slice⟩⟩
 |_=>none
theorem clonePairs_ok:EntryOk Dg Tryz.prog 46 clonePairs_e:=by
 intro args c r h hr_
 unfold clonePairs_e at h
 split at h
 ·injection h with h;subst h;subst hr_
  refine ⟨(by
  intro K acs hl
  match acs,hl with
  |[a0_],hl=>
   simp only [acsOk,acOk] at hl
   simp [pOk,psOk,cOk,sliceC,sliceV,sliceVal,lenC,Col.len,fzB,Col.isFz]), λhpre E G w hi hS=>?_⟩
  have hi_0:=hi _ (List.mem_of_getElem? (i:=0) rfl)
  simp only [iOk,isOk,and_true,true_and] at hi_0
  obtain ⟨a_0,c_0,e_0,hr0⟩:=hi_0
  replace hr0:=And.intro hr0.1 hr0.2.1
  have l_0:=hr0.1.len
  simp only [Col.len] at l_0
  subst l_0
  subst e_0
  exact entry_post Dg (by exact rfl) (clonePairs_calls _ _ _ _ hr0 (hpre _ (by simp)) hS)
 ·cases h
def T_clonePairs:List (Nat×Entry Sg):=(46,clonePairs_e)::ET
theorem T_clonePairs_ok:TableOk Dg Tryz.prog T_clonePairs:=TableOk.cons Dg clonePairs_ok Dl
end
section
open Go.Sl
def view_Get (s:VS) (i:Int):VS×Int:=(s.read i,s.get i)
abbrev c_view_Get:Ct Sg:=⟨some wView,false,[.i .i64], .i .u32⟩
def e_view_Get:Entry Sg:=entC c_view_Get (λ(s:VS) (i:Int)=>(s.read i,s.get i)) (λ_ _=>[])
def view_Get_w (s:VS) (i n:Int) (nw:Nat) (vals:LI) (fr:IMap) (nr:Nat) (reads:LI) (fp:IMap) (nq:Nat) (qc qv:LI) (miss:Int) (stuck:Bool) (R_:VS×Int→Prop) (O_:Int→Nat→LI→IMap→Nat→LI→IMap→Nat→LI→LI→Int→Bool→Int→Prop):Prop:=(bw_ (!(true&&decide (i≥0)&&decide (i<n)&&!stuck)) (O_ (n) (nw) (vals) (fr) (nr) (reads) (fp) (nq) (qc) (qv) (miss) (stuck) (0)) (bw_ (Option.isSome (fp i)) (aw_ (0≤Option.getD (fp i) 0∧Option.getD (fp i) 0<(↑nq:Int)) (O_ (n) (nw) (vals) (fr) (nr) (reads) (fp) (nq) (qc) (qv) (miss) (stuck) (iE qv (iJ (Option.getD (fp i) 0)) 0))) (aw_ (0≤i∧i<(↑nw:Int)) (bw_ (false) (O_ (n) (nw) (vals) (fr) (nr) (reads) (fp) (nq) (qc) (qv) (i) (true) (0)) (bw_ (Option.getD (fr i) (0:Int)==0) (aw_ ((nr+1)*8≤140737488355328) (O_ (n) (nw) (vals) (mupd fr i 1) (nr+1) (reads++[i]) (fp) (nq) (qc) (qv) (miss) (stuck) (iE vals (iJ i) 0))) (O_ (n) (nw) (vals) (fr) (nr) (reads) (fp) (nq) (qc) (qv) (miss) (stuck) (iE vals (iJ i) 0)))))))
theorem view_Get_begin (s:VS) (i n:Int) (nw:Nat) (vals:LI) (fr:IMap) (nr:Nat) (reads:LI) (fp:IMap) (nq:Nat) (qc qv:LI) (miss:Int) (stuck:Bool) (hx:VOk ⟨n,nw,vals,fr,nr,reads,fp,nq,qc,qv,miss,stuck⟩ (s)):view_Get_w s i n nw vals fr nr reads fp nq qc qv miss stuck (λr__=>r__=(view_Get s i)) (λn_ nw_ vals_ fr_ nr_ reads_ fp_ nq_ qc_ qv_ miss_ stuck_ r_=>VOk ⟨n_,nw_,vals_,fr_,nr_,reads_,fp_,nq_,qc_,qv_,miss_,stuck_⟩ ((view_Get s i).1)∧r_=(view_Get s i).2):=by
 have key:∀x:VX,VOk x s→view_Get_w s i x.n x.nw x.vals x.fr x.nr x.reads x.fp x.nq x.qc x.qv x.miss x.stuck (λr__=>r__=(view_Get s i)) (λn_ nw_ vals_ fr_ nr_ reads_ fp_ nq_ qc_ qv_ miss_ stuck_ r_=>VOk ⟨n_,nw_,vals_,fr_,nr_,reads_,fp_,nq_,qc_,qv_,miss_,stuck_⟩ ((view_Get s i).1)∧r_=(view_Get s i).2):=by
  intro x ho
  unfold view_Get_w
  have hb:=ho.bound
  rw [ho.there i]
  cases ht:s.there i with
  |false=>
   refine ⟨λ_=>⟨?_,?_⟩, λh=>by cases h⟩
   ·simp only [view_Get,VS.read,ht,cond_false];exact ho
   ·simp only [view_Get,VS.get,ht,cond_false]
  |true=>
   refine ⟨λh=>(by cases h), λ_=>?_⟩
   obtain ⟨h0,h1⟩:=VS.thereOf ht
   rw [ho.n] at h1
   cases hq:x.qc.idxOf? i with
   |some j=>
    obtain ⟨e1,e2,e3,e4,e5⟩:=ho.putSome hq
    rw [e1]
    refine ⟨λ_=>⟨by simp only [Option.getD_some];omega, λ_=>⟨?_,?_⟩⟩, λh=>by simp at h⟩
    ·simp only [view_Get,VS.read,ht,e2,cond_true];exact ho
    ·simp only [view_Get,VS.get,ht,e2,cond_true,Option.getD_some,e5,jP]
   |none=>
    obtain ⟨e1,e2⟩:=ho.putNone hq
    rw [e1]
    have hl:=ho.len
    have hw:=ho.nw
    have hs:=ho.src i h0 h1
    have hin:i.toNat<x.vals.length:=by omega
    have hv:nv (x.vals.getD i.toNat 0)=x.vals.getD i.toNat 0:=nv_id (ho.bv _ (getD_mem hin))
    refine ⟨λh=>(by simp at h), λ_=>⟨by omega, λ_=>⟨λh=>(by simp at h), λ_=>?_⟩⟩⟩
    rw [ho.readIs]
    cases hc:s.reads.contains i with
    |false=>
     refine ⟨λ_=>⟨by omega, λ_=>⟨?_,?_⟩⟩, λh=>by cases h⟩
     ·simp only [view_Get,VS.read,ht,e2,hs,hc,cond_true,cond_false]
      exact ho.more h0 h1 hc
     ·simp only [view_Get,VS.get,ht,e2,hs,cond_true,hv]
    |true=>
     refine ⟨λh=>(by cases h), λ_=>⟨?_,?_⟩⟩
     ·simp only [view_Get,VS.read,ht,e2,hs,hc,cond_true];exact ho
     ·simp only [view_Get,VS.get,ht,e2,hs,cond_true,hv]
 exact key ⟨n,nw,vals,fr,nr,reads,fp,nq,qc,qv,miss,stuck⟩ hx
theorem view_Get_ok:EOk 58 e_view_Get:=
 ent_ob Dg bxV_ok true T_clonePairs_ok (I:=[105,210]) Tryz.func58 mix (B:=bodyOf Tryz.f58) (by kernel_rfl) rfl (by kernel_rfl) 400
  λo s i hb hp=>⟨s,(view_Get s i).1,(view_Get s i).2,[],[], λj=>iE [] j (λ_=>False), λj=>iE [] j (λ_=>(0,0,0)),by kernel_rfl, λ_ _=>by kernel_rfl,by kernel_rfl, λn nw vals fr nr reads fp nq qc qv miss stuck hx=>⟨view_Get_w s i n nw vals fr nr reads fp nq qc qv miss stuck (λr__=>r__=(view_Get s i)) (λn_ nw_ vals_ fr_ nr_ reads_ fp_ nq_ qc_ qv_ miss_ stuck_ r_=>VOk ⟨n_,nw_,vals_,fr_,nr_,reads_,fp_,nq_,qc_,qv_,miss_,stuck_⟩ ((view_Get s i).1)∧r_=(view_Get s i).2), λ_ _ _ _=>by kernel_rfl,view_Get_begin s i n nw vals fr nr reads fp nq qc qv miss stuck hx⟩,trivial⟩
def T_view_Get:Tb:=(58,e_view_Get)::T_clonePairs
theorem T_view_Get_ok:TOk T_view_Get:=tc_ view_Get_ok T_clonePairs_ok
def view_Put (s:VS) (i v:Int):VS:=s.set i v
abbrev c_view_Put:Ct Sg:=⟨some wView,false,[.i .i64, .i .u32], .skip⟩
def e_view_Put:Entry Sg:=entC c_view_Put (λ(s:VS) (i:Int) (v:Int)=>s.set i v) (λs i v=>[bd32 v])
def view_Put_w (s:VS) (i v n:Int) (nw:Nat) (vals:LI) (fr:IMap) (nr:Nat) (reads:LI) (fp:IMap) (nq:Nat) (qc qv:LI) (miss:Int) (stuck:Bool) (R_:VS→Prop) (O_:Int→Nat→LI→IMap→Nat→LI→IMap→Nat→LI→LI→Int→Bool→Unit→Prop):Prop:=(bw_ (!(true&&decide (i≥0)&&decide (i<n)&&!stuck)) (O_ (n) (nw) (vals) (fr) (nr) (reads) (fp) (nq) (qc) (qv) (miss) (stuck) (())) (bw_ (!Option.isSome (fp i)) (aw_ ((nq+1)*16≤140737488355328) (aw_ (0≤(↑nq:Int)∧(↑nq:Int)<(↑(nq+1):Int)) (O_ (n) (nw) (vals) (fr) (nr) (reads) (mupd fp i (↑nq:Int)) (nq+1) (qc++[i]) (List.set (qv++[0]) (iJ (↑nq:Int)) v) (miss) (stuck) (())))) (aw_ (0≤Option.getD (fp i) 0∧Option.getD (fp i) 0<(↑nq:Int)) (O_ (n) (nw) (vals) (fr) (nr) (reads) (fp) (nq) (qc) (List.set qv (iJ (Option.getD (fp i) 0)) v) (miss) (stuck) (())))))
theorem view_Put_begin (s:VS) (i v n:Int) (nw:Nat) (vals:LI) (fr:IMap) (nr:Nat) (reads:LI) (fp:IMap) (nq:Nat) (qc qv:LI) (miss:Int) (stuck:Bool) (hp0:bd32 v) (hx:VOk ⟨n,nw,vals,fr,nr,reads,fp,nq,qc,qv,miss,stuck⟩ (s)):view_Put_w s i v n nw vals fr nr reads fp nq qc qv miss stuck (λr__=>r__=(view_Put s i v)) (λn_ nw_ vals_ fr_ nr_ reads_ fp_ nq_ qc_ qv_ miss_ stuck_ r_=>VOk ⟨n_,nw_,vals_,fr_,nr_,reads_,fp_,nq_,qc_,qv_,miss_,stuck_⟩ ((view_Put s i v))∧r_=()):=by
 have key:∀x:VX,VOk x s→view_Put_w s i v x.n x.nw x.vals x.fr x.nr x.reads x.fp x.nq x.qc x.qv x.miss x.stuck (λr__=>r__=(view_Put s i v)) (λn_ nw_ vals_ fr_ nr_ reads_ fp_ nq_ qc_ qv_ miss_ stuck_ r_=>VOk ⟨n_,nw_,vals_,fr_,nr_,reads_,fp_,nq_,qc_,qv_,miss_,stuck_⟩ ((view_Put s i v))∧r_=()):=by
  intro x ho
  unfold view_Put_w
  have hb:=ho.bound
  rw [ho.there i]
  cases ht:s.there i with
  |false=>
   refine ⟨λ_=>⟨?_,rfl⟩, λh=>by cases h⟩
   simp only [view_Put,VS.set,ht,cond_false];exact ho
  |true=>
   refine ⟨λh=>(by cases h), λ_=>?_⟩
   obtain ⟨h0,h1⟩:=VS.thereOf ht
   rw [ho.n] at h1
   cases hq:x.qc.idxOf? i with
   |some j=>
    obtain ⟨e1,e2,e3,e4,e5⟩:=ho.putSome hq
    rw [e1]
    refine ⟨λh=>(by simp at h), λ_=>⟨by simp only [Option.getD_some];omega, λ_=>⟨?_,rfl⟩⟩⟩
    simp only [view_Put,VS.set,ht,e2,cond_true,Option.isSome_some]
    exact ho.putOld hp0 hq
   |none=>
    obtain ⟨e1,e2⟩:=ho.putNone hq
    have e:=ho.putNew h0 h1 hp0 hq
    rw [e1]
    refine ⟨λ_=>⟨by omega, λ_=>⟨by omega, λ_=>⟨?_,rfl⟩⟩⟩, λh=>by simp at h⟩
    simp only [view_Put,VS.set,ht,e2,cond_true,Option.isSome_none,cond_false]
    exact e
 exact key ⟨n,nw,vals,fr,nr,reads,fp,nq,qc,qv,miss,stuck⟩ hx
theorem view_Put_ok:EOk 97 e_view_Put:=
 ent_ob Dg bxV_ok true T_view_Get_ok (I:=[105,210]) Tryz.func97 mix (B:=bodyOf Tryz.f97) (by kernel_rfl) rfl (by kernel_rfl) 400
  λo s i v hb hp=>have hp0:bd32 v:=hp _ (.head _);⟨s,(view_Put s i v),(),[],[], λj=>iE [] j (λ_=>False), λj=>iE [] j (λ_=>(0,0,0)),by kernel_rfl, λ_ _=>by kernel_rfl,by kernel_rfl, λn nw vals fr nr reads fp nq qc qv miss stuck hx=>⟨view_Put_w s i v n nw vals fr nr reads fp nq qc qv miss stuck (λr__=>r__=(view_Put s i v)) (λn_ nw_ vals_ fr_ nr_ reads_ fp_ nq_ qc_ qv_ miss_ stuck_ r_=>VOk ⟨n_,nw_,vals_,fr_,nr_,reads_,fp_,nq_,qc_,qv_,miss_,stuck_⟩ ((view_Put s i v))∧r_=()), λ_ _ _ _=>by kernel_rfl,view_Put_begin s i v n nw vals fr nr reads fp nq qc qv miss stuck hp0 hx⟩,trivial⟩
def T_view_Put:Tb:=(97,e_view_Put)::T_view_Get
theorem T_view_Put_ok:TOk T_view_Put:=tc_ view_Put_ok T_view_Get_ok
def AX (s:VS):Int:=s.miss
abbrev Hm:Ct Sg:=⟨some wView,true,[], .i .i64⟩
def Dn:Entry Sg:=entC Hm (λ(s:VS)=>s.miss) (λ_=>[])
def BD (s:VS) (n:Int) (nw:Nat) (vals:LI) (fr:IMap) (nr:Nat) (reads:LI) (fp:IMap) (nq:Nat) (qc qv:LI) (miss:Int) (stuck:Bool) (R_:Int→Prop) (O_:Int→Nat→LI→IMap→Nat→LI→IMap→Nat→LI→LI→Int→Bool→Int→Prop):Prop:=(bw_ (false||!stuck) (O_ (n) (nw) (vals) (fr) (nr) (reads) (fp) (nq) (qc) (qv) (miss) (stuck) ((-1))) (O_ (n) (nw) (vals) (fr) (nr) (reads) (fp) (nq) (qc) (qv) (miss) (stuck) (miss)))
theorem En (s:VS) (n:Int) (nw:Nat) (vals:LI) (fr:IMap) (nr:Nat) (reads:LI) (fp:IMap) (nq:Nat) (qc qv:LI) (miss:Int) (stuck:Bool) (hx:VOk ⟨n,nw,vals,fr,nr,reads,fp,nq,qc,qv,miss,stuck⟩ (s)):BD s n nw vals fr nr reads fp nq qc qv miss stuck (λr__=>r__=(AX s)) (λn_ nw_ vals_ fr_ nr_ reads_ fp_ nq_ qc_ qv_ miss_ stuck_ r_=>VOk ⟨n_,nw_,vals_,fr_,nr_,reads_,fp_,nq_,qc_,qv_,miss_,stuck_⟩ (s)∧r_=(AX s)):=by
 have key:∀x:VX,VOk x s→BD s x.n x.nw x.vals x.fr x.nr x.reads x.fp x.nq x.qc x.qv x.miss x.stuck (λr__=>r__=(AX s)) (λn_ nw_ vals_ fr_ nr_ reads_ fp_ nq_ qc_ qv_ miss_ stuck_ r_=>VOk ⟨n_,nw_,vals_,fr_,nr_,reads_,fp_,nq_,qc_,qv_,miss_,stuck_⟩ (s)∧r_=(AX s)):=by
  intro x ho
  unfold BD
  have hm:=ho.miss
  have ho':VOk ⟨x.n,x.nw,x.vals,x.fr,x.nr,x.reads,x.fp,x.nq,x.qc,x.qv,x.miss,x.stuck⟩ s:=ho
  cases hs:x.stuck with
  |false=>
   rw [hs] at hm ho'
   exact ⟨λ_=>⟨ho',hm.symm⟩, λh=>by cases h⟩
  |true=>
   rw [hs] at hm ho'
   exact ⟨(λh=>by cases h), λ_=>⟨ho',hm.symm⟩⟩
 exact key ⟨n,nw,vals,fr,nr,reads,fp,nq,qc,qv,miss,stuck⟩ hx
theorem Gf:EOk 15 Dn:=
 ent_ob Dg bxV_ok true T_view_Put_ok (I:=[105,210]) Tryz.func15 mix (B:=bodyOf Tryz.f15) (by kernel_rfl) rfl (by kernel_rfl) 400
  λo s hb hp=>⟨s,s,(AX s),[],[], λj=>iE [] j (λ_=>False), λj=>iE [] j (λ_=>(0,0,0)),by kernel_rfl, λ_ _=>by kernel_rfl,by kernel_rfl, λn nw vals fr nr reads fp nq qc qv miss stuck hx=>⟨BD s n nw vals fr nr reads fp nq qc qv miss stuck (λr__=>r__=(AX s)) (λn_ nw_ vals_ fr_ nr_ reads_ fp_ nq_ qc_ qv_ miss_ stuck_ r_=>VOk ⟨n_,nw_,vals_,fr_,nr_,reads_,fp_,nq_,qc_,qv_,miss_,stuck_⟩ (s)∧r_=(AX s)), λ_ _ _ _=>by kernel_rfl,En s n nw vals fr nr reads fp nq qc qv miss stuck hx⟩,trivial⟩
def Dp:Tb:=(15,Dn)::T_view_Put
theorem CE:TOk Dp:=tc_ Gf T_view_Put_ok
def Ba (s:VS):LI:=s.reads
abbrev Jc:Ct Sg:=⟨some wView,true,[], .new 3 [some .i64]⟩
def Eo:Entry Sg:=entC Jc (λ(s:VS)=>s.reads) (λ_=>[])
def BJ (s:VS) (n:Int) (nw:Nat) (vals:LI) (fr:IMap) (nr:Nat) (reads:LI) (fp:IMap) (nq:Nat) (qc qv:LI) (miss:Int) (stuck:Bool) (R_:LI→Prop) (O_:Int→Nat→LI→IMap→Nat→LI→IMap→Nat→LI→LI→Int→Bool→LI→Prop):Prop:=(bw_ (false) (O_ (n) (nw) (vals) (fr) (nr) (reads) (fp) (nq) (qc) (qv) (miss) (stuck) ([])) (∀r1:LI,r1=(Bv reads)→(aw_ (iC reads*16≤140737488355328) (O_ (n) (nw) (vals) (fr) (nr) (reads) (fp) (nq) (qc) (qv) (miss) (stuck) (r1)))))
theorem FC (s:VS) (n:Int) (nw:Nat) (vals:LI) (fr:IMap) (nr:Nat) (reads:LI) (fp:IMap) (nq:Nat) (qc qv:LI) (miss:Int) (stuck:Bool) (hx:VOk ⟨n,nw,vals,fr,nr,reads,fp,nq,qc,qv,miss,stuck⟩ (s)):BJ s n nw vals fr nr reads fp nq qc qv miss stuck (λr__=>r__=(Ba s)) (λn_ nw_ vals_ fr_ nr_ reads_ fp_ nq_ qc_ qv_ miss_ stuck_ r_=>VOk ⟨n_,nw_,vals_,fr_,nr_,reads_,fp_,nq_,qc_,qv_,miss_,stuck_⟩ (s)∧r_=(Ba s)):=by
 have key:∀x:VX,VOk x s→BJ s x.n x.nw x.vals x.fr x.nr x.reads x.fp x.nq x.qc x.qv x.miss x.stuck (λr__=>r__=(Ba s)) (λn_ nw_ vals_ fr_ nr_ reads_ fp_ nq_ qc_ qv_ miss_ stuck_ r_=>VOk ⟨n_,nw_,vals_,fr_,nr_,reads_,fp_,nq_,qc_,qv_,miss_,stuck_⟩ (s)∧r_=(Ba s)):=by
  intro x ho
  unfold BJ
  have hb:=ho.bound
  have:=ho.nr
  refine ⟨(λh=>by cases h), λ_ r1 e=>⟨by omega, λ_=>⟨ho,?_⟩⟩⟩
  rw [e,Ba,ho.reads];rfl
 exact key ⟨n,nw,vals,fr,nr,reads,fp,nq,qc,qv,miss,stuck⟩ hx
theorem IP:EOk 13 Eo:=
 ent_ob Dg bxV_ok true CE (I:=[105,210]) Tryz.func13 mix (B:=bodyOf Tryz.f13) (by kernel_rfl) rfl (by kernel_rfl) 400
  λo s hb hp=>⟨s,s,(Ba s),[],[], λj=>iE [] j (λ_=>False), λj=>iE [] j (λ_=>(0,0,0)),by kernel_rfl, λ_ _=>by kernel_rfl,by kernel_rfl, λn nw vals fr nr reads fp nq qc qv miss stuck hx=>⟨BJ s n nw vals fr nr reads fp nq qc qv miss stuck (λr__=>r__=(Ba s)) (λn_ nw_ vals_ fr_ nr_ reads_ fp_ nq_ qc_ qv_ miss_ stuck_ r_=>VOk ⟨n_,nw_,vals_,fr_,nr_,reads_,fp_,nq_,qc_,qv_,miss_,stuck_⟩ (s)∧r_=(Ba s)), λ_ _ _ _=>by kernel_rfl,FC s n nw vals fr nr reads fp nq qc qv miss stuck hx⟩,trivial⟩
def Ep:Tb:=(13,Eo)::Dp
theorem CX:TOk Ep:=tc_ IP CE
def view_Writes (s:VS):LI×LI:=(s.wrote,s.puts)
abbrev c_view_Writes:Ct Sg:=⟨some wView,true,[], .new 95 [some .i64,some .u32]⟩
def e_view_Writes:Entry Sg:=entC c_view_Writes (λ(s:VS)=>(s.wrote,s.puts)) (λ_=>[])
def view_Writes_w (s:VS) (n:Int) (nw:Nat) (vals:LI) (fr:IMap) (nr:Nat) (reads:LI) (fp:IMap) (nq:Nat) (qc qv:LI) (miss:Int) (stuck:Bool) (R_:LI×LI→Prop) (O_:Int→Nat→LI→IMap→Nat→LI→IMap→Nat→LI→LI→Int→Bool→LI×LI→Prop):Prop:=(bw_ (false) (O_ (n) (nw) (vals) (fr) (nr) (reads) (fp) (nq) (qc) (qv) (miss) (stuck) (([],[]))) (∀r1:LI×LI,r1=((qc,qv))→(aw_ (iC qc*16≤140737488355328) (O_ (n) (nw) (vals) (fr) (nr) (reads) (fp) (nq) (qc) (qv) (miss) (stuck) ((r1.1,r1.2))))))
theorem view_Writes_begin (s:VS) (n:Int) (nw:Nat) (vals:LI) (fr:IMap) (nr:Nat) (reads:LI) (fp:IMap) (nq:Nat) (qc qv:LI) (miss:Int) (stuck:Bool) (hx:VOk ⟨n,nw,vals,fr,nr,reads,fp,nq,qc,qv,miss,stuck⟩ (s)):view_Writes_w s n nw vals fr nr reads fp nq qc qv miss stuck (λr__=>r__=(view_Writes s)) (λn_ nw_ vals_ fr_ nr_ reads_ fp_ nq_ qc_ qv_ miss_ stuck_ r_=>VOk ⟨n_,nw_,vals_,fr_,nr_,reads_,fp_,nq_,qc_,qv_,miss_,stuck_⟩ (s)∧r_=(view_Writes s)):=by
 have key:∀x:VX,VOk x s→view_Writes_w s x.n x.nw x.vals x.fr x.nr x.reads x.fp x.nq x.qc x.qv x.miss x.stuck (λr__=>r__=(view_Writes s)) (λn_ nw_ vals_ fr_ nr_ reads_ fp_ nq_ qc_ qv_ miss_ stuck_ r_=>VOk ⟨n_,nw_,vals_,fr_,nr_,reads_,fp_,nq_,qc_,qv_,miss_,stuck_⟩ (s)∧r_=(view_Writes s)):=by
  intro x ho
  unfold view_Writes_w
  have hb:=ho.bound
  have:=ho.nq
  refine ⟨(λh=>by cases h), λ_ r1 e=>⟨by omega, λ_=>⟨ho,?_⟩⟩⟩
  rw [e,view_Writes,ho.wrote,←ho.puts]
 exact key ⟨n,nw,vals,fr,nr,reads,fp,nq,qc,qv,miss,stuck⟩ hx
theorem view_Writes_ok:EOk 14 e_view_Writes:=
 ent_ob Dg bxV_ok true CX (I:=[105,210]) Tryz.func14 mix (B:=bodyOf Tryz.f14) (by kernel_rfl) rfl (by kernel_rfl) 400
  λo s hb hp=>⟨s,s,(view_Writes s),[],[], λj=>iE [] j (λ_=>False), λj=>iE [] j (λ_=>(0,0,0)),by kernel_rfl, λ_ _=>by kernel_rfl,by kernel_rfl, λn nw vals fr nr reads fp nq qc qv miss stuck hx=>⟨view_Writes_w s n nw vals fr nr reads fp nq qc qv miss stuck (λr__=>r__=(view_Writes s)) (λn_ nw_ vals_ fr_ nr_ reads_ fp_ nq_ qc_ qv_ miss_ stuck_ r_=>VOk ⟨n_,nw_,vals_,fr_,nr_,reads_,fp_,nq_,qc_,qv_,miss_,stuck_⟩ (s)∧r_=(view_Writes s)), λ_ _ _ _=>by kernel_rfl,view_Writes_begin s n nw vals fr nr reads fp nq qc qv miss stuck hx⟩,trivial⟩
def T_view_Writes:Tb:=(14,e_view_Writes)::Ep
theorem T_view_Writes_ok:TOk T_view_Writes:=tc_ view_Writes_ok CX
def view_Whole (xs:LI):VS:=VS.whole xs
abbrev c_view_Whole:Ct Sg:=⟨none,false,[.ro [some .u32]], .nobj wView⟩
def e_view_Whole:Entry Sg:=entC c_view_Whole (λ(xs:LI)=>VS.whole xs) (λxs=>[xs.length≤1000000,bdL xs])
def view_Whole_w (xs:LI) (O_:Int→Nat→LI→IMap→Nat→LI→IMap→Nat→LI→LI→Int→Bool→Prop):Prop:=(∀r0:LI,r0=(cloneVals xs)→(aw_ (iC xs*16≤140737488355328) (O_ ((↑(iC r0):Int)) (iC r0) (r0) (mnil) (0) ([]) (mnil) (0) ([]) ([]) ((-1)) (false))))
theorem view_Whole_begin (xs:LI) (hp0:xs.length≤1000000) (hp1:bdL xs) (hl0:xs.length≤9223372036854775807):view_Whole_w xs (λn_ nw_ vals_ fr_ nr_ reads_ fp_ nq_ qc_ qv_ miss_ stuck_=>VOk ⟨n_,nw_,vals_,fr_,nr_,reads_,fp_,nq_,qc_,qv_,miss_,stuck_⟩ ((view_Whole xs))):=by
 unfold view_Whole_w
 intro r0 e
 rw [show r0=xs from e]
 refine ⟨by omega, λ_=>?_⟩
 exact {n:=rfl,nr:=rfl,nq:=rfl,all:=rfl,nw:=rfl,len:=rfl
        src:= λi h0 h1=>by
         have e1:decide (0≤i)=true:=by simpa using h0
         have e2:decide (i<(xs.length:Int))=true:=by simpa using h1
         simp only [VS.whole,view_Whole,e1,e2,Bool.and_self,cond_true]
        bv:=hp1,reads:=rfl,fr:= λi=>rfl,wrote:=rfl,ql:=rfl,fp:= λi=>rfl,put:= λi=>rfl
        bq:= λv h=>by cases h
        miss:=rfl
        m0:= λh=>by cases h
        rl:=by simp
        wl:=by simp
        rn:=List.nodup_nil
        wn:=List.nodup_nil
        ri:= λi h=>by cases h
        wi:= λi h=>by cases h
        nb:=by show (xs.length:Int)≤1000000;omega}
theorem view_Whole_ok:EOk 7 e_view_Whole:=
 ent_nw Dg bxV_ok T_view_Writes_ok (I:=[26]) Tryz.func7 mix (B:=bodyOf Tryz.f7) (by kernel_rfl) rfl (by kernel_rfl) 400
  λp0 xs hb hp=>have hl0:xs.length≤9223372036854775807:=hb.1;have hp0:xs.length≤1000000:=hp _ (.head _);have hp1:bdL xs:=hp _ (.tail _ (.head _));⟨(view_Whole xs),[],[], λj=>iE [] j (λ_=>False), λj=>iE [] j (λ_=>(0,0,0)),by kernel_rfl, λ_=>rfl,by kernel_rfl,by kernel_rfl,⟨_, λ_ _ _=>by kernel_rfl,view_Whole_begin xs hp0 hp1 hl0⟩,trivial⟩
def T_view_Whole:Tb:=(7,e_view_Whole)::T_view_Writes
theorem T_view_Whole_ok:TOk T_view_Whole:=tc_ view_Whole_ok T_view_Writes_ok
def Dj (xs:LI) (i:Int):Bool:=xs.contains i
abbrev L8:Ct Sg:=⟨none,false,[.ro [some .i64], .i .i64], .b⟩
def KL:Entry Sg:=entC L8 Dj (λ_ _=>[])
def KN (xs:LI) (i:Int) (Q0:Int→Prop) (R_:Bool→Prop):Prop:=(Q0 (0))
def JH (xs:LI) (i j:Int) (Q0:Int→Prop) (R_:Bool→Prop):Prop:=(bw_ (decide (j<(↑(iC xs):Int))) (aw_ (0≤j∧j<(↑(iC xs):Int)) (bw_ (iE xs (iJ j) 0==i) (R_ (true)) (Q0 (iA iB (j+1))))) (R_ (false)))
def BM (xs:LI) (i j:Int) (r_:Bool):Prop:=0≤j∧j≤xs.length∧(∀m:Nat,m<j.toNat→xs.getD m 0≠i)∧r_=Dj xs i
abbrev Ho (p0:Addr) (xs:LI) (i:Int):Hd Sg:=⟨none,[0,1,0,1],[.blk 0, .code [1,1]],[5,0,1],[.i .i64, .roc [.ints .i64 (xs)], .ic .i64 (i)]⟩
theorem JS (xs:LI) (i:Int) (hl0:xs.length≤9223372036854775807):KN xs i (λj'=>BM xs i j' (Dj xs i)) (λr__=>r__=(Dj xs i)):=by
 unfold KN
 try unfold BM
 exact ⟨by omega,by omega, λm hm=>absurd hm (Nat.not_lt_zero m),rfl⟩
theorem JU (xs:LI) (i:Int) (hl0:xs.length≤9223372036854775807) (j:Int) {r_:Bool} (hI:BM xs i j r_):JH xs i j (λj'=>BM xs i j' r_∧lx ((xs.length-j').toNat,0,0) ((xs.length-j).toNat,0,0)) (λr__=>r__=r_):=by
 unfold BM at hI
 unfold JH
 try unfold BM
 obtain ⟨h0,h1,h2,h3⟩:=hI
 refine ⟨λh=>?_, λh=>?_⟩
 ·simp only [decide_eq_true_eq] at h
  refine ⟨by omega, λ_=>⟨λhg=>?_, λhg=>?_⟩⟩
  ·show true=r_
   rw [h3,Dj,contains_of (j:=j.toNat) (by omega) (by simpa using hg)]
  ·rw [w64 (by omega)]
   refine ⟨⟨by omega,by omega, λm hm=>?_,h3⟩,lxo_⟩
   by_cases hk:m=j.toNat
   ·subst hk;simpa using hg
   ·exact h2 m (by omega)
 ·simp only [decide_eq_false_iff_not] at h
  show false=r_
  rw [h3,Dj,contains_not λm hm=>h2 m (by omega)]
theorem Lt:EOk 79 KL:=
 ent_wp Dg T_view_Whole_ok (I:=[103000000005,103000000000,103000000001]) Tryz.func79 mix (B:=bodyOf Tryz.f79) (by kernel_rfl) rfl (by kernel_rfl) 400
  λp0 xs i hb hp=>have hl0:xs.length≤9223372036854775807:=hb.1;⟨[Ho p0 xs i], λj=>iE [appC (Hd.kd (Ho p0 xs i)) (λj'=>BM xs i j' (Dj xs i))] j (λ_=>False), λj=>iE [appC (Hd.kd (Ho p0 xs i)) (λj'=>((xs.length-j').toNat,0,0))] j (λ_=>(0,0,0)),by kernel_rfl,⟨_, λ_ _ _=>by kernel_rfl,JS xs i hl0⟩,⟨λj hI=>⟨_, λ_ _ _=>by kernel_rfl,JU xs i hl0 j hI⟩,trivial⟩⟩
def KO:Tb:=(79,KL)::T_view_Whole
theorem Ip:TOk KO:=tc_ Lt T_view_Whole_ok
def Am (s:VS) (i:Int):VS×Int:=(s.read i,s.get i)
abbrev KP:Ct Sg:=⟨some Ap,false,[.i .i64], .i .u32⟩
def Iq:Entry Sg:=entC KP (λ(s:VS) (i:Int)=>(s.read i,s.get i)) (λ_ _=>[])
def CY (s:VS) (i n:Int) (nk:Nat) (knows:List Bool) (nval:Nat) (val:LI) (np:Nat) (isput:List Bool) (nt:Nat) (to:LI) (nr:Nat) (reads:LI) (nq:Nat) (wrote:LI) (miss:Int) (all:Bool) (R_:VS×Int→Prop) (O_:Int→Nat→List Bool→Nat→LI→Nat→List Bool→Nat→LI→Nat→LI→Nat→LI→Int→Bool→Int→Prop):Prop:=(bw_ (decide (i<0)||decide (i≥n)||decide (miss≥0)) (O_ (n) (nk) (knows) (nval) (val) (np) (isput) (nt) (to) (nr) (reads) (nq) (wrote) (miss) (all) (0)) (aw_ (0≤i∧i<(↑np:Int)) (bw_ (iE isput (iJ i) false) (aw_ (0≤i∧i<(↑nt:Int)) (O_ (n) (nk) (knows) (nval) (val) (np) (isput) (nt) (to) (nr) (reads) (nq) (wrote) (miss) (all) (iE to (iJ i) 0))) (aw_ (0≤i∧i<(↑nk:Int)) (bw_ (!List.getD knows (iJ i) false) (O_ (n) (nk) (knows) (nval) (val) (np) (isput) (nt) (to) (nr) (reads) (nq) (wrote) (i) (all) (0)) (bw_ (!Dj reads i) (aw_ ((nr+1)*8≤140737488355328) (aw_ (0≤i∧i<(↑nval:Int)) (O_ (n) (nk) (knows) (nval) (val) (np) (isput) (nt) (to) (nr+1) (reads++[i]) (nq) (wrote) (miss) (all) (iE val (iJ i) 0)))) (aw_ (0≤i∧i<(↑nval:Int)) (O_ (n) (nk) (knows) (nval) (val) (np) (isput) (nt) (to) (nr) (reads) (nq) (wrote) (miss) (all) (iE val (iJ i) 0)))))))))
theorem IQ (s:VS) (i n:Int) (nk:Nat) (knows:List Bool) (nval:Nat) (val:LI) (np:Nat) (isput:List Bool) (nt:Nat) (to:LI) (nr:Nat) (reads:LI) (nq:Nat) (wrote:LI) (miss:Int) (all:Bool) (hx:Aj ⟨n,nk,knows,nval,val,np,isput,nt,to,nr,reads,nq,wrote,miss,all⟩ (s)):CY s i n nk knows nval val np isput nt to nr reads nq wrote miss all (λr__=>r__=(Am s i)) (λn_ nk_ knows_ nval_ val_ np_ isput_ nt_ to_ nr_ reads_ nq_ wrote_ miss_ all_ r_=>Aj ⟨n_,nk_,knows_,nval_,val_,np_,isput_,nt_,to_,nr_,reads_,nq_,wrote_,miss_,all_⟩ ((Am s i).1)∧r_=(Am s i).2):=by
 have key:∀x:RX,Aj x s→CY s i x.n x.nk x.knows x.nv x.val x.np x.isput x.nt x.to x.nr x.reads x.nq x.wrote x.miss x.all (λr__=>r__=(Am s i)) (λn_ nk_ knows_ nval_ val_ np_ isput_ nt_ to_ nr_ reads_ nq_ wrote_ miss_ all_ r_=>Aj ⟨n_,nk_,knows_,nval_,val_,np_,isput_,nt_,to_,nr_,reads_,nq_,wrote_,miss_,all_⟩ ((Am s i).1)∧r_=(Am s i).2):=by
  intro x ho
  unfold CY
  have hb:=ho.bound
  rw [ho.there i]
  cases ht:s.there i with
  |false=>
   refine ⟨λ_=>⟨?_,?_⟩, λh=>by cases h⟩
   ·simp only [Am,VS.read,ht,cond_false];exact ho
   ·simp only [Am,VS.get,ht,cond_false]
  |true=>
   refine ⟨(λh=>by cases h), λ_=>?_⟩
   obtain ⟨h0,h1⟩:=VS.thereOf ht
   rw [ho.n] at h1
   have hp:=ho.put i h0 h1
   have hs:=ho.src i h0 h1
   have l1:=ho.nk;have l2:=ho.nv;have l3:=ho.np;have l4:=ho.nt
   have m1:=ho.lk;have m2:=ho.lv;have m3:=ho.lp;have m4:=ho.lt
   refine ⟨by omega, λ_=>?_⟩
   cases hq:x.isput.getD i.toNat false with
   |true=>
    rw [hq] at hp
    simp only [cond_true] at hp
    refine ⟨λ_=>⟨by omega, λ_=>⟨?_,?_⟩⟩, λh=>by cases h⟩
    ·simp only [Am,VS.read,ht,hp,cond_true];exact ho
    ·have hv:nv (x.to.getD i.toNat 0)=x.to.getD i.toNat 0:=nv_id (ho.bt _ (getD_mem (by omega)))
     simp only [Am,VS.get,ht,hp,cond_true,hv]
   |false=>
    rw [hq] at hp
    simp only [cond_false] at hp
    refine ⟨(λh=>by cases h), λ_=>⟨by omega, λ_=>?_⟩⟩
    cases hk:x.knows.getD i.toNat false with
    |false=>
     rw [hk] at hs
     simp only [cond_false] at hs
     refine ⟨λ_=>⟨?_,?_⟩, λh=>by cases h⟩
     ·simp only [Am,VS.read,ht,hp,hs,cond_true];exact ho.missing h0
     ·simp only [Am,VS.get,ht,hp,hs,cond_true]
    |true=>
     rw [hk] at hs
     simp only [cond_true] at hs
     have hv:nv (x.val.getD i.toNat 0)=x.val.getD i.toNat 0:=nv_id (ho.bv _ (getD_mem (by omega)))
     have hr:Dj x.reads i=s.reads.contains i:=by rw [Dj,ho.reads]
     refine ⟨(λh=>by cases h), λ_=>?_⟩
     rw [hr]
     cases hc:s.reads.contains i with
     |false=>
      refine ⟨λ_=>⟨by omega, λ_=>⟨by omega, λ_=>⟨?_,?_⟩⟩⟩, λh=>by cases h⟩
      ·simp only [Am,VS.read,ht,hp,hs,hc,cond_true,cond_false]
       exact ho.more h0 h1 hc
      ·simp only [Am,VS.get,ht,hp,hs,cond_true,hv]
     |true=>
      refine ⟨(λh=>by cases h), λ_=>⟨by omega, λ_=>⟨?_,?_⟩⟩⟩
      ·simp only [Am,VS.read,ht,hp,hs,hc,cond_true];exact ho
      ·simp only [Am,VS.get,ht,hp,hs,cond_true,hv]
 exact key ⟨n,nk,knows,nval,val,np,isput,nt,to,nr,reads,nq,wrote,miss,all⟩ hx
theorem JV:EOk 35 Iq:=
 ent_ob Dg Dk true Ip (I:=[]) Tryz.func35 mix (B:=bodyOf Tryz.f35) (by kernel_rfl) rfl (by kernel_rfl) 400
  λo s i hb hp=>⟨s,(Am s i).1,(Am s i).2,[],[], λj=>iE [] j (λ_=>False), λj=>iE [] j (λ_=>(0,0,0)),by kernel_rfl, λ_ _=>by kernel_rfl,by kernel_rfl, λn nk knows nval val np isput nt to nr reads nq wrote miss all hx=>⟨CY s i n nk knows nval val np isput nt to nr reads nq wrote miss all (λr__=>r__=(Am s i)) (λn_ nk_ knows_ nval_ val_ np_ isput_ nt_ to_ nr_ reads_ nq_ wrote_ miss_ all_ r_=>Aj ⟨n_,nk_,knows_,nval_,val_,np_,isput_,nt_,to_,nr_,reads_,nq_,wrote_,miss_,all_⟩ ((Am s i).1)∧r_=(Am s i).2), λ_ _ _ _=>by kernel_rfl,IQ s i n nk knows nval val np isput nt to nr reads nq wrote miss all hx⟩,trivial⟩
def Ir:Tb:=(35,Iq)::KO
theorem Es:TOk Ir:=tc_ JV Ip
def Bl (s:VS) (i v:Int):VS:=s.set i v
abbrev KQ:Ct Sg:=⟨some Ap,false,[.i .i64, .i .u32], .skip⟩
def Iu:Entry Sg:=entC KQ (λ(s:VS) (i:Int) (v:Int)=>s.set i v) (λs i v=>[bd32 v])
def CZ (s:VS) (i v n:Int) (nk:Nat) (knows:List Bool) (nval:Nat) (val:LI) (np:Nat) (isput:List Bool) (nt:Nat) (to:LI) (nr:Nat) (reads:LI) (nq:Nat) (wrote:LI) (miss:Int) (all:Bool) (R_:VS→Prop) (O_:Int→Nat→List Bool→Nat→LI→Nat→List Bool→Nat→LI→Nat→LI→Nat→LI→Int→Bool→Unit→Prop):Prop:=(bw_ (decide (i<0)||decide (i≥n)||decide (miss≥0)) (O_ (n) (nk) (knows) (nval) (val) (np) (isput) (nt) (to) (nr) (reads) (nq) (wrote) (miss) (all) (())) (aw_ (0≤i∧i<(↑np:Int)) (bw_ (!List.getD isput (iJ i) false) (aw_ ((nq+1)*8≤140737488355328) (aw_ (0≤i∧i<(↑np:Int)) (aw_ (0≤i∧i<(↑nt:Int)) (O_ (n) (nk) (knows) (nval) (val) (np) (List.set isput (iJ i) true) (nt) (List.set to (iJ i) v) (nr) (reads) (nq+1) (wrote++[i]) (miss) (all) (()))))) (aw_ (0≤i∧i<(↑np:Int)) (aw_ (0≤i∧i<(↑nt:Int)) (O_ (n) (nk) (knows) (nval) (val) (np) (List.set isput (iJ i) true) (nt) (List.set to (iJ i) v) (nr) (reads) (nq) (wrote) (miss) (all) (())))))))
theorem IR (s:VS) (i v n:Int) (nk:Nat) (knows:List Bool) (nval:Nat) (val:LI) (np:Nat) (isput:List Bool) (nt:Nat) (to:LI) (nr:Nat) (reads:LI) (nq:Nat) (wrote:LI) (miss:Int) (all:Bool) (hp0:bd32 v) (hx:Aj ⟨n,nk,knows,nval,val,np,isput,nt,to,nr,reads,nq,wrote,miss,all⟩ (s)):CZ s i v n nk knows nval val np isput nt to nr reads nq wrote miss all (λr__=>r__=(Bl s i v)) (λn_ nk_ knows_ nval_ val_ np_ isput_ nt_ to_ nr_ reads_ nq_ wrote_ miss_ all_ r_=>Aj ⟨n_,nk_,knows_,nval_,val_,np_,isput_,nt_,to_,nr_,reads_,nq_,wrote_,miss_,all_⟩ ((Bl s i v))∧r_=()):=by
 have key:∀x:RX,Aj x s→CZ s i v x.n x.nk x.knows x.nv x.val x.np x.isput x.nt x.to x.nr x.reads x.nq x.wrote x.miss x.all (λr__=>r__=(Bl s i v)) (λn_ nk_ knows_ nval_ val_ np_ isput_ nt_ to_ nr_ reads_ nq_ wrote_ miss_ all_ r_=>Aj ⟨n_,nk_,knows_,nval_,val_,np_,isput_,nt_,to_,nr_,reads_,nq_,wrote_,miss_,all_⟩ ((Bl s i v))∧r_=()):=by
  intro x ho
  unfold CZ
  have hb:=ho.bound
  rw [ho.there i]
  cases ht:s.there i with
  |false=>
   refine ⟨λ_=>⟨?_,rfl⟩, λh=>by cases h⟩
   simp only [Bl,VS.set,ht,cond_false];exact ho
  |true=>
   refine ⟨(λh=>by cases h), λ_=>?_⟩
   obtain ⟨h0,h1⟩:=VS.thereOf ht
   rw [ho.n] at h1
   have hp:=ho.put i h0 h1
   have l3:=ho.np;have l4:=ho.nt
   have m3:=ho.lp;have m4:=ho.lt
   refine ⟨by omega, λ_=>?_⟩
   cases hq:x.isput.getD i.toNat false with
   |true=>
    rw [hq] at hp
    simp only [cond_true] at hp
    refine ⟨(λh=>by cases h), λ_=>⟨by omega, λ_=>⟨by omega, λ_=>⟨?_,rfl⟩⟩⟩⟩
    simp only [Bl,VS.set,ht,hp,cond_true,Option.isSome_some]
    exact ho.putOld h0 h1 hp0 hq
   |false=>
    rw [hq] at hp
    simp only [cond_false] at hp
    refine ⟨λ_=>⟨by omega, λ_=>⟨by omega, λ_=>⟨by omega, λ_=>⟨?_,rfl⟩⟩⟩⟩, λh=>by cases h⟩
    simp only [Bl,VS.set,ht,hp,cond_true,cond_false,Option.isSome_none]
    exact ho.putNew h0 h1 hp0 hq
 exact key ⟨n,nk,knows,nval,val,np,isput,nt,to,nr,reads,nq,wrote,miss,all⟩ hx
theorem JW:EOk 37 Iu:=
 ent_ob Dg Dk true Es (I:=[]) Tryz.func37 mix (B:=bodyOf Tryz.f37) (by kernel_rfl) rfl (by kernel_rfl) 400
  λo s i v hb hp=>have hp0:bd32 v:=hp _ (.head _);⟨s,(Bl s i v),(),[],[], λj=>iE [] j (λ_=>False), λj=>iE [] j (λ_=>(0,0,0)),by kernel_rfl, λ_ _=>by kernel_rfl,by kernel_rfl, λn nk knows nval val np isput nt to nr reads nq wrote miss all hx=>⟨CZ s i v n nk knows nval val np isput nt to nr reads nq wrote miss all (λr__=>r__=(Bl s i v)) (λn_ nk_ knows_ nval_ val_ np_ isput_ nt_ to_ nr_ reads_ nq_ wrote_ miss_ all_ r_=>Aj ⟨n_,nk_,knows_,nval_,val_,np_,isput_,nt_,to_,nr_,reads_,nq_,wrote_,miss_,all_⟩ ((Bl s i v))∧r_=()), λ_ _ _ _=>by kernel_rfl,IR s i v n nk knows nval val np isput nt to nr reads nq wrote miss all hp0 hx⟩,trivial⟩
def Iw:Tb:=(37,Iu)::Ir
theorem Et:TOk Iw:=tc_ JW Es
end
section
open Go.Sl
def Eu (m:Int):VS:=VS.blank m
abbrev J3:Ct Sg:=⟨none,false,[.i .i64], .nobj Ap⟩
def EU:Entry Sg:=entC J3 (λ(m:Int)=>VS.blank m) (λm=>[m≤1000000])
def EW (m:Int) (Q0:Int→Int→Nat→List Bool→Nat→LI→Nat→List Bool→Nat→LI→Nat→LI→Nat→LI→Int→Bool→Prop) (O_:Int→Nat→List Bool→Nat→LI→Nat→List Bool→Nat→LI→Nat→LI→Nat→LI→Int→Bool→Prop):Prop:=(Q0 (0) (m) (0) ([]) (0) ([]) (0) ([]) (0) ([]) (0) ([]) (0) ([]) ((-1)) (false))
def Ew (m i n:Int) (nk:Nat) (knows:List Bool) (nval:Nat) (val:LI) (np:Nat) (isput:List Bool) (nt:Nat) (to:LI) (nr:Nat) (reads:LI) (nq:Nat) (wrote:LI) (miss:Int) (all:Bool) (Q0:Int→Int→Nat→List Bool→Nat→LI→Nat→List Bool→Nat→LI→Nat→LI→Nat→LI→Int→Bool→Prop) (O_:Int→Nat→List Bool→Nat→LI→Nat→List Bool→Nat→LI→Nat→LI→Nat→LI→Int→Bool→Prop):Prop:=(bw_ (decide (i<m)) (aw_ ((nk+1)*1≤140737488355328) (aw_ ((nval+1)*4≤140737488355328) (aw_ ((np+1)*1≤140737488355328) (aw_ ((nt+1)*4≤140737488355328) (Q0 (iA iB (i+1)) (n) (nk+1) (knows++[false]) (nval+1) (val++[0]) (np+1) (isput++[false]) (nt+1) (to++[0]) (nr) (reads) (nq) (wrote) (miss) (all)))))) (O_ (n) (nk) (knows) (nval) (val) (np) (isput) (nt) (to) (nr) (reads) (nq) (wrote) (miss) (all)))
def AY (m i n:Int) (nk:Nat) (knows:List Bool) (nval:Nat) (val:LI) (np:Nat) (isput:List Bool) (nt:Nat) (to:LI) (nr:Nat) (reads:LI) (nq:Nat) (wrote:LI) (miss:Int) (all:Bool):Prop:=0≤i∧(i≤m∨i=0)∧n=m∧nk=i.toNat∧nval=i.toNat∧np=i.toNat∧nt=i.toNat∧knows=jU i.toNat false∧val=jU i.toNat 0∧isput=jU i.toNat false∧to=jU i.toNat 0∧nr=0∧reads=[]∧nq=0∧wrote=[]∧miss= -1∧all=false
theorem Gg (m:Int) (hp0:m≤1000000):EW m (λi' n' nk' knows' nval' val' np' isput' nt' to' nr' reads' nq' wrote' miss' all'=>AY m i' n' nk' knows' nval' val' np' isput' nt' to' nr' reads' nq' wrote' miss' all') (λn_ nk_ knows_ nval_ val_ np_ isput_ nt_ to_ nr_ reads_ nq_ wrote_ miss_ all_=>Aj ⟨n_,nk_,knows_,nval_,val_,np_,isput_,nt_,to_,nr_,reads_,nq_,wrote_,miss_,all_⟩ ((Eu m))):=by
 unfold EW
 try unfold AY
 exact ⟨by omega,by omega,rfl,rfl,rfl,rfl,rfl,rfl,rfl,rfl,rfl,rfl,rfl,rfl,rfl,rfl,rfl⟩
theorem Gh (m:Int) (hp0:m≤1000000) (i n:Int) (nk:Nat) (knows:List Bool) (nval:Nat) (val:LI) (np:Nat) (isput:List Bool) (nt:Nat) (to:LI) (nr:Nat) (reads:LI) (nq:Nat) (wrote:LI) (miss:Int) (all:Bool) (hI:AY m i n nk knows nval val np isput nt to nr reads nq wrote miss all):Ew m i n nk knows nval val np isput nt to nr reads nq wrote miss all (λi' n' nk' knows' nval' val' np' isput' nt' to' nr' reads' nq' wrote' miss' all'=>AY m i' n' nk' knows' nval' val' np' isput' nt' to' nr' reads' nq' wrote' miss' all'∧lx ((m-i').toNat,0,0) ((m-i).toNat,0,0)) (λn_ nk_ knows_ nval_ val_ np_ isput_ nt_ to_ nr_ reads_ nq_ wrote_ miss_ all_=>Aj ⟨n_,nk_,knows_,nval_,val_,np_,isput_,nt_,to_,nr_,reads_,nq_,wrote_,miss_,all_⟩ ((Eu m))):=by
 unfold AY at hI
 unfold Ew
 try unfold AY
 obtain ⟨h0,h1,e0,e1,e2,e3,e4,e5,e6,e7,e8,rfl,rfl,rfl,rfl,rfl,rfl⟩:=hI
 refine ⟨λh=>?_, λh=>?_⟩
 ·simp only [decide_eq_true_eq] at h
  rw [w64 (by omega)]
  refine ⟨by omega, λ_=>⟨by omega, λ_=>⟨by omega, λ_=>⟨by omega, λ_=>⟨⟨by omega,by omega,e0,by omega,by omega,by omega,by omega,?_,?_,?_,?_,rfl,rfl,rfl,rfl,rfl,rfl⟩,lxo_⟩⟩⟩⟩⟩
  ·rw [toNat_succ h0,e5,rep_snoc]
  ·rw [toNat_succ h0,e6,rep_snoc]
  ·rw [toNat_succ h0,e7,rep_snoc]
  ·rw [toNat_succ h0,e8,rep_snoc]
 ·simp only [decide_eq_false_iff_not] at h
  have hi:i.toNat=m.toNat:=by omega
  rw [hi] at e1 e2 e3 e4 e5 e6 e7 e8
  subst e0 e1 e2 e3 e4 e5 e6 e7 e8
  exact {n:=rfl,all:=rfl,nk:=by simp,nv:=by simp,np:=by simp,nt:=by simp,nr:=rfl,nq:=rfl,lk:=by simp,lv:=by simp,lp:=by simp,lt:=by simp
         src:= λi _ _=>by show none=bif (jU n.toNat false).getD i.toNat false then _ else none;rw [rep_getD];rfl
         put:= λi _ _=>by show none=bif (jU n.toNat false).getD i.toNat false then _ else none;rw [rep_getD];rfl
         bv:= λv hv=>by rw [List.eq_of_mem_replicate hv];exact ⟨by decide,by decide⟩
         bt:= λv hv=>by rw [List.eq_of_mem_replicate hv];exact ⟨by decide,by decide⟩
         reads:=rfl
         wrote:=rfl
         miss:=rfl
         m0:= .inl rfl
         nb:=hp0
         rl:=by simp
         wl:=by simp
         rn:=List.nodup_nil
         wn:=List.nodup_nil
         ri:= λi h=>by cases h
         wi:= λi h=>by cases h
         pw:= λi _ _ h=>by
          have h':(jU n.toNat false).getD i.toNat false=true:=h
          rw [rep_getD] at h';cases h'
         ka:= λh=>by cases h}
theorem Jd:EOk 27 EU:=
 ent_nw Dg Dk Et (I:=[411000000004,411000000003,411000000000]) Tryz.func27 mix (B:=bodyOf Tryz.f27) (by kernel_rfl) rfl (by kernel_rfl) 400
  λp0 m hb hp=>have hp0:m≤1000000:=hp _ (.head _);⟨(Eu m),[⟨none,[0,1,0,1,1],[.blk 0, .code [1,1,1]],[4,3,0],[.i .i64, .box AB.t AB.l, .ic .i64 (m)]⟩],[.run], λj=>iE [appC (Hd.kd (⟨none,[0,1,0,1,1],[.blk 0, .code [1,1,1]],[4,3,0],[.i .i64, .box AB.t AB.l, .ic .i64 (m)]⟩:Hd Sg)) (λi' n' nk' knows' nval' val' np' isput' nt' to' nr' reads' nq' wrote' miss' all'=>AY m i' n' nk' knows' nval' val' np' isput' nt' to' nr' reads' nq' wrote' miss' all')] j (λ_=>False), λj=>iE [appC (Hd.kd (⟨none,[0,1,0,1,1],[.blk 0, .code [1,1,1]],[4,3,0],[.i .i64, .box AB.t AB.l, .ic .i64 (m)]⟩:Hd Sg)) (λi' n' nk' knows' nval' val' np' isput' nt' to' nr' reads' nq' wrote' miss' all'=>((m-i').toNat,0,0))] j (λ_=>(0,0,0)),by kernel_rfl, λ_=>rfl,by kernel_rfl,by kernel_rfl,⟨_, λ_ _ _=>by kernel_rfl,Gg m hp0⟩,⟨λi n nk knows nval val np isput nt to nr reads nq wrote miss all hI=>⟨_, λ_ _ _=>by kernel_rfl,Gh m hp0 i n nk knows nval val np isput nt to nr reads nq wrote miss all hI⟩,trivial⟩⟩
def EX:Tb:=(27,EU)::Iw
theorem Dq:TOk EX:=tc_ Jd Et
def Df (xs:LI):VS:=VS.whole xs
abbrev J4:Ct Sg:=⟨none,false,[.ro [some .u32]], .nobj Ap⟩
def EY:Entry Sg:=entC J4 (λ(xs:LI)=>VS.whole xs) (λxs=>[xs.length≤1000000,bdL xs])
def EZ (xs:LI) (Q0:VS→Prop) (Q1:Int→Nat→List Bool→Nat→LI→Nat→List Bool→Nat→LI→Nat→LI→Nat→LI→Int→Bool→Prop) (Q2:Int→Int→Nat→List Bool→Nat→LI→Nat→List Bool→Nat→LI→Nat→LI→Nat→LI→Int→Bool→Prop) (O_:Int→Nat→List Bool→Nat→LI→Nat→List Bool→Nat→LI→Nat→LI→Nat→LI→Int→Bool→Prop):Prop:=(∀r0:VS,r0=(VS.blank (↑(iC xs):Int))→(aw_ ((↑(iC xs):Int)≤1000000) (Q0 (r0))))
def CP (xs:LI) (s:VS) (n_:Int) (nk_:Nat) (knows_:List Bool) (nval_:Nat) (val_:LI) (np_:Nat) (isput_:List Bool) (nt_:Nat) (to_:LI) (nr_:Nat) (reads_:LI) (nq_:Nat) (wrote_:LI) (miss_:Int) (all_:Bool) (Q1:Int→Nat→List Bool→Nat→LI→Nat→List Bool→Nat→LI→Nat→LI→Nat→LI→Int→Bool→Prop):Prop:=(Q1 (n_) (nk_) (knows_) (nval_) (val_) (np_) (isput_) (nt_) (to_) (nr_) (reads_) (nq_) (wrote_) (miss_) (all_))
def Aq (xs:LI) (s:VS):Prop:=s=VS.blank xs.length
def Ey (xs:LI) (n:Int) (nk:Nat) (knows:List Bool) (nval:Nat) (val:LI) (np:Nat) (isput:List Bool) (nt:Nat) (to:LI) (nr:Nat) (reads:LI) (nq:Nat) (wrote:LI) (miss:Int) (all:Bool) (Q0:VS→Prop) (Q1:Int→Nat→List Bool→Nat→LI→Nat→List Bool→Nat→LI→Nat→LI→Nat→LI→Int→Bool→Prop) (Q2:Int→Int→Nat→List Bool→Nat→LI→Nat→List Bool→Nat→LI→Nat→LI→Nat→LI→Int→Bool→Prop) (O_:Int→Nat→List Bool→Nat→LI→Nat→List Bool→Nat→LI→Nat→LI→Nat→LI→Int→Bool→Prop):Prop:=(Q2 (0) (n) (nk) (knows) (nval) (val) (np) (isput) (nt) (to) (nr) (reads) (nq) (wrote) (miss) (all))
def Ak (xs:LI) (n:Int) (nk:Nat) (knows:List Bool) (nval:Nat) (val:LI) (np:Nat) (isput:List Bool) (nt:Nat) (to:LI) (nr:Nat) (reads:LI) (nq:Nat) (wrote:LI) (miss:Int) (all:Bool):Prop:=Aj ⟨n,nk,knows,nval,val,np,isput,nt,to,nr,reads,nq,wrote,miss,all⟩ (VS.blank xs.length)
def Ez (xs:LI) (i n:Int) (nk:Nat) (knows:List Bool) (nval:Nat) (val:LI) (np:Nat) (isput:List Bool) (nt:Nat) (to:LI) (nr:Nat) (reads:LI) (nq:Nat) (wrote:LI) (miss:Int) (all:Bool) (Q0:VS→Prop) (Q1:Int→Nat→List Bool→Nat→LI→Nat→List Bool→Nat→LI→Nat→LI→Nat→LI→Int→Bool→Prop) (Q2:Int→Int→Nat→List Bool→Nat→LI→Nat→List Bool→Nat→LI→Nat→LI→Nat→LI→Int→Bool→Prop) (O_:Int→Nat→List Bool→Nat→LI→Nat→List Bool→Nat→LI→Nat→LI→Nat→LI→Int→Bool→Prop):Prop:=(bw_ (decide (i<(↑(iC xs):Int))) (aw_ (0≤i∧i<(↑nk:Int)) (aw_ (0≤i∧i<(↑(iC xs):Int)) (aw_ (0≤i∧i<(↑nval:Int)) (Q2 (iA iB (i+1)) (n) (nk) (List.set knows (iJ i) true) (nval) (List.set val (iJ i) (iE xs (iJ i) 0)) (np) (isput) (nt) (to) (nr) (reads) (nq) (wrote) (miss) (all))))) (O_ (n) (nk) (knows) (nval) (val) (np) (isput) (nt) (to) (nr) (reads) (nq) (wrote) (miss) (true)))
def Ar (xs:LI) (i n:Int) (nk:Nat) (knows:List Bool) (nval:Nat) (val:LI) (np:Nat) (isput:List Bool) (nt:Nat) (to:LI) (nr:Nat) (reads:LI) (nq:Nat) (wrote:LI) (miss:Int) (all:Bool):Prop:=0≤i∧i≤xs.length∧WI xs i.toNat ⟨n,nk,knows,nval,val,np,isput,nt,to,nr,reads,nq,wrote,miss,all⟩
theorem Gi (xs:LI) (hp0:xs.length≤1000000) (hp1:bdL xs) (hl0:xs.length≤9223372036854775807):EZ xs (λs'=>Aq xs s') (λn' nk' knows' nval' val' np' isput' nt' to' nr' reads' nq' wrote' miss' all'=>Ak xs n' nk' knows' nval' val' np' isput' nt' to' nr' reads' nq' wrote' miss' all') (λi' n' nk' knows' nval' val' np' isput' nt' to' nr' reads' nq' wrote' miss' all'=>Ar xs i' n' nk' knows' nval' val' np' isput' nt' to' nr' reads' nq' wrote' miss' all') (λn_ nk_ knows_ nval_ val_ np_ isput_ nt_ to_ nr_ reads_ nq_ wrote_ miss_ all_=>Aj ⟨n_,nk_,knows_,nval_,val_,np_,isput_,nt_,to_,nr_,reads_,nq_,wrote_,miss_,all_⟩ ((Df xs))):=by
 unfold EZ
 try unfold Aq
 try unfold Ak
 try unfold Ar
 intro r0 e
 exact ⟨by omega, λ_=>e⟩
theorem Gj (xs:LI) (hp0:xs.length≤1000000) (hp1:bdL xs) (hl0:xs.length≤9223372036854775807) (s:VS) (n_:Int) (nk_:Nat) (knows_:List Bool) (nval_:Nat) (val_:LI) (np_:Nat) (isput_:List Bool) (nt_:Nat) (to_:LI) (nr_:Nat) (reads_:LI) (nq_:Nat) (wrote_:LI) (miss_:Int) (all_:Bool) (hI:Aq xs s) (hx:Aj ⟨n_,nk_,knows_,nval_,val_,np_,isput_,nt_,to_,nr_,reads_,nq_,wrote_,miss_,all_⟩ (s)):CP xs s n_ nk_ knows_ nval_ val_ np_ isput_ nt_ to_ nr_ reads_ nq_ wrote_ miss_ all_ (λn' nk' knows' nval' val' np' isput' nt' to' nr' reads' nq' wrote' miss' all'=>Ak xs n' nk' knows' nval' val' np' isput' nt' to' nr' reads' nq' wrote' miss' all'∧lx (xs.length+2,0,0) (xs.length+3,0,0)):=by
 unfold Aq at hI
 unfold CP
 try unfold Aq
 try unfold Ak
 try unfold Ar
 subst hI
 exact ⟨hx,lxo_⟩
theorem Gl (xs:LI) (hp0:xs.length≤1000000) (hp1:bdL xs) (hl0:xs.length≤9223372036854775807) (n:Int) (nk:Nat) (knows:List Bool) (nval:Nat) (val:LI) (np:Nat) (isput:List Bool) (nt:Nat) (to:LI) (nr:Nat) (reads:LI) (nq:Nat) (wrote:LI) (miss:Int) (all:Bool) (hI:Ak xs n nk knows nval val np isput nt to nr reads nq wrote miss all):Ey xs n nk knows nval val np isput nt to nr reads nq wrote miss all (λs'=>Aq xs s'∧lx (xs.length+3,0,0) (xs.length+2,0,0)) (λn' nk' knows' nval' val' np' isput' nt' to' nr' reads' nq' wrote' miss' all'=>Ak xs n' nk' knows' nval' val' np' isput' nt' to' nr' reads' nq' wrote' miss' all'∧lx (xs.length+2,0,0) (xs.length+2,0,0)) (λi' n' nk' knows' nval' val' np' isput' nt' to' nr' reads' nq' wrote' miss' all'=>Ar xs i' n' nk' knows' nval' val' np' isput' nt' to' nr' reads' nq' wrote' miss' all'∧lx ((xs.length-i').toNat,0,0) (xs.length+2,0,0)) (λn_ nk_ knows_ nval_ val_ np_ isput_ nt_ to_ nr_ reads_ nq_ wrote_ miss_ all_=>Aj ⟨n_,nk_,knows_,nval_,val_,np_,isput_,nt_,to_,nr_,reads_,nq_,wrote_,miss_,all_⟩ ((Df xs))):=by
 unfold Ak at hI
 unfold Ey
 try unfold Aq
 try unfold Ak
 try unfold Ar
 exact ⟨⟨by omega,by show (0:Int)≤_;omega,WI.start hI⟩,lxo_⟩
theorem Gm (xs:LI) (hp0:xs.length≤1000000) (hp1:bdL xs) (hl0:xs.length≤9223372036854775807) (i n:Int) (nk:Nat) (knows:List Bool) (nval:Nat) (val:LI) (np:Nat) (isput:List Bool) (nt:Nat) (to:LI) (nr:Nat) (reads:LI) (nq:Nat) (wrote:LI) (miss:Int) (all:Bool) (hI:Ar xs i n nk knows nval val np isput nt to nr reads nq wrote miss all):Ez xs i n nk knows nval val np isput nt to nr reads nq wrote miss all (λs'=>Aq xs s'∧lx (xs.length+3,0,0) ((xs.length-i).toNat,0,0)) (λn' nk' knows' nval' val' np' isput' nt' to' nr' reads' nq' wrote' miss' all'=>Ak xs n' nk' knows' nval' val' np' isput' nt' to' nr' reads' nq' wrote' miss' all'∧lx (xs.length+2,0,0) ((xs.length-i).toNat,0,0)) (λi' n' nk' knows' nval' val' np' isput' nt' to' nr' reads' nq' wrote' miss' all'=>Ar xs i' n' nk' knows' nval' val' np' isput' nt' to' nr' reads' nq' wrote' miss' all'∧lx ((xs.length-i').toNat,0,0) ((xs.length-i).toNat,0,0)) (λn_ nk_ knows_ nval_ val_ np_ isput_ nt_ to_ nr_ reads_ nq_ wrote_ miss_ all_=>Aj ⟨n_,nk_,knows_,nval_,val_,np_,isput_,nt_,to_,nr_,reads_,nq_,wrote_,miss_,all_⟩ ((Df xs))):=by
 unfold Ar at hI
 unfold Ez
 try unfold Aq
 try unfold Ak
 try unfold Ar
 obtain ⟨h0,h1,h2⟩:=hI
 refine ⟨λh=>?_, λh=>?_⟩
 ·simp only [decide_eq_true_eq] at h
  obtain ⟨z1,z2,_⟩:=h2.len
  have z3:nk=xs.length:=z1
  have z4:nval=xs.length:=z2
  rw [w64 (by omega)]
  refine ⟨by omega, λ_=>⟨by omega, λ_=>⟨by omega, λ_=>⟨⟨by omega,by omega,?_⟩,lxo_⟩⟩⟩⟩
  rw [toNat_succ h0]
  exact h2.step (by omega) hp1
 ·simp only [decide_eq_false_iff_not] at h
  have hi:i.toNat=xs.length:=by omega
  rw [hi] at h2
  exact h2.done
theorem Je:EOk 8 EY:=
 ent_nw Dg Dk Dq (I:=[1090000,2999998,411000000004,411000000003,411000000000]) Tryz.func8 mix (B:=bodyOf Tryz.f8) (by kernel_rfl) rfl (by kernel_rfl) 400
  λp0 xs hb hp=>have hl0:xs.length≤9223372036854775807:=hb.1;have hp0:xs.length≤1000000:=hp _ (.head _);have hp1:bdL xs:=hp _ (.tail _ (.head _));⟨(Df xs),[⟨some 0,[0,0,1,1],[.code [1,0,1,1], .code [1,1,1]],[3,0],[.objb Ap, .roc [.ints .u32 (xs)]]⟩,⟨some 0,[0,0,1,1],[.code [1,0,1,1], .code [1,1,1]],[3,0],[.box AB.t AB.l, .roc [.ints .u32 (xs)]]⟩,⟨none,[0,1,0,1,1],[.blk 0, .code [1,1,1]],[4,3,0],[.i .i64, .box AB.t AB.l, .roc [.ints .u32 (xs)]]⟩],[.opn 0 (λad=>(ad 0).b) 1, .run, .run], λj=>iE [appC (Hd.kd (⟨some 0,[0,0,1,1],[.code [1,0,1,1], .code [1,1,1]],[3,0],[.objb Ap, .roc [.ints .u32 (xs)]]⟩:Hd Sg)) (λs'=>Aq xs s'),appC (Hd.kd (⟨some 0,[0,0,1,1],[.code [1,0,1,1], .code [1,1,1]],[3,0],[.box AB.t AB.l, .roc [.ints .u32 (xs)]]⟩:Hd Sg)) (λn' nk' knows' nval' val' np' isput' nt' to' nr' reads' nq' wrote' miss' all'=>Ak xs n' nk' knows' nval' val' np' isput' nt' to' nr' reads' nq' wrote' miss' all'),appC (Hd.kd (⟨none,[0,1,0,1,1],[.blk 0, .code [1,1,1]],[4,3,0],[.i .i64, .box AB.t AB.l, .roc [.ints .u32 (xs)]]⟩:Hd Sg)) (λi' n' nk' knows' nval' val' np' isput' nt' to' nr' reads' nq' wrote' miss' all'=>Ar xs i' n' nk' knows' nval' val' np' isput' nt' to' nr' reads' nq' wrote' miss' all')] j (λ_=>False), λj=>iE [appC (Hd.kd (⟨some 0,[0,0,1,1],[.code [1,0,1,1], .code [1,1,1]],[3,0],[.objb Ap, .roc [.ints .u32 (xs)]]⟩:Hd Sg)) (λs'=>(xs.length+3,0,0)),appC (Hd.kd (⟨some 0,[0,0,1,1],[.code [1,0,1,1], .code [1,1,1]],[3,0],[.box AB.t AB.l, .roc [.ints .u32 (xs)]]⟩:Hd Sg)) (λn' nk' knows' nval' val' np' isput' nt' to' nr' reads' nq' wrote' miss' all'=>(xs.length+2,0,0)),appC (Hd.kd (⟨none,[0,1,0,1,1],[.blk 0, .code [1,1,1]],[4,3,0],[.i .i64, .box AB.t AB.l, .roc [.ints .u32 (xs)]]⟩:Hd Sg)) (λi' n' nk' knows' nval' val' np' isput' nt' to' nr' reads' nq' wrote' miss' all'=>((xs.length-i').toNat,0,0))] j (λ_=>(0,0,0)),by kernel_rfl, λ_=>rfl,by kernel_rfl,by kernel_rfl,⟨_, λ_ _ _=>by kernel_rfl,Gi xs hp0 hp1 hl0⟩,⟨λs hI=>⟨s, λ_=>by kernel_rfl, λn_ nk_ knows_ nval_ val_ np_ isput_ nt_ to_ nr_ reads_ nq_ wrote_ miss_ all_ hx=>⟨CP xs s n_ nk_ knows_ nval_ val_ np_ isput_ nt_ to_ nr_ reads_ nq_ wrote_ miss_ all_ (λn' nk' knows' nval' val' np' isput' nt' to' nr' reads' nq' wrote' miss' all'=>Ak xs n' nk' knows' nval' val' np' isput' nt' to' nr' reads' nq' wrote' miss' all'∧lx (xs.length+2,0,0) (xs.length+3,0,0)), λ_ _=>by kernel_rfl,Gj xs hp0 hp1 hl0 s n_ nk_ knows_ nval_ val_ np_ isput_ nt_ to_ nr_ reads_ nq_ wrote_ miss_ all_ hI hx⟩⟩,⟨λn nk knows nval val np isput nt to nr reads nq wrote miss all hI=>⟨_, λ_ _ _=>by kernel_rfl,Gl xs hp0 hp1 hl0 n nk knows nval val np isput nt to nr reads nq wrote miss all hI⟩,⟨λi n nk knows nval val np isput nt to nr reads nq wrote miss all hI=>⟨_, λ_ _ _=>by kernel_rfl,Gm xs hp0 hp1 hl0 i n nk knows nval val np isput nt to nr reads nq wrote miss all hI⟩,trivial⟩⟩⟩⟩
def Fa:Tb:=(8,EY)::EX
theorem Du:TOk Fa:=tc_ Je Dq
def A8 (s:VS):LI×LI:=(s.wrote,s.puts)
abbrev Jf:Ct Sg:=⟨some Ap,true,[], .new 95 [some .i64,some .u32]⟩
def E5:Entry Sg:=entC Jf (λ(s:VS)=>(s.wrote,s.puts)) (λ_=>[])
def BK (s:VS) (n:Int) (nk:Nat) (knows:List Bool) (nval:Nat) (val:LI) (np:Nat) (isput:List Bool) (nt:Nat) (to:LI) (nr:Nat) (reads:LI) (nq:Nat) (wrote:LI) (miss:Int) (all:Bool) (Q0:Int→Nat→List Bool→Nat→LI→Nat→List Bool→Nat→LI→Nat→LI→Nat→LI→Int→Bool→Int→Nat→LI→LI→Prop) (R_:LI×LI→Prop) (O_:Int→Nat→List Bool→Nat→LI→Nat→List Bool→Nat→LI→Nat→LI→Nat→LI→Int→Bool→LI×LI→Prop):Prop:=(Q0 (n) (nk) (knows) (nval) (val) (np) (isput) (nt) (to) (nr) (reads) (nq) (wrote) (miss) (all) (0) (0) ([]) ([]))
def DF (s:VS) (n:Int) (nk:Nat) (knows:List Bool) (nval:Nat) (val:LI) (np:Nat) (isput:List Bool) (nt:Nat) (to:LI) (nr:Nat) (reads:LI) (nq:Nat) (wrote:LI) (miss:Int) (all:Bool) (i:Int) (no:Nat) (xs ys:LI) (Q0:Int→Nat→List Bool→Nat→LI→Nat→List Bool→Nat→LI→Nat→LI→Nat→LI→Int→Bool→Int→Nat→LI→LI→Prop) (R_:LI×LI→Prop) (O_:Int→Nat→List Bool→Nat→LI→Nat→List Bool→Nat→LI→Nat→LI→Nat→LI→Int→Bool→LI×LI→Prop):Prop:=(bw_ (decide (i<(↑nq:Int))) (aw_ (0≤i∧i<(↑nq:Int)) (aw_ (0≤i∧i<(↑nq:Int)) (aw_ (0≤iE wrote (iJ i) 0∧iE wrote (iJ i) 0<(↑nt:Int)) (tw_ (aw_ ((no+1)*16≤140737488355328) (Q0 (n) (nk) (knows) (nval) (val) (np) (isput) (nt) (to) (nr) (reads) (nq) (wrote) (miss) (all) (iA iB (i+1)) (no+1) (xs++[iE wrote (iJ i) 0]) (ys++[iE to (iJ (iE wrote (iJ i) 0)) 0]))))))) (O_ (n) (nk) (knows) (nval) (val) (np) (isput) (nt) (to) (nr) (reads) (nq) (wrote) (miss) (all) ((xs,ys))))
def Au (s:VS) (n:Int) (nk:Nat) (knows:List Bool) (nval:Nat) (val:LI) (np:Nat) (isput:List Bool) (nt:Nat) (to:LI) (nr:Nat) (reads:LI) (nq:Nat) (wrote:LI) (miss:Int) (all:Bool) (i:Int) (no:Nat) (xs ys:LI):Prop:=Aj ⟨n,nk,knows,nval,val,np,isput,nt,to,nr,reads,nq,wrote,miss,all⟩ s∧0≤i∧i≤nq∧xs=wrote.take i.toNat∧ys=(wrote.take i.toNat).map (λj=>to.getD j.toNat 0)∧no=i.toNat
theorem FD (s:VS) (n:Int) (nk:Nat) (knows:List Bool) (nval:Nat) (val:LI) (np:Nat) (isput:List Bool) (nt:Nat) (to:LI) (nr:Nat) (reads:LI) (nq:Nat) (wrote:LI) (miss:Int) (all:Bool) (hx:Aj ⟨n,nk,knows,nval,val,np,isput,nt,to,nr,reads,nq,wrote,miss,all⟩ (s)):BK s n nk knows nval val np isput nt to nr reads nq wrote miss all (λn' nk' knows' nval' val' np' isput' nt' to' nr' reads' nq' wrote' miss' all' i' no' xs' ys'=>Au s n' nk' knows' nval' val' np' isput' nt' to' nr' reads' nq' wrote' miss' all' i' no' xs' ys') (λr__=>r__=(A8 s)) (λn_ nk_ knows_ nval_ val_ np_ isput_ nt_ to_ nr_ reads_ nq_ wrote_ miss_ all_ r_=>Aj ⟨n_,nk_,knows_,nval_,val_,np_,isput_,nt_,to_,nr_,reads_,nq_,wrote_,miss_,all_⟩ (s)∧r_=(A8 s)):=by
 have key:∀x:RX,Aj x s→BK s x.n x.nk x.knows x.nv x.val x.np x.isput x.nt x.to x.nr x.reads x.nq x.wrote x.miss x.all (λn' nk' knows' nval' val' np' isput' nt' to' nr' reads' nq' wrote' miss' all' i' no' xs' ys'=>Au s n' nk' knows' nval' val' np' isput' nt' to' nr' reads' nq' wrote' miss' all' i' no' xs' ys') (λr__=>r__=(A8 s)) (λn_ nk_ knows_ nval_ val_ np_ isput_ nt_ to_ nr_ reads_ nq_ wrote_ miss_ all_ r_=>Aj ⟨n_,nk_,knows_,nval_,val_,np_,isput_,nt_,to_,nr_,reads_,nq_,wrote_,miss_,all_⟩ (s)∧r_=(A8 s)):=by
  intro x ho
  unfold BK
  try unfold Au
  exact ⟨ho,by omega,by omega,rfl,rfl,rfl⟩
 exact key ⟨n,nk,knows,nval,val,np,isput,nt,to,nr,reads,nq,wrote,miss,all⟩ hx
theorem FH (s:VS) (n:Int) (nk:Nat) (knows:List Bool) (nval:Nat) (val:LI) (np:Nat) (isput:List Bool) (nt:Nat) (to:LI) (nr:Nat) (reads:LI) (nq:Nat) (wrote:LI) (miss:Int) (all:Bool) (i:Int) (no:Nat) (xs ys:LI) (hI:Au s n nk knows nval val np isput nt to nr reads nq wrote miss all i no xs ys):DF s n nk knows nval val np isput nt to nr reads nq wrote miss all i no xs ys (λn' nk' knows' nval' val' np' isput' nt' to' nr' reads' nq' wrote' miss' all' i' no' xs' ys'=>Au s n' nk' knows' nval' val' np' isput' nt' to' nr' reads' nq' wrote' miss' all' i' no' xs' ys'∧lx ((nq'-i').toNat,0,0) ((nq-i).toNat,0,0)) (λr__=>r__=(A8 s)) (λn_ nk_ knows_ nval_ val_ np_ isput_ nt_ to_ nr_ reads_ nq_ wrote_ miss_ all_ r_=>Aj ⟨n_,nk_,knows_,nval_,val_,np_,isput_,nt_,to_,nr_,reads_,nq_,wrote_,miss_,all_⟩ (s)∧r_=(A8 s)):=by
 unfold Au at hI
 unfold DF
 try unfold Au
 obtain ⟨ho,h0,h1,h2,h3,h4⟩:=hI
 have l1:nq=wrote.length:=ho.nq;have l4:nt=to.length:=ho.nt;have m4:to.length=n.toNat:=ho.lt
 have hb:nr≤1000000∧nq≤1000000:=ho.bound
 refine ⟨λh=>?_, λh=>?_⟩
 ·simp only [decide_eq_true_eq] at h
  have hq:0≤wrote.getD i.toNat 0∧wrote.getD i.toNat 0<n:=by
   have:=ho.wi (wrote.getD i.toNat 0) (getD_mem (l:=wrote) (k:=i.toNat) (by omega))
   exact ⟨this.1,this.2.1⟩
  rw [w64 (by omega)]
  refine ⟨by omega, λ_=>⟨by omega, λ_=>⟨by omega, λ_=>(λh=>⟨h,h⟩) ⟨by omega, λ_=>⟨⟨ho,by omega,by omega,?_,?_,by omega⟩,lxo_⟩⟩⟩⟩⟩
  ·rw [toNat_succ h0,take_snoc (by omega),h2]
  ·rw [toNat_succ h0,take_snoc (by omega),h3,jD];rfl
 ·simp only [decide_eq_false_iff_not] at h
  have:i.toNat=wrote.length:=by omega
  refine ⟨ho,?_⟩
  rw [A8,←JR ho,h2,h3,this,List.take_length]
theorem IU:EOk 44 E5:=
 ent_ob Dg Dk true Du (I:=[411000000000,411000000004,411000000003]) Tryz.func44 mix (B:=bodyOf Tryz.f44) (by kernel_rfl) rfl (by kernel_rfl) 400
  λo s hb hp=>⟨s,s,(A8 s),[⟨none,[0,1,0,1,1],[.blk 0, .code [1,1,1]],[0,4,3],[.boxc o AB.t AB.l, .i .i64, .own 95 [some .i64,some .u32]]⟩],[.run], λj=>iE [appC (Hd.kd (⟨none,[0,1,0,1,1],[.blk 0, .code [1,1,1]],[0,4,3],[.boxc o AB.t AB.l, .i .i64, .own 95 [some .i64,some .u32]]⟩:Hd Sg)) (λn' nk' knows' nval' val' np' isput' nt' to' nr' reads' nq' wrote' miss' all' i' no' xs' ys'=>Au s n' nk' knows' nval' val' np' isput' nt' to' nr' reads' nq' wrote' miss' all' i' no' xs' ys')] j (λ_=>False), λj=>iE [appC (Hd.kd (⟨none,[0,1,0,1,1],[.blk 0, .code [1,1,1]],[0,4,3],[.boxc o AB.t AB.l, .i .i64, .own 95 [some .i64,some .u32]]⟩:Hd Sg)) (λn' nk' knows' nval' val' np' isput' nt' to' nr' reads' nq' wrote' miss' all' i' no' xs' ys'=>((nq'-i').toNat,0,0))] j (λ_=>(0,0,0)),by kernel_rfl, λ_ _=>by kernel_rfl,by kernel_rfl, λn nk knows nval val np isput nt to nr reads nq wrote miss all hx=>⟨BK s n nk knows nval val np isput nt to nr reads nq wrote miss all (λn' nk' knows' nval' val' np' isput' nt' to' nr' reads' nq' wrote' miss' all' i' no' xs' ys'=>Au s n' nk' knows' nval' val' np' isput' nt' to' nr' reads' nq' wrote' miss' all' i' no' xs' ys') (λr__=>r__=(A8 s)) (λn_ nk_ knows_ nval_ val_ np_ isput_ nt_ to_ nr_ reads_ nq_ wrote_ miss_ all_ r_=>Aj ⟨n_,nk_,knows_,nval_,val_,np_,isput_,nt_,to_,nr_,reads_,nq_,wrote_,miss_,all_⟩ (s)∧r_=(A8 s)), λ_ _ _ _=>by kernel_rfl,FD s n nk knows nval val np isput nt to nr reads nq wrote miss all hx⟩,⟨λn nk knows nval val np isput nt to nr reads nq wrote miss all i no xs ys hI=>⟨_, λ_ _ _=>by kernel_rfl,FH s n nk knows nval val np isput nt to nr reads nq wrote miss all i no xs ys hI⟩,trivial⟩⟩
def E8:Tb:=(44,E5)::Fa
theorem Dh:TOk E8:=tc_ IU Du
def BV (xs ys:LI):Bool:=decide (xs=ys)
abbrev Ll:Ct Sg:=⟨none,false,[.ro [some .i64], .ro [some .i64]], .b⟩
def Jg:Entry Sg:=entC Ll BV (λ_ _=>[])
def Jh (xs ys:LI) (Q0:Int→Prop) (R_:Bool→Prop):Prop:=(bw_ ((↑(iC xs):Int) !=(↑(iC ys):Int)) (R_ (false)) (Q0 (0)))
def Iy (xs ys:LI) (i:Int) (Q0:Int→Prop) (R_:Bool→Prop):Prop:=(bw_ (decide (i<(↑(iC xs):Int))) (aw_ (0≤i∧i<(↑(iC xs):Int)) (aw_ (0≤i∧i<(↑(iC ys):Int)) (bw_ (iE xs (iJ i) 0 !=iE ys (iJ i) 0) (R_ (false)) (Q0 (iA iB (i+1)))))) (R_ (true)))
def Bz (xs ys:LI) (i:Int) (r_:Bool):Prop:=0≤i∧i≤xs.length∧xs.length=ys.length∧(∀j:Nat,j<i.toNat→xs.getD j 0=ys.getD j 0)∧r_=decide (xs=ys)
abbrev EC (p0:Addr) (xs ys:LI):Hd Sg:=⟨none,[0,1,0,1,1],[.blk 0, .code [1,1,1]],[5,0,1],[.i .i64, .roc [.ints .i64 (xs)], .roc [.ints .i64 (ys)]]⟩
theorem Ji (xs ys:LI) (hl0:xs.length≤9223372036854775807) (hl1:ys.length≤9223372036854775807):Jh xs ys (λi'=>Bz xs ys i' (BV xs ys)) (λr__=>r__=(BV xs ys)):=by
 unfold Jh
 try unfold Bz
 refine ⟨λh=>?_, λh=>?_⟩
 ·simp only [bne_iff_ne,ne_eq] at h
  show false=BV xs ys
  symm
  simp only [BV,decide_eq_false_iff_not]
  rintro rfl
  exact h rfl
 ·simp only [bne_eq_false_iff_eq] at h
  exact ⟨by omega,by omega,by omega, λj hj=>absurd hj (Nat.not_lt_zero j),rfl⟩
theorem Jj (xs ys:LI) (hl0:xs.length≤9223372036854775807) (hl1:ys.length≤9223372036854775807) (i:Int) {r_:Bool} (hI:Bz xs ys i r_):Iy xs ys i (λi'=>Bz xs ys i' r_∧lx ((xs.length-i').toNat,0,0) ((xs.length-i).toNat,0,0)) (λr__=>r__=r_):=by
 unfold Bz at hI
 unfold Iy
 try unfold Bz
 obtain ⟨h0,h1,h2,h3,h4⟩:=hI
 refine ⟨λh=>?_, λh=>?_⟩
 ·simp only [decide_eq_true_eq] at h
  rw [w64 (by omega)]
  refine ⟨⟨h0,h⟩, λ_=>⟨⟨h0,by omega⟩, λ_=>⟨λhn=>?_, λhn=>?_⟩⟩⟩
  ·show false=r_
   rw [h4]
   symm
   simp only [decide_eq_false_iff_not]
   rintro rfl
   simp at hn
  ·refine ⟨⟨by omega,by omega,h2, λj hj=>?_,h4⟩,lxo_⟩
   by_cases hji:j=i.toNat
   ·subst hji;simpa using hn
   ·exact h3 j (by omega)
 ·simp only [decide_eq_false_iff_not] at h
  show true=r_
  rw [h4]
  symm
  simp only [decide_eq_true_eq]
  exact ext_getD h2 λj hj=>h3 j (by omega)
theorem KR:EOk 42 Jg:=
 ent_wp Dg Dh (I:=[411000000005,411000000000,411000000001]) Tryz.func42 mix (B:=bodyOf Tryz.f42) (by kernel_rfl) rfl (by kernel_rfl) 400
  λp0 xs ys hb hp=>have hl0:xs.length≤9223372036854775807:=hb.1;have hl1:ys.length≤9223372036854775807:=hb.2.1;⟨[EC p0 xs ys], λj=>iE [appC (Hd.kd (EC p0 xs ys)) (λi'=>Bz xs ys i' (BV xs ys))] j (λ_=>False), λj=>iE [appC (Hd.kd (EC p0 xs ys)) (λi'=>((xs.length-i').toNat,0,0))] j (λ_=>(0,0,0)),by kernel_rfl,⟨_, λ_ _ _=>by kernel_rfl,Ji xs ys hl0 hl1⟩,⟨λi hI=>⟨_, λ_ _ _=>by kernel_rfl,Jj xs ys hl0 hl1 i hI⟩,trivial⟩⟩
def Jk:Tb:=(42,Jg)::E8
theorem Fb:TOk Jk:=tc_ KR Dh
def BN (xs us ys vs:LI):Bool:=decide (xs=ys∧us=vs)
abbrev KT:Ct Sg:=⟨none,false,[.ro [some .i64,some .u32], .ro [some .i64,some .u32]], .b⟩
def Iz:Entry Sg:=entC KT BN (λxs us ys vs=>[xs.length=us.length,ys.length=vs.length])
def I4 (xs us ys vs:LI) (Q0:Int→Prop) (R_:Bool→Prop):Prop:=(bw_ ((↑(iC xs):Int) !=(↑(iC ys):Int)) (R_ (false)) (Q0 (0)))
def Gn (xs us ys vs:LI) (i:Int) (Q0:Int→Prop) (R_:Bool→Prop):Prop:=(bw_ (decide (i<(↑(iC xs):Int))) (aw_ (0≤i∧i<(↑(iC xs):Int)) (aw_ (0≤i∧i<(↑(iC ys):Int)) (bw_ (!(iE xs (iJ i) 0==iE ys (iJ i) 0&&(iE us (iJ i) 0==iE vs (iJ i) 0&&true))) (R_ (false)) (Q0 (iA iB (i+1)))))) (R_ (true)))
def Bi (xs us ys vs:LI) (i:Int) (r_:Bool):Prop:=0≤i∧i≤xs.length∧xs.length=ys.length∧(∀j:Nat,j<i.toNat→xs.getD j 0=ys.getD j 0∧us.getD j 0=vs.getD j 0)∧r_=decide (xs=ys∧us=vs)
abbrev D9 (p0:Addr) (xs us ys vs:LI):Hd Sg:=⟨none,[0,1,0,1,1],[.blk 0, .code [1,1,1]],[5,0,1],[.i .i64, .roc [.ints .i64 (xs), .ints .u32 (us)], .roc [.ints .i64 (ys), .ints .u32 (vs)]]⟩
theorem IV (xs us ys vs:LI) (hp0:xs.length=us.length) (hp1:ys.length=vs.length) (hl0:xs.length≤9223372036854775807) (hl1:ys.length≤9223372036854775807):I4 xs us ys vs (λi'=>Bi xs us ys vs i' (BN xs us ys vs)) (λr__=>r__=(BN xs us ys vs)):=by
 unfold I4
 try unfold Bi
 refine ⟨λh=>?_, λh=>?_⟩
 ·simp only [bne_iff_ne,ne_eq] at h
  show false=BN xs us ys vs
  symm
  simp only [BN,decide_eq_false_iff_not]
  rintro ⟨rfl,rfl⟩
  exact h rfl
 ·simp only [bne_eq_false_iff_eq] at h
  exact ⟨by omega,by omega,by omega, λj hj=>absurd hj (Nat.not_lt_zero j),rfl⟩
theorem IW (xs us ys vs:LI) (hp0:xs.length=us.length) (hp1:ys.length=vs.length) (hl0:xs.length≤9223372036854775807) (hl1:ys.length≤9223372036854775807) (i:Int) {r_:Bool} (hI:Bi xs us ys vs i r_):Gn xs us ys vs i (λi'=>Bi xs us ys vs i' r_∧lx ((xs.length-i').toNat,0,0) ((xs.length-i).toNat,0,0)) (λr__=>r__=r_):=by
 unfold Bi at hI
 unfold Gn
 try unfold Bi
 obtain ⟨h0,h1,h2,h3,h4⟩:=hI
 refine ⟨λh=>?_, λh=>?_⟩
 ·simp only [decide_eq_true_eq] at h
  rw [w64 (by omega)]
  refine ⟨⟨h0,h⟩, λ_=>⟨⟨h0,by omega⟩, λ_=>⟨λhn=>?_, λhn=>?_⟩⟩⟩
  ·show false=r_
   rw [h4]
   symm
   simp only [decide_eq_false_iff_not]
   rintro ⟨rfl,rfl⟩
   simp at hn
  ·refine ⟨⟨by omega,by omega,h2, λj hj=>?_,h4⟩,lxo_⟩
   by_cases hji:j=i.toNat
   ·subst hji;simpa using hn
   ·exact h3 j (by omega)
 ·simp only [decide_eq_false_iff_not] at h
  show true=r_
  rw [h4]
  symm
  simp only [decide_eq_true_eq]
  exact ⟨ext_getD h2 λj hj=>(h3 j (by omega)).1,ext_getD (by omega) λj hj=>(h3 j (by omega)).2⟩
theorem JX:EOk 43 Iz:=
 ent_wp Dg Fb (I:=[411000000005,411000000000,411000000001]) Tryz.func43 mix (B:=bodyOf Tryz.f43) (by kernel_rfl) rfl (by kernel_rfl) 400
  λp0 xs us ys vs hb hp=>have hl0:xs.length≤9223372036854775807:=hb.1;have hl1:ys.length≤9223372036854775807:=hb.2.1;have hp0:xs.length=us.length:=hp _ (.head _);have hp1:ys.length=vs.length:=hp _ (.tail _ (.head _));⟨[D9 p0 xs us ys vs], λj=>iE [appC (Hd.kd (D9 p0 xs us ys vs)) (λi'=>Bi xs us ys vs i' (BN xs us ys vs))] j (λ_=>False), λj=>iE [appC (Hd.kd (D9 p0 xs us ys vs)) (λi'=>((xs.length-i').toNat,0,0))] j (λ_=>(0,0,0)),by kernel_rfl,⟨_, λ_ _ _=>by kernel_rfl,IV xs us ys vs hp0 hp1 hl0 hl1⟩,⟨λi hI=>⟨_, λ_ _ _=>by kernel_rfl,IW xs us ys vs hp0 hp1 hl0 hl1 i hI⟩,trivial⟩⟩
def I5:Tb:=(43,Iz)::Jk
theorem ED:TOk I5:=tc_ JX Fb
def same (s:VS) (rs ws us:LI) (m:Int):Bool:=decide (rs=s.reads)&&(decide (ws=s.wrote∧us=s.puts)&&decide (m=s.miss))
abbrev L9:Ct Sg:=⟨some Ap,true,[.ro [some .i64], .ro [some .i64,some .u32], .i .i64], .b⟩
def KU:Entry Sg:=entC L9 (λ(s:VS) (rs:LI) (ws:LI) (us:LI) (m:Int)=>decide (rs=s.reads)&&(decide (ws=s.wrote∧us=s.puts)&&decide (m=s.miss))) (λs rs ws us m=>[ws.length=us.length])
def Gp (s:VS) (rs ws us:LI) (m n:Int) (nk:Nat) (knows:List Bool) (nval:Nat) (val:LI) (np:Nat) (isput:List Bool) (nt:Nat) (to:LI) (nr:Nat) (reads:LI) (nq:Nat) (wrote:LI) (miss:Int) (all:Bool) (Q0:Int→Nat→List Bool→Nat→LI→Nat→List Bool→Nat→LI→Nat→LI→Nat→LI→Int→Bool→Bool→Prop) (Q1:VS→Bool→Prop) (Q2:VS→Bool→Prop) (Q3:Int→Nat→List Bool→Nat→LI→Nat→List Bool→Nat→LI→Nat→LI→Nat→LI→Int→Bool→Bool→Prop) (R_:Bool→Prop) (O_:Int→Nat→List Bool→Nat→LI→Nat→List Bool→Nat→LI→Nat→LI→Nat→LI→Int→Bool→Bool→Prop):Prop:=(∀r0:Bool,r0=(BV rs reads)→(Q0 (n) (nk) (knows) (nval) (val) (np) (isput) (nt) (to) (nr) (reads) (nq) (wrote) (miss) (all) (r0)))
def Hr (s:VS) (rs ws us:LI) (m n:Int) (nk:Nat) (knows:List Bool) (nval:Nat) (val:LI) (np:Nat) (isput:List Bool) (nt:Nat) (to:LI) (nr:Nat) (reads:LI) (nq:Nat) (wrote:LI) (miss:Int) (all q:Bool) (Q1:VS→Bool→Prop):Prop:=(Q1 (s) (q))
def AO (s:VS) (rs ws us:LI) (m n:Int) (nk:Nat) (knows:List Bool) (nval:Nat) (val:LI) (np:Nat) (isput:List Bool) (nt:Nat) (to:LI) (nr:Nat) (reads:LI) (nq:Nat) (wrote:LI) (miss:Int) (all q:Bool):Prop:=Aj ⟨n,nk,knows,nval,val,np,isput,nt,to,nr,reads,nq,wrote,miss,all⟩ s∧q=decide (rs=s.reads)
def JI (s:VS) (rs ws us:LI) (m:Int) (u:VS) (q:Bool) (Q0:Int→Nat→List Bool→Nat→LI→Nat→List Bool→Nat→LI→Nat→LI→Nat→LI→Int→Bool→Bool→Prop) (Q1:VS→Bool→Prop) (Q2:VS→Bool→Prop) (Q3:Int→Nat→List Bool→Nat→LI→Nat→List Bool→Nat→LI→Nat→LI→Nat→LI→Int→Bool→Bool→Prop) (R_:Bool→Prop) (O_:Int→Nat→List Bool→Nat→LI→Nat→List Bool→Nat→LI→Nat→LI→Nat→LI→Int→Bool→Bool→Prop):Prop:=(bw_ (q) (∀r1:LI×LI,r1=((VS.wrote u,VS.puts u))→(aw_ (true=true→iC ws=iC us) (aw_ (true=true→iC r1.1=iC r1.2) (Q2 (u) (BN ws us r1.1 r1.2))))) (Q2 (u) (false)))
def AC (s:VS) (rs ws us:LI) (m:Int) (u:VS) (q:Bool):Prop:=u=s∧q=decide (rs=s.reads)
def Ht (s:VS) (rs ws us:LI) (m:Int) (u:VS) (q:Bool) (n_:Int) (nk_:Nat) (knows_:List Bool) (nval_:Nat) (val_:LI) (np_:Nat) (isput_:List Bool) (nt_:Nat) (to_:LI) (nr_:Nat) (reads_:LI) (nq_:Nat) (wrote_:LI) (miss_:Int) (all_:Bool) (Q3:Int→Nat→List Bool→Nat→LI→Nat→List Bool→Nat→LI→Nat→LI→Nat→LI→Int→Bool→Bool→Prop):Prop:=(Q3 (n_) (nk_) (knows_) (nval_) (val_) (np_) (isput_) (nt_) (to_) (nr_) (reads_) (nq_) (wrote_) (miss_) (all_) (q))
def AQ (s:VS) (rs ws us:LI) (m:Int) (u:VS) (q:Bool):Prop:=u=s∧q=(decide (rs=s.reads)&&decide (ws=s.wrote∧us=s.puts))
def JJ (s:VS) (rs ws us:LI) (m n:Int) (nk:Nat) (knows:List Bool) (nval:Nat) (val:LI) (np:Nat) (isput:List Bool) (nt:Nat) (to:LI) (nr:Nat) (reads:LI) (nq:Nat) (wrote:LI) (miss:Int) (all q:Bool) (Q0:Int→Nat→List Bool→Nat→LI→Nat→List Bool→Nat→LI→Nat→LI→Nat→LI→Int→Bool→Bool→Prop) (Q1:VS→Bool→Prop) (Q2:VS→Bool→Prop) (Q3:Int→Nat→List Bool→Nat→LI→Nat→List Bool→Nat→LI→Nat→LI→Nat→LI→Int→Bool→Bool→Prop) (R_:Bool→Prop) (O_:Int→Nat→List Bool→Nat→LI→Nat→List Bool→Nat→LI→Nat→LI→Nat→LI→Int→Bool→Bool→Prop):Prop:=(O_ (n) (nk) (knows) (nval) (val) (np) (isput) (nt) (to) (nr) (reads) (nq) (wrote) (miss) (all) (q&&m==miss))
def AL (s:VS) (rs ws us:LI) (m n:Int) (nk:Nat) (knows:List Bool) (nval:Nat) (val:LI) (np:Nat) (isput:List Bool) (nt:Nat) (to:LI) (nr:Nat) (reads:LI) (nq:Nat) (wrote:LI) (miss:Int) (all q:Bool):Prop:=Aj ⟨n,nk,knows,nval,val,np,isput,nt,to,nr,reads,nq,wrote,miss,all⟩ s∧q=(decide (rs=s.reads)&&decide (ws=s.wrote∧us=s.puts))
theorem JY (s:VS) (rs ws us:LI) (m n:Int) (nk:Nat) (knows:List Bool) (nval:Nat) (val:LI) (np:Nat) (isput:List Bool) (nt:Nat) (to:LI) (nr:Nat) (reads:LI) (nq:Nat) (wrote:LI) (miss:Int) (all:Bool) (hp0:ws.length=us.length) (hl0:rs.length≤9223372036854775807) (hl1:ws.length≤9223372036854775807) (hx:Aj ⟨n,nk,knows,nval,val,np,isput,nt,to,nr,reads,nq,wrote,miss,all⟩ (s)):Gp s rs ws us m n nk knows nval val np isput nt to nr reads nq wrote miss all (λn' nk' knows' nval' val' np' isput' nt' to' nr' reads' nq' wrote' miss' all' q'=>AO s rs ws us m n' nk' knows' nval' val' np' isput' nt' to' nr' reads' nq' wrote' miss' all' q') (λu' q'=>AC s rs ws us m u' q') (λu' q'=>AQ s rs ws us m u' q') (λn' nk' knows' nval' val' np' isput' nt' to' nr' reads' nq' wrote' miss' all' q'=>AL s rs ws us m n' nk' knows' nval' val' np' isput' nt' to' nr' reads' nq' wrote' miss' all' q') (λr__=>r__=(same s rs ws us m)) (λn_ nk_ knows_ nval_ val_ np_ isput_ nt_ to_ nr_ reads_ nq_ wrote_ miss_ all_ r_=>Aj ⟨n_,nk_,knows_,nval_,val_,np_,isput_,nt_,to_,nr_,reads_,nq_,wrote_,miss_,all_⟩ (s)∧r_=(same s rs ws us m)):=by
 have key:∀x:RX,Aj x s→Gp s rs ws us m x.n x.nk x.knows x.nv x.val x.np x.isput x.nt x.to x.nr x.reads x.nq x.wrote x.miss x.all (λn' nk' knows' nval' val' np' isput' nt' to' nr' reads' nq' wrote' miss' all' q'=>AO s rs ws us m n' nk' knows' nval' val' np' isput' nt' to' nr' reads' nq' wrote' miss' all' q') (λu' q'=>AC s rs ws us m u' q') (λu' q'=>AQ s rs ws us m u' q') (λn' nk' knows' nval' val' np' isput' nt' to' nr' reads' nq' wrote' miss' all' q'=>AL s rs ws us m n' nk' knows' nval' val' np' isput' nt' to' nr' reads' nq' wrote' miss' all' q') (λr__=>r__=(same s rs ws us m)) (λn_ nk_ knows_ nval_ val_ np_ isput_ nt_ to_ nr_ reads_ nq_ wrote_ miss_ all_ r_=>Aj ⟨n_,nk_,knows_,nval_,val_,np_,isput_,nt_,to_,nr_,reads_,nq_,wrote_,miss_,all_⟩ (s)∧r_=(same s rs ws us m)):=by
  intro x ho
  unfold Gp
  try unfold AO
  try unfold AC
  try unfold AQ
  try unfold AL
  rintro r0 rfl
  exact ⟨ho,by rw [BV,ho.reads]⟩
 exact key ⟨n,nk,knows,nval,val,np,isput,nt,to,nr,reads,nq,wrote,miss,all⟩ hx
theorem Gq (s:VS) (rs ws us:LI) (m:Int) (hp0:ws.length=us.length) (hl0:rs.length≤9223372036854775807) (hl1:ws.length≤9223372036854775807) (n:Int) (nk:Nat) (knows:List Bool) (nval:Nat) (val:LI) (np:Nat) (isput:List Bool) (nt:Nat) (to:LI) (nr:Nat) (reads:LI) (nq:Nat) (wrote:LI) (miss:Int) (all q:Bool) (hI:AO s rs ws us m n nk knows nval val np isput nt to nr reads nq wrote miss all q):(Aj ⟨n,nk,knows,nval,val,np,isput,nt,to,nr,reads,nq,wrote,miss,all⟩ s)∧Hr s rs ws us m n nk knows nval val np isput nt to nr reads nq wrote miss all q (λu' q'=>AC s rs ws us m u' q'∧lx (3,0,0) (4,0,0)):=by
 unfold AO at hI
 unfold Hr
 try unfold AO
 try unfold AC
 try unfold AQ
 try unfold AL
 exact ⟨hI.1,⟨⟨rfl,hI.2⟩,lxo_⟩⟩
theorem JZ (s:VS) (rs ws us:LI) (m:Int) (hp0:ws.length=us.length) (hl0:rs.length≤9223372036854775807) (hl1:ws.length≤9223372036854775807) (u:VS) (q:Bool) (hI:AC s rs ws us m u q):JI s rs ws us m u q (λn' nk' knows' nval' val' np' isput' nt' to' nr' reads' nq' wrote' miss' all' q'=>AO s rs ws us m n' nk' knows' nval' val' np' isput' nt' to' nr' reads' nq' wrote' miss' all' q'∧lx (4,0,0) (3,0,0)) (λu' q'=>AC s rs ws us m u' q'∧lx (3,0,0) (3,0,0)) (λu' q'=>AQ s rs ws us m u' q'∧lx (2,0,0) (3,0,0)) (λn' nk' knows' nval' val' np' isput' nt' to' nr' reads' nq' wrote' miss' all' q'=>AL s rs ws us m n' nk' knows' nval' val' np' isput' nt' to' nr' reads' nq' wrote' miss' all' q'∧lx (1,0,0) (3,0,0)) (λr__=>r__=(same s rs ws us m)) (λn_ nk_ knows_ nval_ val_ np_ isput_ nt_ to_ nr_ reads_ nq_ wrote_ miss_ all_ r_=>Aj ⟨n_,nk_,knows_,nval_,val_,np_,isput_,nt_,to_,nr_,reads_,nq_,wrote_,miss_,all_⟩ (s)∧r_=(same s rs ws us m)):=by
 unfold AC at hI
 unfold JI
 try unfold AO
 try unfold AC
 try unfold AQ
 try unfold AL
 obtain ⟨rfl,hq⟩:=hI
 refine ⟨λh=>?_, λh=>⟨⟨rfl,by rw [←hq,h];rfl⟩,lxo_⟩⟩
 rintro r1 rfl
 refine ⟨λ_=>hp0, λ_=>⟨λ_=>by simp [A8,VS.puts], λ_=>⟨⟨rfl,?_⟩,lxo_⟩⟩⟩
 rw [←hq,h];rfl
theorem Ko (s:VS) (rs ws us:LI) (m:Int) (hp0:ws.length=us.length) (hl0:rs.length≤9223372036854775807) (hl1:ws.length≤9223372036854775807) (u:VS) (q:Bool) (n_:Int) (nk_:Nat) (knows_:List Bool) (nval_:Nat) (val_:LI) (np_:Nat) (isput_:List Bool) (nt_:Nat) (to_:LI) (nr_:Nat) (reads_:LI) (nq_:Nat) (wrote_:LI) (miss_:Int) (all_:Bool) (hI:AQ s rs ws us m u q) (hx:Aj ⟨n_,nk_,knows_,nval_,val_,np_,isput_,nt_,to_,nr_,reads_,nq_,wrote_,miss_,all_⟩ (u)):Ht s rs ws us m u q n_ nk_ knows_ nval_ val_ np_ isput_ nt_ to_ nr_ reads_ nq_ wrote_ miss_ all_ (λn' nk' knows' nval' val' np' isput' nt' to' nr' reads' nq' wrote' miss' all' q'=>AL s rs ws us m n' nk' knows' nval' val' np' isput' nt' to' nr' reads' nq' wrote' miss' all' q'∧lx (1,0,0) (2,0,0)):=by
 unfold AQ at hI
 unfold Ht
 try unfold AO
 try unfold AC
 try unfold AQ
 try unfold AL
 obtain ⟨rfl,hq⟩:=hI
 exact ⟨⟨hx,hq⟩,lxo_⟩
theorem Kq (s:VS) (rs ws us:LI) (m:Int) (hp0:ws.length=us.length) (hl0:rs.length≤9223372036854775807) (hl1:ws.length≤9223372036854775807) (n:Int) (nk:Nat) (knows:List Bool) (nval:Nat) (val:LI) (np:Nat) (isput:List Bool) (nt:Nat) (to:LI) (nr:Nat) (reads:LI) (nq:Nat) (wrote:LI) (miss:Int) (all q:Bool) (hI:AL s rs ws us m n nk knows nval val np isput nt to nr reads nq wrote miss all q):JJ s rs ws us m n nk knows nval val np isput nt to nr reads nq wrote miss all q (λn' nk' knows' nval' val' np' isput' nt' to' nr' reads' nq' wrote' miss' all' q'=>AO s rs ws us m n' nk' knows' nval' val' np' isput' nt' to' nr' reads' nq' wrote' miss' all' q'∧lx (4,0,0) (1,0,0)) (λu' q'=>AC s rs ws us m u' q'∧lx (3,0,0) (1,0,0)) (λu' q'=>AQ s rs ws us m u' q'∧lx (2,0,0) (1,0,0)) (λn' nk' knows' nval' val' np' isput' nt' to' nr' reads' nq' wrote' miss' all' q'=>AL s rs ws us m n' nk' knows' nval' val' np' isput' nt' to' nr' reads' nq' wrote' miss' all' q'∧lx (1,0,0) (1,0,0)) (λr__=>r__=(same s rs ws us m)) (λn_ nk_ knows_ nval_ val_ np_ isput_ nt_ to_ nr_ reads_ nq_ wrote_ miss_ all_ r_=>Aj ⟨n_,nk_,knows_,nval_,val_,np_,isput_,nt_,to_,nr_,reads_,nq_,wrote_,miss_,all_⟩ (s)∧r_=(same s rs ws us m)):=by
 unfold AL at hI
 unfold JJ
 try unfold AO
 try unfold AC
 try unfold AQ
 try unfold AL
 refine ⟨hI.1,?_⟩
 have hm:s.miss=miss:=hI.1.miss
 rw [hI.2,same,hm,Bool.and_assoc]
 have e:(m==miss)=decide (m=miss):=by
  apply Bool.eq_iff_iff.2;simp
 rw [e]
theorem Lu:EOk 12 KU:=
 ent_ob Dg Dk true ED (I:=[1006006,1006013,2999998]) Tryz.func12 mix (B:=bodyOf Tryz.f12) (by kernel_rfl) rfl (by kernel_rfl) 400
  λo s rs ws us m hb hp=>have hl0:rs.length≤9223372036854775807:=hb.2.1;have hl1:ws.length≤9223372036854775807:=hb.2.2.1;have hp0:ws.length=us.length:=hp _ (.head _);⟨s,s,(same s rs ws us m),[⟨some 6,[0,1],[.code [1,1]],[0,14,2,3],[.boxc o AB.t AB.l, .b, .roc [.ints .i64 (ws), .ints .u32 (us)], .ic .i64 (m)]⟩,⟨some 6,[0,1],[.code [1,1]],[0,14,2,3],[.objc Ap ⟨o,0,none⟩, .b, .roc [.ints .i64 (ws), .ints .u32 (us)], .ic .i64 (m)]⟩,⟨some 13,[0,1],[.code [1,1]],[0,21,3],[.objc Ap ⟨o,0,none⟩, .b, .ic .i64 (m)]⟩,⟨some 13,[0,1],[.code [1,1]],[0,21,3],[.boxc o AB.t AB.l, .b, .ic .i64 (m)]⟩],[.cls 1, .run, .opn 0 (λ_=>o) 3, .run], λj=>iE [appC (Hd.kd (⟨some 6,[0,1],[.code [1,1]],[0,14,2,3],[.boxc o AB.t AB.l, .b, .roc [.ints .i64 (ws), .ints .u32 (us)], .ic .i64 (m)]⟩:Hd Sg)) (λn' nk' knows' nval' val' np' isput' nt' to' nr' reads' nq' wrote' miss' all' q'=>AO s rs ws us m n' nk' knows' nval' val' np' isput' nt' to' nr' reads' nq' wrote' miss' all' q'),appC (Hd.kd (⟨some 6,[0,1],[.code [1,1]],[0,14,2,3],[.objc Ap ⟨o,0,none⟩, .b, .roc [.ints .i64 (ws), .ints .u32 (us)], .ic .i64 (m)]⟩:Hd Sg)) (λu' q'=>AC s rs ws us m u' q'),appC (Hd.kd (⟨some 13,[0,1],[.code [1,1]],[0,21,3],[.objc Ap ⟨o,0,none⟩, .b, .ic .i64 (m)]⟩:Hd Sg)) (λu' q'=>AQ s rs ws us m u' q'),appC (Hd.kd (⟨some 13,[0,1],[.code [1,1]],[0,21,3],[.boxc o AB.t AB.l, .b, .ic .i64 (m)]⟩:Hd Sg)) (λn' nk' knows' nval' val' np' isput' nt' to' nr' reads' nq' wrote' miss' all' q'=>AL s rs ws us m n' nk' knows' nval' val' np' isput' nt' to' nr' reads' nq' wrote' miss' all' q')] j (λ_=>False), λj=>iE [appC (Hd.kd (⟨some 6,[0,1],[.code [1,1]],[0,14,2,3],[.boxc o AB.t AB.l, .b, .roc [.ints .i64 (ws), .ints .u32 (us)], .ic .i64 (m)]⟩:Hd Sg)) (λn' nk' knows' nval' val' np' isput' nt' to' nr' reads' nq' wrote' miss' all' q'=>(4,0,0)),appC (Hd.kd (⟨some 6,[0,1],[.code [1,1]],[0,14,2,3],[.objc Ap ⟨o,0,none⟩, .b, .roc [.ints .i64 (ws), .ints .u32 (us)], .ic .i64 (m)]⟩:Hd Sg)) (λu' q'=>(3,0,0)),appC (Hd.kd (⟨some 13,[0,1],[.code [1,1]],[0,21,3],[.objc Ap ⟨o,0,none⟩, .b, .ic .i64 (m)]⟩:Hd Sg)) (λu' q'=>(2,0,0)),appC (Hd.kd (⟨some 13,[0,1],[.code [1,1]],[0,21,3],[.boxc o AB.t AB.l, .b, .ic .i64 (m)]⟩:Hd Sg)) (λn' nk' knows' nval' val' np' isput' nt' to' nr' reads' nq' wrote' miss' all' q'=>(1,0,0))] j (λ_=>(0,0,0)),by kernel_rfl, λ_ _=>by kernel_rfl,by kernel_rfl, λn nk knows nval val np isput nt to nr reads nq wrote miss all hx=>⟨Gp s rs ws us m n nk knows nval val np isput nt to nr reads nq wrote miss all (λn' nk' knows' nval' val' np' isput' nt' to' nr' reads' nq' wrote' miss' all' q'=>AO s rs ws us m n' nk' knows' nval' val' np' isput' nt' to' nr' reads' nq' wrote' miss' all' q') (λu' q'=>AC s rs ws us m u' q') (λu' q'=>AQ s rs ws us m u' q') (λn' nk' knows' nval' val' np' isput' nt' to' nr' reads' nq' wrote' miss' all' q'=>AL s rs ws us m n' nk' knows' nval' val' np' isput' nt' to' nr' reads' nq' wrote' miss' all' q') (λr__=>r__=(same s rs ws us m)) (λn_ nk_ knows_ nval_ val_ np_ isput_ nt_ to_ nr_ reads_ nq_ wrote_ miss_ all_ r_=>Aj ⟨n_,nk_,knows_,nval_,val_,np_,isput_,nt_,to_,nr_,reads_,nq_,wrote_,miss_,all_⟩ (s)∧r_=(same s rs ws us m)), λ_ _ _ _=>by kernel_rfl,JY s rs ws us m n nk knows nval val np isput nt to nr reads nq wrote miss all hp0 hl0 hl1 hx⟩,⟨λn nk knows nval val np isput nt to nr reads nq wrote miss all q hI=>⟨s,Hr s rs ws us m n nk knows nval val np isput nt to nr reads nq wrote miss all q (λu' q'=>AC s rs ws us m u' q'∧lx (3,0,0) (4,0,0)),(Gq s rs ws us m hp0 hl0 hl1 n nk knows nval val np isput nt to nr reads nq wrote miss all q hI).1, λ_=>by kernel_rfl,(Gq s rs ws us m hp0 hl0 hl1 n nk knows nval val np isput nt to nr reads nq wrote miss all q hI).2⟩,⟨λu q hI=>⟨_, λ_ _ _=>by kernel_rfl,JZ s rs ws us m hp0 hl0 hl1 u q hI⟩,⟨λu q hI=>⟨u, λ_=>by kernel_rfl, λn_ nk_ knows_ nval_ val_ np_ isput_ nt_ to_ nr_ reads_ nq_ wrote_ miss_ all_ hx=>⟨Ht s rs ws us m u q n_ nk_ knows_ nval_ val_ np_ isput_ nt_ to_ nr_ reads_ nq_ wrote_ miss_ all_ (λn' nk' knows' nval' val' np' isput' nt' to' nr' reads' nq' wrote' miss' all' q'=>AL s rs ws us m n' nk' knows' nval' val' np' isput' nt' to' nr' reads' nq' wrote' miss' all' q'∧lx (1,0,0) (2,0,0)), λ_ _=>by kernel_rfl,Ko s rs ws us m hp0 hl0 hl1 u q n_ nk_ knows_ nval_ val_ np_ isput_ nt_ to_ nr_ reads_ nq_ wrote_ miss_ all_ hI hx⟩⟩,⟨λn nk knows nval val np isput nt to nr reads nq wrote miss all q hI=>⟨_, λ_ _ _=>by kernel_rfl,Kq s rs ws us m hp0 hl0 hl1 n nk knows nval val np isput nt to nr reads nq wrote miss all q hI⟩,trivial⟩⟩⟩⟩⟩
def KW:Tb:=(12,KU)::I5
theorem I7:TOk KW:=tc_ Lu ED
end
end Go.Proofs.YtjfabjhlkpgckaaGreat
namespace Go.Sl
section
inductive Pg (α:Type) where
 |ret (a:α)
 |get (i:Int) (k:Int→Pg α)
 |put (i x:Int) (k:Pg α)
def Pg.bind {α β:Type}:Pg α→(α→Pg β)→Pg β
 | .ret a,f=>f a
 | .get i k,f=> .get i λv=>(k v).bind f
 | .put i x k,f=> .put i x (k.bind f)
def Pg.run {α:Type}:Pg α→VS→VS×α
 | .ret a,s=>(s,a)
 | .get i k,s=>(k (s.get i)).run (s.read i)
 | .put i x k,s=>k.run (s.set i x)
theorem Pg.run_ret {α:Type} (a:α) (s:VS):(Pg.ret a).run s=(s,a):=rfl
theorem Pg.run_get {α:Type} (i:Int) (k:Int→Pg α) (s:VS):(Pg.get i k).run s=(k (s.get i)).run (s.read i):=rfl
theorem Pg.run_put {α:Type} (i x:Int) (k:Pg α) (s:VS):(Pg.put i x k).run s=k.run (s.set i x):=rfl
theorem Pg.run_bind {α β:Type} (p:Pg α) (f:α→Pg β):∀s,(p.bind f).run s=(f (p.run s).2).run (p.run s).1:=by
 induction p with
 |ret a=>intro s;rfl
 |get i k ih=>intro s;exact ih _ _
 |put i x k ih=>intro s;exact ih _
theorem Pg.run_cond {α:Type} (b:Bool) (p q:Pg α) (s:VS):(bif b then p else q).run s=bif b then p.run s else q.run s:=by cases b<;>rfl
end
section
structure Cf where
 t:Int
 p:Int
 s:Int
def Cf.ok (c:Cf):Bool:=(decide (1≤c.t)&&decide (c.t≤16))&&(decide (4≤c.p)&&decide (c.p≤1024))&&(decide (10≤c.s)&&decide (c.s≤20))
theorem Cf.ok_iff {c:Cf}:c.ok=true↔(1≤c.t∧c.t≤16)∧(4≤c.p∧c.p≤1024)∧10≤c.s∧c.s≤20:=by
 simp only [Cf.ok,iK,decide_eq_true_eq,and_assoc]
def Cf.page (c:Cf) (p:Int):Bool:=decide (0≤p)&&decide (p<c.p)
def Cf.pc (c:Cf) (p k:Int):Int:=bif c.ok&&c.page p then 30+4*c.t+6*p+k else-1
def Cf.info (c:Cf) (p:Int):Int:=c.pc p 0
def Cf.foot (c:Cf) (p:Int):Int:=c.pc p 1
def Cf.next (c:Cf) (p:Int):Int:=c.pc p 2
def Cf.prev (c:Cf) (p:Int):Int:=c.pc p 3
def Cf.slots (c:Cf) (p:Int):Int:=c.pc p 4
def Cf.taken (c:Cf) (p:Int):Int:=c.pc p 5
def Cf.cells (c:Cf):Int:=bif c.ok then 30+4*c.t+6*c.p else 0
def cBin (k:Int):Int:=bif decide (0≤k)&&decide (k<11) then 2+k else-1
def cRack (k:Int):Int:=bif decide (0≤k)&&decide (k<9) then 13+k else-1
def cRoot (k:Int):Int:=bif decide (0≤k)&&decide (k<8) then 22+k else-1
def Cf.done (c:Cf) (t f:Int):Int:=bif c.ok&&(decide (0≤t)&&decide (t<c.t))&&(decide (0≤f)&&decide (f<4)) then 30+4*t+f else-1
def iRight (k l c:Int):Bool:=
 bif k==0 then l==0&&c==0 else bif k==1||k==2 then decide (1≤l)&&decide (l≤1024)&&(c==0) else bif k==3 then l==1&&(decide (0≤c)&&decide (c≤8)) else false
def iVal (k l c:Int):Int:=bif iRight k l c then k+16*l+65536*c else 0
structure If where
 k:Int
 l:Int
 c:Int
def iGet (v:Int):If:=bif iRight (v%16) (v/16%4096) (v/65536) then ⟨v%16,v/16%4096,v/65536⟩ else ⟨0,0,0⟩
def logI (n:Int):Int:=if n<1 then-1 else (Nat.log2 n.toNat:Int)
def binOf (n:Int):Int:=bif decide (n>1024) then-1 else logI n
section
variable (c:Cf)
def pPush (head p:Int):Pg Unit:=
 bif c.page p then
  .get head λh=> .put (c.next p) h <| .put (c.prev p) 0 <|
   (bif h==0 then Pg.ret () else .put (c.prev (h-1)) (nv (p+1)) (.ret ())).bind λ_=> .put head (nv (p+1)) (.ret ())
 else .ret ()
def pPull (head p:Int):Pg Unit:=
 bif c.page p then
  .get (c.next p) λn=> .get (c.prev p) λb=>
   (bif b==0 then Pg.put head n (.ret ()) else .put (c.next (b-1)) n (.ret ())).bind λ_=>
   (bif n==0 then Pg.ret () else .put (c.prev (n-1)) b (.ret ())).bind λ_=>
   .put (c.next p) 0 <| .put (c.prev p) 0 (.ret ())
 else .ret ()
def pAdd (p n:Int):Pg Unit:=
 bif c.page p&&(decide (1≤n)&&decide (n≤c.p-p)) then
  .put (c.info p) (iVal 1 n 0) <| .put (c.foot (p+n-1)) (nv (p+1)) <| pPush c (cBin (binOf n)) p
 else .ret ()
def pFree (p:Int):Pg Int:= .get (c.info p) λv=> .ret (bif (iGet v).k==1 then (iGet v).l else 0)
def pInfo (p:Int):Pg (Int×Int×Int):= .get (c.info p) λv=> .ret ((iGet v).k,(iGet v).l,(iGet v).c)
def pDrop (p:Int):Pg Int:=
 bif c.page p then
  (pFree c p).bind λn=>(bif decide (0<n) then pPull c (cBin (binOf n)) p else .ret ()).bind λ_=> .ret n
 else .ret 0
def pFirst (n:Int):Nat→Int→Pg (Int×Bool)
 |0,_=> .ret (0,false)
 |f+1,p=>bif c.page p then
   (pFree c p).bind λl=>bif decide (n≤l) then .ret (p,true) else .get (c.next p) λq=>pFirst n f (q-1)
  else .ret (0,false)
def pBins:Nat→Int→Pg (Int×Bool)
 |0,_=> .ret (0,false)
 |f+1,k=>bif decide (k<11) then .get (cBin k) λq=>bif c.page (q-1) then .ret (q-1,true) else pBins f (k+1) else .ret (0,false)
def pFind (n:Int):Pg (Int×Bool):=
 bif decide (1≤n)&&decide (n≤c.p) then
  (Pg.get (cBin (binOf n)) λq=>pFirst c n c.p.toNat (q-1)).bind λr=>
    bif r.2 then .ret r else pBins c 12 (binOf n+1)
 else .ret (0,false)
def pCount (n:Int):Pg Unit:= .get 0 λv=> .put 0 (nv (v+n)) (.ret ())
end
end
end Go.Sl
namespace Go.Proofs.YtjfabjhlkpgckaaGreat
section
open Go.Sl
def SlLow_bytes0:ByteArray:=⟨⟨[0,1,2,2,3,3,3,3,4,4,4,4,4,4,4,4,5,5,5,5,5,5,5,5,5,5,5,5,5,5,5,5,6,6,6,6,6,6,6,6,6,6,6,6,6,6,6,6,6,6,6,6,6,6,6,6,6,6,6,6,6,6,6,6,7,7,7,7,7,7,7,7,7,7,7,7,7,7,7,7,7,7,7,7,7,7,7,7,7,7,7,7,7,7,7,7,7,7,7,7,7,7,7,7,7,7,7,7,7,7,7,7,7,7,7,7,7,7,7,7,7,7,7,7,7,7,7,7,8,8,8,8,8,8,8,8,8,8,8,8,8,8,8,8,8,8,8,8,8,8,8,8,8,8,8,8,8,8,8,8,8,8,8,8,8,8,8,8,8,8,8,8,8,8,8,8,8,8,8,8,8,8,8,8,8,8,8,8,8,8,8,8,8,8,8,8,8,8,8,8,8,8,8,8,8,8,8,8,8,8,8,8,8,8,8,8,8,8,8,8,8,8,8,8,8,8,8,8,8,8,8,8,8,8,8,8,8,8,8,8,8,8,8,8,8,8,8,8,8,8,8,8,8,8,8,8]⟩⟩
def half_field (x y:Int):Bool:=decide (x≥0)&&decide (y≥1)&&decide (y≤64)&&decide (x≤iA iB (64-y))
abbrev c_half_field:Ct Sg:=⟨none,false,[.i .i64, .i .i64], .b⟩
def e_half_field:Entry Sg:=entC c_half_field half_field (λ_ _=>[])
theorem half_field_ok:EOk 142 e_half_field:=
 ent_ok Dg I7 (I:=[]) Tryz.func142 mix (B:=bodyOf Tryz.f142) (by kernel_rfl) rfl (by kernel_rfl) 400
  λ_ x y hb hp=>⟨(half_field x y), .t, λ_ _ _=>by kernel_rfl,trivial,rfl⟩
def T_half_field:Tb:=(142,e_half_field)::KW
theorem T_half_field_ok:TOk T_half_field:=tc_ half_field_ok I7
def half_mask (x:Int):Int:=Int.fdiv 18446744073709551615 (2^min (iJ (iA iB (64-x))) 64)
abbrev c_half_mask:Ct Sg:=⟨none,false,[.i .i64], .i .u64⟩
def e_half_mask:Entry Sg:=entC c_half_mask half_mask (λx=>[0≤iA iB (64-x)])
theorem half_mask_ok:EOk 143 e_half_mask:=
 ent_ok Dg T_half_field_ok (I:=[]) Tryz.func143 mix (B:=bodyOf Tryz.f143) (by kernel_rfl) rfl (by kernel_rfl) 400
  λ_ x hb hp=>have hp0:0≤iA iB (64-x):=hp _ (.head _);⟨(half_mask x),(.need (0≤iA iB (64-x)) .t), λ_ _ _=>by kernel_rfl,⟨(by exact hp0), λz0=>trivial⟩,rfl⟩
def T_half_mask:Tb:=(143,e_half_mask)::T_half_field
theorem T_half_mask_ok:TOk T_half_mask:=tc_ half_mask_ok T_half_field_ok
theorem half_field_iff {x y:Int}:half_field x y=true↔0≤x∧1≤y∧y≤64∧x≤64-y:=by
 simp only [half_field,iK,decide_eq_true_eq,IntKind.wrap_i64]
 omega
theorem half_need1 {x y:Int} (h:(!half_field x y)=false):0≤iA iB (64-y):=by
 have:=half_field_iff.1 (by simpa using h)
 rw [IntKind.wrap_i64];omega
theorem half_need2 {x y:Int} {b:Bool} (h:(!half_field x y||b)=false):0≤iA iB (64-y):=half_need1 (Bool.or_eq_false_iff.1 h).1
theorem half_need3 {x y:Int} {b:Bool} (h:(!half_field x y||b)=false):0≤x:=(half_field_iff.1 (by simpa using (Bool.or_eq_false_iff.1 h).1)).1
theorem half_need4 {x y:Int} (h:(!half_field x y)=false):0≤x:=(half_field_iff.1 (by simpa using h)).1
def half_Put (w x y v:Int):Int×Bool:=(bif !half_field x y||decide (v>half_mask y) then (0,false) else (iA IntKind.u64 (↑(jN (iP 64 (iA IntKind.u64 (↑(jN (iP 64 w &&& ~~~iP 64 (iA IntKind.u64 (half_mask y*2^min (iJ x) 64)))):Int)) ||| iP 64 (iA IntKind.u64 (v*2^min (iJ x) 64)))):Int),true))
abbrev c_half_Put:Ct Sg:=⟨none,false,[.i .u64, .i .i64, .i .i64, .i .u64], .tup [.i .u64, .b]⟩
def e_half_Put:Entry Sg:=entC c_half_Put half_Put (λ_ _ _ _=>[])
theorem half_Put_ok:EOk 187 e_half_Put:=
 ent_ok Dg T_half_mask_ok (I:=[]) Tryz.func187 mix (B:=bodyOf Tryz.f187) (by kernel_rfl) rfl (by kernel_rfl) 400
  λ_ w x y v hb hp=>⟨(half_Put w x y v),(.need ((!half_field x y)=false→0≤iA iB (64-y)) (.br (!half_field x y||decide (v>half_mask y)) .t (.need (0≤iA iB (64-y)) (.need (0≤x) (.need (0≤x) .t))))), λ_ _ _=>by kernel_rfl,⟨(by first|exact half_need1 (by assumption)|exact half_need2 (by assumption)|exact half_need3 (by assumption)|(intro h_;first|exact half_need1 h_|exact half_need2 h_|exact half_need3 h_)), λz0=>⟨λz1=>trivial, λz1=>⟨(by first|exact half_need1 (by assumption)|exact half_need2 (by assumption)|exact half_need3 (by assumption)|(intro h_;first|exact half_need1 h_|exact half_need2 h_|exact half_need3 h_)), λz2=>⟨(by first|exact half_need1 (by assumption)|exact half_need2 (by assumption)|exact half_need3 (by assumption)|(intro h_;first|exact half_need1 h_|exact half_need2 h_|exact half_need3 h_)), λz3=>⟨(by first|exact half_need1 (by assumption)|exact half_need2 (by assumption)|exact half_need3 (by assumption)|(intro h_;first|exact half_need1 h_|exact half_need2 h_|exact half_need3 h_)), λz4=>trivial⟩⟩⟩⟩⟩,rfl⟩
def T_half_Put:Tb:=(187,e_half_Put)::T_half_mask
theorem T_half_Put_ok:TOk T_half_Put:=tc_ half_Put_ok T_half_mask_ok
def half_Get (w x y:Int):Int:=(bif !half_field x y then 0 else iA IntKind.u64 (↑(jN (iP 64 (Int.fdiv w (2^min (iJ x) 64)) &&& iP 64 (half_mask y))):Int))
abbrev c_half_Get:Ct Sg:=⟨none,false,[.i .u64, .i .i64, .i .i64], .i .u64⟩
def e_half_Get:Entry Sg:=entC c_half_Get half_Get (λ_ _ _=>[])
theorem half_Get_ok:EOk 103 e_half_Get:=
 ent_ok Dg T_half_Put_ok (I:=[]) Tryz.func103 mix (B:=bodyOf Tryz.f103) (by kernel_rfl) rfl (by kernel_rfl) 400
  λ_ w x y hb hp=>⟨(half_Get w x y),(.br (!half_field x y) .t (.need (0≤x) (.need (0≤iA iB (64-y)) .t))), λ_ _ _=>by kernel_rfl,⟨λz0=>trivial, λz0=>⟨(by first|exact half_need1 (by assumption)|exact half_need4 (by assumption)), λz1=>⟨(by first|exact half_need1 (by assumption)|exact half_need4 (by assumption)), λz2=>trivial⟩⟩⟩,rfl⟩
def T_half_Get:Tb:=(103,e_half_Get)::T_half_Put
theorem T_half_Get_ok:TOk T_half_Get:=tc_ half_Get_ok T_half_Put_ok
def half_Lo (w:Int):Int:=iA iO w
abbrev c_half_Lo:Ct Sg:=⟨none,false,[.i .u64], .i .u32⟩
def e_half_Lo:Entry Sg:=entC c_half_Lo half_Lo (λ_=>[])
theorem half_Lo_ok:EOk 188 e_half_Lo:=
 ent_ok Dg T_half_Get_ok (I:=[]) Tryz.func188 mix (B:=bodyOf Tryz.f188) (by kernel_rfl) rfl (by kernel_rfl) 400
  λ_ w hb hp=>⟨(half_Lo w), .t, λ_ _ _=>by kernel_rfl,trivial,rfl⟩
def T_half_Lo:Tb:=(188,e_half_Lo)::T_half_Get
theorem T_half_Lo_ok:TOk T_half_Lo:=tc_ half_Lo_ok T_half_Get_ok
def info_right (k l c:Int):Bool:=(bif k==0 then k==0&&(l==0&&(c==0&&true)) else (bif k==3 then (bif decide (c<0)||decide (c≥9) then false else decide (l≥1)&&decide (l≤1)&&true) else (bif k==1 then (bif k==1 then decide (l≥1)&&decide (l≤1024)&&c==0 else false) else (bif k==2 then decide (l≥1)&&decide (l≤1024)&&c==0 else false))))
abbrev c_info_right:Ct Sg:=⟨none,false,[.agg [.i .i64, .i .i64, .i .i64]], .b⟩
def e_info_right:Entry Sg:=entC c_info_right info_right (λ_ _ _=>[])
theorem info_right_ok:EOk 104 e_info_right:=
 ent_ok Dg T_half_Lo_ok (I:=[]) Tryz.func104 mix (B:=bodyOf Tryz.f104) (by kernel_rfl) rfl (by kernel_rfl) 400
  λ_ k l c hb hp=>⟨(info_right k l c), .t, λ_ _ _=>by kernel_rfl,trivial,rfl⟩
def T_info_right:Tb:=(104,e_info_right)::T_half_Lo
theorem T_info_right_ok:TOk T_info_right:=tc_ info_right_ok T_half_Lo_ok
def info_Put (k l c:Int):Int×Bool:=(bif !info_right k l c then (0,false) else (half_Lo (iF (half_Put (iF (half_Put (iA IntKind.u64 k) 4 12 (iA IntKind.u64 l))) 16 4 (iA IntKind.u64 c))),true))
abbrev c_info_Put:Ct Sg:=⟨none,false,[.agg [.i .i64, .i .i64, .i .i64]], .tup [.i .u32, .b]⟩
def e_info_Put:Entry Sg:=entC c_info_Put info_Put (λ_ _ _=>[])
theorem info_Put_ok:EOk 160 e_info_Put:=
 ent_ok Dg T_info_right_ok (I:=[]) Tryz.func160 mix (B:=bodyOf Tryz.f160) (by kernel_rfl) rfl (by kernel_rfl) 400
  λ_ k l c hb hp=>⟨(info_Put k l c), .t, λ_ _ _=>by kernel_rfl,trivial,rfl⟩
def T_info_Put:Tb:=(160,e_info_Put)::T_info_right
theorem T_info_Put_ok:TOk T_info_Put:=tc_ info_Put_ok T_info_right_ok
def info_Get (v:Int):Int×Int×Int×Bool:=(bif half_Get (iA IntKind.u64 v) 20 (44:Int) !=0||!info_right (iA iB (half_Get (iA IntKind.u64 v) 0 4)) (iA iB (half_Get (iA IntKind.u64 v) 4 12)) (iA iB (half_Get (iA IntKind.u64 v) 16 4)) then (0,0,0,false) else (iA iB (half_Get (iA IntKind.u64 v) 0 4),iA iB (half_Get (iA IntKind.u64 v) 4 12),iA iB (half_Get (iA IntKind.u64 v) 16 4),true))
abbrev c_info_Get:Ct Sg:=⟨none,false,[.i .u32], .tup [.agg [.i .i64, .i .i64, .i .i64], .b]⟩
def e_info_Get:Entry Sg:=entC c_info_Get info_Get (λ_=>[])
theorem info_Get_ok:EOk 57 e_info_Get:=
 ent_ok Dg T_info_Put_ok (I:=[]) Tryz.func57 mix (B:=bodyOf Tryz.f57) (by kernel_rfl) rfl (by kernel_rfl) 400
  λ_ v hb hp=>⟨(info_Get v), .t, λ_ _ _=>by kernel_rfl,trivial,rfl⟩
def T_info_Get:Tb:=(57,e_info_Get)::T_info_Put
theorem T_info_Get_ok:TOk T_info_Get:=tc_ info_Get_ok T_info_Put_ok
def r09_Right (k l c:Int):Bool:=(bif k==0 then l==0&&c==0 else (bif k==1 then (bif k==1 then decide (l≥1)&&decide (l≤1024)&&c==0 else (bif k==3 then l==1&&decide (c≥0)&&decide (c≤8) else false)) else (bif k==2 then decide (l≥1)&&decide (l≤1024)&&c==0 else (bif k==3 then l==1&&decide (c≥0)&&decide (c≤8) else false))))
abbrev c_r09_Right:Ct Sg:=⟨none,false,[.agg [.i .i64, .i .i64, .i .i64]], .b⟩
def e_r09_Right:Entry Sg:=entC c_r09_Right r09_Right (λ_ _ _=>[])
theorem r09_Right_ok:EOk 145 e_r09_Right:=
 ent_ok Dg T_info_Get_ok (I:=[]) Tryz.func145 mix (B:=bodyOf Tryz.f145) (by kernel_rfl) rfl (by kernel_rfl) 400
  λ_ k l c hb hp=>⟨(r09_Right k l c), .t, λ_ _ _=>by kernel_rfl,trivial,rfl⟩
def T_r09_Right:Tb:=(145,e_r09_Right)::T_info_Get
theorem T_r09_Right_ok:TOk T_r09_Right:=tc_ r09_Right_ok T_info_Get_ok
def BO (k l c:Int):Int×Bool:=(bif !r09_Right k l c then (0,false) else (iA iO (iA iB (iA iB (k+iA iB (16*l))+iA iB (65536*c))),true))
abbrev KX:Ct Sg:=⟨none,false,[.agg [.i .i64, .i .i64, .i .i64]], .tup [.i .u32, .b]⟩
def I8:Entry Sg:=entC KX BO (λ_ _ _=>[])
theorem Kr:EOk 127 I8:=
 ent_ok Dg T_r09_Right_ok (I:=[]) Tryz.func127 mix (B:=bodyOf Tryz.f127) (by kernel_rfl) rfl (by kernel_rfl) 400
  λ_ k l c hb hp=>⟨(BO k l c), .t, λ_ _ _=>by kernel_rfl,trivial,rfl⟩
def I9:Tb:=(127,I8)::T_r09_Right
theorem EE:TOk I9:=tc_ Kr T_r09_Right_ok
def r09_Get (v:Int):Int×Int×Int×Bool:=(bif !r09_Right (iA iB (Int.tmod v 16)) (iA iB (Int.tmod (iA iO (Int.tdiv v 16)) 4096)) (iA iB (iA iO (Int.tdiv v 65536))) then (0,0,0,false) else (iA iB (Int.tmod v 16),iA iB (Int.tmod (iA iO (Int.tdiv v 16)) 4096),iA iB (iA iO (Int.tdiv v 65536)),true))
abbrev c_r09_Get:Ct Sg:=⟨none,false,[.i .u32], .tup [.agg [.i .i64, .i .i64, .i .i64], .b]⟩
def e_r09_Get:Entry Sg:=entC c_r09_Get r09_Get (λ_=>[])
theorem r09_Get_ok:EOk 109 e_r09_Get:=
 ent_ok Dg EE (I:=[]) Tryz.func109 mix (B:=bodyOf Tryz.f109) (by kernel_rfl) rfl (by kernel_rfl) 400
  λ_ v hb hp=>⟨(r09_Get v), .t, λ_ _ _=>by kernel_rfl,trivial,rfl⟩
def T_r09_Get:Tb:=(109,e_r09_Get)::I9
theorem T_r09_Get_ok:TOk T_r09_Get:=tc_ r09_Get_ok EE
def BX (k l c:Int):Int:=iF (BO k l c)
abbrev J5:Ct Sg:=⟨none,false,[.i .i64, .i .i64, .i .i64], .i .u32⟩
def Fe:Entry Sg:=entC J5 BX (λ_ _ _=>[])
theorem Jl:EOk 84 Fe:=
 ent_ok Dg T_r09_Get_ok (I:=[]) Tryz.func84 mix (B:=bodyOf Tryz.f84) (by kernel_rfl) rfl (by kernel_rfl) 400
  λ_ k l c hb hp=>⟨(BX k l c), .t, λ_ _ _=>by kernel_rfl,trivial,rfl⟩
def Ff:Tb:=(84,Fe)::T_r09_Get
theorem Dv:TOk Ff:=tc_ Jl T_r09_Get_ok
def r04_Right (t p s:Int):Bool:=decide (t≥1)&&decide (t≤16)&&decide (p≥4)&&decide (p≤1024)&&decide (s≥10)&&decide (s≤20)
abbrev c_r04_Right:Ct Sg:=⟨none,false,[.agg [.i .i64, .i .i64, .i .i64]], .b⟩
def e_r04_Right:Entry Sg:=entC c_r04_Right r04_Right (λ_ _ _=>[])
theorem r04_Right_ok:EOk 122 e_r04_Right:=
 ent_ok Dg Dv (I:=[]) Tryz.func122 mix (B:=bodyOf Tryz.f122) (by kernel_rfl) rfl (by kernel_rfl) 400
  λ_ t p s hb hp=>⟨(r04_Right t p s), .t, λ_ _ _=>by kernel_rfl,trivial,rfl⟩
def T_r04_Right:Tb:=(122,e_r04_Right)::Ff
theorem T_r04_Right_ok:TOk T_r04_Right:=tc_ r04_Right_ok Dv
def idxOr:Option Nat→Int
 |some i=>(i:Int)
 |none=> -1
def conf_bounds (t p s:Int):LI×LI×LI:=([t,p,s],[1,4,10],[16,1024,20])
abbrev c_conf_bounds:Ct Sg:=⟨none,false,[.agg [.i .i64, .i .i64, .i .i64]], .new 191 [some .i64,some .i64,some .i64]⟩
def e_conf_bounds:Entry Sg:=entC c_conf_bounds conf_bounds (λ_ _ _=>[])
theorem conf_bounds_ok:EOk 183 e_conf_bounds:=
 ent_ok Dg T_r04_Right_ok (I:=[]) Tryz.func183 mix (B:=bodyOf Tryz.f183) (by kernel_rfl) rfl (by kernel_rfl) 400
  λ_ t p s hb hp=>⟨(conf_bounds t p s), .t, λ_ _ _=>by kernel_rfl,trivial,rfl⟩
def T_conf_bounds:Tb:=(183,e_conf_bounds)::T_r04_Right
theorem T_conf_bounds_ok:TOk T_conf_bounds:=tc_ conf_bounds_ok T_r04_Right_ok
def conf_Check1 (n lo hi:Int):Bool:=decide (n<lo)||decide (n>hi)
abbrev c_conf_Check1:Ct Sg:=⟨none,false,[.agg [.i .i64, .i .i64, .i .i64]], .b⟩
def e_conf_Check1:Entry Sg:=entC c_conf_Check1 conf_Check1 (λ_ _ _=>[])
theorem conf_Check1_ok:EOk 184 e_conf_Check1:=
 ent_ok Dg T_conf_bounds_ok (I:=[]) Tryz.func184 mix (B:=bodyOf Tryz.f184) (by kernel_rfl) rfl (by kernel_rfl) 400
  λ_ n lo hi hb hp=>⟨(conf_Check1 n lo hi), .t, λ_ _ _=>by kernel_rfl,trivial,rfl⟩
def T_conf_Check1:Tb:=(184,e_conf_Check1)::T_conf_bounds
theorem T_conf_Check1_ok:TOk T_conf_Check1:=tc_ conf_Check1_ok T_conf_bounds_ok
def firstP (n:Nat) (p:Nat→Bool):Option Nat:=(List.range n).find? p
theorem firstP_some {n i:Nat} {p:Nat→Bool}:firstP n p=some i↔p i=true∧i<n∧∀j,j<i→p j=false:=by
 unfold firstP
 rw [List.find?_range_eq_some]
 simp
theorem firstP_none {n:Nat} {p:Nat→Bool}:firstP n p=none↔∀j,j<n→p j=false:=by
 unfold firstP
 rw [List.find?_range_eq_none]
 simp
def IndexBad (xs ys zs:LI):Int:=idxOr (firstP xs.length λj=>conf_Check1 (xs.getD j 0) (ys.getD j 0) (zs.getD j 0))
abbrev c_IndexBad:Ct Sg:=⟨none,false,[.ro [some .i64,some .i64,some .i64], .fn 184], .i .i64⟩
def e_IndexBad:Entry Sg:=entC c_IndexBad IndexBad (λ_ _ _=>[])
def IndexBad_w (xs ys zs:LI) (Q0:Int→Prop) (R_:Int→Prop):Prop:=(Q0 (0))
def IndexBad_w0 (xs ys zs:LI) (i:Int) (Q0:Int→Prop) (R_:Int→Prop):Prop:=(bw_ (decide (i<(↑(iC xs):Int))) (aw_ (0≤i∧i<(↑(iC xs):Int)) (bw_ (conf_Check1 (iE xs (iJ i) 0) (iE ys (iJ i) 0) (iE zs (iJ i) 0)) (R_ (i)) (Q0 (iA iB (i+1))))) (R_ ((-1))))
def IndexBad_I0 (xs ys zs:LI) (i r_:Int):Prop:=0≤i∧i≤xs.length∧(∀j:Nat,j<i.toNat→conf_Check1 (xs.getD j 0) (ys.getD j 0) (zs.getD j 0)=false)∧r_=IndexBad xs ys zs
abbrev IndexBad_h0 (p0:Addr) (xs ys zs:LI):Hd Sg:=⟨none,[0,1,0,1],[.blk 0, .code [1,1]],[8,7,0,1],[.i .i64, .ic .i64 ((xs.length:Int)), .roc [.ints .i64 (xs), .ints .i64 (ys), .ints .i64 (zs)], .fn 184]⟩
theorem IndexBad_begin (xs ys zs:LI) (hl0:xs.length≤9223372036854775807):IndexBad_w xs ys zs (λi'=>IndexBad_I0 xs ys zs i' (IndexBad xs ys zs)) (λr__=>r__=(IndexBad xs ys zs)):=by
 unfold IndexBad_w
 try unfold IndexBad_I0
 exact ⟨by omega,by omega, λj hj=>absurd hj (Nat.not_lt_zero j),rfl⟩
theorem IndexBad_step0 (xs ys zs:LI) (hl0:xs.length≤9223372036854775807) (i:Int) {r_:Int} (hI:IndexBad_I0 xs ys zs i r_):IndexBad_w0 xs ys zs i (λi'=>IndexBad_I0 xs ys zs i' r_∧lx ((xs.length-i').toNat,0,0) ((xs.length-i).toNat,0,0)) (λr__=>r__=r_):=by
 unfold IndexBad_I0 at hI
 unfold IndexBad_w0
 try unfold IndexBad_I0
 obtain ⟨h0,h1,h2,h3⟩:=hI
 refine ⟨λh=>?_, λh=>?_⟩
 ·simp only [decide_eq_true_eq] at h
  refine ⟨by omega, λ_=>⟨λhg=>?_, λhg=>?_⟩⟩
  ·have:=(firstP_some (n:=xs.length) (p:= λj=>conf_Check1 (xs.getD j 0) (ys.getD j 0) (zs.getD j 0))).2 ⟨hg,by omega,h2⟩
   show i=r_
   simp only [h3,IndexBad,this,idxOr]
   omega
  ·rw [w64 (by omega)]
   refine ⟨⟨by omega,by omega, λj hj=>?_,h3⟩,lxo_⟩
   by_cases hk:j=i.toNat
   ·subst hk;exact hg
   ·exact h2 j (by omega)
 ·simp only [decide_eq_false_iff_not] at h
  show (-1:Int)=r_
  have:=(firstP_none (n:=xs.length) (p:= λj=>conf_Check1 (xs.getD j 0) (ys.getD j 0) (zs.getD j 0))).2 λj hj=>h2 j (by omega)
  simp only [h3,IndexBad,this,idxOr]
theorem IndexBad_ok:EOk 192 e_IndexBad:=
 ent_wp Dg T_conf_Check1_ok (I:=[103000000008,103000000007,103000000000,103000000001]) Tryz.func192 mix (B:=bodyOf Tryz.f192) (by kernel_rfl) rfl (by kernel_rfl) 400
  λp0 xs ys zs hb hp=>have hl0:xs.length≤9223372036854775807:=hb.1;⟨[IndexBad_h0 p0 xs ys zs], λj=>iE [appC (Hd.kd (IndexBad_h0 p0 xs ys zs)) (λi'=>IndexBad_I0 xs ys zs i' (IndexBad xs ys zs))] j (λ_=>False), λj=>iE [appC (Hd.kd (IndexBad_h0 p0 xs ys zs)) (λi'=>((xs.length-i').toNat,0,0))] j (λ_=>(0,0,0)),by kernel_rfl,⟨_, λ_ _ _=>by kernel_rfl,IndexBad_begin xs ys zs hl0⟩,⟨λi hI=>⟨_, λ_ _ _=>by kernel_rfl,IndexBad_step0 xs ys zs hl0 i hI⟩,trivial⟩⟩
def T_IndexBad:Tb:=(192,e_IndexBad)::T_conf_Check1
theorem T_IndexBad_ok:TOk T_IndexBad:=tc_ IndexBad_ok T_conf_Check1_ok
def ContainsBad (xs ys zs:LI):Bool:=decide (IndexBad xs ys zs≥0)
abbrev c_ContainsBad:Ct Sg:=⟨none,false,[.ro [some .i64,some .i64,some .i64], .fn 184], .b⟩
def e_ContainsBad:Entry Sg:=entC c_ContainsBad ContainsBad (λ_ _ _=>[])
theorem ContainsBad_ok:EOk 182 e_ContainsBad:=
 ent_ok Dg T_IndexBad_ok (I:=[]) Tryz.func182 mix (B:=bodyOf Tryz.f182) (by kernel_rfl) rfl (by kernel_rfl) 400
  λ_ xs ys zs hb hp=>have hl0:xs.length≤9223372036854775807:=hb.1;⟨(ContainsBad xs ys zs), .t, λ_ _ _=>by kernel_rfl,trivial,rfl⟩
def T_ContainsBad:Tb:=(182,e_ContainsBad)::T_IndexBad
theorem T_ContainsBad_ok:TOk T_ContainsBad:=tc_ ContainsBad_ok T_IndexBad_ok
def conf_Check (t p s:Int):Int:=(let r1:LI×LI×LI:=conf_bounds t p s;(bif ContainsBad r1.1 r1.2.1 r1.2.2 then 1 else 0))
abbrev c_conf_Check:Ct Sg:=⟨none,false,[.agg [.i .i64, .i .i64, .i .i64]], .i .i64⟩
def e_conf_Check:Entry Sg:=entC c_conf_Check conf_Check (λ_ _ _=>[])
theorem conf_Check_ok:EOk 158 e_conf_Check:=
 ent_ok Dg T_ContainsBad_ok (I:=[]) Tryz.func158 mix (B:=bodyOf Tryz.f158) (by kernel_rfl) rfl (by kernel_rfl) 400
  λ_ t p s hb hp=>⟨(conf_Check t p s), .t, λ_ _ _=>by kernel_rfl,trivial,rfl⟩
def T_conf_Check:Tb:=(158,e_conf_Check)::T_ContainsBad
theorem T_conf_Check_ok:TOk T_conf_Check:=tc_ conf_Check_ok T_ContainsBad_ok
theorem conf_Check_eq (t p s:Int):conf_Check t p s=bif r04_Right t p s then 0 else 1:=by
 have e:∀o:Option Nat,decide (idxOr o≥0)=o.isSome:= λo=>by cases o<;>simp [idxOr]
 have h:ContainsBad [t,p,s] [1,4,10] [16,1024,20]=!r04_Right t p s:=by
  unfold ContainsBad IndexBad
  rw [e]
  cases hf:firstP [t,p,s].length (λj=>conf_Check1 ([t,p,s].getD j 0) ([1,4,10].getD j 0) ([16,1024,20].getD j 0)) with
  |none=>
   have hn:=firstP_none.1 hf
   have h0:=hn 0 (by simp)
   have h1:=hn 1 (by simp)
   have h2:=hn 2 (by simp)
   simp [conf_Check1] at h0 h1 h2
   have:r04_Right t p s=true:=by simp only [r04_Right,iK,decide_eq_true_eq];omega
   rw [this];rfl
  |some j=>
   obtain ⟨h1,h2,_⟩:=firstP_some.1 hf
   have:r04_Right t p s=false:=by
    apply Bool.eq_false_iff.2
    intro hr
    simp only [r04_Right,iK,decide_eq_true_eq] at hr
    have hj:j=0∨j=1∨j=2:=by simp at h2;omega
    rcases hj with rfl|rfl|rfl<;>simp [conf_Check1] at h1<;>omega
   rw [this];rfl
 unfold conf_Check
 simp only [conf_bounds,h]
 cases r04_Right t p s<;>rfl
def laid_cells (t p s mk:Int):Int:=iA iB (iA iB (30+iA iB (4*t))+iA iB (6*p))
abbrev c_laid_cells:Ct Sg:=⟨none,false,[.agg [.i .i64, .i .i64, .i .i64, .i .i64]], .i .i64⟩
def e_laid_cells:Entry Sg:=entC c_laid_cells laid_cells (λ_ _ _ _=>[])
theorem laid_cells_ok:EOk 172 e_laid_cells:=
 ent_ok Dg T_conf_Check_ok (I:=[]) Tryz.func172 mix (B:=bodyOf Tryz.f172) (by kernel_rfl) rfl (by kernel_rfl) 400
  λ_ t p s mk hb hp=>⟨(laid_cells t p s mk), .t, λ_ _ _=>by kernel_rfl,trivial,rfl⟩
def T_laid_cells:Tb:=(172,e_laid_cells)::T_conf_Check
theorem T_laid_cells_ok:TOk T_laid_cells:=tc_ laid_cells_ok T_conf_Check_ok
def place_lay (t p s:Int):Int×Int×Int×Int×Bool:=(bif conf_Check t p s !=0 then (0,0,0,0,false) else (t,p,s,iA iB (iA iB (Int.tdiv (iA iB (iA iB (iA iB (16+laid_cells t p s 0)+8)-1)) 8)*8),true))
abbrev c_place_lay:Ct Sg:=⟨none,false,[.agg [.i .i64, .i .i64, .i .i64]], .tup [.agg [.i .i64, .i .i64, .i .i64, .i .i64], .b]⟩
def e_place_lay:Entry Sg:=entC c_place_lay place_lay (λ_ _ _=>[])
theorem place_lay_ok:EOk 144 e_place_lay:=
 ent_ok Dg T_laid_cells_ok (I:=[]) Tryz.func144 mix (B:=bodyOf Tryz.f144) (by kernel_rfl) rfl (by kernel_rfl) 400
  λ_ t p s hb hp=>⟨(place_lay t p s), .t, λ_ _ _=>by kernel_rfl,trivial,rfl⟩
def T_place_lay:Tb:=(144,e_place_lay)::T_laid_cells
theorem T_place_lay_ok:TOk T_place_lay:=tc_ place_lay_ok T_laid_cells_ok
def place_within (a i n:Int):Int:=(bif decide (i<0)||decide (i≥n) then (-1) else iA iB (a+i))
abbrev c_place_within:Ct Sg:=⟨none,false,[.i .i64, .i .i64, .i .i64], .i .i64⟩
def e_place_within:Entry Sg:=entC c_place_within place_within (λ_ _ _=>[])
theorem place_within_ok:EOk 131 e_place_within:=
 ent_ok Dg T_place_lay_ok (I:=[]) Tryz.func131 mix (B:=bodyOf Tryz.f131) (by kernel_rfl) rfl (by kernel_rfl) 400
  λ_ a i n hb hp=>⟨(place_within a i n), .t, λ_ _ _=>by kernel_rfl,trivial,rfl⟩
def T_place_within:Tb:=(131,e_place_within)::T_place_lay
theorem T_place_within_ok:TOk T_place_within:=tc_ place_within_ok T_place_lay_ok
def place_of (t p s pg k:Int):Int:=(bif !Prod.snd (iH (iH (iH (place_lay t p s))))||decide (pg<0)||decide (pg≥iF (iH (place_lay t p s))) then (-1) else iA iB (iA iB (iA iB (30+iA iB (4*iF (place_lay t p s)))+iA iB (6*pg))+k))
abbrev c_place_of:Ct Sg:=⟨none,false,[.agg [.i .i64, .i .i64, .i .i64], .i .i64, .i .i64], .i .i64⟩
def e_place_of:Entry Sg:=entC c_place_of place_of (λ_ _ _ _ _=>[])
theorem place_of_ok:EOk 106 e_place_of:=
 ent_ok Dg T_place_within_ok (I:=[]) Tryz.func106 mix (B:=bodyOf Tryz.f106) (by kernel_rfl) rfl (by kernel_rfl) 400
  λ_ t p s pg k hb hp=>⟨(place_of t p s pg k), .t, λ_ _ _=>by kernel_rfl,trivial,rfl⟩
def T_place_of:Tb:=(106,e_place_of)::T_place_within
theorem T_place_of_ok:TOk T_place_of:=tc_ place_of_ok T_place_within_ok
def place_Info (t p s pg:Int):Int:=place_of t p s pg 0
abbrev c_place_Info:Ct Sg:=⟨none,false,[.agg [.i .i64, .i .i64, .i .i64], .i .i64], .i .i64⟩
def e_place_Info:Entry Sg:=entC c_place_Info place_Info (λ_ _ _ _=>[])
theorem place_Info_ok:EOk 59 e_place_Info:=
 ent_ok Dg T_place_of_ok (I:=[]) Tryz.func59 mix (B:=bodyOf Tryz.f59) (by kernel_rfl) rfl (by kernel_rfl) 400
  λ_ t p s pg hb hp=>⟨(place_Info t p s pg), .t, λ_ _ _=>by kernel_rfl,trivial,rfl⟩
def T_place_Info:Tb:=(59,e_place_Info)::T_place_of
theorem T_place_Info_ok:TOk T_place_Info:=tc_ place_Info_ok T_place_of_ok
def place_Foot (t p s pg:Int):Int:=place_of t p s pg 1
abbrev c_place_Foot:Ct Sg:=⟨none,false,[.agg [.i .i64, .i .i64, .i .i64], .i .i64], .i .i64⟩
def e_place_Foot:Entry Sg:=entC c_place_Foot place_Foot (λ_ _ _ _=>[])
theorem place_Foot_ok:EOk 167 e_place_Foot:=
 ent_ok Dg T_place_Info_ok (I:=[]) Tryz.func167 mix (B:=bodyOf Tryz.f167) (by kernel_rfl) rfl (by kernel_rfl) 400
  λ_ t p s pg hb hp=>⟨(place_Foot t p s pg), .t, λ_ _ _=>by kernel_rfl,trivial,rfl⟩
def T_place_Foot:Tb:=(167,e_place_Foot)::T_place_Info
theorem T_place_Foot_ok:TOk T_place_Foot:=tc_ place_Foot_ok T_place_Info_ok
def place_Next (t p s pg:Int):Int:=place_of t p s pg 2
abbrev c_place_Next:Ct Sg:=⟨none,false,[.agg [.i .i64, .i .i64, .i .i64], .i .i64], .i .i64⟩
def e_place_Next:Entry Sg:=entC c_place_Next place_Next (λ_ _ _ _=>[])
theorem place_Next_ok:EOk 165 e_place_Next:=
 ent_ok Dg T_place_Foot_ok (I:=[]) Tryz.func165 mix (B:=bodyOf Tryz.f165) (by kernel_rfl) rfl (by kernel_rfl) 400
  λ_ t p s pg hb hp=>⟨(place_Next t p s pg), .t, λ_ _ _=>by kernel_rfl,trivial,rfl⟩
def T_place_Next:Tb:=(165,e_place_Next)::T_place_Foot
theorem T_place_Next_ok:TOk T_place_Next:=tc_ place_Next_ok T_place_Foot_ok
def place_Prev (t p s pg:Int):Int:=place_of t p s pg 3
abbrev c_place_Prev:Ct Sg:=⟨none,false,[.agg [.i .i64, .i .i64, .i .i64], .i .i64], .i .i64⟩
def e_place_Prev:Entry Sg:=entC c_place_Prev place_Prev (λ_ _ _ _=>[])
theorem place_Prev_ok:EOk 166 e_place_Prev:=
 ent_ok Dg T_place_Next_ok (I:=[]) Tryz.func166 mix (B:=bodyOf Tryz.f166) (by kernel_rfl) rfl (by kernel_rfl) 400
  λ_ t p s pg hb hp=>⟨(place_Prev t p s pg), .t, λ_ _ _=>by kernel_rfl,trivial,rfl⟩
def T_place_Prev:Tb:=(166,e_place_Prev)::T_place_Next
theorem T_place_Prev_ok:TOk T_place_Prev:=tc_ place_Prev_ok T_place_Next_ok
def place_Bin (k:Int):Int:=place_within 2 k 11
abbrev c_place_Bin:Ct Sg:=⟨none,false,[.i .i64], .i .i64⟩
def e_place_Bin:Entry Sg:=entC c_place_Bin place_Bin (λ_=>[])
theorem place_Bin_ok:EOk 170 e_place_Bin:=
 ent_ok Dg T_place_Prev_ok (I:=[]) Tryz.func170 mix (B:=bodyOf Tryz.f170) (by kernel_rfl) rfl (by kernel_rfl) 400
  λ_ k hb hp=>⟨(place_Bin k), .t, λ_ _ _=>by kernel_rfl,trivial,rfl⟩
def T_place_Bin:Tb:=(170,e_place_Bin)::T_place_Prev
theorem T_place_Bin_ok:TOk T_place_Bin:=tc_ place_Bin_ok T_place_Prev_ok
def r07_Page (t p s pg k:Int):Int:=(bif !r04_Right t p s||decide (pg<0)||decide (pg≥p) then (-1) else iA iB (iA iB (iA iB (30+iA iB (4*t))+iA iB (6*pg))+k))
abbrev c_r07_Page:Ct Sg:=⟨none,false,[.agg [.i .i64, .i .i64, .i .i64], .i .i64, .i .i64], .i .i64⟩
def e_r07_Page:Entry Sg:=entC c_r07_Page r07_Page (λ_ _ _ _ _=>[])
theorem r07_Page_ok:EOk 80 e_r07_Page:=
 ent_ok Dg T_place_Bin_ok (I:=[]) Tryz.func80 mix (B:=bodyOf Tryz.f80) (by kernel_rfl) rfl (by kernel_rfl) 400
  λ_ t p s pg k hb hp=>⟨(r07_Page t p s pg k), .t, λ_ _ _=>by kernel_rfl,trivial,rfl⟩
def T_r07_Page:Tb:=(80,e_r07_Page)::T_place_Bin
theorem T_r07_Page_ok:TOk T_r07_Page:=tc_ r07_Page_ok T_place_Bin_ok
def r07_Info (t p s pg:Int):Int:=r07_Page t p s pg 0
abbrev c_r07_Info:Ct Sg:=⟨none,false,[.agg [.i .i64, .i .i64, .i .i64], .i .i64], .i .i64⟩
def e_r07_Info:Entry Sg:=entC c_r07_Info r07_Info (λ_ _ _ _=>[])
theorem r07_Info_ok:EOk 83 e_r07_Info:=
 ent_ok Dg T_r07_Page_ok (I:=[]) Tryz.func83 mix (B:=bodyOf Tryz.f83) (by kernel_rfl) rfl (by kernel_rfl) 400
  λ_ t p s pg hb hp=>⟨(r07_Info t p s pg), .t, λ_ _ _=>by kernel_rfl,trivial,rfl⟩
def T_r07_Info:Tb:=(83,e_r07_Info)::T_r07_Page
theorem T_r07_Info_ok:TOk T_r07_Info:=tc_ r07_Info_ok T_r07_Page_ok
def r07_Foot (t p s pg:Int):Int:=r07_Page t p s pg 1
abbrev c_r07_Foot:Ct Sg:=⟨none,false,[.agg [.i .i64, .i .i64, .i .i64], .i .i64], .i .i64⟩
def e_r07_Foot:Entry Sg:=entC c_r07_Foot r07_Foot (λ_ _ _ _=>[])
theorem r07_Foot_ok:EOk 125 e_r07_Foot:=
 ent_ok Dg T_r07_Info_ok (I:=[]) Tryz.func125 mix (B:=bodyOf Tryz.f125) (by kernel_rfl) rfl (by kernel_rfl) 400
  λ_ t p s pg hb hp=>⟨(r07_Foot t p s pg), .t, λ_ _ _=>by kernel_rfl,trivial,rfl⟩
def T_r07_Foot:Tb:=(125,e_r07_Foot)::T_r07_Info
theorem T_r07_Foot_ok:TOk T_r07_Foot:=tc_ r07_Foot_ok T_r07_Info_ok
def r07_Next (t p s pg:Int):Int:=r07_Page t p s pg 2
abbrev c_r07_Next:Ct Sg:=⟨none,false,[.agg [.i .i64, .i .i64, .i .i64], .i .i64], .i .i64⟩
def e_r07_Next:Entry Sg:=entC c_r07_Next r07_Next (λ_ _ _ _=>[])
theorem r07_Next_ok:EOk 128 e_r07_Next:=
 ent_ok Dg T_r07_Foot_ok (I:=[]) Tryz.func128 mix (B:=bodyOf Tryz.f128) (by kernel_rfl) rfl (by kernel_rfl) 400
  λ_ t p s pg hb hp=>⟨(r07_Next t p s pg), .t, λ_ _ _=>by kernel_rfl,trivial,rfl⟩
def T_r07_Next:Tb:=(128,e_r07_Next)::T_r07_Foot
theorem T_r07_Next_ok:TOk T_r07_Next:=tc_ r07_Next_ok T_r07_Foot_ok
def r07_Prev (t p s pg:Int):Int:=r07_Page t p s pg 3
abbrev c_r07_Prev:Ct Sg:=⟨none,false,[.agg [.i .i64, .i .i64, .i .i64], .i .i64], .i .i64⟩
def e_r07_Prev:Entry Sg:=entC c_r07_Prev r07_Prev (λ_ _ _ _=>[])
theorem r07_Prev_ok:EOk 129 e_r07_Prev:=
 ent_ok Dg T_r07_Next_ok (I:=[]) Tryz.func129 mix (B:=bodyOf Tryz.f129) (by kernel_rfl) rfl (by kernel_rfl) 400
  λ_ t p s pg hb hp=>⟨(r07_Prev t p s pg), .t, λ_ _ _=>by kernel_rfl,trivial,rfl⟩
def T_r07_Prev:Tb:=(129,e_r07_Prev)::T_r07_Next
theorem T_r07_Prev_ok:TOk T_r07_Prev:=tc_ r07_Prev_ok T_r07_Next_ok
def r07_Bin (k:Int):Int:=(bif decide (k<0)||decide (k>10) then (-1) else iA iB (2+k))
abbrev c_r07_Bin:Ct Sg:=⟨none,false,[.i .i64], .i .i64⟩
def e_r07_Bin:Entry Sg:=entC c_r07_Bin r07_Bin (λ_=>[])
theorem r07_Bin_ok:EOk 162 e_r07_Bin:=
 ent_ok Dg T_r07_Prev_ok (I:=[]) Tryz.func162 mix (B:=bodyOf Tryz.f162) (by kernel_rfl) rfl (by kernel_rfl) 400
  λ_ k hb hp=>⟨(r07_Bin k), .t, λ_ _ _=>by kernel_rfl,trivial,rfl⟩
def T_r07_Bin:Tb:=(162,e_r07_Bin)::T_r07_Prev
theorem T_r07_Bin_ok:TOk T_r07_Bin:=tc_ r07_Bin_ok T_r07_Prev_ok
def r07_Root (k:Int):Int:=(bif decide (k<0)||decide (k>7) then (-1) else iA iB (22+k))
abbrev c_r07_Root:Ct Sg:=⟨none,false,[.i .i64], .i .i64⟩
def e_r07_Root:Entry Sg:=entC c_r07_Root r07_Root (λ_=>[])
theorem r07_Root_ok:EOk 180 e_r07_Root:=
 ent_ok Dg T_r07_Bin_ok (I:=[]) Tryz.func180 mix (B:=bodyOf Tryz.f180) (by kernel_rfl) rfl (by kernel_rfl) 400
  λ_ k hb hp=>⟨(r07_Root k), .t, λ_ _ _=>by kernel_rfl,trivial,rfl⟩
def T_r07_Root:Tb:=(180,e_r07_Root)::T_r07_Bin
theorem T_r07_Root_ok:TOk T_r07_Root:=tc_ r07_Root_ok T_r07_Bin_ok
theorem u8_need (z:Int):0≤iA IntKind.u8 z∧iA IntKind.u8 z<((256:Nat):Int):=by
 rw [IntKind.wrap_u8];omega
def bits_Len64 (x:Int):Int:=(bif decide (x≥4294967296) then (bif decide (Int.fdiv x (4294967296:Int)≥65536) then (bif decide (Int.fdiv (Int.fdiv x 4294967296) (65536:Int)≥256) then iA iB (56+iA iB (sAt SlLow_bytes0 (iA IntKind.u8 (Int.fdiv (Int.fdiv (Int.fdiv x 4294967296) 65536) 256)))) else iA iB (48+iA iB (sAt SlLow_bytes0 (iA IntKind.u8 (Int.fdiv (Int.fdiv x 4294967296) 65536))))) else (bif decide (Int.fdiv x (4294967296:Int)≥256) then iA iB (40+iA iB (sAt SlLow_bytes0 (iA IntKind.u8 (Int.fdiv (Int.fdiv x 4294967296) 256)))) else iA iB (32+iA iB (sAt SlLow_bytes0 (iA IntKind.u8 (Int.fdiv x 4294967296)))))) else (bif decide (x≥65536) then (bif decide (Int.fdiv x (65536:Int)≥256) then iA iB (24+iA iB (sAt SlLow_bytes0 (iA IntKind.u8 (Int.fdiv (Int.fdiv x 65536) 256)))) else iA iB (16+iA iB (sAt SlLow_bytes0 (iA IntKind.u8 (Int.fdiv x 65536))))) else (bif decide (x≥256) then iA iB (8+iA iB (sAt SlLow_bytes0 (iA IntKind.u8 (Int.fdiv x 256)))) else iA iB (0+iA iB (sAt SlLow_bytes0 (iA IntKind.u8 x))))))
abbrev c_bits_Len64:Ct Sg:=⟨none,false,[.i .u64], .i .i64⟩
def e_bits_Len64:Entry Sg:=entC c_bits_Len64 bits_Len64 (λ_=>[])
theorem bits_Len64_ok:EOk 194 e_bits_Len64:=
 ent_ok Dg T_r07_Root_ok (I:=[]) Tryz.func194 mix (B:=bodyOf Tryz.f194) (by kernel_rfl) rfl (by kernel_rfl) 400
  λ_ x hb hp=>⟨(bits_Len64 x),(.br (decide (x≥4294967296)) (.br (decide (Int.fdiv x (4294967296:Int)≥65536)) (.br (decide (Int.fdiv (Int.fdiv x 4294967296) (65536:Int)≥256)) (.need (0≤iA IntKind.u8 (Int.fdiv (Int.fdiv (Int.fdiv x 4294967296) 65536) 256)∧iA IntKind.u8 (Int.fdiv (Int.fdiv (Int.fdiv x 4294967296) 65536) 256)<256) .t) (.need (0≤iA IntKind.u8 (Int.fdiv (Int.fdiv x 4294967296) 65536)∧iA IntKind.u8 (Int.fdiv (Int.fdiv x 4294967296) 65536)<256) .t)) (.br (decide (Int.fdiv x (4294967296:Int)≥256)) (.need (0≤iA IntKind.u8 (Int.fdiv (Int.fdiv x 4294967296) 256)∧iA IntKind.u8 (Int.fdiv (Int.fdiv x 4294967296) 256)<256) .t) (.need (0≤iA IntKind.u8 (Int.fdiv x 4294967296)∧iA IntKind.u8 (Int.fdiv x 4294967296)<256) .t))) (.br (decide (x≥65536)) (.br (decide (Int.fdiv x (65536:Int)≥256)) (.need (0≤iA IntKind.u8 (Int.fdiv (Int.fdiv x 65536) 256)∧iA IntKind.u8 (Int.fdiv (Int.fdiv x 65536) 256)<256) .t) (.need (0≤iA IntKind.u8 (Int.fdiv x 65536)∧iA IntKind.u8 (Int.fdiv x 65536)<256) .t)) (.br (decide (x≥256)) (.need (0≤iA IntKind.u8 (Int.fdiv x 256)∧iA IntKind.u8 (Int.fdiv x 256)<256) .t) (.need (0≤iA IntKind.u8 x∧iA IntKind.u8 x<256) .t)))), λ_ _ _=>by kernel_rfl,⟨λz0=>⟨λz1=>⟨λz2=>⟨(by exact u8_need _), λz3=>trivial⟩, λz2=>⟨(by exact u8_need _), λz3=>trivial⟩⟩, λz1=>⟨λz2=>⟨(by exact u8_need _), λz3=>trivial⟩, λz2=>⟨(by exact u8_need _), λz3=>trivial⟩⟩⟩, λz0=>⟨λz1=>⟨λz2=>⟨(by exact u8_need _), λz3=>trivial⟩, λz2=>⟨(by exact u8_need _), λz3=>trivial⟩⟩, λz1=>⟨λz2=>⟨(by exact u8_need _), λz3=>trivial⟩, λz2=>⟨(by exact u8_need _), λz3=>trivial⟩⟩⟩⟩,rfl⟩
def T_bits_Len64:Tb:=(194,e_bits_Len64)::T_r07_Root
theorem T_bits_Len64_ok:TOk T_bits_Len64:=tc_ bits_Len64_ok T_r07_Root_ok
def half_Log (n:Int):Int:=(bif decide (n<1) then (-1) else iA iB (bits_Len64 (iA IntKind.u64 n)-1))
abbrev c_half_Log:Ct Sg:=⟨none,false,[.i .i64], .i .i64⟩
def e_half_Log:Entry Sg:=entC c_half_Log half_Log (λ_=>[])
theorem half_Log_ok:EOk 191 e_half_Log:=
 ent_ok Dg T_bits_Len64_ok (I:=[]) Tryz.func191 mix (B:=bodyOf Tryz.f191) (by kernel_rfl) rfl (by kernel_rfl) 400
  λ_ n hb hp=>⟨(half_Log n), .t, λ_ _ _=>by kernel_rfl,trivial,rfl⟩
def T_half_Log:Tb:=(191,e_half_Log)::T_bits_Len64
theorem T_half_Log_ok:TOk T_half_Log:=tc_ half_Log_ok T_bits_Len64_ok
theorem logI_lt {n:Int} (h:n<1):logI n= -1:=by unfold logI;rw [if_pos h]
theorem logI_half {n:Int} (h:1≤n):logI n=logI (n/2)+1:=by
 unfold logI
 rw [if_neg (by omega),Nat.log2_def]
 by_cases h2:n/2<1
 ·rw [if_pos h2,if_neg (by omega)];rfl
 ·rw [if_neg h2,if_pos (by omega)]
  have:(n/2).toNat=n.toNat/2:=by omega
  rw [this];push_cast;rfl
theorem logI_le (k:Nat):∀n:Int,n<2^k→logI n≤(k:Int)-1:=by
 induction k with
 |zero=>intro n h;rw [logI_lt (by simpa using h)];omega
 |succ k ih=>
  intro n h
  by_cases h1:1≤n
  ·rw [logI_half h1]
   have:=ih (n/2) (by rw [Int.pow_succ] at h;omega)
   push_cast;omega
  ·rw [logI_lt (by omega)];push_cast;omega
theorem logI_ge (n:Int): -1≤logI n:=by
 unfold logI
 split<;>omega
def r01_Log (n:Int):Int:=logI n
abbrev c_r01_Log:Ct Sg:=⟨none,false,[.i .i64], .i .i64⟩
def e_r01_Log:Entry Sg:=entC c_r01_Log r01_Log (λn=>[n≤9223372036854775807])
def r01_Log_w (n:Int) (Q0:Int→Int→Prop) (R_:Int→Prop):Prop:=(Q0 ((-1)) (n))
def r01_Log_w0 (n k m:Int) (Q0:Int→Int→Prop) (R_:Int→Prop):Prop:=(bw_ (decide (m≥1)) (Q0 (iA iB (k+1)) (iA iB (Int.tdiv m 2))) (R_ (k)))
def r01_Log_I0 (n k m r_:Int):Prop:= -1≤k∧k+logI m≤70∧m≤9223372036854775807∧r_=k+1+logI m
abbrev r01_Log_h0 (p0:Addr) (n:Int):Hd Sg:=⟨none,[0,0,1,1],[.blk 0, .code [1,1,1]],[3,0],[.i .i64, .i .i64]⟩
theorem r01_Log_begin (n:Int) (hp0:n≤9223372036854775807):r01_Log_w n (λk' m'=>r01_Log_I0 n k' m' (r01_Log n)) (λr__=>r__=(r01_Log n)):=by
 unfold r01_Log_w
 try unfold r01_Log_I0
 have:=logI_le 63 n (by omega)
 exact ⟨by omega,by omega,hp0,by simp [r01_Log]⟩
theorem r01_Log_step0 (n:Int) (hp0:n≤9223372036854775807) (k m:Int) {r_:Int} (hI:r01_Log_I0 n k m r_):r01_Log_w0 n k m (λk' m'=>r01_Log_I0 n k' m' r_∧lx (m'.toNat,0,0) (m.toNat,0,0)) (λr__=>r__=r_):=by
 unfold r01_Log_I0 at hI
 unfold r01_Log_w0
 try unfold r01_Log_I0
 obtain ⟨h0,h1,hm,h2⟩:=hI
 refine ⟨λh=>?_, λh=>?_⟩
 ·simp only [decide_eq_true_eq] at h
  have h3:1≤m:=by omega
  have h4:=logI_half h3
  have h5:=logI_ge (m/2)
  have e:Int.tdiv m 2=m/2:=Int.tdiv_eq_ediv_of_nonneg (by omega)
  rw [e,w64 (by omega),w64 (by omega)]
  exact ⟨⟨by omega,by omega,by omega,by omega⟩,lxo_⟩
 ·simp only [decide_eq_false_iff_not] at h
  show _=_
  rw [h2,logI_lt (by omega)];omega
theorem r01_Log_ok:EOk 189 e_r01_Log:=
 ent_wp Dg T_half_Log_ok (I:=[91000000003,91000000000]) Tryz.func189 mix (B:=bodyOf Tryz.f189) (by kernel_rfl) rfl (by kernel_rfl) 400
  λp0 n hb hp=>have hp0:n≤9223372036854775807:=hp _ (.head _);⟨[r01_Log_h0 p0 n], λj=>iE [appC (Hd.kd (r01_Log_h0 p0 n)) (λk' m'=>r01_Log_I0 n k' m' (r01_Log n))] j (λ_=>False), λj=>iE [appC (Hd.kd (r01_Log_h0 p0 n)) (λk' m'=>(m'.toNat,0,0))] j (λ_=>(0,0,0)),by kernel_rfl,⟨_, λ_ _ _=>by kernel_rfl,r01_Log_begin n hp0⟩,⟨λk m hI=>⟨_, λ_ _ _=>by kernel_rfl,r01_Log_step0 n hp0 k m hI⟩,trivial⟩⟩
def T_r01_Log:Tb:=(189,e_r01_Log)::T_half_Log
theorem T_r01_Log_ok:TOk T_r01_Log:=tc_ r01_Log_ok T_half_Log_ok
end
section
open Go Go.Sl
theorem wrap_u64_nat {n:Nat} (h:n<18446744073709551616):iA IntKind.u64 (n:Int)=(n:Int):=by rw [IntKind.wrap_u64];omega
theorem wrap_u32_nat {n:Nat} (h:n<4294967296):iA iO (n:Int)=(n:Int):=by rw [IntKind.wrap_u32];omega
theorem wrap_i64_id {n:Int} (h: -9223372036854775808≤n∧n<9223372036854775808):iA iB n=n:=by rw [IntKind.wrap_i64];omega
theorem half_mask_eq {y:Nat} (h:y≤64):half_mask (y:Int)=((2^y-1:Nat):Int):=by
 have key:∀y:Fin 65,half_mask ((y.val:Nat):Int)=((2^y.val-1:Nat):Int):=by decide+kernel
 exact key ⟨y,by omega⟩
theorem ofInt_nat (n:Nat):iP 64 (n:Int)=BitVec.ofNat 64 n:=by
 apply BitVec.eq_of_toNat_eq
 simp
theorem half_field_true {x y:Nat} (h1:1≤y) (h:x+y≤64):half_field (x:Int) (y:Int)=true:=half_field_iff.2 (by omega)
theorem min_toNat {x:Nat} (h:x≤64):min (iJ (x:Int)) 64=x:=by simp;omega
theorem half_Get_eq {W x y:Nat} (hW:W<18446744073709551616) (h1:1≤y) (h:x+y≤64):half_Get (W:Int) (x:Int) (y:Int)=((W/2^x%2^y:Nat):Int):=by
 have hf:=half_field_true h1 h
 unfold half_Get
 rw [hf]
 simp only [jO,cond_false]
 rw [min_toNat (by omega),half_mask_eq (by omega)]
 have e1:Int.fdiv (W:Int) (2^x)=((W/2^x:Nat):Int):=by
  rw [Int.fdiv_eq_ediv_of_nonneg _ (by exact Int.le_of_lt (Int.pow_pos (by omega)))]
  push_cast;rfl
 rw [e1,ofInt_nat,ofInt_nat,BitVec.toNat_and,BitVec.toNat_ofNat,BitVec.toNat_ofNat]
 have h2:2^y≤2^64:=Nat.pow_le_pow_right (by omega) (by omega)
 have h3:W/2^x<2^64:=Nat.lt_of_le_of_lt (Nat.div_le_self _ _) (by omega)
 have h4:0<2^y:=Nat.pow_pos (by omega)
 rw [Nat.mod_eq_of_lt h3,Nat.mod_eq_of_lt (by omega:2^y-1<2^64),Nat.and_two_pow_sub_one_eq_mod]
 refine wrap_u64_nat ?_
 have:=Nat.mod_lt (W/2^x) h4
 omega
def putW (W x y V:Nat):Nat:=((BitVec.ofNat 64 W &&& ~~~BitVec.ofNat 64 ((2^y-1)*2^x)) ||| BitVec.ofNat 64 (V*2^x)).toNat
theorem putW_lt (W x y V:Nat):putW W x y V<18446744073709551616:=BitVec.isLt _
theorem putW_bit {W x y V:Nat} (hW:W<18446744073709551616) (h:x+y≤64) (hV:V<2^y) (i:Nat):(putW W x y V).testBit i=if x≤i∧i<x+y then V.testBit (i-x) else W.testBit i:=by
 unfold putW
 rw [BitVec.testBit_toNat]
 simp only [BitVec.getLsbD_or,BitVec.getLsbD_and,BitVec.getLsbD_not,BitVec.getLsbD_ofNat,Nat.testBit_mul_two_pow,Nat.testBit_two_pow_sub_one]
 by_cases hi:i<64
 ·by_cases hx:x≤i
  ·by_cases hy:i-x<y
   ·have:x≤i∧i<x+y:=by omega
    simp [hi,hx,hy,this]
   ·have:¬(x≤i∧i<x+y):=by omega
    have hv:V.testBit (i-x)=false:=Nat.testBit_lt_two_pow (Nat.lt_of_lt_of_le hV (Nat.pow_le_pow_right (by omega) (by omega)))
    rw [if_neg this];simp [hi,hx,hy,hv]
  ·have:¬(x≤i∧i<x+y):=by omega
   rw [if_neg this];simp [hi,hx]
 ·have h2:W.testBit i=false:=Nat.testBit_lt_two_pow (Nat.lt_of_lt_of_le hW (by
   have:2^64≤2^i:=Nat.pow_le_pow_right (by omega) (by omega)
   omega))
  have:¬(x≤i∧i<x+y):=by omega
  rw [if_neg this];simp [hi,h2]
theorem half_Put_eq {W x y V:Nat} (h1:1≤y) (h:x+y≤64) (hV:V<2^y):half_Put (W:Int) (x:Int) (y:Int) (V:Int)=(((putW W x y V:Nat):Int),true):=by
 have hf:=half_field_true h1 h
 have hp:2^y≤2^64:=Nat.pow_le_pow_right (by omega) (by omega)
 have hpos:0<2^y:=Nat.pow_pos (by omega)
 unfold half_Put
 rw [hf,half_mask_eq (by omega)]
 have hd:decide ((V:Int)>((2^y-1:Nat):Int))=false:=by simp;omega
 rw [hd]
 simp only [jO,Bool.or_false,cond_false,iU,and_true]
 rw [min_toNat (by omega)]
 have e:∀n:Nat,n*2^x<18446744073709551616→iA IntKind.u64 ((n:Int)*2^x)=((n*2^x:Nat):Int):= λn hn=>by
  rw [show ((n:Int)*2^x)=((n*2^x:Nat):Int) by push_cast;rfl]
  exact wrap_u64_nat hn
 have b:∀n,n<2^y→n*2^x<18446744073709551616:= λn hn=>by
  have h2:n*2^x<2^y*2^x:=Nat.mul_lt_mul_of_pos_right hn (Nat.pow_pos (by omega))
  rw [←Nat.pow_add] at h2
  have h3:2^(y+x)≤2^64:=Nat.pow_le_pow_right (by omega) (by omega)
  omega
 rw [e _ (b _ (by omega)),e _ (b _ hV),ofInt_nat,ofInt_nat,ofInt_nat]
 have hand:(BitVec.ofNat 64 W &&& ~~~BitVec.ofNat 64 ((2^y-1)*2^x)).toNat<18446744073709551616:=BitVec.isLt _
 rw [wrap_u64_nat hand,ofInt_nat,BitVec.ofNat_toNat,BitVec.setWidth_eq]
 exact wrap_u64_nat (putW_lt W x y V)
theorem putW_add {W x y V:Nat} (hW:W<2^x) (h:x+y≤64) (hV:V<2^y):putW W x y V=V*2^x+W:=by
 have hW':W<18446744073709551616:=by
  have:2^x≤2^64:=Nat.pow_le_pow_right (by omega) (by omega)
  omega
 apply Nat.eq_of_testBit_eq
 intro i
 rw [putW_bit hW' h hV,Nat.mul_comm,Nat.testBit_two_pow_mul_add _ hW]
 by_cases hi:i<x
 ·rw [if_neg (by omega),if_pos hi]
 ·rw [if_neg hi]
  by_cases hy:i<x+y
  ·rw [if_pos (by omega)]
  ·rw [if_neg (by omega)]
   rw [Nat.testBit_lt_two_pow (Nat.lt_of_lt_of_le hW (Nat.pow_le_pow_right (by omega) (by omega))),
    Nat.testBit_lt_two_pow (Nat.lt_of_lt_of_le hV (Nat.pow_le_pow_right (by omega) (by omega)))]
theorem info_right_iff {k l c:Int}:info_right k l c=true↔(k=0∧l=0∧c=0)∨((k=1∨k=2)∧1≤l∧l≤1024∧c=0)∨(k=3∧l=1∧0≤c∧c≤8):=by
 unfold info_right
 by_cases h0:k=0
 ·subst h0;simp
 ·by_cases h3:k=3
  ·subst h3
   by_cases hc:c<0∨9≤c
   ·rcases hc with hc|hc<;>simp [hc]<;>omega
   ·simp [show ¬c<0 by omega,show ¬c≥9 by omega];omega
  ·by_cases h1:k=1
   ·subst h1;simp;omega
   ·by_cases h2:k=2
    ·subst h2;simp;omega
    ·simp [h0,h1,h2,h3]
theorem r09_Right_iff {k l c:Int}:r09_Right k l c=true↔(k=0∧l=0∧c=0)∨((k=1∨k=2)∧1≤l∧l≤1024∧c=0)∨(k=3∧l=1∧0≤c∧c≤8):=by
 unfold r09_Right
 by_cases h0:k=0
 ·subst h0;simp
 ·by_cases h1:k=1
  ·subst h1;simp;omega
  ·by_cases h2:k=2
   ·subst h2;simp;omega
   ·by_cases h3:k=3
    ·subst h3;simp;omega
    ·simp [h0,h1,h2,h3]
theorem right_same (k l c:Int):info_right k l c=r09_Right k l c:=by
 rw [Bool.eq_iff_iff,info_right_iff,r09_Right_iff]
theorem info_Put_eq {k l c:Int} (h:info_right k l c=true):info_Put k l c=(k+16*l+65536*c,true):=by
 have hr:=info_right_iff.1 h
 unfold info_Put
 rw [h]
 obtain ⟨K,rfl⟩:∃K:Nat,k=K:=⟨k.toNat,by omega⟩
 obtain ⟨L,rfl⟩:∃L:Nat,l=L:=⟨l.toNat,by omega⟩
 obtain ⟨C,rfl⟩:∃C:Nat,c=C:=⟨c.toNat,by omega⟩
 rw [wrap_u64_nat (by omega),wrap_u64_nat (by omega),wrap_u64_nat (by omega)]
 have e1:half_Put (K:Int) 4 12 (L:Int)=(((putW K 4 12 L:Nat):Int),true):=half_Put_eq (W:=K) (x:=4) (y:=12) (V:=L) (by omega) (by omega) (by omega)
 have e2:putW K 4 12 L=L*16+K:=putW_add (W:=K) (x:=4) (y:=12) (V:=L) (by omega) (by omega) (by omega)
 have e3:half_Put ((L*16+K:Nat):Int) 16 4 (C:Int)=(((putW (L*16+K) 16 4 C:Nat):Int),true):=half_Put_eq (W:=L*16+K) (x:=16) (y:=4) (V:=C) (by omega) (by omega) (by omega)
 have e4:putW (L*16+K) 16 4 C=C*65536+(L*16+K):=putW_add (W:=L*16+K) (x:=16) (y:=4) (V:=C) (by omega) (by omega) (by omega)
 rw [e1,e2]
 show (bif !true then _ else (half_Lo (half_Put ((L*16+K:Nat):Int) 16 4 (C:Int)).1,true))=_
 rw [e3,e4]
 refine Prod.ext ?_ rfl
 show iA iO _=_
 rw [wrap_u32_nat (by omega)]
 show _=(K:Int)+16*L+65536*C
 omega
theorem info_Put_no {k l c:Int} (h:info_right k l c=false):info_Put k l c=(0,false):=by unfold info_Put;rw [h];rfl
theorem Kt {k l c:Int} (h:info_right k l c=true):BO k l c=(k+16*l+65536*c,true):=by
 have hr:=info_right_iff.1 h
 unfold BO
 rw [←right_same,h]
 simp only [jO,cond_false,iU,and_true]
 rw [wrap_i64_id (n:=16*l) (by omega),wrap_i64_id (n:=65536*c) (by omega),wrap_i64_id (n:=k+16*l) (by omega),wrap_i64_id (by omega),IntKind.wrap_u32]
 omega
theorem Ku {k l c:Int} (h:info_right k l c=false):BO k l c=(0,false):=by unfold BO;rw [←right_same,h];rfl
theorem info_Get_eq {v:Int} (h0:0≤v) (hv:v<4294967296):info_Get v=bif info_right (v%16) (v/16%4096) (v/65536) then (v%16,v/16%4096,v/65536,true) else (0,0,0,false):=by
 obtain ⟨n,rfl⟩:∃n:Nat,v=n:=⟨v.toNat,by omega⟩
 have g1:half_Get (n:Int) 20 44=((n/2^20%2^44:Nat):Int):=half_Get_eq (W:=n) (x:=20) (y:=44) (by omega) (by omega) (by omega)
 have g2:half_Get (n:Int) 0 4=((n/2^0%2^4:Nat):Int):=half_Get_eq (W:=n) (x:=0) (y:=4) (by omega) (by omega) (by omega)
 have g3:half_Get (n:Int) 4 12=((n/2^4%2^12:Nat):Int):=half_Get_eq (W:=n) (x:=4) (y:=12) (by omega) (by omega) (by omega)
 have g4:half_Get (n:Int) 16 4=((n/2^16%2^4:Nat):Int):=half_Get_eq (W:=n) (x:=16) (y:=4) (by omega) (by omega) (by omega)
 have e1:((n/2^20%2^44:Nat):Int)=(n:Int)/1048576:=by omega
 have e2:((n/2^0%2^4:Nat):Int)=(n:Int)%16:=by omega
 have e3:((n/2^4%2^12:Nat):Int)=(n:Int)/16%4096:=by omega
 have e4:((n/2^16%2^4:Nat):Int)=(n:Int)/65536%16:=by omega
 rw [e1] at g1;rw [e2] at g2;rw [e3] at g3;rw [e4] at g4
 unfold info_Get
 rw [wrap_u64_nat (by omega),g1,g2,g3,g4,wrap_i64_id (n:=(n:Int)%16) (by omega),wrap_i64_id (n:=(n:Int)/16%4096) (by omega),wrap_i64_id (n:=(n:Int)/65536%16) (by omega)]
 by_cases hz:(n:Int)/1048576=0
 ·have:(n:Int)/65536%16=n/65536:=by omega
  rw [this,hz]
  cases info_right ((n:Int)%16) ((n:Int)/16%4096) ((n:Int)/65536)<;>rfl
 ·have hr:info_right ((n:Int)%16) ((n:Int)/16%4096) ((n:Int)/65536)=false:=by
   rw [Bool.eq_false_iff,Ne,info_right_iff];omega
  have hb:(((n:Int)/1048576) !=0)=true:=bne_iff_ne.2 hz
  rw [hr,hb]
  rfl
theorem r09_Get_eq {v:Int} (h0:0≤v) (hv:v<4294967296):r09_Get v=bif info_right (v%16) (v/16%4096) (v/65536) then (v%16,v/16%4096,v/65536,true) else (0,0,0,false):=by
 unfold r09_Get
 have t1:Int.tmod v 16=v%16:=Int.tmod_eq_emod_of_nonneg h0
 have t2:Int.tdiv v 16=v/16:=Int.tdiv_eq_ediv_of_nonneg h0
 have t3:Int.tdiv v 65536=v/65536:=Int.tdiv_eq_ediv_of_nonneg h0
 have t4:Int.tmod (v/16) 4096=v/16%4096:=Int.tmod_eq_emod_of_nonneg (by omega)
 have w1:iA iO (v/16)=v/16:=by rw [IntKind.wrap_u32];omega
 have w2:iA iO (v/65536)=v/65536:=by rw [IntKind.wrap_u32];omega
 rw [t1,t2,t3,w1,w2,t4,wrap_i64_id (n:=v%16) (by omega),wrap_i64_id (n:=v/16%4096) (by omega),wrap_i64_id (n:=v/65536) (by omega),←right_same]
 cases info_right (v%16) (v/16%4096) (v/65536)<;>rfl
theorem r04_Right_eq (t p s:Int):r04_Right t p s=Cf.ok ⟨t,p,s⟩:=by
 apply Bool.eq_iff_iff.2
 rw [Cf.ok_iff]
 simp only [r04_Right,iK,decide_eq_true_eq]
 omega
theorem lay_ok (t p s:Int):(place_lay t p s).2.2.2.2=Cf.ok ⟨t,p,s⟩∧(Cf.ok ⟨t,p,s⟩=true→(place_lay t p s).1=t∧(place_lay t p s).2.1=p):=by
 unfold place_lay
 rw [conf_Check_eq,r04_Right_eq]
 cases h:Cf.ok ⟨t,p,s⟩ with
 |true=>exact ⟨rfl, λ_=>⟨rfl,rfl⟩⟩
 |false=>exact ⟨rfl, λh=>by cases h⟩
theorem place_of_eq {t p s g k:Int} (hk:0≤k∧k≤5):place_of t p s g k=Cf.pc ⟨t,p,s⟩ g k:=by
 obtain ⟨h1,h2⟩:=lay_ok t p s
 unfold place_of Cf.pc Cf.page
 rw [h1]
 cases h:Cf.ok ⟨t,p,s⟩ with
 |false=>simp
 |true=>
  obtain ⟨e1,e2⟩:=h2 h
  rw [e1,e2]
  have:=Cf.ok_iff.1 h
  simp only at this
  by_cases hg:0≤g∧g<p
  ·have a1:decide (g<0)=false:=by simp;omega
   have a2:decide (g≥p)=false:=by simp;omega
   have a3:decide (0≤g)=true:=by simp;omega
   have a4:decide (g<p)=true:=by simp;omega
   simp only [a1,a2,a3,a4,jO,Bool.or_self,cond_false,Bool.and_self,cond_true]
   rw [w64 (n:=4*t) (by omega),w64 (n:=30+4*t) (by omega),w64 (n:=6*g) (by omega),w64 (n:=30+4*t+6*g) (by omega),w64 (by omega)]
  ·have a3:(decide (0≤g)&&decide (g<p))=false:=by simp;omega
   have a1:(!true||decide (g<0)||decide (g≥p))=true:=by simp;omega
   rw [a3,a1];simp
theorem r07_Page_eq {t p s g k:Int} (hk:0≤k∧k≤5):r07_Page t p s g k=Cf.pc ⟨t,p,s⟩ g k:=by
 unfold r07_Page Cf.pc Cf.page
 rw [r04_Right_eq]
 cases h:Cf.ok ⟨t,p,s⟩ with
 |false=>simp
 |true=>
  have:=Cf.ok_iff.1 h
  simp only at this
  by_cases hg:0≤g∧g<p
  ·have a1:decide (g<0)=false:=by simp;omega
   have a2:decide (g≥p)=false:=by simp;omega
   have a3:decide (0≤g)=true:=by simp;omega
   have a4:decide (g<p)=true:=by simp;omega
   simp only [a1,a2,a3,a4,jO,Bool.or_self,cond_false,Bool.and_self,cond_true]
   rw [w64 (n:=4*t) (by omega),w64 (n:=30+4*t) (by omega),w64 (n:=6*g) (by omega),w64 (n:=30+4*t+6*g) (by omega),w64 (by omega)]
  ·have a3:(decide (0≤g)&&decide (g<p))=false:=by simp;omega
   have a1:(!true||decide (g<0)||decide (g≥p))=true:=by simp;omega
   rw [a3,a1];simp
theorem place_Info_eq (t p s g:Int):place_Info t p s g=Cf.info ⟨t,p,s⟩ g:=place_of_eq (by omega)
theorem place_Foot_eq (t p s g:Int):place_Foot t p s g=Cf.foot ⟨t,p,s⟩ g:=place_of_eq (by omega)
theorem place_Next_eq (t p s g:Int):place_Next t p s g=Cf.next ⟨t,p,s⟩ g:=place_of_eq (by omega)
theorem place_Prev_eq (t p s g:Int):place_Prev t p s g=Cf.prev ⟨t,p,s⟩ g:=place_of_eq (by omega)
theorem r07_Info_eq (t p s g:Int):r07_Info t p s g=Cf.info ⟨t,p,s⟩ g:=r07_Page_eq (by omega)
theorem r07_Foot_eq (t p s g:Int):r07_Foot t p s g=Cf.foot ⟨t,p,s⟩ g:=r07_Page_eq (by omega)
theorem r07_Next_eq (t p s g:Int):r07_Next t p s g=Cf.next ⟨t,p,s⟩ g:=r07_Page_eq (by omega)
theorem r07_Prev_eq (t p s g:Int):r07_Prev t p s g=Cf.prev ⟨t,p,s⟩ g:=r07_Page_eq (by omega)
theorem place_Bin_eq (k:Int):place_Bin k=cBin k:=by
 unfold place_Bin place_within cBin
 by_cases hg:0≤k∧k<11
 ·have a1:(decide (k<0)||decide (k≥11))=false:=by simp;omega
  have a2:(decide (0≤k)&&decide (k<11))=true:=by simp;omega
  rw [a1,a2,w64 (by omega)];rfl
 ·have a1:(decide (k<0)||decide (k≥11))=true:=by simp;omega
  have a2:(decide (0≤k)&&decide (k<11))=false:=by simp;omega
  rw [a1,a2];rfl
theorem r07_Bin_eq (k:Int):r07_Bin k=cBin k:=by
 unfold r07_Bin cBin
 by_cases hg:0≤k∧k<11
 ·have a1:(decide (k<0)||decide (k>10))=false:=by simp;omega
  have a2:(decide (0≤k)&&decide (k<11))=true:=by simp;omega
  rw [a1,a2,w64 (by omega)];rfl
 ·have a1:(decide (k<0)||decide (k>10))=true:=by simp;omega
  have a2:(decide (0≤k)&&decide (k<11))=false:=by simp;omega
  rw [a1,a2];rfl
theorem r07_Root_eq (k:Int):r07_Root k=cRoot k:=by
 unfold r07_Root cRoot
 by_cases hg:0≤k∧k<8
 ·have a1:(decide (k<0)||decide (k>7))=false:=by simp;omega
  have a2:(decide (0≤k)&&decide (k<8))=true:=by simp;omega
  rw [a1,a2,w64 (by omega)];rfl
 ·have a1:(decide (k<0)||decide (k>7))=true:=by simp;omega
  have a2:(decide (0≤k)&&decide (k<8))=false:=by simp;omega
  rw [a1,a2];rfl
theorem iRight_eq (k l c:Int):info_right k l c=iRight k l c:=by
 apply Bool.eq_iff_iff.2
 rw [info_right_iff]
 unfold iRight
 by_cases h0:k=0
 ·subst h0;simp
 ·by_cases h1:k=1
  ·subst h1;simp [and_assoc]
  ·by_cases h2:k=2
   ·subst h2;simp [and_assoc]
   ·by_cases h3:k=3
    ·subst h3;simp
    ·simp [h0,h1,h2,h3]
theorem info_Put_val (k l c:Int):(info_Put k l c).1=iVal k l c:=by
 unfold iVal
 rw [←iRight_eq]
 cases h:info_right k l c with
 |true=>rw [info_Put_eq h];rfl
 |false=>rw [info_Put_no h];rfl
theorem r09_Value_eq (k l c:Int):BX k l c=iVal k l c:=by
 unfold BX iVal
 rw [←iRight_eq]
 cases h:info_right k l c with
 |true=>rw [Kt h];rfl
 |false=>rw [Ku h];rfl
theorem iVal_bd (k l c:Int):bd32 (iVal k l c):=by
 unfold iVal
 cases h:iRight k l c with
 |false=>exact (⟨by decide,by decide⟩:(0:Int)≤0∧(0:Int)<4294967296)
 |true=>
  rw [←iRight_eq,info_right_iff] at h
  simp only [cond_true]
  unfold bd32
  omega
theorem info_Get_i {v:Int} (h:bd32 v):(info_Get v).1=(iGet v).k∧(info_Get v).2.1=(iGet v).l∧(info_Get v).2.2.1=(iGet v).c:=by
 rw [info_Get_eq h.1 h.2]
 unfold iGet
 rw [←iRight_eq]
 cases info_right (v%16) (v/16%4096) (v/65536)<;>exact ⟨rfl,rfl,rfl⟩
theorem r09_Get_i {v:Int} (h:bd32 v):(r09_Get v).1=(iGet v).k∧(r09_Get v).2.1=(iGet v).l∧(r09_Get v).2.2.1=(iGet v).c:=by
 rw [r09_Get_eq h.1 h.2]
 unfold iGet
 rw [←iRight_eq]
 cases info_right (v%16) (v/16%4096) (v/65536)<;>exact ⟨rfl,rfl,rfl⟩
theorem iGet_right (v:Int):iRight (iGet v).k (iGet v).l (iGet v).c=true:=by
 unfold iGet
 cases h:iRight (v%16) (v/16%4096) (v/65536) with
 |true=>exact h
 |false=>rfl
theorem iGet_cases (v:Int):((iGet v).k=0∧(iGet v).l=0∧(iGet v).c=0)∨(((iGet v).k=1∨(iGet v).k=2)∧1≤(iGet v).l∧(iGet v).l≤1024∧(iGet v).c=0)∨((iGet v).k=3∧(iGet v).l=1∧0≤(iGet v).c∧(iGet v).c≤8):=by
 have:=iGet_right v
 rw [←iRight_eq,info_right_iff] at this
 exact this
def lenN (n:Nat):Int:=if n=0 then 0 else (Nat.log2 n:Int)+1
theorem lenN_tab:∀i:Fin 256,sAt SlLow_bytes0 (i.val:Int)=lenN i.val:=by decide+kernel
theorem lenN_div {n k:Nat} (h:2^k≤n):lenN n=lenN (n/2^k)+k:=by
 induction k generalizing n with
 |zero=>simp
 |succ k ih=>
  have hp:0<2^k:=Nat.pow_pos (by decide)
  rw [Nat.pow_succ] at h
  have h1:2^k≤n/2:=by omega
  have h2:=ih h1
  have e:n/2^(k+1)=n/2/2^k:=by rw [Nat.pow_succ,Nat.mul_comm,Nat.div_div_eq_div_mul]
  rw [e]
  have h3:lenN n=lenN (n/2)+1:=by
   unfold lenN
   rw [if_neg (by omega),if_neg (by omega),Nat.log2_def,if_pos (by omega)]
   push_cast;rfl
  rw [h3,h2];push_cast;omega
theorem tab_eq {z:Int} (h0:0≤z) (h1:z<256):sAt SlLow_bytes0 (iA IntKind.u8 z)=lenN z.toNat:=by
 have e:iA IntKind.u8 z=z:=by rw [IntKind.wrap_u8];omega
 rw [e]
 obtain ⟨m,rfl⟩:∃m:Nat,z=m:=⟨z.toNat,by omega⟩
 rw [jP]
 exact lenN_tab ⟨m,by omega⟩
theorem fdiv_nat (z:Int) (k:Nat) (h0:0≤z) (hk:0<k):Int.fdiv z (k:Int)=((z.toNat/k:Nat):Int):=by
 rw [Int.fdiv_eq_ediv_of_nonneg _ (by omega)]
 obtain ⟨m,rfl⟩:∃m:Nat,z=m:=⟨z.toNat,by omega⟩
 simp
theorem lenN_le {n:Nat}:lenN n≤n∧0≤lenN n:=by
 unfold lenN
 split
 ·omega
 ·have:= @Nat.log2_lt n n (by omega)
  have h:=this.2 Nat.lt_two_pow_self
  omega
theorem lenN_b {n k:Nat} (h:n<2^k):lenN n≤k:=by
 unfold lenN
 split
 ·omega
 ·have:=(@Nat.log2_lt n k (by omega)).2 h
  omega
theorem len64_tail {c x:Int} {n:Nat} (hx:x=(n:Int)) (hn:n<65536) (hc:0≤c∧c≤48):
 (bif decide (x≥256) then iA iB ((c+8)+iA iB (sAt SlLow_bytes0 (iA IntKind.u8 (Int.fdiv x 256)))) else iA iB (c+iA iB (sAt SlLow_bytes0 (iA IntKind.u8 x))))=c+lenN n:=by
 subst hx
 have hb:=lenN_b (n:=n) (k:=16) (by omega)
 have hb0:=(lenN_le (n:=n)).2
 by_cases h:256≤n
 ·have e:decide ((n:Int)≥256)=true:=by simp;omega
  rw [e,cond_true]
  have e2:Int.fdiv (n:Int) 256=((n/256:Nat):Int):=fdiv_nat (n:Int) 256 (by omega) (by decide)
  rw [e2,tab_eq (by omega) (by omega)]
  have e3:((n/256:Nat):Int).toNat=n/256:=by omega
  rw [e3]
  have h8:=lenN_div (n:=n) (k:=8) (by omega)
  have hb2:=(lenN_le (n:=n/256)).2
  have:(2:Nat)^8=256:=rfl
  rw [this] at h8
  rw [w64 (n:=lenN (n/256)) (by omega),w64 (by omega)]
  omega
 ·have e:decide ((n:Int)≥256)=false:=by simp;omega
  rw [e,cond_false,tab_eq (by omega) (by omega),jP,w64 (n:=lenN n) (by omega),w64 (by omega)]
theorem bits_Len64_eq {x:Int} (h0:0≤x) (h1:x<18446744073709551616):bits_Len64 x=lenN x.toNat:=by
 obtain ⟨n,rfl⟩:∃n:Nat,x=n:=⟨x.toNat,by omega⟩
 rw [jP]
 unfold bits_Len64
 have f32:∀m:Nat,Int.fdiv (m:Int) 4294967296=((m/4294967296:Nat):Int):= λm=>fdiv_nat (m:Int) 4294967296 (by omega) (by decide)
 have f16:∀m:Nat,Int.fdiv (m:Int) 65536=((m/65536:Nat):Int):= λm=>fdiv_nat (m:Int) 65536 (by omega) (by decide)
 by_cases hA:4294967296≤n
 ·have e:decide ((n:Int)≥4294967296)=true:=by simp;omega
  rw [e,cond_true,f32]
  have h32:=lenN_div (n:=n) (k:=32) (by omega)
  have:(2:Nat)^32=4294967296:=rfl
  rw [this] at h32
  generalize hm:n/4294967296=m at*
  have hmb:m<4294967296:=by omega
  by_cases hB:65536≤m
  ·have e:decide ((m:Int)≥65536)=true:=by simp;omega
   rw [e,cond_true,f16]
   have h16:=lenN_div (n:=m) (k:=16) (by omega)
   have:(2:Nat)^16=65536:=rfl
   rw [this] at h16
   have:=len64_tail (c:=48) (x:=((m/65536:Nat):Int)) rfl (by omega) (by omega)
   rw [h32,h16]
   exact this.trans (by push_cast;omega)
  ·have e:decide ((m:Int)≥65536)=false:=by simp;omega
   rw [e,cond_false]
   have:=len64_tail (c:=32) (x:=(m:Int)) rfl (by omega) (by omega)
   rw [h32]
   exact this.trans (by push_cast;omega)
 ·have e:decide ((n:Int)≥4294967296)=false:=by simp;omega
  rw [e,cond_false]
  by_cases hB:65536≤n
  ·have e:decide ((n:Int)≥65536)=true:=by simp;omega
   rw [e,cond_true,f16]
   have h16:=lenN_div (n:=n) (k:=16) (by omega)
   have:(2:Nat)^16=65536:=rfl
   rw [this] at h16
   have:=len64_tail (c:=16) (x:=((n/65536:Nat):Int)) rfl (by omega) (by omega)
   rw [h16]
   exact this.trans (by push_cast;omega)
  ·have e:decide ((n:Int)≥65536)=false:=by simp;omega
   rw [e,cond_false]
   have:=len64_tail (c:=0) (x:=(n:Int)) rfl (by omega) (by omega)
   have h2:=this.trans (Int.zero_add _)
   rw [←h2]
   by_cases h8:256≤n
   ·have e:decide ((n:Int)≥256)=true:=by simp;omega
    rw [e];rfl
   ·have e:decide ((n:Int)≥256)=false:=by simp;omega
    rw [e];simp
theorem half_Log_eq {n:Int} (h:n≤9223372036854775807):half_Log n=logI n:=by
 unfold half_Log
 by_cases h1:n<1
 ·rw [logI_lt h1];simp [h1]
 ·have e:decide (n<1)=false:=by simp;omega
  rw [e,cond_false,wu64 (by omega),bits_Len64_eq (by omega) (by omega)]
  unfold lenN logI
  rw [if_neg (by omega),if_neg (by omega),w64]
  ·omega
  ·have:=(@Nat.log2_lt n.toNat 63 (by omega)).2 (by omega)
   omega
end
section
open Go.Sl
def link_page (s:VS) (t p h hd g:Int):Bool:=decide (g≥(0:Int))&&decide (g<p)
def link_page_out (r_:Bool):List Value→Value:= λss=> .bool (r_)
def link_page_nw (p_0:Addr) (s:VS) (r_:Bool):List (Chunk Sg):=[.obj p_0 (.view s)]
def link_page_rows (r_:Bool):List (Mk Sg):=[]
section
variable (s:VS) (t p h hd g:Int) (p_0:Addr)
theorem link_page_calls {E_:Ev} {G_:Hp} {w_:World} (hS:Sat E_ G_ w_ [Dg p_0 ((.view s))]):Calls Tryz.prog 133 #[(.agg #[.pointer (some p_0), .int .i64 t, .int .i64 p, .int .i64 h, .int .i64 hd]),(.int .i64 g)] w_ (Post Dg E_ G_ (link_page_out (link_page s t p h hd g)) (link_page_nw p_0 s (link_page s t p h hd g)) (link_page_rows (link_page s t p h hd g))):=
 calls_post Dg T_r01_Log_ok (I:=[]) Tryz.func133 mix (B:=bodyOf Tryz.f133) (by kernel_rfl) [(.agg #[.pointer (some p_0), .int .i64 t, .int .i64 p, .int .i64 h, .int .i64 hd]),(.int .i64 g)] [.many [.pt 0 .obj, .no, .no, .no, .no], .no] (by kernel_rfl) (objs:=[.obj p_0 (.view s)]) (ros:=[]) (psOk_cons (by simp [pOk,psOk,cOk]) (psOk_cons pOk_no (psOk_nil))) (by kernel_rfl) (trivial) hS 400
  (t:=Tree.fresh λb=>Tree.ret (Value.bool (decide (g≥(0:Int))&&decide (g<p))) pn_ [Chunk.obj p_0 (Sg.view s),kc_ b 161 [(iT (some p_0),po_ 0),(vi_ t,pn_),(vi_ p,pn_),(vi_ h,pn_),(vi_ hd,pn_)]])
  (by kernel_rfl)
  (λb0_0=>RetOk.at (outf:=link_page_out) (nwf:=link_page_nw p_0 _) (rowsf:=link_page_rows) (r:=decide (g≥(0:Int))&&decide (g<p)) (by first|exact Eq.symm rfl|(simp only [link_page,cond_true,cond_false];done)|(exfalso;simp_all;done)|decide) ⟨[],[0],(by decide),rfl,rfl,⟨.inl rfl,trivial⟩⟩)
end
def link_page_e:Entry Sg:= λ
 |[(.agg ⟨[.pointer (some p_0), .int .i64 t, .int .i64 p, .int .i64 h, .int .i64 hd]⟩, .many [.obj (.view s), .none, .none, .none, .none]),(.int .i64 g,_)]=>some ⟨(link_page s t p h hd g), λ(r_:Bool)=>⟨[],none,[], λss=> .bool (r_), λk_=> .no⟩⟩
 |_=>none
theorem link_page_ok:EntryOk Dg Tryz.prog 133 link_page_e:=by
 intro args c r h hr_
 unfold link_page_e at h
 split at h
 ·injection h with h;subst h;subst hr_
  refine ⟨λK acs _=>pOk_no, λhpre E G w hi hS=>?_⟩
  exact entry_post Dg (by exact rfl) (link_page_calls _ _ _ _ _ _ _ hS)
 ·cases h
def T_link_page:List (Nat×Entry Sg):=(133,link_page_e)::T_r01_Log
theorem T_link_page_ok:TableOk Dg Tryz.prog T_link_page:=TableOk.cons Dg link_page_ok T_r01_Log_ok
def link_next (s:VS) (t p h hd g:Int):Int:=place_Next t p h g
def link_next_out (r_:Int):List Value→Value:= λss=> .int .i64 (r_)
def link_next_nw (p_0:Addr) (s:VS) (r_:Int):List (Chunk Sg):=[.obj p_0 (.view s)]
def link_next_rows (r_:Int):List (Mk Sg):=[]
section
variable (s:VS) (t p h hd g:Int) (p_0:Addr)
theorem link_next_calls {E_:Ev} {G_:Hp} {w_:World} (hS:Sat E_ G_ w_ [Dg p_0 ((.view s))]):Calls Tryz.prog 134 #[(.agg #[.pointer (some p_0), .int .i64 t, .int .i64 p, .int .i64 h, .int .i64 hd]),(.int .i64 g)] w_ (Post Dg E_ G_ (link_next_out (link_next s t p h hd g)) (link_next_nw p_0 s (link_next s t p h hd g)) (link_next_rows (link_next s t p h hd g))):=
 calls_post Dg T_link_page_ok (I:=[]) Tryz.func134 mix (B:=bodyOf Tryz.f134) (by kernel_rfl) [(.agg #[.pointer (some p_0), .int .i64 t, .int .i64 p, .int .i64 h, .int .i64 hd]),(.int .i64 g)] [.many [.pt 0 .obj, .no, .no, .no, .no], .no] (by kernel_rfl) (objs:=[.obj p_0 (.view s)]) (ros:=[]) (psOk_cons (by simp [pOk,psOk,cOk]) (psOk_cons pOk_no (psOk_nil))) (by kernel_rfl) (trivial) hS 400
  (t:=Tree.fresh λb=>Tree.ret (vi_ (place_Next t p h g)) pn_ [Chunk.obj p_0 (Sg.view s),kc_ b 161 [(iT (some p_0),po_ 0),(vi_ t,pn_),(vi_ p,pn_),(vi_ h,pn_),(vi_ hd,pn_)]])
  (by kernel_rfl)
  (λb0_0=>RetOk.at (outf:=link_next_out) (nwf:=link_next_nw p_0 _) (rowsf:=link_next_rows) (r:=place_Next t p h g) (by first|exact Eq.symm rfl|(simp only [link_next,cond_true,cond_false];done)|(exfalso;simp_all;done)|decide) ⟨[],[0],(by decide),rfl,rfl,⟨.inl rfl,trivial⟩⟩)
end
def link_next_e:Entry Sg:= λ
 |[(.agg ⟨[.pointer (some p_0), .int .i64 t, .int .i64 p, .int .i64 h, .int .i64 hd]⟩, .many [.obj (.view s), .none, .none, .none, .none]),(.int .i64 g,_)]=>some ⟨(link_next s t p h hd g), λ(r_:Int)=>⟨[],none,[], λss=> .int .i64 (r_), λk_=> .no⟩⟩
 |_=>none
theorem link_next_ok:EntryOk Dg Tryz.prog 134 link_next_e:=by
 intro args c r h hr_
 unfold link_next_e at h
 split at h
 ·injection h with h;subst h;subst hr_
  refine ⟨λK acs _=>pOk_no, λhpre E G w hi hS=>?_⟩
  exact entry_post Dg (by exact rfl) (link_next_calls _ _ _ _ _ _ _ hS)
 ·cases h
def T_link_next:List (Nat×Entry Sg):=(134,link_next_e)::T_link_page
theorem T_link_next_ok:TableOk Dg Tryz.prog T_link_next:=TableOk.cons Dg link_next_ok T_link_page_ok
def link_prev (s:VS) (t p h hd g:Int):Int:=place_Prev t p h g
def link_prev_out (r_:Int):List Value→Value:= λss=> .int .i64 (r_)
def link_prev_nw (p_0:Addr) (s:VS) (r_:Int):List (Chunk Sg):=[.obj p_0 (.view s)]
def link_prev_rows (r_:Int):List (Mk Sg):=[]
section
variable (s:VS) (t p h hd g:Int) (p_0:Addr)
theorem link_prev_calls {E_:Ev} {G_:Hp} {w_:World} (hS:Sat E_ G_ w_ [Dg p_0 ((.view s))]):Calls Tryz.prog 135 #[(.agg #[.pointer (some p_0), .int .i64 t, .int .i64 p, .int .i64 h, .int .i64 hd]),(.int .i64 g)] w_ (Post Dg E_ G_ (link_prev_out (link_prev s t p h hd g)) (link_prev_nw p_0 s (link_prev s t p h hd g)) (link_prev_rows (link_prev s t p h hd g))):=
 calls_post Dg T_link_next_ok (I:=[]) Tryz.func135 mix (B:=bodyOf Tryz.f135) (by kernel_rfl) [(.agg #[.pointer (some p_0), .int .i64 t, .int .i64 p, .int .i64 h, .int .i64 hd]),(.int .i64 g)] [.many [.pt 0 .obj, .no, .no, .no, .no], .no] (by kernel_rfl) (objs:=[.obj p_0 (.view s)]) (ros:=[]) (psOk_cons (by simp [pOk,psOk,cOk]) (psOk_cons pOk_no (psOk_nil))) (by kernel_rfl) (trivial) hS 400
  (t:=Tree.fresh λb=>Tree.ret (vi_ (place_Prev t p h g)) pn_ [Chunk.obj p_0 (Sg.view s),kc_ b 161 [(iT (some p_0),po_ 0),(vi_ t,pn_),(vi_ p,pn_),(vi_ h,pn_),(vi_ hd,pn_)]])
  (by kernel_rfl)
  (λb0_0=>RetOk.at (outf:=link_prev_out) (nwf:=link_prev_nw p_0 _) (rowsf:=link_prev_rows) (r:=place_Prev t p h g) (by first|exact Eq.symm rfl|(simp only [link_prev,cond_true,cond_false];done)|(exfalso;simp_all;done)|decide) ⟨[],[0],(by decide),rfl,rfl,⟨.inl rfl,trivial⟩⟩)
end
def link_prev_e:Entry Sg:= λ
 |[(.agg ⟨[.pointer (some p_0), .int .i64 t, .int .i64 p, .int .i64 h, .int .i64 hd]⟩, .many [.obj (.view s), .none, .none, .none, .none]),(.int .i64 g,_)]=>some ⟨(link_prev s t p h hd g), λ(r_:Int)=>⟨[],none,[], λss=> .int .i64 (r_), λk_=> .no⟩⟩
 |_=>none
theorem link_prev_ok:EntryOk Dg Tryz.prog 135 link_prev_e:=by
 intro args c r h hr_
 unfold link_prev_e at h
 split at h
 ·injection h with h;subst h;subst hr_
  refine ⟨λK acs _=>pOk_no, λhpre E G w hi hS=>?_⟩
  exact entry_post Dg (by exact rfl) (link_prev_calls _ _ _ _ _ _ _ hS)
 ·cases h
def T_link_prev:List (Nat×Entry Sg):=(135,link_prev_e)::T_link_next
theorem T_link_prev_ok:TableOk Dg Tryz.prog T_link_prev:=TableOk.cons Dg link_prev_ok T_link_next_ok
def link_to (q:Int):Int:=iA iB (iA iB q-(1:Int))
def link_to_out (r_:Int):List Value→Value:= λss=> .int .i64 (r_)
def link_to_nw (r_:Int):List (Chunk Sg):=[]
def link_to_rows (r_:Int):List (Mk Sg):=[]
section
variable (q:Int)
theorem link_to_calls {E_:Ev} {G_:Hp} {w_:World} (hS:Sat E_ G_ w_ []):Calls Tryz.prog 136 #[(.int .u32 q)] w_ (Post Dg E_ G_ (link_to_out (link_to q)) (link_to_nw (link_to q)) (link_to_rows (link_to q))):=
 calls_post Dg T_link_prev_ok (I:=[]) Tryz.func136 mix (B:=bodyOf Tryz.f136) (by kernel_rfl) [(.int .u32 q)] [.no] (by kernel_rfl) (objs:=[]) (ros:=[]) (psOk_cons pOk_no (psOk_nil)) (by kernel_rfl) (trivial) hS 400
  (t:=Tree.ret (vi_ (iA iB (iA iB q-(1:Int)))) pn_ [])
  (by kernel_rfl)
  (RetOk.at (outf:=link_to_out) (nwf:=link_to_nw) (rowsf:=link_to_rows) (r:=iA iB (iA iB q-(1:Int))) (by first|exact Eq.symm rfl|(simp only [link_to,cond_true,cond_false];done)|(exfalso;simp_all;done)|decide) ⟨[],[],(by decide),rfl,rfl,trivial⟩)
end
def link_to_e:Entry Sg:= λ
 |[(.int .u32 q,_)]=>some ⟨(link_to q), λ(r_:Int)=>⟨[],none,[], λss=> .int .i64 (r_), λk_=> .no⟩⟩
 |_=>none
theorem link_to_ok:EntryOk Dg Tryz.prog 136 link_to_e:=by
 intro args c r h hr_
 unfold link_to_e at h
 split at h
 ·injection h with h;subst h;subst hr_
  refine ⟨λK acs _=>pOk_no, λhpre E G w hi hS=>?_⟩
  exact entry_post Dg (by exact rfl) (link_to_calls _ hS)
 ·cases h
def T_link_to:List (Nat×Entry Sg):=(136,link_to_e)::T_link_prev
theorem T_link_to_ok:TableOk Dg Tryz.prog T_link_to:=TableOk.cons Dg link_to_ok T_link_prev_ok
end
section
open Go.Sl
theorem wu32_bd (x:Int):bd32 (iA iO x):=by
 rw [IntKind.wrap_u32]
 exact ⟨by omega,by omega⟩
theorem zero_bd:bd32 0:=⟨by decide,by decide⟩
theorem wrapu_nv (x:Int):iA iO x=nv x:=by rw [IntKind.wrap_u32];rfl
theorem w64g (s:VS) (i:Int):iA iB (s.get i)=s.get i:=by
 have:=s.get_bd i
 exact w64 (by omega)
theorem w64g1 (s:VS) (i:Int):iA iB (s.get i-1)=s.get i-1:=by
 have:=s.get_bd i
 exact w64 (by omega)
theorem nvw (g:Int):nv (iA iB (g+1))=nv (g+1):=by rw [IntKind.wrap_i64];unfold nv;omega
theorem nvw2 (g:Int):nv (nv g+1)=nv (g+1):=by unfold nv;omega
theorem page_ne (t p h g:Int):(decide (g<0)||decide (g≥p))=!Cf.page ⟨t,p,h⟩ g:=by
 apply Bool.eq_iff_iff.2
 simp only [Cf.page,Bool.or_eq_true,decide_eq_true_eq,jB,Bool.and_eq_false_iff,decide_eq_false_iff_not]
 omega
theorem page_in (t p h g n:Int) (hp:p≤9223372036854775807):(!Cf.page ⟨t,p,h⟩ g||decide (n<1)||decide (n>iA iB (p-g)))=!(Cf.page ⟨t,p,h⟩ g&&(decide (1≤n)&&decide (n≤p-g))):=by
 cases hc:Cf.page ⟨t,p,h⟩ g with
 |false=>rfl
 |true=>
  simp only [Cf.page,iK,decide_eq_true_eq] at hc
  rw [w64 (n:=p-g) (by omega)]
  apply Bool.eq_iff_iff.2
  simp only [jO,jY,jV,Bool.or_eq_true,decide_eq_true_eq,jB,Bool.and_eq_false_iff,decide_eq_false_iff_not]
  omega
theorem infoG (s:VS) (i:Int):(info_Get (s.get i)).1=(iGet (s.get i)).k∧(info_Get (s.get i)).2.1=(iGet (s.get i)).l∧(info_Get (s.get i)).2.2.1=(iGet (s.get i)).c:=info_Get_i (VS.get_bd s i)
theorem infoG1 (s:VS) (i:Int):(info_Get (s.get i)).1=(iGet (s.get i)).k:=(infoG s i).1
theorem infoG2 (s:VS) (i:Int):(info_Get (s.get i)).2.1=(iGet (s.get i)).l:=(infoG s i).2.1
theorem infoG3 (s:VS) (i:Int):(info_Get (s.get i)).2.2.1=(iGet (s.get i)).c:=(infoG s i).2.2
theorem rinfoG (s:VS) (i:Int):(r09_Get (s.get i)).1=(iGet (s.get i)).k∧(r09_Get (s.get i)).2.1=(iGet (s.get i)).l∧(r09_Get (s.get i)).2.2.1=(iGet (s.get i)).c:=r09_Get_i (VS.get_bd s i)
theorem rinfoG1 (s:VS) (i:Int):(r09_Get (s.get i)).1=(iGet (s.get i)).k:=(rinfoG s i).1
theorem rinfoG2 (s:VS) (i:Int):(r09_Get (s.get i)).2.1=(iGet (s.get i)).l:=(rinfoG s i).2.1
theorem rinfoG3 (s:VS) (i:Int):(r09_Get (s.get i)).2.2.1=(iGet (s.get i)).c:=(rinfoG s i).2.2
theorem link_page_eq (s:VS) (t p h hd g:Int):link_page s t p h hd g=Cf.page ⟨t,p,h⟩ g:=rfl
def link_Push (s:VS) (t p h hd g:Int):VS:=((pPush ⟨t,p,h⟩ hd g).run s).1
abbrev c_link_Push:Ct Sg:=⟨some wView,false,[.agg [.i .i64, .i .i64, .i .i64], .i .i64, .i .i64], .skip⟩
def e_link_Push:Entry Sg:=entC c_link_Push link_Push (λ_ _ _ _ _ _=>[])
abbrev Hu (r10:VS) (hd g:Int) (R_:VS→Prop):Prop:=(∀r12:VS,r12=(VS.set r10 hd (iA iO (iA iB (g+1))))→(aw_ (bd32 (iA iO (iA iB (g+1)))) (R_ (r12))))
def link_Push_w (s:VS) (t p h hd g:Int) (R_:VS→Prop):Prop:=(∀r2:Bool,r2=(link_page s t p h hd g)→(bw_ (!r2) (R_ (s)) (∀r4:VS×Int,r4=((VS.read s hd,VS.get s hd))→(∀r5:VS,r5=(VS.set r4.1 (link_next r4.1 t p h hd g) r4.2)→(aw_ (bd32 r4.2) (∀r7:VS,r7=(VS.set r5 (link_prev r5 t p h hd g) 0)→(aw_ (bd32 0) (bw_ (r4.2 !=0) (∀r10:VS,r10=(VS.set r7 (link_prev r7 t p h hd (link_to r4.2)) (iA iO (iA iB (g+1))))→(aw_ (bd32 (iA iO (iA iB (g+1)))) (Hu r10 hd g R_))) (Hu r7 hd g R_)))))))))
theorem link_Push_begin (s:VS) (t p h hd g:Int):link_Push_w s t p h hd g (λr__=>r__=(link_Push s t p h hd g)):=by
 unfold link_Push_w Hu
 repeat' first
  |(refine λr hr=>?_;subst hr)
  |refine ⟨(by first|exact wu32_bd _|exact VS.get_bd _ _|exact zero_bd|exact iVal_bd _ _ _|exact nv_bd _|(rw [info_Put_val];exact iVal_bd _ _ _)|(rw [r09_Value_eq];exact iVal_bd _ _ _)|assumption|omega), λ_=>?_⟩
  |refine ⟨λhc=>?_, λhc=>?_⟩
  |(refine λhr=>?_;subst hr)
  |fail
 all_goals
  simp only [link_page_eq,page_ne t p h,link_next,link_prev,place_Next_eq,place_Prev_eq,r07_Next_eq,r07_Prev_eq,link_to,w64g,w64g1,wrapu_nv,nvw,nvw2,bne,jB,jF,reduceCtorEq] at*
 all_goals
  skip
 all_goals
  simp only [link_Push,pPush,Pg.run_get,Pg.run_put,Pg.run_ret,Pg.run_bind,Pg.run_cond,gt_iff_lt,cond_true,cond_false, *]
 all_goals
  try rfl
theorem link_Push_ok:EOk 98 e_link_Push:=
 ent_w0 Dg T_link_to_ok (I:=[2999998]) Tryz.func98 mix (B:=bodyOf Tryz.f98) (by kernel_rfl) rfl (by kernel_rfl) 400
  λ_ s t p h hd g hb hp=>⟨_, λ_ _ _=>by kernel_rfl,link_Push_begin s t p h hd g⟩
def T_link_Push:Tb:=(98,e_link_Push)::T_link_to
theorem T_link_Push_ok:TOk T_link_Push:=tc_ link_Push_ok T_link_to_ok
def link_Pull (s:VS) (t p h hd g:Int):VS:=((pPull ⟨t,p,h⟩ hd g).run s).1
abbrev c_link_Pull:Ct Sg:=⟨some wView,false,[.agg [.i .i64, .i .i64, .i .i64], .i .i64, .i .i64], .skip⟩
def e_link_Pull:Entry Sg:=entC c_link_Pull link_Pull (λ_ _ _ _ _ _=>[])
abbrev Dw (r10:VS) (t p h hd g:Int) (R_:VS→Prop):Prop:=(∀r12:VS,r12=(VS.set r10 (link_next r10 t p h hd g) 0)→(aw_ (bd32 0) (∀r14:VS,r14=(VS.set r12 (link_prev r12 t p h hd g) 0)→(aw_ (bd32 0) (R_ (r14))))))
def link_Pull_w (s:VS) (t p h hd g:Int) (R_:VS→Prop):Prop:=(∀r2:Bool,r2=(link_page s t p h hd g)→(bw_ (!r2) (R_ (s)) (∀r4:VS×Int,r4=((VS.read s (link_next s t p h hd g),VS.get s (link_next s t p h hd g)))→(∀r5:VS×Int,r5=((VS.read r4.1 (link_prev r4.1 t p h hd g),VS.get r4.1 (link_prev r4.1 t p h hd g)))→(bw_ (r5.2==0) (∀r7:VS,r7=(VS.set r5.1 hd r4.2)→(aw_ (bd32 r4.2) (bw_ (r4.2 !=0) (∀r10:VS,r10=(VS.set r7 (link_prev r7 t p h hd (link_to r4.2)) r5.2)→(aw_ (bd32 r5.2) (Dw r10 t p h hd g R_))) (Dw r7 t p h hd g R_)))) (∀r7:VS,r7=(VS.set r5.1 (link_next r5.1 t p h hd (link_to r5.2)) r4.2)→(aw_ (bd32 r4.2) (bw_ (r4.2 !=0) (∀r10:VS,r10=(VS.set r7 (link_prev r7 t p h hd (link_to r4.2)) r5.2)→(aw_ (bd32 r5.2) (Dw r10 t p h hd g R_))) (Dw r7 t p h hd g R_)))))))))
theorem link_Pull_begin (s:VS) (t p h hd g:Int):link_Pull_w s t p h hd g (λr__=>r__=(link_Pull s t p h hd g)):=by
 unfold link_Pull_w Dw
 repeat' first
  |(refine λr hr=>?_;subst hr)
  |refine ⟨(by first|exact wu32_bd _|exact VS.get_bd _ _|exact zero_bd|exact iVal_bd _ _ _|exact nv_bd _|(rw [info_Put_val];exact iVal_bd _ _ _)|(rw [r09_Value_eq];exact iVal_bd _ _ _)|assumption|omega), λ_=>?_⟩
  |refine ⟨λhc=>?_, λhc=>?_⟩
  |(refine λhr=>?_;subst hr)
  |fail
 all_goals
  simp only [link_page_eq,page_ne t p h,link_next,link_prev,place_Next_eq,place_Prev_eq,r07_Next_eq,r07_Prev_eq,link_to,w64g,w64g1,wrapu_nv,nvw,nvw2,bne,jB,jF,reduceCtorEq] at*
 all_goals
  skip
 all_goals
  simp only [link_Pull,pPull,Pg.run_get,Pg.run_put,Pg.run_ret,Pg.run_bind,Pg.run_cond,gt_iff_lt,cond_true,cond_false, *]
 all_goals
  try rfl
theorem link_Pull_ok:EOk 99 e_link_Pull:=
 ent_w0 Dg T_link_Push_ok (I:=[2999998]) Tryz.func99 mix (B:=bodyOf Tryz.f99) (by kernel_rfl) rfl (by kernel_rfl) 400
  λ_ s t p h hd g hb hp=>⟨_, λ_ _ _=>by kernel_rfl,link_Pull_begin s t p h hd g⟩
def T_link_Pull:Tb:=(99,e_link_Pull)::T_link_Push
theorem T_link_Pull_ok:TOk T_link_Pull:=tc_ link_Pull_ok T_link_Push_ok
def BA (s:VS) (t p h hd g:Int):VS:=((pPush ⟨t,p,h⟩ hd g).run s).1
abbrev Kv:Ct Sg:=⟨some Ap,false,[.agg [.i .i64, .i .i64, .i .i64], .i .i64, .i .i64], .skip⟩
def Gs:Entry Sg:=entC Kv BA (λ_ _ _ _ _ _=>[])
abbrev CG (r7:VS) (r10 g:Int):=(VS.set r7 r10 (iA iO (iA iO g+1)))
def Gt (s:VS) (t p h hd g:Int) (R_:VS→Prop):Prop:=(bw_ (decide (g<0)||decide (g≥p)) (R_ (s)) (∀r2:VS×Int,r2=((VS.read s hd,VS.get s hd))→(∀r3:Int,r3=(r07_Next t p h g)→(∀r4:VS,r4=(VS.set r2.1 r3 r2.2)→(aw_ (bd32 r2.2) (∀r6:Int,r6=(r07_Prev t p h g)→(∀r7:VS,r7=(VS.set r4 r6 0)→(aw_ (bd32 0) (bw_ (r2.2 !=0) (∀r10:Int,r10=(r07_Prev t p h (iA iB (iA iB r2.2-1)))→(∀r11:VS,r11=(CG r7 r10 g)→(aw_ (bd32 (iA iO (iA iO g+1))) (∀r13:VS,r13=(CG r11 hd g)→(aw_ (bd32 (iA iO (iA iO g+1))) (R_ (r13))))))) (∀r10:VS,r10=(CG r7 hd g)→(aw_ (bd32 (iA iO (iA iO g+1))) (R_ (r10)))))))))))))
theorem Hw (s:VS) (t p h hd g:Int):Gt s t p h hd g (λr__=>r__=(BA s t p h hd g)):=by
 unfold Gt CG
 repeat' first
  |(refine λr hr=>?_;subst hr)
  |refine ⟨(by first|exact wu32_bd _|exact VS.get_bd _ _|exact zero_bd|exact iVal_bd _ _ _|exact nv_bd _|(rw [info_Put_val];exact iVal_bd _ _ _)|(rw [r09_Value_eq];exact iVal_bd _ _ _)|assumption|omega), λ_=>?_⟩
  |refine ⟨λhc=>?_, λhc=>?_⟩
  |(refine λhr=>?_;subst hr)
  |fail
 all_goals
  simp only [link_page_eq,page_ne t p h,link_next,link_prev,place_Next_eq,place_Prev_eq,r07_Next_eq,r07_Prev_eq,link_to,w64g,w64g1,wrapu_nv,nvw,nvw2,bne,jB,jF,reduceCtorEq] at*
 all_goals
  skip
 all_goals
  simp only [BA,pPush,Pg.run_get,Pg.run_put,Pg.run_ret,Pg.run_bind,Pg.run_cond,gt_iff_lt,cond_true,cond_false, *]
 all_goals
  try rfl
theorem J6:EOk 85 Gs:=
 ent_w0 Dg T_link_Pull_ok (I:=[2999998]) Tryz.func85 mix (B:=bodyOf Tryz.f85) (by kernel_rfl) rfl (by kernel_rfl) 400
  λ_ s t p h hd g hb hp=>⟨_, λ_ _ _=>by kernel_rfl,Hw s t p h hd g⟩
def Gu:Tb:=(85,Gs)::T_link_Pull
theorem DI:TOk Gu:=tc_ J6 T_link_Pull_ok
def BB (s:VS) (t p h hd g:Int):VS:=((pPull ⟨t,p,h⟩ hd g).run s).1
abbrev Kw:Ct Sg:=⟨some Ap,false,[.agg [.i .i64, .i .i64, .i .i64], .i .i64, .i .i64], .skip⟩
def Gv:Entry Sg:=entC Kw BB (λ_ _ _ _ _ _=>[])
abbrev Hy (t p h g:Int) (r11:VS) (R_:VS→Prop):Prop:=(∀r13:Int,r13=(r07_Next t p h g)→(∀r14:VS,r14=(VS.set r11 r13 0)→(aw_ (bd32 0) (∀r16:Int,r16=(r07_Prev t p h g)→(∀r17:VS,r17=(VS.set r14 r16 0)→(aw_ (bd32 0) (R_ (r17))))))))
abbrev Hz (r5:VS×Int) (hd:Int) (r3:VS×Int) (t p h g:Int) (R_:VS→Prop):Prop:=(∀r7:VS,r7=(VS.set r5.1 hd r3.2)→(aw_ (bd32 r3.2) (bw_ (r3.2 !=0) (∀r10:Int,r10=(r07_Prev t p h (iA iB (iA iB r3.2-1)))→(∀r11:VS,r11=(VS.set r7 r10 r5.2)→(aw_ (bd32 r5.2) (Hy t p h g r11 R_)))) (Hy t p h g r7 R_))))
def Gw (s:VS) (t p h hd g:Int) (R_:VS→Prop):Prop:=(bw_ (decide (g<0)||decide (g≥p)) (R_ (s)) (∀r2:Int,r2=(r07_Next t p h g)→(∀r3:VS×Int,r3=((VS.read s r2,VS.get s r2))→(∀r4:Int,r4=(r07_Prev t p h g)→(∀r5:VS×Int,r5=((VS.read r3.1 r4,VS.get r3.1 r4))→(bw_ (r5.2==0) (Hz r5 hd r3 t p h g R_) (∀r7:Int,r7=(r07_Next t p h (iA iB (iA iB r5.2-1)))→(Hz r5 r7 r3 t p h g R_))))))))
theorem H5 (s:VS) (t p h hd g:Int):Gw s t p h hd g (λr__=>r__=(BB s t p h hd g)):=by
 unfold Gw Hz Hy
 repeat' first
  |(refine λr hr=>?_;subst hr)
  |refine ⟨(by first|exact wu32_bd _|exact VS.get_bd _ _|exact zero_bd|exact iVal_bd _ _ _|exact nv_bd _|(rw [info_Put_val];exact iVal_bd _ _ _)|(rw [r09_Value_eq];exact iVal_bd _ _ _)|assumption|omega), λ_=>?_⟩
  |refine ⟨λhc=>?_, λhc=>?_⟩
  |(refine λhr=>?_;subst hr)
  |fail
 all_goals
  simp only [link_page_eq,page_ne t p h,link_next,link_prev,place_Next_eq,place_Prev_eq,r07_Next_eq,r07_Prev_eq,link_to,w64g,w64g1,wrapu_nv,nvw,nvw2,bne,jB,jF,reduceCtorEq] at*
 all_goals
  skip
 all_goals
  simp only [BB,pPull,Pg.run_get,Pg.run_put,Pg.run_ret,Pg.run_bind,Pg.run_cond,gt_iff_lt,cond_true,cond_false, *]
 all_goals
  try rfl
theorem J7:EOk 89 Gv:=
 ent_w0 Dg DI (I:=[2999998]) Tryz.func89 mix (B:=bodyOf Tryz.f89) (by kernel_rfl) rfl (by kernel_rfl) 400
  λ_ s t p h hd g hb hp=>⟨_, λ_ _ _=>by kernel_rfl,H5 s t p h hd g⟩
def Gx:Tb:=(89,Gv)::Gu
theorem DJ:TOk Gx:=tc_ J7 DI
def bin_Of (n:Int):Int:=binOf n
def bin_Of_v (n:Int):Int:=(bif decide (n>1024) then (-1) else half_Log n)
abbrev c_bin_Of:Ct Sg:=⟨none,false,[.i .i64], .i .i64⟩
def e_bin_Of:Entry Sg:=entC c_bin_Of bin_Of (λ_=>[])
theorem bin_Of_eq (n:Int):bin_Of_v n=(bin_Of n):=by
 unfold bin_Of_v bin_Of binOf
 by_cases hn:n>1024
 ·simp [hn]
 ·have e:decide (n>1024)=false:=by simpa using hn
  rw [e];exact half_Log_eq (by omega)
theorem bin_Of_ok:EOk 171 e_bin_Of:=
 ent_ok Dg DJ (I:=[]) Tryz.func171 mix (B:=bodyOf Tryz.f171) (by kernel_rfl) rfl (by kernel_rfl) 400
  λ_ n hb hp=>⟨(bin_Of_v n), .t, λ_ _ _=>by kernel_rfl,trivial,bin_Of_eq n⟩
def T_bin_Of:Tb:=(171,e_bin_Of)::Gx
theorem T_bin_Of_ok:TOk T_bin_Of:=tc_ bin_Of_ok DJ
def Bc (n:Int):Int:=binOf n
abbrev Lm:Ct Sg:=⟨none,false,[.i .i64], .i .i64⟩
def Jm:Entry Sg:=entC Lm Bc (λ_=>[])
def Jn (n:Int) (R_:Int→Prop):Prop:=(bw_ (decide (n<1)||decide (n>1024)) (R_ ((-1))) (∀r1:Int,r1=(r01_Log n)→(aw_ (n≤9223372036854775807) (R_ (r1)))))
theorem Jo (n:Int):Jn n (λr__=>r__=(Bc n)):=by
 unfold Jn
 refine ⟨λhc=>?_, λhc r hr=>?_⟩
 ·show (-1:Int)=binOf n
  unfold binOf
  simp only [Bool.or_eq_true,decide_eq_true_eq] at hc
  by_cases hn:n>1024
  ·simp [hn]
  ·have e:decide (n>1024)=false:=by simpa using hn
   rw [e,cond_false,logI_lt (by omega)]
 ·subst hr
  simp only [jI,decide_eq_false_iff_not] at hc
  refine ⟨by omega, λ_=>?_⟩
  show r01_Log n=binOf n
  unfold binOf r01_Log
  have e:decide (n>1024)=false:=by simpa using hc.2
  rw [e];rfl
theorem KY:EOk 163 Jm:=
 ent_w0 Dg T_bin_Of_ok (I:=[2999998]) Tryz.func163 mix (B:=bodyOf Tryz.f163) (by kernel_rfl) rfl (by kernel_rfl) 400
  λ_ n hb hp=>⟨_, λ_ _ _=>by kernel_rfl,Jo n⟩
def Jp:Tb:=(163,Jm)::T_bin_Of
theorem Fg:TOk Jp:=tc_ KY T_bin_Of_ok
def bin_page (t p h g:Int):Bool:=Cf.page ⟨t,p,h⟩ g
def bin_page_v (t p h g:Int):Bool:=decide (g≥0)&&decide (g<p)
abbrev c_bin_page:Ct Sg:=⟨none,false,[.agg [.i .i64, .i .i64, .i .i64], .i .i64], .b⟩
def e_bin_page:Entry Sg:=entC c_bin_page bin_page (λ_ _ _ _=>[])
theorem bin_page_eq (t p h g:Int):bin_page_v t p h g=(bin_page t p h g):=by
 rfl
theorem bin_page_ok:EOk 169 e_bin_page:=
 ent_ok Dg Fg (I:=[]) Tryz.func169 mix (B:=bodyOf Tryz.f169) (by kernel_rfl) rfl (by kernel_rfl) 400
  λ_ t p h g hb hp=>⟨(bin_page_v t p h g), .t, λ_ _ _=>by kernel_rfl,trivial,bin_page_eq t p h g⟩
def T_bin_page:Tb:=(169,e_bin_page)::Jp
theorem T_bin_page_ok:TOk T_bin_page:=tc_ bin_page_ok Fg
def bin_Add (s:VS) (t p h g n:Int):VS:=((pAdd ⟨t,p,h⟩ g n).run s).1
abbrev c_bin_Add:Ct Sg:=⟨some wView,false,[.agg [.i .i64, .i .i64, .i .i64], .i .i64, .i .i64], .skip⟩
def e_bin_Add:Entry Sg:=entC c_bin_Add bin_Add (λs t p h g n=>[p≤1024])
def bin_Add_w (s:VS) (t p h g n:Int) (R_:VS→Prop):Prop:=(∀r1:Bool,r1=(bin_page t p h g)→(bw_ (!r1||decide (n<1)||decide (n>iA iB (p-g))) (R_ (s)) (∀r3:Int×Bool,r3=(info_Put 1 n 0)→(∀r4:Int,r4=(place_Info t p h g)→(∀r5:VS,r5=(VS.set s r4 r3.1)→(aw_ (bd32 r3.1) (∀r7:Int,r7=(place_Foot t p h (iA iB (iA iB (g+n)-1)))→(∀r8:VS,r8=(VS.set r5 r7 (iA iO (iA iB (g+1))))→(aw_ (bd32 (iA iO (iA iB (g+1)))) (∀r10:VS,r10=(link_Push r8 t p h (place_Bin (bin_Of n)) g)→(R_ (r10))))))))))))
theorem bin_Add_begin (s:VS) (t p h g n:Int) (hp0:p≤1024):bin_Add_w s t p h g n (λr__=>r__=(bin_Add s t p h g n)):=by
 unfold bin_Add_w
 repeat' first
  |(refine λr hr=>?_;subst hr)
  |refine ⟨(by first|exact wu32_bd _|exact VS.get_bd _ _|exact zero_bd|exact iVal_bd _ _ _|exact nv_bd _|(rw [info_Put_val];exact iVal_bd _ _ _)|(rw [r09_Value_eq];exact iVal_bd _ _ _)|assumption|omega), λ_=>?_⟩
  |refine ⟨λhc=>?_, λhc=>?_⟩
  |(refine λhr=>?_;subst hr)
  |fail
 all_goals
  simp only [link_page_eq,page_ne t p h,link_next,link_prev,place_Next_eq,place_Prev_eq,r07_Next_eq,r07_Prev_eq,link_to,w64g,w64g1,wrapu_nv,nvw,nvw2,bin_page,place_Info_eq,place_Foot_eq,r07_Info_eq,r07_Foot_eq,place_Bin_eq,r07_Bin_eq,info_Put_val,r09_Value_eq,bin_Of,Bc,infoG1,infoG2,infoG3,rinfoG1,rinfoG2,rinfoG3,gt_iff_lt,page_in t p h g n (by omega),link_Push,bne,jB,jF,reduceCtorEq] at*
 all_goals
  skip
  try (have hx:=hc;simp only [iK,decide_eq_true_eq,Cf.page] at hx;rw [w64 (n:=g+n) (by omega),w64 (n:=g+n-1) (by omega)];clear hx)
 all_goals
  simp only [bin_Add,pAdd,Pg.run_get,Pg.run_put,Pg.run_ret,Pg.run_bind,Pg.run_cond,gt_iff_lt,cond_true,cond_false, *]
 all_goals
  try rfl
theorem bin_Add_ok:EOk 140 e_bin_Add:=
 ent_w0 Dg T_bin_page_ok (I:=[2999998]) Tryz.func140 mix (B:=bodyOf Tryz.f140) (by kernel_rfl) rfl (by kernel_rfl) 400
  λ_ s t p h g n hb hp=>⟨_, λ_ _ _=>by kernel_rfl,bin_Add_begin s t p h g n (hp _ (.head _))⟩
def T_bin_Add:Tb:=(140,e_bin_Add)::T_bin_page
theorem T_bin_Add_ok:TOk T_bin_Add:=tc_ bin_Add_ok T_bin_page_ok
def bin_free (s:VS) (t p h g:Int):VS×Int:=(pFree ⟨t,p,h⟩ g).run s
abbrev c_bin_free:Ct Sg:=⟨some wView,false,[.agg [.i .i64, .i .i64, .i .i64], .i .i64], .i .i64⟩
def e_bin_free:Entry Sg:=entC c_bin_free bin_free (λ_ _ _ _ _=>[])
def bin_free_w (s:VS) (t p h g:Int) (R_:VS×Int→Prop):Prop:=(∀r1:Int,r1=(place_Info t p h g)→(∀r2:VS×Int,r2=((VS.read s r1,VS.get s r1))→(∀r3:Int×Int×Int×Bool,r3=(info_Get r2.2)→(bw_ (r3.1 !=1) (R_ ((r2.1,0))) (R_ ((r2.1,r3.2.1)))))))
theorem bin_free_begin (s:VS) (t p h g:Int):bin_free_w s t p h g (λr__=>r__=(bin_free s t p h g)):=by
 unfold bin_free_w
 repeat' first
  |(refine λr hr=>?_;subst hr)
  |refine ⟨(by first|exact wu32_bd _|exact VS.get_bd _ _|exact zero_bd|exact iVal_bd _ _ _|exact nv_bd _|(rw [info_Put_val];exact iVal_bd _ _ _)|(rw [r09_Value_eq];exact iVal_bd _ _ _)|assumption|omega), λ_=>?_⟩
  |refine ⟨λhc=>?_, λhc=>?_⟩
  |(refine λhr=>?_;subst hr)
  |fail
 all_goals
  simp only [link_page_eq,page_ne t p h,link_next,link_prev,place_Next_eq,place_Prev_eq,r07_Next_eq,r07_Prev_eq,link_to,w64g,w64g1,wrapu_nv,nvw,nvw2,bin_page,place_Info_eq,place_Foot_eq,r07_Info_eq,r07_Foot_eq,place_Bin_eq,r07_Bin_eq,info_Put_val,r09_Value_eq,bin_Of,Bc,infoG1,infoG2,infoG3,rinfoG1,rinfoG2,rinfoG3,gt_iff_lt,bne,jB,jF,reduceCtorEq] at*
 all_goals
  skip
 all_goals
  simp only [bin_free,pFree,Pg.run_get,Pg.run_put,Pg.run_ret,Pg.run_bind,Pg.run_cond,gt_iff_lt,cond_true,cond_false, *]
 all_goals
  try rfl
theorem bin_free_ok:EOk 190 e_bin_free:=
 ent_w0 Dg T_bin_Add_ok (I:=[2999998]) Tryz.func190 mix (B:=bodyOf Tryz.f190) (by kernel_rfl) rfl (by kernel_rfl) 400
  λ_ s t p h g hb hp=>⟨_, λ_ _ _=>by kernel_rfl,bin_free_begin s t p h g⟩
def T_bin_free:Tb:=(190,e_bin_free)::T_bin_Add
theorem T_bin_free_ok:TOk T_bin_free:=tc_ bin_free_ok T_bin_Add_ok
def bin_Drop (s:VS) (t p h g:Int):VS×Int:=(pDrop ⟨t,p,h⟩ g).run s
abbrev c_bin_Drop:Ct Sg:=⟨some wView,false,[.agg [.i .i64, .i .i64, .i .i64], .i .i64], .i .i64⟩
def e_bin_Drop:Entry Sg:=entC c_bin_Drop bin_Drop (λ_ _ _ _ _=>[])
def bin_Drop_w (s:VS) (t p h g:Int) (R_:VS×Int→Prop):Prop:=(∀r1:Bool,r1=(bin_page t p h g)→(bw_ (!r1) (R_ ((s,0))) (∀r3:VS×Int,r3=(bin_free s t p h g)→(bw_ (decide (r3.2>0)) (∀r5:VS,r5=(link_Pull r3.1 t p h (place_Bin (bin_Of r3.2)) g)→(R_ ((r5,r3.2)))) (R_ ((r3.1,r3.2)))))))
theorem bin_Drop_begin (s:VS) (t p h g:Int):bin_Drop_w s t p h g (λr__=>r__=(bin_Drop s t p h g)):=by
 unfold bin_Drop_w
 repeat' first
  |(refine λr hr=>?_;subst hr)
  |refine ⟨(by first|exact wu32_bd _|exact VS.get_bd _ _|exact zero_bd|exact iVal_bd _ _ _|exact nv_bd _|(rw [info_Put_val];exact iVal_bd _ _ _)|(rw [r09_Value_eq];exact iVal_bd _ _ _)|assumption|omega), λ_=>?_⟩
  |refine ⟨λhc=>?_, λhc=>?_⟩
  |(refine λhr=>?_;subst hr)
  |fail
 all_goals
  simp only [link_page_eq,page_ne t p h,link_next,link_prev,place_Next_eq,place_Prev_eq,r07_Next_eq,r07_Prev_eq,link_to,w64g,w64g1,wrapu_nv,nvw,nvw2,bin_page,place_Info_eq,place_Foot_eq,r07_Info_eq,r07_Foot_eq,place_Bin_eq,r07_Bin_eq,info_Put_val,r09_Value_eq,bin_Of,Bc,infoG1,infoG2,infoG3,rinfoG1,rinfoG2,rinfoG3,gt_iff_lt,link_Pull,bin_free,bne,jB,jF,reduceCtorEq] at*
 all_goals
  skip
 all_goals
  simp only [bin_Drop,pDrop,Pg.run_get,Pg.run_put,Pg.run_ret,Pg.run_bind,Pg.run_cond,gt_iff_lt,cond_true,cond_false, *]
 all_goals
  try rfl
theorem bin_Drop_ok:EOk 168 e_bin_Drop:=
 ent_w0 Dg T_bin_free_ok (I:=[2999998]) Tryz.func168 mix (B:=bodyOf Tryz.f168) (by kernel_rfl) rfl (by kernel_rfl) 400
  λ_ s t p h g hb hp=>⟨_, λ_ _ _=>by kernel_rfl,bin_Drop_begin s t p h g⟩
def T_bin_Drop:Tb:=(168,e_bin_Drop)::T_bin_free
theorem T_bin_Drop_ok:TOk T_bin_Drop:=tc_ bin_Drop_ok T_bin_free_ok
def Az (s:VS) (t p h g:Int):VS×Int×Int×Int:=(pInfo ⟨t,p,h⟩ g).run s
abbrev Ky:Ct Sg:=⟨some Ap,false,[.agg [.i .i64, .i .i64, .i .i64], .i .i64], .agg [.i .i64, .i .i64, .i .i64]⟩
def Gy:Entry Sg:=entC Ky Az (λ_ _ _ _ _=>[])
def Gz (s:VS) (t p h g:Int) (R_:VS×Int×Int×Int→Prop):Prop:=(∀r2:Int,r2=(r07_Info t p h g)→(∀r3:VS×Int,r3=((VS.read s r2,VS.get s r2))→(∀r4:Int×Int×Int×Bool,r4=(r09_Get r3.2)→(R_ ((r3.1,r4.1,r4.2.1,r4.2.2.1))))))
theorem H6 (s:VS) (t p h g:Int):Gz s t p h g (λr__=>r__=(Az s t p h g)):=by
 unfold Gz
 repeat' first
  |(refine λr hr=>?_;subst hr)
  |refine ⟨(by first|exact wu32_bd _|exact VS.get_bd _ _|exact zero_bd|exact iVal_bd _ _ _|exact nv_bd _|(rw [info_Put_val];exact iVal_bd _ _ _)|(rw [r09_Value_eq];exact iVal_bd _ _ _)|assumption|omega), λ_=>?_⟩
  |refine ⟨λhc=>?_, λhc=>?_⟩
  |(refine λhr=>?_;subst hr)
  |fail
 all_goals
  simp only [link_page_eq,page_ne t p h,link_next,link_prev,place_Next_eq,place_Prev_eq,r07_Next_eq,r07_Prev_eq,link_to,w64g,w64g1,wrapu_nv,nvw,nvw2,bin_page,place_Info_eq,place_Foot_eq,r07_Info_eq,r07_Foot_eq,place_Bin_eq,r07_Bin_eq,info_Put_val,r09_Value_eq,bin_Of,Bc,infoG1,infoG2,infoG3,rinfoG1,rinfoG2,rinfoG3,gt_iff_lt,bne,jB,jF,reduceCtorEq] at*
 all_goals
  skip
 all_goals
  simp only [Az,pInfo,Pg.run_get,Pg.run_put,Pg.run_ret,Pg.run_bind,Pg.run_cond,gt_iff_lt,cond_true,cond_false, *]
 all_goals
  try rfl
theorem J8:EOk 62 Gy:=
 ent_w0 Dg T_bin_Drop_ok (I:=[2999998]) Tryz.func62 mix (B:=bodyOf Tryz.f62) (by kernel_rfl) rfl (by kernel_rfl) 400
  λ_ s t p h g hb hp=>⟨_, λ_ _ _=>by kernel_rfl,H6 s t p h g⟩
def G5:Tb:=(62,Gy)::T_bin_Drop
theorem DK:TOk G5:=tc_ J8 T_bin_Drop_ok
def AU (s:VS) (t p h g n:Int):VS:=((pAdd ⟨t,p,h⟩ g n).run s).1
abbrev KZ:Ct Sg:=⟨some Ap,false,[.agg [.i .i64, .i .i64, .i .i64], .i .i64, .i .i64], .skip⟩
def IA:Entry Sg:=entC KZ AU (λs t p h g n=>[p≤1024])
def IB (s:VS) (t p h g n:Int) (R_:VS→Prop):Prop:=(bw_ (decide (g<0)||decide (g≥p)||decide (n<1)||decide (n>iA iB (p-g))) (R_ (s)) (∀r2:Int,r2=(r07_Info t p h g)→(∀r3:Int,r3=(BX 1 n 0)→(∀r4:VS,r4=(VS.set s r2 r3)→(aw_ (bd32 r3) (∀r6:Int,r6=(r07_Foot t p h (iA iB (iA iB (g+n)-1)))→(∀r7:VS,r7=(CG r4 r6 g)→(aw_ (bd32 (iA iO (iA iO g+1))) (∀r9:VS,r9=(BA r7 t p h (r07_Bin (Bc n)) g)→(R_ (r9)))))))))))
theorem IX (s:VS) (t p h g n:Int) (hp0:p≤1024):IB s t p h g n (λr__=>r__=(AU s t p h g n)):=by
 unfold IB CG
 repeat' first
  |(refine λr hr=>?_;subst hr)
  |refine ⟨(by first|exact wu32_bd _|exact VS.get_bd _ _|exact zero_bd|exact iVal_bd _ _ _|exact nv_bd _|(rw [info_Put_val];exact iVal_bd _ _ _)|(rw [r09_Value_eq];exact iVal_bd _ _ _)|assumption|omega), λ_=>?_⟩
  |refine ⟨λhc=>?_, λhc=>?_⟩
  |(refine λhr=>?_;subst hr)
  |fail
 all_goals
  simp only [link_page_eq,page_ne t p h,link_next,link_prev,place_Next_eq,place_Prev_eq,r07_Next_eq,r07_Prev_eq,link_to,w64g,w64g1,wrapu_nv,nvw,nvw2,bin_page,place_Info_eq,place_Foot_eq,r07_Info_eq,r07_Foot_eq,place_Bin_eq,r07_Bin_eq,info_Put_val,r09_Value_eq,bin_Of,Bc,infoG1,infoG2,infoG3,rinfoG1,rinfoG2,rinfoG3,gt_iff_lt,page_in t p h g n (by omega),BA,bne,jB,jF,reduceCtorEq] at*
 all_goals
  skip
  try (have hx:=hc;simp only [iK,decide_eq_true_eq,Cf.page] at hx;rw [w64 (n:=g+n) (by omega),w64 (n:=g+n-1) (by omega)];clear hx)
 all_goals
  simp only [AU,pAdd,Pg.run_get,Pg.run_put,Pg.run_ret,Pg.run_bind,Pg.run_cond,gt_iff_lt,cond_true,cond_false, *]
 all_goals
  try rfl
theorem KA:EOk 126 IA:=
 ent_w0 Dg DK (I:=[2999998]) Tryz.func126 mix (B:=bodyOf Tryz.f126) (by kernel_rfl) rfl (by kernel_rfl) 400
  λ_ s t p h g n hb hp=>⟨_, λ_ _ _=>by kernel_rfl,IX s t p h g n (hp _ (.head _))⟩
def IC:Tb:=(126,IA)::G5
theorem EF:TOk IC:=tc_ KA DK
def Bj (s:VS) (t p h g:Int):VS×Int:=(pDrop ⟨t,p,h⟩ g).run s
abbrev KC:Ct Sg:=⟨some Ap,false,[.agg [.i .i64, .i .i64, .i .i64], .i .i64], .i .i64⟩
def G6:Entry Sg:=entC KC Bj (λ_ _ _ _ _=>[])
def G7 (s:VS) (t p h g:Int) (R_:VS×Int→Prop):Prop:=(bw_ (decide (g<0)||decide (g≥p)) (R_ ((s,0))) (∀r2:VS×Int×Int×Int,r2=(Az s t p h g)→(bw_ (r2.2.1 !=1) (R_ ((r2.1,0))) (∀r5:VS,r5=(BB r2.1 t p h (r07_Bin (Bc r2.2.2.1)) g)→(R_ ((r5,r2.2.2.1)))))))
theorem H7 (s:VS) (t p h g:Int):G7 s t p h g (λr__=>r__=(Bj s t p h g)):=by
 unfold G7
 repeat' first
  |(refine λr hr=>?_;subst hr)
  |refine ⟨(by first|exact wu32_bd _|exact VS.get_bd _ _|exact zero_bd|exact iVal_bd _ _ _|exact nv_bd _|(rw [info_Put_val];exact iVal_bd _ _ _)|(rw [r09_Value_eq];exact iVal_bd _ _ _)|assumption|omega), λ_=>?_⟩
  |refine ⟨λhc=>?_, λhc=>?_⟩
  |(refine λhr=>?_;subst hr)
  |fail
 all_goals
  simp only [link_page_eq,page_ne t p h,link_next,link_prev,place_Next_eq,place_Prev_eq,r07_Next_eq,r07_Prev_eq,link_to,w64g,w64g1,wrapu_nv,nvw,nvw2,bin_page,place_Info_eq,place_Foot_eq,r07_Info_eq,r07_Foot_eq,place_Bin_eq,r07_Bin_eq,info_Put_val,r09_Value_eq,bin_Of,Bc,infoG1,infoG2,infoG3,rinfoG1,rinfoG2,rinfoG3,gt_iff_lt,BB,Az,pInfo,Pg.run_get,Pg.run_ret,bne,jB,jF,reduceCtorEq] at*
 all_goals
  skip
 all_goals
  simp only [Bj,pDrop,pFree,pInfo,Pg.run_get,Pg.run_put,Pg.run_ret,Pg.run_bind,Pg.run_cond,gt_iff_lt,cond_true,cond_false, *]
 all_goals
  try rfl
  try (
   have hi:=iGet_cases (s.get (Cf.info ⟨t,p,h⟩ g))
   have e:decide (0<(iGet (s.get (Cf.info ⟨t,p,h⟩ g))).l)=true:=by
    simp only [beq_iff_eq] at hc
    simp only [decide_eq_true_eq];omega
   simp only [e,cond_true])
  try rfl
theorem J9:EOk 124 G6:=
 ent_w0 Dg EF (I:=[2999998]) Tryz.func124 mix (B:=bodyOf Tryz.f124) (by kernel_rfl) rfl (by kernel_rfl) 400
  λ_ s t p h g hb hp=>⟨_, λ_ _ _=>by kernel_rfl,H7 s t p h g⟩
def G8:Tb:=(124,G6)::IC
theorem DN:TOk G8:=tc_ J9 EF
end
section
open Go.Sl
theorem binOf_e (n:Int):bin_Of n=binOf n:=rfl
theorem free_e (s:VS) (t p h g:Int):bin_free s t p h g=(pFree ⟨t,p,h⟩ g).run s:=rfl
theorem n_in (n p:Int):(decide (1≤n)&&decide (n≤p))=!(decide (n<1)||decide (n>p)):=by
 apply Bool.eq_iff_iff.2
 simp only [iK,decide_eq_true_eq,jB,jI,decide_eq_false_iff_not]
 omega
theorem binOf_ge (n:Int): -1≤binOf n:=by
 unfold binOf
 cases decide (n>1024) with
 |true=>exact Int.le_refl _
 |false=>exact logI_ge n
theorem binOf_le (n:Int):binOf n≤10:=by
 unfold binOf
 cases h:decide (n>1024) with
 |true=>exact (by decide:(-1:Int)≤10)
 |false=>
  have:n<2^11:=by
   have h':¬n>1024:=by simpa using h
   have:(2:Int)^11=2048:=by decide
   omega
  exact logI_le 11 n this
def bin_first (s:VS) (t p sh n:Int):VS×Int×Bool:=(Pg.get (cBin (binOf n)) λq=>pFirst ⟨t,p,sh⟩ n p.toNat (q-1)).run s
abbrev c_bin_first:Ct Sg:=⟨some wView,false,[.agg [.i .i64, .i .i64, .i .i64], .i .i64], .tup [.i .i64, .b]⟩
def e_bin_first:Entry Sg:=entC c_bin_first bin_first (λs t p sh n=>[p≤9223372036854775807])
def bin_first_w (s:VS) (t p sh n:Int) (Q0:VS→Int→Int→Prop) (R_:VS×Int×Bool→Prop):Prop:=(∀r1:VS×Int,r1=((VS.read s (place_Bin (bin_Of n)),VS.get s (place_Bin (bin_Of n))))→(Q0 r1.1 (0) (iA iB (iA iB r1.2-1))))
def bin_first_w0 (s:VS) (t p sh n:Int) (sv:VS) (i g:Int) (Q0:VS→Int→Int→Prop) (R_:VS×Int×Bool→Prop):Prop:=(bw_ (decide (i<p)) (bw_ (!bin_page t p sh g) (R_ ((sv,0,false))) (∀r2:VS×Int,r2=(bin_free sv t p sh g)→(bw_ (decide (r2.2≥n)) (R_ ((r2.1,g,true))) (∀r4:VS×Int,r4=((VS.read r2.1 (place_Next t p sh g),VS.get r2.1 (place_Next t p sh g)))→(Q0 r4.1 (iA iB (i+1)) (iA iB (iA iB r4.2-1))))))) (R_ ((sv,0,false))))
def bin_first_I0 (s:VS) (t p sh n:Int) (sv:VS) (i g:Int) (r_:VS×Int×Bool):Prop:=0≤i∧(i≤p∨i=0)∧(pFirst ⟨t,p,sh⟩ n (p-i).toNat g).run sv=r_
abbrev bin_first_h0 (p0:Addr) (s:VS) (t p sh n:Int):Hd Sg:=⟨none,[0,1,0,1,1,0,1],[.blk 0, .code [1,1,1,0,1], .scp [1]],[0,18,17,8,4,2],[.objc wView p0, .i .i64, .ic .i64 (p), .i .i64, .box 23 [.ic .i64 (t), .ic .i64 (p), .ic .i64 (sh)], .ic .i64 (n)]⟩
theorem bin_first_begin (s:VS) (t p sh n:Int) (hp0:p≤9223372036854775807):bin_first_w s t p sh n (λsv' i' g'=>bin_first_I0 s t p sh n sv' i' g' (bin_first s t p sh n)) (λr__=>r__=(bin_first s t p sh n)):=by
 unfold bin_first_w
 try unfold bin_first_I0
 intro r1 e1
 subst e1
 rw [place_Bin_eq,binOf_e,w64g,w64g1]
 refine ⟨by omega,by omega,?_⟩
 rw [show (p-0).toNat=p.toNat by omega]
 rfl
theorem bin_first_step0 (s:VS) (t p sh n:Int) (hp0:p≤9223372036854775807) (sv:VS) (i g:Int) {r_:VS×Int×Bool} (hI:bin_first_I0 s t p sh n sv i g r_):bin_first_w0 s t p sh n sv i g (λsv' i' g'=>bin_first_I0 s t p sh n sv' i' g' r_∧lx ((p-i').toNat,0,0) ((p-i).toNat,0,0)) (λr__=>r__=r_):=by
 unfold bin_first_I0 at hI
 unfold bin_first_w0
 try unfold bin_first_I0
 obtain ⟨h0,h1,h2⟩:=hI
 refine ⟨λh=>?_, λh=>?_⟩
 ·simp only [decide_eq_true_eq] at h
  have hf:(p-i).toNat=(p-(i+1)).toNat+1:=by omega
  rw [hf] at h2
  simp only [pFirst] at h2
  refine ⟨λhp=>?_, λhp r2 e2=>?_⟩
  ·have hpg:Cf.page ⟨t,p,sh⟩ g=false:=by
    have:bin_page t p sh g=false:=by simpa using hp
    exact this
   rw [hpg] at h2
   exact h2
  ·have hpg:Cf.page ⟨t,p,sh⟩ g=true:=by
    have:bin_page t p sh g=true:=by simpa using hp
    exact this
   rw [hpg,cond_true,Pg.run_bind,←free_e,←e2] at h2
   refine ⟨λhc=>?_, λhc r4 e4=>?_⟩
   ·rw [show decide (n≤r2.2)=true from hc] at h2
    exact h2
   ·rw [show decide (n≤r2.2)=false from hc] at h2
    subst e4
    simp only [cond_false,Pg.run_get] at h2
    rw [place_Next_eq,w64 (n:=i+1) (by omega),w64g,w64g1]
    exact ⟨⟨by omega,by omega,h2⟩,lxo_⟩
 ·simp only [decide_eq_false_iff_not] at h
  rw [show (p-i).toNat=0 by omega] at h2
  exact h2
theorem bin_first_ok:EOk 193 e_bin_first:=
 ent_wp Dg DN (I:=[6567000000000,6567000000018,6567000000017,6567000000008,6567000000004,6567000000002]) Tryz.func193 mix (B:=bodyOf Tryz.f193) (by kernel_rfl) rfl (by kernel_rfl) 400
  λp0 s t p sh n hb hp=>have hp0:p≤9223372036854775807:=hp _ (.head _);⟨[bin_first_h0 p0 s t p sh n], λj=>iE [appC (Hd.kd (bin_first_h0 p0 s t p sh n)) (λsv' i' g'=>bin_first_I0 s t p sh n sv' i' g' (bin_first s t p sh n))] j (λ_=>False), λj=>iE [appC (Hd.kd (bin_first_h0 p0 s t p sh n)) (λsv' i' g'=>((p-i').toNat,0,0))] j (λ_=>(0,0,0)),by kernel_rfl,⟨_, λ_ _ _=>by kernel_rfl,bin_first_begin s t p sh n hp0⟩,⟨λsv i g hI=>⟨_, λ_ _ _=>by kernel_rfl,bin_first_step0 s t p sh n hp0 sv i g hI⟩,trivial⟩⟩
def T_bin_first:Tb:=(193,e_bin_first)::G8
theorem T_bin_first_ok:TOk T_bin_first:=tc_ bin_first_ok DN
def bin_Find (s:VS) (t p sh n:Int):VS×Int×Bool:=(pFind ⟨t,p,sh⟩ n).run s
abbrev c_bin_Find:Ct Sg:=⟨some wView,false,[.agg [.i .i64, .i .i64, .i .i64], .i .i64], .tup [.i .i64, .b]⟩
def e_bin_Find:Entry Sg:=entC c_bin_Find bin_Find (λs t p sh n=>[p≤9223372036854775807])
def bin_Find_w (s:VS) (t p sh n:Int) (Q0:VS→Int→Prop) (R_:VS×Int×Bool→Prop):Prop:=(bw_ (decide (n<1)||decide (n>p)) (R_ ((s,0,false))) (∀r2:VS×Int×Bool,r2=(bin_first s t p sh n)→(aw_ (p≤9223372036854775807) (bw_ r2.2.2 (R_ ((r2.1,r2.2.1,true))) (Q0 r2.1 (iA iB (bin_Of n+1)))))))
def bin_Find_w0 (s:VS) (t p sh n:Int) (sv:VS) (k:Int) (Q0:VS→Int→Prop) (R_:VS×Int×Bool→Prop):Prop:=(bw_ (decide (k<11)) (∀r1:VS×Int,r1=((VS.read sv (place_Bin k),VS.get sv (place_Bin k)))→(bw_ (bin_page t p sh (iA iB (iA iB r1.2-1))) (R_ ((r1.1,iA iB (iA iB r1.2-1),true))) (Q0 r1.1 (iA iB (k+1))))) (R_ ((sv,0,false))))
def bin_Find_I0 (s:VS) (t p sh n:Int) (sv:VS) (k:Int) (r_:VS×Int×Bool):Prop:=0≤k∧∃f:Nat,11-k<f∧(pBins ⟨t,p,sh⟩ f k).run sv=r_
abbrev bin_Find_h0 (p0:Addr) (s:VS) (t p sh n:Int):Hd Sg:=⟨none,[0,1,0,1,1,1],[.blk 0, .code [1,1,1,1]],[0,10,4],[.objc wView p0, .i .i64, .box 23 [.ic .i64 (t), .ic .i64 (p), .ic .i64 (sh)]]⟩
theorem bin_Find_begin (s:VS) (t p sh n:Int) (hp0:p≤9223372036854775807):bin_Find_w s t p sh n (λsv' k'=>bin_Find_I0 s t p sh n sv' k' (bin_Find s t p sh n)) (λr__=>r__=(bin_Find s t p sh n)):=by
 unfold bin_Find_w
 try unfold bin_Find_I0
 have hb:=binOf_ge n
 have hb2:=binOf_le n
 refine ⟨λhc=>?_, λhc r2 e2=>⟨hp0, λ_=>⟨λh3=>?_, λh3=>?_⟩⟩⟩
 ·show (s,0,false)=bin_Find s t p sh n
  unfold bin_Find pFind
  rw [n_in,show (decide (n<1)||decide (n>p))=true from hc]
  rfl
 ·show _=bin_Find s t p sh n
  unfold bin_Find pFind
  have e2':=e2.symm
  unfold bin_first at e2'
  rw [n_in,hc,Bool.not_false,cond_true,Pg.run_bind]
  dsimp only
  rw [e2',h3,cond_true,Pg.run_ret]
  exact Prod.ext rfl (Prod.ext rfl h3.symm)
 ·rw [binOf_e,w64 (by omega)]
  refine ⟨by omega,12,by omega,?_⟩
  show _=bin_Find s t p sh n
  unfold bin_Find pFind
  have e2':=e2.symm
  unfold bin_first at e2'
  rw [n_in,hc,Bool.not_false,cond_true,Pg.run_bind]
  dsimp only
  rw [e2',h3]
  rfl
theorem bin_Find_step0 (s:VS) (t p sh n:Int) (hp0:p≤9223372036854775807) (sv:VS) (k:Int) {r_:VS×Int×Bool} (hI:bin_Find_I0 s t p sh n sv k r_):bin_Find_w0 s t p sh n sv k (λsv' k'=>bin_Find_I0 s t p sh n sv' k' r_∧lx ((11-k').toNat,0,0) ((11-k).toNat,0,0)) (λr__=>r__=r_):=by
 unfold bin_Find_I0 at hI
 unfold bin_Find_w0
 try unfold bin_Find_I0
 obtain ⟨h0,f,hf,h2⟩:=hI
 refine ⟨λh=>?_, λh=>?_⟩
 ·simp only [decide_eq_true_eq] at h
  obtain ⟨f',rfl⟩:∃f',f=f'+1:=⟨f-1,by omega⟩
  have hk:decide (k<11)=true:=by simpa using h
  simp only [pBins,hk,cond_true,Pg.run_get] at h2
  intro r1 e1
  subst e1
  rw [place_Bin_eq,w64g,w64g1]
  refine ⟨λhp=>?_, λhp=>?_⟩
  ·rw [show Cf.page ⟨t,p,sh⟩ (sv.get (cBin k)-1)=true from hp] at h2
   exact h2
  ·rw [show Cf.page ⟨t,p,sh⟩ (sv.get (cBin k)-1)=false from hp] at h2
   rw [w64 (n:=k+1) (by omega)]
   exact ⟨⟨by omega,f',by omega,h2⟩,lxo_⟩
 ·simp only [decide_eq_false_iff_not] at h
  have hk:decide (k<11)=false:=by simpa using h
  cases f with
  |zero=>exact h2
  |succ f=>
   simp only [pBins,hk] at h2
   exact h2
theorem bin_Find_ok:EOk 185 e_bin_Find:=
 ent_wp Dg T_bin_first_ok (I:=[1643000000000,1643000000010,1643000000004]) Tryz.func185 mix (B:=bodyOf Tryz.f185) (by kernel_rfl) rfl (by kernel_rfl) 400
  λp0 s t p sh n hb hp=>have hp0:p≤9223372036854775807:=hp _ (.head _);⟨[bin_Find_h0 p0 s t p sh n], λj=>iE [appC (Hd.kd (bin_Find_h0 p0 s t p sh n)) (λsv' k'=>bin_Find_I0 s t p sh n sv' k' (bin_Find s t p sh n))] j (λ_=>False), λj=>iE [appC (Hd.kd (bin_Find_h0 p0 s t p sh n)) (λsv' k'=>((11-k').toNat,0,0))] j (λ_=>(0,0,0)),by kernel_rfl,⟨_, λ_ _ _=>by kernel_rfl,bin_Find_begin s t p sh n hp0⟩,⟨λsv k hI=>⟨_, λ_ _ _=>by kernel_rfl,bin_Find_step0 s t p sh n hp0 sv k hI⟩,trivial⟩⟩
def T_bin_Find:Tb:=(185,e_bin_Find)::T_bin_first
theorem T_bin_Find_ok:TOk T_bin_Find:=tc_ bin_Find_ok T_bin_first_ok
def FI (s:VS) (t p sh n:Int):VS×Int×Bool:=(pFind ⟨t,p,sh⟩ n).run s
def G9:Tb:=T_bin_Find
theorem DR:TOk G9:=T_bin_Find_ok
end
end Go.Proofs.YtjfabjhlkpgckaaGreat
namespace Go.Sl
section
def cel (xs:LI) (i:Int):Int:=xs.getD i.toNat 0
def infoOk (v:Int):Bool:=iRight (v%16) (v/16%4096) (v/65536)
theorem iGet_len {v:Int} (h:infoOk v=true) (hk:((iGet v).k==0)=false):1≤(iGet v).l:=by
 unfold infoOk at h
 have e:iGet v=⟨v%16,v/16%4096,v/65536⟩:=by unfold iGet;rw [h];rfl
 rw [e] at hk ⊢
 simp only at hk ⊢
 unfold iRight at h
 rw [hk,cond_false] at h
 cases h1:(v%16==1||v%16==2) with
 |true=>
  rw [h1] at h
  simp only [cond_true,iK,decide_eq_true_eq] at h
  omega
 |false=>
  rw [h1] at h
  simp only [cond_false] at h
  cases h3:v%16==3 with
  |false=>rw [h3] at h;cases h
  |true=>
   rw [h3] at h
   simp only [cond_true,iK,decide_eq_true_eq,beq_iff_eq] at h
   omega
theorem iGet_bd (v:Int):0≤(iGet v).k∧(iGet v).k≤3∧0≤(iGet v).l∧(iGet v).l≤1024∧0≤(iGet v).c∧(iGet v).c≤8:=by
 unfold iGet
 cases h:iRight (v%16) (v/16%4096) (v/65536) with
 |false=>simp
 |true=>
  simp only [cond_true]
  unfold iRight at h
  cases h0:v%16==0 with
  |true=>
   rw [h0] at h
   simp only [cond_true,iK,beq_iff_eq] at h h0
   omega
  |false=>
   rw [h0] at h
   simp only [cond_false] at h
   cases h1:(v%16==1||v%16==2) with
   |true=>
    rw [h1] at h
    simp only [cond_true,iK,decide_eq_true_eq,beq_iff_eq,Bool.or_eq_true] at h h1
    omega
   |false=>
    rw [h1] at h
    simp only [cond_false] at h
    cases h3:v%16==3 with
    |false=>rw [h3] at h;cases h
    |true=>
     rw [h3] at h
     simp only [cond_true,iK,decide_eq_true_eq,beq_iff_eq] at h h3
     omega
section
variable (c:Cf) (xs:LI)
def aInfo (p:Int):If:=iGet (cel xs (c.info p))
def startsF:Nat→Int→LI→LI×Bool
 |0,at_,out=>(out,at_==c.p)
 |f+1,at_,out=>bif decide (at_<c.p) then
   (bif !infoOk (cel xs (c.info at_))||(aInfo c xs at_).k==0 then ([],false) else startsF f (at_+(aInfo c xs at_).l) (out++[at_]))
  else (out,at_==c.p)
def starts:LI×Bool:=startsF c xs (c.p.toNat+1) 0 []
def tilesF (l:LI):Nat→Nat→Bool
 |0,_=>true
 |k+1,n=>bif decide (n<l.length)&&l.getD n 0==c.p-(k+1:Nat) then tilesF l k (n+1) else (bif cel xs (c.info (c.p-(k+1:Nat))) !=0 then false else tilesF l k n)
def tiles:Bool:=bif (starts c xs).2 then tilesF c xs (starts c xs).1 c.p.toNat 0 else false
def feetF (l:LI):Nat→Nat→Bool
 |0,_=>true
 |k+1,n=>
  let p:=c.p-(k+1:Nat)
  let n':=bif decide (n+1<l.length)&&l.getD (n+1) 0==p then n+1 else n
  let want:=bif p==l.getD n' 0+(aInfo c xs (l.getD n' 0)).l-1 then nv (l.getD n' 0+1) else 0
  bif cel xs (c.foot p) !=want then false else feetF l k n'
def feet:Bool:=feetF c xs (starts c xs).1 c.p.toNat 0
def apartF (l:LI):Nat→Bool
 |0=>true
 |k+1=>bif (aInfo c xs (l.getD (l.length-(k+1)) 0)).k==1&&(aInfo c xs (l.getD (l.length-(k+1)-1) 0)).k==1 then false else apartF l k
def apart:Bool:=apartF c xs (starts c xs).1 ((starts c xs).1.length-1)
def bitAt (v i:Int):Bool:=decide (i≥0)&&decide (i<32)&&v/2^i.toNat%2==1
def onesF (v:Int):Nat→Int
 |0=>0
 |k+1=>onesF v k+(bif bitAt v k then 1 else 0)
def ones (v:Int):Int:=onesF v 32
def kSlots (k:Int):Int:=bif decide (0≤k) then [32,21,16,10,8,5,4,3,2].getD k.toNat 0 else 0
def slotsB (p:Int) (i:If):Nat→Bool
 |0=>true
 |k+1=>
  let b:Int:=32-(k+1:Nat)
  let live:=bitAt (cel xs (c.slots p)) b
  let taken:=bitAt (cel xs (c.taken p)) b
  bif (live&&!taken)||(taken&&((i.k !=3)||decide (b≥kSlots i.c))) then false else slotsB p i k
def slotsF:Nat→Bool
 |0=>true
 |k+1=>
  let p:=c.p-(k+1:Nat)
  bif slotsB c xs p (aInfo c xs p) 32 then (bif (aInfo c xs p).k==3&&cel xs (c.taken p)==0 then false else slotsF k) else false
def slotsOk:Bool:=slotsF c xs c.p.toNat
def listF:Nat→Int→Int→LI→LI×Bool
 |0,_,_,out=>(out,false)
 |f+1,q,ahead,out=>bif q==0 then (out,true) else
   bif decide (q>c.p)||decide ((out.length:Int)≥c.p) then (out,false) else
   bif cel xs (c.prev (q-1)) !=ahead then (out,false) else listF f (cel xs (c.next (q-1))) q (out++[q-1])
def listA (head:Int):LI×Bool:=listF c xs (c.p.toNat+2) (cel xs head) 0 []
def inA (l:LI) (p:Int):Int:=(l.filter (· ==p)).length
def full (taken k:Int):Bool:=ones taken==kSlots k
def binned (p k:Int):Bool:=(aInfo c xs p).k==1&&logI (aInfo c xs p).l==k
def racked (p k:Int):Bool:=(aInfo c xs p).k==3&&(aInfo c xs p).c==k&&!full (cel xs (c.taken p)) k
def onceF (l:LI) (g:Int→Bool):Nat→Bool
 |0=>true
 |k+1=>
  let p:=c.p-(k+1:Nat)
  bif inA l p !=(bif g p then 1 else 0) then false else onceF l g k
def binsF:Nat→Bool
 |0=>true
 |k+1=>bif (listA c xs (cBin (11-(k+1:Nat)))).2 then (bif onceF c (listA c xs (cBin (11-(k+1:Nat)))).1 (binned c xs · (11-(k+1:Nat))) c.p.toNat then binsF k else false) else false
def bins:Bool:=binsF c xs 11
def racksF:Nat→Bool
 |0=>true
 |k+1=>bif (listA c xs (cRack (9-(k+1:Nat)))).2 then (bif onceF c (listA c xs (cRack (9-(k+1:Nat)))).1 (racked c xs · (9-(k+1:Nat))) c.p.toNat then racksF k else false) else false
def racks:Bool:=racksF c xs 9
def looseF:Nat→Bool
 |0=>true
 |k+1=>
  let p:=c.p-(k+1:Nat)
  let i:=aInfo c xs p
  bif i.k==1||(i.k==3&&!full (cel xs (c.taken p)) i.c) then looseF k else
   bif cel xs (c.next p) !=0||cel xs (c.prev p) !=0 then false else looseF k
def loose:Bool:=looseF c xs c.p.toNat
def countsF:Nat→Int×Int
 |0=>(0,0)
 |k+1=>
  let i:=aInfo c xs k
  ((countsF k).1+(bif i.k==1 then i.l else 0),(countsF k).2+(bif i.k==2 then 1 else 0)+ones (cel xs (c.slots k)))
def counts:Bool:=cel xs 0==nv (countsF c xs c.p.toNat).1&&cel xs 1==nv (countsF c xs c.p.toNat).2
end
end
end Go.Sl
