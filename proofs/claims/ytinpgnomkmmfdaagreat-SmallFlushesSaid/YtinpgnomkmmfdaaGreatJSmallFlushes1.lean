/-
  DERIVED. Part 1 of the texts of this claim.
-/
import Derived.WalkKit
import Derived.Deep.QuietTactic
import Derived.KernelRfl
import Derived.MapKept
import Derived.ChangeKeysEq
import Derived.Scope
import Derived.AtR
set_option linter.unusedSimpArgs false
set_option linter.unusedVariables false
open Option.some renaming injEq → iC
open List renaming getD_eq_getElem?_getD → iD, mem_cons → iG, map_cons → iK, getElem?_eq_getElem → iN, getElem?_append_left → iO, getElem?_append_right → iQ, getElem?_map → iR, getElem?_set_self → iX, mem_singleton → iY, mem_of_getElem? → jC, getElem?_set_ne → jD, map_append → jG, zipWith → jI, getElem?_cons_zero → jJ, length_append → jM, getElem?_eq_none → jP, range → jQ, length_cons → jR, cons_append → kA, mem_append → kC, length_map → kK, all_eq_true → kP, map_set → kW, mem_map → kZ, getElem?_take → lC, zipWith_cons_cons → lH, take_of_length_le → lI, nodup_cons → lK, range' → lN, mem_filter → lS, mem_range → lU, map_nil → mA, length_singleton → mN, zip → mP, getElem?_of_mem → mR, getElem?_drop → mS, singleton_append → mU, any_eq_true → nE, nil_append → nL, idxOf?_eq_some_iff → nW, ext_getElem? → nZ, map_congr_left → oA, map_map → oF, drop_zero → oH, length_nil → oK, drop_succ_cons → oS, map → oV, reverse_singleton → pE, mem_of_mem_take → pJ, nodup_range → pO, mem_or_eq_of_mem_set → pR
open Bool renaming and_eq_true → iE, or_eq_false_iff → jH, not_eq_true' → jO, not_true → kU, or_eq_true → lG, eq_iff_iff → lT, false_or → lY, false_eq_true → mK, true_or → pQ
open Nat renaming eq_of_beq_eq_true → iJ, beq → iM, le_of_ble_eq_true → iU, lt_or_ge → jN, le_refl → kF, ble → kH, mul_le_mul_right → lP, zero_add → lV, le_trans → mE, not_lt_zero → mX, lt_of_lt_of_le → nD, add_assoc → nF, eq_zero_or_pos → nN, mul_comm → oC, blt → oD, add_zero → oE, succ_mul → oN, lt_two_pow_self → pT, strongRecOn → pW, mod_lt → pX
open Int renaming toNat_natCast → kT
open Option renaming map_some → iT, map → jE, getD_some → lA
open Prod.mk renaming injEq → iV
open Go.Region renaming ready → iZ, wanted → jL, lexB → pY
open Array renaming getD_eq_getD_getElem? → jK, all_eq_true_iff_forall_mem → kO, getElem?_eq_getElem → kV, getElem?_eq_none → kY, getElem?_setIfInBounds → lZ, length_toList → nJ, toList_map → oG, replicate → oL, toArray_toList → pM, mapM_eq_mapM_toList → pS
open Go.Sem renaming run_bind → jU, run_pure → kB
open Go.Region.linearise renaming go → kE
open List.cons renaming injEq → lE
namespace Go.Sl
section
abbrev LI:=List Int
open Go.RowKit
abbrev Hp:=Nat→Option Obj
def Hp.sub (h:Hp) (w:World):Prop:=∀b o,h b=some o→w.heap[b]? =some o
def Hp.le (a b:Hp):Prop:=∀c o,a c=some o→b c=some o
theorem Hp.le_refl (a:Hp):a.le a:= λ_ _ h=>h
theorem Hp.le.trans {a b c:Hp} (h:a.le b) (h':b.le c):a.le c:= λx o hx=>h' x o (h x o hx)
def Hp.or (a b:Hp):Hp:= λc=>(a c).or (b c)
theorem Hp.le_or (a b:Hp):a.le (a.or b):= λc o h=>by unfold Hp.or;rw [h];rfl
theorem Hp.or_none {a b:Hp} {c:Nat}:(a.or b) c=none↔a c=none∧b c=none:=by unfold Hp.or;cases a c<;>simp
theorem Hp.or_sub {a b:Hp} {w:World} (h:a.sub w) (h':b.sub w):(a.or b).sub w:= λc o hc=>by
 unfold Hp.or at hc
 cases ha:a c with
 |none=>rw [ha] at hc;exact h' c o hc
 |some x=>rw [ha] at hc;simp at hc;subst hc;exact h c x ha
theorem Hp.le_of_sub {a b:Hp} {w:World} (h:(a.or b).sub w) (h':b.sub w):b.le (a.or b):= λc o hc=>by
 cases hx:(a.or b) c with
 |none=>rw [(Hp.or_none.1 hx).2] at hc;cases hc
 |some x=>rw [←h' c o hc,h c x hx]
theorem Hp.sub_mono {a b:Hp} {w:World} (h:a.le b) (h':b.sub w):a.sub w:= λc o hc=>h' c o (h c o hc)
abbrev Asn0:=Hp→Prop
def part (w:World) (o:Nat→Option Nat) (i:Nat):Hp:= λb=>if o b=some i then w.heap[b]? else none
structure Env (E w:World):Prop where
 os:w.os=E.os
 tape:w.tape=E.tape
 output:w.output=E.output
 size:E.heap.size≤w.heap.size
def Sat0 (E:World) (G:Hp) (w:World) (As:List Asn0):Prop:=
 Env E w∧G.sub w∧∃o:Nat→Option Nat,(∀b i,o b=some i→G b=none∧b<w.heap.size)∧∀(i:Nat) (A:Asn0),As[i]? =some A→A (part w o i)
theorem part_sub {w:World} {o:Nat→Option Nat} {i b:Nat} {x:Obj} (h:part w o i b=some x):w.heap[b]? =some x:=by
 unfold part at h
 split at h
 ·exact h
 ·cases h
theorem part_congr {w w':World} {o o':Nat→Option Nat} {i j:Nat} (h:∀b,(o b=some i↔o' b=some j)∧(o b=some i→w.heap[b]? =w'.heap[b]?)):part w o i=part w' o' j:=by
 funext b
 unfold part
 by_cases hb:o b=some i
 ·rw [if_pos hb,if_pos ((h b).1.1 hb),(h b).2 hb]
 ·rw [if_neg hb,if_neg (λe=>hb ((h b).1.2 e))]
theorem lt_of_heap {w:World} {b:Nat} {x:Obj} (h:w.heap[b]? =some x):b<w.heap.size:=by
 rcases jN b w.heap.size with hlt|hge
 ·exact hlt
 ·rw [kY hge] at h;cases h
def pt0 (b:Nat) (x:Obj):Asn0:= λh=>h b=some x
theorem Sat0.pt {E:World} {G:Hp} {w:World} {As:List Asn0} (h:Sat0 E G w As) {i b:Nat} {x:Obj} (hi:As[i]? =some (pt0 b x)):w.heap[b]? =some x:=by
 obtain ⟨_,_,o,_,hA⟩:=h
 exact part_sub (hA i _ hi)
theorem Sat0.drop {E:World} {G:Hp} {w:World} {As Bs:List Asn0} (h:Sat0 E G w As) (hB:∀(i:Nat) (A:Asn0),Bs[i]? =some A→As[i]? =some A):Sat0 E G w Bs:=by
 obtain ⟨h1,h2,o,h3,h4⟩:=h
 exact ⟨h1,h2,o,h3, λi A hi=>h4 i A (hB i A hi)⟩
theorem Sat0.imp {E:World} {G:Hp} {w:World} {As Bs:List Asn0} (h:Sat0 E G w As) (hB:∀(i:Nat) (B:Asn0),Bs[i]? =some B→∃A,As[i]? =some A∧∀k:Hp,A k→B k):Sat0 E G w Bs:=by
 obtain ⟨h1,h2,o,h3,h4⟩:=h
 exact ⟨h1,h2,o,h3, λi B hi=>let ⟨A,hA,hAB⟩:=hB i B hi;hAB _ (h4 i A hA)⟩
theorem Sat0.drawn {E:World} {G:Hp} {w:World} {As:List Asn0} (h:Sat0 E G w As) (n:Nat):Sat0 E G {w with drawn:=n} As:=by
 obtain ⟨⟨a,b,c,d⟩,h2,o,h3,h4⟩:=h
 exact ⟨⟨a,b,c,d⟩,h2,o,h3,h4⟩
theorem Sat0.write {E:World} {G:Hp} {w w':World} {As:List Asn0} (h:Sat0 E G w As) {i b:Nat} {x:Obj} {A':Asn0} (hi:As[i]? =some (Sl.pt0 b x))
 (he:w'.os=w.os∧w'.tape=w.tape∧w'.output=w.output) (hs:w'.heap.size=w.heap.size) (hh:∀c,c≠b→w'.heap[c]? =w.heap[c]?)
 (hA:∀k:Hp,k b=w'.heap[b]? →A' k):Sat0 E G w' (As.set i A'):=by
 obtain ⟨⟨e1,e2,e3,e4⟩,h2,o,h3,h4⟩:=h
 have hpt:=h4 i _ hi
 have hob:o b=some i:=by
  simp only [Sl.pt0,part] at hpt
  split at hpt
  ·assumption
  ·cases hpt
 refine ⟨⟨he.1.trans e1,he.2.1.trans e2,he.2.2.trans e3,by omega⟩, λc y hc=>?_,o, λc j hc=>⟨(h3 c j hc).1,by rw [hs];exact (h3 c j hc).2⟩, λj A hj=>?_⟩
 ·rw [hh c (λe=>by subst e;rw [(h3 _ _ hob).1] at hc;cases hc)];exact h2 c y hc
 ·by_cases hij:i=j
  ·subst hij
   have hlt:i<As.length:=by
    rcases jN i As.length with h'|h'
    ·exact h'
    ·rw [jP h'] at hi;cases hi
   rw [iX hlt] at hj
   injection hj with hj
   subst hj
   exact hA _ (by simp [part,hob])
  ·rw [jD hij] at hj
   have:part w' o j=part w o j:=by
    funext c
    unfold part
    split
    ·rename_i hc
     exact hh c (λe=>by subst e;rw [hob] at hc;injection hc with hc;exact hij hc)
    ·rfl
   rw [this];exact h4 j A hj
theorem Sat0.alloc {E:World} {G:Hp} {w:World} {As:List Asn0} (h:Sat0 E G w As) (x:Obj):Sat0 E G (w.alloc x) (As++[Sl.pt0 w.heap.size x]):=by
 obtain ⟨⟨e1,e2,e3,e4⟩,h2,o,h3,h4⟩:=h
 have hnew:(w.alloc x).heap[w.heap.size]? =some x:=heap_alloc_new w x
 have hold:∀c,c<w.heap.size→(w.alloc x).heap[c]? =w.heap[c]? := λc hc=>Below.heap_alloc w x c hc
 have hsz:(w.alloc x).heap.size=w.heap.size+1:=by simp
 refine ⟨⟨e1,e2,e3,by omega⟩, λc y hc=>?_, λc=>if c=w.heap.size then some As.length else if o c=some As.length then none else o c, λc j hc=>?_, λj A hj=>?_⟩
 ·have:=h2 c y hc;rw [hold c (lt_of_heap this)];exact this
 ·dsimp only at hc
  split at hc
  ·rename_i e
   subst e
   refine ⟨?_,by omega⟩
   cases hg:G w.heap.size with
   |none=>rfl
   |some y=>have:=lt_of_heap (h2 _ _ hg);omega
  ·split at hc
   ·cases hc
   ·have:=h3 c j hc;exact ⟨this.1,by omega⟩
 ·rcases jN j As.length with hlt|hge
  ·rw [iO hlt] at hj
   have:part (w.alloc x) (λc=>if c=w.heap.size then some As.length else if o c=some As.length then none else o c) j=part w o j:=by
    refine part_congr λc=>⟨⟨λhc=>?_, λhc=>?_⟩, λhc=>?_⟩
    ·split at hc
     ·injection hc with hc;omega
     ·split at hc
      ·cases hc
      ·exact hc
    ·have:=(h3 c j hc).2
     rw [if_neg (by omega),if_neg (λe=>by rw [hc] at e;injection e with e;omega)]
     exact hc
    ·split at hc
     ·injection hc with hc;omega
     ·split at hc
      ·cases hc
      ·exact hold c (h3 c j hc).2
   rw [this];exact h4 j A hj
  ·rw [iQ hge] at hj
   have hj0:j-As.length=0:=by
    rcases nN (j-As.length) with h0|h0
    ·exact h0
    ·rw [jP (by simp;omega)] at hj;cases hj
   rw [hj0] at hj
   simp at hj
   subst hj
   have:j=As.length:=by omega
   subst this
   show part _ _ _ _=_
   unfold part
   rw [if_pos (by simp)]
   exact hnew
theorem Sat0.freeze {E:World} {G:Hp} {w:World} {As:List Asn0} (h:Sat0 E G w As) {i b:Nat} {x:Obj} (hi:As[i]? =some (Sl.pt0 b x)) (A':Asn0) (hA':∀k,A' k):
 Sat0 E (λc=>if c=b then some x else G c) w (As.set i A'):=by
 obtain ⟨e,h2,o,h3,h4⟩:=h
 have hpt:=h4 i _ hi
 have hob:o b=some i:=by
  simp only [Sl.pt0,part] at hpt
  split at hpt
  ·assumption
  ·cases hpt
 have hb:w.heap[b]? =some x:=part_sub hpt
 refine ⟨e, λc y hc=>?_, λc=>if o c=some i then none else o c, λc j hc=>?_, λj A hj=>?_⟩
 ·dsimp only at hc
  split at hc
  ·rename_i e;subst e;injection hc with hc;subst hc;exact hb
  ·exact h2 c y hc
 ·dsimp only at hc ⊢
  split at hc
  ·cases hc
  ·rename_i hne
   refine ⟨?_,(h3 c j hc).2⟩
   rw [if_neg (λe=>by subst e;exact hne hob)]
   exact (h3 c j hc).1
 ·by_cases hij:i=j
  ·subst hij
   have hlt:i<As.length:=by
    rcases jN i As.length with h'|h'
    ·exact h'
    ·rw [jP h'] at hi;cases hi
   rw [iX hlt] at hj
   injection hj with hj
   subst hj
   exact hA' _
  ·rw [jD hij] at hj
   have:part w (λc=>if o c=some i then none else o c) j=part w o j:=by
    refine part_congr λc=>⟨⟨λhc=>?_, λhc=>?_⟩, λ_=>rfl⟩
    ·split at hc
     ·cases hc
     ·exact hc
    ·rw [if_neg (λe=>by rw [hc] at e;injection e with e;exact hij e.symm)]
     exact hc
   rw [this];exact h4 j A hj
def putBack {α:Type} (As:List α):List Nat→List α→List α
 |[],Bs=>As++Bs
 |i::is,B::Bs=>putBack (As.set i B) is Bs
 |_::_,[]=>As
theorem putBack_get {α:Type}:∀(is:List Nat) (As Bs:List α),is.Nodup→(∀i∈is,i<As.length)→is.length≤Bs.length→∀(i:Nat) (A:α),(putBack As is Bs)[i]? =some A→
 (∃j:Nat,is[j]? =some i∧Bs[j]? =some A)∨(i ∉ is∧As[i]? =some A)∨(As.length≤i∧Bs[is.length+(i-As.length)]? =some A):=by
 intro is
 induction is with
 |nil=>
  intro As Bs _ _ _ i A h
  simp only [putBack] at h
  rcases jN i As.length with hl|hl
  ·rw [iO hl] at h;exact .inr (.inl ⟨by simp,h⟩)
  ·rw [iQ hl] at h;exact .inr (.inr ⟨hl,by simpa using h⟩)
 |cons k ks ih=>
  intro As Bs hnd hall hle i A h
  cases Bs with
  |nil=>simp at hle
  |cons B Bs=>
   simp only [putBack] at h
   rw [lK] at hnd
   have hk:=hall k (by simp)
   rcases ih (As.set k B) Bs hnd.2 (λi hi=>by simpa using hall i (by simp [hi])) (by simpa using hle) i A h with ⟨j,h5,h6⟩|⟨h5,h7⟩|⟨h5,h6⟩
   ·exact .inl ⟨j+1,by simpa using h5,by simpa using h6⟩
   ·by_cases hki:k=i
    ·subst hki
     rw [iX hk] at h7
     exact .inl ⟨0,by simp,by simpa using h7⟩
    ·rw [jD hki] at h7
     exact .inr (.inl ⟨by simp only [iG,not_or];exact ⟨λe=>hki e.symm,h5⟩,h7⟩)
   ·refine .inr (.inr ⟨by simpa using h5,?_⟩)
    have:(k::ks).length+(i-As.length)=(ks.length+(i-(As.set k B).length))+1:=by simp;omega
    rw [this];simpa using h6
theorem idx_of {is:List Nat} (hn:is.Nodup) {j i:Nat}:is.idxOf? i=some j↔is[j]? =some i:=by
 constructor
 ·intro h
  rw [nW] at h
  obtain ⟨hl,he,_⟩:=h
  rw [iN hl,he]
 ·intro h
  have hl:j<is.length:=by
   rcases jN j is.length with h'|h'
   ·exact h'
   ·rw [jP h'] at h;cases h
  have he:is[j]=i:=by rw [iN hl] at h;injection h
  rw [nW]
  refine ⟨hl,he, λk hk hkj=>?_⟩
  have a:=hn.idxOf_getElem k (by omega)
  have b:=hn.idxOf_getElem j hl
  rw [hkj] at a;rw [he] at b;omega
def Gfr (w:World) (o:Nat→Option Nat) (is:List Nat):Hp:= λb=>match o b with|some i=>if i∈is then none else w.heap[b]? |none=>w.heap[b]?
def ownIn (o:Nat→Option Nat) (is:List Nat):Nat→Option Nat:= λb=>match o b with|some i=>is.idxOf? i|none=>none
def ownOut (o o':Nat→Option Nat) (is:List Nat) (n:Nat):Nat→Option Nat:= λb=>match o' b with
 |some j=>if j<is.length then is[j]? else some (n+(j-is.length))
 |none=>match o b with|some i=>if i∈is then none else some i|none=>none
theorem Sat0.frame {E:World} {G:Hp} {w:World} {As:List Asn0} (h:Sat0 E G w As) (is:List Nat) (hn:is.Nodup) (hlt:∀i∈is,i<As.length):
 ∃G':Hp,(∀b o,G b=some o→G' b=some o)∧(∀(i:Nat) A,As[i]? =some A→i ∉ is→∃k:Hp,A k∧∀b o,k b=some o→G' b=some o)∧
  Sat0 E G' w (is.map λi=>As.getD i (λ_=>True))∧
  ∀(N:Hp) (w':World) (Bs:List Asn0),(∀b,N b≠none→G' b=none∨G b≠none)→is.length≤Bs.length→Sat0 E (G'.or N) w' Bs→Sat0 E (G.or N) w' (putBack As is Bs):=by
 obtain ⟨e,h2,o0,h30,h40⟩:=h
 obtain ⟨o,h3,h4,h5⟩:∃o:Nat→Option Nat,(∀b i,o b=some i→G b=none∧b<w.heap.size)∧(∀(i:Nat) (A:Asn0),As[i]? =some A→A (part w o i))∧∀b i,o b=some i→i<As.length:=by
  refine ⟨λb=>match o0 b with|some i=>if i<As.length then some i else none|none=>none, λb i hb=>?_, λi A hi=>?_, λb i hb=>?_⟩
  ·dsimp only at hb
   split at hb
   ·split at hb
    ·injection hb with hb;subst hb;rename_i ho _;exact h30 b _ ho
    ·cases hb
   ·cases hb
  ·have hl:i<As.length:=by
    rcases jN i As.length with h'|h'
    ·exact h'
    ·rw [jP h'] at hi;cases hi
   have:=h40 i A hi
   rw [part_congr (o':= λb=>match o0 b with|some i=>if i<As.length then some i else none|none=>none) (j:=i) (w':=w)] at this
   ·exact this
   ·refine λb=>⟨⟨λhb=>?_, λhb=>?_⟩, λ_=>rfl⟩
    ·simp [hb,hl]
    ·split at hb
     ·split at hb
      ·rename_i ho _;rw [ho];exact hb
      ·cases hb
     ·cases hb
  ·dsimp only at hb
   split at hb
   ·split at hb
    ·injection hb with hb;omega
    ·cases hb
   ·cases hb
 clear h30 h40
 refine ⟨Gfr w o is, λb x hb=>?_, λi A hi hni=>⟨_,h4 i A hi, λb x hb=>?_⟩,⟨e, λb x hb=>?_,ownIn o is, λb j hb=>?_, λj A hj=>?_⟩,?_⟩
 ·have hw:=h2 b x hb
  unfold Gfr
  cases ho:o b with
  |none=>exact hw
  |some i=>rw [(h3 b i ho).1] at hb;cases hb
 ·unfold part at hb
  unfold Gfr
  split at hb
  ·rename_i ho;simp only [ho,if_neg hni];exact hb
  ·cases hb
 ·unfold Gfr at hb
  cases ho:o b with
  |none=>simpa [ho] using hb
  |some i=>
   simp only [ho] at hb
   split at hb
   ·cases hb
   ·exact hb
 ·unfold ownIn at hb
  unfold Gfr
  cases ho:o b with
  |none=>simp [ho] at hb
  |some i=>
   simp only [ho] at hb
   have hm:i∈is:=jC ((idx_of hn).1 hb)
   simp only [if_pos hm]
   exact ⟨trivial,(h3 b i ho).2⟩
 ·rw [iR] at hj
  cases hi:is[j]? with
  |none=>simp [hi] at hj
  |some i=>
   simp only [hi,iT,iC] at hj
   have hl:=hlt i (jC hi)
   have hAs:As[i]? =some A:=by rw [←hj];simp [hl]
   rw [part_congr (w':=w) (o':=o) (j:=i)]
   ·exact h4 i A hAs
   ·refine λb=>⟨?_, λ_=>rfl⟩
    unfold ownIn
    cases ho:o b with
    |none=>simp
    |some i'=>
     simp only [iC]
     rw [idx_of hn]
     constructor
     ·intro h';rw [hi] at h';injection h' with h';exact h'.symm
     ·rintro rfl;exact hi
 ·intro N w' Bs hN hle hS
  obtain ⟨e',g2n,o',g3n,g4⟩:=hS
  have g2:(Gfr w o is).sub w':=Hp.sub_mono (Hp.le_or _ N) g2n
  have g3:∀b i,o' b=some i→Gfr w o is b=none∧b<w'.heap.size:= λb i hb=>⟨(Hp.or_none.1 (g3n b i hb).1).1,(g3n b i hb).2⟩
  have keep:∀b i,o b=some i→i ∉ is→w'.heap[b]? =w.heap[b]? ∧o' b=none:= λb i ho hni=>by
   have hlt':=(h3 b i ho).2
   have hG:Gfr w o is b=some w.heap[b]:=by simp [Gfr,ho,hni,hlt']
   refine ⟨(g2 b _ hG).trans (by simp [hlt']),?_⟩
   cases ho':o' b with
   |none=>rfl
   |some j=>have:=(g3 b j ho').1;rw [hG] at this;cases this
  refine ⟨e', λb x hb=>?_,ownOut o o' is As.length, λb j hb=>?_, λi A hi=>?_⟩
  ·unfold Hp.or at hb
   cases hg:G b with
   |some y=>
    rw [hg] at hb;simp at hb;subst hb
    refine g2 b y ?_
    unfold Gfr
    cases ho:o b with
    |none=>exact h2 b y hg
    |some i=>rw [(h3 b i ho).1] at hg;cases hg
   |none=>
    rw [hg] at hb
    simp at hb
    cases hq:Gfr w o is b with
    |none=>exact g2n b x (by unfold Hp.or;rw [hq];exact hb)
    |some y=>
     exfalso
     rcases hN b (by rw [hb];simp) with h'|h'
     ·rw [hq] at h';cases h'
     ·exact h' hg
  ·have hNn:N b=none:=by
    unfold ownOut at hb
    cases ho':o' b with
    |some j'=>exact (Hp.or_none.1 (g3n b j' ho').1).2
    |none=>
     rw [ho'] at hb
     cases ho:o b with
     |none=>simp [ho] at hb
     |some i=>
      simp only [ho] at hb
      split at hb
      ·cases hb
      ·rename_i hni
       cases hx:N b with
       |none=>rfl
       |some y=>
        exfalso
        have hlt':=(h3 b i ho).2
        rcases hN b (by rw [hx];simp) with h'|h'
        ·have hG:Gfr w o is b=some w.heap[b]:=by simp [Gfr,ho,hni,hlt']
         rw [hG] at h';cases h'
        ·exact h' (h3 b i ho).1
   have key:G b=none∧b<w'.heap.size:=by
    unfold ownOut at hb
    cases ho':o' b with
    |some j'=>
     refine ⟨?_,(g3 b j' ho').2⟩
     have h6:=(g3 b j' ho').1
     cases hg:G b with
     |none=>rfl
     |some x=>
      exfalso
      have hw:=h2 b x hg
      unfold Gfr at h6
      cases ho:o b with
      |none=>simp only [ho,hw] at h6;cases h6
      |some i=>rw [(h3 b i ho).1] at hg;cases hg
    |none=>
     rw [ho'] at hb
     cases ho:o b with
     |none=>simp [ho] at hb
     |some i=>
      simp only [ho] at hb
      split at hb
      ·cases hb
      ·rename_i hni
       refine ⟨(h3 b i ho).1,?_⟩
       have h6:=(keep b i ho hni).1
       have hlt':=(h3 b i ho).2
       exact lt_of_heap (h6.trans (show w.heap[b]? =some w.heap[b] by simp [hlt']))
   exact ⟨Hp.or_none.2 ⟨key.1,hNn⟩,key.2⟩
  ·rcases putBack_get is As Bs hn hlt hle i A hi with ⟨j,h6,h7⟩|⟨h6,h7⟩|⟨h6,h7⟩
   ·have hjl:j<is.length:=by
     rcases jN j is.length with h'|h'
     ·exact h'
     ·rw [jP h'] at h6;cases h6
    rw [part_congr (w':=w') (o':=o') (j:=j)]
    ·exact g4 j A h7
    ·refine λb=>⟨⟨λhb=>?_, λhb=>?_⟩, λ_=>rfl⟩
     ·unfold ownOut at hb
      cases ho':o' b with
      |some j'=>
       simp only [ho'] at hb
       split at hb
       ·have a:=(idx_of hn).2 hb
        have c:=(idx_of hn).2 h6
        rw [a] at c;exact c
       ·injection hb with hb
        have:=hlt i (jC h6);omega
      |none=>
       rw [ho'] at hb
       cases ho:o b with
       |none=>simp [ho] at hb
       |some i'=>
        simp only [ho] at hb
        split at hb
        ·cases hb
        ·rename_i hni;injection hb with hb;subst hb;exact absurd (jC h6) hni
     ·unfold ownOut;rw [hb];simp only [if_pos hjl];exact h6
   ·rw [part_congr (w':=w) (o':=o) (j:=i)]
    ·exact h4 i A h7
    ·have one:∀b,ownOut o o' is As.length b=some i↔o b=some i:= λb=>by
      constructor
      ·intro hb
       unfold ownOut at hb
       cases ho':o' b with
       |some j'=>
        simp only [ho'] at hb
        split at hb
        ·exact absurd (jC hb) h6
        ·injection hb with hb
         have hl:i<As.length:=by
          rcases jN i As.length with h'|h'
          ·exact h'
          ·rw [jP h'] at h7;cases h7
         omega
       |none=>
        rw [ho'] at hb
        cases ho:o b with
        |none=>simp [ho] at hb
        |some i'=>
         simp only [ho] at hb
         split at hb
         ·cases hb
         ·exact hb
      ·intro hb
       unfold ownOut
       rw [(keep b i hb h6).2,hb]
       simp only [if_neg h6]
     exact λb=>⟨one b, λhb=>(keep b i ((one b).1 hb) h6).1⟩
   ·rw [part_congr (w':=w') (o':=o') (j:=is.length+(i-As.length))]
    ·exact g4 _ A h7
    ·refine λb=>⟨⟨λhb=>?_, λhb=>?_⟩, λ_=>rfl⟩
     ·unfold ownOut at hb
      cases ho':o' b with
      |some j'=>
       simp only [ho'] at hb
       split at hb
       ·have:=hlt i (jC hb);omega
       ·injection hb with hb
        rw [show is.length+(i-As.length)=j' by omega]
      |none=>
       rw [ho'] at hb
       cases ho:o b with
       |none=>simp [ho] at hb
       |some i'=>
        simp only [ho] at hb
        split at hb
        ·cases hb
        ·injection hb with hb;have:=h5 b i' ho;omega
     ·unfold ownOut;rw [hb];simp only [if_neg (Nat.not_lt.2 (Nat.le_add_right _ _))]
      congr 1;omega
structure Ev where
 w:World
 z:Hp
abbrev Asn:=Hp→Hp→Prop
def upZ (Z:Hp) (A:Asn):Asn0:= λk=>∀Y,Z.le Y→A Y k
theorem upZ_mono {Z Z':Hp} (h:Z.le Z') {A:Asn} {k:Hp} (hA:upZ Z A k):upZ Z' A k:= λY hY=>hA Y (h.trans hY)
structure Zok (E:Ev) (G Z:Hp):Prop where
 low:E.z.le Z
 new:∀b,Z b≠none→G b=none∨E.z b≠none
def Sat (E:Ev) (G:Hp) (w:World) (As:List Asn):Prop:=∃Z:Hp,Zok E G Z∧Z.sub w∧Sat0 E.w (G.or Z) w (As.map (upZ Z))
def pt (b:Nat) (x:Obj):Asn:= λ_ h=>h b=some x
theorem get_map {α β:Type} {f:α→β} {l:List α} {i:Nat} {y:β} (h:(l.map f)[i]? =some y):∃x,l[i]? =some x∧y=f x:=by
 rw [iR,Option.map_eq_some_iff] at h
 obtain ⟨x,h1,h2⟩:=h
 exact ⟨x,h1,h2.symm⟩
theorem map_get {α β:Type} {f:α→β} {l:List α} {i:Nat} {x:α} (h:l[i]? =some x):(l.map f)[i]? =some (f x):=by
 rw [iR,h];rfl
section
variable {E:Ev} {G:Hp} {w w':World} {As Bs:List Asn}
theorem Sat.sub (h:Sat E G w As):G.sub w:=by
 obtain ⟨Z,_,_,h0⟩:=h
 exact Hp.sub_mono (Hp.le_or G Z) h0.2.1
theorem Sat.env (h:Sat E G w As):Env E.w w:=by
 obtain ⟨Z,_,_,h0⟩:=h
 exact h0.1
theorem lt_of_get' {α:Type} {l:List α} {i:Nat} {x:α} (h:l[i]? =some x):i<l.length:=by
 rcases jN i l.length with h'|h'
 ·exact h'
 ·rw [jP h'] at h;cases h
theorem lt_of_map {α β:Type} {f:α→β} {l:List α} {i:Nat} {x:α} (h:l[i]? =some x):i<(l.map f).length:=by rw [kK];exact lt_of_get' h
theorem Sat.of {Z:Hp} (hz:Zok E G Z) (hw:Z.sub w) (h0:(G.or Z).sub w) (h':Sat0 E.w (G.or Z) w' (Bs.map (upZ Z))):Sat E G w' Bs:=
 ⟨Z,hz,Hp.sub_mono (Hp.le_of_sub h0 hw) h'.2.1,h'⟩
theorem upZ_pt {Z k:Hp} {b:Nat} {x:Obj}:upZ Z (pt b x) k↔pt0 b x k:=⟨λh=>h Z (Hp.le_refl Z), λh _ _=>h⟩
theorem upZ_ptE {Z:Hp} {b:Nat} {x:Obj}:upZ Z (pt b x)=pt0 b x:=by funext k;exact propext upZ_pt
theorem Sat.pt (h:Sat E G w As) {i b:Nat} {x:Obj} (hi:As[i]? =some (pt b x)):w.heap[b]? =some x:=by
 obtain ⟨Z,_,_,h0⟩:=h
 exact Sat0.pt h0 (i:=i) (by rw [map_get hi,upZ_ptE])
theorem Sat.drop (h:Sat E G w As) (hB:∀(i:Nat) (A:Asn),Bs[i]? =some A→As[i]? =some A):Sat E G w Bs:=by
 obtain ⟨Z,hz,hw,h0⟩:=h
 exact ⟨Z,hz,hw,h0.drop λi A hi=>by
  obtain ⟨B,h1,rfl⟩:=get_map hi
  exact map_get (hB i B h1)⟩
theorem Sat.imp (h:Sat E G w As) (hB:∀(i:Nat) (B:Asn),Bs[i]? =some B→∃A,As[i]? =some A∧∀Y k:Hp,A Y k→B Y k):Sat E G w Bs:=by
 obtain ⟨Z,hz,hw,h0⟩:=h
 exact ⟨Z,hz,hw,h0.imp λi B hi=>by
  obtain ⟨C,h1,rfl⟩:=get_map hi
  obtain ⟨A,h2,h3⟩:=hB i C h1
  exact ⟨_,map_get h2, λk hk Y hY=>h3 Y k (hk Y hY)⟩⟩
theorem Sat.drawn (h:Sat E G w As) (n:Nat):Sat E G {w with drawn:=n} As:=by
 obtain ⟨Z,hz,hw,h0⟩:=h
 exact ⟨Z,hz,hw,h0.drawn n⟩
theorem Sat.write (h:Sat E G w As) {i b:Nat} {x:Obj} {A':Asn} (hi:As[i]? =some (Sl.pt b x))
 (he:w'.os=w.os∧w'.tape=w.tape∧w'.output=w.output) (hs:w'.heap.size=w.heap.size) (hh:∀c,c≠b→w'.heap[c]? =w.heap[c]?)
 (hA:∀Y k:Hp,k b=w'.heap[b]? →A' Y k):Sat E G w' (As.set i A'):=by
 obtain ⟨Z,hz,hw,h0⟩:=h
 refine Sat.of hz hw h0.2.1 ?_
 rw [kW]
 exact h0.write (b:=b) (x:=x) (by rw [map_get hi,upZ_ptE]) he hs hh λk hk Y _=>hA Y k hk
theorem Sat.alloc (h:Sat E G w As) (x:Obj):Sat E G (w.alloc x) (As++[Sl.pt w.heap.size x]):=by
 obtain ⟨Z,hz,hw,h0⟩:=h
 refine Sat.of hz hw h0.2.1 ?_
 rw [jG,iK,mA,upZ_ptE]
 exact h0.alloc x
theorem Sat.freeze (h:Sat E G w As) {i b:Nat} {A A':Asn} (hi:As[i]? =some A) (hA:∀Y k,A Y k→∃x,k b=some x∧∀Y' k',Y' b=some x→A' Y' k'):Sat E G w (As.set i A'):=by
 obtain ⟨Z,hz,hw,h0⟩:=h
 have hil:i<(As.map (upZ Z)).length:=lt_of_map hi
 obtain ⟨e,hs,o,ho,hoA⟩:=h0
 obtain ⟨x,hx,hA'⟩:=hA Z _ (hoA i _ (map_get hi) Z (Hp.le_refl Z))
 have hob:o b=some i:=by
  simp only [part] at hx
  split at hx
  ·assumption
  ·cases hx
 have hb:w.heap[b]? =some x:=part_sub hx
 obtain ⟨hGb,hZb⟩:=Hp.or_none.1 (ho b i hob).1
 have h1:Sat0 E.w (G.or Z) w ((As.map (upZ Z)).set i (pt0 b x)):=⟨e,hs,o,ho, λj B hj=>by
  by_cases hij:i=j
  ·subst hij
   rw [iX hil] at hj
   injection hj with hj;subst hj
   exact hx
  ·rw [jD hij] at hj
   exact hoA j B hj⟩
 have h2:=h1.freeze (i:=i) (b:=b) (x:=x) (by rw [iX hil]) (λ_=>True) (λ_=>trivial)
 let Z':Hp:= λc=>if c=b then some x else Z c
 have hZZ:Z.le Z':= λc y hc=>by
  show (if c=b then some x else Z c)=some y
  by_cases e:c=b
  ·subst e;rw [hZb] at hc;cases hc
  ·rw [if_neg e];exact hc
 have hG':G.or Z'= λc=>if c=b then some x else (G.or Z) c:=by
  funext c
  show (G c).or (if c=b then some x else Z c)=if c=b then some x else (G c).or (Z c)
  by_cases e:c=b
  ·subst e;rw [if_pos rfl,if_pos rfl,hGb];rfl
  ·rw [if_neg e,if_neg e]
 refine ⟨Z',⟨hz.low.trans hZZ, λc hc=>?_⟩, λc y hc=>?_,?_⟩
 ·by_cases e:c=b
  ·subst e;exact .inl hGb
  ·refine hz.new c ?_
   have:Z' c=Z c:=if_neg e
   rw [←this];exact hc
 ·by_cases e:c=b
  ·subst e
   have:Z' c=some x:=if_pos rfl
   rw [this] at hc;injection hc with hc;subst hc;exact hb
  ·have:Z' c=Z c:=if_neg e
   rw [this] at hc;exact hw c y hc
 ·rw [hG']
  refine h2.imp λj B hj=>?_
  obtain ⟨C,h4,rfl⟩:=get_map hj
  by_cases hij:i=j
  ·subst hij
   rw [iX (lt_of_get' hi)] at h4
   injection h4 with h4;subst h4
   refine ⟨λ_=>True,?_, λk _ Y hY=>hA' Y k (hY b x (if_pos rfl))⟩
   rw [List.set_set,iX hil]
  ·rw [jD hij] at h4
   refine ⟨upZ Z C,?_, λk hk=>upZ_mono hZZ hk⟩
   rw [List.set_set,jD hij]
   exact map_get h4
theorem putBack_map {α β:Type} (f:α→β):∀(is:List Nat) (As Bs:List α),(putBack As is Bs).map f=putBack (As.map f) is (Bs.map f)
 |[],As,Bs=>by simp [putBack]
 |i::is,As,B::Bs=>by simp only [putBack,iK];rw [putBack_map f is,kW]
 |_::_,As,[]=>rfl
theorem putBack_rel {α:Type} {R:α→α→Prop} (hR:∀x,R x x):∀(is:List Nat) (As As' Bs:List α),As.length=As'.length→(∀(i:Nat) A',As'[i]? =some A'→∃A,As[i]? =some A∧R A A')→
 ∀(i:Nat) A',(putBack As' is Bs)[i]? =some A'→∃A,(putBack As is Bs)[i]? =some A∧R A A'
 |[],As,As',Bs,hl,h,i,A',hi=>by
  simp only [putBack] at hi ⊢
  rcases jN i As'.length with hlt|hge
  ·rw [iO hlt] at hi
   rw [iO (by omega)]
   exact h i A' hi
  ·rw [iQ hge] at hi
   rw [iQ (by omega),hl]
   exact ⟨A',hi,hR A'⟩
 |j::is,As,As',B::Bs,hl,h,i,A',hi=>by
  simp only [putBack] at hi ⊢
  refine putBack_rel hR is _ _ Bs (by simpa using hl) (λk C hk=>?_) i A' hi
  by_cases hjk:j=k
  ·subst hjk
   have hlt:=lt_of_get' hk
   rw [iX (by simpa using hlt)] at hk
   injection hk with hk;subst hk
   exact ⟨B,by rw [iX (by simp at hlt;omega)],hR B⟩
  ·rw [jD hjk] at hk ⊢
   exact h k C hk
 |_::_,As,As',[],_,h,i,A',hi=>h i A' hi
theorem Sat.frame (h:Sat E G w As) (is:List Nat) (hn:is.Nodup) (hlt:∀i∈is,i<As.length):
 ∃(Ec:Ev) (G':Hp),Ec.w=E.w∧E.z.le Ec.z∧(∀b o,G b=some o→G' b=some o)∧(∀b o,Ec.z b=some o→G' b=some o)∧(∀(i:Nat) A,As[i]? =some A→∃k:Hp,A Ec.z k∧(i ∉ is→∀b o,k b=some o→G' b=some o))∧
  Sat Ec G' w (is.map λi=>As.getD i (λ_ _=>True))∧
  ∀(w':World) (Bs:List Asn),is.length≤Bs.length→Sat Ec G' w' Bs→Sat E G w' (putBack As is Bs):=by
 obtain ⟨Z,hz,hw,h0⟩:=h
 have hlen:(As.map (upZ Z)).length=As.length:=kK _
 obtain ⟨G',g1,g2,g3,g4⟩:=h0.frame is hn (λi hi=>by rw [hlen];exact hlt i hi)
 have hZG:Z.le G':= λb o hb=>g1 b o (Hp.le_of_sub h0.2.1 hw b o hb)
 have eor:G'.or Z=G':=by
  funext b
  unfold Hp.or
  cases hg:G' b with
  |some o=>rfl
  |none=>
   cases hzb:Z b with
   |none=>rfl
   |some o=>rw [hZG b o hzb] at hg;cases hg
 refine ⟨⟨E.w,Z⟩,G',rfl,hz.low, λb o hb=>g1 b o (Hp.le_or G Z b o hb),hZG, λi A hi=>?_,?_, λw' Bs hle hS=>?_⟩
 ·by_cases hi':i∈is
  ·obtain ⟨_,_,o,_,hoA⟩:=h0
   exact ⟨_,hoA i _ (map_get hi) Z (Hp.le_refl Z), λh'=>absurd hi' h'⟩
  ·obtain ⟨k,hk,hkG⟩:=g2 i _ (map_get hi) hi'
   exact ⟨k,hk Z (Hp.le_refl Z), λ_=>hkG⟩
 ·refine ⟨Z,⟨Hp.le_refl Z, λb hb=> .inr hb⟩,hw,?_⟩
  rw [eor,oF]
  have:(is.map ((upZ Z)∘ λi=>As.getD i (λ_ _=>True)))=is.map λi=>(As.map (upZ Z)).getD i (λ_=>True):=by
   refine oA λi hi=>?_
   have hl:=hlt i hi
   simp only [Function.comp_apply,iD,iR,iN hl,iT,lA]
  rw [this];exact g3
 ·obtain ⟨Z',hz',hw',h5⟩:=hS
  have h6:=g4 Z' w' (Bs.map (upZ Z')) (λb hb=>(hz'.new b hb).imp id λhq hx=>hq (Hp.or_none.1 hx).2) (by rw [kK];exact hle) h5
  have eo:(G.or Z).or Z'=G.or Z':=by
   funext b
   unfold Hp.or
   cases G b with
   |some o=>rfl
   |none=>
    cases hzb:Z b with
    |none=>simp
    |some o=>rw [hz'.low b o hzb];rfl
  rw [eo] at h6
  refine ⟨Z',⟨hz.low.trans hz'.low, λb hb=>?_⟩,hw',?_⟩
  ·rcases hz'.new b hb with h7|h7
   ·left
    cases hg:G b with
    |none=>rfl
    |some o=>rw [g1 b o (Hp.le_or G Z b o hg)] at h7;cases h7
   ·exact hz.new b h7
  ·refine h6.imp λi B hi=>?_
   rw [putBack_map] at hi
   refine putBack_rel (R:= λA B:Asn0=>∀k:Hp,A k→B k) (λ_ _ h=>h) is _ _ _ (by simp) (λj C hj=>?_) i B hi
   obtain ⟨D,h8,rfl⟩:=get_map hj
   exact ⟨_,map_get h8, λk hk=>upZ_mono hz'.low hk⟩
end
end
section
def prN (a b:Nat):Nat:=2^a*(2*b+1)
def unN:Nat→Nat→Nat×Nat
 |0,_=>(0,0)
 |f+1,n=>bif iM (n%2) 1 then (0,n/2) else ((unN f (n/2)).1+1,(unN f (n/2)).2)
theorem unN_pr (b:Nat):∀(a f:Nat),a<f→unN f (prN a b)=(a,b)
 |0,f+1,_=>by
  have h1:prN 0 b=2*b+1:=by simp [prN]
  rw [unN,h1]
  have h2:(2*b+1)%2=1:=by omega
  have h3:(2*b+1)/2=b:=by omega
  rw [h2,h3];rfl
 |a+1,f+1,h=>by
  have h1:prN (a+1) b=2*prN a b:=by simp only [prN,Nat.pow_succ];rw [oC (2^a) 2,Nat.mul_assoc]
  rw [unN,h1]
  have h2:(2*prN a b)%2=0:=by omega
  have h3:2*prN a b/2=prN a b:=by omega
  rw [h2,h3,unN_pr b a f (by omega)];rfl
theorem lt_pr (a b:Nat):a<prN a b:=by
 have h1:a<2^a:=pT
 have h2:2^a*1≤2^a*(2*b+1):=Nat.mul_le_mul_left _ (by omega)
 unfold prN;omega
def decN (n:Nat):Nat×Nat:=unN n n
theorem decN_pr (a b:Nat):decN (prN a b)=(a,b):=unN_pr b a _ (lt_pr a b)
def encA (a:Addr):Nat:=prN a.block (prN a.off (match a.spot with|none=>0|some k=>k+1))
def decA (n:Nat):Addr:=⟨(decN n).1,(decN (decN n).2).1,match (decN (decN n).2).2 with|0=>none|k+1=>some k⟩
theorem decA_enc (a:Addr):decA (encA a)=a:=by
 obtain ⟨b,o,s⟩:=a
 unfold decA encA
 simp only [decN_pr]
 cases s<;>rfl
def encI:Int→Nat
 | .ofNat n=>2*n
 | .negSucc n=>2*n+1
def decI (n:Nat):Int:=bif iM (n%2) 0 then .ofNat (n/2) else .negSucc (n/2)
theorem decI_enc (x:Int):decI (encI x)=x:=by
 cases x with
 |ofNat n=>
  have h1:(2*n)%2=0:=by omega
  have h2:2*n/2=n:=by omega
  unfold decI encI;rw [h1,h2];rfl
 |negSucc n=>
  have h1:(2*n+1)%2=1:=by omega
  have h2:(2*n+1)/2=n:=by omega
  unfold decI encI;rw [h1,h2];rfl
def encL:LI→Nat
 |[]=>0
 |x::xs=>prN (encI x) (encL xs)
def decL:Nat→Nat→LI
 |0,_=>[]
 |f+1,n=>bif iM n 0 then [] else decI (decN n).1::decL f (decN n).2
theorem lt_pr2 (a b:Nat):b<prN a b:=by
 have h1:1*(2*b+1)≤2^a*(2*b+1):=lP _ (Nat.one_le_two_pow)
 unfold prN;omega
theorem decL_enc:∀(xs:LI) (f:Nat),encL xs≤f→decL f (encL xs)=xs
 |[],0,_=>rfl
 |[],_+1,_=>rfl
 |x::xs,f,h=>by
  have h1:=lt_pr2 (encI x) (encL xs)
  unfold encL at h ⊢
  cases f with
  |zero=>omega
  |succ f=>
   have h2:iM (prN (encI x) (encL xs)) 0=false:=by
    cases hh:iM (prN (encI x) (encL xs)) 0 with
    |false=>rfl
    |true=>have:=iJ hh;omega
   rw [decL,h2,cond_false,decN_pr,decI_enc,decL_enc xs f (by omega)]
def slE (a:Option Addr) (c:Nat) (xs:LI):Int:=((prN (match a with|none=>0|some a=>encA a+1) (prN c (encL xs)):Nat):Int)
def slA (x:Int):Option Addr:=match (decN x.toNat).1 with
 |0=>none
 |n+1=>some (decA n)
def slC (x:Int):Nat:=(decN (decN x.toNat).2).1
def slR (x:Int):LI:=decL (decN (decN x.toNat).2).2 (decN (decN x.toNat).2).2
theorem slA_E (a:Option Addr) (c:Nat) (xs:LI):slA (slE a c xs)=a:=by
 unfold slA slE
 rw [kT,decN_pr]
 cases a with
 |none=>rfl
 |some a=>simp only [decA_enc]
theorem slC_E (a:Option Addr) (c:Nat) (xs:LI):slC (slE a c xs)=c:=by
 unfold slC slE
 rw [kT,decN_pr,decN_pr]
theorem slR_E (a:Option Addr) (c:Nat) (xs:LI):slR (slE a c xs)=xs:=by
 unfold slR slE
 rw [kT,decN_pr,decN_pr]
 exact decL_enc xs _ (kF _)
inductive Col where
 |ints (k:IntKind) (xs:LI)
 |bools (xs:List Bool)
 |vals (xs:List Value)
 |fz (xs:LI)
 |sls (xs:LI)
def MJ (z:Int):Value:= .slice (slA z) (slR z).length (slC z)
def Col.at:Col→Nat→Value
 | .ints k xs,i=> .int k (xs.getD i 0)
 | .bools xs,i=> .bool (xs.getD i false)
 | .vals xs,i=>xs.getD i undef
 | .fz xs,i=> .int .i64 (xs.getD i 0)
 | .sls xs,i=> .slice (slA (xs.getD i 0)) (slR (xs.getD i 0)).length (slC (xs.getD i 0))
def Col.len:Col→Nat
 | .ints _ xs=>xs.length
 | .bools xs=>xs.length
 | .vals xs=>xs.length
 | .fz xs=>xs.length
 | .sls xs=>xs.length
def Col.isFz:Col→Bool
 | .fz _=>true
 | .sls _=>true
 |_=>false
def fzB:List Col→Bool
 |[]=>false
 |c::cs=>bif c.isFz then true else fzB cs
def Col.isSl:Col→Bool
 | .sls _=>true
 |_=>false
def slB:List Col→Bool
 |[]=>false
 |c::cs=>bif c.isSl then true else slB cs
inductive PK where
 |cell (off:Nat)
 |slice
 |elem (i off:Nat)
 |obj
 |map
inductive Pr where
 |no
 |pt (k:Nat) (pk:PK)
 |many (ps:List Pr)
 |box (p:Pr)
inductive Chunk (σ:Type) where
 |dead
 |cells (b:Nat) (t:TypeId) (cs:List (Value×Pr))
 |roc (b:Nat) (t:TypeId) (vs:List Value)
 |row (a:Option Nat) (t:TypeId) (n cap:Nat) (cols:List Col)
 |ro (a:Option Addr) (n cap:Nat) (cols:List Col)
 |obj (p:Addr) (s:σ)
 |map (b:Nat) (kk vk:IntKind) (f:Int→Option Int)
inductive Mk (σ:Type) where
 |row (t:TypeId) (cols:List Col)
 |obj (s:σ)
def lenC:List Col→Nat
 |c::_=>c.len
 |[]=>0
structure Ent where
 s:Nat
 g:Option (Nat×Bool)
 v:Value
 p:Pr
def Pr.isNo:Pr→Bool
 | .no=>true
 |_=>false
def mkMany (ps:List Pr):Pr:=bif ps.all Pr.isNo then .no else .many ps
def nos:Nat→List Pr
 |0=>[]
 |n+1=> .no::nos n
def cellsPr (v:Value) (p:Pr):List Pr:=
 match v with
 | .agg cs=>match p with
   | .many ps=>bif iM ps.length cs.size then ps else nos cs.size
   |_=>nos cs.size
 |_=>[p]
def zipP:List Value→List Pr→List (Value×Pr)
 |v::vs,p::ps=>(v,p)::zipP vs ps
 |_,_=>[]
def cellsOf2 (v:Value) (p:Pr):List (Value×Pr):=zipP v.cells.toList (cellsPr v p)
def look:List Ent→Nat→Option Ent
 |[],_=>none
 |e::r,t=>bif iM e.s t then some e else look r t
def ent (g:Option (Nat×Bool)) (L:List Ent) (t:Nat):Option Ent:=
 match look L t with
 |none=>none
 |some e=>match e.g,g with
  |none,_=>some e
  |some (c,b),some (c',b')=>bif iM c c'&&(b==b') then some e else none
  |some _,none=>none
def val (g:Option (Nat×Bool)) (L:List Ent):Operand→Option Value
 | .const v=>some v
 | .func f=>some (.func (.func f) #[] #[])
 | .global n=>some (.pointer (some ⟨n,0,none⟩))
 | .tmp t=>match ent g L t with
   |some e=>some e.v
   |none=>none
def prov (g:Option (Nat×Bool)) (L:List Ent):Operand→Pr
 | .tmp t=>match ent g L t with
   |some e=>e.p
   |none=> .no
 |_=> .no
def rho (g:Option (Nat×Bool)) (L:List Ent) (x:Operand):Value:=(val g L x).getD undef
def gIs (d:Nat):Option (Nat×Bool)→Bool
 |some (c,_)=>iM c d
 |none=>false
def del (d:Nat):List Ent→List Ent
 |[]=>[]
 |e::r=>bif iM e.s d||gIs d e.g then del d r else e::del d r
def gslot (ops:Array Oper) (o:Oper):Option (Option (Nat×Bool)):=
 match o.guard with
 |none=>some none
 |some (j,b)=>match (ops[j]?).bind (·.dst) with
  |some c=>some (some (c,b))
  |none=>none
def gimp (g:Option (Nat×Bool)) (L:List Ent) (p:Prop):Prop:=
 match g with
 |none=>p
 |some (c,b)=>match look L c with
  |some ⟨_,none, .bool t,_⟩=>t=b→p
  |some ⟨_,some _, .bool t,_⟩=>t=b→p
  |_=>p
def evalS (P:Program) {α:Type}:Sem α→Option α
 | .pure a=>some a
 | .program k=>evalS P (k P)
 | .mark _ k=>evalS P k
 |_=>none
def marked (c:Nat) (L:List Ent):Bool:=(look L (1000000+c)).isSome
def pickVal (g:Option (Nat×Bool)) (L:List Ent) (c a b:Operand):Option Value:=
 match val g L c,c with
 |some (.bool t), .tmp cs=>bif marked cs L then (match t with
   |true=>(match val g L a with|some v=>some v|none=>val (some (cs,true)) L a)
   |false=>(match val g L b with|some v=>some v|none=>val (some (cs,false)) L b)) else
  match (match val g L a with|some v=>some v|none=>val (some (cs,true)) L a),(match val g L b with|some v=>some v|none=>val (some (cs,false)) L b) with
  |some (.bool x),some (.bool y)=>
   match a,b with
   | .const (.bool true),_=>some (.bool (t||y))
   |_, .const (.bool false)=>some (.bool (t&&x))
   |_,_=>some (.bool (bif t then x else y))
  |some (.int k x),some (.int k' y)=>match decEq k k' with
   | .isTrue _=>some (.int k (bif t then x else y))
   | .isFalse _=>none
  |_,_=>none
 |_,_=>none
def aggB (P:Program) (t:TypeId):Option Bool:=
 match P.underlying t with
 |some (.struct _)|some (.array _ _)=>some true
 |some _=>some false
 |none=>none
def sizeP (P:Program) (t:TypeId):Option Nat:=
 match P.info? t with
 |some i=>some i.size
 |none=>none
def cellsLoad (P:Program) (t:TypeId) (cs:List (Value×Pr)) (off:Nat):Option (Value×Pr):=
 match aggB P t,sizeP P t with
 |some true,some n=>bif kH (off+n) cs.length then some (.agg (((cs.drop off).take n).map (·.1)).toArray,mkMany (((cs.drop off).take n).map (·.2))) else none
 |some false,_=>cs[off]?
 |_,_=>none
def rowLoad (P:Program) (t:TypeId) (cols:List Col) (i off:Nat):Option Value:=
 match aggB P t,sizeP P t with
 |some true,some n=>bif kH (off+n) cols.length then some (.agg (((cols.drop off).take n).map (·.at i)).toArray) else none
 |some false,_=>(cols[off]?).map (·.at i)
 |_,_=>none
inductive Info (σ:Type) where
 |none
 |row (n:Nat) (cols:List Col)
 |cells (t:TypeId) (vs:List Value)
 |obj (s:σ)
 |many (is:List (Info σ))
structure Res (σ:Type) where
 pre:List Prop
 new:Option σ
 rows:List (Mk σ)
 out:List Value→Value
 outp:Nat→Pr
structure Did (σ:Type) where
 {α:Type}
 x:α
 r:α→Res σ
abbrev Entry (σ:Type):=List (Value×Info σ)→Option (Did σ)
def lookT {σ:Type}:List (Nat×Entry σ)→Nat→Option (Entry σ)
 |[],_=>none
 |(f,e)::r,g=>bif iM f g then some e else lookT r g
mutual
def infoOf {σ:Type} (K:List (Chunk σ)):Pr→Info σ
 | .pt k .slice=>match K[k]? with
   |some (.row _ _ n _ cols)=>bif fzB cols then .none else .row n cols
   |some (.ro _ n _ cols)=> .row n cols
   |_=> .none
 | .pt k .obj=>match K[k]? with
   |some (.obj _ s)=> .obj s
   |_=> .none
 | .pt k (.cell off)=>match K[k]? with
   |some (.cells _ t cs)=>bif iM off 0 then .cells t (cs.map (·.1)) else .none
   |some (.roc _ t vs)=>bif iM off 0 then .cells t vs else .none
   |_=> .none
 | .many ps=> .many (infosOf K ps)
 |_=> .none
def infosOf {σ:Type} (K:List (Chunk σ)):List Pr→List (Info σ)
 |[]=>[]
 |p::ps=>infoOf K p::infosOf K ps
end
def objsV {σ:Type}:Value→Info σ→List (Addr×σ)
 | .pointer (some p), .obj s=>[(p,s)]
 | .agg cs, .many is=>go cs.toList is
 |_,_=>[]
where
 go:List Value→List (Info σ)→List (Addr×σ)
  | .pointer (some p)::vs, .obj s::is=>(p,s)::go vs is
  |_::vs,_::is=>go vs is
  |_,_=>[]
def objsOf {σ:Type}:List (Value×Info σ)→List (Addr×σ)
 |[]=>[]
 |(v,i)::r=>objsV v i++objsOf r
def objOf {σ:Type} (args:List (Value×Info σ)):Option (Addr×σ):=
 match objsOf args with
 |[x]=>some x
 |_=>none
def objKs:List Pr→List Nat
 |[]=>[]
 | .pt k .obj::r=>k::objKs r
 | .many ps::r=>objK1 ps++objKs r
 |_::r=>objKs r
where
 objK1:List Pr→List Nat
  |[]=>[]
  | .pt k .obj::r=>k::objK1 r
  |_::r=>objK1 r
def callable (P:Program) (f:Nat):Bool:=
 match P.funcs[f]? with
 |some fn=>!(fn.name=="runtime.NumGoroutine")&&fn.body.isSome
 |none=>false
def calOf (g:Option (Nat×Bool)) (L:List Ent) (c:Operand):Option (Nat×List Value×List Pr):=
 match val g L c with
 |some (.func (.func f) ⟨[]⟩ ⟨caps⟩)=>match prov g L c with
  | .many ps=>bif iM ps.length caps.length then some (f,caps,ps) else none
  |_=>some (f,caps,nos caps.length)
 |_=>none
def capArgs {σ:Type} (K:List (Chunk σ)):List Value→List Pr→List (Value×Info σ)
 |v::vs,p::ps=>(v,infoOf K p)::capArgs K vs ps
 |_,_=>[]
def methOf (P:Program) (t:TypeId) (name:String):Option Nat:=
 match P.info? t with
 |some i=>match i.methods.find? (·.name==name) with
  |some m=>bif m.path.isEmpty then match m.func,P.underlying t with
    |some (f,true),some (.pointer _)=>some f
    |some (_,false),some (.pointer _)=>none
    |some (f,false),some _=>some f
    |_,_=>none
   else none
  |none=>none
 |none=>none
def unboxP:Pr→Pr
 | .box p=>p
 |_=> .no
def callOf {σ:Type} (P:Program) (g:Option (Nat×Bool)) (L:List Ent) (K:List (Chunk σ)) (o:Oper):Option (Nat×List (Value×Info σ)×List Pr):=
 match o.op with
 | .call {callee:= .invoke recv name,args,argTypes:=_}=>match val g L recv with
   |some (.iface t v)=>match methOf P t name with
    |some f=>bif args.toList.all (λx=>(val g L x).isSome)&&callable P f then
      some (f,(v,infoOf K (unboxP (prov g L recv)))::(args.toList.map λx=>(rho g L x,infoOf K (prov g L x))),unboxP (prov g L recv)::(args.toList.map λx=>prov g L x)) else none
    |none=>none
   |_=>none
 | .call {callee:= .value c,args,argTypes:=_}=>match calOf g L c with
   |some (f,caps,cps)=>
    bif args.toList.all (λx=>(val g L x).isSome)&&callable P f then
     some (f,(args.toList.map λx=>(rho g L x,infoOf K (prov g L x)))++capArgs K caps cps,(args.toList.map λx=>prov g L x)++cps) else none
   |none=>none
 |_=>none
def yKey:Nat:=4000000
def yieldOf (g:Option (Nat×Bool)) (L:List Ent) (o:Oper):Option (List Value×List Pr):=
 match o.op with
 | .call {callee:= .value c,args,argTypes:=_}=>match val g L c with
   |some (.func (.yield l) first caps)=>
    bif iM first.size 0&&iM caps.size 0&&args.toList.all (λx=>(val g L x).isSome) then
     some (.func (.yield l) #[] #[]::args.toList.map (λx=>rho g L x),prov g L c::args.toList.map λx=>prov g L x) else none
   |_=>none
 |_=>none
def eqFs (P:Program) (eq:TypeId→Value→Value→Option Bool) (xs ys:Array Value):List Field→Option Bool
 |[]=>some true
 |f::fs=>bif f.name=="_" then none else
  match evalS P (Go.part f.type xs f.offset),evalS P (Go.part f.type ys f.offset),eqFs P eq xs ys fs with
  |some a,some b,some s=>match eq f.type a b with
   |some r=>some (r&&s)
   |none=>none
  |_,_,_=>none
def eqIs (P:Program) (eq:TypeId→Value→Value→Option Bool) (e:TypeId) (c:Nat) (xs ys:Array Value):List Nat→Option Bool
 |[]=>some true
 |i::is=>match evalS P (Go.part e xs (i*c)),evalS P (Go.part e ys (i*c)),eqIs P eq e c xs ys is with
  |some a,some b,some s=>match eq e a b with
   |some r=>some (r&&s)
   |none=>none
  |_,_,_=>none
def eqVal (P:Program):Nat→TypeId→Value→Value→Option Bool
 |0,_,_,_=>none
 |d+1,t,x,y=>match P.underlying t,x,y with
  |some (.int _), .int k a, .int k' b=>match decEq k k' with
   | .isTrue _=>some (a==b)
   | .isFalse _=>none
  |some .bool, .bool a, .bool b=>some (a==b)
  |some (.struct fs), .agg xs, .agg ys=>bif P.stoodInHeld t then none else eqFs P (eqVal P d) xs ys fs.toList
  |some (.array n e), .agg xs, .agg ys=>match P.info? e with
   |some _=>eqIs P (eqVal P d) e (P.cellsOf e) xs ys (jQ n)
   |none=>none
  |_,_,_=>none
def eqOf (P:Program) (g:Option (Nat×Bool)) (L:List Ent) (o:Oper):Option Bool:=
 match o.op with
 | .binOp .eql t x y _=>match val g L x,val g L y with
   |some (.agg xs),some (.agg ys)=>bif P.eqGuardType P.depth t then none else eqVal P 8 t (.agg xs) (.agg ys)
   |some (.slice a _ _),some (.slice none _ _)=>match P.underlying t with
    |some (.slice _)=>some a.isNone
    |_=>none
   |_,_=>none
 | .binOp .neq t x y _=>match val g L x,val g L y with
   |some (.agg xs),some (.agg ys)=>bif P.eqGuardType P.depth t then none else (eqVal P 8 t (.agg xs) (.agg ys)).map (!·)
   |some (.slice a _ _),some (.slice none _ _)=>match P.underlying t with
    |some (.slice _)=>some (!a.isNone)
    |_=>none
   |_,_=>none
 |_=>none
def setFromP (ps:List Pr) (off:Nat):List Pr→List Pr
 |[]=>ps
 |q::qs=>setFromP (ps.set off q) (off+1) qs
def pfill (place:Nat→Option (Nat×Nat)):List Pr→List (Nat×Value×Pr)→List Pr
 |ps,[]=>ps
 |ps,(i,v,p)::r=>match place i with
  |some (off,_)=>pfill place (setFromP ps off (cellsPr v p)) r
  |none=>ps
def placesP (P:Program):List Field→Option (List (Nat×Nat))
 |[]=>some []
 |f::fs=>match sizeP P f.type,placesP P fs with
  |some n,some r=>some ((f.offset,n)::r)
  |_,_=>none
def buildPr (P:Program) (g:Option (Nat×Bool)) (L:List Ent) (t:TypeId) (parts:List (Nat×Operand)):Pr:=
 match P.underlying t,P.info? t with
 |some (.struct fs),some i=>match placesP P fs.toList,i.zero with
  |some pl,some z=>mkMany (pfill (pl[·]?) (nos z.cells.size) (parts.map λx=>(x.1,rho g L x.2,prov g L x.2)))
  |_,_=> .no
 |_,_=> .no
def partPr (P:Program) (t:TypeId) (f:Nat) (p:Pr):Pr:=
 match P.underlying t,p with
 |some (.struct fs), .many ps=>match fs[f]? with
  |some fd=>match aggB P fd.type,sizeP P fd.type with
   |some true,some n=>mkMany ((ps.drop fd.offset).take n)
   |some false,_=>ps.getD fd.offset .no
   |_,_=> .no
  |none=> .no
 |_,_=> .no
def tupPr (i:Nat):Pr→Pr
 | .many ps=>ps.getD i .no
 |_=> .no
def alonePr (P:Program) (g:Option (Nat×Bool)) (L:List Ent) (o:Oper):Pr:=
 match o.op with
 | .build t parts=>buildPr P g L t parts.toList
 | .field t x f=>partPr P t f (prov g L x)
 | .extract x i=>tupPr i (prov g L x)
 | .makeInterface t x=>match prov g L x with
   | .no=> .no
   |p=>bif P.concrete t then .box p else .no
 | .makeFunc _ _ caps=>mkMany (caps.toList.map λx=>prov g L x)
 | .nilCheck x=>match val g L x with
   |some (.pointer (some _))=>prov g L x
   |_=> .no
 |_=> .no
def sAt (s:ByteArray) (i:Int):Int:=match s[i.toNat]? with
 |some b=>(b.toNat:Int)
 |none=>0
def findRo {σ:Type} (b:Nat):Nat→List (Chunk σ)→Option (Nat×Nat×List Col)
 |_,[]=>none
 |k, .ro (some ⟨b',0,none⟩) n _ cols::r=>bif iM b b'&&!(fzB cols) then some (k,n,cols) else findRo b (k+1) r
 |k,_::r=>findRo b (k+1) r
def qstep {σ:Type} (P:Program) (T:List (Nat×Entry σ)) (g:Option (Nat×Bool)) (L:List Ent) (K:List (Chunk σ)) (o:Oper):Option (Value×Pr×List Prop):=
 match o.op with
 | .move x| .assign x=>match val g L x with
   |some v=>some (v,prov g L x,[])
   |none=>none
 | .pick c a b=>match pickVal g L c a b with
   |some v=>some (v, .no,[])
   |none=>none
 | .load t x=>match prov g L x with
   | .pt k (.cell off)=>match K[k]? with
     |some (.cells _ _ cs)=>match cellsLoad P t cs off with
      |some (v,p)=>some (v,p,[])
      |none=>none
     |some (.roc _ _ vs)=>match cellsLoad P t (vs.map λv=>(v, .no)) off with
      |some (v,_)=>some (v, .no,[])
      |none=>none
     |_=>none
   | .pt k (.elem i off)=>match K[k]? with
     |some (.row _ _ _ _ cols)=>match rowLoad P t cols i off with
      |some v=>some (v, .no,[])
      |none=>none
     |some (.ro _ _ _ cols)=>bif slB cols then none else match rowLoad P t cols i off with
      |some v=>some (v, .no,[])
      |none=>none
     |_=>none
   |_=>none
 | .fieldAddr s x f=>match P.underlying s,prov g L x with
   |some (.struct fields), .pt k pk=>match fields[f]?,val g L x with
    |some fd,some (.pointer q)=>match sizeP P fd.type with
     |some (_+1)=>match pk with
      | .cell off=>match q with
        |some a=>some (.pointer (some (a.add fd.offset)), .pt k (.cell (off+fd.offset)),[])
        |none=>none
      | .elem i off=>match K[k]? with
        |some .dead=>none
        |_=>some (.pointer (q.map (·.add fd.offset)), .pt k (.elem i (off+fd.offset)),[])
      |_=>none
     |_=>none
    |_,_=>none
   |_,_=>none
 | .indexAddr t x ix=>match P.underlying t,prov g L x,val g L x,val g L ix with
   |some (.slice e), .pt k .slice,some (.slice a n _),some (.int _ i)=>match sizeP P e,K[k]? with
    |some sz,some (.row _ _ _ _ cols)=>bif iM sz cols.length then some (.pointer (a.map λa=>a.add (i.toNat*sz)), .pt k (.elem i.toNat 0),[gimp g L (0≤i∧i<(n:Int))]) else none
    |some sz,some (.ro _ _ _ cols)=>bif iM sz cols.length then some (.pointer (a.map λa=>a.add (i.toNat*sz)), .pt k (.elem i.toNat 0),[gimp g L (0≤i∧i<(n:Int))]) else none
    |_,_=>none
   |some (.array len e), .pt k (.cell off),some (.pointer (some a)),some (.int _ i)=>match ix,sizeP P e with
    | .const _,some sz=>bif decide (0≤i)&&decide (i<(len:Int)) then some (.pointer (some (a.add (i.toNat*sz))), .pt k (.cell (off+i.toNat*sz)),[]) else none
    | .tmp _,some sz=>some (.pointer (some (a.add (i.toNat*sz))), .pt k (.cell (off+i.toNat*sz)),[gimp g L (0≤i∧i<(len:Int))])
    |_,_=>none
   |some (.array len e), .pt k (.elem j off),some (.pointer q),some (.int _ i)=>match sizeP P e,K[k]? with
    |some sz,some (.ro _ _ _ _)=>some (.pointer (q.map λa=>a.add (i.toNat*sz)), .pt k (.elem j (off+i.toNat*sz)),[gimp g L (0≤i∧i<(len:Int))])
    |_,_=>none
   |some (.array len e), .no,some (.pointer (some a)),some (.int _ i)=>match x,sizeP P e with
    | .global b,some sz=>match findRo b 0 K with
      |some (k,n,cols)=>bif iM n len&&iM sz cols.length then some (.pointer (some (a.add (i.toNat*sz))), .pt k (.elem i.toNat 0),[gimp g L (0≤i∧i<(len:Int))]) else none
      |none=>none
    |_,_=>none
   |_,_,_,_=>none
 | .index t x ix=>match P.underlying t,val g L x,val g L ix with
   |some .string,some (.string s),some (.int _ i)=>some (.int .u8 (sAt s i), .no,[gimp g L (0≤i∧i<(s.size:Int))])
   |_,_,_=>none
 | .binOp .quo _ x (.tmp y) _=>match val g L x,val g L (.tmp y) with
   |some (.int k a),some (.int k' b)=>match decEq k k' with
    | .isTrue _=>some (.int k (k.wrap (a.tdiv b)), .no,[gimp g L (b≠0)])
    | .isFalse _=>none
   |_,_=>none
 | .binOp .rem _ x (.tmp y) _=>match val g L x,val g L (.tmp y) with
   |some (.int k a),some (.int k' b)=>match decEq k k' with
    | .isTrue _=>some (.int k (a.tmod b), .no,[gimp g L (b≠0)])
    | .isFalse _=>none
   |_,_=>none
 | .binOp .shl _ x (.tmp y) _=>match val g L x,val g L (.tmp y) with
   |some (.int k a),some (.int _ b)=>some (.int k (k.wrap (a*2^(min b.toNat k.bits))), .no,[gimp g L (0≤b)])
   |_,_=>none
 | .binOp .shr _ x (.tmp y) _=>match val g L x,val g L (.tmp y) with
   |some (.int k a),some (.int _ b)=>some (.int k (a.fdiv (2^(min b.toNat k.bits))), .no,[gimp g L (0≤b)])
   |_,_=>none
 | .select _ _=>none
 | .store _ _ _=>none
 | .lookup t x ix ok=>match prov g L x,val g L ix,P.underlying t with
   | .pt k .map,some (.int ki i),some (.map kt et)=>match K[k]? with
     |some (.map _ kk vk f)=>match decEq ki kk,P.underlying kt,(P.info? et).bind (·.zero) with
      | .isTrue _,some (.int kk'),some (.int vk' 0)=>match decEq kk kk',decEq vk vk' with
        | .isTrue _, .isTrue _=>some (bif ok then .tuple #[.int vk ((f i).getD 0), .bool (f i).isSome] else .int vk ((f i).getD 0), .no,[])
        |_,_=>none
      |_,_,_=>none
     |_=>none
   |_,_,_=>none
 | .call {callee:= .builtin .append,args:=_,argTypes:=_}=>none
 | .slice _ _ _ _ _=>none
 |_=>match callOf P g L K o with
  |some (f,args,_)=>match lookT T f with
   |some e=>match e args with
    |some c=>match c.r c.x with
     |⟨pre,none,[],out,outp⟩=>match outp 0 with
      | .no=>some (out [], .no,pre.map (gimp g L))
      |_=>none
     |_=>none
    |_=>none
   |none=>none
  |none=>match eqOf P g L o with
   |some b=>some (.bool b, .no,[])
   |none=>bif o.op.operands.all (λx=>(val g L x).isSome) then
     match evalS P (execOp (rho g L) o) with
     |some (.value v)=>some (v,alonePr P g L o,[])
     |_=>none
    else none
def addEnt (d:Option Nat) (g:Option (Nat×Bool)) (v:Value) (p:Pr) (L:List Ent):List Ent:=
 match d with
 |some d=>⟨d,g,v,p⟩::del d L
 |none=>L
def sub (B:Code):List Nat→Code
 |[]=>B
 |d::p=>match sub B p,d with
  | .seq a _,0=>a
  | .seq _ b,_=>b
  | .cond _ a _,0=>a
  | .cond _ _ b,_=>b
  | .block _ c,_=>c
  | .loop c,_=>c
  | .scope c,_=>c
  | .rangeFunc _ _ a _,0=>a
  | .rangeFunc _ _ _ b,_=>b
  |c,_=>c
def opsOf:Code→Array Oper
 | .region _ ops _=>ops
 |_=> #[]
inductive Ab where
 |code (p:List Nat)
 |ops (p:List Nat) (i:Nat)
 |blk (id:Nat)
 |again (p:List Nat)
 |scp (p:List Nat)
 |lst (p:List Nat) (is:List Nat)
 |raw (i:Item)
def exitAb (id:Nat):List Ab→Option (List Ab)
 | .blk id'::k=>bif id'==id then some k else exitAb id k
 | .raw _::_=>none
 |_::k=>exitAb id k
 |[]=>none
inductive Tree (σ:Type) where
 |ret (v:Value) (p:Pr) (K:List (Chunk σ))
 |br (t:Bool) (a b:Tree σ)
 |need (p:Prop) (t:Tree σ)
 |bind {α:Type} (x:α) (t:α→Tree σ)
 |fresh (t:Nat→Tree σ)
 |freshS (t:Option Nat→Nat→Tree σ)
 |two (a b:Tree σ)
 |stuck (todo:List Ab) (L:List Ent) (K:List (Chunk σ))
def needs {σ:Type}:List Prop→Tree σ→Tree σ
 |[],t=>t
 |p::ps,t=> .need p (needs ps t)
def bindT {σ:Type}:Tree σ→(Value→Pr→List (Chunk σ)→Tree σ)→Tree σ
 | .ret v p K,k=>k v p K
 | .br t a b,k=> .br t (bindT a k) (bindT b k)
 | .need p t,k=> .need p (bindT t k)
 | .bind x t,k=> .bind x λa=>bindT (t a) k
 | .fresh t,k=> .fresh λb=>bindT (t b) k
 | .freshS t,k=> .freshS λa c=>bindT (t a c) k
 | .two a b,k=> .two (bindT a k) (bindT b k)
 | .stuck td L K,_=> .need False (.stuck td L K)
def resVals {σ:Type} (P:Program) (L:List Ent) (K:List (Chunk σ)):List ResultVar→Option (List (Value×Pr))
 |[]=>some []
 | .tmp t::r=>match val none L (.tmp t),resVals P L K r with
   |some v,some vs=>some ((v,prov none L (.tmp t))::vs)
   |_,_=>none
 | .cell a t::r=>match prov none L (.tmp a),resVals P L K r with
   | .pt k (.cell off),some vs=>match K[k]? with
     |some (.cells _ _ cs)=>match cellsLoad P t cs off with
      |some (v,p)=>some ((v,p)::vs)
      |none=>none
     |_=>none
   |_,_=>none
def gs (n:Nat) (ops:Array Oper) (o:Oper):Option (Option (Nat×Bool)):=
 match o.dst with
 |some d=>bif oD d n then
   match gslot ops o with
   |some g=>bif gIs d g then none else some g
   |none=>none
  else none
 |none=>gslot ops o
def qall {σ:Type} (P:Program) (T:List (Nat×Entry σ)) (n:Nat) (ops:Array Oper) (K:List (Chunk σ)):List Oper→List Ent→Option (List Ent×List Prop)
 |[],L=>some (L,[])
 |o::r,L=>match gs n ops o with
  |none=>none
  |some g=>match qstep P T g L K o with
   |none=>none
   |some (v,p,ps)=>match qall P T n ops K r (addEnt o.dst g v p L) with
    |none=>none
    |some (L',ps')=>some (L',ps++ps')
def keepL (ks:List Nat):List Ent→List Ent
 |[]=>[]
 |e::r=>bif ks.any (iM e.s) then e::keepL ks r else keepL ks r
def setFrom {α:Type} (cs:List α) (off:Nat):List α→List α
 |[]=>cs
 |v::vs=>setFrom (cs.set off v) (off+1) vs
def oneB:Value→Bool
 | .agg _=>false
 | .tuple _=>false
 |_=>true
def oneCells (vs:List Value):Bool:=vs.all oneB
def setCol:Col→Nat→Value→Option Col
 | .ints k xs,i, .int k' x=>match decEq k k' with
   | .isTrue _=>some (.ints k (xs.set i x))
   | .isFalse _=>none
 | .bools xs,i, .bool x=>some (.bools (xs.set i x))
 | .vals xs,i,v=>bif oneB v then some (.vals (xs.set i v)) else none
 |_,_,_=>none
def setCols (i:Nat):Nat→List Col→List Value→Option (List Col)
 |_,cs,[]=>some cs
 |0,c::cs,v::vs=>match setCol c i v,setCols i 0 cs vs with
  |some c',some cs'=>some (c'::cs')
  |_,_=>none
 |off+1,c::cs,vs=>match setCols i off cs vs with
  |some cs'=>some (c::cs')
  |none=>none
 |_,[],_::_=>none
def colsT (P:Program):Nat→TypeId→Option (List Col)
 |0,_=>none
 |d+1,t=>match P.underlying t with
  |some (.int k)=>some [.ints k []]
  |some .bool=>some [.bools []]
  |some (.struct fs)=>go (colsT P d) fs.toList
  |some (.array m e)=>match colsT P d e with
   |some cs=>some (List.replicate m cs).flatten
   |none=>none
  |some _=>some [.vals []]
  |none=>none
where
 go (f:TypeId→Option (List Col)):List Field→Option (List Col)
  |[]=>some []
  |fd::fs=>match f fd.type,go f fs with
   |some a,some b=>some (a++b)
   |_,_=>none
def pushCol:Col→Value→Option Col
 | .ints k xs, .int k' x=>match decEq k k' with
   | .isTrue _=>some (.ints k (xs++[x]))
   | .isFalse _=>none
 | .bools xs, .bool x=>some (.bools (xs++[x]))
 | .vals xs,v=>bif oneB v then some (.vals (xs++[v])) else none
 |_,_=>none
def pushRow:List Col→List Value→Option (List Col×List Value)
 |[],r=>some ([],r)
 |c::cs,v::r=>match pushCol c v,pushRow cs r with
  |some c',some (cs',r')=>some (c'::cs',r')
  |_,_=>none
 |_::_,[]=>none
def toRows:Nat→List Col→List Value→Option (List Col)
 |0,cols,[]=>some cols
 |0,_,_::_=>none
 |n+1,cols,vs=>match pushRow cols vs with
  |some (cols',r)=>toRows n cols' r
  |none=>none
def repCol (n:Nat):Col→Option Col
 | .ints k [x]=>some (.ints k (List.replicate n x))
 | .bools [x]=>some (.bools (List.replicate n x))
 | .vals [v]=>some (.vals (List.replicate n v))
 |_=>none
def repCols (n:Nat):List Col→Option (List Col)
 |[]=>some []
 |c::cs=>match repCol n c,repCols n cs with
  |some c',some cs'=>some (c'::cs')
  |_,_=>none
def appCol:Col→Col→Option Col
 | .ints k xs, .ints k' ys=>match decEq k k' with
   | .isTrue _=>some (.ints k (xs++ys))
   | .isFalse _=>none
 | .bools xs, .bools ys=>some (.bools (xs++ys))
 | .vals xs, .vals ys=>some (.vals (xs++ys))
 | .ints k xs, .fz ys=>match decEq k .i64 with
   | .isTrue _=>some (.ints k (xs++ys))
   | .isFalse _=>none
 | .vals xs, .sls ys=>some (.vals (xs++ys.map MJ))
 |_,_=>none
def appCols:List Col→List Col→Option (List Col)
 |[],[]=>some []
 |c::cs,d::ds=>match appCol c d,appCols cs ds with
  |some e,some es=>some (e::es)
  |_,_=>none
 |_,_=>none
def colB:Col→Bool
 | .vals _=>false
 |_=>true
def partVals (L:List Ent):List (Nat×Operand)→Option (List (Nat×Value))
 |[]=>some []
 |(i,x)::r=>match val none L x,partVals L r with
  |some v,some vs=>some ((i,v)::vs)
  |_,_=>none
def sliceVal (a:Option Nat) (n cap:Nat):Value:= .slice (a.map λb=>⟨b,0,none⟩) n cap
def freshRows {σ:Type}:List (Mk σ)→(List (Option Nat×Nat)→Tree σ)→Tree σ
 |[],k=>k []
 | .row _ _::rs,k=> .freshS λa cap=>freshRows rs λacs=>k ((a,cap)::acs)
 | .obj _::rs,k=> .fresh λb=>freshRows rs λacs=>k ((some b,0)::acs)
def sliceV {σ:Type} (r:Mk σ) (ac:Option Nat×Nat):Value:=
 match r with
 | .row _ cols=>bif fzB cols then .slice (ac.1.map decA) (lenC cols) ac.2 else sliceVal ac.1 (lenC cols) ac.2
 | .obj _=> .pointer (ac.1.map λb=>⟨b,0,none⟩)
def sliceC {σ:Type} (r:Mk σ) (ac:Option Nat×Nat):Chunk σ:=
 match r with
 | .row t cols=>bif fzB cols then .ro (ac.1.map decA) (lenC cols) ac.2 cols else .row ac.1 t (lenC cols) ac.2 cols
 | .obj s=>match ac.1 with
   |some b=> .obj ⟨b,0,none⟩ s
   |none=> .dead
def acOk {σ:Type} (r:Mk σ) (ac:Option Nat×Nat):Prop:=
 match r with
 | .row _ _=>True
 | .obj _=>∃b,ac=(some b,0)
def acsOk {σ:Type}:List (Mk σ)→List (Option Nat×Nat)→Prop
 |[],[]=>True
 |r::rs,ac::acs=>acOk r ac∧acsOk rs acs
 |_,_=>False
def mupd (f:Int→Option Int) (i v:Int):Int→Option Int:= λx=>bif x==i then some v else f x
def mnil:Int→Option Int:= λ_=>none
def mapKs (P:Program) (t:TypeId):Option (IntKind×IntKind):=
 match P.underlying t with
 |some (.map kt et)=>match P.underlying kt,P.underlying et with
  |some (.int kk),some (.int vk)=>some (kk,vk)
  |_,_=>none
 |_=>none
def appDest {σ:Type} (P:Program) (L:List Ent) (K:List (Chunk σ)) (e:TypeId) (x:Operand):Option (Option Nat×Nat×List Col):=
 match prov none L x,val none L x with
 | .no,some (.slice none 0 0)=>match colsT P 4 e with
   |some cols=>some (none,0,cols)
   |none=>none
 | .pt k .slice,some (.slice _ _ _)=>match K[k]? with
   |some (.row _ t n _ cols)=>bif iM t e then some (some k,n,cols) else none
   |_=>none
 |_,_=>none
def appSrc {σ:Type} (L:List Ent) (K:List (Chunk σ)) (x:Operand):Option (Nat×Nat×List Col):=
 match val none L x,prov none L x with
 |some (.slice _ _ _), .pt k .slice=>match K[k]? with
  |some (.row _ _ n _ cols)=>some (k,n,cols)
  |some (.ro _ n _ cols)=>some (k,n,cols)
  |_=>none
 |_,_=>none
def takeCol (n:Nat):Col→Col
 | .ints k xs=> .ints k (xs.take n)
 | .bools xs=> .bools (xs.take n)
 | .vals xs=> .vals (xs.take n)
 | .fz xs=> .fz (xs.take n)
 | .sls xs=> .sls (xs.take n)
def dropCol (n:Nat):Col→Col
 | .ints k xs=> .ints k (xs.drop n)
 | .bools xs=> .bools (xs.drop n)
 | .vals xs=> .vals (xs.drop n)
 | .fz xs=> .fz (xs.drop n)
 | .sls xs=> .sls (xs.drop n)
def dropA (ra:Option Addr) (cap i sz:Nat):Option Addr:=bif iM cap i then ra else ra.map (·.add (i*sz))
def neK:Option Nat→Nat→Bool
 |some k,j=>!(iM k j)
 |none,_=>true
def killK {σ:Type} (K:List (Chunk σ)):Option Nat→List (Chunk σ)
 |some k=>K.set k .dead
 |none=>K
def lenOf (P:Program) (L:List Ent) (o:Oper):Option Value:=
 match o.op with
 | .call {callee:= .builtin .len,args:=_,argTypes:=_}=>bif o.op.operands.all (λx=>(val none L x).isSome) then
    match evalS P (execOp (rho none L) o) with
    |some (.value (.int k x))=>some (.int k x)
    |_=>none
   else none
 |_=>none
def slChs {σ:Type} (i:Nat):List Col→Option (List (Chunk σ))
 |[]=>some []
 | .sls xs::cs=>match slChs i cs with
   |some l=>some (.ro (slA (xs.getD i 0)) (slR (xs.getD i 0)).length (slC (xs.getD i 0)) [.fz (slR (xs.getD i 0))]::l)
   |none=>none
 |_=>none
def slPrs:Nat→List Col→List Pr
 |_,[]=>[]
 |k,_::cs=> .pt k .slice::slPrs (k+1) cs
def loadSl {σ:Type} (P:Program) (t:TypeId) (cols:List Col) (i off k:Nat):Option (Value×Pr×List (Chunk σ)):=
 match aggB P t,sizeP P t with
 |some true,some n=>bif kH (off+n) cols.length then (match slChs i ((cols.drop off).take n) with
  |some chs=>some (.agg (((cols.drop off).take n).map (·.at i)).toArray,mkMany (slPrs k ((cols.drop off).take n)),chs)
  |none=>none) else none
 |some false,_=>match cols[off]? with
  |some c=>(match slChs i [c] with
   |some chs=>some (c.at i, .pt k .slice,chs)
   |none=>none)
  |none=>none
 |_,_=>none
def estep {σ:Type} (P:Program) (T:List (Nat×Entry σ)) (ext:Nat→List (Value×Pr)→List (Chunk σ)→Option (Tree σ)) (L:List Ent) (K:List (Chunk σ)) (o:Oper) (k:Value→Pr→List (Chunk σ)→Tree σ):Option (Tree σ):=
 match o.op with
 | .makeMap t none=>match mapKs P t with
   |some (kk,vk)=>some (.fresh λb=>k (.map (some b)) (.pt K.length .map) (K++[.map b kk vk mnil]))
   |none=>none
 | .mapUpdate t m i x=>match prov none L m,val none L i,val none L x,mapKs P t with
   | .pt c .map,some (.int ki iv),some (.int kx xv),some (kk0,vk0)=>match K[c]? with
     |some (.map b kk vk f)=>match decEq ki kk,decEq kx vk,decEq kk0 kk with
      | .isTrue _, .isTrue _, .isTrue _=>some (k undef .no (K.set c (.map b kk vk (mupd f iv xv))))
      |_,_,_=>none
     |_=>none
   |_,_,_,_=>none
 | .call {callee:= .builtin .clear,args:=⟨[m]⟩,argTypes:=⟨[t]⟩}=>match prov none L m,mapKs P t with
   | .pt c .map,some _=>match K[c]? with
     |some (.map b kk vk _)=>some (k (.tuple #[]) .no (K.set c (.map b kk vk mnil)))
     |_=>none
   |_,_=>none
 | .box t x=>match val none L x with
   |some v=>bif oneCells v.cells.toList then some (.fresh λb=>k (.pointer (some ⟨b,0,none⟩)) (.pt K.length (.cell 0)) (K++[.cells b t (cellsOf2 v (prov none L x))])) else none
   |none=>none
 | .alloc t=>match P.info? t with
   |some i=>match i.zero with
    |some v=>bif oneCells v.cells.toList then some (.fresh λb=>k (.pointer (some ⟨b,0,none⟩)) (.pt K.length (.cell 0)) (K++[.cells b t (cellsOf2 v .no)])) else none
    |none=>none
   |none=>none
 | .store t x y=>match prov none L x,val none L y,sizeP P t with
   | .pt c (.cell off),some v,some n=>match K[c]? with
     |some (.cells b t0 cs)=>
      bif iM v.cells.size n&&kH (off+n) cs.length&&oneCells v.cells.toList then some (k undef .no (K.set c (.cells b t0 (setFrom cs off (cellsOf2 v (prov none L y)))))) else none
     |_=>none
   | .pt c (.elem i off),some v,some n=>match K[c]? with
     |some (.row a t0 m cap cols)=>
      bif iM v.cells.size n&&kH 1 n then match setCols i off cols v.cells.toList with
       |some cols'=>some (k undef .no (K.set c (.row a t0 m cap cols')))
       |none=>none
      else none
     |_=>none
   |_,_,_=>none
 | .buildSlice t len parts=>match P.underlying t with
   |some (.slice e)=>match sizeP P e,colsT P 4 e,P.info? e,partVals L parts.toList with
    |some sz,some cols,some ei,some vals=>match ei.zero with
     |some z=>match Instr.fill (λi=>some (i*sz,sz)) ((Array.range (len*sz)).map ((bif iM (len*sz) 0 then #[] else z.cells)[· %(bif iM (len*sz) 0 then #[] else z.cells).size]!)) vals with
      |some cells=>match toRows len cols cells.toList with
       |some cols'=>bif iM sz cols.length&&kH 1 sz&&kH (len*sz) 16777216 then
         some (.fresh λb=>k (sliceVal (some b) len len) (.pt K.length .slice) (K++[.row (some b) e len len cols'])) else none
       |none=>none
      |none=>none
     |none=>none
    |_,_,_,_=>none
   |_=>none
 | .makeSlice t l c=>match P.underlying t,val none L l,val none L c with
   |some (.slice e),some (.int _ li),some (.int _ ci)=>match P.info? e,colsT P 4 e with
    |some ei,some cols=>match ei.zero with
     |some z=>match pushRow cols z.cells.toList with
      |some (cols1,[])=>match repCols li.toNat cols1 with
       |some cols'=>bif iM ei.size cols.length&&kH 1 ei.size&&kH 1 ei.bytes&&iM z.cells.size ei.size then
         some (.need (0≤li∧li≤ci∧(ei.bytes:Int)*ci≤140737488355328) (.fresh λb=>k (sliceVal (some b) li.toNat ci.toNat) (.pt K.length .slice) (K++[.row (some b) e li.toNat ci.toNat cols']))) else none
       |none=>none
      |_=>none
     |none=>none
    |_,_=>none
   |_,_,_=>none
 | .call {callee:= .builtin .append,args:=⟨[s,x]⟩,argTypes:=⟨[t,t']⟩}=>match P.underlying t with
   |some (.slice e)=>match P.info? e,appDest P L K e s,appSrc L K x with
    |some ei,some (kd,n,cols),some (ks,m,cols2)=>match ei.zero,appCols cols cols2 with
     |some z,some cols'=>bif iM t t'&&neK kd ks&&iM ei.size cols.length&&iM ei.size cols2.length&&kH 1 ei.size&&kH 1 ei.bytes&&iM z.cells.size ei.size&&cols2.all colB then
       some (.need ((n+m)*ei.bytes≤140737488355328) (.freshS λa cap=>k (sliceVal a (n+m) cap) (.pt K.length .slice) (killK K kd++[.row a e (n+m) cap cols']))) else none
     |_,_=>none
    |_,_,_=>none
   |_=>none
 | .load t x=>match prov none L x with
   | .pt c (.elem i off)=>match K[c]? with
     |some (.ro _ _ _ cols)=>match loadSl P t cols i off K.length with
      |some (v,p,chs)=>some (k v p (K++chs))
      |none=>none
     |_=>none
   |_=>none
 | .slice t x lo hi mx=>match lo,hi,mx with
   |none,some h,none=>match P.underlying t,prov none L x,val none L x,val none L h with
    |some (.slice e), .pt c .slice,some (.slice _ _ _),some (.int _ i)=>match sizeP P e,K[c]? with
     |some _,some (.row ra te m cap cols)=>some (.need (0≤i∧i≤(m:Int)) (k (.slice (ra.map λb=>⟨b,0,none⟩) i.toNat cap) (.pt K.length .slice) (K.set c .dead++[.row ra te i.toNat cap (cols.map (takeCol i.toNat))])))
     |some _,some (.ro ra m cap cols)=>some (.need (0≤i∧i≤(m:Int)) (k (.slice ra i.toNat cap) (.pt K.length .slice) (K++[.ro ra i.toNat cap (cols.map (takeCol i.toNat))])))
     |_,_=>none
    |_,_,_,_=>none
   |some l,none,none=>match P.underlying t,prov none L x,val none L x,val none L l with
    |some (.slice e), .pt c .slice,some (.slice _ _ _),some (.int _ i)=>match sizeP P e,K[c]? with
     |some sz,some (.ro ra m cap cols)=>bif iM sz cols.length then some (.need (0≤i∧i≤(m:Int)) (k (.slice (dropA ra cap i.toNat sz) (m-i.toNat) (cap-i.toNat)) (.pt K.length .slice) (K++[.ro (dropA ra cap i.toNat sz) (m-i.toNat) (cap-i.toNat) (cols.map (dropCol i.toNat))]))) else none
     |_,_=>none
    |_,_,_,_=>none
   |_,_,_=>none
 |_=>match callOf P none L K o with
  |some (f,args,prs)=>bif iM f yKey then none else match lookT T f with
   |some e=>match e args with
    |some c=>match objOf args,objKs prs with
     |some (q,st),[j]=>some (.bind c.x λa=>needs (c.r a).pre (freshRows (c.r a).rows λacs=>k ((c.r a).out (jI sliceV (c.r a).rows acs)) ((c.r a).outp K.length) (K.set j (.obj q ((c.r a).new.getD st))++jI sliceC (c.r a).rows acs)))
     |none,[]=>some (.bind c.x λa=>needs (c.r a).pre (freshRows (c.r a).rows λacs=>k ((c.r a).out (jI sliceV (c.r a).rows acs)) ((c.r a).outp K.length) (K++jI sliceC (c.r a).rows acs)))
     |_,_=>none
    |none=>match ext f (mP (args.map (·.1)) prs) K with
     |some t=>some (bindT t k)
     |none=>none
   |none=>match ext f (mP (args.map (·.1)) prs) K with
    |some t=>some (bindT t k)
    |none=>none
  |none=>match lenOf P L o with
   |some v=>some (k v .no K)
   |none=>match yieldOf none L o with
    |some (args,prs)=>match ext yKey (mP args prs) K with
     |some t=>some (bindT t k)
     |none=>none
    |none=>none
def known0 (c:Nat) (b:Bool):List Ent→List Ent
 |[]=>[]
 |e::r=>match e.g with
  |some (c',b')=>bif iM c' c then (bif b'==b then ⟨e.s,none,e.v,e.p⟩::known0 c b r else known0 c b r) else e::known0 c b r
  |none=>bif iM e.s c then ⟨c,none, .bool b, .no⟩::known0 c b r else e::known0 c b r
def known (c:Nat) (b:Bool) (L:List Ent):List Ent:=⟨1000000+c,none,undef, .no⟩::known0 c b L
def guardTree {σ:Type} (mk t b:Bool) (A S:Tree σ):Tree σ:=bif mk then (bif t==b then A else S) else (bif b then .br t A S else .br t S A)
def nopOf (o:Oper):Oper:={o with op:= .move (.const undef),dst:=none}
def nopAt (ops:Array Oper) (m:Nat):Array Oper:=
 match ops[m]? with
 |some o=>ops.setIfInBounds m (nopOf o)
 |none=>ops
def lastB (ops:Array Oper) (m:Nat):Bool:=
 match ops[m]? with
 |some om=>iM ops.size (m+1)&&om.guard.isNone&&(jQ m).all (λj=>om.after.any λe=>Region.binds .any e&&iM e.on j)&&
   ops.all (λo=>match o.guard with|some (j,_)=>!(iM j m)|none=>true)&&
   (jQ ops.size).all (λi=>((ops[i]?).map (·.after.all λe=>!Region.binds .any e||oD e.on i)).getD false)&&pY .any (nopAt ops m)
 |none=>false
def nopFrom (ops:Array Oper) (m:Nat):Array Oper:=ops.mapIdx λi o=>bif kH m i then nopOf o else o
def depsOf (ops:Array Oper) (i:Nat):List Nat:=
 match ops[i]? with
 |some o=>(o.after.toList.filter λe=>Region.binds .any e).map (·.on)
 |none=>[]
def sweep (ops:Array Oper):Nat→List Nat→List Nat
 |0,S=>S
 |j+1,S=>sweep ops j (bif S.any (iM j) then depsOf ops j++S else S)
def reached (ops:Array Oper) (m:Nat):List Nat:=sweep ops m (depsOf ops m)
def tailOk (ops:Array Oper) (u m:Nat):Bool:=
 oD m ops.size&&((jQ m).all (λi=>iM i u||(reached ops m).any (iM i))&&
 ((jQ ops.size).all (λi=>kH i m||(depsOf ops i).any (iM (i-1)))&&
 ((iM u ops.size||((depsOf ops (m+1)).any (iM u)&&oD u m))&&
 (ops.all (λo=>match o.guard with|some (j,_)=>oD j m|none=>true)&&
 ((jQ ops.size).all (λi=>(oD i m&&!(iM i u))||((ops[i]?).map (·.guard.isNone)).getD false)&&
 ((jQ ops.size).all (λi=>((ops[i]?).map (·.after.all λe=>!Region.binds .any e||oD e.on i)).getD false)&&pY .any (nopFrom ops m)))))))
def firstBad {σ:Type} (P:Program) (T:List (Nat×Entry σ)) (n:Nat) (ops:Array Oper) (K:List (Chunk σ)):Nat→List Oper→List Ent→Option Nat
 |_,[],_=>none
 |i,o::r,L=>match gs n ops o with
  |none=>none
  |some g=>match qstep P T g L K o with
   |none=>some i
   |some (v,p,_)=>firstBad P T n ops K (i+1) r (addEnt o.dst g v p L)
def isAt:Option Nat→Nat→Bool
 |some m,i=>iM m i
 |none,_=>false
def lateOf (ops:Array Oper) (m:Nat):Nat:=((jQ m).find? λi=>!(reached ops m).any (iM i)).getD ops.size
def hasN (i:Nat) (l:List Nat):Bool:=l.any (iM i)
def rmv (j:Nat) (l:List Nat):List Nat:=l.filter λx=>!(iM x j)
def tmpsOf:List Operand→List Nat
 | .tmp t::r=>t::tmpsOf r
 |_::r=>tmpsOf r
 |[]=>[]
def rdOf (ops:Array Oper) (o:Oper):List Nat:=tmpsOf o.op.operands.toList++(match gslot ops o with|some (some (c,_))=>[c]|_=>[])
def rdM (ops:Array Oper) (o:Oper):List Nat:=rdOf ops o++(rdOf ops o).map (1000000+ ·)
def gIn (rd:List Nat):Option (Nat×Bool)→Bool
 |none=>true
 |some (c,_)=>hasN c rd
def keepR (rd:List Nat):List Ent→List Ent
 |[]=>[]
 |e::r=>bif hasN e.s rd&&gIn rd e.g then e::keepR rd r else keepR rd r
def frzC {σ:Type}:Chunk σ→Chunk σ
 | .roc b t vs=> .roc b t vs
 | .ro a n cap cols=>bif fzB cols then .dead else .ro a n cap cols
 |_=> .dead
def frz {σ:Type} (K:List (Chunk σ)):List (Chunk σ):=K.map frzC
def frsC {σ:Type}:Chunk σ→Chunk σ
 | .roc b t vs=> .roc b t vs
 | .ro a n cap cols=>bif fzB cols then .dead else .ro a n cap cols
 | .cells b t cs=> .cells b t cs
 |_=> .dead
def frs {σ:Type} (K:List (Chunk σ)):List (Chunk σ):=K.map frsC
def effB (o:Oper):Bool:=
 match o.op with
 | .call _=>true
 | .store _ _ _=>true
 | .alloc _=>true
 | .box _ _=>true
 | .makeMap _ _=>true
 | .mapUpdate _ _ _ _=>true
 | .buildSlice _ _ _=>true
 | .makeSlice _ _ _=>true
 | .slice _ _ _ _ _=>true
 |_=>false
def effAt (ops:Array Oper) (j:Nat):Bool:=
 match ops[j]? with
 |some o=>effB o
 |none=>false
def storeAt (ops:Array Oper) (j:Nat):Bool:=
 match ops[j]? with
 |some o=>(match o.op with| .store _ _ _=>true|_=>false)
 |none=>false
def skipB (g:Option (Nat×Bool)) (L:List Ent):Bool:=
 match g with
 |some (c,b)=>(match look L c with
  |some ⟨_,none, .bool t,_⟩=>marked c L&&(t==!b)
  |some ⟨_,none, .tuple _,_⟩=>true
  |_=>false)
 |none=>false
def wrapG (g:Option (Nat×Bool)) (L L':List Ent) (p:Prop):Prop:=
 match g with
 |none=>p
 |some (c,b)=>match look L' c with
  |some _=>p
  |none=>match look L c with
   |some ⟨_,some _, .bool t,_⟩=>t=b→p
   |_=>p
def neD (d:Nat):Option Nat→Bool
 |some d'=>!(iM d d')
 |none=>true
def wideRow (ops:Array Oper) (i d:Nat):Bool:=
 (jQ ops.size).all λj=>match ops[j]? with
   |some o=>(!(hasN d (rdM ops o))||(hasN i (depsOf ops j)&&!(iM i j)))&&(iM i j||neD d o.dst)
   |none=>true
def wideOk (ops:Array Oper):Bool:=
 (jQ ops.size).all (λi=>((ops[i]?).map (·.after.all λe=>!Region.binds .any e||oD e.on i)).getD false)&&
 (jQ ops.size).all λi=>match ops[i]? with
   |some o=>(match o.dst with|some d=>wideRow ops i d|none=>true)
   |none=>true
def tryF {σ:Type} (P:Program) (T:List (Nat×Entry σ)) (n:Nat) (ops:Array Oper) (nx:Bool) (Q:List Nat) (L:List Ent) (K:List (Chunk σ)) (i:Nat):Option (Oper×Option (Nat×Bool)×Value×Pr×List Prop):=
 match ops[i]? with
 |none=>none
 |some o=>bif (depsOf ops i).any (λx=>hasN x Q) then none else
  match gs n ops o with
  |none=>none
  |some g=>bif skipB g L then some (o,none,undef, .no,[]) else
   bif effB o then none else
   match qstep P T g (keepR (rdM ops o) L) (frz K) o with
   |some (v,p,ps)=>some (o,g,v,p,ps.map (wrapG g L (keepR (rdM ops o) L)))
   |none=>bif Q.all (λj=>!(effAt ops j)||hasN i (reached ops j)) then
     (match qstep P T g (keepR (rdM ops o) L) K o with
     |some (v,p,ps)=>some (o,g,v,p,ps.map (wrapG g L (keepR (rdM ops o) L)))
     |none=>none) else
    bif nx&&Q.all (λj=>!(storeAt ops j)||hasN i (reached ops j)) then
     (match qstep P T g (keepR (rdM ops o) L) (frs K) o with
     |some (v,p,ps)=>some (o,g,v,p,ps.map (wrapG g L (keepR (rdM ops o) L)))
     |none=>none) else none
def firstF {σ:Type} (P:Program) (T:List (Nat×Entry σ)) (n:Nat) (ops:Array Oper) (nx:Bool) (Q:List Nat) (L:List Ent) (K:List (Chunk σ)):List Nat→Option (Nat×Oper×Option (Nat×Bool)×Value×Pr×List Prop)
 |[]=>none
 |i::r=>match tryF P T n ops nx Q L K i with
  |some x=>some (i,x)
  |none=>firstF P T n ops nx Q L K r
def readyQ (ops:Array Oper) (Q:List Nat):List Nat:=Q.filter λj=>!((depsOf ops j).any λx=>hasN x Q)
def twos {σ:Type} (z:Tree σ):List (Tree σ)→Tree σ
 |[]=>z
 |[t]=>t
 |t::r=> .two t (twos z r)
def markL (n:Nat):List Nat→List Ent→List Ent
 |[],L=>L
 |x::r,L=>bif kH n 1000000 then ⟨1000000+x,none,undef, .no⟩::markL n r L else markL n r L
def argEnts:Nat→List (Value×Pr)→List Ent
 |_,[]=>[]
 |i,(v,p)::r=>⟨i,none,v,p⟩::argEnts (i+1) r
def isMarked:Operand→List Ent→Bool
 | .tmp x,L=>marked x L
 | .const _,_=>true
 |_,_=>false
def wantMark (L:List Ent) (o:Oper):Bool:=
 match o.op with
 | .pick (.tmp c) a b=>marked c L&&(match look L c with
   |some ⟨_,_, .bool t,_⟩=>(match t with|true=>(match a with| .const (.bool _)=>true| .tmp x=>marked x L|_=>false)|false=>(match b with| .const (.bool _)=>true| .tmp x=>marked x L|_=>false))
   |_=>false)
 | .move (.tmp x)=>marked x L
 | .assign (.tmp x)=>marked x L
 | .move (.const _)=>true
 | .assign (.const _)=>true
 | .binOp _ _ x y _=>isMarked x L&&isMarked y L
 | .convert _ _ x=>isMarked x L
 | .unOp _ _ x=>isMarked x L
 | .call c=>c.args.all λx=>isMarked x L
 |_=>false
def unmark (o:Oper) (L:List Ent):List Ent:=
 match o.dst with
 |some d=>bif marked d L then del (1000000+d) L else L
 |none=>L
def rounds (I:List Nat):Bool:=I.any (iM 2999997)
def hooked (I:List Nat):Bool:=I.any (iM 2999996)
def unrolls (I:List Nat):Bool:=I.any (iM 2999999)
def fixMark (n:Nat) (o:Oper) (L L':List Ent):List Ent:=
 match o.dst,o.guard with
 |some d,none=>bif kH n 1000000&&wantMark L o then ⟨1000000+d,none,undef, .no⟩::L' else bif marked d L' then del (1000000+d) L' else L'
 |_,_=>L'
def wEff {σ:Type} (P:Program) (T:List (Nat×Entry σ)) (ext:Nat→List (Value×Pr)→List (Chunk σ)→Option (Tree σ)) (n:Nat) (ops:Array Oper) (z:Tree σ) (go:List Nat→List Ent→List (Chunk σ)→Tree σ) (Q:List Nat) (L:List Ent) (K:List (Chunk σ)) (j:Nat):Tree σ:=
 match ops[j]? with
 |none=>z
 |some o=>match gs n ops o with
  |none=>z
  |some g=>match effB o with
   |false=>match qstep P T g (keepR (rdM ops o) L) K o with
    |some (v,p,ps)=>needs ps (go (rmv j Q) (fixMark n o L (addEnt o.dst g v p L)) K)
    |none=>match g,o.op with
     |none, .load _ _=>(match estep P T ext (keepR (rdM ops o) L) K o (λv pr K'=>go (rmv j Q) (unmark o (addEnt o.dst none v pr L)) K') with
      |some t=>t
      |none=>z)
     |some (c,b), .load _ _=>match look L c with
      |some ⟨_,none, .bool t,_⟩=>bif kH n 1000000 then
        guardTree (marked c L) t b (match estep P T ext (keepR (rdM ops o) (known c b L)) K o (λv pr K'=>go (rmv j Q) (unmark o (addEnt o.dst none v pr (known c b L))) K') with
         |some A=>A
         |none=>z) (go (rmv j Q) (addEnt o.dst none undef .no (known c (!b) L)) K) else z
      |_=>z
     |_,_=>z
   |true=>match g with
    |none=>match estep P T ext (keepR (rdM ops o) L) K o (λv pr K'=>go (rmv j Q) (unmark o (addEnt o.dst none v pr L)) K') with
     |some t=>t
     |none=>z
    |some (c,b)=>match look L c with
     |some ⟨_,none, .bool t,_⟩=>bif kH n 1000000 then
       guardTree (marked c L) t b (match estep P T ext (keepR (rdM ops o) (known c b L)) K o (λv pr K'=>go (rmv j Q) (unmark o (addEnt o.dst none v pr (known c b L))) K') with
        |some A=>A
        |none=>z) (go (rmv j Q) (addEnt o.dst none undef .no (known c (!b) L)) K) else z
     |_=>match qstep P T g (keepR (rdM ops o) L) K o with
      |some (v,p,ps)=>needs ps (go (rmv j Q) (fixMark n o L (addEnt o.dst g v p L)) K)
      |none=>z
def wide {σ:Type} (P:Program) (T:List (Nat×Entry σ)) (ext:Nat→List (Value×Pr)→List (Chunk σ)→Option (Tree σ)) (n:Nat) (ops:Array Oper) (nx:Bool) (st:List Nat→List Ent→List (Chunk σ)→Tree σ) (kont:List Ent→List (Chunk σ)→Tree σ):
    Nat→List Nat→List Ent→List (Chunk σ)→Tree σ
 |0,Q,L,K=>st Q L K
 |m+1,Q,L,K=>match Q with
  |[]=>kont L K
  |_::_=>match firstF P T n ops nx Q L K Q with
   |some (i,o,g,v,p,ps)=>needs ps (wide P T ext n ops nx st kont m (rmv i Q) (fixMark n o L (addEnt o.dst g v p L)) K)
   |none=>twos (st Q L K) ((readyQ ops Q).map (wEff P T ext n ops (st Q L K) (wide P T ext n ops nx st kont m) Q L K))
def stopC (p:List Nat) (i:Nat):Nat:=1000000+1000*p.foldl (λa d=>4*a+d+1) 0+i
def pathN (p:List Nat):Nat:=p.foldl (λa d=>4*a+d+1) 0
def keepL0 (I:List Nat) (b:Nat):List Ent→List Ent
 |[]=>[]
 |e::r=>bif I.any (iM (b+e.s)) then e::keepL0 I b r else keepL0 I b r
def keepS (I:List Nat) (p:List Nat) (L:List Ent):List Ent:=
 bif I.any (λx=>iM (x/1000000000) (1+pathN p%9973)) then keepL0 I (1000000000*(1+pathN p%9973)) L else L
def callB (o:Oper):Bool:=
 match o.op with
 | .call {callee:= .value _, .. }=>true
 | .call {callee:= .invoke _ _, .. }=>true
 |_=>false
def qB {α:Type} (I:List Nat) (g:Option (Nat×Bool)) (o:Oper) (x:Option α):Option α:=bif I.any (iM 2999998)&&callB o&&g.isNone then none else x
theorem qB_some {α:Type} {I:List Nat} {g:Option (Nat×Bool)} {o:Oper} {x:Option α} {y:α} (h:qB I g o x=some y):x=some y:=by
 unfold qB at h
 cases hb:(I.any (iM 2999998)&&callB o&&g.isNone) with
 |true=>rw [hb] at h;cases h
 |false=>rw [hb] at h;exact h
def runY {σ:Type} (P:Program) (T:List (Nat×Entry σ)) (Y:List (Value×Pr)→List (Chunk σ)→Option (Tree σ)) (I:List Nat):Nat→Code→List ResultVar→Nat→List Ab→List Ent→List (Chunk σ)→Tree σ
 |0,_,_,_,td,L,K=> .stuck td L K
 |f+1,B,rs,n,td,L,K=>
  let ext:Nat→List (Value×Pr)→List (Chunk σ)→Option (Tree σ):= λg args K=>
   bif I.any (iM g)&&oD g 1000000 then match P.funcs[g]? with
    |some fn=>match fn.body with
     |some B'=>bif kH args.length fn.ntmps then some (runY P T Y I f B' fn.results.toList fn.ntmps [.code []] (argEnts 0 args) K) else none
     |none=>none
    |none=>none
   else bif iM g yKey&&hooked I then Y args K else none
  let finish:Tree σ:=match resVals P L K rs with
   |some [(v,p)]=> .ret v p K
   |some vs=> .ret (.tuple (vs.map (·.1)).toArray) (mkMany (vs.map (·.2))) K
   |none=> .stuck td L K
  let lastT:Array Oper→Tree σ:= λops=>match ops[ops.size-1]? with
   |some om=>bif lastB ops (ops.size-1) then (match gs n ops om with
     |some none=>match qall P T n (nopAt ops (ops.size-1)) K (nopAt ops (ops.size-1)).toList L with
      |some (L',ps)=>match estep P T ext L' K om (λv pr K'=>runY P T Y I f B rs n (td.drop 1) (addEnt om.dst none v pr L') K') with
       |some t=>needs ps t
       |none=> .stuck td L K
      |none=> .stuck td L K
     |_=> .stuck td L K) else .stuck td L K
   |none=> .stuck td L K
  let wideT:List Nat→Array Oper→Tree σ:= λp ops=>bif wideOk ops then
      wide P T ext n ops ((I.all λx=>kH 1000000 x)&&!(hooked I)) (λQ L K=> .need False (.stuck (.lst p Q::td.drop 1) L K)) (λL' K'=>runY P T Y I f B rs n (td.drop 1) L' K') (ops.size+1) (jQ ops.size) L K else .stuck td L K
  let tailT:List Nat→Array Oper→Tree σ:= λp ops=>match firstBad P T n ops K 0 ops.toList L with
   |some m=>bif tailOk ops (lateOf ops m) m then (match qall P T n (nopFrom ops m) K (nopFrom ops m).toList L with
     |some (L',ps)=>
      let A:Unit→Tree σ:= λ_=>runY P T Y I f B rs n (.lst p (lN m (ops.size-m))::td.drop 1) L' K
      bif iM (lateOf ops m) ops.size then needs ps (A ()) else match (ops[lateOf ops m]?).bind (·.dst) with
       |some d=>needs ps (.two (A ()) (runY P T Y I f B rs n (.lst p (m::lateOf ops m::lN (m+1) (ops.size-(m+1)))::td.drop 1) (del d L') K))
       |none=> .stuck td L K
     |none=>wideT p ops) else wideT p ops
   |none=>wideT p ops
  match td with
  |[]=>finish
  | .code p::k=>match sub B p with
    | .skip=>runY P T Y I f B rs n k L K
    | .seq _ _=>runY P T Y I f B rs n (.code (0::p):: .code (1::p)::k) L K
    | .cond c _ _=>match val none L c with
      |some (.bool t)=>match isMarked c L with
       |true=>match t with
        |true=>runY P T Y I f B rs n (.code (0::p)::k) L K
        |false=>runY P T Y I f B rs n (.code (1::p)::k) L K
       |false=> .br t (runY P T Y I f B rs n (.code (0::p)::k) L K) (runY P T Y I f B rs n (.code (1::p)::k) L K)
      |_=> .stuck td L K
    | .block id _=>runY P T Y I f B rs n (.code (0::p):: .blk id::k) L K
    | .exit id=>match exitAb id k with
      |some k'=>runY P T Y I f B rs n k' L K
      |none=> .stuck td L K
    | .ret=>finish
    | .region _ _ false=>runY P T Y I f B rs n (.ops p 0::k) L K
    | .region _ ops true=>match I.any (iM (stopC p 900)) with
      |true=> .stuck td L K
      |false=>match (bif pY .any ops&&!(rounds I) then qall P T n ops K ops.toList L else none) with
       |some (L',ps)=>needs ps (runY P T Y I f B rs n k L' K)
       |none=>bif lastB ops (ops.size-1)&&isAt (firstBad P T n ops K 0 ops.toList L) (ops.size-1) then lastT ops else tailT p ops
    | .scope _=>runY P T Y I f B rs n (.code (0::p):: .scp p::k) L K
    | .label _=>runY P T Y I f B rs n k L K
    | .loop _=>match unrolls I with
      |true=>runY P T Y I f B rs n (.code (0::p):: .again p::k) L K
      |false=> .stuck td (keepS I p L) K
    |_=> .stuck td L K
  | .blk _::k=>runY P T Y I f B rs n k L K
  | .raw _::_=> .stuck td L K
  | .scp _::k=>runY P T Y I f B rs n k L K
  | .again p::k=>match unrolls I with
    |true=>runY P T Y I f B rs n (.code (0::p):: .again p::k) L K
    |false=> .stuck td L K
  | .lst _ []::k=>runY P T Y I f B rs n k L K
  | .lst p (i::is)::k=>match (opsOf (sub B p))[i]? with
    |none=> .stuck td L K
    |some o=>match gs n (opsOf (sub B p)) o with
     |none=> .stuck td L K
     |some g=>match qstep P T g L K o with
      |some (v,pr,ps)=>needs ps (runY P T Y I f B rs n (.lst p is::k) (fixMark n o L (addEnt o.dst g v pr L)) K)
      |none=>match g with
       |some _=> .stuck td L K
       |none=>match estep P T ext L K o (λv pr K'=>runY P T Y I f B rs n (.lst p is::k) (unmark o (addEnt o.dst none v pr L)) K') with
        |some t=>t
        |none=> .stuck td L K
  | .ops p i::k=>match I.any (iM (stopC p i)) with
    |true=> .stuck td L K
    |false=>match (opsOf (sub B p))[i]? with
     |none=>runY P T Y I f B rs n k L K
     |some o=>match gs n (opsOf (sub B p)) o with
      |none=> .stuck td L K
      |some g=>match qB I g o (qstep P T g L K o) with
       |some (v,pr,ps)=>needs ps (runY P T Y I f B rs n (.ops p (i+1)::k) (fixMark n o L (addEnt o.dst g v pr L)) K)
       |none=>match g with
        |some (c,b)=>match look L c with
         |some ⟨_,none, .bool t,_⟩=>bif kH n 1000000 then
           guardTree (marked c L) t b (match estep P T ext (known c b L) K o (λv pr K'=>runY P T Y I f B rs n (.ops p (i+1)::k) (unmark o (addEnt o.dst none v pr (known c b L))) K') with
            |some A=>A
            |none=> .stuck td L K) (runY P T Y I f B rs n (.ops p (i+1)::k) (addEnt o.dst none undef .no (known c (!b) L)) K) else .stuck td L K
         |_=> .stuck td L K
        |none=>match estep P T ext L K o (λv pr K'=>runY P T Y I f B rs n (.ops p (i+1)::k) (unmark o (addEnt o.dst none v pr L)) K') with
         |some t=>t
         |none=> .stuck td L K
@[reducible] def run {σ:Type} (P:Program) (T:List (Nat×Entry σ)) (I:List Nat):=runY P T (λ_ _=>none) I
def Tree.holds {σ:Type} (R:Value→Pr→List (Chunk σ)→Prop) (S:List Ab→List Ent→List (Chunk σ)→Prop):Tree σ→Prop
 | .ret v p K=>R v p K
 | .br t a b=>(t=true→a.holds R S)∧(t=false→b.holds R S)
 | .need p t=>p∧(p→t.holds R S)
 | .bind x t=>∀a,a=x→(t a).holds R S
 | .fresh t=>∀b,(t b).holds R S
 | .freshS t=>∀a c,(t a c).holds R S
 | .two a b=>a.holds R S∧b.holds R S
 | .stuck td L K=>S td L K
end
section
open Go.RowKit
section
variable {σ:Type}
def cOk:Chunk σ→Value→PK→Prop
 | .dead,_,_=>True
 | .cells b _ _,v, .cell off=>v= .pointer (some ⟨b,off,none⟩)
 | .roc b _ _,v, .cell off=>v= .pointer (some ⟨b,off,none⟩)
 | .row a _ n cap _,v, .slice=>v= .slice (a.map λb=>⟨b,0,none⟩) n cap
 | .row a _ n _ cols,v, .elem i off=>i<n∧∃b,a=some b∧v= .pointer (some ((⟨b,0,none⟩:Addr).add (i*cols.length+off)))
 | .ro a n cap _,v, .slice=>v= .slice a n cap
 | .ro a n _ cols,v, .elem i off=>i<n∧∃b,a=some b∧v= .pointer (some (b.add (i*cols.length+off)))
 | .obj p _,v, .obj=>v= .pointer (some p)
 | .map b _ _ _,v, .map=>v= .map (some b)
 |_,_,_=>False
mutual
def pOk (K:List (Chunk σ)):Value→Pr→Prop
 |_, .no=>True
 |v, .pt k pk=>∃c,K[k]? =some c∧cOk c v pk
 | .agg cs, .many ps=>psOk K cs.toList ps
 | .tuple vs, .many ps=>psOk K vs.toList ps
 | .func _ _ caps, .many ps=>psOk K caps.toList ps
 | .iface _ v, .box p=>pOk K v p
 |_,_=>False
def psOk (K:List (Chunk σ)):List Value→List Pr→Prop
 |[],[]=>True
 |v::vs,p::ps=>pOk K v p∧psOk K vs ps
 |_,_=>False
end
theorem psOk_iff {K:List (Chunk σ)}:∀{vs:List Value} {ps:List Pr},psOk K vs ps↔vs.length=ps.length∧∀(i:Nat) v p,vs[i]? =some v→ps[i]? =some p→pOk K v p
 |[],[]=>by simp [psOk]
 |[],p::ps=>by simp [psOk]
 |v::vs,[]=>by simp [psOk]
 |v::vs,p::ps=>by
  simp only [psOk,psOk_iff (vs:=vs) (ps:=ps),jR,Nat.add_right_cancel_iff]
  constructor
  ·rintro ⟨h1,h2,h3⟩
   refine ⟨h2, λi v' p' hv hp=>?_⟩
   cases i with
   |zero=>simp at hv hp;subst hv;subst hp;exact h1
   |succ i=>exact h3 i v' p' (by simpa using hv) (by simpa using hp)
  ·rintro ⟨h1,h2⟩
   exact ⟨h2 0 v p rfl rfl,h1, λi v' p' hv hp=>h2 (i+1) v' p' (by simpa using hv) (by simpa using hp)⟩
def KExt (K K':List (Chunk σ)):Prop:=∀(k:Nat) (c:Chunk σ),K[k]? =some c→∃c',K'[k]? =some c'∧∀v pk,cOk c v pk→cOk c' v pk
theorem KExt.refl (K:List (Chunk σ)):KExt K K:= λ_ c h=>⟨c,h, λ_ _ h=>h⟩
theorem lt_of_get {α:Type} {l:List α} {i:Nat} {x:α} (h:l[i]? =some x):i<l.length:=by
 rcases jN i l.length with h'|h'
 ·exact h'
 ·rw [jP h'] at h;cases h
theorem KExt.append (K B:List (Chunk σ)):KExt K (K++B):= λk c h=>⟨c,by
 rw [iO (lt_of_get h)]
 exact h, λ_ _ h=>h⟩
theorem KExt.set {K:List (Chunk σ)} {i:Nat} {c c':Chunk σ} (h:K[i]? =some c) (hc:∀v pk,cOk c v pk→cOk c' v pk):KExt K (K.set i c'):= λk d hk=>by
 by_cases hik:i=k
 ·subst hik
  rw [h] at hk;injection hk with hk;subst hk
  have hlt:i<K.length:=by
   rcases jN i K.length with h'|h'
   ·exact h'
   ·rw [jP h'] at h;cases h
  exact ⟨c',iX hlt,hc⟩
 ·exact ⟨d,by rw [jD hik];exact hk, λ_ _ h=>h⟩
theorem KExt.trans {K K' K'':List (Chunk σ)} (h:KExt K K') (h':KExt K' K''):KExt K K'':= λk c hk=>
 let ⟨c',h1,h2⟩:=h k c hk
 let ⟨c'',h3,h4⟩:=h' k c' h1
 ⟨c'',h3, λv pk hv=>h4 v pk (h2 v pk hv)⟩
mutual
theorem pOk_ext {K K':List (Chunk σ)} (hK:KExt K K'):∀(v:Value) (p:Pr),pOk K v p→pOk K' v p
 |_, .no,_=>by simp [pOk]
 |v, .pt k pk,h=>by
  simp only [pOk] at h ⊢
  obtain ⟨c,h1,h2⟩:=h
  obtain ⟨c',h3,h4⟩:=hK k c h1
  exact ⟨c',h3,h4 v pk h2⟩
 |v, .many ps,h=>by
  cases v<;>simp only [pOk] at h ⊢
  all_goals exact psOk_ext hK _ ps h
 |v, .box p,h=>by
  cases v<;>simp only [pOk] at h ⊢
  exact pOk_ext hK _ p h
theorem psOk_ext {K K':List (Chunk σ)} (hK:KExt K K'):∀(vs:List Value) (ps:List Pr),psOk K vs ps→psOk K' vs ps
 |[],[],_=>by simp [psOk]
 |[],_::_,h=>by simp [psOk] at h
 |_::_,[],h=>by simp [psOk] at h
 |v::vs,p::ps,h=>by
  simp only [psOk] at h ⊢
  exact ⟨pOk_ext hK v p h.1,psOk_ext hK vs ps h.2⟩
end
theorem pOk.ext {K K':List (Chunk σ)} {v:Value} {p:Pr} (h:pOk K v p) (hK:KExt K K'):pOk K' v p:=pOk_ext hK v p h
def KOk (K:List (Chunk σ)):Prop:=∀(k b:Nat) (t:TypeId) cs,K[k]? =some (.cells b t cs)→∀x∈cs,pOk K x.1 x.2
theorem KOk.append {K B:List (Chunk σ)} (h:KOk K) (hB:∀b t cs,Chunk.cells b t cs∈B→∀x∈cs,pOk (K++B) x.1 x.2):KOk (K++B):= λk b t cs hk x hx=>by
 rcases jN k K.length with hl|hl
 ·rw [iO hl] at hk
  exact (h k b t cs hk x hx).ext (KExt.append K B)
 ·rw [iQ hl] at hk
  exact hB b t cs (jC hk) x hx
theorem KOk.set {K:List (Chunk σ)} {i:Nat} {c c':Chunk σ} (h:KOk K) (hi:K[i]? =some c) (hc:∀v pk,cOk c v pk→cOk c' v pk) (hB:∀b t cs,c'= .cells b t cs→∀x∈cs,pOk K x.1 x.2):KOk (K.set i c'):= λk b t cs hk x hx=>by
 have hE:=KExt.set hi hc
 by_cases hik:i=k
 ·subst hik
  rw [iX (lt_of_get hi)] at hk
  injection hk with hk
  exact (hB b t cs hk x hx).ext hE
 ·rw [jD hik] at hk
  exact (h k b t cs hk x hx).ext hE
theorem nos_ok {K:List (Chunk σ)}:∀(vs:List Value),psOk K vs (nos vs.length)
 |[]=>by simp [psOk,nos]
 |v::vs=>by simp only [jR,nos,psOk,pOk,true_and];exact nos_ok vs
theorem mkMany_agg {K:List (Chunk σ)} {vs:List Value} {ps:List Pr} (h:psOk K vs ps):pOk K (.agg vs.toArray) (mkMany ps):=by
 unfold mkMany
 cases ps.all Pr.isNo with
 |true=>simp [pOk]
 |false=>simpa [pOk] using h
theorem mkMany_func {K:List (Chunk σ)} {fn:Fn} {first caps:Array Value} {ps:List Pr} (h:psOk K caps.toList ps):pOk K (.func fn first caps) (mkMany ps):=by
 unfold mkMany
 cases ps.all Pr.isNo with
 |true=>simp [pOk]
 |false=>simpa [pOk] using h
theorem cellsPr_ok {K:List (Chunk σ)} {v:Value} {p:Pr} (h:pOk K v p):psOk K v.cells.toList (cellsPr v p):=by
 unfold cellsPr
 cases v with
 |agg cs=>
  simp only [Value.cells]
  cases p with
  |many ps=>
   cases hb:iM ps.length cs.size with
   |true=>simp only [hb,cond_true];simpa [pOk] using h
   |false=>simp only [hb,cond_false];simpa using nos_ok cs.toList
  |_=>simpa using nos_ok cs.toList
 |_=>simp only [Value.cells,psOk,and_true];exact h
theorem cellsPr_len (v:Value) (p:Pr):(cellsPr v p).length=v.cells.size:=by
 have:=nos_len
 unfold cellsPr
 cases v with
 |agg cs=>
  simp only [Value.cells]
  cases p with
  |many ps=>
   cases hb:iM ps.length cs.size with
   |true=>simp only [hb,cond_true];exact iJ hb
   |false=>simp only [hb,cond_false];exact this cs.size
  |_=>simpa using this cs.size
 |_=>rfl
where
 nos_len:∀n,(nos n).length=n
  |0=>rfl
  |n+1=>by simp [nos,nos_len n]
theorem zipP_fst:∀(vs:List Value) (ps:List Pr),vs.length=ps.length→(zipP vs ps).map (·.1)=vs
 |[],[],_=>rfl
 |[],_::_,h=>by simp at h
 |_::_,[],h=>by simp at h
 |v::vs,p::ps,h=>by simp only [zipP,iK];rw [zipP_fst vs ps (by simpa using h)]
theorem zipP_ok {K:List (Chunk σ)}:∀(vs:List Value) (ps:List Pr),psOk K vs ps→∀x∈zipP vs ps,pOk K x.1 x.2
 |[],_,_,x,hx=>by simp [zipP] at hx
 |_::_,[],_,x,hx=>by simp [zipP] at hx
 |v::vs,p::ps,h,x,hx=>by
  simp only [psOk] at h
  simp only [zipP,iG] at hx
  rcases hx with rfl|hx
  ·exact h.1
  ·exact zipP_ok vs ps h.2 x hx
theorem cellsOf2_fst (v:Value) (p:Pr):(cellsOf2 v p).map (·.1)=v.cells.toList:=zipP_fst _ _ (by rw [cellsPr_len];simp)
theorem cellsOf2_ok {K:List (Chunk σ)} {v:Value} {p:Pr} (h:pOk K v p):∀x∈cellsOf2 v p,pOk K x.1 x.2:=zipP_ok _ _ (cellsPr_ok h)
def GV (tm:Array Value):Option (Nat×Bool)→Prop
 |none=>True
 |some (c,b)=>tm.getD c undef= .bool b
def Ent.ok (K:List (Chunk σ)) (tm:Array Value) (e:Ent):Prop:=GV tm e.g→tm.getD e.s undef=e.v∧pOk K e.v e.p
structure Fr (n:Nat) (L:List Ent) (K:List (Chunk σ)) (a:Act):Prop where
 kok:KOk K
 defers:a.defers=[]
 size:a.tmps.size=n
 ents:∀e∈L,e.ok K a.tmps
 skipd:∀e∈L,¬GV a.tmps e.g→a.tmps.getD e.s undef=undef
theorem Fr.ext {n:Nat} {L:List Ent} {K K':List (Chunk σ)} {a:Act} (h:Fr n L K a) (hK:KExt K K') (hk:KOk K'):Fr n L K' a:=
 ⟨hk,h.defers,h.size, λe he hg=>let ⟨h1,h2⟩:=h.ents e he hg;⟨h1,h2.ext hK⟩,h.skipd⟩
theorem Fr.sub {n:Nat} {L L':List Ent} {K:List (Chunk σ)} {a:Act} (h:Fr n L K a) (hs:∀e∈L',e∈L):Fr n L' K a:=
 ⟨h.kok,h.defers,h.size, λe he=>h.ents e (hs e he), λe he=>h.skipd e (hs e he)⟩
theorem look_mem {L:List Ent} {t:Nat} {e:Ent} (h:look L t=some e):e∈L∧e.s=t:=by
 induction L with
 |nil=>simp [look] at h
 |cons x r ih=>
  simp only [look] at h
  cases hb:iM x.s t with
  |true=>rw [hb] at h;simp at h;subst h;exact ⟨by simp,iJ hb⟩
  |false=>rw [hb] at h;simp at h;have:=ih h;exact ⟨by simp [this.1],this.2⟩
theorem ent_sound {n:Nat} {L:List Ent} {K:List (Chunk σ)} {a:Act} {g:Option (Nat×Bool)} {t:Nat} {e:Ent} (hF:Fr n L K a) (hg:GV a.tmps g) (h:ent g L t=some e):
 a.tmps.getD t undef=e.v∧pOk K e.v e.p:=by
 unfold ent at h
 cases hl:look L t with
 |none=>simp [hl] at h
 |some x=>
  simp only [hl] at h
  obtain ⟨hm,hs⟩:=look_mem hl
  have hx:=hF.ents x hm
  subst hs
  unfold Ent.ok at hx
  cases hxg:x.g with
  |none=>
   simp only [hxg] at h
   injection h with h;subst h
   exact hx (by rw [hxg];trivial)
  |some cb=>
   obtain ⟨c,b⟩:=cb
   cases g with
   |none=>simp [hxg] at h
   |some cb'=>
    obtain ⟨c',b'⟩:=cb'
    simp only [hxg] at h
    cases hq:iM c c'&&(b==b') with
    |false=>rw [hq] at h;simp at h
    |true=>
     rw [hq] at h;simp at h;subst h
     simp only [iE,beq_iff_eq] at hq
     obtain ⟨h1,rfl⟩:=hq
     have:=iJ h1
     subst this
     exact hx (by rw [hxg];exact hg)
theorem val_sound {n:Nat} {L:List Ent} {K:List (Chunk σ)} {a:Act} {g:Option (Nat×Bool)} {x:Operand} {v:Value} (hF:Fr n L K a) (hg:GV a.tmps g) (h:val g L x=some v):a.eval x=v:=by
 cases x with
 |tmp t=>
  simp only [val] at h
  cases he:ent g L t with
  |none=>simp [he] at h
  |some e=>simp only [he] at h;injection h with h;subst h;exact (ent_sound hF hg he).1
 |const u=>simpa [val,Act.eval] using h
 |global m=>simpa [val,Act.eval] using h
 |func f=>simpa [val,Act.eval] using h
theorem prov_sound {n:Nat} {L:List Ent} {K:List (Chunk σ)} {a:Act} {g:Option (Nat×Bool)} {x:Operand} (hF:Fr n L K a) (hg:GV a.tmps g):pOk K (a.eval x) (prov g L x):=by
 cases x with
 |tmp t=>
  simp only [prov]
  cases he:ent g L t with
  |none=>simp [pOk]
  |some e=>have:=ent_sound hF hg he;simp only [Act.eval];rw [this.1];exact this.2
 |const u=>simp [prov,pOk]
 |global m=>simp [prov,pOk]
 |func f=>simp [prov,pOk]
theorem rho_sound {n:Nat} {L:List Ent} {K:List (Chunk σ)} {a:Act} {g:Option (Nat×Bool)} {x:Operand} (hF:Fr n L K a) (hg:GV a.tmps g) (h:(val g L x).isSome=true):a.eval x=rho g L x:=by
 cases hv:val g L x with
 |none=>rw [hv] at h;cases h
 |some v=>rw [val_sound hF hg hv];simp [rho,hv]
theorem exec_sound {n:Nat} {L:List Ent} {K:List (Chunk σ)} {a:Act} {g:Option (Nat×Bool)} {o:Oper} (hF:Fr n L K a) (hg:GV a.tmps g) (hs:∀cs b,o.op≠ .select cs b) (h:o.op.operands.all (λx=>(val g L x).isSome)=true):
 execOp a.eval o=execOp (rho g L) o:=
 execOp_congr o hs λx hx=>rho_sound hF hg (by
  rw [kO] at h
  exact h x hx)
theorem evalS_sound (P:Program) {α:Type} (s:Sem α) (x:α) (h:evalS P s=some x):∀w,s.run P w= .ok x w:=by
 induction s with
 |pure a=>intro w;simp only [evalS] at h;injection h with h;subst h;rfl
 |program k ih=>intro w;simp only [evalS] at h;exact ih P h w
 |mark m k ih=>intro w;simp only [evalS] at h;exact ih h w
 |_=>simp [evalS] at h
theorem getD_put {tm:Array Value} {d:Nat} (v:Value) (hd:d<tm.size) (t:Nat):(tm.setIfInBounds d v).getD t undef=if d=t then v else tm.getD t undef:=by
 simp only [jK,lZ]
 by_cases h:d=t
 ·subst h;simp [hd]
 ·simp [h]
theorem del_mem {d:Nat} {L:List Ent} {e:Ent} (h:e∈del d L):e∈L∧e.s≠d∧∀c b,e.g=some (c,b)→c≠d:=by
 induction L with
 |nil=>simp [del] at h
 |cons x r ih=>
  simp only [del] at h
  cases hb:(iM x.s d||gIs d x.g) with
  |true=>rw [hb] at h;simp at h;have:=ih h;exact ⟨by simp [this.1],this.2⟩
  |false=>
   rw [hb] at h
   simp only [cond_false,iG] at h
   rcases h with rfl|h
   ·simp only [jH] at hb
    refine ⟨by simp, λhe=>?_, λc b hc he=>?_⟩
    ·rw [he] at hb;simp at hb
    ·rw [hc,he] at hb;simp [gIs] at hb
   ·have:=ih h;exact ⟨by simp [this.1],this.2⟩
theorem Fr.put {n:Nat} {L:List Ent} {K:List (Chunk σ)} {a:Act} (hF:Fr n L K a) {dst:Option Nat} {g:Option (Nat×Bool)} {v u:Value} {p:Pr}
 (hd:∀d,dst=some d→d<n) (hcd:∀d c b,dst=some d→g=some (c,b)→c≠d) (hu:GV a.tmps g→u=v∧pOk K v p) (hu2:¬GV a.tmps g→u=undef:=by first|(intro h;exact absurd trivial h)|(intro _;rfl)):Fr n (addEnt dst g v p L) K (a.put dst u):=by
 cases dst with
 |none=>exact hF
 |some d=>
  have hdn:=hd d rfl
  rw [←hF.size] at hdn
  refine ⟨hF.kok,hF.defers,by simp [Act.put,hF.size], λe he hge=>?_, λe he hge=>?_⟩
  rotate_left
  ·simp only [addEnt,iG] at he
   simp only [Act.put] at hge ⊢
   rcases he with rfl|he
   ·rw [getD_put _ hdn,if_pos rfl]
    refine hu2 λhgv=>hge ?_
    dsimp only
    cases hg:g with
    |none=>trivial
    |some cb=>
     obtain ⟨c,b⟩:=cb
     rw [hg] at hgv
     simp only [GV] at hgv ⊢
     rw [getD_put _ hdn,if_neg (λe=>hcd d c b rfl hg e.symm)]
     exact hgv
   ·obtain ⟨hm,hne,hgd⟩:=del_mem he
    rw [getD_put _ hdn,if_neg (λe=>hne e.symm)]
    refine hF.skipd e hm λhgv=>hge ?_
    cases hg:e.g with
    |none=>trivial
    |some cb=>
     obtain ⟨c,b⟩:=cb
     rw [hg] at hgv
     simp only [GV] at hgv ⊢
     rw [getD_put _ hdn,if_neg (λe'=>hgd c b hg e'.symm)]
     exact hgv
  simp only [addEnt,iG] at he
  simp only [Act.put] at hge ⊢
  rcases he with rfl|he
  ·rw [getD_put _ hdn,if_pos rfl]
   refine hu ?_
   dsimp only at hge
   cases hg:g with
   |none=>trivial
   |some cb=>
    obtain ⟨c,b⟩:=cb
    rw [hg] at hge
    simp only [GV] at hge ⊢
    rw [getD_put _ hdn,if_neg (λe=>hcd d c b rfl hg e.symm)] at hge
    exact hge
  ·obtain ⟨hm,hne,hgd⟩:=del_mem he
   rw [getD_put _ hdn,if_neg (λe=>hne e.symm)]
   refine hF.ents e hm ?_
   cases hg:e.g with
   |none=>trivial
   |some cb=>
    obtain ⟨c,b⟩:=cb
    rw [hg] at hge
    simp only [GV] at hge ⊢
    rw [getD_put _ hdn,if_neg (λe'=>hgd c b hg e'.symm)] at hge
    exact hge
theorem wanted_iff {ops:Array Oper} {o:Oper} {tm:Array Value} {g:Option (Nat×Bool)} (h:gslot ops o=some g):jL o (yielded ops tm)=true↔GV tm g:=by
 unfold gslot at h
 unfold jL
 cases ho:o.guard with
 |none=>rw [ho] at h;simp at h;subst h;simp [GV]
 |some jb=>
  obtain ⟨j,b⟩:=jb
  rw [ho] at h
  simp only at h
  cases hc:(ops[j]?).bind (·.dst) with
  |none=>simp [hc] at h
  |some c=>
   simp only [hc,iC] at h
   subst h
   simp only [GV,yielded,hc,Option.bind_some]
   rw [jK]
   cases ht:tm[c]? with
   |none=>simp [undef]
   |some v=>cases v<;>simp
theorem gimp_elim {n:Nat} {L:List Ent} {K:List (Chunk σ)} {a:Act} {g:Option (Nat×Bool)} {p:Prop} (hF:Fr n L K a) (hg:GV a.tmps g) (h:gimp g L p):p:=by
 unfold gimp at h
 cases g with
 |none=>exact h
 |some cb=>
  obtain ⟨c,b⟩:=cb
  simp only at h
  split at h
  ·rename_i s t pr hl
   obtain ⟨hm,hs⟩:=look_mem hl
   have:=(hF.ents _ hm trivial).1
   dsimp only at this hs
   subst hs
   simp only [GV] at hg
   rw [hg] at this
   injection this with this
   exact h this.symm
  ·rename_i s gg t pr hl
   obtain ⟨hm,hs⟩:=look_mem hl
   have h1:=hF.ents _ hm
   have h2:=hF.skipd _ hm
   dsimp only [Ent.ok] at h1 h2 hs
   subst hs
   simp only [GV] at hg
   by_cases hgv:GV a.tmps (some gg)
   ·have:=(h1 hgv).1
    rw [hg] at this
    injection this with this
    exact h this.symm
   ·have:=h2 hgv
    rw [hg] at this
    cases this
  ·exact h
end
def cellOf (h:Hp) (a:Addr):Option Value:=
 match h a.block with
 |some (.cells c _ _)=>if a.spot.isSome then none else c[a.off]?
 |_=>none
def RowAt (h:Hp) (a:Option Addr) (n:Nat) (cols:List Col):Prop:=
 (∀c∈cols,c.len=n)∧(∀i,i<n→∃b,a=some b∧∀(j:Nat) (c:Col),cols[j]? =some c→cellOf h (b.add (i*cols.length+j))=some (c.at i))∧n≤maxLen
theorem cellOf_mono {h h':Hp} (hs:∀b o,h b=some o→h' b=some o) {a:Addr} {v:Value} (hv:cellOf h a=some v):cellOf h' a=some v:=by
 unfold cellOf at*
 cases hb:h a.block with
 |none=>simp [hb] at hv
 |some o=>rw [hs _ _ hb];rw [hb] at hv;exact hv
theorem RowAt.mono {h h':Hp} (hs:∀b o,h b=some o→h' b=some o) {a:Option Addr} {n:Nat} {cols:List Col} (H:RowAt h a n cols):RowAt h' a n cols:=
 ⟨H.1, λi hi=>let ⟨b,hb,hc⟩:=H.2.1 i hi;⟨b,hb, λj c hj=>cellOf_mono hs (hc j c hj)⟩,H.2.2⟩
theorem cell_of_sub {h:Hp} {w:World} (hs:h.sub w) {a:Addr} {v:Value} (hv:cellOf h a=some v):w.cell? a=some v:=by
 unfold cellOf at hv
 unfold World.cell?
 cases hb:h a.block with
 |none=>simp [hb] at hv
 |some o=>rw [hs _ _ hb];rw [hb] at hv;exact hv
def Col.sub (Y:Hp):Col→Nat→Prop
 | .sls xs,i=>RowAt Y (slA (xs.getD i 0)) (slR (xs.getD i 0)).length [.fz (slR (xs.getD i 0))]∧(slR (xs.getD i 0)).length≤slC (xs.getD i 0)
 |_,_=>True
def subs (Y:Hp) (n:Nat) (cols:List Col):Prop:=∀c∈cols,∀i,i<n→c.sub Y i
theorem Col.sub_no {Y:Hp} {c:Col} {i:Nat} (h:c.isFz=false):c.sub Y i:=by cases c<;>first|trivial|cases h
theorem subs_no {Y:Hp} {n:Nat}:∀{cols:List Col},fzB cols=false→subs Y n cols
 |[],_=> λc hc=>by cases hc
 |c::cs,h=>by
  unfold fzB at h
  cases hc:c.isFz with
  |true=>rw [hc] at h;cases h
  |false=>
   rw [hc] at h
   intro d hd i hi
   rcases iG.1 hd with rfl|hd
   ·exact Col.sub_no hc
   ·exact subs_no (cols:=cs) h d hd i hi
theorem subs_fz {Y:Hp} {n:Nat} {xs:LI}:subs Y n [.fz xs]:= λc hc i _=>by
 rw [iY] at hc;subst hc;trivial
theorem Col.sub_mono {Y Y':Hp} (hs:∀b o,Y b=some o→Y' b=some o) {c:Col} {i:Nat} (h:c.sub Y i):c.sub Y' i:=by
 cases c<;>first|trivial|exact ⟨h.1.mono hs,h.2⟩
theorem subs_mono {Y Y':Hp} (hs:∀b o,Y b=some o→Y' b=some o) {n:Nat} {cols:List Col} (h:subs Y n cols):subs Y' n cols:= λc hc i hi=>Col.sub_mono hs (h c hc i hi)
variable {σ:Type} (D:Addr→σ→Asn)
def flat (cols:List Col) (n:Nat):List Value:=(jQ n).flatMap λi=>cols.map (·.at i)
theorem flat_len (cols:List Col):∀n,(flat cols n).length=n*cols.length
 |0=>by simp [flat]
 |n+1=>by
  have:=flat_len cols n
  unfold flat at this ⊢
  rw [List.range_succ,List.flatMap_append,jM,this]
  simp [oN]
theorem flat_succ (cols:List Col) (n:Nat):flat cols (n+1)=flat cols n++cols.map (·.at n):=by
 unfold flat
 rw [List.range_succ,List.flatMap_append]
 simp
theorem flat_get {cols:List Col}:∀{n i j:Nat} {c:Col},i<n→cols[j]? =some c→(flat cols n)[i*cols.length+j]? =some (c.at i)
 |0,i,j,c,hi,_=>by omega
 |n+1,i,j,c,hi,hj=>by
  have hjl:=lt_of_get hj
  rw [flat_succ]
  rcases jN i n with h|h
  ·rw [iO]
   ·exact flat_get h hj
   ·rw [flat_len]
    have:(i+1)*cols.length≤n*cols.length:=lP _ h
    rw [oN] at this
    omega
  ·have:i=n:=by omega
   subst this
   rw [iQ (by rw [flat_len];omega),flat_len,Nat.add_sub_cancel_left,iR,hj]
   rfl
def mlook:List MapEntry→Int→Option Int
 |[],_=>none
 |e::r,x=>match e.key,e.val with
  | .int _ y, .int _ z=>bif x==y then some z else mlook r x
  |_,_=>mlook r x
def MapIs (kk vk:IntKind) (es:List MapEntry) (f:Int→Option Int):Prop:=
 (∀e∈es,∃x y,e.key= .int kk x∧e.val= .int vk y)∧∀x,mlook es x=f x
def den (G:Hp):Chunk σ→Asn
 | .dead=> λ_ _=>True
 | .cells b t cs=>pt b (.cells (cs.map (·.1)).toArray t (0,0))
 | .row a t n cap cols=> λ_ h=>(∀c∈cols,c.len=n)∧0<cols.length∧
    match a with
    |none=>n=0∧cap=0
    |some b=>∃cs:Array Value,h b=some (.cells cs t (0,0))∧n≤cap∧cap≤maxLen∧cs.size=cap*cols.length∧cs.toList.take (n*cols.length)=flat cols n
 | .ro a n cap cols=> λY _=>RowAt (bif fzB cols then Y else G) a n cols∧n≤cap∧subs Y n cols
 | .roc b t vs=> λ_ _=>G b=some (.cells vs.toArray t (0,0))
 | .obj p s=>D p s
 | .map b kk vk f=> λ_ h=>∃es clock,h b=some (.map es clock)∧MapIs kk vk es.toList f
theorem den_cap {G Y h:Hp} {a:Option Nat} {t:TypeId} {n cap:Nat} {cols:List Col} (H:den D G (.row a t n cap cols) Y h):n≤cap:=by
 obtain ⟨_,_,h3⟩:=H
 cases a with
 |none=>dsimp only at h3;omega
 |some b=>obtain ⟨_,_,h4,_⟩:=h3;exact h4
theorem den_row {G Y h:Hp} {a:Option Nat} {t:TypeId} {n cap:Nat} {cols:List Col} (H:den D G (.row a t n cap cols) Y h):RowAt h (a.map λb=>⟨b,0,none⟩) n cols:=by
 obtain ⟨h1,h2,h3⟩:=H
 refine ⟨h1, λi hi=>?_,?_⟩
 rotate_left
 ·cases a with
  |none=>simp only at h3;omega
  |some b=>obtain ⟨cs,h4,h5,h6,_⟩:=h3;exact mE h5 h6
 cases a with
 |none=>simp only at h3;omega
 |some b=>
  obtain ⟨cs,h4,h5,h6,h7,h8⟩:=h3
  refine ⟨⟨b,0,none⟩,rfl, λj c hj=>?_⟩
  have hjl:=lt_of_get hj
  have hg:=flat_get hi hj
  rw [←h8,lC] at hg
  have hlt:i*cols.length+j<n*cols.length:=by
   have:(i+1)*cols.length≤n*cols.length:=lP _ hi
   rw [oN] at this
   omega
  rw [if_pos hlt] at hg
  have hadd:(⟨b,0,none⟩:Addr).add (i*cols.length+j)=⟨b,i*cols.length+j,none⟩:=by
   unfold Addr.add
   split
   ·rename_i e;rw [e]
   ·simp
  rw [hadd]
  simp only [cellOf,h4,Option.isSome_none,mK,if_false]
  simpa using hg
def SatK (E:Ev) (G:Hp) (w:World) (K:List (Chunk σ)):Prop:=Sat E G w (K.map (den D G))
mutual
def iOk (G Y:Hp):Value→Info σ→Prop
 |_, .none=>True
 |v, .row n cols=>∃a cap,v= .slice a n cap∧RowAt G a n cols∧n≤cap∧(fzB cols=true→RowAt Y a n cols∧subs Y n cols)
 |v, .cells t vs=>∃b,v= .pointer (some ⟨b,0,none⟩)∧G b=some (.cells vs.toArray t (0,0))
 |v, .obj _=>∃p,v= .pointer (some p)
 | .agg cs, .many is=>isOk G Y cs.toList is
 | .tuple vs, .many is=>isOk G Y vs.toList is
 | .func _ _ caps, .many is=>isOk G Y caps.toList is
 |_, .many _=>False
def isOk (G Y:Hp):List Value→List (Info σ)→Prop
 |[],[]=>True
 |v::vs,i::is=>iOk G Y v i∧isOk G Y vs is
 |_,_=>False
end
def objAs (args:List (Value×Info σ)):List Asn:=match objOf args with|some (p,s)=>[D p s]|none=>[]
def newAs (args:List (Value×Info σ)) (new:Option σ):List Asn:=match objOf args with
 |some (p,s)=>[D p (new.getD s)]
 |none=>[]
def outOk (r:Res σ):Prop:=∀(K:List (Chunk σ)) (acs:List (Option Nat×Nat)),acsOk r.rows acs→pOk (K++jI sliceC r.rows acs) (r.out (jI sliceV r.rows acs)) (r.outp K.length)
def EntryOk (P:Program) (f:FuncId) (e:Entry σ):Prop:=
 ∀args c r,e args=some c→r=c.r c.x→outOk r∧((∀p∈r.pre,p)→∀E G w,(∀x∈args,iOk G E.z x.1 x.2)→Sat E G w (objAs D args)→
  Calls P f (args.map (·.1)).toArray w λen w'=>∃acs:List (Option Nat×Nat),acsOk r.rows acs∧
   en= .returned (r.out (jI sliceV r.rows acs))∧Sat E G w' (newAs D args r.new++(jI sliceC r.rows acs).map (den D G)))
def TableOk (P:Program) (T:List (Nat×Entry σ)):Prop:=∀x∈T,EntryOk D P x.1 x.2
theorem lookT_ok {P:Program} {T:List (Nat×Entry σ)} (h:TableOk D P T) {f:Nat} {e:Entry σ} (he:lookT T f=some e):EntryOk D P f e:=by
 induction T with
 |nil=>simp [lookT] at he
 |cons x r ih=>
  obtain ⟨g,e'⟩:=x
  simp only [lookT] at he
  cases hb:iM g f with
  |true=>
   rw [hb] at he;simp at he;subst he
   have:=iJ hb
   subst this
   exact h (g,e') (by simp)
  |false=>rw [hb] at he;simp at he;exact ih (λx hx=>h x (by simp [hx])) he
theorem TableOk.nil (P:Program):TableOk D P ([]:List (Nat×Entry σ)):= λ_ h=>by cases h
theorem TableOk.cons {P:Program} {T:List (Nat×Entry σ)} {f:Nat} {e:Entry σ} (h:EntryOk D P f e) (hT:TableOk D P T):TableOk D P ((f,e)::T):= λx hx=>by
 simp only [iG] at hx
 rcases hx with rfl|hx
 ·exact h
 ·exact hT x hx
end
section
open Go.RowKit
variable {σ:Type} (D:Addr→σ→Asn)
theorem q_of_run {P:Program} {o:Oper} {a:Act} {C:World→Prop} {w:World} {v:Value} (h:(execOp a.eval o).run P w= .ok (.value v) w):o.quietAt P a C w v:=by
 unfold Oper.quietAt
 rw [h]
 exact ⟨rfl,rfl⟩
theorem Addr.add_add (a:Addr) (m n:Nat):(a.add m).add n=a.add (m+n):=by
 unfold Addr.add
 split<;>split<;>rename_i h1 h2
 ·subst h1;subst h2;simp
 ·subst h1;simp [h2]
 ·subst h2;simp [h1]
 ·rw [if_neg (by omega)];simp [nF]
theorem Addr.add_lit0 (b off n:Nat):(⟨b,off,none⟩:Addr).add n=⟨b,off+n,none⟩:=by
 unfold Addr.add
 split
 ·simp_all
 ·rfl
theorem aggB_run {P:Program} {t:TypeId} {b:Bool} (h:aggB P t=some b) (w:World):(isAgg t).run P w= .ok b w:=by
 unfold aggB at h
 unfold isAgg
 cases hu:P.underlying t with
 |none=>simp [hu] at h
 |some d=>
  rw [hu] at h
  simp only [jU,run_underlying hu,Result.andThen_ok]
  cases d<;>simp_all
theorem sizeP_run {P:Program} {t:TypeId} {n:Nat} (h:sizeP P t=some n) (w:World):(sizeOf t).run P w= .ok n w:=by
 unfold sizeP at h
 unfold sizeOf typeInfo
 cases hi:P.info? t with
 |none=>simp [hi] at h
 |some i=>simp [hi] at h;subst h;simp [hi]
theorem run_loadVar_agg {P:Program} {t:TypeId} {w:World} {a:Addr} {vs:List Value} (h:aggB P t=some true) (hn:sizeP P t=some vs.length) (hc:∀(j:Nat) v,vs[j]? =some v→w.cell? (a.add j)=some v):
 (loadVar t a).run P w= .ok (.agg vs.toArray) w:=by
 unfold loadVar
 simp only [jU,aggB_run h,Result.andThen_ok,if_true,sizeP_run hn,run_loadCells_list (P:=P) w a vs hc,kB]
theorem run_loadVar_one {P:Program} {t:TypeId} {w:World} {a:Addr} {v:Value} (h:aggB P t=some false) (hc:w.cell? a=some v):
 (loadVar t a).run P w= .ok v w:=by
 unfold loadVar
 simp only [jU,aggB_run h,Result.andThen_ok,mK,if_false,run_load,hc]
theorem cellsLoad_run {P:Program} {t:TypeId} {w:World} {b off:Nat} {t0:TypeId} {cs:List (Value×Pr)} {v:Value} {p:Pr} {fr:Nat×Nat} (hb:w.heap[b]? =some (.cells (cs.map (·.1)).toArray t0 fr)) (h:cellsLoad P t cs off=some (v,p)):
 (loadVar t ⟨b,off,none⟩).run P w= .ok v w:=by
 unfold cellsLoad at h
 have cell:∀o,w.cell? ⟨b,o,none⟩=(cs[o]?).map (·.1):= λo=>by rw [cell_of_row w b o _ t0 fr hb];simp
 cases ha:aggB P t with
 |none=>simp [ha] at h
 |some g=>
  cases g with
  |false=>simp only [ha] at h;exact run_loadVar_one ha (by rw [cell,h];rfl)
  |true=>
   cases hs:sizeP P t with
   |none=>simp [ha,hs] at h
   |some n=>
    simp only [ha,hs] at h
    cases hle:kH (off+n) cs.length with
    |false=>rw [hle] at h;simp at h
    |true=>
     rw [hle] at h
     simp only [cond_true,iC,iV] at h
     obtain ⟨rfl,rfl⟩:=h
     have hle':=iU hle
     refine run_loadVar_agg ha (by rw [hs];simp;omega) λj v hj=>?_
     rw [Addr.add_lit0,cell]
     rw [iR,lC] at hj
     split at hj
     ·rw [mS] at hj;exact hj
     ·simp at hj
theorem cellsLoad_pOk {P:Program} {t:TypeId} {K:List (Chunk σ)} {off:Nat} {cs:List (Value×Pr)} {v:Value} {p:Pr} (hk:∀x∈cs,pOk K x.1 x.2) (h:cellsLoad P t cs off=some (v,p)):pOk K v p:=by
 unfold cellsLoad at h
 cases ha:aggB P t with
 |none=>simp [ha] at h
 |some g=>
  cases g with
  |false=>simp only [ha] at h;exact hk _ (jC h)
  |true=>
   cases hs:sizeP P t with
   |none=>simp [ha,hs] at h
   |some n=>
    simp only [ha,hs] at h
    cases hle:kH (off+n) cs.length with
    |false=>rw [hle] at h;simp at h
    |true=>
     rw [hle] at h
     simp only [cond_true,iC,iV] at h
     obtain ⟨rfl,rfl⟩:=h
     refine mkMany_agg ?_
     rw [psOk_iff]
     refine ⟨by simp, λi v p hv hp=>?_⟩
     rw [iR] at hv hp
     cases hx:((cs.drop off).take n)[i]? with
     |none=>simp [hx] at hv
     |some x=>
      simp only [hx,iT,iC] at hv hp
      subst hv;subst hp
      exact hk x (List.mem_of_mem_drop (pJ (jC hx)))
theorem rowLoad_run {P:Program} {t:TypeId} {w:World} {b:Addr} {cols:List Col} {i off:Nat} {v:Value} (hb:∀(j:Nat) (c:Col),cols[j]? =some c→w.cell? (b.add (i*cols.length+j))=some (c.at i)) (h:rowLoad P t cols i off=some v):
 (loadVar t (b.add (i*cols.length+off))).run P w= .ok v w:=by
 unfold rowLoad at h
 cases ha:aggB P t with
 |none=>simp [ha] at h
 |some g=>
  cases g with
  |false=>
   simp only [ha] at h
   cases hc:cols[off]? with
   |none=>simp [hc] at h
   |some c=>simp [hc] at h;subst h;exact run_loadVar_one ha (hb off c hc)
  |true=>
   cases hs:sizeP P t with
   |none=>simp [ha,hs] at h
   |some n=>
    simp only [ha,hs] at h
    cases hle:kH (off+n) cols.length with
    |false=>rw [hle] at h;simp at h
    |true=>
     rw [hle] at h
     simp only [cond_true,iC] at h
     subst h
     have hle':=iU hle
     refine run_loadVar_agg ha (by rw [hs];simp;omega) λj v hj=>?_
     rw [Addr.add_add,nF]
     rw [iR,lC] at hj
     split at hj
     ·rw [mS] at hj
      cases hc:cols[off+j]? with
      |none=>simp [hc] at hj
      |some c=>simp [hc] at hj;subst hj;exact hb _ c hc
     ·simp at hj
theorem SatK.get {E:Ev} {G:Hp} {w:World} {K:List (Chunk σ)} (h:SatK D E G w K) {k:Nat} {c:Chunk σ} (hk:K[k]? =some c):∃Y p:Hp,Y.sub w∧den D G c Y p∧p.sub w:=by
 obtain ⟨Z,_,hw,_,_,o,_,hA⟩:=h
 exact ⟨Z,_,hw,hA k _ (map_get (by rw [iR,hk];rfl)) Z (Hp.le_refl Z), λb x hb=>part_sub hb⟩
theorem SatK.G {E:Ev} {G:Hp} {w:World} {K:List (Chunk σ)} (h:SatK D E G w K):G.sub w:=Sat.sub h
theorem ro_sub {Y G:Hp} {w:World} {b:Bool} (hy:Y.sub w) (hg:G.sub w):Hp.sub (bif b then Y else G) w:=by cases b<;>assumption
theorem ro_le {Y G G':Hp} {b:Bool} (hy:Y.le G') (hg:G.le G'):Hp.le (bif b then Y else G) G':=by cases b<;>assumption
theorem row_cells {E:Ev} {G:Hp} {w:World} {K:List (Chunk σ)} (h:SatK D E G w K) {k:Nat} {c:Chunk σ} {v:Value} {i off:Nat} (hk:K[k]? =some c) (hc:cOk c v (.elem i off)):
 (∃a t n cap cols,∃b:Addr,c= .row a t n cap cols∧v= .pointer (some (b.add (i*cols.length+off)))∧∀(j:Nat) (c:Col),cols[j]? =some c→w.cell? (b.add (i*cols.length+j))=some (c.at i))∨
 (∃a n cap cols,∃b:Addr,c= .ro a n cap cols∧v= .pointer (some (b.add (i*cols.length+off)))∧∀(j:Nat) (c:Col),cols[j]? =some c→w.cell? (b.add (i*cols.length+j))=some (c.at i))∨c= .dead:=by
 obtain ⟨Y,p,hy,hp,hs⟩:=h.get D hk
 cases c with
 |dead=>exact .inr (.inr rfl)
 |cells b t cs=>exact hc.elim
 |roc b t cs=>exact hc.elim
 |obj q s=>exact hc.elim
 |map b kk vk f=>exact hc.elim
 |row a t n cap cols=>
  obtain ⟨hi,b,rfl,rfl⟩:=hc
  have hR:=den_row D hp
  obtain ⟨b',hb',hcell⟩:=hR.2.1 i hi
  simp at hb';subst hb'
  exact .inl ⟨_,_,_,_,_,_,rfl,rfl, λj c hj=>cell_of_sub hs (hcell j c hj)⟩
 |ro a n cap cols=>
  obtain ⟨hi,b,rfl,rfl⟩:=hc
  obtain ⟨b',hb',hcell⟩:=hp.1.2.1 i hi
  injection hb' with hb';subst hb'
  exact .inr (.inl ⟨_,_,_,_,_,rfl,rfl, λj c hj=>cell_of_sub (ro_sub hy h.G) (hcell j c hj)⟩)
theorem evalS_exec {P:Program} {o:Oper} {a:Act} {n:Nat} {L:List Ent} {K:List (Chunk σ)} {g:Option (Nat×Bool)} (hF:Fr n L K a) (hg:GV a.tmps g) (hs:∀cs b,o.op≠ .select cs b)
 (h:o.op.operands.all (λx=>(val g L x).isSome)=true) {nx:Next} (he:evalS P (execOp (rho g L) o)=some nx) (w:World):(execOp a.eval o).run P w= .ok nx w:=by
 rw [exec_sound hF hg hs h]
 exact evalS_sound P _ _ he w
theorem infoOf_ok {G G' Zc:Hp} (hZ:Zc.le G') {K:List (Chunk σ)} (hrow:∀(k:Nat) c,K[k]? =some c→(∀q s,c≠ .obj q s)→∃q:Hp,den D G c Zc q∧∀b o,q b=some o→G' b=some o) (hG:∀b o,G b=some o→G' b=some o):
 ∀(p:Pr) (v:Value),pOk K v p→iOk G' Zc v (infoOf K p):=by
 have key:∀n:Nat,(∀p:Pr,SizeOf.sizeOf p<n→∀v,pOk K v p→iOk G' Zc v (infoOf K p))∧(∀ps:List Pr,SizeOf.sizeOf ps<n→∀vs,psOk K vs ps→isOk G' Zc vs (infosOf K ps)):=by
  intro n
  induction n with
  |zero=>exact ⟨λp h=>absurd h (mX _), λp h=>absurd h (mX _)⟩
  |succ n ih=>
   constructor
   ·intro p hp v h
    cases p with
    |no=>simp [infoOf,iOk]
    |box p=>simp [infoOf,iOk]
    |many ps=>
     have hlt:SizeOf.sizeOf ps<n:=by simp at hp;omega
     cases v<;>simp only [pOk] at h<;>simp only [infoOf,iOk]
     all_goals exact ih.2 ps hlt _ h
    |pt k pk=>
     simp only [pOk] at h
     obtain ⟨c,h1,h2⟩:=h
     cases pk with
     |cell off=>
      cases c with
      |cells b t cs=>
       obtain ⟨q,hq,hs⟩:=hrow k _ h1 (by simp)
       simp only [infoOf,h1]
       cases hb:iM off 0 with
       |false=>simp [iOk]
       |true=>
        have:=iJ hb
        subst this
        simp only [cond_true,iOk]
        exact ⟨b,h2,hs _ _ hq⟩
      |roc b t vs=>
       obtain ⟨q,hq,hs⟩:=hrow k _ h1 (by simp)
       simp only [infoOf,h1]
       cases hb:iM off 0 with
       |false=>simp [iOk]
       |true=>
        have:=iJ hb
        subst this
        simp only [cond_true,iOk]
        exact ⟨b,h2,hG _ _ hq⟩
      |_=>simp [infoOf,h1,iOk]
     |elem i off=>simp [infoOf,iOk]
     |slice=>
      cases c with
      |row a t n cap cols=>
       obtain ⟨q,hq,hs⟩:=hrow k _ h1 (by simp)
       simp only [infoOf,h1]
       cases hf:fzB cols with
       |true=>simp only [cond_true,iOk]
       |false=>
        simp only [cond_false,iOk]
        exact ⟨_,_,h2,(den_row D hq).mono hs,den_cap D hq, λe=>by rw [hf] at e;cases e⟩
      |ro a n cap cols=>
       obtain ⟨q,hq,hs⟩:=hrow k _ h1 (by simp)
       simp only [infoOf,h1,iOk]
       exact ⟨_,_,h2,RowAt.mono (ro_le hZ hG) hq.1,hq.2.1, λe=>⟨by have:=hq.1;rw [e] at this;exact this,hq.2.2⟩⟩
      |_=>simp [infoOf,h1,iOk]
     |map=>simp [infoOf,iOk]
     |obj=>
      cases c with
      |obj q s=>simp only [infoOf,h1,iOk];exact ⟨_,h2⟩
      |_=>simp [infoOf,h1,iOk]
   ·intro ps hp vs h
    cases ps with
    |nil=>cases vs<;>simp [psOk,infosOf,isOk] at h ⊢
    |cons p ps=>
     cases vs with
     |nil=>simp [psOk] at h
     |cons v vs=>
      simp only [psOk] at h
      simp only [infosOf,isOk]
      exact ⟨ih.1 p (by simp at hp;omega) v h.1,ih.2 ps (by simp at hp;omega) vs h.2⟩
 exact λp v h=>(key (SizeOf.sizeOf p+1)).1 p (Nat.lt_succ_self _) v h
theorem callable_run {P:Program} {f:Nat} (h:callable P f=true) (xs:Array Value) (w:World):(callFunc f xs).run P w= .ok (.enter f xs) w:=by
 unfold callable at h
 cases hf:P.funcs[f]? with
 |none=>simp [hf] at h
 |some fn=>
  simp only [hf,iE,jO] at h
  have hb:fn.body.isNone=false:=by
   cases hbb:fn.body with
   |none=>rw [hbb] at h;simp at h
   |some _=>rfl
  unfold callFunc
  simp only [jU,run_program,Result.andThen_ok,hf,h.1,hb,mK,if_false,kB]
theorem psOk_append {K:List (Chunk σ)}:∀{vs vs':List Value} {ps ps':List Pr},psOk K vs ps→psOk K vs' ps'→psOk K (vs++vs') (ps++ps')
 |[],_,[],_,_,h=>h
 |[],_,_::_,_,h,_=>by simp [psOk] at h
 |_::_,_,[],_,h,_=>by simp [psOk] at h
 |v::vs,_,p::ps,_,h,h'=>by
  simp only [psOk] at h
  simp only [kA,psOk]
  exact ⟨h.1,psOk_append h.2 h'⟩
theorem capArgs_fst {K:List (Chunk σ)}:∀{vs:List Value} {ps:List Pr},psOk K vs ps→(capArgs K vs ps).map (·.1)=vs
 |[],[],_=>rfl
 |[],_::_,h=>by simp [psOk] at h
 |_::_,[],h=>by simp [psOk] at h
 |v::vs,p::ps,h=>by
  simp only [psOk] at h
  simp [capArgs,capArgs_fst h.2]
theorem capArgs_snd {K:List (Chunk σ)}:∀{vs:List Value} {ps:List Pr},psOk K vs ps→(capArgs K vs ps).map (·.2)=infosOf K ps
 |[],[],_=>rfl
 |[],_::_,h=>by simp [psOk] at h
 |_::_,[],h=>by simp [psOk] at h
 |v::vs,p::ps,h=>by
  simp only [psOk] at h
  simp [capArgs,infosOf,capArgs_snd h.2]
theorem infosOf_append {K:List (Chunk σ)}:∀(ps qs:List Pr),infosOf K (ps++qs)=infosOf K ps++infosOf K qs
 |[],_=>rfl
 |p::ps,qs=>by simp [infosOf,infosOf_append ps qs]
theorem calOf_ok {g:Option (Nat×Bool)} {n:Nat} {L:List Ent} {K:List (Chunk σ)} {c:Operand} {f:Nat} {caps:List Value} {cps:List Pr} {a:Act} (hF:Fr n L K a) (hg:GV a.tmps g) (h:calOf g L c=some (f,caps,cps)):
 a.eval c= .func (.func f) #[] caps.toArray∧psOk K caps cps:=by
 have hp:=prov_sound (x:=c) hF hg
 unfold calOf at h
 split at h
 ·rename_i f' caps' hv
  have he:=val_sound hF hg hv
  rw [he] at hp
  split at h
  ·rename_i ps hps
   rw [hps] at hp
   simp only [pOk] at hp
   cases hb:iM ps.length caps'.length with
   |false=>rw [hb] at h;simp at h
   |true=>
    rw [hb] at h
    simp only [cond_true,iC,iV] at h
    obtain ⟨rfl,rfl,rfl⟩:=h
    exact ⟨he,hp⟩
  ·simp only [iC,iV] at h
   obtain ⟨rfl,rfl,rfl⟩:=h
   exact ⟨he,nos_ok _⟩
 ·cases h
theorem methOf_run {P:Program} {t:TypeId} {name:String} {f:Nat} (h:methOf P t name=some f) (v:Value) (fuel:Nat) (w:World):(method (fuel+1) t v name).run P w= .ok (f,v) w:=by
 unfold methOf at h
 cases hi:P.info? t with
 |none=>rw [hi] at h;cases h
 |some i=>
  rw [hi] at h
  simp only at h
  cases hm:i.methods.find? (·.name==name) with
  |none=>rw [hm] at h;cases h
  |some m=>
   rw [hm] at h
   simp only at h
   cases hp:m.path.isEmpty with
   |false=>rw [hp] at h;cases h
   |true=>
    rw [hp] at h
    simp only [cond_true] at h
    have hpl:m.path.toList=[]:=by simpa using hp
    unfold method
    simp only [jU,typeInfo,run_program,hi,Result.andThen_ok,kB,hm,hpl,follow]
    split at h
    ·rename_i f' e' hf hu
     injection h with h;subst h
     rw [hf]
     simp only [jU,receiverAt,run_underlying hu,Result.andThen_ok,Place.get,kB]
    ·cases h
    ·rename_i f' d hne hf hu
     injection h with h;subst h
     rw [hf]
     simp only [jU,receiverAt,run_underlying hu,Result.andThen_ok]
     cases d<;>first|(simp only [Place.get,kB,Result.andThen_ok];done)|(exact absurd rfl (hne _ _ hf))
    ·cases h
theorem unboxP_ok {K:List (Chunk σ)} {t:TypeId} {v:Value} {p:Pr} (h:pOk K (.iface t v) p):pOk K v (unboxP p):=by
 cases p with
 |box p=>simpa [unboxP,pOk] using h
 |_=>simp [unboxP,pOk]
theorem yieldOf_run {P:Program} {g:Option (Nat×Bool)} {n:Nat} {L:List Ent} {K:List (Chunk σ)} {o:Oper} {args:List Value} {prs:List Pr} {a:Act} (hF:Fr n L K a) (hg:GV a.tmps g) (h:yieldOf g L o=some (args,prs)) (w:World):
 ∃l asv,args= .func (.yield l) #[] #[]::asv∧(execOp a.eval o).run P w=(Instr.yield l asv.toArray).run P w∧psOk K args prs:=by
 unfold yieldOf at h
 split at h
 ·rename_i c asv at_ hop
  split at h
  ·rename_i l first caps hv
   cases hc:(iM first.size 0&&iM caps.size 0&&asv.toList.all λx=>(val g L x).isSome) with
   |false=>rw [hc] at h;cases h
   |true=>
    rw [hc] at h
    simp only [cond_true,iC,iV] at h
    obtain ⟨rfl,rfl⟩:=h
    simp only [iE] at hc
    obtain ⟨⟨h1,h2⟩,h3⟩:=hc
    have e1:first= #[]:=Array.eq_empty_of_size_eq_zero (iJ h1)
    have e2:caps= #[]:=Array.eq_empty_of_size_eq_zero (iJ h2)
    subst e1 e2
    have hev:=val_sound hF hg hv
    have hpr:=prov_sound (x:=c) hF hg
    rw [hev] at hpr
    have hval:∀x∈asv.toList,a.eval x=rho g L x:= λx hx=>rho_sound hF hg (by
     rw [kP] at h3
     exact h3 x hx)
    refine ⟨l,asv.toList.map (λx=>rho g L x),rfl,?_,?_⟩
    ·have hm:asv.map a.eval=(asv.toList.map (λx=>rho g L x)).toArray:=by
      apply Array.ext'
      simp only [oG]
      exact oA hval
     unfold execOp
     simp only [hop]
     unfold resolve
     simp only [hev]
     simp [go_sem,invoke,hm]
    ·simp only [psOk]
     refine ⟨hpr,?_⟩
     generalize asv.toList=l at hval
     induction l with
     |nil=>simp [psOk]
     |cons x l ih=>
      simp only [iK,psOk]
      refine ⟨?_,ih λy hy=>hval y (by simp [hy])⟩
      rw [←hval x (by simp)]
      exact prov_sound hF hg
  ·cases h
 ·cases h
theorem callOf_run {P:Program} {g:Option (Nat×Bool)} {n:Nat} {L:List Ent} {K:List (Chunk σ)} {o:Oper} {f:Nat} {args:List (Value×Info σ)} {prs:List Pr} {a:Act} (hF:Fr n L K a) (hg:GV a.tmps g)
 (h:callOf P g L K o=some (f,args,prs)) (w:World):
 (execOp a.eval o).run P w= .ok (.enter f (args.map (·.1)).toArray) w∧psOk K (args.map (·.1)) prs∧args.map (·.2)=infosOf K prs:=by
 unfold callOf at h
 split at h
 ·rename_i recv name asv at_ hop
  split at h
  ·rename_i t v hv
   have hev:=val_sound hF hg hv
   have hpr:=prov_sound (x:=recv) hF hg
   rw [hev] at hpr
   split at h
   ·rename_i f' hm
    cases hc:(asv.toList.all λx=>(val g L x).isSome)&&callable P f' with
    |false=>rw [hc] at h;simp at h
    |true=>
     rw [hc] at h
     simp only [cond_true,iC,iV] at h
     obtain ⟨rfl,rfl,rfl⟩:=h
     simp only [iE] at hc
     obtain ⟨hvs,hcall⟩:=hc
     have hval:∀x∈asv.toList,a.eval x=rho g L x:= λx hx=>rho_sound hF hg (by
      rw [kP] at hvs
      exact hvs x hx)
     refine ⟨?_,?_,?_⟩
     ·unfold execOp
      simp only [hop]
      unfold resolve
      simp only [hev,jU,kB,Result.andThen_ok,invoke]
      have e0:(#[Value.iface t v]++asv.map a.eval)[0]? =some (.iface t v):=by rw [Array.getElem?_append_left (by simp)];rfl
      rw [e0]
      simp only [callMethod,jU,run_program,Result.andThen_ok]
      have e1:P.types.size+Made.depth=(P.types.size+Made.depth-1)+1:=by
       have:0<Made.depth:=by decide
       omega
      rw [e1,methOf_run hm]
      simp only [Result.andThen_ok]
      have e2: #[v]++(#[Value.iface t v]++asv.map a.eval).extract 1 (#[Value.iface t v]++asv.map a.eval).size=(oV (λx=>x.1) ((v,infoOf K (unboxP (prov g L recv)))::oV (λx=>(rho g L x,infoOf (σ:=σ) K (prov g L x))) asv.toList)).toArray:=by
       apply Array.ext'
       simp only [Array.toList_append,Array.toList_extract,List.extract_eq_take_drop,Array.size_append,oG,iK,oF,List.size_toArray,Array.size_map,mN,jR,oK]
       simp only [kA,nL,oS,oH,lE,true_and]
       rw [lI (by simp)]
       apply oA
       intro x hx
       exact hval x hx
      rw [e2]
      exact callable_run hcall _ w
     ·simp only [iK,psOk]
      refine ⟨unboxP_ok hpr,?_⟩
      rw [oF]
      generalize asv.toList=l at hval
      induction l with
      |nil=>simp [psOk]
      |cons x l ih=>
       simp only [iK,psOk]
       refine ⟨?_,ih λy hy=>hval y (by simp [hy])⟩
       show pOk K (rho g L x) _
       rw [←hval x (by simp)]
       exact prov_sound hF hg
     ·simp only [iK,infosOf,oF]
      congr 1
      generalize asv.toList=l
      induction l with
      |nil=>simp [infosOf]
      |cons x l ih=>simp only [iK,infosOf,ih];rfl
   ·cases h
  ·cases h
 ·rename_i c asv at_ hop
  split at h
  ·rename_i f' caps cps hcal
   obtain ⟨hce,hcp⟩:=calOf_ok hF hg hcal
   cases hc:(asv.toList.all λx=>(val g L x).isSome)&&callable P f' with
   |false=>rw [hc] at h;simp at h
   |true=>
    rw [hc] at h
    simp only [cond_true,iC,iV] at h
    obtain ⟨rfl,rfl,rfl⟩:=h
    simp only [iE] at hc
    obtain ⟨hv,hcall⟩:=hc
    have hval:∀x∈asv.toList,a.eval x=rho g L x:= λx hx=>rho_sound hF hg (by
     rw [kP] at hv
     exact hv x hx)
    refine ⟨?_,?_,?_⟩
    ·unfold execOp
     simp only [hop]
     unfold resolve
     have hm:asv.map a.eval++caps.toArray=(oV (λx=>x.1) (oV (λx=>(rho g L x,infoOf K (prov g L x))) asv.toList++capArgs K caps cps)).toArray:=by
      apply Array.ext'
      rw [jG,capArgs_fst hcp]
      simp only [Array.toList_append,oG,oF]
      congr 1
      apply oA
      intro x hx
      exact hval x hx
     simp only [hce,Deferred.ofValue,jU,kB,Result.andThen_ok,invoke]
     have e0:(#[]:Array Value)++Array.map a.eval asv++caps.toArray=Array.map a.eval asv++caps.toArray:=by simp
     rw [e0,hm]
     exact callable_run hcall _ w
    ·rw [jG,capArgs_fst hcp]
     refine psOk_append ?_ hcp
     rw [oF]
     generalize asv.toList=l at hval
     induction l with
     |nil=>simp [psOk]
     |cons x l ih=>
      simp only [iK,psOk]
      refine ⟨?_,ih λy hy=>hval y (by simp [hy])⟩
      show pOk K (rho g L x) _
      rw [←hval x (by simp)]
      exact prov_sound hF hg
    ·rw [jG,infosOf_append,capArgs_snd hcp]
     congr 1
     rw [oF]
     generalize asv.toList=l
     induction l with
     |nil=>simp [infosOf]
     |cons x l ih=>simp only [iK,infosOf,ih];rfl
  ·cases h
 ·cases h
theorem map_den_get {G:Hp} {K:List (Chunk σ)} {k:Nat} {c:Chunk σ} (h:K[k]? =some c):(K.map (den D G))[k]? =some (den D G c):=by
 rw [iR,h];rfl
theorem info_cell_obj {K:List (Chunk σ)} {k off:Nat} (s:σ):infoOf K (.pt k (.cell off))≠ .obj s:=by
 simp only [infoOf]
 split
 ·cases iM off 0<;>simp
 ·cases iM off 0<;>simp
 ·simp
theorem info_cell_many {K:List (Chunk σ)} {k off:Nat} (s:List (Info σ)):infoOf K (.pt k (.cell off))≠ .many s:=by
 simp only [infoOf]
 split
 ·cases iM off 0<;>simp
 ·cases iM off 0<;>simp
 ·simp
theorem objK1_ok {K:List (Chunk σ)}:∀(vs:List Value) (ps:List Pr),psOk K vs ps→∀q s,(q,s)∈objsV.go vs (infosOf K ps)→∃k,k∈objKs.objK1 ps∧K[k]? =some (.obj q s)
 |[],ps,_,q,s,h=>by simp [objsV.go] at h
 |v::vs,[],h,_,_,_=>by simp [psOk] at h
 |v::vs,p::ps,h,q,s,hm=>by
  simp only [psOk] at h
  have ih:=objK1_ok vs ps h.2 q s
  simp only [infosOf] at hm
  rcases p with _|⟨k,pk⟩|ps'|p'
  ·cases v<;>simp only [infoOf,objsV.go] at hm<;>simpa [objKs.objK1] using ih hm
  ·cases pk with
   |obj=>
    obtain ⟨c,h1,h2⟩:=(by simpa [pOk] using h.1:∃c,K[k]? =some c∧cOk c v .obj)
    simp only [objKs.objK1,iG]
    cases c with
    |obj p0 s0=>
     simp only [cOk] at h2
     subst h2
     simp only [infoOf,h1,objsV.go,iG,iV] at hm
     rcases hm with ⟨rfl,rfl⟩|hm
     ·exact ⟨k, .inl rfl,h1⟩
     ·obtain ⟨k',hk',e⟩:=ih hm;exact ⟨k', .inr hk',e⟩
    |_=>
     have hm':(q,s)∈objsV.go vs (infosOf K ps):=by
      cases v with
      |pointer a=>cases a<;>simpa [infoOf,h1,objsV.go] using hm
      |_=>simpa [infoOf,h1,objsV.go] using hm
     obtain ⟨k',hk',e⟩:=ih hm';exact ⟨k', .inr hk',e⟩
   |slice=>
    have hm':(q,s)∈objsV.go vs (infosOf K ps):=by
     have hne:∀s',infoOf K (.pt k .slice)≠ .obj s':= λs'=>by
      simp only [infoOf];split<;>first|(simp;done)|(cases fzB _<;>simp)
     cases v with
     |pointer a=>
      cases a with
      |none=>simpa [objsV.go] using hm
      |some p0=>
       cases hi:infoOf K (.pt k .slice) with
       |obj s'=>exact absurd hi (hne s')
       |_=>simpa [hi,objsV.go] using hm
     |_=>simpa [objsV.go] using hm
    simpa [objKs.objK1] using ih hm'
   |cell off=>
    have hm':(q,s)∈objsV.go vs (infosOf K ps):=by
     have hne:∀s',infoOf K (.pt k (.cell off))≠ .obj s':=info_cell_obj
     cases v with
     |pointer a=>
      cases a with
      |none=>simpa [objsV.go] using hm
      |some p0=>
       cases hi:infoOf K (.pt k (.cell off)) with
       |obj s'=>exact absurd hi (hne s')
       |_=>simpa [hi,objsV.go] using hm
     |_=>simpa [objsV.go] using hm
    simpa [objKs.objK1] using ih hm'
   |elem i off=>cases v<;>simp only [infoOf,objsV.go] at hm<;>simpa [objKs.objK1] using ih hm
   |map=>cases v<;>simp only [infoOf,objsV.go] at hm<;>simpa [objKs.objK1] using ih hm
  ·cases v<;>simp only [infoOf,objsV.go] at hm<;>simpa [objKs.objK1] using ih hm
  ·cases v<;>simp only [infoOf,objsV.go] at hm<;>simpa [objKs.objK1] using ih hm
theorem objKs_ok {K:List (Chunk σ)}:∀(args:List (Value×Info σ)) (prs:List Pr),psOk K (args.map (·.1)) prs→args.map (·.2)=infosOf K prs→∀q s,(q,s)∈objsOf args→∃k,k∈objKs prs∧K[k]? =some (.obj q s)
 |[],prs,_,_,q,s,h=>by simp [objsOf] at h
 |(v,i)::args,[],h,_,_,_,_=>by simp [psOk] at h
 |(v,i)::args,p::ps,h,he,q,s,hm=>by
  simp only [iK,psOk] at h
  simp only [iK,infosOf,lE] at he
  obtain ⟨rfl,he⟩:=he
  simp only [objsOf,kC] at hm
  have ih:=objKs_ok args ps h.2 he q s
  rcases hm with hm|hm
  ·
   rcases p with _|⟨k,pk⟩|ps'|p'
   ·cases v<;>simp [infoOf,objsV] at hm
   ·cases pk with
    |obj=>
     obtain ⟨c,h1,h2⟩:=(by simpa [pOk] using h.1:∃c,K[k]? =some c∧cOk c v .obj)
     cases c with
     |obj p0 s0=>
      simp only [cOk] at h2
      subst h2
      simp only [infoOf,h1,objsV,iY,iV] at hm
      obtain ⟨rfl,rfl⟩:=hm
      exact ⟨k,by simp [objKs],h1⟩
     |_=>
      cases v with
      |pointer a=>cases a<;>simp [infoOf,h1,objsV] at hm
      |_=>simp [infoOf,h1,objsV] at hm
    |slice=>
     have hne:∀s',infoOf K (.pt k .slice)≠ .obj s':= λs'=>by
      simp only [infoOf];split<;>first|(simp;done)|(cases fzB _<;>simp)
     have hnm:∀is',infoOf K (.pt k .slice)≠ .many is':= λs'=>by
      simp only [infoOf];split<;>first|(simp;done)|(cases fzB _<;>simp)
     cases hi:infoOf K (.pt k .slice) with
     |obj s'=>exact absurd hi (hne s')
     |many s'=>exact absurd hi (hnm s')
     |_=>
      rw [hi] at hm
      cases v with
      |pointer a=>cases a<;>simp [objsV] at hm
      |_=>simp [objsV] at hm
    |cell off=>
     have hne:∀s',infoOf K (.pt k (.cell off))≠ .obj s':=info_cell_obj
     have hnm:∀is',infoOf K (.pt k (.cell off))≠ .many is':=info_cell_many
     cases hi:infoOf K (.pt k (.cell off)) with
     |obj s'=>exact absurd hi (hne s')
     |many s'=>exact absurd hi (hnm s')
     |_=>
      rw [hi] at hm
      cases v with
      |pointer a=>cases a<;>simp [objsV] at hm
      |_=>simp [objsV] at hm
    |elem i off=>cases v<;>simp [infoOf,objsV] at hm
    |map=>cases v<;>simp [infoOf,objsV] at hm
   ·cases v with
    |agg cs=>
     simp only [infoOf,objsV] at hm
     have h1:psOk K cs.toList ps':=by simpa [pOk] using h.1
     obtain ⟨k,hk,e⟩:=objK1_ok _ _ h1 q s hm
     exact ⟨k,by simp [objKs,hk],e⟩
    |pointer a=>cases a<;>simp [infoOf,objsV] at hm
    |_=>simp [infoOf,objsV] at hm
   ·cases v with
    |pointer a=>cases a<;>simp [infoOf,objsV] at hm
    |_=>simp [infoOf,objsV] at hm
  ·obtain ⟨k,hk,e⟩:=ih hm
   refine ⟨k,?_,e⟩
   rcases p with _|⟨k',pk⟩|ps'|p'
   ·simpa [objKs] using hk
   ·cases pk<;>simp [objKs,hk]
   ·simp [objKs,hk]
   ·simpa [objKs] using hk
theorem rows_den (G G':Hp):∀(rows:List (Mk σ)) (acs:List (Option Nat×Nat)),((jI sliceC rows acs:List (Chunk σ)).map (den D G))=((jI sliceC rows acs:List (Chunk σ)).map (den D G'))
 |[],_=>by simp
 |_::_,[]=>by simp
 |r::rows,ac::acs=>by
  simp only [lH,iK]
  rw [rows_den G G' rows acs]
  congr 1
  cases r with
  |row t cols=>
   simp only [sliceC]
   cases hf:fzB cols with
   |true=>simp only [cond_true,den,hf]
   |false=>rfl
  |obj s=>obtain ⟨a,c⟩:=ac;cases a<;>rfl
section
variable {P:Program} {T:List (Nat×Entry σ)} {g:Option (Nat×Bool)} {n:Nat} {L:List Ent} {K:List (Chunk σ)} {o:Oper} {f:Nat} {args:List (Value×Info σ)} {prs:List Pr} {a:Act} {e:Entry σ} {r:Res σ} {E:Ev} {G:Hp} {w:World}
theorem args_iOk {G' Zc:Hp} (hZ:Zc.le G') (hrow:∀(k:Nat) c,K[k]? =some c→(∀q s,c≠ .obj q s)→∃q:Hp,den D G c Zc q∧∀b o,q b=some o→G' b=some o) (hG:∀b o,G b=some o→G' b=some o):
 ∀(args:List (Value×Info σ)) (prs:List Pr),psOk K (args.map (·.1)) prs→args.map (·.2)=infosOf K prs→∀x∈args,iOk G' Zc x.1 x.2
 |[],_,_,_,x,hx=>by cases hx
 |(v,i)::args,[],h,_,_,_=>by simp [psOk] at h
 |(v,i)::args,p::ps,h,he,x,hx=>by
  simp only [iK,psOk] at h
  simp only [iK,infosOf,lE] at he
  obtain ⟨rfl,he⟩:=he
  simp only [iG] at hx
  rcases hx with rfl|hx
  ·exact infoOf_ok D hZ hrow hG p v h.1
  ·exact args_iOk hZ hrow hG args ps h.2 he x hx
theorem call_entry_none (hok:EntryOk D P f e) (h1:psOk K (args.map (·.1)) prs) (h2:args.map (·.2)=infosOf K prs) {c:Did σ} (hc:e args=some c) (hr:r=c.r c.x) (hpre:∀p∈r.pre,p) (hS:SatK D E G w K) (hno:objOf args=none):
 Calls P f (args.map (·.1)).toArray w λen w'=>∃acs:List (Option Nat×Nat),acsOk r.rows acs∧en= .returned (r.out (jI sliceV r.rows acs))∧
  SatK D E G w' (K++jI sliceC r.rows acs):=by
 obtain ⟨Ec,G',_,_,f1,fz,f2,f3,f4⟩:=Sat.frame hS [] (by simp) (by simp)
 refine ((hok args c r hc hr).2 hpre Ec G' w (args_iOk D (Zc:=Ec.z) fz (λk c hk _=>let ⟨q,h1,h2⟩:=f2 k _ (map_den_get D hk);⟨q,h1,h2 (by simp)⟩) f1 args prs h1 h2) (by simpa [objAs,hno] using f3)).mono λen w' ⟨acs,g1,g2,g3⟩=>⟨acs,g1,g2,?_⟩
 simp only [newAs,hno,nL] at g3
 rw [rows_den D G' G] at g3
 have g4:=f4 w' _ (by simp) g3
 unfold SatK
 rw [jG]
 simp only [putBack] at g4
 exact g4
theorem call_entry_some (hok:EntryOk D P f e) (h1:psOk K (args.map (·.1)) prs) (h2:args.map (·.2)=infosOf K prs) {c:Did σ} (hc:e args=some c) (hr:r=c.r c.x) (hpre:∀p∈r.pre,p) (hS:SatK D E G w K) {q:Addr} {s:σ} (hob:objOf args=some (q,s)):
 ∃k:Nat,k∈objKs prs∧K[k]? =some (.obj q s)∧Calls P f (args.map (·.1)).toArray w λen w'=>∃acs:List (Option Nat×Nat),acsOk r.rows acs∧en= .returned (r.out (jI sliceV r.rows acs))∧
  SatK D E G w' (K.set k (.obj q (r.new.getD s))++jI sliceC r.rows acs):=by
 have hmem:(q,s)∈objsOf args:=by
  unfold objOf at hob
  split at hob
  ·rename_i x hx;injection hob with hob;subst hob;rw [hx];simp
  ·cases hob
 obtain ⟨k,hkm,hk⟩:=objKs_ok args prs h1 h2 q s hmem
 refine ⟨k,hkm,hk,?_⟩
 have hklt:k<K.length:=lt_of_get hk
 obtain ⟨Ec,G',_,_,f1,fz,f2,f3,f4⟩:=Sat.frame hS [k] (by simp) (by simpa using hklt)
 have hgd:(K.map (den D G)).getD k (λ_ _=>True)=D q s:=by
  rw [iD,map_den_get D hk];rfl
 have hpre3:Sat Ec G' w (objAs D args):=by
  simp only [iK,mA,hgd] at f3
  simp only [objAs,hob]
  exact f3
 refine ((hok args c r hc hr).2 hpre Ec G' w (args_iOk D (Zc:=Ec.z) fz (λk' c hk' hnob=>let ⟨q,h1,h2⟩:=f2 k' _ (map_den_get D hk');⟨q,h1,h2 ?_⟩) f1 args prs h1 h2) hpre3).mono λen w' ⟨acs,g1,g2,g3⟩=>⟨acs,g1,g2,?_⟩
 ·simp only [iY]
  rintro rfl
  rw [hk] at hk';injection hk' with hk'
  exact hnob _ _ hk'.symm
 ·have hnew:newAs D args r.new=[D q (r.new.getD s)]:=by simp only [newAs,hob]
  rw [hnew,rows_den D G' G] at g3
  have g4:=f4 w' _ (by simp) g3
  unfold SatK
  rw [jG,kW]
  simp only [mU,putBack] at g4
  exact g4
end
end
section
open Go.RowKit
variable {σ:Type} (D:Addr→σ→Asn)
section
variable {P:Program} {o:Oper} {a:Act} {w:World}
theorem ex_move {x:Operand} (h:o.op= .move x∨o.op= .assign x):(execOp a.eval o).run P w= .ok (.value (a.eval x)) w:=by
 rcases h with h|h<;>simp [execOp,h]
theorem ex_load {t:TypeId} {x:Operand} {p:Addr} {v:Value} (h:o.op= .load t x) (hx:a.eval x= .pointer (some p)) (hl:(loadVar t p).run P w= .ok v w):(execOp a.eval o).run P w= .ok (.value v) w:=by
 simp [execOp,h,hx,Instr.loadAt,Instr.sureAddr,hl]
theorem ex_fieldAddr {s:TypeId} {x:Operand} {f:Nat} {p:Addr} {fields:Array Field} {fd:Field} {n:Nat} (h:o.op= .fieldAddr s x f) (hx:a.eval x= .pointer (some p)) (hu:P.underlying s=some (.struct fields))
 (hf:fields[f]? =some fd) (hn:sizeP P fd.type=some (n+1)):(execOp a.eval o).run P w= .ok (.value (.pointer (some (p.add fd.offset)))) w:=by
 simp [execOp,h,hx,Instr.fieldAt,Instr.sureAddr,run_underlying hu,hf,fieldPlace,sizeP_run hn]
theorem ex_index_slice {t e:TypeId} {x ix:Operand} {k:IntKind} {i:Int} {b:Addr} {len cap sz:Nat} (h:o.op= .indexAddr t x ix) (hx:a.eval x= .slice (some b) len cap) (hi:a.eval ix= .int k i)
 (hu:P.underlying t=some (.slice e)) (hn:sizeP P e=some sz) (h0:0≤i) (h1:i<(len:Int)):(execOp a.eval o).run P w= .ok (.value (.pointer (some (b.add (i.toNat*sz))))) w:=by
 simp [execOp,h,hx,hi,Instr.indexAt,asIntOf,run_underlying hu,sizeP_run hn,h0,h1]
theorem ex_index_array {t e:TypeId} {x ix:Operand} {k:IntKind} {i:Int} {b:Addr} {len sz:Nat} (h:o.op= .indexAddr t x ix) (hx:a.eval x= .pointer (some b)) (hi:a.eval ix= .int k i)
 (hu:P.underlying t=some (.array len e)) (hn:sizeP P e=some sz) (h0:0≤i) (h1:i<(len:Int)):(execOp a.eval o).run P w= .ok (.value (.pointer (some (b.add (i.toNat*sz))))) w:=by
 simp [execOp,h,hx,hi,Instr.indexAt,Instr.sureAddr,asIntOf,run_underlying hu,sizeP_run hn,h0,h1]
theorem ex_index_str {t:TypeId} {x ix:Operand} {k:IntKind} {i:Int} {s:ByteArray} (h:o.op= .index t x ix) (hx:a.eval x= .string s) (hi:a.eval ix= .int k i)
 (hu:P.underlying t=some .string) (h0:0≤i) (h1:i<(s.size:Int)):(execOp a.eval o).run P w= .ok (.value (.int .u8 (sAt s i))) w:=by
 have hlt:i.toNat<s.size:=by omega
 simp [execOp,h,hx,hi,Instr.index,asIntOf,run_underlying hu,h0,sAt,hlt]
theorem ex_quo {t t':TypeId} {x y:Operand} {k:IntKind} {m d:Int} (h:o.op= .binOp .quo t x y t') (hx:a.eval x= .int k m) (hy:a.eval y= .int k d) (hd:d≠0):
 (execOp a.eval o).run P w= .ok (.value (.int k (k.wrap (m.tdiv d)))) w:=by
 simp [execOp,h,hx,hy,eqGuard,binOp,Op.intDiv,hd]
theorem ex_rem {t t':TypeId} {x y:Operand} {k:IntKind} {m d:Int} (h:o.op= .binOp .rem t x y t') (hx:a.eval x= .int k m) (hy:a.eval y= .int k d) (hd:d≠0):
 (execOp a.eval o).run P w= .ok (.value (.int k (m.tmod d))) w:=by
 simp [execOp,h,hx,hy,eqGuard,binOp,Op.intDiv,hd]
theorem ex_shl {t t':TypeId} {x y:Operand} {k k':IntKind} {m d:Int} (h:o.op= .binOp .shl t x y t') (hx:a.eval x= .int k m) (hy:a.eval y= .int k' d) (hd:0≤d):
 (execOp a.eval o).run P w= .ok (.value (.int k (k.wrap (m*2^(min d.toNat k.bits))))) w:=by
 have:¬d<0:=by omega
 simp [execOp,h,hx,hy,eqGuard,binOp,Op.shift,this]
theorem ex_shr {t t':TypeId} {x y:Operand} {k k':IntKind} {m d:Int} (h:o.op= .binOp .shr t x y t') (hx:a.eval x= .int k m) (hy:a.eval y= .int k' d) (hd:0≤d):
 (execOp a.eval o).run P w= .ok (.value (.int k (m.fdiv (2^(min d.toNat k.bits))))) w:=by
 have:¬d<0:=by omega
 simp [execOp,h,hx,hy,eqGuard,binOp,Op.shift,this]
theorem ex_pick {c x y:Operand} {t:Bool} (h:o.op= .pick c x y) (hc:a.eval c= .bool t):(execOp a.eval o).run P w= .ok (.value (if t then a.eval x else a.eval y)) w:=by
 cases t<;>simp [execOp,h,hc,asBool]
end
theorem pickVal_sound {n:Nat} {L:List Ent} {K:List (Chunk σ)} {a:Act} {g:Option (Nat×Bool)} {c x y:Operand} {v:Value} (hF:Fr n L K a) (hg:GV a.tmps g) (h:pickVal g L c x y=some v):
 ∃t,a.eval c= .bool t∧(if t then a.eval x else a.eval y)=v:=by
 unfold pickVal at h
 split at h
 ·rename_i t cs hc
  have hce:=val_sound hF hg hc
  refine ⟨t,hce,?_⟩
  have ha:∀u,(match val g L x with|some v=>some v|none=>val (some (cs,true)) L x)=some u→t=true→a.eval x=u:=by
   intro u hu ht
   split at hu
   ·rename_i v' hv;injection hu with hu;subst hu;exact val_sound hF hg hv
   ·exact val_sound (g:=some (cs,true)) hF (by simp only [GV];rw [←ht];exact hce) hu
  have hb:∀u,(match val g L y with|some v=>some v|none=>val (some (cs,false)) L y)=some u→t=false→a.eval y=u:=by
   intro u hu ht
   split at hu
   ·rename_i v' hv;injection hu with hu;subst hu;exact val_sound hF hg hv
   ·exact val_sound (g:=some (cs,false)) hF (by simp only [GV];rw [←ht];exact hce) hu
  cases hmk:marked cs L
  rotate_left
  ·rw [hmk] at h
   simp only [cond_true] at h
   cases t
   ·simpa using hb _ h rfl
   ·simpa using ha _ h rfl
  rw [hmk] at h
  simp only [cond_false] at h
  split at h
  ·rename_i u z hA hB
   have ha':=ha _ hA
   have hb':=hb _ hB
   split at h
   ·injection h with h;subst h
    cases t
    ·simpa using hb' rfl
    ·have:=ha' rfl
     simp only [Act.eval,Value.bool.injEq] at this
     simp [Act.eval]
   ·injection h with h;subst h
    cases t
    ·have:=hb' rfl
     simp [Act.eval]
    ·simpa using ha' rfl
   ·injection h with h;subst h
    cases t
    ·simpa using hb' rfl
    ·simpa using ha' rfl
  ·rename_i k u k' z hA hB
   have ha':=ha _ hA
   have hb':=hb _ hB
   split at h
   ·rename_i e _
    injection h with h;subst h;subst e
    cases t
    ·simpa using hb' rfl
    ·simpa using ha' rfl
   ·cases h
  ·cases h
 ·cases h
theorem eqFs_run {P:Program} (d:Nat) (eq:TypeId→Value→Value→Option Bool) (heq:∀t x y r,eq t x y=some r→∀w,(Op.equalIn d t x y).run P w= .ok r w) (xs ys:Array Value):∀(fs:List Field) (r:Bool),eqFs P eq xs ys fs=some r→
 ∀w,(Op.eqFields d xs ys fs).run P w= .ok r w
 |[],r,h,w=>by simp only [eqFs,iC] at h;subst h;simp [Op.eqFields]
 |f::fs,r,h,w=>by
  simp only [eqFs] at h
  cases hn:f.name=="_" with
  |true=>rw [hn] at h;simp at h
  |false=>
   rw [hn] at h
   simp only [cond_false] at h
   split at h
   ·rename_i a b s ha hb hs
    split at h
    ·rename_i q hq
     simp only [iC] at h
     subst h
     have hne:f.name≠"_":=by simpa using hn
     simp only [Op.eqFields,hne,if_true,ne_eq,not_false_eq_true,jU,evalS_sound P _ _ ha,evalS_sound P _ _ hb,Result.andThen_ok,heq _ _ _ _ hq]
     cases q
     ·simp
     ·simpa using eqFs_run d eq heq xs ys fs s hs w
    ·cases h
   ·cases h
theorem eqIs_run {P:Program} (d:Nat) (eq:TypeId→Value→Value→Option Bool) (heq:∀t x y r,eq t x y=some r→∀w,(Op.equalIn d t x y).run P w= .ok r w) (e:TypeId) (c:Nat) (xs ys:Array Value):∀(is:List Nat) (r:Bool),eqIs P eq e c xs ys is=some r→
 ∀w,(Op.eqItems d e c xs ys is).run P w= .ok r w
 |[],r,h,w=>by simp only [eqIs,iC] at h;subst h;simp [Op.eqItems]
 |i::is,r,h,w=>by
  simp only [eqIs] at h
  split at h
  ·rename_i a b s ha hb hs
   split at h
   ·rename_i q hq
    simp only [iC] at h
    subst h
    simp only [Op.eqItems,jU,evalS_sound P _ _ ha,evalS_sound P _ _ hb,Result.andThen_ok,heq _ _ _ _ hq]
    cases q
    ·simp
    ·simpa using eqIs_run d eq heq e c xs ys is s hs w
   ·cases h
  ·cases h
theorem eqVal_run {P:Program}:∀(d:Nat) (t:TypeId) (x y:Value) (r:Bool),eqVal P d t x y=some r→∀m,d≤m→∀w,(Op.equalIn m t x y).run P w= .ok r w
 |0,t,x,y,r,h,_,_,_=>by simp [eqVal] at h
 |d+1,t,x,y,r,h,m,hm,w=>by
  obtain ⟨m',rfl⟩:∃m',m=m'+1:=⟨m-1,by omega⟩
  simp only [eqVal] at h
  split at h
  ·rename_i k0 k a k' b hu
   split at h
   ·rename_i e _
    subst e
    simp only [iC] at h;subst h
    exact run_equalIn_int w m' t k k0 a b hu
   ·cases h
  ·rename_i a b hu
   simp only [iC] at h;subst h
   exact run_equalIn_bool' w m' t a b hu
  ·rename_i fs xs ys hu
   cases hs:P.stoodInHeld t with
   |true=>rw [hs] at h;simp at h
   |false=>
    rw [hs] at h
    simp only [cond_false] at h
    have hf:P.fieldsOf t=fs:=by simp [Program.fieldsOf,hu]
    rw [run_equalIn_struct w m' t xs ys (by rw [hf];exact hu) hs,hf]
    exact eqFs_run m' (eqVal P d) (λt x y r h w=>eqVal_run d t x y r h m' (by omega) w) xs ys fs.toList r h w
  ·rename_i n e xs ys hu
   split at h
   ·rename_i i hi
    rw [run_equalIn_array w m' xs ys hu hi]
    exact eqIs_run m' (eqVal P d) (λt x y r h w=>eqVal_run d t x y r h m' (by omega) w) e _ xs ys _ r h w
   ·cases h
  ·cases h
theorem eqSlice_run {P:Program} {w:World} {d:Nat} {t el:TypeId} {a:Option Addr} {n c m k:Nat} (hu:P.underlying t=some (.slice el)):(Op.equalIn (d+1) t (.slice a n c) (.slice none m k)).run P w= .ok a.isNone w:=by
 unfold Op.equalIn
 simp only [jU,run_underlying hu,Result.andThen_ok]
 cases a<;>simp
theorem eqOf_run {P:Program} {g:Option (Nat×Bool)} {n:Nat} {L:List Ent} {K:List (Chunk σ)} {o:Oper} {a:Act} {b:Bool} (hF:Fr n L K a) (hg:GV a.tmps g) (h:eqOf P g L o=some b) (w:World):(execOp a.eval o).run P w= .ok (.value (.bool b)) w:=by
 unfold eqOf at h
 split at h
 ·rename_i t x y t' hop
  split at h
  ·rename_i xs ys hx hy
   cases hq:P.eqGuardType P.depth t with
   |true=>rw [hq] at h;simp at h
   |false=>
    rw [hq] at h
    simp only [cond_false] at h
    have hr:=eqVal_run 8 t _ _ b h 10000 (by omega)
    simp [execOp,hop,val_sound hF hg hx,val_sound hF hg hy,run_eqGuard_agg w .eql t x y xs ys hq,run_eql_struct w t xs ys,hr]
  ·rename_i sa _ _ _ _ hx hy
   split at h
   ·rename_i el hu
    injection h with h;subst h
    have e1:=val_sound hF hg hx
    have e2:=val_sound hF hg hy
    have hr:= λn c m k=>eqSlice_run (P:=P) (w:=w) (d:=9999) (a:=sa) (n:=n) (c:=c) (m:=m) (k:=k) hu
    simp only [execOp,hop,e1,e2,eqGuard,binOp,Op.equal,Op.maxDepth]
    simp [hr]
   ·cases h
  ·cases h
 ·rename_i t x y t' hop
  split at h
  ·rename_i xs ys hx hy
   cases hq:P.eqGuardType P.depth t with
   |true=>rw [hq] at h;simp at h
   |false=>
    rw [hq] at h
    simp only [cond_false,Option.map_eq_some_iff] at h
    obtain ⟨b',h,rfl⟩:=h
    have hr:=eqVal_run 8 t _ _ b' h 10000 (by omega)
    simp [execOp,hop,val_sound hF hg hx,val_sound hF hg hy,run_eqGuard_agg w .neq t x y xs ys hq,run_neq_struct w t xs ys,hr]
  ·rename_i sa _ _ _ _ hx hy
   split at h
   ·rename_i el hu
    injection h with h;subst h
    have e1:=val_sound hF hg hx
    have e2:=val_sound hF hg hy
    have hr:= λn c m k=>eqSlice_run (P:=P) (w:=w) (d:=9999) (a:=sa) (n:=n) (c:=c) (m:=m) (k:=k) hu
    simp only [execOp,hop,e1,e2,eqGuard,binOp,Op.equal,Op.maxDepth]
    simp [hr]
   ·cases h
  ·cases h
 ·cases h
theorem pOk_pt {K:List (Chunk σ)} {v:Value} {k:Nat} {pk:PK}:pOk K v (.pt k pk)↔∃c,K[k]? =some c∧cOk c v pk:=by simp [pOk]
theorem pOk_no {K:List (Chunk σ)} {v:Value}:pOk K v .no:=by simp [pOk]
theorem setFromP_eq:∀(qs ps:List Pr) (off:Nat),setFromP ps off qs=setFrom ps off qs
 |[],_,_=>rfl
 |q::qs,ps,off=>by rw [setFromP,setFrom,setFromP_eq qs]
theorem psOk_set {K:List (Chunk σ)} {vs:List Value} {ps:List Pr} (h:psOk K vs ps) (i:Nat) {v:Value} {p:Pr} (hv:pOk K v p):psOk K (vs.set i v) (ps.set i p):=by
 rw [psOk_iff] at h ⊢
 refine ⟨by simpa using h.1, λj v' p' h1 h2=>?_⟩
 by_cases hij:i=j
 ·subst hij
  rcases jN i vs.length with hl|hl
  ·rw [iX hl] at h1
   rw [iX (by omega)] at h2
   injection h1 with h1;injection h2 with h2;subst h1;subst h2;exact hv
  ·rw [jP (by simpa using hl)] at h1;cases h1
 ·rw [jD hij] at h1 h2
  exact h.2 j v' p' h1 h2
theorem psOk_setFrom {K:List (Chunk σ)}:∀(us:List Value) (qs:List Pr) (vs:List Value) (ps:List Pr) (off:Nat),psOk K vs ps→psOk K us qs→psOk K (setFrom vs off us) (setFrom ps off qs)
 |[],[],vs,ps,off,h,_=>by simpa [setFrom] using h
 |[],_::_,_,_,_,_,h=>by simp [psOk] at h
 |_::_,[],_,_,_,_,h=>by simp [psOk] at h
 |u::us,q::qs,vs,ps,off,h,h'=>by
  simp only [psOk] at h'
  exact psOk_setFrom us qs _ _ _ (psOk_set h off h'.1) h'.2
theorem foldl_setFrom (off:Nat):∀(vs:List Value) (k:Nat) (cs:Array Value),((vs.zipIdx k).foldl (λcs x=>cs.setIfInBounds (off+x.2) x.1) cs).toList=setFrom cs.toList (off+k) vs
 |[],k,cs=>by simp [setFrom]
 |v::vs,k,cs=>by
  rw [List.zipIdx_cons,List.foldl_cons,foldl_setFrom off vs (k+1),setFrom]
  simp [nF]
theorem fill_ok {K:List (Chunk σ)} (place:Nat→Option (Nat×Nat)):∀(parts:List (Nat×Value×Pr)) (cells cells':Array Value) (ps:List Pr),psOk K cells.toList ps→(∀x∈parts,pOk K x.2.1 x.2.2)→
 Instr.fill place cells (parts.map λx=>(x.1,x.2.1))=some cells'→psOk K cells'.toList (pfill place ps parts)
 |[],cells,cells',ps,h,_,hf=>by
  simp only [mA,Instr.fill,iC] at hf
  subst hf
  simpa [pfill] using h
 |(i,v,p)::r,cells,cells',ps,h,hp,hf=>by
  simp only [iK,Instr.fill] at hf
  cases hpl:place i with
  |none=>simp [hpl] at hf
  |some os=>
   obtain ⟨off,size⟩:=os
   simp only [hpl] at hf
   split at hf
   ·cases hf
   ·simp only [pfill,hpl]
    refine fill_ok place r _ cells' _ ?_ (λx hx=>hp x (by simp [hx])) hf
    rw [←Array.foldl_toList,Array.toList_zipIdx,setFromP_eq]
    have e:=foldl_setFrom off v.cells.toList 0 cells
    simp only [oE] at e
    rw [show (List.foldl (λcs (x:Value×Nat)=>match x with|(c,j)=>cs.setIfInBounds (off+j) c) cells (v.cells.toList.zipIdx)).toList=setFrom cells.toList off v.cells.toList from e]
    exact psOk_setFrom _ _ _ _ _ h (cellsPr_ok (hp (i,v,p) (by simp)))
theorem placesP_run {P:Program} {w:World}:∀(fs:List Field) (pl:List (Nat×Nat)),placesP P fs=some pl→(fs.mapM (m:=Sem) λf=>do pure (f.offset,←sizeOf f.type)).run P w= .ok pl w
 |[],pl,h=>by simp only [placesP,iC] at h;subst h;rfl
 |f::fs,pl,h=>by
  simp only [placesP] at h
  split at h
  ·rename_i n r hn hr
   injection h with h;subst h
   rw [List.mapM_cons]
   simp only [jU,sizeP_run hn,Result.andThen_ok,kB,placesP_run fs r hr]
  ·cases h
theorem build_run {P:Program} {w w':World} {t:TypeId} {parts:Array (Nat×Value)} {fs:Array Field} {pl:List (Nat×Nat)} {ti:TypeInfo} {z v:Value} (hu:P.underlying t=some (.struct fs)) (hpl:placesP P fs.toList=some pl) (hi:P.info? t=some ti) (hz:ti.zero=some z)
 (h:(Instr.build t parts).run P w= .ok v w'):∃cells,v= .agg cells∧Instr.fill (pl[·]?) z.cells parts.toList=some cells:=by
 unfold Instr.build at h
 simp only [jU,zeroValue,typeInfo,run_program,Result.andThen_ok,hi,hz,kB,run_underlying hu] at h
 rw [pS,Sem.run_map] at h
 have hr:=placesP_run (w:=w) fs.toList pl hpl
 erw [hr] at h
 simp only [Result.andThen_ok] at h
 have he:(λx:Nat=>pl.toArray[x]?)=(λx:Nat=>pl[x]?):=by funext x;simp
 rw [he] at h
 cases hf:Instr.fill (λx=>pl[x]?) z.cells parts.toList with
 |none=>rw [hf] at h;simp at h
 |some cells=>
  rw [hf] at h
  simp only [kB,Result.ok.injEq] at h
  exact ⟨cells,h.1.symm,rfl⟩
theorem alonePr_ok {P:Program} {g:Option (Nat×Bool)} {n:Nat} {L:List Ent} {K:List (Chunk σ)} {o:Oper} {a:Act} {v:Value} (hF:Fr n L K a) (hg:GV a.tmps g) (hall:o.op.operands.all (λx=>(val g L x).isSome)=true) {w:World}
 (h:(execOp a.eval o).run P w= .ok (.value v) w):pOk K v (alonePr P g L o):=by
 have hval:∀x∈o.op.operands,a.eval x=rho g L x:= λx hx=>rho_sound hF hg (by
  rw [kO] at hall
  exact hall x hx)
 unfold alonePr
 split
 ·
  rename_i t parts hop
  unfold buildPr
  split
  ·rename_i fs i hu hi
   split
   ·rename_i pl z hpl hz
    have hrun:(Instr.build t (parts.map λx=>(x.1,a.eval x.2))).run P w= .ok v w:=by
     simp only [execOp,hop,jU] at h
     generalize hgr:(Instr.build t (Array.map (λx=>(x.1,a.eval x.2)) parts)).run P w=r at h
     cases r with
     |ok u w1=>simp only [Result.andThen_ok,kB,Result.ok.injEq,Next.value.injEq] at h;obtain ⟨rfl,rfl⟩:=h;rfl
     |halt x w1=>simp [Result.andThen] at h
    obtain ⟨cells,rfl,hf⟩:=build_run hu hpl hi hz hrun
    have hmem:∀x∈parts.toList,a.eval x.2=rho g L x.2∧pOk K (rho g L x.2) (prov g L x.2):= λx hx=>by
     have he:=hval x.2 (by rw [hop];simp only [Op.operands];exact List.mem_toArray.2 (List.mem_map_of_mem hx))
     exact ⟨he,by rw [←he];exact prov_sound hF hg⟩
    have hlist:(parts.map λx=>(x.1,a.eval x.2)).toList=(parts.toList.map λx=>(x.1,rho g L x.2,prov g L x.2)).map λx=>(x.1,x.2.1):=by
     rw [oG,oF]
     apply oA
     intro x hx
     simp [(hmem x hx).1]
    rw [hlist] at hf
    have hz0:psOk K z.cells.toList (nos z.cells.size):=by simpa using nos_ok (K:=K) z.cells.toList
    have:=fill_ok (K:=K) (pl[·]?) _ z.cells cells (nos z.cells.size) hz0 (λx hx=>by
     simp only [kZ] at hx
     obtain ⟨y,hy,rfl⟩:=hx
     exact (hmem y hy).2) hf
    have:=mkMany_agg this
    rw [pM] at this
    exact this
   ·exact pOk_no
  ·exact pOk_no
 ·
  rename_i t x f hop
  have hx:=prov_sound (x:=x) hF hg
  unfold partPr
  split
  ·rename_i fs ps hu hp
   rw [hp] at hx
   split
   ·rename_i fd hf
    have hrun:(Instr.field t (a.eval x) f).run P w= .ok v w:=by
     simp only [execOp,hop,jU] at h
     cases hr:(Instr.field t (a.eval x) f).run P w with
     |ok u w1=>rw [hr] at h;simp only [Result.andThen_ok,kB,Result.ok.injEq,Next.value.injEq] at h;obtain ⟨rfl,rfl⟩:=h;rfl
     |halt y w1=>rw [hr] at h;simp [Result.andThen] at h
    cases hex:a.eval x with
    |agg cs=>
     rw [hex] at hx hrun
     have hps:psOk K cs.toList ps:=by simpa [pOk] using hx
     rw [psOk_iff] at hps
     simp only [Instr.field,jU,run_underlying hu,Result.andThen_ok,hf,asAgg,kB,Go.part] at hrun
     split
     ·rename_i m ha hs
      rw [aggB_run ha] at hrun
      simp only [Result.andThen_ok,if_true,jU,sizeP_run hs,kB,Result.ok.injEq,and_true] at hrun
      subst hrun
      have hq:psOk K (cs.extract fd.offset (fd.offset+m)).toList ((ps.drop fd.offset).take m):=by
       rw [psOk_iff]
       constructor
       ·simp;have:=hps.1;simp at this;omega
       ·intro i v p h1 h2
        rw [lC] at h2
        split at h2
        ·rename_i him
         rw [mS] at h2
         rw [Array.toList_extract,List.extract_eq_take_drop,lC] at h1
         split at h1
         ·rw [mS] at h1;exact hps.2 _ v p h1 h2
         ·cases h1
        ·cases h2
      have:=mkMany_agg hq
      rw [pM] at this
      exact this
     ·rename_i m ha
      rw [aggB_run ha] at hrun
      simp only [Result.andThen_ok,mK,if_false] at hrun
      cases hc:cs[fd.offset]? with
      |none=>rw [hc] at hrun;simp at hrun
      |some u=>
       rw [hc] at hrun
       simp only [kB,Result.ok.injEq,and_true] at hrun
       subst hrun
       rw [iD]
       cases hp':ps[fd.offset]? with
       |none=>simpa using pOk_no
       |some p'=>exact hps.2 fd.offset u p' (by simpa using hc) hp'
     ·exact pOk_no
    |_=>rw [hex] at hrun;simp [Instr.field,run_underlying hu,hf,asAgg] at hrun
   ·exact pOk_no
  ·exact pOk_no
 ·
  rename_i x i hop
  have hx:=prov_sound (x:=x) hF hg
  unfold tupPr
  split
  ·rename_i ps hp
   rw [hp] at hx
   cases hex:a.eval x with
   |tuple vs=>
    rw [hex] at hx
    have hps:psOk K vs.toList ps:=by simpa [pOk] using hx
    rw [psOk_iff] at hps
    simp only [execOp,hop,hex,Instr.extract,jU] at h
    cases hv:vs[i]? with
    |none=>rw [hv] at h;simp at h
    |some u=>
     rw [hv] at h
     simp only [kB,Result.andThen_ok,Result.ok.injEq,Next.value.injEq,and_true] at h
     subst h
     rw [iD]
     cases hp':ps[i]? with
     |none=>simpa using pOk_no
     |some p'=>exact hps.2 i u p' (by simpa using hv) hp'
   |_=>simp [execOp,hop,hex,Instr.extract] at h
  ·exact pOk_no
 ·
  rename_i t x hop
  have hx:=prov_sound (x:=x) hF hg
  split
  ·exact pOk_no
  ·rename_i p hp hno
   cases hc:P.concrete t with
   |false=>exact pOk_no
   |true=>
    simp only [execOp,hop,jU,run_makeInterface w t (a.eval x) hc,Result.andThen_ok,kB,Result.ok.injEq,Next.value.injEq,and_true] at h
    subst h
    simp only [cond_true,pOk]
    exact hx
 ·
  rename_i fn first caps hop
  simp only [execOp,hop,Instr.makeFunc,jU,kB,Result.andThen_ok,Result.ok.injEq,Next.value.injEq,and_true] at h
  subst h
  apply mkMany_func
  rw [oG]
  generalize caps.toList=l
  induction l with
  |nil=>simp [psOk]
  |cons x l ih=>
   simp only [iK,psOk]
   exact ⟨prov_sound hF hg,ih⟩
 ·
  rename_i x hop
  split
  ·rename_i q hv
   have hx:=prov_sound (x:=x) hF hg
   have he:=val_sound hF hg hv
   simp only [execOp,hop,he,kB,Result.ok.injEq,Next.value.injEq,and_true] at h
   subst h
   rw [he] at hx;exact hx
  ·exact pOk_no
 ·exact pOk_no
theorem findNow_int {k kk vk:IntKind} {i:Int}:∀(es:List MapEntry) (m:Nat),(∀e∈es,∃x y,e.key= .int kk x∧e.val= .int vk y)→
 (Instr.findNow (.int k) (.int kk i) es m=some none∧mlook es i=none∧∀e∈es,e.key≠ .int kk i)∨∃j e y,Instr.findNow (.int k) (.int kk i) es m=some (some (m+j, .int vk y))∧mlook es i=some y∧es[j]? =some e∧e.key= .int kk i∧∀j',j'<j→∀e',es[j']? =some e'→e'.key≠ .int kk i
 |[],m,_=> .inl ⟨rfl,rfl,by simp⟩
 |e::es,m,h=>by
  obtain ⟨x,y,hk,hv⟩:=h e (by simp)
  by_cases hi:i=x
  ·subst hi
   exact .inr ⟨0,e,y,by simp [Instr.findNow,Instr.sameNow,hk,hv],by simp [mlook,hk,hv],rfl,hk, λj' hj=>absurd hj (mX _)⟩
  ·have hb:(i==x)=false:=by simpa using hi
   have hne:e.key≠ .int kk i:=by rw [hk];intro e';injection e' with _ e';exact hi e'.symm
   rcases findNow_int (k:=k) (i:=i) es (m+1) (λe he=>h e (by simp [he])) with ⟨h1,h2,h3⟩|⟨j,e',z,h1,h2,h3,h4,h5⟩
   ·refine .inl ⟨by simp [Instr.findNow,Instr.sameNow,hk,hb,h1],by simp [mlook,hk,hv,hb,h2], λe' he'=>?_⟩
    simp only [iG] at he'
    rcases he' with rfl|he'
    ·exact hne
    ·exact h3 e' he'
   ·refine .inr ⟨j+1,e',z,by simp [Instr.findNow,Instr.sameNow,hk,hb,h1];omega,by simp [mlook,hk,hv,hb,h2],by simpa using h3,h4, λj' hj' e'' he''=>?_⟩
    cases j' with
    |zero=>simp at he'';subst he'';exact hne
    |succ j'=>exact h5 j' (by omega) e'' (by simpa using he'')
theorem lookup_run {P:Program} {o:Oper} {a:Act} {w:World} {t:TypeId} {x ix:Operand} {ok:Bool} {b clock:Nat} {kk kk' vk:IntKind} {i:Int} {kt et:TypeId} {es:Array MapEntry} {f:Int→Option Int} (hop:o.op= .lookup t x ix ok) (hx:a.eval x= .map (some b)) (hi:a.eval ix= .int kk i)
 (hu:P.underlying t=some (.map kt et)) (hkt:P.underlying kt=some (.int kk')) (hz:(P.info? et).bind (·.zero)=some (.int vk 0)) (hb:w.heap[b]? =some (.map es clock)) (hm:MapIs kk vk es.toList f):
 (execOp a.eval o).run P w= .ok (.value (bif ok then .tuple #[.int vk ((f i).getD 0), .bool (f i).isSome] else .int vk ((f i).getD 0))) w:=by
 have hzz:∀w:World,(zeroValue et).run P w= .ok (.int vk 0) w:= λw=>by
  cases hti:P.info? et with
  |none=>rw [hti] at hz;cases hz
  |some ti=>
   rw [hti] at hz
   simp only [Option.bind_some] at hz
   simp [zeroValue,typeInfo,hti,hz]
 have hck:(Instr.checkKey es.isEmpty 10000 kt (.int kk i)).run P w= .ok () w:=by
  unfold Instr.checkKey
  simp only [jU,run_underlying hkt,Result.andThen_ok,kB]
 have hm2:=hm.2 i
 rcases findNow_int (k:=kk') (i:=i) es.toList 0 hm.1 with ⟨h1,h2,_⟩|⟨j,e,y,h1,h2,_⟩
 ·rw [h2] at hm2
  have hf:(Instr.findKey kt (.int kk i) es.toList).run P w= .ok none w:=by simp [Instr.findKey,run_underlying hkt,h1]
  simp only [execOp,hop,hx,hi,Instr.lookup,jU,run_underlying hu,Result.andThen_ok,MapKept.run_getObj_map hb,kB,hck,hf,hzz,←hm2]
  cases ok<;>rfl
 ·rw [h2] at hm2
  have hf:(Instr.findKey kt (.int kk i) es.toList).run P w= .ok (some (0+j, .int vk y)) w:=by simp [Instr.findKey,run_underlying hkt,h1]
  simp only [execOp,hop,hx,hi,Instr.lookup,jU,run_underlying hu,Result.andThen_ok,MapKept.run_getObj_map hb,kB,hck,hf,←hm2]
  cases ok<;>rfl
theorem findRo_spec {b:Nat}:∀{K:List (Chunk σ)} {k k' n:Nat} {cols:List Col},findRo b k K=some (k',n,cols)→∃m cap,k'=k+m∧K[m]? =some (.ro (some ⟨b,0,none⟩) n cap cols)
 |[],_,_,_,_,h=>by simp [findRo] at h
 |c::r,k,k',n,cols,h=>by
  have next:findRo b (k+1) r=some (k',n,cols)→∃m cap,k'=k+m∧(c::r)[m]? =some (.ro (some ⟨b,0,none⟩) n cap cols):= λh=>by
   obtain ⟨m,cap,h1,h2⟩:=findRo_spec h
   exact ⟨m+1,cap,by omega,by simpa using h2⟩
  unfold findRo at h
  split at h
  ·rename_i h0;cases h0
  ·rename_i b' n' cap' cols' r' h0
   injection h0 with e1 e2
   subst e1;subst e2
   cases hbz:(iM b b'&&!(fzB cols')) with
   |true=>
    rw [hbz] at h
    simp only [cond_true,iC,iV] at h
    obtain ⟨rfl,rfl,rfl⟩:=h
    simp only [iE] at hbz
    have hb:=hbz.1
    have:=iJ hb
    subst this
    exact ⟨0,cap',rfl,rfl⟩
   |false=>rw [hbz] at h;simp only [cond_false] at h;exact next h
  ·rename_i h0
   injection h0 with e1 e2
   subst e1;subst e2
   exact next h
theorem q2_of_run {P:Program} {o:Oper} {a:Act} {C:World→Prop} {w:World} {v:Value} (h:(execOp a.eval o).run P w= .ok (.value v) w):o.quietAt P a C w v∧((∀c,o.op≠ .call c)→(execOp a.eval o).run P w= .ok (.value v) w):=⟨q_of_run h, λ_=>h⟩
theorem callOf_call {P:Program} {g:Option (Nat×Bool)} {L:List Ent} {K:List (Chunk σ)} {o:Oper} {x:Nat×List (Value×Info σ)×List Pr} (h:callOf P g L K o=some x):∃c,o.op= .call c:=by
 unfold callOf at h
 split at h
 ·rename_i hop;exact ⟨_,hop⟩
 ·rename_i hop;exact ⟨_,hop⟩
 ·cases h
def QS (P:Program) (o:Oper) (a:Act) (E:Ev) (G:Hp) (K:List (Chunk σ)) (v:Value) (p:Pr):Prop:=
 (∀w,SatK D E G w K→o.quietAt P a (λw'=>SatK D E G w' K) w v∧((∀c,o.op≠ .call c)→(execOp a.eval o).run P w= .ok (.value v) w))∧pOk K v p
theorem qstep_sound {P:Program} {T:List (Nat×Entry σ)} (hT:TableOk D P T) {g:Option (Nat×Bool)} {n:Nat} {L:List Ent} {K:List (Chunk σ)} {o:Oper} {a:Act} {v:Value} {p:Pr} {ps:List Prop}
 (hF:Fr n L K a) (hg:GV a.tmps g) (h:qstep P T g L K o=some (v,p,ps)) (hps:∀q∈ps,q) {E:Ev} {G:Hp} {w0:World} (hS:SatK D E G w0 K):QS D P o a E G K v p:=by
 unfold qstep at h
 split at h
 ·
  rename_i x hop
  split at h
  ·rename_i u hu
   simp only [iC,iV] at h;obtain ⟨rfl,rfl,rfl⟩:=h
   have hv:=val_sound hF hg hu
   exact ⟨λw _=>q2_of_run (by rw [ex_move (.inl hop),hv]),by rw [←hv];exact prov_sound hF hg⟩
  ·cases h
 ·
  rename_i x hop
  split at h
  ·rename_i u hu
   simp only [iC,iV] at h;obtain ⟨rfl,rfl,rfl⟩:=h
   have hv:=val_sound hF hg hu
   exact ⟨λw _=>q2_of_run (by rw [ex_move (.inr hop),hv]),by rw [←hv];exact prov_sound hF hg⟩
  ·cases h
 ·
  rename_i c x y hop
  split at h
  ·rename_i u hu
   simp only [iC,iV] at h;obtain ⟨rfl,rfl,rfl⟩:=h
   obtain ⟨t,h1,h2⟩:=pickVal_sound hF hg hu
   exact ⟨λw _=>q2_of_run (by rw [ex_pick hop h1,h2]),pOk_no⟩
  ·cases h
 ·
  rename_i t x hop
  have hpx:=prov_sound (x:=x) hF hg
  split at h
  ·rename_i k off hpr
   rw [hpr,pOk_pt] at hpx
   obtain ⟨c,hk,hc⟩:=hpx
   split at h
   ·rename_i b t0 cs hk'
    rw [hk'] at hk;injection hk with hk;subst hk
    split at h
    ·rename_i u pu hu
     simp only [iC,iV] at h;obtain ⟨rfl,rfl,rfl⟩:=h
     refine ⟨λw hw=>q2_of_run (ex_load hop hc (cellsLoad_run (b:=b) (t0:=t0) (fr:=(0,0)) ?_ hu)),cellsLoad_pOk (hF.kok _ _ _ _ hk') hu⟩
     obtain ⟨_,q,_,hq,hs⟩:=hw.get D hk'
     exact hs _ _ hq
    ·cases h
   ·rename_i b t0 vs hk'
    rw [hk'] at hk;injection hk with hk;subst hk
    split at h
    ·rename_i u pu hu
     simp only [iC,iV] at h;obtain ⟨rfl,rfl,rfl⟩:=h
     refine ⟨λw hw=>q2_of_run (ex_load hop hc (cellsLoad_run (b:=b) (t0:=t0) (fr:=(0,0)) ?_ hu)),pOk_no⟩
     obtain ⟨_,q,_,hq,_⟩:=hw.get D hk'
     have:=hw.G D _ _ hq
     rw [oF]
     simpa [Function.comp_def] using this
    ·cases h
   ·cases h
  ·rename_i k i off hpr
   rw [hpr,pOk_pt] at hpx
   obtain ⟨c,hk,hc⟩:=hpx
   split at h
   ·rename_i a' t0 m cap cols hk'
    rw [hk'] at hk;injection hk with hk;subst hk
    split at h
    ·rename_i u hu
     simp only [iC,iV] at h;obtain ⟨rfl,rfl,rfl⟩:=h
     refine ⟨λw hw=>?_,pOk_no⟩
     rcases row_cells D hw hk' hc with ⟨_,_,_,_,_,b,e1,e2,e3⟩|⟨_,_,_,_,b,e1,_⟩|e1
     ·injection e1 with _ _ _ _ e1;subst e1
      exact q2_of_run (ex_load hop e2 (rowLoad_run e3 hu))
     ·cases e1
     ·cases e1
    ·cases h
   ·rename_i a' m cap cols hk'
    rw [hk'] at hk;injection hk with hk;subst hk
    cases hsl:slB cols with
    |true=>rw [hsl] at h;cases h
    |false=>
    rw [hsl,cond_false] at h
    split at h
    ·rename_i u hu
     simp only [iC,iV] at h;obtain ⟨rfl,rfl,rfl⟩:=h
     refine ⟨λw hw=>?_,pOk_no⟩
     rcases row_cells D hw hk' hc with ⟨_,_,_,_,_,b,e1,_⟩|⟨_,_,_,_,b,e1,e2,e3⟩|e1
     ·cases e1
     ·injection e1 with _ _ _ e1;subst e1
      exact q2_of_run (ex_load hop e2 (rowLoad_run e3 hu))
     ·cases e1
    ·cases h
   ·cases h
  ·cases h
 ·
  rename_i s x f hop
  have hpx:=prov_sound (x:=x) hF hg
  split at h
  ·rename_i fields k pk hu hpr
   rw [hpr,pOk_pt] at hpx
   obtain ⟨c,hk,hc⟩:=hpx
   split at h
   ·rename_i fd qd hf hv
    have hev:=val_sound hF hg hv
    rw [hev] at hc
    split at h
    ·rename_i m hn
     split at h
     ·rename_i off
      split at h
      ·rename_i ad
       simp only [iC,iV] at h;obtain ⟨rfl,rfl,rfl⟩:=h
       refine ⟨λw _=>q2_of_run (ex_fieldAddr hop hev hu hf hn),?_⟩
       rw [pOk_pt]
       refine ⟨c,hk,?_⟩
       cases c with
       |dead=>trivial
       |cells b t cs=>
        simp only [cOk] at hc ⊢
        injection hc with hc;injection hc with hc;subst hc
        rw [Addr.add_lit0]
       |roc b t cs=>
        simp only [cOk] at hc ⊢
        injection hc with hc;injection hc with hc;subst hc
        rw [Addr.add_lit0]
       |_=>exact hc.elim
      ·cases h
     ·rename_i i off
      split at h
      ·cases h
      rename_i hdead
      simp only [iC,iV] at h;obtain ⟨rfl,rfl,rfl⟩:=h
      cases c with
      |dead=>exact absurd hk hdead
      |row a t n cap cols=>
       obtain ⟨h1,b,h2,h3⟩:=hc
       injection h3 with h3;subst h3
       refine ⟨λw _=>q2_of_run (ex_fieldAddr hop hev hu hf hn),?_⟩
       rw [pOk_pt]
       exact ⟨_,hk,h1,b,h2,by simp only [iT];rw [Addr.add_add,nF]⟩
      |ro a n cap cols=>
       obtain ⟨h1,b,h2,h3⟩:=hc
       injection h3 with h3;subst h3
       refine ⟨λw _=>q2_of_run (ex_fieldAddr hop hev hu hf hn),?_⟩
       rw [pOk_pt]
       exact ⟨_,hk,h1,b,h2,by simp only [iT];rw [Addr.add_add,nF]⟩
      |_=>exact hc.elim
     ·cases h
    ·cases h
   ·cases h
  ·cases h
 ·
  rename_i t x ix hop
  have hpx:=prov_sound (x:=x) hF hg
  split at h
  ·rename_i e k ad m cap kk i hu hpr hvx hvi
   have hex:=val_sound hF hg hvx
   have hei:=val_sound hF hg hvi
   rw [hpr,hex,pOk_pt] at hpx
   obtain ⟨c,hk,hc⟩:=hpx
   split at h
   ·rename_i sz a' t0 n' cap' cols hsz hk'
    rw [hk'] at hk;injection hk with hk;subst hk
    cases hbq:iM sz cols.length with
    |false=>rw [hbq] at h;simp at h
    |true=>
     rw [hbq] at h
     have hlen:=iJ hbq
     simp only [cond_true,iC,iV] at h;obtain ⟨rfl,rfl,rfl⟩:=h
     have hb:=gimp_elim (p:=0≤i∧i<(m:Int)) hF hg (hps _ (by simp))
     simp only [cOk] at hc
     injection hc with hc1 hc2 hc3
     subst hc1;subst hc2
     have hin:i.toNat<m:=by omega
     obtain ⟨_,q,_,hq,_⟩:=hS.get D hk'
     obtain ⟨b,hb',_⟩:=(den_row D hq).2.1 i.toNat hin
     cases a' with
     |none=>simp at hb'
     |some b0=>
      exact ⟨λw hw=>q2_of_run (ex_index_slice hop hex hei hu hsz hb.1 hb.2),pOk_pt.2 ⟨_,hk',hin,b0,rfl,by simp [hlen]⟩⟩
   ·rename_i sz a' n' cap' cols hsz hk'
    rw [hk'] at hk;injection hk with hk;subst hk
    cases hbq:iM sz cols.length with
    |false=>rw [hbq] at h;simp at h
    |true=>
     rw [hbq] at h
     have hlen:=iJ hbq
     simp only [cond_true,iC,iV] at h;obtain ⟨rfl,rfl,rfl⟩:=h
     have hb:=gimp_elim (p:=0≤i∧i<(m:Int)) hF hg (hps _ (by simp))
     simp only [cOk] at hc
     injection hc with hc1 hc2 hc3
     subst hc1;subst hc2
     have hin:i.toNat<m:=by omega
     obtain ⟨_,q,_,hq,_⟩:=hS.get D hk'
     obtain ⟨b,hb',_⟩:=hq.1.2.1 i.toNat hin
     subst hb'
     exact ⟨λw hw=>q2_of_run (ex_index_slice hop hex hei hu hsz hb.1 hb.2),pOk_pt.2 ⟨_,hk',hin,b,rfl,by simp [hlen]⟩⟩
   ·cases h
  ·rename_i len e k off ad kk i hu hpr hvx hvi
   have hex:=val_sound hF hg hvx
   have hei:=val_sound hF hg hvi
   rw [hpr,hex,pOk_pt] at hpx
   obtain ⟨c,hk,hc⟩:=hpx
   split at h
   ·rename_i u sz hsz
    cases hbq:decide (0≤i)&&decide (i<(len:Int)) with
    |false=>rw [hbq] at h;simp at h
    |true=>
     rw [hbq] at h
     simp only [cond_true,iC,iV] at h;obtain ⟨rfl,rfl,rfl⟩:=h
     simp only [iE,decide_eq_true_eq] at hbq
     refine ⟨λw _=>q2_of_run (ex_index_array hop hex hei hu hsz hbq.1 hbq.2),pOk_pt.2 ⟨c,hk,?_⟩⟩
     cases c with
     |dead=>trivial
     |cells b t cs=>
      simp only [cOk] at hc ⊢
      injection hc with hc;injection hc with hc;subst hc
      rw [Addr.add_lit0]
     |roc b t cs=>
      simp only [cOk] at hc ⊢
      injection hc with hc;injection hc with hc;subst hc
      rw [Addr.add_lit0]
     |_=>exact hc.elim
   ·rename_i u sz hsz
    simp only [iC,iV] at h;obtain ⟨rfl,rfl,rfl⟩:=h
    have hb:=gimp_elim (p:=0≤i∧i<(len:Int)) hF hg (hps _ (by simp))
    refine ⟨λw _=>q2_of_run (ex_index_array hop hex hei hu hsz hb.1 hb.2),pOk_pt.2 ⟨c,hk,?_⟩⟩
    cases c with
    |dead=>trivial
    |cells b t cs=>
     simp only [cOk] at hc ⊢
     injection hc with hc;injection hc with hc;subst hc
     rw [Addr.add_lit0]
    |roc b t cs=>
     simp only [cOk] at hc ⊢
     injection hc with hc;injection hc with hc;subst hc
     rw [Addr.add_lit0]
    |_=>exact hc.elim
   ·cases h
  ·rename_i len e k j off q kk i hu hpr hvx hvi
   have hex:=val_sound hF hg hvx
   have hei:=val_sound hF hg hvi
   rw [hpr,hex,pOk_pt] at hpx
   obtain ⟨c,hk,hc⟩:=hpx
   split at h
   ·rename_i sz a' n' cap' cols hsz hk'
    rw [hk'] at hk;injection hk with hk;subst hk
    simp only [iC,iV] at h;obtain ⟨rfl,rfl,rfl⟩:=h
    have hb:=gimp_elim (p:=0≤i∧i<(len:Int)) hF hg (hps _ (by simp))
    obtain ⟨h1,b,h2,h3⟩:=hc
    injection h3 with h3;subst h3
    refine ⟨λw _=>q2_of_run (ex_index_array hop hex hei hu hsz hb.1 hb.2),?_⟩
    rw [pOk_pt]
    exact ⟨_,hk',h1,b,h2,by simp only [iT];rw [Addr.add_add,nF]⟩
   ·cases h
  ·rename_i len e ad kk i hu hpr hvx hvi
   have hex:=val_sound hF hg hvx
   have hei:=val_sound hF hg hvi
   split at h
   ·rename_i b sz hsz
    split at h
    ·rename_i k n' cols hfr
     cases hbq:iM n' len&&iM sz cols.length with
     |false=>rw [hbq] at h;simp at h
     |true=>
      rw [hbq] at h
      simp only [cond_true,iC,iV] at h;obtain ⟨rfl,rfl,rfl⟩:=h
      simp only [iE] at hbq
      have hb1:=iJ hbq.1
      have hb2:=iJ hbq.2
      have hb:=gimp_elim (p:=0≤i∧i<(len:Int)) hF hg (hps _ (by simp))
      obtain ⟨m,cap,hkm,hK⟩:=findRo_spec hfr
      have had:ad=⟨b,0,none⟩:=by
       simp only [val,iC,Value.pointer.injEq] at hvx
       exact hvx.symm
      have hK':K[k]? =some (.ro (some ⟨b,0,none⟩) n' cap cols):=by rw [hkm,lV];exact hK
      refine ⟨λw _=>q2_of_run (ex_index_array hop hex hei hu hsz hb.1 hb.2),pOk_pt.2 ⟨_,hK',⟨by omega,_,rfl,by rw [had,hb2,oE]⟩⟩⟩
    ·cases h
   ·cases h
  ·cases h
 ·
  rename_i t x ix hop
  split at h
  ·rename_i st kk i hu hvx hvi
   simp only [iC,iV] at h;obtain ⟨rfl,rfl,rfl⟩:=h
   have hb:=gimp_elim (p:=0≤i∧i<(st.size:Int)) hF hg (hps _ (by simp))
   exact ⟨λw _=>q2_of_run (ex_index_str hop (val_sound hF hg hvx) (val_sound hF hg hvi) hu hb.1 hb.2),pOk_no⟩
  ·cases h
 ·
  rename_i t x y t' hop
  split at h
  ·rename_i k m k' d hx hy
   split at h
   ·rename_i e _
    subst e
    simp only [iC,iV] at h;obtain ⟨rfl,rfl,rfl⟩:=h
    have hd:=gimp_elim (p:=d≠0) hF hg (hps _ (by simp))
    exact ⟨λw _=>q2_of_run (ex_quo hop (val_sound hF hg hx) (val_sound hF hg hy) hd),pOk_no⟩
   ·cases h
  ·cases h
 ·
  rename_i t x y t' hop
  split at h
  ·rename_i k m k' d hx hy
   split at h
   ·rename_i e _
    subst e
    simp only [iC,iV] at h;obtain ⟨rfl,rfl,rfl⟩:=h
    have hd:=gimp_elim (p:=d≠0) hF hg (hps _ (by simp))
    exact ⟨λw _=>q2_of_run (ex_rem hop (val_sound hF hg hx) (val_sound hF hg hy) hd),pOk_no⟩
   ·cases h
  ·cases h
 ·
  rename_i t x y t' hop
  split at h
  ·rename_i k m k' d hx hy
   simp only [iC,iV] at h;obtain ⟨rfl,rfl,rfl⟩:=h
   have hd:=gimp_elim (p:=0≤d) hF hg (hps _ (by simp))
   exact ⟨λw _=>q2_of_run (ex_shl hop (val_sound hF hg hx) (val_sound hF hg hy) hd),pOk_no⟩
  ·cases h
 ·
  rename_i t x y t' hop
  split at h
  ·rename_i k m k' d hx hy
   simp only [iC,iV] at h;obtain ⟨rfl,rfl,rfl⟩:=h
   have hd:=gimp_elim (p:=0≤d) hF hg (hps _ (by simp))
   exact ⟨λw _=>q2_of_run (ex_shr hop (val_sound hF hg hx) (val_sound hF hg hy) hd),pOk_no⟩
  ·cases h
 ·cases h
 ·cases h
 ·
  rename_i t x ix ok hop
  have hpx:=prov_sound (x:=x) hF hg
  split at h
  ·rename_i k ki i kt et hpr hvi hu
   have hei:=val_sound hF hg hvi
   rw [hpr,pOk_pt] at hpx
   obtain ⟨c,hk,hc⟩:=hpx
   split at h
   ·rename_i b kk vk f hk'
    rw [hk'] at hk;injection hk with hk;subst hk
    split at h
    ·rename_i e1 kk' vk' _ hukt hz
     subst e1
     split at h
     ·rename_i e2 e3 _ _
      subst e2;subst e3
      simp only [iC,iV] at h;obtain ⟨rfl,rfl,rfl⟩:=h
      refine ⟨λw hw=>q2_of_run ?_,pOk_no⟩
      obtain ⟨_,q,_,⟨es,clock,hes,hm⟩,hs⟩:=hw.get D hk'
      exact lookup_run hop hc hei hu hukt hz (hs _ _ hes) hm
     ·cases h
    ·cases h
   ·cases h
  ·cases h
 ·cases h
 ·cases h
 ·
  rename_i hsel _ _ _ _
  split at h
  ·rename_i f args prs hcall
   split at h
   ·rename_i e he
    split at h
    ·rename_i cd hcd
     split at h
     ·rename_i pre out outp hr
      split at h
      rotate_left
      ·cases h
      rename_i hop0
      simp only [iC,iV] at h;obtain ⟨rfl,rfl,rfl⟩:=h
      have hpre:∀q∈pre,q:= λq hq=>gimp_elim hF hg (hps _ (List.mem_map_of_mem hq))
      refine ⟨λw hw=>⟨?_, λhnc=>(by obtain ⟨c,hcc⟩:=callOf_call hcall;exact absurd hcc (hnc c))⟩,pOk_no⟩
      obtain ⟨hrun,hps1,hps2⟩:=callOf_run hF hg hcall w
      unfold Oper.quietAt
      rw [hrun]
      refine ⟨rfl,?_⟩
      have hok:=lookT_ok D hT he
      cases hob:objOf args with
      |none=>
       refine (call_entry_none D hok hps1 hps2 hcd hr.symm hpre hw hob).mono λen w' ⟨acs,g1,g2,g3⟩=>?_
       have:acs=[]:=by
        cases acs with
        |nil=>rfl
        |cons _ _=>exact g1.elim
       subst this
       exact ⟨g2,by simpa using g3⟩
      |some qs=>
       obtain ⟨q,s⟩:=qs
       obtain ⟨k,_,hk,hc⟩:=call_entry_some D hok hps1 hps2 hcd hr.symm hpre hw hob
       refine hc.mono λen w' ⟨acs,g1,g2,g3⟩=>?_
       have:acs=[]:=by
        cases acs with
        |nil=>rfl
        |cons _ _=>exact g1.elim
       subst this
       have hset:K.set k (Chunk.obj q s)=K:=by
        apply nZ
        intro i
        by_cases hik:k=i
        ·subst hik;rw [iX (lt_of_get hk),hk]
        ·rw [jD hik]
       exact ⟨g2,by simpa [hset] using g3⟩
     ·cases h
    ·cases h
   ·cases h
  ·split at h
   ·rename_i b hb
    simp only [iC,iV] at h;obtain ⟨rfl,rfl,rfl⟩:=h
    exact ⟨λw _=>q2_of_run (eqOf_run hF hg hb w),pOk_no⟩
   cases hall:o.op.operands.all (λx=>(val g L x).isSome) with
   |false=>rw [hall] at h;simp at h
   |true=>
    rw [hall] at h
    simp only [cond_true] at h
    split at h
    ·rename_i u hu
     simp only [iC,iV] at h;obtain ⟨rfl,rfl,rfl⟩:=h
     have hrun:= λw=>evalS_exec hF hg (λcs b hb=>hsel cs b hb) hall hu w
     exact ⟨λw _=>q2_of_run (hrun w),alonePr_ok hF hg hall (hrun w0)⟩
    ·cases h
end
section
open Go.RowKit
variable {σ:Type} (D:Addr→σ→Asn)
theorem semAt_run {ro:Option Nat} {ρ:Operand→Value} {o:Oper} {P:Program} {w w':World} {nx:Next} (h:(execOp ρ o).run P w= .ok nx w') (hn:∀d,nx≠ .defer d):(Oper.semAt ro ρ o).run P w= .ok nx w':=by
 rw [Oper.semAt_eq ro ρ o λc hc=>?_]
 ·exact h
 ·simp only [execOp,hc,jU] at h
  cases hr:(resolve ρ c o.type).run P w with
  |halt x w1=>rw [hr] at h;simp [Result.andThen] at h
  |ok d w1=>rw [hr] at h;simp [Result.andThen] at h;exact hn d h.1.symm
structure Fq where
 id:FuncId
 ro:Option Nat:=none
 df:List Deferred:=[]
instance:Coe FuncId Fq:=⟨λf=>⟨f,none,[]⟩⟩
def bfr (f:Fq):Frame:={(default:Frame) with fn:=f.id,kind:= .normal,roundOf:=f.ro}
def Fq.fin (f:Fq) (P:Program) (cs:List Frame) (S:Machine) (e:Ending) (w:World):Prop:=
 match f.ro with
 |none=>∃fr,S=lone fr cs w∧fr.fn=f.id∧fr.leaving P w e
 |some _=>∃v c cs',e= .returned v∧cs=c::cs'∧S=lone (c.finish v) cs' w
def Fq.pl (f:Fq):Prop:=f=⟨f.id,none,[]⟩
theorem Fq.pl.ro {f:Fq} (h:f.pl):f.ro=none:=by rw [h]
def Fq.act (f:Fq) (a:Act):Act:={a with defers:=f.df++a.defers}
theorem Fq.act_put (f:Fq) (a:Act) (d:Option Nat) (v:Value):f.act (a.put d v)=(f.act a).put d v:=by cases d<;>rfl
theorem Fq.act_eval (f:Fq) (a:Act):(f.act a).eval=a.eval:=rfl
theorem Fq.pl.act {f:Fq} (h:f.pl) (a:Act):f.act a=a:=by unfold Fq.act;rw [h];rfl
def Fq.okc (f:Fq) (cs:List Frame):Prop:=f.ro=none∨cs≠[]
theorem stepR_scope {P:Program} {b:Frame} {a:Act} {k:List Item} {cs:List Frame} {w:World} {c:Code}:step P (lone (b.atR a (.code (.scope c)::k)) cs w)= .next (lone (b.atR a (.code c:: .inScope c::k)) cs w):=
 step_lone_go (by simp [stepG,stepG.exec,Frame.atR])
theorem stepR_inScope {P:Program} {b:Frame} {a:Act} {k:List Item} {cs:List Frame} {w:World} {c:Code}:step P (lone (b.atR a (.inScope c::k)) cs w)= .next (lone (b.atR a k) cs w):=
 step_lone_go (by simp [stepG,stepG.exec,Frame.atR])
def WT (P:Program) (f:Fq) (R:Ending→World→Prop) (todo:List Item) (a:Act) (w:World):Prop:=
 ∀cs,f.okc cs→∃e w' S,R e w'∧Comes P (lone ((bfr f).atR (f.act a) todo) cs w) S e∧f.fin P cs S e w'
section
variable {P:Program} {f:Fq} {R:Ending→World→Prop} {k:List Item} {a:Act} {w:World}
theorem WT.step {t t':List Item} {a':Act} {w':World} (h:∀cs,step P (lone ((bfr f).atR (f.act a) t) cs w)= .next (lone ((bfr f).atR (f.act a') t') cs w')) (H:WT P f R t' a' w'):WT P f R t a w:= λcs hcs=>
 let ⟨e,w'',fr,h1,h2,h3⟩:=H cs hcs
 ⟨e,w'',fr,h1,Comes.of_steps (.one (h cs)) h2,h3⟩
theorem WT.finish {fn:Func} {t:List Item} {v:Value} (hpl:f.pl) (hfn:P.funcs[f.id]? =some fn) (ht:t=[]∨∃k,t= .code .ret::k) (hd:a.defers=[]) (hr:(results fn a.tmps).run P w= .ok v w) (hR:R (.returned v) w):WT P f R t a w:= λcs _=>by
 have hro:=hpl.ro
 rw [hpl.act a]
 have hb:(bfr f).roundOf=none:=hro
 have hfin:∀fr,fr.fn=f.id→fr.leaving P w (.returned v)→f.fin P cs (lone fr cs w) (.returned v) w:= λfr h1 h2=>by
  unfold Fq.fin;rw [hro];exact ⟨fr,rfl,h1,h2⟩
 rcases ht with rfl|⟨k,rfl⟩
 ·exact ⟨.returned v,w,_,hR,Steps.one (stepR_end hb),hfin _ rfl ⟨rfl,hd,rfl,fn,hfn,hr⟩⟩
 ·exact ⟨.returned v,w,_,hR,Steps.one (stepR_ret hb),hfin _ rfl ⟨rfl,hd,rfl,fn,hfn,hr⟩⟩
theorem calls_of_WT {f:FuncId} {fn:Func} {c:Code} {args:Array Value} (hf:P.funcs[f]? =some fn) (hb:fn.body=some c)
 (h:WT P (f:Fq) R [.code c] {tmps:=args++oL (fn.ntmps-args.size) undef,defers:=[]} w):Calls P f args w R:= λcs=>by
 have henter:Frame.enter P f args .normal=(bfr (f:Fq)).atR {tmps:=args++oL (fn.ntmps-args.size) undef,defers:=[]} [.code c]:=by
  simp [Frame.enter,Frame.atR,hf,hb,bfr]
 rw [henter]
 obtain ⟨e,w',S,h1,h2,fr,rfl,h3,h4⟩:=h cs (.inl rfl)
 exact ⟨e,w',fr,h1,h2,h3,h4⟩
theorem WT.op {ops:Array Oper} {i:Nat} {rest:List Nat} {o:Oper} {C:World→Prop} {v:Value} (ho:ops[i]? =some o) (hw:jL o (yielded ops a.tmps)=true) (hq:o.quietAt P a C w v) (hC:C w)
 (H:∀w',C w'→WT P f R (.inRegion ops rest::k) (a.put o.dst v) w'):WT P f R (.inRegion ops (i::rest)::k) a w:=by
 unfold Oper.quietAt at hq
 have hg:∀cs,_:= λcs=>stepGR_op (P:=P) (b:=bfr f) (a:=f.act a) (k:=k) (cs:=cs) (w:=w) (rest:=rest) ho hw
 simp only [Fq.act_eval] at hg
 have hfin:∀v,((bfr f).atR (f.act a) (.inRegion ops (i::rest)::k)).finish v=(bfr f).atR (f.act (a.put o.dst v)) (.inRegion ops rest::k):=by
  intro v;rw [Frame.finish_atR,ho,f.act_put];rfl
 cases hr:(execOp a.eval o).run P w with
 |halt x w'=>rw [hr] at hq;exact hq.elim
 |ok nx w'=>
  rw [hr] at hq
  cases nx with
  |value u=>
   obtain ⟨rfl,rfl⟩:=hq
   refine WT.step (λcs=>step_lone_go ?_) (H _ hC)
   rw [hg,←hfin];simp [stepG.apply,semAt_run (ro:=(bfr f).roundOf) hr (by simp)]
  |skip=>
   obtain ⟨rfl,rfl⟩:=hq
   refine WT.step (λcs=>step_lone_go ?_) (H _ hC)
   rw [hg,←hfin];simp [stepG.apply,semAt_run (ro:=(bfr f).roundOf) hr (by simp)]
  |enter g args=>
   obtain ⟨rfl,hc⟩:=hq
   intro cs hcs
   obtain ⟨e,w'',fr,⟨he,hC''⟩,hsteps,_,hleave⟩:=hc ((bfr f).atR (f.act a) (.inRegion ops (i::rest)::k)::cs)
   subst he
   have henter:Go.step P (lone ((bfr f).atR (f.act a) (.inRegion ops (i::rest)::k)) cs w')=
    .next (lone (Frame.enter P g args .normal) ((bfr f).atR (f.act a) (.inRegion ops (i::rest)::k)::cs) w'):=
    step_lone_go (by rw [hg];simp [stepG.apply,semAt_run (ro:=(bfr f).roundOf) hr (by simp),Frame.atR])
   have hstep:=step_leave_returned (c:=(bfr f).atR (f.act a) (.inRegion ops (i::rest)::k)) (cs:=cs) hleave
   rw [hfin] at hstep
   obtain ⟨e,w3,fr',h1,h2,h3⟩:=H w'' hC'' cs hcs
   exact ⟨e,w3,fr',h1,Comes.of_steps (.head henter (Steps.trans hsteps (.one hstep))) h2,h3⟩
  |_=>exact hq.elim
theorem WT.op_run {ops:Array Oper} {i:Nat} {rest:List Nat} {o:Oper} {v:Value} {w':World} (ho:ops[i]? =some o) (hw:jL o (yielded ops a.tmps)=true)
 (hr:(execOp a.eval o).run P w= .ok (.value v) w'∨((execOp a.eval o).run P w= .ok .skip w'∧v=undef)) (H:WT P f R (.inRegion ops rest::k) (a.put o.dst v) w'):WT P f R (.inRegion ops (i::rest)::k) a w:=by
 have hg:∀cs,_:= λcs=>stepGR_op (P:=P) (b:=bfr f) (a:=f.act a) (k:=k) (cs:=cs) (w:=w) (rest:=rest) ho hw
 simp only [Fq.act_eval] at hg
 have hfin:∀v,((bfr f).atR (f.act a) (.inRegion ops (i::rest)::k)).finish v=(bfr f).atR (f.act (a.put o.dst v)) (.inRegion ops rest::k):=by
  intro v;rw [Frame.finish_atR,ho,f.act_put];rfl
 rcases hr with hr|⟨hr,rfl⟩
 ·refine WT.step (λcs=>step_lone_go ?_) H
  rw [hg,←hfin];simp [stepG.apply,semAt_run (ro:=(bfr f).roundOf) hr (by simp)]
 ·refine WT.step (λcs=>step_lone_go ?_) H
  rw [hg,←hfin];simp [stepG.apply,semAt_run (ro:=(bfr f).roundOf) hr (by simp)]
theorem WT.op_call {ops:Array Oper} {i:Nat} {rest:List Nat} {o:Oper} {g:FuncId} {args:Array Value} {w':World} {Q:Ending→World→Prop} (ho:ops[i]? =some o) (hw:jL o (yielded ops a.tmps)=true)
 (hr:(execOp a.eval o).run P w= .ok (.enter g args) w') (hc:Calls P g args w' Q) (H:∀e w'',Q e w''→∃v,e= .returned v∧WT P f R (.inRegion ops rest::k) (a.put o.dst v) w''):WT P f R (.inRegion ops (i::rest)::k) a w:=by
 have hg:∀cs,_:= λcs=>stepGR_op (P:=P) (b:=bfr f) (a:=f.act a) (k:=k) (cs:=cs) (w:=w) (rest:=rest) ho hw
 simp only [Fq.act_eval] at hg
 have hfin:∀v,((bfr f).atR (f.act a) (.inRegion ops (i::rest)::k)).finish v=(bfr f).atR (f.act (a.put o.dst v)) (.inRegion ops rest::k):=by
  intro v;rw [Frame.finish_atR,ho,f.act_put];rfl
 intro cs hcs
 obtain ⟨e,w'',fr,hQ,hsteps,_,hleave⟩:=hc ((bfr f).atR (f.act a) (.inRegion ops (i::rest)::k)::cs)
 obtain ⟨v,rfl,HW⟩:=H e w'' hQ
 have henter:Go.step P (lone ((bfr f).atR (f.act a) (.inRegion ops (i::rest)::k)) cs w)=
  .next (lone (Frame.enter P g args .normal) ((bfr f).atR (f.act a) (.inRegion ops (i::rest)::k)::cs) w'):=
  step_lone_go (by rw [hg];simp [stepG.apply,semAt_run (ro:=(bfr f).roundOf) hr (by simp),Frame.atR])
 have hstep:=step_leave_returned (c:=(bfr f).atR (f.act a) (.inRegion ops (i::rest)::k)) (cs:=cs) hleave
 rw [hfin] at hstep
 obtain ⟨e,w3,fr',h1,h2,h3⟩:=HW cs hcs
 exact ⟨e,w3,fr',h1,Comes.of_steps (.head henter (Steps.trans hsteps (.one hstep))) h2,h3⟩
theorem round_bfr {l:Nat} {fn:FuncId} {tmps:Array Value} {assign body:Code}:Frame.round l fn tmps assign body .normal=(bfr ⟨fn,some l,[]⟩).atR {tmps:=tmps,defers:=[]} [.code assign, .beginRound, .code body]:=by
 simp [Frame.round,Frame.atR,bfr]
theorem WT.op_yield {ops:Array Oper} {i:Nat} {rest:List Nat} {o:Oper} {l:Nat} {fn:FuncId} {tmps:Array Value} {assign body:Code} {w1:World} {Rr:Ending→World→Prop} (ho:ops[i]? =some o) (hw:jL o (yielded ops a.tmps)=true)
 (hr:(execOp a.eval o).run P w= .ok (.round l fn tmps assign body) w1) (hround:WT P ⟨fn,some l,[]⟩ Rr [.code assign, .beginRound, .code body] {tmps:=tmps,defers:=[]} w1)
 (H:∀v w',Rr (.returned v) w'→WT P f R (.inRegion ops rest::k) (a.put o.dst v) w'):WT P f R (.inRegion ops (i::rest)::k) a w:=by
 have hg:∀cs,_:= λcs=>stepGR_op (P:=P) (b:=bfr f) (a:=f.act a) (k:=k) (cs:=cs) (w:=w) (rest:=rest) ho hw
 simp only [Fq.act_eval] at hg
 have hfin:∀v,((bfr f).atR (f.act a) (.inRegion ops (i::rest)::k)).finish v=(bfr f).atR (f.act (a.put o.dst v)) (.inRegion ops rest::k):=by
  intro v;rw [Frame.finish_atR,ho,f.act_put];rfl
 intro cs hcs
 obtain ⟨e,w',S,hR,hsteps,v,c,cs',rfl,hc,rfl⟩:=hround ((bfr f).atR (f.act a) (.inRegion ops (i::rest)::k)::cs) (.inr (by simp))
 injection hc with hc1 hc2
 subst hc1 hc2
 have henter:Go.step P (lone ((bfr f).atR (f.act a) (.inRegion ops (i::rest)::k)) cs w)=
  .next (lone (Frame.round l fn tmps assign body .normal) ((bfr f).atR (f.act a) (.inRegion ops (i::rest)::k)::cs) w1):=
  step_lone_go (by rw [hg];simp [stepG.apply,semAt_run (ro:=(bfr f).roundOf) hr (by simp),Frame.atR])
 rw [round_bfr] at henter
 rw [hfin] at hsteps
 obtain ⟨e,w3,fr',h1,h2,h3⟩:=H v w' hR cs hcs
 exact ⟨e,w3,fr',h1,Comes.of_steps (.head henter hsteps) h2,h3⟩
def YCalls (P:Program) (l:Nat) (asv:Array Value) (w:World) (R:Ending→World→Prop):Prop:=
 ∃fn tmps assign body,(Instr.yield l asv).run P w= .ok (.round l fn tmps assign body) w∧WT P ⟨fn,some l,[]⟩ R [.code assign, .beginRound, .code body] {tmps:=tmps,defers:=[]} w
def CallsX (P:Program) (g:Nat) (args:Array Value) (w:World) (R:Ending→World→Prop):Prop:=
 (g≠yKey→Calls P g args w R)∧(g=yKey→∀l asv,args= #[.func (.yield l) #[] #[]]++asv→YCalls P l asv w R)
theorem WT.op_ycall {ops:Array Oper} {i:Nat} {rest:List Nat} {o:Oper} {l:Nat} {asv:Array Value} {Q:Ending→World→Prop} (ho:ops[i]? =some o) (hw:jL o (yielded ops a.tmps)=true)
 (hr:(execOp a.eval o).run P w=(Instr.yield l asv).run P w) (hc:YCalls P l asv w Q) (H:∀e w'',Q e w''→∃v,e= .returned v∧WT P f R (.inRegion ops rest::k) (a.put o.dst v) w''):WT P f R (.inRegion ops (i::rest)::k) a w:=by
 obtain ⟨fn,tmps,assign,body,h1,h2⟩:=hc
 refine WT.op_yield ho hw (hr.trans h1) h2 λv w' hq=>?_
 obtain ⟨v',e,hW⟩:=H _ _ hq
 injection e with e;subst e
 exact hW
theorem op_not {ops:Array Oper} {i:Nat} {o:Oper} {a':Act} (ho:ops[i]? =some o) (hw:jL o (yielded ops a'.tmps)=false):(jE (λx=>jL x (yielded ops a'.tmps)) ops[i]?).getD false=false:=by simp [ho,hw]
theorem WT.op_skip {ops:Array Oper} {i:Nat} {rest:List Nat} {o:Oper} (ho:ops[i]? =some o) (hw:jL o (yielded ops a.tmps)=false)
 (H:WT P f R (.inRegion ops rest::k) (a.put o.dst undef) w):WT P f R (.inRegion ops (i::rest)::k) a w:=by
 have hs:= λcs=>stepR_op_skip (P:=P) (b:=bfr f) (a:=f.act a) (k:=k) (cs:=cs) (w:=w) (ops:=ops) (i:=i) (rest:=rest) (op_not ho hw)
 simp only [ho,Option.bind_some,←Fq.act_put] at hs
 exact WT.step hs H
theorem WT.of_wp {c:Code} (hpl:f.pl) (h:c.wp P (λe a' w'=>e= .normal∧WT P f R k a' w') a w):WT P f R (.code c::k) a w:= λcs hcs=>by
 have hb:(bfr f).roundOf=none:=hpl.ro
 obtain ⟨e,a',w',⟨rfl,hW⟩,harr⟩:=h (bfr f) k cs
 obtain ⟨e,w3,fr,h1,h2,h3⟩:=hW cs hcs
 rw [hpl.act] at h2 ⊢
 rw [Frame.atR_of_none hb] at h2 ⊢
 exact ⟨e,w3,fr,h1,Comes.of_steps harr h2,h3⟩
end
def item (B:Code):Ab→Item
 | .code p=> .code (sub B p)
 | .ops p i=> .inRegion (opsOf (sub B p)) (lN i ((opsOf (sub B p)).size-i))
 | .blk id=> .inBlock id
 | .again p=> .inLoop (sub B (0::p))
 | .lst p is=> .inRegion (opsOf (sub B p)) is
 | .scp p=> .inScope (sub B (0::p))
 | .raw i=>i
theorem exitAb_item {B:Code} {id:Nat}:∀{td td':List Ab},exitAb id td=some td'→exitTo id (td.map (item B))=some (td'.map (item B))
 |[],_,h=>by simp [exitAb] at h
 | .blk id'::k,td',h=>by
   simp only [exitAb] at h
   simp only [iK,item,exitTo]
   cases hb:id'==id with
   |true=>rw [hb] at h;simp at h;subst h;simp
   |false=>rw [hb] at h;simp at h;simp only [mK,if_false];exact exitAb_item h
 | .code p::k,td',h=>by simp only [exitAb] at h;simp only [iK,item,exitTo];exact exitAb_item h
 | .ops p i::k,td',h=>by simp only [exitAb] at h;simp only [iK,item,exitTo];exact exitAb_item h
 | .again p::k,td',h=>by simp only [exitAb] at h;simp only [iK,item,exitTo];exact exitAb_item h
 | .lst p is::k,td',h=>by simp only [exitAb] at h;simp only [iK,item,exitTo];exact exitAb_item h
 | .scp p::k,td',h=>by simp only [exitAb] at h;simp only [iK,item,exitTo];exact exitAb_item h
 | .raw _::k,td',h=>by simp [exitAb] at h
def SW (P:Program) (f:Fq) (R:Ending→World→Prop) (B:Code) (n:Nat) (E:Ev) (G:Hp) (td:List Ab) (L:List Ent) (K:List (Chunk σ)):Prop:=
 ∀a w,Fr n L K a→SatK D E G w K→WT P f R (td.map (item B)) a w
theorem needs_holds {R:Value→Pr→List (Chunk σ)→Prop} {S:List Ab→List Ent→List (Chunk σ)→Prop}:∀{ps:List Prop} {t:Tree σ},(needs ps t).holds R S→(∀p∈ps,p)∧t.holds R S
 |[],_,h=>⟨by simp,h⟩
 |p::ps,t,h=>by
  obtain ⟨h1,h2⟩:=h
  obtain ⟨h3,h4⟩:=needs_holds (h2 h1)
  exact ⟨λq hq=>by
   simp only [iG] at hq
   rcases hq with rfl|hq
   ·exact h1
   ·exact h3 q hq,h4⟩
theorem resVals_run {P:Program} {n:Nat} {L:List Ent} {K:List (Chunk σ)} {a:Act} {w:World} {E:Ev} {G:Hp} (hF:Fr n L K a) (hS:SatK D E G w K):∀(rs:List ResultVar) (vs:List (Value×Pr)),resVals P L K rs=some vs→
 (rs.mapM (m:=Sem) λ | .tmp t=>pure (a.tmps.getD t undef)| .cell b t=>do loadVar t (←asAddr (a.tmps.getD b undef))).run P w= .ok (vs.map (·.1)) w∧∀x∈vs,pOk K x.1 x.2
 |[],vs,h=>by simp only [resVals,iC] at h;subst h;exact ⟨rfl,by simp⟩
 | .tmp t::r,vs,h=>by
   simp only [resVals] at h
   split at h
   ·rename_i v vs' hv hr
    injection h with h;subst h
    obtain ⟨ih,ihp⟩:=resVals_run hF hS r vs' hr
    have hv':=val_sound (g:=none) hF trivial hv
    have hp':=prov_sound (x:= .tmp t) (g:=none) hF trivial
    simp only [Act.eval] at hv' hp'
    rw [List.mapM_cons]
    simp only [jU,kB,Result.andThen_ok,hv',ih,iK,true_and]
    intro x hx
    simp only [iG] at hx
    rcases hx with rfl|hx
    ·rw [hv'] at hp';exact hp'
    ·exact ihp x hx
   ·cases h
 | .cell b t::r,vs,h=>by
   simp only [resVals] at h
   split at h
   ·rename_i k off vs' hp hr
    split at h
    ·rename_i bb t0 cs hk
     split at h
     ·rename_i v pv hv
      injection h with h;subst h
      obtain ⟨ih,ihp⟩:=resVals_run hF hS r vs' hr
      have hpx:=prov_sound (x:= .tmp b) (g:=none) hF trivial
      rw [hp,pOk_pt] at hpx
      obtain ⟨c,hk',hc⟩:=hpx
      rw [hk] at hk';injection hk' with hk';subst hk'
      simp only [cOk,Act.eval] at hc
      obtain ⟨_,q,_,hq,hs⟩:=hS.get D hk
      have hl:=cellsLoad_run (P:=P) (t:=t) (off:=off) (hs _ _ hq) hv
      have hA:(asAddr (a.tmps.getD b undef)).run P w= .ok ⟨bb,off,none⟩ w:=by rw [hc];rfl
      rw [List.mapM_cons]
      simp only [jU,kB,Result.andThen_ok,hA,hl,ih,iK,true_and]
      intro x hx
      simp only [iG] at hx
      rcases hx with rfl|hx
      ·exact cellsLoad_pOk (hF.kok _ _ _ _ hk) hv
      ·exact ihp x hx
     ·cases h
    ·cases h
   ·cases h
theorem finish_sound {P:Program} {f:Fq} {fn:Func} {R:Ending→World→Prop} {n:Nat} {L:List Ent} {K:List (Chunk σ)} {a:Act} {w:World} {E:Ev} {G:Hp} {td:List Item} {vs:List (Value×Pr)} (hpl:f.pl) (hfn:P.funcs[f.id]? =some fn)
 (ht:td=[]∨∃k,td= .code .ret::k) (hF:Fr n L K a) (hS:SatK D E G w K) (h:resVals P L K fn.results.toList=some vs) (hR:R (.returned (match vs with|[v]=>v.1|vs=> .tuple (vs.map (·.1)).toArray)) w):WT P f R td a w:=by
 refine WT.finish hpl hfn ht hF.defers ?_ hR
 have hrun:=(resVals_run D hF hS _ _ h).1
 unfold results
 rw [pS]
 simp only [jU,Sem.run_map]
 erw [hrun]
 simp only [Result.andThen_ok,kB]
 match vs with
 |[]=>rfl
 |[v]=>rfl
 |_::_::_=>simp
theorem mkMany_tuple {K:List (Chunk σ)} {vs:List (Value×Pr)} (h:∀x∈vs,pOk K x.1 x.2):pOk K (.tuple (vs.map (·.1)).toArray) (mkMany (vs.map (·.2))):=by
 unfold mkMany
 cases (vs.map (·.2)).all Pr.isNo with
 |true=>simp [pOk]
 |false=>
  simp only [cond_false,pOk]
  induction vs with
  |nil=>simp [psOk]
  |cons x vs ih=>
   simp only [iK,psOk]
   exact ⟨h x (by simp),ih λy hy=>h y (by simp [hy])⟩
theorem Tree.holds_imp {R R':Value→Pr→List (Chunk σ)→Prop} {S S':List Ab→List Ent→List (Chunk σ)→Prop} (hR:∀v p K,R v p K→R' v p K) (hS:∀td L K,S td L K→S' td L K):∀{t:Tree σ},t.holds R S→t.holds R' S'
 | .ret v p K,h=>hR v p K h
 | .br t a b,h=>⟨λe=>holds_imp hR hS (h.1 e), λe=>holds_imp hR hS (h.2 e)⟩
 | .need p t,h=>⟨h.1, λe=>holds_imp hR hS (h.2 e)⟩
 | .bind x t,h=> λa e=>holds_imp hR hS (h a e)
 | .fresh t,h=> λb=>holds_imp hR hS (h b)
 | .freshS t,h=> λa c=>holds_imp hR hS (h a c)
 | .two a b,h=>⟨holds_imp hR hS h.1,holds_imp hR hS h.2⟩
 | .stuck td L K,h=>hS td L K h
theorem bindT_holds {R:Value→Pr→List (Chunk σ)→Prop} {S:List Ab→List Ent→List (Chunk σ)→Prop} {k:Value→Pr→List (Chunk σ)→Tree σ}:∀{t:Tree σ},(bindT t k).holds R S→t.holds (λv p K=>(k v p K).holds R S) (λ_ _ _=>False)
 | .ret v p K,h=>h
 | .br t a b,h=>⟨λe=>bindT_holds (h.1 e), λe=>bindT_holds (h.2 e)⟩
 | .need p t,h=>⟨h.1, λe=>bindT_holds (h.2 e)⟩
 | .bind x t,h=> λa e=>bindT_holds (h a e)
 | .fresh t,h=> λb=>bindT_holds (h b)
 | .freshS t,h=> λa c=>bindT_holds (h a c)
 | .two a b,h=>⟨bindT_holds h.1,bindT_holds h.2⟩
 | .stuck td L K,h=>h.1
theorem range'_drop {i m:Nat} (h:i<m):lN i (m-i)=i::lN (i+1) (m-(i+1)):=by
 rw [show m-i=(m-(i+1))+1 by omega,List.range'_succ]
theorem gs_spec {n:Nat} {ops:Array Oper} {o:Oper} {g:Option (Nat×Bool)} (h:gs n ops o=some g):gslot ops o=some g∧(∀d,o.dst=some d→d<n)∧∀d c b,o.dst=some d→g=some (c,b)→c≠d:=by
 unfold gs at h
 split at h
 ·rename_i d hd
  cases hb:oD d n with
  |false=>rw [hb] at h;simp at h
  |true=>
   rw [hb] at h
   simp only [cond_true] at h
   split at h
   ·rename_i g' hg
    cases hi:gIs d g' with
    |true=>rw [hi] at h;simp at h
    |false=>
     rw [hi] at h
     simp only [cond_false,iC] at h
     subst h
     refine ⟨hg, λd' hd'=>?_, λd' c b hd' hc e=>?_⟩
     ·rw [hd] at hd';injection hd' with hd';subst hd';exact Nat.lt_of_lt_of_eq (iU hb) rfl
     ·rw [hd] at hd';injection hd' with hd';subst hd'
      rw [hc,e] at hi
      simp [gIs] at hi
   ·cases h
 ·rename_i hd
  refine ⟨h,?_,?_⟩
  ·intro d hd';rw [hd] at hd';cases hd'
  ·intro d c b hd';rw [hd] at hd';cases hd'
theorem box_run {P:Program} {o:Oper} {a:Act} {w:World} {t:TypeId} {x:Operand} (h:o.op= .box t x):(execOp a.eval o).run P w= .ok (.value (.pointer (some ⟨w.heap.size,0,none⟩))) (w.alloc (.cells (a.eval x).cells t)):=by
 simp [execOp,h,Instr.box,newVar,newRow]
theorem alloc_run {P:Program} {o:Oper} {a:Act} {w:World} {t:TypeId} {i:TypeInfo} {z:Value} (h:o.op= .alloc t) (hi:P.info? t=some i) (hz:i.zero=some z):
 (execOp a.eval o).run P w= .ok (.value (.pointer (some ⟨w.heap.size,0,none⟩))) (w.alloc (.cells z.cells t)):=by
 simp [execOp,h,Instr.alloc,zeroValue,typeInfo,hi,hz,newVar,newRow]
theorem quiet_step {P:Program} {T:List (Nat×Entry σ)} (hT:TableOk D P T) {n:Nat} {ops:Array Oper} {g:Option (Nat×Bool)} {L:List Ent} {K:List (Chunk σ)} {o:Oper} {a:Act} {v:Value} {p:Pr} {ps:List Prop} {E:Ev} {G:Hp} {w:World}
 (hF:Fr n L K a) (hS:SatK D E G w K) (hgs:gs n ops o=some g) (h:qstep P T g L K o=some (v,p,ps)) (hps:∀q∈ps,q):
 (jL o (yielded ops a.tmps)=true∧(∀w,SatK D E G w K→o.quietAt P a (λw'=>SatK D E G w' K) w v)∧Fr n (addEnt o.dst g v p L) K (a.put o.dst v))∨
 (jL o (yielded ops a.tmps)=false∧Fr n (addEnt o.dst g v p L) K (a.put o.dst undef)):=by
 obtain ⟨h1,h2,h3⟩:=gs_spec hgs
 cases hw:jL o (yielded ops a.tmps) with
 |true=>
  have hg:=(wanted_iff h1).1 hw
  obtain ⟨hq,hp⟩:=qstep_sound D hT hF hg h hps hS
  exact .inl ⟨rfl, λw hw=>(hq w hw).1,hF.put h2 h3 (λ_=>⟨rfl,hp⟩) λh=>absurd hg h⟩
 |false=>
  refine .inr ⟨rfl,hF.put h2 h3 λhg=>?_⟩
  rw [(wanted_iff h1).2 hg] at hw;cases hw
theorem qall_sound {P:Program} {T:List (Nat×Entry σ)} (hT:TableOk D P T) {n:Nat} {ops:Array Oper} {K:List (Chunk σ)} {E:Ev} {G:Hp} {Q:Act→Prop}:
 ∀(l:List Oper) (L:List Ent) {L':List Ent} {ps:List Prop} {a:Act} {w:World},Fr n L K a→SatK D E G w K→qall P T n ops K l L=some (L',ps)→(∀q∈ps,q)→(∀a',Fr n L' K a'→Q a')→
  wpQuiet P ops (λw'=>SatK D E G w' K) Q l a
 |[],L,L',ps,a,w,hF,_,h,_,hQ=>by
  simp only [qall,iC,iV] at h
  obtain ⟨rfl,rfl⟩:=h
  exact hQ a hF
 |o::r,L,L',ps,a,w,hF,hS,h,hps,hQ=>by
  simp only [qall] at h
  split at h
  ·cases h
  ·rename_i g hgs
   split at h
   ·cases h
   ·rename_i v p ps1 hq
    split at h
    ·cases h
    ·rename_i L'' ps2 hr
     simp only [iC,iV] at h
     obtain ⟨rfl,rfl⟩:=h
     have hp1:∀q∈ps1,q:= λq hq=>hps q (List.mem_append_left _ hq)
     have hp2:∀q∈ps2,q:= λq hq=>hps q (List.mem_append_right _ hq)
     unfold wpQuiet
     rcases quiet_step D hT hF hS hgs hq hp1 with ⟨hw,hqq,hF'⟩|⟨hw,hF'⟩
     ·rw [hw]
      simp only [if_true]
      exact ⟨v,hqq,qall_sound hT r _ hF' hS hr hp2 hQ⟩
     ·rw [hw]
      simp only [mK,if_false]
      exact qall_sound hT r _ hF' hS hr hp2 hQ
end
section
open Go.RowKit
section
variable {ops:Array Oper} {m:Nat}
theorem nopAt_ne {i:Nat} (h:i≠m):(nopAt ops m)[i]? =ops[i]? :=by
 unfold nopAt
 split
 ·rw [lZ];simp [Ne.symm h]
 ·rfl
theorem nopAt_size:(nopAt ops m).size=ops.size:=by
 unfold nopAt
 split<;>simp
theorem nopAt_self {o:Oper} (h:ops[m]? =some o):(nopAt ops m)[m]? =some (nopOf o):=by
 unfold nopAt
 rw [h]
 have hl:m<ops.size:=by
  rcases jN m ops.size with h'|h'
  ·exact h'
  ·rw [kY h'] at h;cases h
 simp [hl]
theorem ready_nop (listed:Array Bool):iZ .any (nopAt ops m) listed=iZ .any ops listed:=by
 unfold iZ
 rw [nopAt_size]
 apply List.filter_congr
 intro i _
 by_cases h:i=m
 ·subst h
  cases ho:ops[i]? with
  |none=>
   have:nopAt ops i=ops:=by unfold nopAt;rw [ho]
   rw [this,ho]
  |some o=>rw [nopAt_self ho];rfl
 ·rw [nopAt_ne h]
theorem ready_mem {md:Region.Mode} {listed:Array Bool} {i:Nat}:i∈iZ md ops listed↔i<ops.size∧listed.getD i true=false∧((ops[i]?).map (·.after.all λe=>!Region.binds md e||listed.getD e.on false)).getD false=true:=by
 unfold iZ
 simp [lS]
theorem getD_both {l:Array Bool} {i:Nat} (h:i<l.size) (x y:Bool):l.getD i x=l.getD i y:=by
 simp [Array.getD,h]
theorem ready_nil {listed:Array Bool} (hdep:(jQ ops.size).all (λi=>((ops[i]?).map (·.after.all λe=>!Region.binds .any e||oD e.on i)).getD false)=true) (hs:listed.size=ops.size) (h:iZ .any ops listed=[]):
 ∀i,i<ops.size→listed.getD i true=true:=by
 intro i
 induction i using pW with
 |_ i ih=>
  intro hi
  cases hl:listed.getD i true with
  |true=>rfl
  |false=>
   exfalso
   have hd:=(kP.1 hdep) i (lU.2 hi)
   have ho:ops[i]? =some ops[i]:=kV hi
   rw [ho] at hd
   simp only [iT,lA] at hd
   have:i∈iZ .any ops listed:=by
    rw [ready_mem]
    refine ⟨hi,hl,?_⟩
    rw [ho]
    simp only [iT,lA]
    rw [kO] at hd ⊢
    intro e he
    have:=hd e he
    cases hb:Region.binds .any e with
    |false=>simp
    |true=>
     rw [hb] at this
     simp only [kU,lY] at this ⊢
     have hlt:e.on<i:=Nat.lt_of_lt_of_eq (iU this) rfl
     rw [getD_both (by omega) false true]
     exact ih e.on hlt (by omega)
   rw [h] at this
   cases this
theorem go_nil {md:Region.Mode} {listed:Array Bool} (h:iZ md ops listed=[]):∀fuel t,kE md ops fuel t listed []=[]
 |0,t=>rfl
 |fuel+1,t=>by
  simp only [kE]
  change (match (iZ md ops listed)[t%(iZ md ops listed).length]? with
   |some i=>kE md ops fuel (t/(iZ md ops listed).length) (listed.setIfInBounds i true) [i]
   |none=>[].reverse)=_
  rw [h];rfl
theorem wanted_nop {o:Oper} {tm:Array Value} (hg:∀j b,o.guard=some (j,b)→j≠m):jL o (yielded (nopAt ops m) tm)=jL o (yielded ops tm):=by
 unfold jL
 split
 ·rfl
 ·rename_i j b hj
  have:=hg j b hj
  simp only [yielded,nopAt_ne this]
theorem go_last {P:Program} {f:Fq} {R:Ending→World→Prop} {k:List Item} {C:World→Prop} {Q0:Act→Prop} (hB:lastB ops m=true) (Hlast:∀a w,Q0 a→C w→WT P f R (.inRegion ops [m]::k) a w):
 ∀(fuel t:Nat) (listed:Array Bool) (a:Act) (w:World),listed.size=ops.size→listed.getD m true=false→C w→wpAnyQ P .any (nopAt ops m) C Q0 fuel listed a→
  WT P f R (.inRegion ops (kE .any ops fuel t listed [])::k) a w:=by
 unfold lastB at hB
 split at hB
 ·rename_i om hom
  simp only [iE] at hB
  obtain ⟨⟨⟨⟨⟨b1,b2⟩,b3⟩,b4⟩,b5⟩,b6⟩:=hB
  have hsz:=iJ b1
  have hng:om.guard=none:=by simpa using b2
  have hgd:∀(i:Nat) (o:Oper),ops[i]? =some o→∀j b,o.guard=some (j,b)→j≠m:= λi o ho j b hj e=>by
   rw [kO] at b4
   have:=b4 o (Array.mem_of_getElem? ho)
   rw [hj,e] at this
   simp at this
  have never:∀listed:Array Bool,listed.size=ops.size→listed.getD m true=false→iZ .any ops listed≠[]:= λlisted hs hm h=>by
   have:=ready_nil b5 hs h m (by omega)
   rw [this] at hm;cases hm
  intro fuel
  induction fuel with
  |zero=>
   intro t listed a w hs hm hC h
   have:=h.1
   rw [ready_nop] at this
   exact absurd this (never listed hs hm)
  |succ fuel ih=>
   intro t listed a w hs hm hC h
   obtain ⟨_,h1⟩:=h
   rw [ready_nop] at h1
   simp only [kE]
   change WT P f R (.inRegion ops (match (iZ .any ops listed)[t%(iZ .any ops listed).length]? with
    |some i=>kE .any ops fuel (t/(iZ .any ops listed).length) (listed.setIfInBounds i true) [i]
    |none=>[].reverse)::k) a w
   cases hi:(iZ .any ops listed)[t%(iZ .any ops listed).length]? with
   |none=>
    exfalso
    cases hr:iZ .any ops listed with
    |nil=>exact never listed hs hm hr
    |cons x xs=>
     rw [hr] at hi
     have hlt:t%(x::xs).length<(x::xs).length:=pX _ (by simp)
     rw [iN hlt] at hi;cases hi
   |some i=>
    have him:=jC hi
    dsimp only
    rw [linearise_go_acc,pE,mU]
    have hq:=h1 i him
    obtain ⟨r1,r2,r3⟩:=ready_mem.1 him
    by_cases hk:i=m
    ·subst hk
     have hall:∀j,j<i→listed.getD j true=true:= λj hj=>by
      have hj3:=(kP.1 b3) j (lU.2 hj)
      rw [Array.any_eq_true] at hj3
      obtain ⟨q,hq',hej⟩:=hj3
      have he:om.after[q]∈om.after:=Array.getElem_mem hq'
      generalize om.after[q]=e at he hej
      simp only [iE] at hej
      rw [hom] at r3
      simp only [iT,lA] at r3
      rw [kO] at r3
      have:=r3 e he
      rw [hej.1,iJ hej.2] at this
      simp only [kU,lY] at this
      rw [getD_both (by omega) true false];exact this
     have hnil:iZ .any ops (listed.setIfInBounds i true)=[]:=by
      cases hr:iZ .any ops (listed.setIfInBounds i true) with
      |nil=>rfl
      |cons x xs=>
       have hx:x∈iZ .any ops (listed.setIfInBounds i true):=by rw [hr];simp
       obtain ⟨q1,q2,_⟩:=ready_mem.1 hx
       exfalso
       have hxi:x<(listed.setIfInBounds i true).size:=by simp;omega
       by_cases hxe:x=i
       ·subst hxe
        simp [Array.getD,show x<listed.size by omega] at q2
       ·have:=hall x (by omega)
        rw [jK] at q2 this
        rw [lZ] at q2
        simp only [Ne.symm hxe,if_false] at q2
        rw [this] at q2;cases q2
     rw [go_nil hnil]
     unfold qOp at hq
     rw [nopAt_self hom] at hq
     simp only at hq
     have hw:jL (nopOf om) (yielded (nopAt ops i) a.tmps)=true:=by
      unfold jL nopOf
      simp only [hng]
     rw [hw] at hq
     simp only [if_true] at hq
     obtain ⟨v,_,hq⟩:=hq
     have hput:a.put (nopOf om).dst v=a:=rfl
     rw [hput] at hq
     refine Hlast a w ?_ hC
     cases fuel with
     |zero=>exact hq.2
     |succ fuel=>exact hq.1 (by rw [ready_nop];exact hnil)
    ·have ho:ops[i]? =some ops[i]:=kV r1
     generalize ops[i]=o at ho
     have hs':(listed.setIfInBounds i true).size=ops.size:=by simpa using hs
     have hm':(listed.setIfInBounds i true).getD m true=false:=by
      rw [jK,lZ]
      simp only [hk,if_false]
      rw [←jK];exact hm
     unfold qOp at hq
     rw [nopAt_ne hk,ho] at hq
     simp only at hq
     rw [wanted_nop (hgd i o ho)] at hq
     cases hw:jL o (yielded ops a.tmps) with
     |true=>
      rw [hw] at hq
      simp only [if_true] at hq
      obtain ⟨v,hv,hq⟩:=hq
      exact WT.op ho hw (hv w hC) hC λw' hC'=>ih _ _ _ w' hs' hm' hC' hq
     |false=>
      rw [hw] at hq
      simp only [mK,if_false] at hq
      exact WT.op_skip ho hw (ih _ _ _ w hs' hm' hC hq)
 ·cases hB
end
theorem WT.region_last {P:Program} {f:Fq} {R:Ending→World→Prop} {k:List Item} {C:World→Prop} {Q0:Act→Prop} {ops:Array Oper} {m id:Nat} {a:Act} {w:World} (hm:P.follows .mixedOrders=true) (hB:lastB ops m=true) (hC:C {w with drawn:=w.drawn+1})
 (Hlast:∀a w,Q0 a→C w→WT P f R (.inRegion ops [m]::k) a w) (h:wpQuiet P (nopAt ops m) C Q0 (nopAt ops m).toList a):WT P f R (.code (.region id ops true)::k) a w:=by
 refine WT.step (λcs=>stepR_region_draw) ?_
 simp only [Region.schedule,hm,pQ,if_true]
 have hB2:=hB
 unfold lastB at hB2
 split at hB2
 ·simp only [iE] at hB2
  have hlex:=hB2.2
  have hsz:=iJ hB2.1.1.1.1.1
  simp only [pY,iE] at hlex
  have h2:=wpAnyQ_lex (C:=C) (md:= .any) hlex.1 (nopAt ops m).toList 0 (oL (nopAt ops m).size false) a (by simp) (by simpa using hlex.2) h
  simp only [nJ,nopAt_size] at h2
  exact go_last hB Hlast ops.size _ _ a _ (by simp) (by simp [Array.getD,hsz]) hC h2
 ·cases hB2
section
variable {ops:Array Oper} {m u:Nat}
theorem nopFrom_size:(nopFrom ops m).size=ops.size:=by simp [nopFrom]
theorem nopFrom_get (i:Nat):(nopFrom ops m)[i]? =(ops[i]?).map λo=>bif kH m i then nopOf o else o:=by
 unfold nopFrom
 rw [Array.getElem?_mapIdx]
theorem ready_nopFrom (listed:Array Bool):iZ .any (nopFrom ops m) listed=iZ .any ops listed:=by
 unfold iZ
 rw [nopFrom_size]
 apply List.filter_congr
 intro i _
 rw [nopFrom_get]
 cases ops[i]? with
 |none=>rfl
 |some o=>
  simp only [iT]
  cases kH m i<;>rfl
theorem depsOf_mem {i j:Nat} {o:Oper} (ho:ops[i]? =some o):j∈depsOf ops i↔∃e∈o.after,Region.binds .any e=true∧e.on=j:=by
 unfold depsOf
 rw [ho]
 simp [kZ,lS,and_assoc]
theorem ready_deps {listed:Array Bool} {i j:Nat} (h:i∈iZ .any ops listed) (hj:j∈depsOf ops i):listed.getD j false=true:=by
 obtain ⟨h1,_,h3⟩:=ready_mem.1 h
 have ho:ops[i]? =some ops[i]:=kV h1
 rw [ho] at h3
 simp only [iT,lA] at h3
 obtain ⟨e,he,hb,rfl⟩:=(depsOf_mem ho).1 hj
 rw [kO] at h3
 have:=h3 e he
 rw [hb] at this
 simpa using this
def Closed (ops:Array Oper) (listed:Array Bool):Prop:=∀i,listed.getD i false=true→∀j∈depsOf ops i,listed.getD j false=true
theorem sweep_listed {listed:Array Bool} (hc:Closed ops listed):∀(j:Nat) (S:List Nat),(∀s∈S,listed.getD s false=true)→∀s∈sweep ops j S,listed.getD s false=true
 |0,S,h,s,hs=>h s hs
 |j+1,S,h,s,hs=>by
  simp only [sweep] at hs
  refine sweep_listed hc j _ ?_ s hs
  intro x hx
  cases hb:S.any (iM j) with
  |false=>rw [hb] at hx;exact h x hx
  |true=>
   rw [hb] at hx
   simp only [cond_true,kC] at hx
   rcases hx with hx|hx
   ·rw [nE] at hb
    obtain ⟨y,hy,e⟩:=hb
    have:=iJ e
    subst this
    exact hc j (h _ hy) x hx
   ·exact h x hx
theorem set_listed {listed:Array Bool} {i j:Nat} (hi:i<listed.size) (d:Bool):(listed.setIfInBounds i true).getD j d=if j=i then true else listed.getD j d:=by
 rw [jK,lZ]
 by_cases h:j=i
 ·subst h;simp [hi]
 ·rw [if_neg h,if_neg (Ne.symm h),jK]
theorem Closed.set {listed:Array Bool} (hc:Closed ops listed) {i:Nat} (hi:i∈iZ .any ops listed) (hs:listed.size=ops.size):Closed ops (listed.setIfInBounds i true):=by
 have hlt:i<listed.size:=by rw [hs];exact (ready_mem.1 hi).1
 intro x hx j hj
 rw [set_listed hlt] at hx ⊢
 by_cases hji:j=i
 ·rw [if_pos hji]
 ·rw [if_neg hji]
  by_cases hxi:x=i
  ·subst hxi;exact ready_deps hi hj
  ·rw [if_neg hxi] at hx;exact hc x hx j hj
theorem nops_end {P:Program} {C:World→Prop} {Q0:Act→Prop} {W:World} {ops:Array Oper}:∀(fuel:Nat) (listed:Array Bool) (a:Act),listed.size=ops.size→
 (∀i,i<ops.size→listed.getD i true=false→∃o,ops[i]? =some (nopOf o)∧o.guard=none)→wpAnyQ P .any ops C Q0 fuel listed a→Q0 a
 |0,listed,a,_,_,h=>h.2
 |fuel+1,listed,a,hs,hn,h=>by
  cases hr:iZ .any ops listed with
  |nil=>exact h.1 hr
  |cons i r=>
   have him:i∈iZ .any ops listed:=by rw [hr];simp
   obtain ⟨h1,h2,_⟩:=ready_mem.1 him
   obtain ⟨o,ho,hg⟩:=hn i h1 h2
   have hq:=h.2 i him
   unfold qOp at hq
   rw [ho] at hq
   simp only at hq
   have hw:jL (nopOf o) (yielded ops a.tmps)=true:=by
    unfold jL nopOf
    simp only [hg]
   rw [hw] at hq
   simp only [if_true] at hq
   obtain ⟨v,_,hq⟩:=hq
   have hput:a.put (nopOf o).dst v=a:=rfl
   rw [hput] at hq
   refine nops_end (W:=W) fuel _ a (by simpa using hs) (λj hj hl=>?_) hq
   rw [set_listed (by omega)] at hl
   by_cases hji:j=i
   ·rw [if_pos hji] at hl;cases hl
   ·rw [if_neg hji] at hl;exact hn j hj hl
structure TailOk (ops:Array Oper) (u m:Nat):Prop where
 ms:m<ops.size
 cover:∀i,i<m→i=u∨i∈reached ops m
 chain:∀i,m<i→i<ops.size→i-1∈depsOf ops i
 late:u=ops.size∨(u∈depsOf ops (m+1)∧u<m)
 gd:∀(i:Nat) (o:Oper),ops[i]? =some o→∀j b,o.guard=some (j,b)→j<m
 ng:∀(i:Nat) (o:Oper),ops[i]? =some o→m≤i∨i=u→o.guard=none
 dep:(jQ ops.size).all (λi=>((ops[i]?).map (·.after.all λe=>!Region.binds .any e||oD e.on i)).getD false)=true
 lex:pY .any (nopFrom ops m)=true
theorem tail_ok (h:tailOk ops u m=true):TailOk ops u m:=by
 unfold tailOk at h
 simp only [iE] at h
 obtain ⟨h1,h2,h3,h4,h5,h6,h7,h8⟩:=h
 refine ⟨iU h1, λi hi=>?_, λi hi hs=>?_,?_, λi o ho j b hj=>?_, λi o ho hi=>?_,h7,h8⟩
 ·have:=(kP.1 h2) i (lU.2 hi)
  simp only [lG] at this
  rcases this with e|e
  ·exact .inl (iJ e)
  ·rw [nE] at e
   obtain ⟨y,hy,e⟩:=e
   rw [iJ e]
   exact .inr hy
 ·have:=(kP.1 h3) i (lU.2 hs)
  simp only [lG] at this
  rcases this with e|e
  ·have:=iU e;omega
  ·rw [nE] at e
   obtain ⟨y,hy,e⟩:=e
   rw [iJ e]
   exact hy
 ·simp only [lG,iE] at h4
  rcases h4 with e|⟨e,e2⟩
  ·exact .inl (iJ e)
  ·rw [nE] at e
   obtain ⟨y,hy,e⟩:=e
   have:=iJ e
   subst this
   exact .inr ⟨hy,iU e2⟩
 ·rw [kO] at h5
  have:=h5 o (Array.mem_of_getElem? ho)
  rw [hj] at this
  exact iU this
 ·have hlt:i<ops.size:=by
   rcases jN i ops.size with h'|h'
   ·exact h'
   ·rw [kY h'] at ho;cases ho
  have:=(kP.1 h6) i (lU.2 hlt)
  simp only [lG,iE] at this
  rcases this with ⟨e1,e2⟩|e
  ·exfalso
   have e1:i<m:=iU e1
   rcases hi with hi|hi
   ·omega
   ·subst hi
    simp at e2
  ·rw [ho] at e
   simpa using e
theorem depsOf_lt (hdep:(jQ ops.size).all (λi=>((ops[i]?).map (·.after.all λe=>!Region.binds .any e||oD e.on i)).getD false)=true) {i j:Nat} (hj:j∈depsOf ops i):j<i∧i<ops.size:=by
 have hi:i<ops.size:=by
  rcases jN i ops.size with h'|h'
  ·exact h'
  ·unfold depsOf at hj;rw [kY h'] at hj;cases hj
 have ho:ops[i]? =some ops[i]:=kV hi
 have hd:=(kP.1 hdep) i (lU.2 hi)
 rw [ho] at hd
 simp only [iT,lA] at hd
 obtain ⟨e,he,hb,rfl⟩:=(depsOf_mem ho).1 hj
 rw [kO] at hd
 have:=hd e he
 rw [hb] at this
 simp only [kU,lY] at this
 exact ⟨iU this,hi⟩
theorem ready_of {listed:Array Bool} {i:Nat} (hi:i<ops.size) (h:listed.getD i true=false) (hd:∀j∈depsOf ops i,listed.getD j false=true):i∈iZ .any ops listed:=by
 have ho:ops[i]? =some ops[i]:=kV hi
 rw [ready_mem]
 refine ⟨hi,h,?_⟩
 rw [ho]
 simp only [iT,lA]
 rw [kO]
 intro e he
 cases hb:Region.binds .any e with
 |false=>simp
 |true=>
  simp only [kU,lY]
  exact hd _ ((depsOf_mem ho).2 ⟨e,he,hb,rfl⟩)
theorem ready_one {listed:Array Bool} {i:Nat} (h:i∈iZ .any ops listed) (h1:∀j∈iZ .any ops listed,j=i):iZ .any ops listed=[i]:=by
 have hn:(iZ .any ops listed).Nodup:=List.Nodup.sublist List.filter_sublist pO
 cases hr:iZ .any ops listed with
 |nil=>rw [hr] at h;cases h
 |cons x xs=>
  have hx:x=i:=h1 x (by rw [hr];simp)
  subst hx
  cases xs with
  |nil=>rfl
  |cons y ys=>
   have hy:y=x:=h1 y (by rw [hr];simp)
   subst hy
   rw [hr] at hn
   simp at hn
theorem go_one {listed:Array Bool} {i:Nat} (h:iZ .any ops listed=[i]) (fuel t:Nat):kE .any ops (fuel+1) t listed []=i::kE .any ops fuel t (listed.setIfInBounds i true) []:=by
 simp only [kE]
 change (match (iZ .any ops listed)[t%(iZ .any ops listed).length]? with
  |some i=>kE .any ops fuel (t/(iZ .any ops listed).length) (listed.setIfInBounds i true) [i]
  |none=>[].reverse)=_
 rw [h]
 simp only [mN,Nat.mod_one,Nat.div_one,jJ]
 rw [linearise_go_acc,pE,mU]
theorem go_chain {P:Program} {C:World→Prop} {Q0:Act→Prop} (hT:TailOk ops u m) {a:Act}:∀(fuel t j:Nat) (listed:Array Bool),listed.size=ops.size→m<j→(∀i,i<ops.size→listed.getD i true=decide (i<j))→
 wpAnyQ P .any (nopFrom ops m) C Q0 fuel listed a→kE .any ops fuel t listed []=lN j (ops.size-j):=by
 intro fuel
 induction fuel with
 |zero=>
  intro t j listed hs hj hl h
  have hr:=h.1
  rw [ready_nopFrom] at hr
  have:ops.size≤j:=by
   rcases jN j ops.size with h'|h'
   ·have:=ready_nil hT.dep hs hr j h'
    rw [hl j h'] at this
    simp at this
   ·exact h'
  rw [show ops.size-j=0 by omega]
  rfl
 |succ fuel ih=>
  intro t j listed hs hj hl h
  rcases jN j ops.size with hjs|hjs
  ·have hfl:∀i,i<ops.size→listed.getD i false=decide (i<j):= λi hi=>by rw [getD_both (by omega) false true];exact hl i hi
   have hjr:j∈iZ .any ops listed:=ready_of hjs (by rw [hl j hjs];simp) λd hd=>by
    obtain ⟨d1,d2⟩:=depsOf_lt hT.dep hd
    rw [hfl d (by omega)]
    simpa using d1
   have hone:=ready_one hjr λi hi=>by
    obtain ⟨q1,q2,_⟩:=ready_mem.1 hi
    rw [hl i q1] at q2
    have hge:j≤i:=by simpa using q2
    rcases jN j i with hlt|hge'
    ·exfalso
     have:=ready_deps hi (hT.chain i (by omega) q1)
     rw [hfl (i-1) (by omega)] at this
     simp at this
     omega
    ·omega
   rw [go_one hone,range'_drop hjs]
   congr 1
   have hq:=h.2 j (by rw [ready_nopFrom];exact hjr)
   unfold qOp at hq
   have ho:ops[j]? =some ops[j]:=kV hjs
   rw [nopFrom_get,ho] at hq
   have hb:kH m j=true:=Nat.ble_eq_true_of_le (by omega)
   simp only [iT,hb,cond_true] at hq
   have hng:=hT.ng j _ ho (.inl (by omega))
   have hw:jL (nopOf ops[j]) (yielded (nopFrom ops m) a.tmps)=true:=by
    unfold jL nopOf
    simp only [hng]
   rw [hw] at hq
   simp only [if_true] at hq
   obtain ⟨v,_,hq⟩:=hq
   have hput:a.put (nopOf ops[j]).dst v=a:=rfl
   rw [hput] at hq
   refine ih t (j+1) _ (by simpa using hs) (by omega) (λi hi=>?_) hq
   rw [set_listed (by omega),hl i hi]
   by_cases hij:i=j
   ·subst hij;simp
   ·rw [if_neg hij]
    apply lT.2
    simp only [decide_eq_true_eq]
    omega
  ·have hnil:iZ .any ops listed=[]:=by
    cases hr:iZ .any ops listed with
    |nil=>rfl
    |cons x xs=>
     have hx:x∈iZ .any ops listed:=by rw [hr];simp
     obtain ⟨q1,q2,_⟩:=ready_mem.1 hx
     rw [hl x q1] at q2
     simp at q2
     omega
   rw [go_nil hnil,show ops.size-j=0 by omega]
   rfl
theorem wanted_nopFrom {o:Oper} {tm:Array Value} (hg:∀j b,o.guard=some (j,b)→j<m):jL o (yielded (nopFrom ops m) tm)=jL o (yielded ops tm):=by
 unfold jL
 split
 ·rfl
 ·rename_i j b hj
  have:=hg j b hj
  have hb:kH m j=false:=by
   cases hb:kH m j with
   |false=>rfl
   |true=>have:=iU hb;omega
  have e:(nopFrom ops m)[j]? =ops[j]? :=by
   rw [nopFrom_get,hb]
   cases ops[j]? <;>rfl
  simp only [yielded,e]
theorem go_tail {P:Program} {f:Fq} {R:Ending→World→Prop} {k:List Item} {C:World→Prop} {Q0:Act→Prop} (hT:TailOk ops u m) (HA:∀a w,Q0 a→C w→WT P f R (.inRegion ops (lN m (ops.size-m))::k) a w)
 (HB:∀o,ops[u]? =some o→∀a w v,Q0 (a.put o.dst v)→C w→WT P f R (.inRegion ops (m::u::lN (m+1) (ops.size-(m+1)))::k) a w):
 ∀(fuel t:Nat) (listed:Array Bool) (a:Act) (w:World),listed.size=ops.size→(∀i,m≤i→i<ops.size→listed.getD i true=false)→Closed ops listed→C w→wpAnyQ P .any (nopFrom ops m) C Q0 fuel listed a→
  WT P f R (.inRegion ops (kE .any ops fuel t listed [])::k) a w:=by
 have hms:=hT.ms
 have never:∀listed:Array Bool,listed.size=ops.size→(∀i,m≤i→i<ops.size→listed.getD i true=false)→iZ .any ops listed≠[]:= λlisted hs hm h=>by
  have:=ready_nil hT.dep hs h m hms
  rw [hm m (kF _) hms] at this;cases this
 intro fuel
 induction fuel with
 |zero=>
  intro t listed a w hs hm hcl hC h
  have:=h.1
  rw [ready_nopFrom] at this
  exact absurd this (never listed hs hm)
 |succ fuel ih=>
  intro t listed a w hs hm hcl hC h
  have h0:=h
  obtain ⟨_,h1⟩:=h
  rw [ready_nopFrom] at h1
  simp only [kE]
  change WT P f R (.inRegion ops (match (iZ .any ops listed)[t%(iZ .any ops listed).length]? with
   |some i=>kE .any ops fuel (t/(iZ .any ops listed).length) (listed.setIfInBounds i true) [i]
   |none=>[].reverse)::k) a w
  cases hi:(iZ .any ops listed)[t%(iZ .any ops listed).length]? with
  |none=>
   exfalso
   cases hr:iZ .any ops listed with
   |nil=>exact never listed hs hm hr
   |cons x xs=>
    rw [hr] at hi
    have hlt:t%(x::xs).length<(x::xs).length:=pX _ (by simp)
    rw [iN hlt] at hi;cases hi
  |some i=>
   have him:=jC hi
   dsimp only
   rw [linearise_go_acc,pE,mU]
   have hq:=h1 i him
   obtain ⟨r1,r2,r3⟩:=ready_mem.1 him
   have ho:ops[i]? =some ops[i]:=kV r1
   have hs':(listed.setIfInBounds i true).size=ops.size:=by simpa using hs
   rcases jN i m with hlm|hge
   ·
    generalize ops[i]=o at ho
    have hm':∀x,m≤x→x<ops.size→(listed.setIfInBounds i true).getD x true=false:= λx hx hxs=>by
     rw [set_listed (by omega),if_neg (by omega)];exact hm x hx hxs
    have hb:kH m i=false:=by
     cases hb:kH m i with
     |false=>rfl
     |true=>have:=iU hb;omega
    unfold qOp at hq
    rw [nopFrom_get,ho] at hq
    simp only [iT,hb,cond_false] at hq
    rw [wanted_nopFrom (hT.gd i o ho)] at hq
    cases hw:jL o (yielded ops a.tmps) with
    |true=>
     rw [hw] at hq
     simp only [if_true] at hq
     obtain ⟨v,hv,hq⟩:=hq
     exact WT.op ho hw (hv w hC) hC λw' hC'=>ih _ _ _ w' hs' hm' (hcl.set him hs) hC' hq
    |false=>
     rw [hw] at hq
     simp only [mK,if_false] at hq
     exact WT.op_skip ho hw (ih _ _ _ w hs' hm' (hcl.set him hs) hC hq)
   ·have him2:i=m:=by
     rcases jN m i with hlt|_
     ·exfalso
      have:=ready_deps him (hT.chain i hlt r1)
      rw [getD_both (by omega) false true,hm (i-1) (by omega) (by omega)] at this
      cases this
     ·omega
    subst him2
    have hall:∀j,j<i→j≠u→listed.getD j true=true:= λj hj hju=>by
     rcases hT.cover j hj with e|e
     ·exact absurd e hju
     ·have:=sweep_listed hcl i (depsOf ops i) (λs hs=>ready_deps him hs) j e
      rw [getD_both (by omega) true false];exact this
    have hnop:∀j,i≤j→j<ops.size→∃o,(nopFrom ops i)[j]? =some (nopOf o)∧o.guard=none:= λj hj hjs=>by
     have hoj:ops[j]? =some ops[j]:=kV hjs
     refine ⟨ops[j],?_,hT.ng j _ hoj (.inl hj)⟩
     have hb:kH i j=true:=Nat.ble_eq_true_of_le hj
     rw [nopFrom_get,hoj,iT,hb,cond_true]
    have hq':wpAnyQ P .any (nopFrom ops i) C Q0 fuel (listed.setIfInBounds i true) a:=by
     obtain ⟨o,e,hg⟩:=hnop i (kF _) r1
     unfold qOp at hq
     rw [e] at hq
     simp only at hq
     have hw:jL (nopOf o) (yielded (nopFrom ops i) a.tmps)=true:=by
      unfold jL nopOf
      simp only [hg]
     rw [hw] at hq
     simp only [if_true] at hq
     obtain ⟨v,_,hq⟩:=hq
     have hput:a.put (nopOf o).dst v=a:=rfl
     rw [hput] at hq
     exact hq
    have hlate:(u<i∧u∈depsOf ops (i+1)∧listed.getD u true=false)∨(∀j,j<i→listed.getD j true=true):=by
     rcases hT.late with e|⟨e1,e2⟩
     ·exact .inr λj hj=>hall j hj (by omega)
     ·cases hl:listed.getD u true with
      |false=>exact .inl ⟨e2,e1,rfl⟩
      |true=>
       refine .inr λj hj=>?_
       by_cases hju:j=u
       ·rw [hju];exact hl
       ·exact hall j hj hju
    rcases hlate with ⟨hu1,hu2,hu3⟩|hall2
    ·
     have hus:u<ops.size:=by omega
     have hou:ops[u]? =some ops[u]:=kV hus
     have hnu:=hT.ng u _ hou (.inr rfl)
     have hur:u∈iZ .any ops (listed.setIfInBounds i true):=ready_of hus (by rw [set_listed (by omega),if_neg (by omega)];exact hu3) λd hd=>by
      obtain ⟨d1,d2⟩:=depsOf_lt hT.dep hd
      rw [set_listed (by omega),if_neg (by omega),getD_both (by omega) false true]
      exact hall d (by omega) (by omega)
     have hone:=ready_one hur λj hj=>by
      obtain ⟨q1,q2,_⟩:=ready_mem.1 hj
      rw [set_listed (by omega)] at q2
      by_cases hji:j=i
      ·rw [if_pos hji] at q2;cases q2
      ·rw [if_neg hji] at q2
       rcases jN j i with hlt|hge
       ·by_cases hju:j=u
        ·exact hju
        ·rw [hall j hlt hju] at q2;cases q2
       ·exfalso
        have hjd:=ready_deps hj (hT.chain j (by omega) q1)
        by_cases hj1:j=i+1
        ·subst hj1
         have:=ready_deps hj hu2
         rw [set_listed (by omega),if_neg (by omega),getD_both (by omega) false true,hu3] at this
         cases this
        ·rw [set_listed (by omega),if_neg (by omega),getD_both (by omega) false true,hm (j-1) (by omega) (by omega)] at hjd
         cases hjd
     cases fuel with
     |zero=>
      have:=hq'.1
      rw [ready_nopFrom,hone] at this
      cases this
     |succ fuel=>
      rw [go_one hone]
      have hqu:=hq'.2 u (by rw [ready_nopFrom];exact hur)
      unfold qOp at hqu
      have hb:kH i u=false:=by
       cases hb:kH i u with
       |false=>rfl
       |true=>have:=iU hb;omega
      rw [nopFrom_get,hou] at hqu
      simp only [iT,hb,cond_false] at hqu
      have hw:jL ops[u] (yielded (nopFrom ops i) a.tmps)=true:=by
       unfold jL
       simp only [hnu]
      rw [hw] at hqu
      simp only [if_true] at hqu
      obtain ⟨v,_,hqu⟩:=hqu
      have hsz2:((listed.setIfInBounds i true).setIfInBounds u true).size=ops.size:=by simpa using hs
      have hl2:∀j,j<ops.size→((listed.setIfInBounds i true).setIfInBounds u true).getD j true=decide (j<i+1):= λj hj=>by
       rw [set_listed (by simpa using by omega),set_listed (by omega)]
       by_cases hju:j=u
       ·subst hju;simp;omega
       ·rw [if_neg hju]
        by_cases hji:j=i
        ·subst hji;simp
        ·rw [if_neg hji]
         rcases jN j i with hlt|hge
         ·rw [hall j hlt hju];simp;omega
         ·rw [hm j hge hj];simp;omega
      have hQ:=nops_end (W:=w) fuel _ _ (by rw [nopFrom_size];exact hsz2) (λj hj hl=>by
       rw [nopFrom_size] at hj
       rw [hl2 j hj] at hl
       have:¬j<i+1:=by simpa using hl
       exact hnop j (by omega) hj) hqu
      have hch:kE .any ops fuel (t/(iZ .any ops listed).length) ((listed.setIfInBounds i true).setIfInBounds u true) []=lN (i+1) (ops.size-(i+1)):=
       go_chain hT fuel _ (i+1) _ hsz2 (by omega) hl2 hqu
      rw [hch]
      exact HB _ hou a w v hQ hC
    ·have hl2:∀j,j<ops.size→(listed.setIfInBounds i true).getD j true=decide (j<i+1):= λj hj=>by
      rw [set_listed (by omega)]
      by_cases hji:j=i
      ·subst hji;simp
      ·rw [if_neg hji]
       rcases jN j i with hlt|hge
       ·rw [hall2 j hlt];simp;omega
       ·rw [hm j hge hj];simp;omega
     have hQ:=nops_end (W:=w) fuel _ _ (by rw [nopFrom_size];exact hs') (λj hj hl=>by
      rw [nopFrom_size] at hj
      rw [hl2 j hj] at hl
      have:¬j<i+1:=by simpa using hl
      exact hnop j (by omega) hj) hq'
     have hch:=go_chain hT fuel (t/(iZ .any ops listed).length) (i+1) _ hs' (by omega) hl2 hq'
     rw [hch,←range'_drop r1]
     exact HA a w hQ hC
end
theorem WT.region_tail {P:Program} {f:Fq} {R:Ending→World→Prop} {k:List Item} {C:World→Prop} {Q0:Act→Prop} {ops:Array Oper} {u m id:Nat} {a:Act} {w:World} (hmx:P.follows .mixedOrders=true) (hT:TailOk ops u m) (hC:C {w with drawn:=w.drawn+1})
 (HA:∀a w,Q0 a→C w→WT P f R (.inRegion ops (lN m (ops.size-m))::k) a w)
 (HB:∀o,ops[u]? =some o→∀a w v,Q0 (a.put o.dst v)→C w→WT P f R (.inRegion ops (m::u::lN (m+1) (ops.size-(m+1)))::k) a w)
 (h:wpQuiet P (nopFrom ops m) C Q0 (nopFrom ops m).toList a):WT P f R (.code (.region id ops true)::k) a w:=by
 refine WT.step (λcs=>stepR_region_draw) ?_
 simp only [Region.schedule,hmx,pQ,if_true]
 have hlex:=hT.lex
 simp only [pY,iE] at hlex
 have h2:=wpAnyQ_lex (C:=C) (md:= .any) hlex.1 (nopFrom ops m).toList 0 (oL (nopFrom ops m).size false) a (by simp) (by simpa using hlex.2) h
 simp only [nJ,nopFrom_size] at h2
 refine go_tail hT HA HB ops.size _ _ a _ (by simp) (λi _ hi=>by simp [Array.getD,hi]) (λi hi=>?_) hC h2
 exfalso
 rw [jK] at hi
 rcases jN i ops.size with h'|h'
 ·simp [h'] at hi
 ·rw [kY (by simpa using h')] at hi;cases hi
theorem Fr.unput {σ:Type} {n d:Nat} {L:List Ent} {K:List (Chunk σ)} {a:Act} {v:Value} (h:Fr n L K (a.put (some d) v)):Fr n (del d L) K a:=by
 have hne:∀s,s≠d→(a.put (some d) v).tmps.getD s undef=a.tmps.getD s undef:= λs hs=>by
  show (a.tmps.setIfInBounds d v).getD s undef=_
  rw [jK,lZ,if_neg (Ne.symm hs),jK]
 have hgv:∀g:Option (Nat×Bool),(∀c b,g=some (c,b)→c≠d)→(GV (a.put (some d) v).tmps g↔GV a.tmps g):= λg hg=>by
  cases g with
  |none=>rfl
  |some x=>
   obtain ⟨c,b⟩:=x
   simp only [GV]
   rw [hne c (hg c b rfl)]
 refine ⟨h.kok,h.defers,?_, λe he hg=>?_, λe he hg=>?_⟩
 ·have:=h.size
  have e:(a.put (some d) v).tmps.size=a.tmps.size:=by show (a.tmps.setIfInBounds d v).size=_;simp
  omega
 ·obtain ⟨h1,h2,h3⟩:=del_mem he
  obtain ⟨q1,q2⟩:=h.ents e h1 ((hgv _ h3).2 hg)
  exact ⟨by rw [←hne e.s h2];exact q1,q2⟩
 ·obtain ⟨h1,h2,h3⟩:=del_mem he
  have:=h.skipd e h1 (λq=>hg ((hgv _ h3).1 q))
  rw [hne e.s h2] at this
  exact this
end
section
open Go.RowKit
theorem Sat0.write' {E:World} {G:Hp} {w w':World} {As:List Asn0} (h:Sat0 E G w As) {i b:Nat} {A A':Asn0} (hi:As[i]? =some A) (hown:∀k:Hp,A k→k b≠none)
 (he:w'.os=w.os∧w'.tape=w.tape∧w'.output=w.output) (hs:w'.heap.size=w.heap.size) (hh:∀c,c≠b→w'.heap[c]? =w.heap[c]?)
 (hA:∀k k':Hp,A k→(∀c,c≠b→k' c=k c)→k' b=w'.heap[b]? →A' k'):Sat0 E G w' (As.set i A'):=by
 obtain ⟨⟨e1,e2,e3,e4⟩,h2,o,h3,h4⟩:=h
 have hAi:=h4 i _ hi
 have hob:o b=some i:=by
  have:=hown _ hAi
  unfold part at this
  split at this
  ·assumption
  ·exact absurd rfl this
 refine ⟨⟨he.1.trans e1,he.2.1.trans e2,he.2.2.trans e3,by omega⟩, λc y hc=>?_,o, λc j hc=>⟨(h3 c j hc).1,by rw [hs];exact (h3 c j hc).2⟩, λj A hj=>?_⟩
 ·rw [hh c (λe=>by subst e;rw [(h3 _ _ hob).1] at hc;cases hc)];exact h2 c y hc
 ·by_cases hij:i=j
  ·subst hij
   rw [iX (lt_of_get hi)] at hj
   injection hj with hj
   subst hj
   refine hA _ _ hAi (λc hc=>?_) ?_
   ·unfold part
    split
    ·exact hh c hc
    ·rfl
   ·simp [part,hob]
  ·rw [jD hij] at hj
   have:part w' o j=part w o j:=by
    funext c
    unfold part
    split
    ·rename_i hc
     exact hh c (λe=>by subst e;rw [hob] at hc;injection hc with hc;exact hij hc)
    ·rfl
   rw [this];exact h4 j A hj
theorem Sat.write' {E:Ev} {G:Hp} {w w':World} {As:List Asn} (h:Sat E G w As) {i b:Nat} {A A':Asn} (hi:As[i]? =some A) (hown:∀Y k:Hp,A Y k→k b≠none)
 (he:w'.os=w.os∧w'.tape=w.tape∧w'.output=w.output) (hs:w'.heap.size=w.heap.size) (hh:∀c,c≠b→w'.heap[c]? =w.heap[c]?)
 (hA:∀Y k k':Hp,A Y k→(∀c,c≠b→k' c=k c)→k' b=w'.heap[b]? →A' Y k'):Sat E G w' (As.set i A'):=by
 obtain ⟨Z,hz,hw,h0⟩:=h
 refine Sat.of hz hw h0.2.1 ?_
 rw [kW]
 exact h0.write' (b:=b) (map_get hi) (λk hk=>hown Z k (hk Z (Hp.le_refl Z))) he hs hh λk k' hk h1 h2 Y hY=>hA Y k k' (hk Y hY) h1 h2
theorem setFrom_eq {α:Type}:∀(vs:List α) (cs:List α) (off:Nat),off+vs.length≤cs.length→setFrom cs off vs=cs.take off++vs++cs.drop (off+vs.length)
 |[],cs,off,_=>by simp [setFrom]
 |v::vs,cs,off,h=>by
  simp only [jR] at h
  have hlt:off<cs.length:=by omega
  rw [setFrom,setFrom_eq vs _ _ (by simp;omega)]
  have e1:(cs.set off v).take (off+1)=cs.take off++[v]:=by
   rw [List.take_set]
   rw [List.take_succ_eq_append_getElem hlt,List.set_append_right _ _ (by simp;omega)]
   simp [Nat.min_eq_left (Nat.le_of_lt hlt)]
  have e2:(cs.set off v).drop (off+1+vs.length)=cs.drop (off+(v::vs).length):=by
   rw [List.drop_set_of_lt (by omega)]
   simp only [jR]
   congr 1
   omega
  rw [e1,e2]
  simp
theorem setFrom_map {α β:Type} (f:α→β):∀(vs:List α) (cs:List α) (off:Nat),(setFrom cs off vs).map f=setFrom (cs.map f) off (vs.map f)
 |[],cs,off=>rfl
 |v::vs,cs,off=>by rw [setFrom,setFrom_map f vs,kW];rfl
theorem setFrom_mem {α:Type}:∀(vs:List α) (cs:List α) (off:Nat) (x:α),x∈setFrom cs off vs→x∈cs∨x∈vs
 |[],cs,off,x,h=> .inl h
 |v::vs,cs,off,x,h=>by
  rcases setFrom_mem vs _ _ x h with h|h
  ·rcases pR h with h|h
   ·exact .inl h
   ·exact .inr (by simp [h])
  ·exact .inr (by simp [h])
theorem Sat0.grown {E:World} {G:Hp} {w w':World} {As:List Asn0} (h:Sat0 E G w As) (kd row nb:Option Nat) (hg:w.grownBy w' row)
 (hrow:∀g,row=some g→∃k A,kd=some k∧As[k]? =some A∧∀p:Hp,A p→p g≠none) (hnb:nb=row∨nb=some w.heap.size) (hlt:∀g,nb=some g→g<w'.heap.size)
 (A':Asn0) (hA':∀p:Hp,(∀g,nb=some g→p g=w'.heap[g]?)→A' p) (As':List Asn0) (hAs':As'.length=As.length) (hAs:∀(i:Nat) A,As'[i]? =some A→(∀p,A p)∨(some i≠kd∧As[i]? =some A)):Sat0 E G w' (As'++[A']):=by
 obtain ⟨⟨e1,e2,e3,e4⟩,h2,o,h3,h4⟩:=h
 have hown:∀g,row=some g→∃k,kd=some k∧o g=some k:= λg hr=>by
  obtain ⟨k,A,hk,hA,hp⟩:=hrow g hr
  refine ⟨k,hk,?_⟩
  have:=hp _ (h4 k A hA)
  unfold part at this
  split at this
  ·assumption
  ·exact absurd rfl this
 have hGnb:∀g,nb=some g→G g=none:= λg hn=>by
  rcases hnb with h|h
  ·obtain ⟨k,_,ho⟩:=hown g (h▸hn)
   exact (h3 g k ho).1
  ·rw [h] at hn;injection hn with hn;subst hn
   cases hG:G w.heap.size with
   |none=>rfl
   |some x=>have:=lt_of_heap (h2 _ _ hG);omega
 refine ⟨⟨hg.os.trans e1,hg.tape.trans e2,hg.output.trans e3,mE e4 hg.size⟩, λb x hb=>?_,
  λb=>if nb=some b then some As.length else match o b with|some i=>if i<As.length∧some i≠kd then some i else none|none=>none, λb i hb=>?_, λi A hi=>?_⟩
 ·have hw:=h2 b x hb
  rw [hg.block b (lt_of_heap hw) (λe=>by obtain ⟨k,_,ho⟩:=hown b e.symm;rw [(h3 b k ho).1] at hb;cases hb)]
  exact hw
 ·dsimp only at hb
  split at hb
  ·rename_i hn;exact ⟨hGnb b hn,hlt b hn⟩
  ·cases ho:o b with
   |none=>simp [ho] at hb
   |some j=>exact ⟨(h3 b j ho).1,nD (h3 b j ho).2 hg.size⟩
 ·rcases jN i As'.length with hl|hl
  ·rw [iO hl] at hi
   rcases hAs i A hi with hall|⟨hne,hA⟩
   ·exact hall _
   ·rw [part_congr (w':=w) (o':=o) (j:=i)]
    ·exact h4 i A hA
    ·have one:∀b,(if nb=some b then some As.length else match o b with|some i=>if i<As.length∧some i≠kd then some i else none|none=>none)=some i↔o b=some i:= λb=>by
      constructor
      ·intro hb
       split at hb
       ·injection hb with hb;omega
       ·cases ho:o b with
        |none=>simp [ho] at hb
        |some j=>simp only [ho] at hb;split at hb
                 ·exact hb
                 ·cases hb
      ·intro hb
       have hnn:nb≠some b:= λhn=>by
        rcases hnb with h|h
        ·obtain ⟨k,hk,ho⟩:=hown b (h▸hn)
         rw [hb] at ho;injection ho with ho;subst ho
         exact hne hk.symm
        ·rw [h] at hn;injection hn with hn;have:=(h3 b i hb).2;omega
       rw [if_neg hnn,hb]
       simp only [if_pos (⟨by omega,hne⟩:i<As.length∧some i≠kd)]
     refine λb=>⟨one b, λhb=>?_⟩
     have hb':=(one b).1 hb
     refine hg.block b (h3 b i hb').2 (λe=>?_)
     obtain ⟨k,hk,ho⟩:=hown b e.symm
     rw [hb'] at ho;injection ho with ho;subst ho
     exact hne hk.symm
  ·rw [iQ hl] at hi
   have hz:i-As'.length=0:=by
    rcases nN (i-As'.length) with h0|h0
    ·exact h0
    ·rw [jP (by simp;omega)] at hi;cases hi
   rw [hz] at hi
   simp only [jJ,iC] at hi
   subst hi
   have hi':i=As.length:=by omega
   subst hi'
   refine hA' _ λg hn=>?_
   unfold part
   rw [if_pos (by simp [hn])]
theorem Sat.grown {E:Ev} {G:Hp} {w w':World} {As:List Asn} (h:Sat E G w As) (kd row nb:Option Nat) (hg:w.grownBy w' row)
 (hrow:∀g,row=some g→∃k A,kd=some k∧As[k]? =some A∧∀Y p:Hp,A Y p→p g≠none) (hnb:nb=row∨nb=some w.heap.size) (hlt:∀g,nb=some g→g<w'.heap.size)
 (A':Asn) (hA':∀Y p:Hp,(∀g,nb=some g→p g=w'.heap[g]?)→A' Y p) (As':List Asn) (hAs':As'.length=As.length) (hAs:∀(i:Nat) A,As'[i]? =some A→(∀Y p,A Y p)∨(some i≠kd∧As[i]? =some A)):Sat E G w' (As'++[A']):=by
 obtain ⟨Z,hz,hw,h0⟩:=h
 refine Sat.of hz hw h0.2.1 ?_
 rw [jG]
 exact h0.grown kd row nb hg (λg hr=>let ⟨k,A,h1,h2,h3⟩:=hrow g hr;⟨k,_,h1,map_get h2, λp hp=>h3 Z p (hp Z (Hp.le_refl Z))⟩) hnb hlt (upZ Z A') (λp hp Y _=>hA' Y p hp) (As'.map (upZ Z)) (by simp [hAs'])
  λi B hi=>by
   obtain ⟨C,h1,rfl⟩:=get_map hi
   rcases hAs i C h1 with h2|⟨h2,h3⟩
   ·exact .inl λp Y _=>h2 Y p
   ·exact .inr ⟨h2,map_get h3⟩
theorem oneB_one {v:Value} (h:oneB v=true):v.oneCell'=true:=by cases v<;>first|rfl|(simp [oneB] at h)
theorem pushCol_spec {c c':Col} {v:Value} (h:pushCol c v=some c'):c'.len=c.len+1∧c'.at c.len=v∧(∀i,i<c.len→c'.at i=c.at i)∧v.oneCell'=true:=by
 cases c with
 |ints k xs=>
  cases v<;>simp only [pushCol] at h<;>try cases h
  split at h
  ·rename_i e _;subst e;injection h with h;subst h
   refine ⟨by simp [Col.len],by simp [Col.at,Col.len], λi hi=>?_,rfl⟩
   simp only [Col.at,Col.len] at hi ⊢
   rw [iD,iD,iO hi]
  ·cases h
 |bools xs=>
  cases v<;>simp only [pushCol] at h<;>try cases h
  refine ⟨by simp [Col.len],by simp [Col.at,Col.len], λi hi=>?_,rfl⟩
  simp only [Col.at,Col.len] at hi ⊢
  rw [iD,iD,iO hi]
 |vals xs=>
  simp only [pushCol] at h
  cases ho:oneB v with
  |false=>rw [ho] at h;simp at h
  |true=>
   rw [ho] at h
   simp only [cond_true,iC] at h
   subst h
   refine ⟨by simp [Col.len],by simp [Col.at,Col.len], λi hi=>?_,oneB_one ho⟩
   simp only [Col.at,Col.len] at hi ⊢
   rw [iD,iD,iO hi]
 |fz xs=>cases v<;>simp [pushCol] at h
 |sls xs=>cases v<;>simp [pushCol] at h
theorem pushRow_spec:∀{cols cols':List Col} {vs r:List Value} {n:Nat},pushRow cols vs=some (cols',r)→(∀c∈cols,c.len=n)→
 cols'.length=cols.length∧(∀c∈cols',c.len=n+1)∧vs=cols'.map (·.at n)++r∧(∀i,i<n→cols'.map (·.at i)=cols.map (·.at i))∧∀v∈cols'.map (·.at n),v.oneCell'=true
 |[],cols',vs,r,n,h,_=>by
  simp only [pushRow,iC,iV] at h
  obtain ⟨rfl,rfl⟩:=h
  simp
 |c::cs,cols',[],r,n,h,_=>by simp [pushRow] at h
 |c::cs,cols',v::vs,r,n,h,hn=>by
  simp only [pushRow] at h
  split at h
  ·rename_i c' cs' r' hc hr
   simp only [iC,iV] at h
   obtain ⟨rfl,rfl⟩:=h
   obtain ⟨g1,g2,g3,g4⟩:=pushCol_spec hc
   have hcn:=hn c (by simp)
   obtain ⟨h1,h2,h3,h4,h5⟩:=pushRow_spec hr (λc hc=>hn c (by simp [hc]))
   rw [hcn] at g1 g2 g3
   refine ⟨by simp [h1], λx hx=>?_,by simp [g2,h3], λi hi=>by simp [g3 i hi,h4 i hi], λx hx=>?_⟩
   ·simp only [iG] at hx
    rcases hx with rfl|hx
    ·exact g1
    ·exact h2 x hx
   ·simp only [iK,iG] at hx
    rcases hx with rfl|hx
    ·rw [g2];exact g4
    ·exact h5 x hx
  ·cases h
theorem flat_congr {cols cols':List Col} {n:Nat} (h:∀i,i<n→cols'.map (·.at i)=cols.map (·.at i)):flat cols' n=flat cols n:=by
 induction n with
 |zero=>rfl
 |succ n ih=>rw [flat_succ,flat_succ,ih (λi hi=>h i (by omega)),h n (by omega)]
theorem toRows_spec:∀{m:Nat} {cols cols':List Col} {vs:List Value} {n:Nat},toRows m cols vs=some cols'→(∀c∈cols,c.len=n)→
 cols'.length=cols.length∧(∀c∈cols',c.len=n+m)∧flat cols' (n+m)=flat cols n++vs
 |0,cols,cols',[],n,h,hn=>by simp only [toRows,iC] at h;subst h;exact ⟨rfl,by simpa using hn,by simp⟩
 |0,cols,cols',_::_,n,h,_=>by simp [toRows] at h
 |m+1,cols,cols',vs,n,h,hn=>by
  simp only [toRows] at h
  split at h
  ·rename_i cols1 r hp
   obtain ⟨h1,h2,h3,h4,_⟩:=pushRow_spec hp hn
   obtain ⟨g1,g2,g3⟩:=toRows_spec h h2
   refine ⟨by omega, λc hc=>by have:=g2 c hc;omega,?_⟩
   rw [show n+(m+1)=n+1+m by omega,g3,flat_succ,flat_congr h4,h3]
   simp
  ·cases h
theorem colsT_len {P:Program}:∀(d:Nat) (t:TypeId) (cols:List Col),colsT P d t=some cols→∀c∈cols,c.len=0
 |0,t,cols,h=>by simp [colsT] at h
 |d+1,t,cols,h=>by
  simp only [colsT] at h
  split at h
  ·injection h with h;subst h;simp [Col.len]
  ·injection h with h;subst h;simp [Col.len]
  ·rename_i fs _
   have key:∀(fs:List Field) (cols:List Col),colsT.go (colsT P d) fs=some cols→∀c∈cols,c.len=0:=by
    intro fs
    induction fs with
    |nil=>intro cols h;simp only [colsT.go,iC] at h;subst h;simp
    |cons f fs ih=>
     intro cols h
     simp only [colsT.go] at h
     split at h
     ·rename_i a b ha hb
      injection h with h;subst h
      intro c hc
      rw [kC] at hc
      rcases hc with hc|hc
      ·exact colsT_len d _ a ha c hc
      ·exact ih b hb c hc
     ·cases h
   exact key fs.toList cols h
  ·split at h
   ·rename_i cs hcs
    injection h with h;subst h
    intro c hc
    obtain ⟨l,h1,h2⟩:=List.mem_flatten.1 hc
    rw [(List.mem_replicate.1 h1).2] at h2
    exact colsT_len d _ cs hcs c h2
   ·cases h
  ·injection h with h;subst h;simp [Col.len]
  ·cases h
theorem appCol_spec {c d e:Col} (h:appCol c d=some e):e.len=c.len+d.len∧(∀i,i<c.len→e.at i=c.at i)∧∀i,i<d.len→e.at (c.len+i)=d.at i:=by
 have key:∀{α:Type} (xs ys:List α) (z:α),(∀i,i<xs.length→(xs++ys).getD i z=xs.getD i z)∧∀i,i<ys.length→(xs++ys).getD (xs.length+i) z=ys.getD i z:= λxs ys z=>
  ⟨λi hi=>by rw [iD,iD,iO hi],
   λi hi=>by rw [iD,iD,iQ (by omega),Nat.add_sub_cancel_left]⟩
 cases c<;>cases d<;>simp only [appCol] at h<;>try cases h
 ·split at h
  ·rename_i e' _;subst e';injection h with h;subst h
   exact ⟨by simp [Col.len], λi hi=>by simp only [Col.at];rw [(key _ _ 0).1 i hi], λi hi=>by simp only [Col.at,Col.len];rw [(key _ _ 0).2 i hi]⟩
  ·cases h
 ·split at h
  ·rename_i e' _;subst e';injection h with h;subst h
   exact ⟨by simp [Col.len], λi hi=>by simp only [Col.at];rw [(key _ _ 0).1 i hi], λi hi=>by simp only [Col.at,Col.len];rw [(key _ _ 0).2 i hi]⟩
  ·cases h
 ·exact ⟨by simp [Col.len], λi hi=>by simp only [Col.at];rw [(key _ _ false).1 i hi], λi hi=>by simp only [Col.at,Col.len];rw [(key _ _ false).2 i hi]⟩
 ·exact ⟨by simp [Col.len], λi hi=>by simp only [Col.at];rw [(key _ _ undef).1 i hi], λi hi=>by simp only [Col.at,Col.len];rw [(key _ _ undef).2 i hi]⟩
 ·rename_i xs ys
  refine ⟨by simp [Col.len], λi hi=>by simp only [Col.at];rw [(key _ _ undef).1 i hi], λi hi=>?_⟩
  simp only [Col.len] at hi
  simp only [Col.at,Col.len]
  rw [(key xs (ys.map MJ) undef).2 i (by rw [kK];exact hi)]
  rw [iD,iR,iD,iN hi];rfl
theorem appCols_spec:∀{cs ds es:List Col} {n m:Nat},appCols cs ds=some es→(∀c∈cs,c.len=n)→(∀d∈ds,d.len=m)→
 es.length=cs.length∧ds.length=cs.length∧(∀e∈es,e.len=n+m)∧(∀i,i<n→es.map (·.at i)=cs.map (·.at i))∧∀i,i<m→es.map (·.at (n+i))=ds.map (·.at i)
 |[],[],es,n,m,h,_,_=>by simp only [appCols,iC] at h;subst h;simp
 |[],_::_,es,n,m,h,_,_=>by simp [appCols] at h
 |_::_,[],es,n,m,h,_,_=>by simp [appCols] at h
 |c::cs,d::ds,es,n,m,h,hc,hd=>by
  simp only [appCols] at h
  split at h
  ·rename_i e es' h1 h2
   injection h with h;subst h
   obtain ⟨g1,g2,g3⟩:=appCol_spec h1
   obtain ⟨f1,f2,f3,f4,f5⟩:=appCols_spec h2 (λc h=>hc c (by simp [h])) (λd h=>hd d (by simp [h]))
   have hcn:=hc c (by simp)
   have hdm:=hd d (by simp)
   rw [hcn,hdm] at g1;rw [hcn] at g2 g3;rw [hdm] at g3
   refine ⟨by simp [f1],by simp [f2], λx hx=>?_, λi hi=>by simp [g2 i hi,f4 i hi], λi hi=>by simp [g3 i hi,f5 i hi]⟩
   simp only [iG] at hx
   rcases hx with rfl|hx
   ·exact g1
   ·exact f3 x hx
  ·cases h
theorem flat_append {cs ds es:List Col} {n:Nat}:∀{m:Nat},(∀i,i<n→es.map (·.at i)=cs.map (·.at i))→(∀i,i<m→es.map (·.at (n+i))=ds.map (·.at i))→flat es (n+m)=flat cs n++flat ds m
 |0,h1,_=>by simpa [flat] using flat_congr h1
 |m+1,h1,h2=>by
  rw [←nF,flat_succ,flat_append h1 (λi hi=>h2 i (by omega)),flat_succ,h2 m (by omega)]
  simp
theorem colB_one {cols:List Col} (h:cols.all colB=true) {n:Nat}:∀v∈flat cols n,v.oneCell'=true:= λv hv=>by
 unfold flat at hv
 rw [List.mem_flatMap] at hv
 obtain ⟨i,_,hv⟩:=hv
 rw [kZ] at hv
 obtain ⟨c,hc,rfl⟩:=hv
 rw [kP] at h
 have:=h c hc
 cases c<;>first|rfl|(simp [colB] at this)
theorem repCols_spec {n:Nat}:∀{cols cols':List Col},repCols n cols=some cols'→cols'.length=cols.length∧(∀c∈cols',c.len=n)∧∀i,i<n→cols'.map (·.at i)=cols.map (·.at 0)
 |[],cols',h=>by simp only [repCols,iC] at h;subst h;simp
 |c::cs,cols',h=>by
  simp only [repCols] at h
  split at h
  ·rename_i c' cs' hc hr
   injection h with h;subst h
   obtain ⟨h1,h2,h3⟩:=repCols_spec hr
   have hcc:c'.len=n∧∀i,i<n→c'.at i=c.at 0:=by
    unfold repCol at hc
    split at hc<;>first|(injection hc with hc;subst hc;refine ⟨by simp [Col.len], λi hi=>?_⟩;simp [Col.at,iD,hi])|cases hc
   refine ⟨by simp [h1], λx hx=>?_, λi hi=>by simp [hcc.2 i hi,h3 i hi]⟩
   simp only [iG] at hx
   rcases hx with rfl|hx
   ·exact hcc.1
   ·exact h2 x hx
  ·cases h
theorem setCol_spec {c c':Col} {i:Nat} {v:Value} (h:setCol c i v=some c') (hi:i<c.len):c'.len=c.len∧c'.at i=v∧(∀m,m≠i→c'.at m=c.at m)∧v.oneCell'=true:=by
 have key:∀{α:Type} (xs:List α) (x z:α),i<xs.length→(xs.set i x).getD i z=x∧∀m,m≠i→(xs.set i x).getD m z=xs.getD m z:= λxs x z hl=>
  ⟨by rw [iD,iX hl];rfl, λm hm=>by rw [iD,iD,jD (λe=>hm e.symm)]⟩
 cases c with
 |ints k xs=>
  cases v<;>simp only [setCol] at h<;>try cases h
  split at h
  ·rename_i e _;subst e;injection h with h;subst h
   obtain ⟨k1,k2⟩:=key xs _ 0 hi
   exact ⟨by simp [Col.len],by simp only [Col.at];rw [k1], λm hm=>by simp only [Col.at];rw [k2 m hm],rfl⟩
  ·cases h
 |bools xs=>
  cases v<;>simp only [setCol] at h<;>try cases h
  obtain ⟨k1,k2⟩:=key xs _ false hi
  exact ⟨by simp [Col.len],by simp only [Col.at];rw [k1], λm hm=>by simp only [Col.at];rw [k2 m hm],rfl⟩
 |vals xs=>
  simp only [setCol] at h
  cases ho:oneB v with
  |false=>rw [ho] at h;simp at h
  |true=>
   rw [ho] at h
   simp only [cond_true,iC] at h
   subst h
   obtain ⟨k1,k2⟩:=key xs v undef hi
   exact ⟨by simp [Col.len],by simp only [Col.at];rw [k1], λm hm=>by simp only [Col.at];rw [k2 m hm],oneB_one ho⟩
 |fz xs=>cases v<;>simp [setCol] at h
 |sls xs=>cases v<;>simp [setCol] at h
theorem setCols_spec {i n:Nat} (hi:i<n):∀{off:Nat} {cols cols':List Col} {vs:List Value},setCols i off cols vs=some cols'→(∀c∈cols,c.len=n)→
 cols'.length=cols.length∧(∀c∈cols',c.len=n)∧(vs=[]∨off+vs.length≤cols.length)∧(∀v∈vs,v.oneCell'=true)∧
 ∀(j:Nat) (c':Col),cols'[j]? =some c'→∃c,cols[j]? =some c∧∀m,c'.at m=if m=i∧off≤j∧j<off+vs.length then vs.getD (j-off) undef else c.at m
 |off,cols,cols',[],h,hn=>by
  have:cols'=cols:=by cases off<;>cases cols<;>simp [setCols] at h<;>first|exact h.symm|exact h
  subst this
  refine ⟨rfl,hn, .inl rfl,by simp, λj c' hj=>⟨c',hj, λm=>?_⟩⟩
  rw [if_neg (by simp only [oK];omega)]
 |0,c::cs,cols',v::vs,h,hn=>by
  simp only [setCols] at h
  split at h
  ·rename_i c1 cs1 hc hr
   injection h with h;subst h
   have hcn:=hn c (by simp)
   obtain ⟨a1,a2,a3,a4⟩:=setCol_spec hc (by omega)
   obtain ⟨h1,h2,h3,h4,h5⟩:=setCols_spec hi hr (λc hc=>hn c (by simp [hc]))
   refine ⟨by simp [h1], λx hx=>?_, .inr ?_, λx hx=>?_, λj c' hj=>?_⟩
   ·simp only [iG] at hx
    rcases hx with rfl|hx
    ·omega
    ·exact h2 x hx
   ·rcases h3 with h3|h3
    ·subst h3;simp
    ·simp only [jR];omega
   ·simp only [iG] at hx
    rcases hx with rfl|hx
    ·exact a4
    ·exact h4 x hx
   ·cases j with
    |zero=>
     simp at hj;subst hj
     refine ⟨c,rfl, λm=>?_⟩
     by_cases hm:m=i
     ·subst hm;rw [if_pos (by simp),a2];simp
     ·rw [if_neg (by simp [hm]),a3 m hm]
    |succ j=>
     obtain ⟨c0,e1,e2⟩:=h5 j c' (by simpa using hj)
     refine ⟨c0,by simpa using e1, λm=>?_⟩
     rw [e2 m]
     by_cases hm:m=i∧j<vs.length
     ·rw [if_pos ⟨hm.1,by omega,by omega⟩,if_pos ⟨hm.1,by omega,by simp only [jR];omega⟩];simp
     ·rw [if_neg (by intro h;exact hm ⟨h.1,by omega⟩),if_neg (by intro h;exact hm ⟨h.1,by have:=h.2.2;simp only [jR] at this;omega⟩)]
  ·cases h
 |off+1,c::cs,cols',v::vs,h,hn=>by
  simp only [setCols] at h
  split at h
  ·rename_i cs1 hr
   injection h with h;subst h
   obtain ⟨h1,h2,h3,h4,h5⟩:=setCols_spec hi hr (λc hc=>hn c (by simp [hc]))
   refine ⟨by simp [h1], λx hx=>?_, .inr ?_,h4, λj c' hj=>?_⟩
   ·simp only [iG] at hx
    rcases hx with rfl|hx
    ·exact hn _ (by simp)
    ·exact h2 x hx
   ·rcases h3 with h3|h3
    ·cases h3
    ·simp only [jR] at h3 ⊢;omega
   ·cases j with
    |zero=>
     simp at hj;subst hj
     exact ⟨c,rfl, λm=>by rw [if_neg (by omega)]⟩
    |succ j=>
     obtain ⟨c0,e1,e2⟩:=h5 j c' (by simpa using hj)
     refine ⟨c0,by simpa using e1, λm=>?_⟩
     rw [e2 m]
     by_cases hm:m=i∧off≤j∧j<off+(v::vs).length
     ·rw [if_pos hm,if_pos ⟨hm.1,by omega,by omega⟩,Nat.add_sub_add_right]
     ·rw [if_neg hm,if_neg (by intro h;exact hm ⟨h.1,by omega,by omega⟩)]
  ·cases h
 |0,[],_,_::_,h,_=>by simp [setCols] at h
 |off+1,[],_,_::_,h,_=>by simp [setCols] at h
variable {σ:Type} (D:Addr→σ→Asn)
theorem mlook_push {kk vk:IntKind} {i y:Int} {bn:Nat}:∀(es:List MapEntry),(∀e∈es,∃x y,e.key= .int kk x∧e.val= .int vk y)→mlook es i=none→∀x,mlook (es++[⟨.int kk i, .int vk y,bn⟩]) x=bif x==i then some y else mlook es x
 |[],_,_,x=>by simp [mlook]
 |e::es,h,hn,x=>by
  obtain ⟨z,u,hk,hv⟩:=h e (by simp)
  simp only [mlook,hk,hv] at hn
  have hiz:(i==z)=false:=by
   cases hb:i==z with
   |false=>rfl
   |true=>rw [hb] at hn;simp at hn
  rw [hiz] at hn
  have ih:=mlook_push (kk:=kk) (vk:=vk) (i:=i) (y:=y) (bn:=bn) es (λe he=>h e (by simp [he])) hn x
  simp only [kA,mlook,hk,hv,ih]
  cases hxz:x==z with
  |false=>rfl
  |true=>
   have:x=z:=by simpa using hxz
   subst this
   have:(x==i)=false:=by simp at hiz ⊢;exact λe=>hiz e.symm
   rw [this];rfl
theorem mlook_modify {kk vk:IntKind} {i y:Int} {g:MapEntry→MapEntry} (hg:∀e,(g e).key= .int kk i∧(g e).val= .int vk y):∀(es:List MapEntry) (j:Nat) (e:MapEntry),(∀e∈es,∃x y,e.key= .int kk x∧e.val= .int vk y)→es[j]? =some e→e.key= .int kk i→
 (∀j',j'<j→∀e',es[j']? =some e'→e'.key≠ .int kk i)→∀x,mlook (es.modify j g) x=bif x==i then some y else mlook es x
 |[],j,e,_,hj,_,_,x=>by simp at hj
 |e0::es,0,e,h,hj,hk,hf,x=>by
  simp at hj;subst hj
  obtain ⟨z,u,hk',hv⟩:=h e0 (by simp)
  rw [hk] at hk';injection hk' with _ hk';subst hk'
  simp only [List.modify_zero_cons,mlook,(hg e0).1,(hg e0).2,hk,hv]
  cases x==i<;>rfl
 |e0::es,j+1,e,h,hj,hk,hf,x=>by
  obtain ⟨z,u,hk',hv⟩:=h e0 (by simp)
  have ih:=mlook_modify hg es j e (λe he=>h e (by simp [he])) (by simpa using hj) hk (λj' hj' e' he'=>hf (j'+1) (by omega) e' (by simpa using he')) x
  simp only [List.modify_succ_cons,mlook,hk',hv,ih]
  cases hxz:x==z with
  |false=>rfl
  |true=>
   have:x=z:=by simpa using hxz
   subst this
   have hne:=hf 0 (by omega) e0 rfl
   rw [hk'] at hne
   have:(x==i)=false:=by
    simp only [beq_eq_false_iff_ne,ne_eq]
    rintro rfl;exact hne rfl
   rw [this];rfl
section
variable {P:Program} {f:Fq} {R:Ending→World→Prop} {n:Nat} {E:Ev} {G:Hp} {L:List Ent} {K:List (Chunk σ)} {o:Oper} {a:Act} {w:World}
theorem mapKs_spec {t:TypeId} {kk vk:IntKind} (h:mapKs P t=some (kk,vk)):∃kt et,P.underlying t=some (.map kt et)∧P.underlying kt=some (.int kk):=by
 unfold mapKs at h
 split at h
 ·rename_i kt et hu
  split at h
  ·rename_i kk' vk' h1 h2
   simp only [iC,iV] at h
   obtain ⟨rfl,rfl⟩:=h
   exact ⟨kt,et,hu,h1⟩
  ·cases h
 ·cases h
theorem mapUpdate_run {t:TypeId} {m i x:Operand} {b clock:Nat} {kk vk:IntKind} {iv xv:Int} {kt et:TypeId} {es:Array MapEntry} {f:Int→Option Int} (hop:o.op= .mapUpdate t m i x) (hm:a.eval m= .map (some b)) (hi:a.eval i= .int kk iv) (hx:a.eval x= .int vk xv)
 (hu:P.underlying t=some (.map kt et)) (hkt:P.underlying kt=some (.int kk)) (hb:w.heap[b]? =some (.map es clock)) (hM:MapIs kk vk es.toList f):
 ∃es' clock',(execOp a.eval o).run P w= .ok .skip {w with heap:=w.heap.setIfInBounds b (.map es' clock')}∧MapIs kk vk es'.toList (mupd f iv xv):=by
 have hck:(Instr.checkKey false 10000 kt (.int kk iv)).run P w= .ok () w:=by
  unfold Instr.checkKey
  simp only [jU,run_underlying hkt,Result.andThen_ok,kB]
 rcases findNow_int (k:=kk) (i:=iv) es.toList 0 hM.1 with ⟨h1,h2,h3⟩|⟨j,e,y,h1,h2,h3,h4,h5⟩
 ·have hf:(Instr.findKey kt (.int kk iv) es.toList).run P w= .ok none w:=by simp [Instr.findKey,run_underlying hkt,h1]
  refine ⟨es.push ⟨.int kk iv, .int vk xv,clock⟩,clock+1,?_,?_, λz=>?_⟩
  ·simp only [execOp,hop,hm,hi,hx,Instr.mapUpdate,jU,run_underlying hu,Result.andThen_ok,MapKept.run_getObj_map hb,hck,hf,MapKept.run_setObj_map _ hb,kB]
  ·intro e he
   simp only [Array.toList_push,kC,iY] at he
   rcases he with he|rfl
   ·exact hM.1 e he
   ·exact ⟨iv,xv,rfl,rfl⟩
  ·rw [Array.toList_push,mlook_push es.toList hM.1 h2,hM.2 z];rfl
 ·have hf:(Instr.findKey kt (.int kk iv) es.toList).run P w= .ok (some (0+j, .int vk y)) w:=by simp [Instr.findKey,run_underlying hkt,h1]
  have hj:es[0+j]? =some e:=by simpa using h3
  refine ⟨es.modify (0+j) λe=>{e with key:= .int kk iv,val:= .int vk xv},clock,?_,?_, λz=>?_⟩
  ·have hst:(Instr.keyThatStays (((es[0+j]?).map (·.key)).getD (.int kk iv)) (.int kk iv)).run P w= .ok (.int kk iv) w:=by
    rw [hj]
    simp only [iT,lA,h4]
    exact MapKept.run_keyThatStays (d:= .int kk) (by simp [MapKept.IsKey])
   simp only [execOp,hop,hm,hi,hx,Instr.mapUpdate,jU,run_underlying hu,Result.andThen_ok,MapKept.run_getObj_map hb,hck,hf,hst,MapKept.run_setObj_map _ hb,kB]
  ·intro e' he'
   rw [Array.toList_modify] at he'
   obtain ⟨k,hk⟩:=mR he'
   rw [List.getElem?_modify] at hk
   cases hq:es.toList[k]? with
   |none=>rw [hq] at hk;cases hk
   |some e0=>
    rw [hq] at hk
    simp only [Option.map_eq_map,iT,iC] at hk
    subst hk
    by_cases hjk:0+j=k
    ·simp only [hjk,if_true];exact ⟨iv,xv,rfl,rfl⟩
    ·simp only [hjk,if_false,id];exact hM.1 e0 (jC hq)
  ·rw [Array.toList_modify,lV,mlook_modify (λe=>⟨rfl,rfl⟩) es.toList j e hM.1 h3 h4 h5,hM.2 z];rfl
theorem oneCells_spec {vs:List Value} (h:oneCells vs=true):∀v∈vs,v.oneCell'=true:= λv hv=>by
 unfold oneCells at h
 rw [kP] at h
 exact oneB_one (h v hv)
theorem storeAt_run {t:TypeId} {x y:Operand} {b off m:Nat} {t0:TypeId} {cur:Array Value} (h:o.op= .store t x y) (hx:a.eval x= .pointer (some ⟨b,off,none⟩)) (hm:sizeP P t=some m) (hsz:(a.eval y).cells.size=m)
 (hb:w.heap[b]? =some (.cells cur t0 (0,0))) (hfit:off+m≤cur.size) (h1:∀v∈(a.eval y).cells.toList,v.oneCell'=true):
 (execOp a.eval o).run P w= .ok .skip (w.setRow b (cur.toList.take off++(a.eval y).cells.toList++cur.toList.drop (off+m)).toArray):=by
 have hst:=run_storeCells_at (P:=P) b off t0 (a.eval y).cells.toList 0 cur w hb (by simpa [hsz] using hfit) h1
 simp only [oE,nJ,hsz] at hst
 simp [execOp,h,hx,Instr.storeAt,Instr.sureAddr,storeVar,sizeP_run hm,hsz,hst]
end
end
end Go.Sl
