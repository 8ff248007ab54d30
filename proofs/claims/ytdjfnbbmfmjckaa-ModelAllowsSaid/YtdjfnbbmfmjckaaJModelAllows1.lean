/-
  DERIVED. Part 1 of the texts of this claim.
-/
import Derived.WalkKit
import Derived.Deep.QuietTactic
import Derived.KernelRfl
import Derived.MapKept
import Derived.ChangeKeysEq
import Derived.Scope
import Derived.AtR
set_option linter.unusedSimpArgs false
set_option linter.unusedVariables false
open Option.some renaming injEq → iA
open List renaming getD_eq_getElem?_getD → iC, map_cons → iD, mem_cons → iG, length → iH, getElem?_append_left → iI, getElem?_append_right → iJ, getElem?_eq_getElem → iK, getElem?_map → iM, getElem?_set_self → iT, mem_of_getElem? → iV, getElem?_set_ne → iW, zipWith → jA, map_append → jD, getElem?_eq_none → jE, getElem?_cons_zero → jH, length_cons → jJ, range' → jK, length_append → jL, all_eq_true → jN, range → jQ, mem_singleton → jR, map_set → jU, length_map → jV, cons_append → jX, map_nil → kD, getElem?_take → kJ, zipWith_cons_cons → kK, mem_map → kN, getElem?_cons_succ → kO, getElem?_of_mem → kT, mem_range → kV, ext_getElem? → lB, tail_cons → lE, nodup_cons → lF, any_eq_true → lH, zip → lI, map_map → lJ, nodup_nil → lK, getElem?_drop → lN, map_congr_left → lR, mem_append → lT, length_singleton → lV, mem_filter → mD, length_nil → mE, eraseIdx_of_length_le → mM, drop_zero → mN, singleton_append → mO, map → mV, drop_succ_cons → mY, nodup_range → mZ, filter_cons_of_neg → nB, eq_nil_of_length_eq_zero → nE, reverse_singleton → nG, nil_append → nI, getElem?_toArray → nL, eraseIdx_sublist → nM, map_toArray → nU
open Bool renaming and_eq_true → iE, false_or → jW, or_eq_false_iff → kH, not_true → kL, false_eq_true → kQ, true_or → kS, not_eq_true' → kU, or_eq_true → lU, eq_iff_iff → mS
open Nat renaming eq_of_beq_eq_true → iF, beq → iL, le_of_ble_eq_true → iQ, lt_or_ge → jB, ble → jS, le_refl → jY, not_lt_zero → kB, mul_le_mul_right → kF, zero_add → lD, le_trans → lZ, mod_lt → mB, blt → mF, eq_zero_or_pos → mK, succ_mul → mU, add_assoc → mX, mul_comm → nQ, strongRecOn → oD, add_zero → oG
open Prod.mk renaming injEq → iP
open Go.Sem renaming run_bind → iR, run_pure → iY
open Option renaming map_some → iS, getD_some → lM, map → mJ, map_none → nH
open Go.Region renaming ready → iU, wanted → iZ, lexB → oF
open Array renaming getD_eq_getD_getElem? → jC, getElem?_eq_getElem → jM, all_eq_true_iff_forall_mem → kC, getElem?_eq_none → kE, getElem?_setIfInBounds → kW, length_toList → lS, toList_map → lY, getElem?_toList → mP, replicate → mT, toArray_toList → mW, eq_empty_of_size_eq_zero → nD, mapM_eq_mapM_toList → nX, toList_append → oA, toList_push → oL
open Go.Region.linearise renaming go → jO
open List.cons renaming injEq → jZ
open Prod renaming fst → kM
namespace Go.Sl
section
abbrev LI:=List Int
open Go.RowKit
abbrev Hp:=Nat→Option Obj
def Hp.sub (h:Hp) (w:World):Prop:=∀b o,h b=some o→w.heap[b]? =some o
def Hp.le (a b:Hp):Prop:=∀c o,a c=some o→b c=some o
theorem Hp.le_refl (a:Hp):a.le a:= λ_ _ h=>h
theorem Hp.le.trans {a b c:Hp} (h:a.le b) (h':b.le c):a.le c:= λx o hx=>h' x o (h x o hx)
def Hp.or (a b:Hp):Hp:= λc=>(a c).or (b c)
theorem Hp.AfQ (a b:Hp):a.le (a.or b):= λc o h=>by unfold Hp.or;rw [h];rfl
theorem Hp.Ol {a b:Hp} {c:Nat}:(a.or b) c=none↔a c=none∧b c=none:=by unfold Hp.or;cases a c<;>simp
theorem Hp.Am6 {a b:Hp} {w:World} (h:a.sub w) (h':b.sub w):(a.or b).sub w:= λc o hc=>by
 unfold Hp.or at hc
 cases ha:a c with
 |none=>rw [ha] at hc;exact h' c o hc
 |some x=>rw [ha] at hc;simp at hc;subst hc;exact h c x ha
theorem Hp.AdY {a b:Hp} {w:World} (h:(a.or b).sub w) (h':b.sub w):b.le (a.or b):= λc o hc=>by
 cases hx:(a.or b) c with
 |none=>rw [(Hp.Ol.1 hx).2] at hc;cases hc
 |some x=>rw [←h' c o hc,h c x hx]
theorem Hp.Ot {a b:Hp} {w:World} (h:a.le b) (h':b.sub w):a.sub w:= λc o hc=>h' c o (h c o hc)
abbrev Ew:=Hp→Prop
def part (w:World) (o:Nat→Option Nat) (i:Nat):Hp:= λb=>if o b=some i then w.heap[b]? else none
structure Env (E w:World):Prop where
 os:w.os=E.os
 tape:w.tape=E.tape
 output:w.output=E.output
 size:E.heap.size≤w.heap.size
def Di (E:World) (G:Hp) (w:World) (As:List Ew):Prop:=
 Env E w∧G.sub w∧∃o:Nat→Option Nat,(∀b i,o b=some i→G b=none∧b<w.heap.size)∧∀(i:Nat) (A:Ew),As[i]? =some A→A (part w o i)
theorem KN {w:World} {o:Nat→Option Nat} {i b:Nat} {x:Obj} (h:part w o i b=some x):w.heap[b]? =some x:=by
 unfold part at h
 split at h
 ·exact h
 ·cases h
theorem Fb {w w':World} {o o':Nat→Option Nat} {i j:Nat} (h:∀b,(o b=some i↔o' b=some j)∧(o b=some i→w.heap[b]? =w'.heap[b]?)):part w o i=part w' o' j:=by
 funext b
 unfold part
 by_cases hb:o b=some i
 ·rw [if_pos hb,if_pos ((h b).1.1 hb),(h b).2 hb]
 ·rw [if_neg hb,if_neg (λe=>hb ((h b).1.2 e))]
theorem lt_of_heap {w:World} {b:Nat} {x:Obj} (h:w.heap[b]? =some x):b<w.heap.size:=by
 rcases jB b w.heap.size with hlt|hge
 ·exact hlt
 ·rw [kE hge] at h;cases h
def pt0 (b:Nat) (x:Obj):Ew:= λh=>h b=some x
theorem Di.pt {E:World} {G:Hp} {w:World} {As:List Ew} (h:Di E G w As) {i b:Nat} {x:Obj} (hi:As[i]? =some (pt0 b x)):w.heap[b]? =some x:=by
 obtain ⟨_,_,o,_,hA⟩:=h
 exact KN (hA i _ hi)
theorem Di.drop {E:World} {G:Hp} {w:World} {As Bs:List Ew} (h:Di E G w As) (hB:∀(i:Nat) (A:Ew),Bs[i]? =some A→As[i]? =some A):Di E G w Bs:=by
 obtain ⟨h1,h2,o,h3,h4⟩:=h
 exact ⟨h1,h2,o,h3, λi A hi=>h4 i A (hB i A hi)⟩
theorem Di.imp {E:World} {G:Hp} {w:World} {As Bs:List Ew} (h:Di E G w As) (hB:∀(i:Nat) (B:Ew),Bs[i]? =some B→∃A,As[i]? =some A∧∀k:Hp,A k→B k):Di E G w Bs:=by
 obtain ⟨h1,h2,o,h3,h4⟩:=h
 exact ⟨h1,h2,o,h3, λi B hi=>let ⟨A,hA,hAB⟩:=hB i B hi;hAB _ (h4 i A hA)⟩
theorem Di.drawn {E:World} {G:Hp} {w:World} {As:List Ew} (h:Di E G w As) (n:Nat):Di E G {w with drawn:=n} As:=by
 obtain ⟨⟨a,b,c,d⟩,h2,o,h3,h4⟩:=h
 exact ⟨⟨a,b,c,d⟩,h2,o,h3,h4⟩
theorem Di.write {E:World} {G:Hp} {w w':World} {As:List Ew} (h:Di E G w As) {i b:Nat} {x:Obj} {A':Ew} (hi:As[i]? =some (Sl.pt0 b x))
 (he:w'.os=w.os∧w'.tape=w.tape∧w'.output=w.output) (hs:w'.heap.size=w.heap.size) (hh:∀c,c≠b→w'.heap[c]? =w.heap[c]?)
 (hA:∀k:Hp,k b=w'.heap[b]? →A' k):Di E G w' (As.set i A'):=by
 obtain ⟨⟨e1,e2,e3,e4⟩,h2,o,h3,h4⟩:=h
 have hpt:=h4 i _ hi
 have hob:o b=some i:=by
  simp only [Sl.pt0,part] at hpt
  split at hpt
  ·assumption
  ·cases hpt
 refine ⟨⟨he.1.trans e1,he.2.1.trans e2,he.2.2.trans e3,by omega⟩, λc y hc=>?_,o, λc j hc=>⟨(h3 c j hc).1,by rw [hs];exact (h3 c j hc).2⟩, λj A hj=>?_⟩
 ·rw [hh c (λe=>by subst e;rw [(h3 _ _ hob).1] at hc;cases hc)];exact h2 c y hc
 ·by_cases hij:i=j
  ·subst hij
   have hlt:i<As.length:=by
    rcases jB i As.length with h'|h'
    ·exact h'
    ·rw [jE h'] at hi;cases hi
   rw [iT hlt] at hj
   injection hj with hj
   subst hj
   exact hA _ (by simp [part,hob])
  ·rw [iW hij] at hj
   have:part w' o j=part w o j:=by
    funext c
    unfold part
    split
    ·rename_i hc
     exact hh c (λe=>by subst e;rw [hob] at hc;injection hc with hc;exact hij hc)
    ·rfl
   rw [this];exact h4 j A hj
theorem Di.alloc {E:World} {G:Hp} {w:World} {As:List Ew} (h:Di E G w As) (x:Obj):Di E G (w.alloc x) (As++[Sl.pt0 w.heap.size x]):=by
 obtain ⟨⟨e1,e2,e3,e4⟩,h2,o,h3,h4⟩:=h
 have hnew:(w.alloc x).heap[w.heap.size]? =some x:=heap_alloc_new w x
 have hold:∀c,c<w.heap.size→(w.alloc x).heap[c]? =w.heap[c]? := λc hc=>Below.heap_alloc w x c hc
 have hsz:(w.alloc x).heap.size=w.heap.size+1:=by simp
 refine ⟨⟨e1,e2,e3,by omega⟩, λc y hc=>?_, λc=>if c=w.heap.size then some As.length else if o c=some As.length then none else o c, λc j hc=>?_, λj A hj=>?_⟩
 ·have:=h2 c y hc;rw [hold c (lt_of_heap this)];exact this
 ·dsimp only at hc
  split at hc
  ·rename_i e
   subst e
   refine ⟨?_,by omega⟩
   cases hg:G w.heap.size with
   |none=>rfl
   |some y=>have:=lt_of_heap (h2 _ _ hg);omega
  ·split at hc
   ·cases hc
   ·have:=h3 c j hc;exact ⟨this.1,by omega⟩
 ·rcases jB j As.length with hlt|hge
  ·rw [iI hlt] at hj
   have:part (w.alloc x) (λc=>if c=w.heap.size then some As.length else if o c=some As.length then none else o c) j=part w o j:=by
    refine Fb λc=>⟨⟨λhc=>?_, λhc=>?_⟩, λhc=>?_⟩
    ·split at hc
     ·injection hc with hc;omega
     ·split at hc
      ·cases hc
      ·exact hc
    ·have:=(h3 c j hc).2
     rw [if_neg (by omega),if_neg (λe=>by rw [hc] at e;injection e with e;omega)]
     exact hc
    ·split at hc
     ·injection hc with hc;omega
     ·split at hc
      ·cases hc
      ·exact hold c (h3 c j hc).2
   rw [this];exact h4 j A hj
  ·rw [iJ hge] at hj
   have hj0:j-As.length=0:=by
    rcases mK (j-As.length) with h0|h0
    ·exact h0
    ·rw [jE (by simp;omega)] at hj;cases hj
   rw [hj0] at hj
   simp at hj
   subst hj
   have:j=As.length:=by omega
   subst this
   show part _ _ _ _=_
   unfold part
   rw [if_pos (by simp)]
   exact hnew
theorem Di.freeze {E:World} {G:Hp} {w:World} {As:List Ew} (h:Di E G w As) {i b:Nat} {x:Obj} (hi:As[i]? =some (Sl.pt0 b x)) (A':Ew) (hA':∀k,A' k):
 Di E (λc=>if c=b then some x else G c) w (As.set i A'):=by
 obtain ⟨e,h2,o,h3,h4⟩:=h
 have hpt:=h4 i _ hi
 have hob:o b=some i:=by
  simp only [Sl.pt0,part] at hpt
  split at hpt
  ·assumption
  ·cases hpt
 have hb:w.heap[b]? =some x:=KN hpt
 refine ⟨e, λc y hc=>?_, λc=>if o c=some i then none else o c, λc j hc=>?_, λj A hj=>?_⟩
 ·dsimp only at hc
  split at hc
  ·rename_i e;subst e;injection hc with hc;subst hc;exact hb
  ·exact h2 c y hc
 ·dsimp only at hc ⊢
  split at hc
  ·cases hc
  ·rename_i hne
   refine ⟨?_,(h3 c j hc).2⟩
   rw [if_neg (λe=>by subst e;exact hne hob)]
   exact (h3 c j hc).1
 ·by_cases hij:i=j
  ·subst hij
   have hlt:i<As.length:=by
    rcases jB i As.length with h'|h'
    ·exact h'
    ·rw [jE h'] at hi;cases hi
   rw [iT hlt] at hj
   injection hj with hj
   subst hj
   exact hA' _
  ·rw [iW hij] at hj
   have:part w (λc=>if o c=some i then none else o c) j=part w o j:=by
    refine Fb λc=>⟨⟨λhc=>?_, λhc=>?_⟩, λ_=>rfl⟩
    ·split at hc
     ·cases hc
     ·exact hc
    ·rw [if_neg (λe=>by rw [hc] at e;injection e with e;exact hij e.symm)]
     exact hc
   rw [this];exact h4 j A hj
def G7 {α:Type} (As:List α):List Nat→List α→List α
 |[],Bs=>As++Bs
 |i::is,B::Bs=>G7 (As.set i B) is Bs
 |_::_,[]=>As
theorem AiO {α:Type}:∀(is:List Nat) (As Bs:List α),is.Nodup→(∀i∈is,i<As.length)→is.length≤Bs.length→∀(i:Nat) (A:α),(G7 As is Bs)[i]? =some A→
 (∃j:Nat,is[j]? =some i∧Bs[j]? =some A)∨(i ∉ is∧As[i]? =some A)∨(As.length≤i∧Bs[is.length+(i-As.length)]? =some A):=by
 intro is
 induction is with
 |nil=>
  intro As Bs _ _ _ i A h
  simp only [G7] at h
  rcases jB i As.length with hl|hl
  ·rw [iI hl] at h;exact .inr (.inl ⟨by simp,h⟩)
  ·rw [iJ hl] at h;exact .inr (.inr ⟨hl,by simpa using h⟩)
 |cons k ks ih=>
  intro As Bs hnd hall hle i A h
  cases Bs with
  |nil=>simp at hle
  |cons B Bs=>
   simp only [G7] at h
   rw [lF] at hnd
   have hk:=hall k (by simp)
   rcases ih (As.set k B) Bs hnd.2 (λi hi=>by simpa using hall i (by simp [hi])) (by simpa using hle) i A h with ⟨j,h5,h6⟩|⟨h5,h7⟩|⟨h5,h6⟩
   ·exact .inl ⟨j+1,by simpa using h5,by simpa using h6⟩
   ·by_cases hki:k=i
    ·subst hki
     rw [iT hk] at h7
     exact .inl ⟨0,by simp,by simpa using h7⟩
    ·rw [iW hki] at h7
     exact .inr (.inl ⟨by simp only [iG,not_or];exact ⟨λe=>hki e.symm,h5⟩,h7⟩)
   ·refine .inr (.inr ⟨by simpa using h5,?_⟩)
    have:(k::ks).length+(i-As.length)=(ks.length+(i-(As.set k B).length))+1:=by simp;omega
    rw [this];simpa using h6
theorem Kv {is:List Nat} (hn:is.Nodup) {j i:Nat}:is.idxOf? i=some j↔is[j]? =some i:=by
 constructor
 ·intro h
  rw [List.idxOf?_eq_some_iff] at h
  obtain ⟨hl,he,_⟩:=h
  rw [iK hl,he]
 ·intro h
  have hl:j<is.length:=by
   rcases jB j is.length with h'|h'
   ·exact h'
   ·rw [jE h'] at h;cases h
  have he:is[j]=i:=by rw [iK hl] at h;injection h
  rw [List.idxOf?_eq_some_iff]
  refine ⟨hl,he, λk hk hkj=>?_⟩
  have a:=hn.idxOf_getElem k (by omega)
  have b:=hn.idxOf_getElem j hl
  rw [hkj] at a;rw [he] at b;omega
def Pg (w:World) (o:Nat→Option Nat) (is:List Nat):Hp:= λb=>match o b with|some i=>if i∈is then none else w.heap[b]? |none=>w.heap[b]?
def ownIn (o:Nat→Option Nat) (is:List Nat):Nat→Option Nat:= λb=>match o b with|some i=>is.idxOf? i|none=>none
def Kw (o o':Nat→Option Nat) (is:List Nat) (n:Nat):Nat→Option Nat:= λb=>match o' b with
 |some j=>if j<is.length then is[j]? else some (n+(j-is.length))
 |none=>match o b with|some i=>if i∈is then none else some i|none=>none
theorem Di.frame {E:World} {G:Hp} {w:World} {As:List Ew} (h:Di E G w As) (is:List Nat) (hn:is.Nodup) (hlt:∀i∈is,i<As.length):
 ∃G':Hp,(∀b o,G b=some o→G' b=some o)∧(∀(i:Nat) A,As[i]? =some A→i ∉ is→∃k:Hp,A k∧∀b o,k b=some o→G' b=some o)∧
  Di E G' w (is.map λi=>As.getD i (λ_=>True))∧
  ∀(N:Hp) (w':World) (Bs:List Ew),(∀b,N b≠none→G' b=none∨G b≠none)→is.length≤Bs.length→Di E (G'.or N) w' Bs→Di E (G.or N) w' (G7 As is Bs):=by
 obtain ⟨e,h2,o0,h30,h40⟩:=h
 obtain ⟨o,h3,h4,h5⟩:∃o:Nat→Option Nat,(∀b i,o b=some i→G b=none∧b<w.heap.size)∧(∀(i:Nat) (A:Ew),As[i]? =some A→A (part w o i))∧∀b i,o b=some i→i<As.length:=by
  refine ⟨λb=>match o0 b with|some i=>if i<As.length then some i else none|none=>none, λb i hb=>?_, λi A hi=>?_, λb i hb=>?_⟩
  ·dsimp only at hb
   split at hb
   ·split at hb
    ·injection hb with hb;subst hb;rename_i ho _;exact h30 b _ ho
    ·cases hb
   ·cases hb
  ·have hl:i<As.length:=by
    rcases jB i As.length with h'|h'
    ·exact h'
    ·rw [jE h'] at hi;cases hi
   have:=h40 i A hi
   rw [Fb (o':= λb=>match o0 b with|some i=>if i<As.length then some i else none|none=>none) (j:=i) (w':=w)] at this
   ·exact this
   ·refine λb=>⟨⟨λhb=>?_, λhb=>?_⟩, λ_=>rfl⟩
    ·simp [hb,hl]
    ·split at hb
     ·split at hb
      ·rename_i ho _;rw [ho];exact hb
      ·cases hb
     ·cases hb
  ·dsimp only at hb
   split at hb
   ·split at hb
    ·injection hb with hb;omega
    ·cases hb
   ·cases hb
 clear h30 h40
 refine ⟨Pg w o is, λb x hb=>?_, λi A hi hni=>⟨_,h4 i A hi, λb x hb=>?_⟩,⟨e, λb x hb=>?_,ownIn o is, λb j hb=>?_, λj A hj=>?_⟩,?_⟩
 ·have hw:=h2 b x hb
  unfold Pg
  cases ho:o b with
  |none=>exact hw
  |some i=>rw [(h3 b i ho).1] at hb;cases hb
 ·unfold part at hb
  unfold Pg
  split at hb
  ·rename_i ho;simp only [ho,if_neg hni];exact hb
  ·cases hb
 ·unfold Pg at hb
  cases ho:o b with
  |none=>simpa [ho] using hb
  |some i=>
   simp only [ho] at hb
   split at hb
   ·cases hb
   ·exact hb
 ·unfold ownIn at hb
  unfold Pg
  cases ho:o b with
  |none=>simp [ho] at hb
  |some i=>
   simp only [ho] at hb
   have hm:i∈is:=iV ((Kv hn).1 hb)
   simp only [if_pos hm]
   exact ⟨trivial,(h3 b i ho).2⟩
 ·rw [iM] at hj
  cases hi:is[j]? with
  |none=>simp [hi] at hj
  |some i=>
   simp only [hi,iS,iA] at hj
   have hl:=hlt i (iV hi)
   have hAs:As[i]? =some A:=by rw [←hj];simp [hl]
   rw [Fb (w':=w) (o':=o) (j:=i)]
   ·exact h4 i A hAs
   ·refine λb=>⟨?_, λ_=>rfl⟩
    unfold ownIn
    cases ho:o b with
    |none=>simp
    |some i'=>
     simp only [iA]
     rw [Kv hn]
     constructor
     ·intro h';rw [hi] at h';injection h' with h';exact h'.symm
     ·rintro rfl;exact hi
 ·intro N w' Bs hN hle hS
  obtain ⟨e',g2n,o',g3n,g4⟩:=hS
  have g2:(Pg w o is).sub w':=Hp.Ot (Hp.AfQ _ N) g2n
  have g3:∀b i,o' b=some i→Pg w o is b=none∧b<w'.heap.size:= λb i hb=>⟨(Hp.Ol.1 (g3n b i hb).1).1,(g3n b i hb).2⟩
  have keep:∀b i,o b=some i→i ∉ is→w'.heap[b]? =w.heap[b]? ∧o' b=none:= λb i ho hni=>by
   have hlt':=(h3 b i ho).2
   have hG:Pg w o is b=some w.heap[b]:=by simp [Pg,ho,hni,hlt']
   refine ⟨(g2 b _ hG).trans (by simp [hlt']),?_⟩
   cases ho':o' b with
   |none=>rfl
   |some j=>have:=(g3 b j ho').1;rw [hG] at this;cases this
  refine ⟨e', λb x hb=>?_,Kw o o' is As.length, λb j hb=>?_, λi A hi=>?_⟩
  ·unfold Hp.or at hb
   cases hg:G b with
   |some y=>
    rw [hg] at hb;simp at hb;subst hb
    refine g2 b y ?_
    unfold Pg
    cases ho:o b with
    |none=>exact h2 b y hg
    |some i=>rw [(h3 b i ho).1] at hg;cases hg
   |none=>
    rw [hg] at hb
    simp at hb
    cases hq:Pg w o is b with
    |none=>exact g2n b x (by unfold Hp.or;rw [hq];exact hb)
    |some y=>
     exfalso
     rcases hN b (by rw [hb];simp) with h'|h'
     ·rw [hq] at h';cases h'
     ·exact h' hg
  ·have hNn:N b=none:=by
    unfold Kw at hb
    cases ho':o' b with
    |some j'=>exact (Hp.Ol.1 (g3n b j' ho').1).2
    |none=>
     rw [ho'] at hb
     cases ho:o b with
     |none=>simp [ho] at hb
     |some i=>
      simp only [ho] at hb
      split at hb
      ·cases hb
      ·rename_i hni
       cases hx:N b with
       |none=>rfl
       |some y=>
        exfalso
        have hlt':=(h3 b i ho).2
        rcases hN b (by rw [hx];simp) with h'|h'
        ·have hG:Pg w o is b=some w.heap[b]:=by simp [Pg,ho,hni,hlt']
         rw [hG] at h';cases h'
        ·exact h' (h3 b i ho).1
   have key:G b=none∧b<w'.heap.size:=by
    unfold Kw at hb
    cases ho':o' b with
    |some j'=>
     refine ⟨?_,(g3 b j' ho').2⟩
     have h6:=(g3 b j' ho').1
     cases hg:G b with
     |none=>rfl
     |some x=>
      exfalso
      have hw:=h2 b x hg
      unfold Pg at h6
      cases ho:o b with
      |none=>simp only [ho,hw] at h6;cases h6
      |some i=>rw [(h3 b i ho).1] at hg;cases hg
    |none=>
     rw [ho'] at hb
     cases ho:o b with
     |none=>simp [ho] at hb
     |some i=>
      simp only [ho] at hb
      split at hb
      ·cases hb
      ·rename_i hni
       refine ⟨(h3 b i ho).1,?_⟩
       have h6:=(keep b i ho hni).1
       have hlt':=(h3 b i ho).2
       exact lt_of_heap (h6.trans (show w.heap[b]? =some w.heap[b] by simp [hlt']))
   exact ⟨Hp.Ol.2 ⟨key.1,hNn⟩,key.2⟩
  ·rcases AiO is As Bs hn hlt hle i A hi with ⟨j,h6,h7⟩|⟨h6,h7⟩|⟨h6,h7⟩
   ·have hjl:j<is.length:=by
     rcases jB j is.length with h'|h'
     ·exact h'
     ·rw [jE h'] at h6;cases h6
    rw [Fb (w':=w') (o':=o') (j:=j)]
    ·exact g4 j A h7
    ·refine λb=>⟨⟨λhb=>?_, λhb=>?_⟩, λ_=>rfl⟩
     ·unfold Kw at hb
      cases ho':o' b with
      |some j'=>
       simp only [ho'] at hb
       split at hb
       ·have a:=(Kv hn).2 hb
        have c:=(Kv hn).2 h6
        rw [a] at c;exact c
       ·injection hb with hb
        have:=hlt i (iV h6);omega
      |none=>
       rw [ho'] at hb
       cases ho:o b with
       |none=>simp [ho] at hb
       |some i'=>
        simp only [ho] at hb
        split at hb
        ·cases hb
        ·rename_i hni;injection hb with hb;subst hb;exact absurd (iV h6) hni
     ·unfold Kw;rw [hb];simp only [if_pos hjl];exact h6
   ·rw [Fb (w':=w) (o':=o) (j:=i)]
    ·exact h4 i A h7
    ·have one:∀b,Kw o o' is As.length b=some i↔o b=some i:= λb=>by
      constructor
      ·intro hb
       unfold Kw at hb
       cases ho':o' b with
       |some j'=>
        simp only [ho'] at hb
        split at hb
        ·exact absurd (iV hb) h6
        ·injection hb with hb
         have hl:i<As.length:=by
          rcases jB i As.length with h'|h'
          ·exact h'
          ·rw [jE h'] at h7;cases h7
         omega
       |none=>
        rw [ho'] at hb
        cases ho:o b with
        |none=>simp [ho] at hb
        |some i'=>
         simp only [ho] at hb
         split at hb
         ·cases hb
         ·exact hb
      ·intro hb
       unfold Kw
       rw [(keep b i hb h6).2,hb]
       simp only [if_neg h6]
     exact λb=>⟨one b, λhb=>(keep b i ((one b).1 hb) h6).1⟩
   ·rw [Fb (w':=w') (o':=o') (j:=is.length+(i-As.length))]
    ·exact g4 _ A h7
    ·refine λb=>⟨⟨λhb=>?_, λhb=>?_⟩, λ_=>rfl⟩
     ·unfold Kw at hb
      cases ho':o' b with
      |some j'=>
       simp only [ho'] at hb
       split at hb
       ·have:=hlt i (iV hb);omega
       ·injection hb with hb
        rw [show is.length+(i-As.length)=j' by omega]
      |none=>
       rw [ho'] at hb
       cases ho:o b with
       |none=>simp [ho] at hb
       |some i'=>
        simp only [ho] at hb
        split at hb
        ·cases hb
        ·injection hb with hb;have:=h5 b i' ho;omega
     ·unfold Kw;rw [hb];simp only [if_neg (Nat.not_lt.2 (Nat.le_add_right _ _))]
      congr 1;omega
structure Ev where
 w:World
 z:Hp
abbrev CZ:=Hp→Hp→Prop
def IW (Z:Hp) (A:CZ):Ew:= λk=>∀Y,Z.le Y→A Y k
theorem Agc {Z Z':Hp} (h:Z.le Z') {A:CZ} {k:Hp} (hA:IW Z A k):IW Z' A k:= λY hY=>hA Y (h.trans hY)
structure Zok (E:Ev) (G Z:Hp):Prop where
 low:E.z.le Z
 new:∀b,Z b≠none→G b=none∨E.z b≠none
def Sat (E:Ev) (G:Hp) (w:World) (As:List CZ):Prop:=∃Z:Hp,Zok E G Z∧Z.sub w∧Di E.w (G.or Z) w (As.map (IW Z))
def pt (b:Nat) (x:Obj):CZ:= λ_ h=>h b=some x
theorem Js {α β:Type} {f:α→β} {l:List α} {i:Nat} {y:β} (h:(l.map f)[i]? =some y):∃x,l[i]? =some x∧y=f x:=by
 rw [iM,Option.map_eq_some_iff] at h
 obtain ⟨x,h1,h2⟩:=h
 exact ⟨x,h1,h2.symm⟩
theorem EI {α β:Type} {f:α→β} {l:List α} {i:Nat} {x:α} (h:l[i]? =some x):(l.map f)[i]? =some (f x):=by
 rw [iM,h];rfl
section
variable {E:Ev} {G:Hp} {w w':World} {As Bs:List CZ}
theorem Sat.sub (h:Sat E G w As):G.sub w:=by
 obtain ⟨Z,_,_,h0⟩:=h
 exact Hp.Ot (Hp.AfQ G Z) h0.2.1
theorem Sat.env (h:Sat E G w As):Env E.w w:=by
 obtain ⟨Z,_,_,h0⟩:=h
 exact h0.1
theorem Rw {α:Type} {l:List α} {i:Nat} {x:α} (h:l[i]? =some x):i<l.length:=by
 rcases jB i l.length with h'|h'
 ·exact h'
 ·rw [jE h'] at h;cases h
theorem Am7 {α β:Type} {f:α→β} {l:List α} {i:Nat} {x:α} (h:l[i]? =some x):i<(l.map f).length:=by rw [jV];exact Rw h
theorem Sat.of {Z:Hp} (hz:Zok E G Z) (hw:Z.sub w) (h0:(G.or Z).sub w) (h':Di E.w (G.or Z) w' (Bs.map (IW Z))):Sat E G w' Bs:=
 ⟨Z,hz,Hp.Ot (Hp.AdY h0 hw) h'.2.1,h'⟩
theorem AqS {Z k:Hp} {b:Nat} {x:Obj}:IW Z (pt b x) k↔pt0 b x k:=⟨λh=>h Z (Hp.le_refl Z), λh _ _=>h⟩
theorem Acs {Z:Hp} {b:Nat} {x:Obj}:IW Z (pt b x)=pt0 b x:=by funext k;exact propext AqS
theorem Sat.pt (h:Sat E G w As) {i b:Nat} {x:Obj} (hi:As[i]? =some (pt b x)):w.heap[b]? =some x:=by
 obtain ⟨Z,_,_,h0⟩:=h
 exact Di.pt h0 (i:=i) (by rw [EI hi,Acs])
theorem Sat.drop (h:Sat E G w As) (hB:∀(i:Nat) (A:CZ),Bs[i]? =some A→As[i]? =some A):Sat E G w Bs:=by
 obtain ⟨Z,hz,hw,h0⟩:=h
 exact ⟨Z,hz,hw,h0.drop λi A hi=>by
  obtain ⟨B,h1,rfl⟩:=Js hi
  exact EI (hB i B h1)⟩
theorem Sat.imp (h:Sat E G w As) (hB:∀(i:Nat) (B:CZ),Bs[i]? =some B→∃A,As[i]? =some A∧∀Y k:Hp,A Y k→B Y k):Sat E G w Bs:=by
 obtain ⟨Z,hz,hw,h0⟩:=h
 exact ⟨Z,hz,hw,h0.imp λi B hi=>by
  obtain ⟨C,h1,rfl⟩:=Js hi
  obtain ⟨A,h2,h3⟩:=hB i C h1
  exact ⟨_,EI h2, λk hk Y hY=>h3 Y k (hk Y hY)⟩⟩
theorem Sat.drawn (h:Sat E G w As) (n:Nat):Sat E G {w with drawn:=n} As:=by
 obtain ⟨Z,hz,hw,h0⟩:=h
 exact ⟨Z,hz,hw,h0.drawn n⟩
theorem Sat.write (h:Sat E G w As) {i b:Nat} {x:Obj} {A':CZ} (hi:As[i]? =some (Sl.pt b x))
 (he:w'.os=w.os∧w'.tape=w.tape∧w'.output=w.output) (hs:w'.heap.size=w.heap.size) (hh:∀c,c≠b→w'.heap[c]? =w.heap[c]?)
 (hA:∀Y k:Hp,k b=w'.heap[b]? →A' Y k):Sat E G w' (As.set i A'):=by
 obtain ⟨Z,hz,hw,h0⟩:=h
 refine Sat.of hz hw h0.2.1 ?_
 rw [jU]
 exact h0.write (b:=b) (x:=x) (by rw [EI hi,Acs]) he hs hh λk hk Y _=>hA Y k hk
theorem Sat.alloc (h:Sat E G w As) (x:Obj):Sat E G (w.alloc x) (As++[Sl.pt w.heap.size x]):=by
 obtain ⟨Z,hz,hw,h0⟩:=h
 refine Sat.of hz hw h0.2.1 ?_
 rw [jD,iD,kD,Acs]
 exact h0.alloc x
theorem Sat.freeze (h:Sat E G w As) {i b:Nat} {A A':CZ} (hi:As[i]? =some A) (hA:∀Y k,A Y k→∃x,k b=some x∧∀Y' k',Y' b=some x→A' Y' k'):Sat E G w (As.set i A'):=by
 obtain ⟨Z,hz,hw,h0⟩:=h
 have hil:i<(As.map (IW Z)).length:=Am7 hi
 obtain ⟨e,hs,o,ho,hoA⟩:=h0
 obtain ⟨x,hx,hA'⟩:=hA Z _ (hoA i _ (EI hi) Z (Hp.le_refl Z))
 have hob:o b=some i:=by
  simp only [part] at hx
  split at hx
  ·assumption
  ·cases hx
 have hb:w.heap[b]? =some x:=KN hx
 obtain ⟨hGb,hZb⟩:=Hp.Ol.1 (ho b i hob).1
 have h1:Di E.w (G.or Z) w ((As.map (IW Z)).set i (pt0 b x)):=⟨e,hs,o,ho, λj B hj=>by
  by_cases hij:i=j
  ·subst hij
   rw [iT hil] at hj
   injection hj with hj;subst hj
   exact hx
  ·rw [iW hij] at hj
   exact hoA j B hj⟩
 have h2:=h1.freeze (i:=i) (b:=b) (x:=x) (by rw [iT hil]) (λ_=>True) (λ_=>trivial)
 let Z':Hp:= λc=>if c=b then some x else Z c
 have hZZ:Z.le Z':= λc y hc=>by
  show (if c=b then some x else Z c)=some y
  by_cases e:c=b
  ·subst e;rw [hZb] at hc;cases hc
  ·rw [if_neg e];exact hc
 have hG':G.or Z'= λc=>if c=b then some x else (G.or Z) c:=by
  funext c
  show (G c).or (if c=b then some x else Z c)=if c=b then some x else (G c).or (Z c)
  by_cases e:c=b
  ·subst e;rw [if_pos rfl,if_pos rfl,hGb];rfl
  ·rw [if_neg e,if_neg e]
 refine ⟨Z',⟨hz.low.trans hZZ, λc hc=>?_⟩, λc y hc=>?_,?_⟩
 ·by_cases e:c=b
  ·subst e;exact .inl hGb
  ·refine hz.new c ?_
   have:Z' c=Z c:=if_neg e
   rw [←this];exact hc
 ·by_cases e:c=b
  ·subst e
   have:Z' c=some x:=if_pos rfl
   rw [this] at hc;injection hc with hc;subst hc;exact hb
  ·have:Z' c=Z c:=if_neg e
   rw [this] at hc;exact hw c y hc
 ·rw [hG']
  refine h2.imp λj B hj=>?_
  obtain ⟨C,h4,rfl⟩:=Js hj
  by_cases hij:i=j
  ·subst hij
   rw [iT (Rw hi)] at h4
   injection h4 with h4;subst h4
   refine ⟨λ_=>True,?_, λk _ Y hY=>hA' Y k (hY b x (if_pos rfl))⟩
   rw [List.set_set,iT hil]
  ·rw [iW hij] at h4
   refine ⟨IW Z C,?_, λk hk=>Agc hZZ hk⟩
   rw [List.set_set,iW hij]
   exact EI h4
theorem WW {α β:Type} (f:α→β):∀(is:List Nat) (As Bs:List α),(G7 As is Bs).map f=G7 (As.map f) is (Bs.map f)
 |[],As,Bs=>by simp [G7]
 |i::is,As,B::Bs=>by simp only [G7,iD];rw [WW f is,jU]
 |_::_,As,[]=>rfl
theorem WX {α:Type} {R:α→α→Prop} (hR:∀x,R x x):∀(is:List Nat) (As As' Bs:List α),As.length=As'.length→(∀(i:Nat) A',As'[i]? =some A'→∃A,As[i]? =some A∧R A A')→
 ∀(i:Nat) A',(G7 As' is Bs)[i]? =some A'→∃A,(G7 As is Bs)[i]? =some A∧R A A'
 |[],As,As',Bs,hl,h,i,A',hi=>by
  simp only [G7] at hi ⊢
  rcases jB i As'.length with hlt|hge
  ·rw [iI hlt] at hi
   rw [iI (by omega)]
   exact h i A' hi
  ·rw [iJ hge] at hi
   rw [iJ (by omega),hl]
   exact ⟨A',hi,hR A'⟩
 |j::is,As,As',B::Bs,hl,h,i,A',hi=>by
  simp only [G7] at hi ⊢
  refine WX hR is _ _ Bs (by simpa using hl) (λk C hk=>?_) i A' hi
  by_cases hjk:j=k
  ·subst hjk
   have hlt:=Rw hk
   rw [iT (by simpa using hlt)] at hk
   injection hk with hk;subst hk
   exact ⟨B,by rw [iT (by simp at hlt;omega)],hR B⟩
  ·rw [iW hjk] at hk ⊢
   exact h k C hk
 |_::_,As,As',[],_,h,i,A',hi=>h i A' hi
theorem Sat.frame (h:Sat E G w As) (is:List Nat) (hn:is.Nodup) (hlt:∀i∈is,i<As.length):
 ∃(Ec:Ev) (G':Hp),Ec.w=E.w∧E.z.le Ec.z∧(∀b o,G b=some o→G' b=some o)∧(∀b o,Ec.z b=some o→G' b=some o)∧(∀(i:Nat) A,As[i]? =some A→∃k:Hp,A Ec.z k∧(i ∉ is→∀b o,k b=some o→G' b=some o))∧
  Sat Ec G' w (is.map λi=>As.getD i (λ_ _=>True))∧
  ∀(w':World) (Bs:List CZ),is.length≤Bs.length→Sat Ec G' w' Bs→Sat E G w' (G7 As is Bs):=by
 obtain ⟨Z,hz,hw,h0⟩:=h
 have hlen:(As.map (IW Z)).length=As.length:=jV _
 obtain ⟨G',g1,g2,g3,g4⟩:=h0.frame is hn (λi hi=>by rw [hlen];exact hlt i hi)
 have hZG:Z.le G':= λb o hb=>g1 b o (Hp.AdY h0.2.1 hw b o hb)
 have eor:G'.or Z=G':=by
  funext b
  unfold Hp.or
  cases hg:G' b with
  |some o=>rfl
  |none=>
   cases hzb:Z b with
   |none=>rfl
   |some o=>rw [hZG b o hzb] at hg;cases hg
 refine ⟨⟨E.w,Z⟩,G',rfl,hz.low, λb o hb=>g1 b o (Hp.AfQ G Z b o hb),hZG, λi A hi=>?_,?_, λw' Bs hle hS=>?_⟩
 ·by_cases hi':i∈is
  ·obtain ⟨_,_,o,_,hoA⟩:=h0
   exact ⟨_,hoA i _ (EI hi) Z (Hp.le_refl Z), λh'=>absurd hi' h'⟩
  ·obtain ⟨k,hk,hkG⟩:=g2 i _ (EI hi) hi'
   exact ⟨k,hk Z (Hp.le_refl Z), λ_=>hkG⟩
 ·refine ⟨Z,⟨Hp.le_refl Z, λb hb=> .inr hb⟩,hw,?_⟩
  rw [eor,lJ]
  have:(is.map ((IW Z)∘ λi=>As.getD i (λ_ _=>True)))=is.map λi=>(As.map (IW Z)).getD i (λ_=>True):=by
   refine lR λi hi=>?_
   have hl:=hlt i hi
   simp only [Function.comp_apply,iC,iM,iK hl,iS,lM]
  rw [this];exact g3
 ·obtain ⟨Z',hz',hw',h5⟩:=hS
  have h6:=g4 Z' w' (Bs.map (IW Z')) (λb hb=>(hz'.new b hb).imp id λhq hx=>hq (Hp.Ol.1 hx).2) (by rw [jV];exact hle) h5
  have eo:(G.or Z).or Z'=G.or Z':=by
   funext b
   unfold Hp.or
   cases G b with
   |some o=>rfl
   |none=>
    cases hzb:Z b with
    |none=>simp
    |some o=>rw [hz'.low b o hzb];rfl
  rw [eo] at h6
  refine ⟨Z',⟨hz.low.trans hz'.low, λb hb=>?_⟩,hw',?_⟩
  ·rcases hz'.new b hb with h7|h7
   ·left
    cases hg:G b with
    |none=>rfl
    |some o=>rw [g1 b o (Hp.AfQ G Z b o hg)] at h7;cases h7
   ·exact hz.new b h7
  ·refine h6.imp λi B hi=>?_
   rw [WW] at hi
   refine WX (R:= λA B:Ew=>∀k:Hp,A k→B k) (λ_ _ h=>h) is _ _ _ (by simp) (λj C hj=>?_) i B hi
   obtain ⟨D,h8,rfl⟩:=Js hj
   exact ⟨_,EI h8, λk hk=>Agc hz'.low hk⟩
end
end
section
def Ph (a b:Nat):Nat:=2^a*(2*b+1)
def unN:Nat→Nat→Nat×Nat
 |0,_=>(0,0)
 |f+1,n=>bif iL (n%2) 1 then (0,n/2) else ((unN f (n/2)).1+1,(unN f (n/2)).2)
theorem Am8 (b:Nat):∀(a f:Nat),a<f→unN f (Ph a b)=(a,b)
 |0,f+1,_=>by
  have h1:Ph 0 b=2*b+1:=by simp [Ph]
  rw [unN,h1]
  have h2:(2*b+1)%2=1:=by omega
  have h3:(2*b+1)/2=b:=by omega
  rw [h2,h3];rfl
 |a+1,f+1,h=>by
  have h1:Ph (a+1) b=2*Ph a b:=by simp only [Ph,Nat.pow_succ];rw [nQ (2^a) 2,Nat.mul_assoc]
  rw [unN,h1]
  have h2:(2*Ph a b)%2=0:=by omega
  have h3:2*Ph a b/2=Ph a b:=by omega
  rw [h2,h3,Am8 b a f (by omega)];rfl
theorem Asb (a b:Nat):a<Ph a b:=by
 have h1:a<2^a:=Nat.lt_two_pow_self
 have h2:2^a*1≤2^a*(2*b+1):=Nat.mul_le_mul_left _ (by omega)
 unfold Ph;omega
def KO (n:Nat):Nat×Nat:=unN n n
theorem ApV (a b:Nat):KO (Ph a b)=(a,b):=Am8 b a _ (Asb a b)
def Alc (a:Addr):Nat:=Ph a.block (Ph a.off (match a.spot with|none=>0|some k=>k+1))
def Acu (n:Nat):Addr:=⟨(KO n).1,(KO (KO n).2).1,match (KO (KO n).2).2 with|0=>none|k+1=>some k⟩
theorem Aol (a:Addr):Acu (Alc a)=a:=by
 obtain ⟨b,o,s⟩:=a
 unfold Acu Alc
 simp only [ApV]
 cases s<;>rfl
def AsB (n:Nat):Int:=bif iL (n%2) 0 then .ofNat (n/2) else .negSucc (n/2)
def AqT:Nat→Nat→LI
 |0,_=>[]
 |f+1,n=>bif iL n 0 then [] else AsB (KO n).1::AqT f (KO n).2
def slA (x:Int):Option Addr:=match (KO x.toNat).1 with
 |0=>none
 |n+1=>some (Acu n)
def slC (x:Int):Nat:=(KO (KO x.toNat).2).1
def U9 (x:Int):LI:=AqT (KO (KO x.toNat).2).2 (KO (KO x.toNat).2).2
inductive Au where
 |ints (k:IntKind) (xs:LI)
 |bools (xs:List Bool)
 |vals (xs:List Value)
 |fz (xs:LI)
 |sls (xs:LI)
def slV (z:Int):Value:= .slice (slA z) (U9 z).length (slC z)
def Au.at:Au→Nat→Value
 | .ints k xs,i=> .int k (xs.getD i 0)
 | .bools xs,i=> .bool (xs.getD i false)
 | .vals xs,i=>xs.getD i undef
 | .fz xs,i=> .int .i64 (xs.getD i 0)
 | .sls xs,i=> .slice (slA (xs.getD i 0)) (U9 (xs.getD i 0)).length (slC (xs.getD i 0))
def Au.len:Au→Nat
 | .ints _ xs=>xs.length
 | .bools xs=>xs.length
 | .vals xs=>xs.length
 | .fz xs=>xs.length
 | .sls xs=>xs.length
def Au.isFz:Au→Bool
 | .fz _=>true
 | .sls _=>true
 |_=>false
def EY:List Au→Bool
 |[]=>false
 |c::cs=>bif c.isFz then true else EY cs
def Au.isSl:Au→Bool
 | .sls _=>true
 |_=>false
def slB:List Au→Bool
 |[]=>false
 |c::cs=>bif c.isSl then true else slB cs
inductive PK where
 |cell (off:Nat)
 |slice
 |elem (i off:Nat)
 |obj
 |map
 |iter
 |arr (off:Nat)
inductive Pr where
 |no
 |pt (k:Nat) (pk:PK)
 |many (ps:List Pr)
 |box (p:Pr)
inductive Chunk (σ:Type) where
 |dead
 |cells (b:Nat) (t:TypeId) (cs:List (Value×Pr))
 |roc (b:Nat) (t:TypeId) (vs:List Value)
 |row (a:Option Nat) (t:TypeId) (n cap:Nat) (cols:List Au)
 |ro (a:Option Addr) (n cap:Nat) (cols:List Au)
 |obj (p:Addr) (s:σ)
 |map (b:Nat) (kk vk:IntKind) (f:Int→Option Int)
 |bm (b:Nat) (l:List (Int×Int)) (it:Option (Nat×List (Int×Int)×List (Int×Int)))
 |fm (b:Nat) (l:List (Int×Nat×Addr))
inductive Mk (σ:Type) where
 |row (t:TypeId) (cols:List Au)
 |obj (s:σ)
def lenC:List Au→Nat
 |c::_=>c.len
 |[]=>0
structure Ak where
 s:Nat
 g:Option (Nat×Bool)
 v:Value
 p:Pr
def Pr.Agd:Pr→Bool
 | .no=>true
 |_=>false
def Gy (ps:List Pr):Pr:=bif ps.all Pr.Agd then .no else .many ps
def Qn:Nat→List Pr
 |0=>[]
 |n+1=> .no::Qn n
def LW (v:Value) (p:Pr):List Pr:=
 match v with
 | .agg cs=>match p with
   | .many ps=>bif iL ps.length cs.size then ps else Qn cs.size
   |_=>Qn cs.size
 |_=>[p]
def UA:List Value→List Pr→List (Value×Pr)
 |v::vs,p::ps=>(v,p)::UA vs ps
 |_,_=>[]
def Jg (v:Value) (p:Pr):List (Value×Pr):=UA v.cells.toList (LW v p)
def look:List Ak→Nat→Option Ak
 |[],_=>none
 |e::r,t=>bif iL e.s t then some e else look r t
def ent (g:Option (Nat×Bool)) (L:List Ak) (t:Nat):Option Ak:=
 match look L t with
 |none=>none
 |some e=>match e.g,g with
  |none,_=>some e
  |some (c,b),some (c',b')=>bif iL c c'&&(b==b') then some e else none
  |some _,none=>none
def val (g:Option (Nat×Bool)) (L:List Ak):Operand→Option Value
 | .const v=>some v
 | .func f=>some (.func (.func f) #[] #[])
 | .global n=>some (.pointer (some ⟨n,0,none⟩))
 | .tmp t=>match ent g L t with
   |some e=>some e.v
   |none=>none
def Dl (g:Option (Nat×Bool)) (L:List Ak):Operand→Pr
 | .tmp t=>match ent g L t with
   |some e=>e.p
   |none=> .no
 |_=> .no
def rho (g:Option (Nat×Bool)) (L:List Ak) (x:Operand):Value:=(val g L x).getD undef
def gIs (d:Nat):Option (Nat×Bool)→Bool
 |some (c,_)=>iL c d
 |none=>false
def del (d:Nat):List Ak→List Ak
 |[]=>[]
 |e::r=>bif iL e.s d||gIs d e.g then del d r else e::del d r
def Wp (ops:Array Oper) (o:Oper):Option (Option (Nat×Bool)):=
 match o.guard with
 |none=>some none
 |some (j,b)=>match (ops[j]?).bind (·.dst) with
  |some c=>some (some (c,b))
  |none=>none
def LX (g:Option (Nat×Bool)) (L:List Ak) (p:Prop):Prop:=
 match g with
 |none=>p
 |some (c,b)=>match look L c with
  |some ⟨_,none, .bool t,_⟩=>t=b→p
  |some ⟨_,some _, .bool t,_⟩=>t=b→p
  |_=>p
def Jz (P:Program) {α:Type}:Sem α→Option α
 | .pure a=>some a
 | .program k=>Jz P (k P)
 | .mark _ k=>Jz P k
 |_=>none
def marked (c:Nat) (L:List Ak):Bool:=(look L (1000000+c)).isSome
def Acv (g:Option (Nat×Bool)) (L:List Ak) (c a b:Operand):Option Value:=
 match val g L c,c with
 |some (.bool t), .tmp cs=>bif marked cs L then (match t with
   |true=>(match val g L a with|some v=>some v|none=>val (some (cs,true)) L a)
   |false=>(match val g L b with|some v=>some v|none=>val (some (cs,false)) L b)) else
  match (match val g L a with|some v=>some v|none=>val (some (cs,true)) L a),(match val g L b with|some v=>some v|none=>val (some (cs,false)) L b) with
  |some (.bool x),some (.bool y)=>
   match a,b with
   | .const (.bool true),_=>some (.bool (t||y))
   |_, .const (.bool false)=>some (.bool (t&&x))
   |_,_=>some (.bool (bif t then x else y))
  |some (.int k x),some (.int k' y)=>match decEq k k' with
   | .isTrue _=>some (.int k (bif t then x else y))
   | .isFalse _=>none
  |_,_=>none
 |_,_=>none
def LY (P:Program) (t:TypeId):Option Bool:=
 match P.underlying t with
 |some (.struct _)|some (.array _ _)=>some true
 |some _=>some false
 |none=>none
def EP (P:Program) (t:TypeId):Option Nat:=
 match P.info? t with
 |some i=>some i.size
 |none=>none
def I8 (P:Program) (t:TypeId) (cs:List (Value×Pr)) (off:Nat):Option (Value×Pr):=
 match LY P t,EP P t with
 |some true,some n=>bif jS (off+n) cs.length then some (.agg (((cs.drop off).take n).map (·.1)).toArray,Gy (((cs.drop off).take n).map (·.2))) else none
 |some false,_=>cs[off]?
 |_,_=>none
def Om (P:Program) (t:TypeId) (cols:List Au) (i off:Nat):Option Value:=
 match LY P t,EP P t with
 |some true,some n=>bif jS (off+n) cols.length then some (.agg (((cols.drop off).take n).map (·.at i)).toArray) else none
 |some false,_=>(cols[off]?).map (·.at i)
 |_,_=>none
inductive FC (σ:Type) where
 |none
 |row (n:Nat) (cols:List Au)
 |cells (t:TypeId) (vs:List Value)
 |obj (s:σ)
 |many (is:List (FC σ))
structure Res (σ:Type) where
 pre:List Prop
 new:Option σ
 rows:List (Mk σ)
 out:List Value→Value
 outp:Nat→Pr
structure Did (σ:Type) where
 {α:Type}
 x:α
 r:α→Res σ
abbrev Entry (σ:Type):=List (Value×FC σ)→Option (Did σ)
def Wq {σ:Type}:List (Nat×Entry σ)→Nat→Option (Entry σ)
 |[],_=>none
 |(f,e)::r,g=>bif iL f g then some e else Wq r g
mutual
def BG {σ:Type} (K:List (Chunk σ)):Pr→FC σ
 | .pt k .slice=>match K[k]? with
   |some (.row _ _ n _ cols)=>bif EY cols then .none else .row n cols
   |some (.ro _ n _ cols)=> .row n cols
   |_=> .none
 | .pt k .obj=>match K[k]? with
   |some (.obj _ s)=> .obj s
   |_=> .none
 | .pt k (.cell off)=>match K[k]? with
   |some (.cells _ t cs)=>bif iL off 0 then .cells t (cs.map (·.1)) else .none
   |some (.roc _ t vs)=>bif iL off 0 then .cells t vs else .none
   |_=> .none
 | .many ps=> .many (D9 K ps)
 |_=> .none
def D9 {σ:Type} (K:List (Chunk σ)):List Pr→List (FC σ)
 |[]=>[]
 |p::ps=>BG K p::D9 K ps
end
def CV {σ:Type}:Value→FC σ→List (Addr×σ)
 | .pointer (some p), .obj s=>[(p,s)]
 | .agg cs, .many is=>go cs.toList is
 |_,_=>[]
where
 go:List Value→List (FC σ)→List (Addr×σ)
  | .pointer (some p)::vs, .obj s::is=>(p,s)::go vs is
  |_::vs,_::is=>go vs is
  |_,_=>[]
def J7 {σ:Type}:List (Value×FC σ)→List (Addr×σ)
 |[]=>[]
 |(v,i)::r=>CV v i++J7 r
def KF {σ:Type} (args:List (Value×FC σ)):Option (Addr×σ):=
 match J7 args with
 |[x]=>some x
 |_=>none
def Gz:List Pr→List Nat
 |[]=>[]
 | .pt k .obj::r=>k::Gz r
 | .many ps::r=>objK1 ps++Gz r
 |_::r=>Gz r
where
 objK1:List Pr→List Nat
  |[]=>[]
  | .pt k .obj::r=>k::objK1 r
  |_::r=>objK1 r
def callable (P:Program) (f:Nat):Bool:=
 match P.funcs[f]? with
 |some fn=>!(fn.name=="runtime.NumGoroutine")&&fn.body.isSome
 |none=>false
def Ald (g:Option (Nat×Bool)) (L:List Ak) (c:Operand):Option (Nat×List Value×List Pr):=
 match val g L c with
 |some (.func (.func f) ⟨[]⟩ ⟨caps⟩)=>match Dl g L c with
  | .many ps=>bif iL ps.length caps.length then some (f,caps,ps) else none
  |_=>some (f,caps,Qn caps.length)
 |_=>none
def LZ {σ:Type} (K:List (Chunk σ)):List Value→List Pr→List (Value×FC σ)
 |v::vs,p::ps=>(v,BG K p)::LZ K vs ps
 |_,_=>[]
def Agf (P:Program) (t:TypeId) (name:String):Option Nat:=
 match P.info? t with
 |some i=>match i.methods.find? (·.name==name) with
  |some m=>bif m.path.isEmpty then match m.func,P.underlying t with
    |some (f,true),some (.pointer _)=>some f
    |some (_,false),some (.pointer _)=>none
    |some (f,false),some _=>some f
    |_,_=>none
   else none
  |none=>none
 |none=>none
def IX:Pr→Pr
 | .box p=>p
 |_=> .no
def Ale (g:Option (Nat×Bool)) (L:List Ak) (c:Operand):Option (Nat×Value):=
 match val g L c with
 |some (.func (.func f) ⟨[v]⟩ ⟨[]⟩)=>some (f,v)
 |_=>none
def Ap5 {σ:Type} (P:Program) (g:Option (Nat×Bool)) (L:List Ak) (K:List (Chunk σ)) (c:Operand) (args:Array Operand):Option (Nat×List (Value×FC σ)×List Pr):=
 match Ale g L c with
 |some (f,v)=>
  bif args.toList.all (λx=>(val g L x).isSome)&&callable P f then
   some (f,(v,BG K (IX (Dl g L c)))::(args.toList.map λx=>(rho g L x,BG K (Dl g L x))),IX (Dl g L c)::(args.toList.map λx=>Dl g L x)) else none
 |none=>match Ald g L c with
  |some (f,caps,cps)=>
   bif args.toList.all (λx=>(val g L x).isSome)&&callable P f then
    some (f,(args.toList.map λx=>(rho g L x,BG K (Dl g L x)))++LZ K caps cps,(args.toList.map λx=>Dl g L x)++cps) else none
  |none=>none
def callOf {σ:Type} (P:Program) (g:Option (Nat×Bool)) (L:List Ak) (K:List (Chunk σ)) (o:Oper):Option (Nat×List (Value×FC σ)×List Pr):=
 match o.op with
 | .call {callee:= .invoke recv name,args,argTypes:=_}=>match val g L recv with
   |some (.iface t v)=>match Agf P t name with
    |some f=>bif args.toList.all (λx=>(val g L x).isSome)&&callable P f then
      some (f,(v,BG K (IX (Dl g L recv)))::(args.toList.map λx=>(rho g L x,BG K (Dl g L x))),IX (Dl g L recv)::(args.toList.map λx=>Dl g L x)) else none
    |none=>none
   |_=>none
 | .call {callee:= .value c,args,argTypes:=_}=>Ap5 P g L K c args
 |_=>none
def Ou:Nat:=4000000
def yieldOf (g:Option (Nat×Bool)) (L:List Ak) (o:Oper):Option (List Value×List Pr):=
 match o.op with
 | .call {callee:= .value c,args,argTypes:=_}=>match val g L c with
   |some (.func (.yield l) first caps)=>
    bif iL first.size 0&&iL caps.size 0&&args.toList.all (λx=>(val g L x).isSome) then
     some (.func (.yield l) #[] #[]::args.toList.map (λx=>rho g L x),Dl g L c::args.toList.map λx=>Dl g L x) else none
   |_=>none
 |_=>none
def Agg (P:Program) (eq:TypeId→Value→Value→Option Bool) (xs ys:Array Value):List Field→Option Bool
 |[]=>some true
 |f::fs=>bif f.name=="_" then none else
  match Jz P (Go.part f.type xs f.offset),Jz P (Go.part f.type ys f.offset),Agg P eq xs ys fs with
  |some a,some b,some s=>match eq f.type a b with
   |some r=>some (r&&s)
   |none=>none
  |_,_,_=>none
def Agh (P:Program) (eq:TypeId→Value→Value→Option Bool) (e:TypeId) (c:Nat) (xs ys:Array Value):List Nat→Option Bool
 |[]=>some true
 |i::is=>match Jz P (Go.part e xs (i*c)),Jz P (Go.part e ys (i*c)),Agh P eq e c xs ys is with
  |some a,some b,some s=>match eq e a b with
   |some r=>some (r&&s)
   |none=>none
  |_,_,_=>none
def NQ (P:Program):Nat→TypeId→Value→Value→Option Bool
 |0,_,_,_=>none
 |d+1,t,x,y=>match P.underlying t,x,y with
  |some (.int _), .int k a, .int k' b=>match decEq k k' with
   | .isTrue _=>some (a==b)
   | .isFalse _=>none
  |some .bool, .bool a, .bool b=>some (a==b)
  |some (.struct fs), .agg xs, .agg ys=>bif P.stoodInHeld t then none else Agg P (NQ P d) xs ys fs.toList
  |some (.array n e), .agg xs, .agg ys=>match P.info? e with
   |some _=>Agh P (NQ P d) e (P.cellsOf e) xs ys (jQ n)
   |none=>none
  |_,_,_=>none
def Aom (P:Program) (g:Option (Nat×Bool)) (L:List Ak) (o:Oper):Option Bool:=
 match o.op with
 | .binOp .eql t x y _=>match val g L x,val g L y with
   |some (.agg xs),some (.agg ys)=>bif P.eqGuardType P.depth t then none else NQ P 8 t (.agg xs) (.agg ys)
   |some (.slice a _ _),some (.slice none _ _)=>match P.underlying t with
    |some (.slice _)=>some a.isNone
    |_=>none
   |_,_=>none
 | .binOp .neq t x y _=>match val g L x,val g L y with
   |some (.agg xs),some (.agg ys)=>bif P.eqGuardType P.depth t then none else (NQ P 8 t (.agg xs) (.agg ys)).map (!·)
   |some (.slice a _ _),some (.slice none _ _)=>match P.underlying t with
    |some (.slice _)=>some (!a.isNone)
    |_=>none
   |_,_=>none
 |_=>none
def Rx (ps:List Pr) (off:Nat):List Pr→List Pr
 |[]=>ps
 |q::qs=>Rx (ps.set off q) (off+1) qs
def ZW (place:Nat→Option (Nat×Nat)):List Pr→List (Nat×Value×Pr)→List Pr
 |ps,[]=>ps
 |ps,(i,v,p)::r=>match place i with
  |some (off,_)=>ZW place (Rx ps off (LW v p)) r
  |none=>ps
def Oo (P:Program):List Field→Option (List (Nat×Nat))
 |[]=>some []
 |f::fs=>match EP P f.type,Oo P fs with
  |some n,some r=>some ((f.offset,n)::r)
  |_,_=>none
def Akf (P:Program) (g:Option (Nat×Bool)) (L:List Ak) (t:TypeId) (parts:List (Nat×Operand)):Pr:=
 match P.underlying t,P.info? t with
 |some (.struct fs),some i=>match Oo P fs.toList,i.zero with
  |some pl,some z=>Gy (ZW (pl[·]?) (Qn z.cells.size) (parts.map λx=>(x.1,rho g L x.2,Dl g L x.2)))
  |_,_=> .no
 |_,_=> .no
def Am9 (P:Program) (t:TypeId) (f:Nat) (p:Pr):Pr:=
 match P.underlying t,p with
 |some (.struct fs), .many ps=>match fs[f]? with
  |some fd=>match LY P fd.type,EP P fd.type with
   |some true,some n=>Gy ((ps.drop fd.offset).take n)
   |some false,_=>ps.getD fd.offset .no
   |_,_=> .no
  |none=> .no
 |_,_=> .no
def Ap6 (i:Nat):Pr→Pr
 | .many ps=>ps.getD i .no
 |_=> .no
def Acw (P:Program) (g:Option (Nat×Bool)) (L:List Ak) (o:Oper):Pr:=
 match o.op with
 | .build t parts=>Akf P g L t parts.toList
 | .field t x f=>Am9 P t f (Dl g L x)
 | .extract x i=>Ap6 i (Dl g L x)
 | .makeInterface t x=>match Dl g L x with
   | .no=> .no
   |p=>bif P.concrete t then .box p else .no
 | .makeFunc _ ⟨[x]⟩ ⟨[]⟩=>(match Dl g L x with
   | .no=> .no
   |p=> .box p)
 | .makeFunc _ _ caps=>Gy (caps.toList.map λx=>Dl g L x)
 | .nilCheck x=>match val g L x with
   |some (.pointer (some _))=>Dl g L x
   |_=> .no
 |_=> .no
def sAt (s:ByteArray) (i:Int):Int:=match s[i.toNat]? with
 |some b=>(b.toNat:Int)
 |none=>0
def FZ {σ:Type} (b:Nat):Nat→List (Chunk σ)→Option (Nat×Nat×List Au)
 |_,[]=>none
 |k, .ro (some ⟨b',0,none⟩) n _ cols::r=>bif iL b b'&&!(EY cols) then some (k,n,cols) else FZ b (k+1) r
 |k,_::r=>FZ b (k+1) r
def Hw {σ:Type} (P:Program) (T:List (Nat×Entry σ)) (g:Option (Nat×Bool)) (L:List Ak) (K:List (Chunk σ)) (o:Oper):Option (Value×Pr×List Prop):=
 match o.op with
 | .move x| .assign x=>match val g L x with
   |some v=>some (v,Dl g L x,[])
   |none=>none
 | .pick c a b=>match Acv g L c a b with
   |some v=>some (v, .no,[])
   |none=>none
 | .load t x=>match Dl g L x with
   | .pt k (.cell off)=>match K[k]? with
     |some (.cells _ _ cs)=>match I8 P t cs off with
      |some (v,p)=>some (v,p,[])
      |none=>none
     |some (.roc _ _ vs)=>match I8 P t (vs.map λv=>(v, .no)) off with
      |some (v,_)=>some (v, .no,[])
      |none=>none
     |_=>none
   | .pt k (.elem i off)=>match K[k]? with
     |some (.row _ _ _ _ cols)=>match Om P t cols i off with
      |some v=>some (v, .no,[])
      |none=>none
     |some (.ro _ _ _ cols)=>bif slB cols then none else match Om P t cols i off with
      |some v=>some (v, .no,[])
      |none=>none
     |_=>none
   |_=>none
 | .fieldAddr s x f=>match P.underlying s,Dl g L x with
   |some (.struct fields), .pt k pk=>match fields[f]?,val g L x with
    |some fd,some (.pointer q)=>match EP P fd.type with
     |some (_+1)=>match pk with
      | .cell off=>match q with
        |some a=>some (.pointer (some (a.add fd.offset)), .pt k (.cell (off+fd.offset)),[])
        |none=>none
      | .elem i off=>match K[k]? with
        |some .dead=>none
        |_=>some (.pointer (q.map (·.add fd.offset)), .pt k (.elem i (off+fd.offset)),[])
      |_=>none
     |_=>none
    |_,_=>none
   |_,_=>none
 | .indexAddr t x ix=>match P.underlying t,Dl g L x,val g L x,val g L ix with
   |some (.slice e), .pt k .slice,some (.slice a n _),some (.int _ i)=>match EP P e,K[k]? with
    |some sz,some (.row _ _ _ _ cols)=>bif iL sz cols.length then some (.pointer (a.map λa=>a.add (i.toNat*sz)), .pt k (.elem i.toNat 0),[LX g L (0≤i∧i<(n:Int))]) else none
    |some sz,some (.ro _ _ _ cols)=>bif iL sz cols.length then some (.pointer (a.map λa=>a.add (i.toNat*sz)), .pt k (.elem i.toNat 0),[LX g L (0≤i∧i<(n:Int))]) else none
    |_,_=>none
   |some (.array len e), .pt k (.cell off),some (.pointer (some a)),some (.int _ i)=>match ix,EP P e with
    | .const _,some sz=>bif decide (0≤i)&&decide (i<(len:Int)) then some (.pointer (some (a.add (i.toNat*sz))), .pt k (.cell (off+i.toNat*sz)),[]) else none
    | .tmp _,some sz=>some (.pointer (some (a.add (i.toNat*sz))), .pt k (.cell (off+i.toNat*sz)),[LX g L (0≤i∧i<(len:Int))])
    |_,_=>none
   |some (.array len e), .pt k (.elem j off),some (.pointer q),some (.int _ i)=>match EP P e,K[k]? with
    |some sz,some (.ro _ _ _ _)=>some (.pointer (q.map λa=>a.add (i.toNat*sz)), .pt k (.elem j (off+i.toNat*sz)),[LX g L (0≤i∧i<(len:Int))])
    |_,_=>none
   |some (.array len e), .no,some (.pointer (some a)),some (.int _ i)=>match x,EP P e with
    | .global b,some sz=>match FZ b 0 K with
      |some (k,n,cols)=>bif iL n len&&iL sz cols.length then some (.pointer (some (a.add (i.toNat*sz))), .pt k (.elem i.toNat 0),[LX g L (0≤i∧i<(len:Int))]) else none
      |none=>none
    |_,_=>none
   |_,_,_,_=>none
 | .index t x ix=>match P.underlying t,val g L x,val g L ix with
   |some .string,some (.string s),some (.int _ i)=>some (.int .u8 (sAt s i), .no,[LX g L (0≤i∧i<(s.size:Int))])
   |_,_,_=>none
 | .binOp .quo _ x (.tmp y) _=>match val g L x,val g L (.tmp y) with
   |some (.int k a),some (.int k' b)=>match decEq k k' with
    | .isTrue _=>some (.int k (k.wrap (a.tdiv b)), .no,[LX g L (b≠0)])
    | .isFalse _=>none
   |_,_=>none
 | .binOp .rem _ x (.tmp y) _=>match val g L x,val g L (.tmp y) with
   |some (.int k a),some (.int k' b)=>match decEq k k' with
    | .isTrue _=>some (.int k (a.tmod b), .no,[LX g L (b≠0)])
    | .isFalse _=>none
   |_,_=>none
 | .binOp .shl _ x (.tmp y) _=>match val g L x,val g L (.tmp y) with
   |some (.int k a),some (.int _ b)=>some (.int k (k.wrap (a*2^(min b.toNat k.bits))), .no,[LX g L (0≤b)])
   |_,_=>none
 | .binOp .shr _ x (.tmp y) _=>match val g L x,val g L (.tmp y) with
   |some (.int k a),some (.int _ b)=>some (.int k (a.fdiv (2^(min b.toNat k.bits))), .no,[LX g L (0≤b)])
   |_,_=>none
 | .select _ _=>none
 | .store _ _ _=>none
 | .lookup t x ix ok=>match Dl g L x,val g L ix,P.underlying t with
   | .pt k .map,some (.int ki i),some (.map kt et)=>match K[k]? with
     |some (.map _ kk vk f)=>match decEq ki kk,P.underlying kt,(P.info? et).bind (·.zero) with
      | .isTrue _,some (.int kk'),some (.int vk' 0)=>match decEq kk kk',decEq vk vk' with
        | .isTrue _, .isTrue _=>some (bif ok then .tuple #[.int vk ((f i).getD 0), .bool (f i).isSome] else .int vk ((f i).getD 0), .no,[])
        |_,_=>none
      |_,_,_=>none
     |_=>none
   |_,_,_=>none
 | .call {callee:= .builtin .append,args:=_,argTypes:=_}=>none
 | .slice _ _ _ _ _=>none
 |_=>match callOf P g L K o with
  |some (f,args,_)=>match Wq T f with
   |some e=>match e args with
    |some c=>match c.r c.x with
     |⟨pre,none,[],out,outp⟩=>match outp 0 with
      | .no=>some (out [], .no,pre.map (LX g L))
      |_=>none
     |_=>none
    |_=>none
   |none=>none
  |none=>match Aom P g L o with
   |some b=>some (.bool b, .no,[])
   |none=>bif o.op.operands.all (λx=>(val g L x).isSome) then
     match Jz P (execOp (rho g L) o) with
     |some (.value v)=>some (v,Acw P g L o,[])
     |_=>none
    else none
def Dw (d:Option Nat) (g:Option (Nat×Bool)) (v:Value) (p:Pr) (L:List Ak):List Ak:=
 match d with
 |some d=>⟨d,g,v,p⟩::del d L
 |none=>L
def sub (B:Code):List Nat→Code
 |[]=>B
 |d::p=>match sub B p,d with
  | .seq a _,0=>a
  | .seq _ b,_=>b
  | .cond _ a _,0=>a
  | .cond _ _ b,_=>b
  | .block _ c,_=>c
  | .loop c,_=>c
  | .scope c,_=>c
  | .rangeFunc _ _ a _,0=>a
  | .rangeFunc _ _ _ b,_=>b
  |c,_=>c
def opsOf:Code→Array Oper
 | .region _ ops _=>ops
 |_=> #[]
inductive Ab where
 |code (p:List Nat)
 |ops (p:List Nat) (i:Nat)
 |blk (id:Nat)
 |again (p:List Nat)
 |scp (p:List Nat)
 |lst (p:List Nat) (is:List Nat)
 |raw (i:Item)
def Jo (id:Nat):List Ab→Option (List Ab)
 | .blk id'::k=>bif id'==id then some k else Jo id k
 | .raw _::_=>none
 |_::k=>Jo id k
 |[]=>none
inductive Tree (σ:Type) where
 |ret (v:Value) (p:Pr) (K:List (Chunk σ))
 |br (t:Bool) (a b:Tree σ)
 |need (p:Prop) (t:Tree σ)
 |bind {α:Type} (x:α) (t:α→Tree σ)
 |fresh (t:Nat→Tree σ)
 |freshS (t:Option Nat→Nat→Tree σ)
 |pick (t:Nat→Tree σ)
 |two (a b:Tree σ)
 |stuck (todo:List Ab) (L:List Ak) (K:List (Chunk σ))
def needs {σ:Type}:List Prop→Tree σ→Tree σ
 |[],t=>t
 |p::ps,t=> .need p (needs ps t)
def JK {σ:Type}:Tree σ→(Value→Pr→List (Chunk σ)→Tree σ)→Tree σ
 | .ret v p K,k=>k v p K
 | .br t a b,k=> .br t (JK a k) (JK b k)
 | .need p t,k=> .need p (JK t k)
 | .bind x t,k=> .bind x λa=>JK (t a) k
 | .fresh t,k=> .fresh λb=>JK (t b) k
 | .freshS t,k=> .freshS λa c=>JK (t a c) k
 | .pick t,k=> .pick λb=>JK (t b) k
 | .two a b,k=> .two (JK a k) (JK b k)
 | .stuck td L K,_=> .need False (.stuck td L K)
def GM {σ:Type} (P:Program) (L:List Ak) (K:List (Chunk σ)):List ResultVar→Option (List (Value×Pr))
 |[]=>some []
 | .tmp t::r=>match val none L (.tmp t),GM P L K r with
   |some v,some vs=>some ((v,Dl none L (.tmp t))::vs)
   |_,_=>none
 | .cell a t::r=>match Dl none L (.tmp a),GM P L K r with
   | .pt k (.cell off),some vs=>match K[k]? with
     |some (.cells _ _ cs)=>match I8 P t cs off with
      |some (v,p)=>some ((v,p)::vs)
      |none=>none
     |_=>none
   |_,_=>none
def gs (n:Nat) (ops:Array Oper) (o:Oper):Option (Option (Nat×Bool)):=
 match o.dst with
 |some d=>bif mF d n then
   match Wp ops o with
   |some g=>bif gIs d g then none else some g
   |none=>none
  else none
 |none=>Wp ops o
def Yy {σ:Type} (P:Program) (T:List (Nat×Entry σ)) (n:Nat) (ops:Array Oper) (K:List (Chunk σ)):List Oper→List Ak→Option (List Ak×List Prop)
 |[],L=>some (L,[])
 |o::r,L=>match gs n ops o with
  |none=>none
  |some g=>match Hw P T g L K o with
   |none=>none
   |some (v,p,ps)=>match Yy P T n ops K r (Dw o.dst g v p L) with
    |none=>none
    |some (L',ps')=>some (L',ps++ps')
def Ws (ks:List Nat):List Ak→List Ak
 |[]=>[]
 |e::r=>bif ks.any (iL e.s) then e::Ws ks r else Ws ks r
def FP {α:Type} (cs:List α) (off:Nat):List α→List α
 |[]=>cs
 |v::vs=>FP (cs.set off v) (off+1) vs
def Yz:Value→Bool
 | .agg _=>false
 | .tuple _=>false
 |_=>true
def J8 (vs:List Value):Bool:=vs.all Yz
def Ov:Au→Nat→Value→Option Au
 | .ints k xs,i, .int k' x=>match decEq k k' with
   | .isTrue _=>some (.ints k (xs.set i x))
   | .isFalse _=>none
 | .bools xs,i, .bool x=>some (.bools (xs.set i x))
 | .vals xs,i,v=>bif Yz v then some (.vals (xs.set i v)) else none
 |_,_,_=>none
def JL (i:Nat):Nat→List Au→List Value→Option (List Au)
 |_,cs,[]=>some cs
 |0,c::cs,v::vs=>match Ov c i v,JL i 0 cs vs with
  |some c',some cs'=>some (c'::cs')
  |_,_=>none
 |off+1,c::cs,vs=>match JL i off cs vs with
  |some cs'=>some (c::cs')
  |none=>none
 |_,[],_::_=>none
def KG (P:Program):Nat→TypeId→Option (List Au)
 |0,_=>none
 |d+1,t=>match P.underlying t with
  |some (.int k)=>some [.ints k []]
  |some .bool=>some [.bools []]
  |some (.struct fs)=>go (KG P d) fs.toList
  |some (.array m e)=>match KG P d e with
   |some cs=>some (List.replicate m cs).flatten
   |none=>none
  |some _=>some [.vals []]
  |none=>none
where
 go (f:TypeId→Option (List Au)):List Field→Option (List Au)
  |[]=>some []
  |fd::fs=>match f fd.type,go f fs with
   |some a,some b=>some (a++b)
   |_,_=>none
def Mc:Au→Value→Option Au
 | .ints k xs, .int k' x=>match decEq k k' with
   | .isTrue _=>some (.ints k (xs++[x]))
   | .isFalse _=>none
 | .bools xs, .bool x=>some (.bools (xs++[x]))
 | .vals xs,v=>bif Yz v then some (.vals (xs++[v])) else none
 |_,_=>none
def pushRow:List Au→List Value→Option (List Au×List Value)
 |[],r=>some ([],r)
 |c::cs,v::r=>match Mc c v,pushRow cs r with
  |some c',some (cs',r')=>some (c'::cs',r')
  |_,_=>none
 |_::_,[]=>none
def Qo:Nat→List Au→List Value→Option (List Au)
 |0,cols,[]=>some cols
 |0,_,_::_=>none
 |n+1,cols,vs=>match pushRow cols vs with
  |some (cols',r)=>Qo n cols' r
  |none=>none
def AmA (n:Nat):Au→Option Au
 | .ints k [x]=>some (.ints k (List.replicate n x))
 | .bools [x]=>some (.bools (List.replicate n x))
 | .vals [v]=>some (.vals (List.replicate n v))
 |_=>none
def Qp (n:Nat):List Au→Option (List Au)
 |[]=>some []
 |c::cs=>match AmA n c,Qp n cs with
  |some c',some cs'=>some (c'::cs')
  |_,_=>none
def Agi:Au→Au→Option Au
 | .ints k xs, .ints k' ys=>match decEq k k' with
   | .isTrue _=>some (.ints k (xs++ys))
   | .isFalse _=>none
 | .bools xs, .bools ys=>some (.bools (xs++ys))
 | .vals xs, .vals ys=>some (.vals (xs++ys))
 | .ints k xs, .fz ys=>match decEq k .i64 with
   | .isTrue _=>some (.ints k (xs++ys))
   | .isFalse _=>none
 | .vals xs, .sls ys=>some (.vals (xs++ys.map slV))
 |_,_=>none
def KR:List Au→List Au→Option (List Au)
 |[],[]=>some []
 |c::cs,d::ds=>match Agi c d,KR cs ds with
  |some e,some es=>some (e::es)
  |_,_=>none
 |_,_=>none
def Agj:Au→Bool
 | .vals _=>false
 |_=>true
def Ox (L:List Ak):List (Nat×Operand)→Option (List (Nat×Value))
 |[]=>some []
 |(i,x)::r=>match val none L x,Ox L r with
  |some v,some vs=>some ((i,v)::vs)
  |_,_=>none
def Be (a:Option Nat) (n cap:Nat):Value:= .slice (a.map λb=>⟨b,0,none⟩) n cap
def Np {σ:Type}:List (Mk σ)→(List (Option Nat×Nat)→Tree σ)→Tree σ
 |[],k=>k []
 | .row _ _::rs,k=> .freshS λa cap=>Np rs λacs=>k ((a,cap)::acs)
 | .obj _::rs,k=> .fresh λb=>Np rs λacs=>k ((some b,0)::acs)
def G5 {σ:Type} (r:Mk σ) (ac:Option Nat×Nat):Value:=
 match r with
 | .row _ cols=>bif EY cols then .slice (ac.1.map Acu) (lenC cols) ac.2 else Be ac.1 (lenC cols) ac.2
 | .obj _=> .pointer (ac.1.map λb=>⟨b,0,none⟩)
def ED {σ:Type} (r:Mk σ) (ac:Option Nat×Nat):Chunk σ:=
 match r with
 | .row t cols=>bif EY cols then .ro (ac.1.map Acu) (lenC cols) ac.2 cols else .row ac.1 t (lenC cols) ac.2 cols
 | .obj s=>match ac.1 with
   |some b=> .obj ⟨b,0,none⟩ s
   |none=> .dead
def AsC {σ:Type} (r:Mk σ) (ac:Option Nat×Nat):Prop:=
 match r with
 | .row _ _=>True
 | .obj _=>∃b,ac=(some b,0)
def Ha {σ:Type}:List (Mk σ)→List (Option Nat×Nat)→Prop
 |[],[]=>True
 |r::rs,ac::acs=>AsC r ac∧Ha rs acs
 |_,_=>False
def Aon (f:Int→Option Int) (i v:Int):Int→Option Int:= λx=>bif x==i then some v else f x
def Alf:Int→Option Int:= λ_=>none
def ZX (P:Program) (t:TypeId):Option (IntKind×IntKind):=
 match P.underlying t with
 |some (.map kt et)=>match P.underlying kt,P.underlying et with
  |some (.int kk),some (.int vk)=>some (kk,vk)
  |_,_=>none
 |_=>none
def Qq {σ:Type} (P:Program) (L:List Ak) (K:List (Chunk σ)) (e:TypeId) (x:Operand):Option (Option Nat×Nat×List Au):=
 match Dl none L x,val none L x with
 | .no,some (.slice none 0 0)=>match KG P 4 e with
   |some cols=>some (none,0,cols)
   |none=>none
 | .pt k .slice,some (.slice _ _ _)=>match K[k]? with
   |some (.row _ t n _ cols)=>bif iL t e then some (some k,n,cols) else none
   |_=>none
 |_,_=>none
def Agk {σ:Type} (L:List Ak) (K:List (Chunk σ)) (x:Operand):Option (Nat×Nat×List Au):=
 match val none L x,Dl none L x with
 |some (.slice _ _ _), .pt k .slice=>match K[k]? with
  |some (.row _ _ n _ cols)=>some (k,n,cols)
  |some (.ro _ n _ cols)=>some (k,n,cols)
  |_=>none
 |_,_=>none
def Gn (n:Nat):Au→Au
 | .ints k xs=> .ints k (xs.take n)
 | .bools xs=> .bools (xs.take n)
 | .vals xs=> .vals (xs.take n)
 | .fz xs=> .fz (xs.take n)
 | .sls xs=> .sls (xs.take n)
def Iy (n:Nat):Au→Au
 | .ints k xs=> .ints k (xs.drop n)
 | .bools xs=> .bools (xs.drop n)
 | .vals xs=> .vals (xs.drop n)
 | .fz xs=> .fz (xs.drop n)
 | .sls xs=> .sls (xs.drop n)
def NR (ra:Option Addr) (cap i sz:Nat):Option Addr:=bif iL cap i then ra else ra.map (·.add (i*sz))
def neK:Option Nat→Nat→Bool
 |some k,j=>!(iL k j)
 |none,_=>true
def KH {σ:Type} (K:List (Chunk σ)):Option Nat→List (Chunk σ)
 |some k=>K.set k .dead
 |none=>K
def lenOf (P:Program) (L:List Ak) (o:Oper):Option Value:=
 match o.op with
 | .call {callee:= .builtin .len,args:=_,argTypes:=_}=>bif o.op.operands.all (λx=>(val none L x).isSome) then
    match Jz P (execOp (rho none L) o) with
    |some (.value (.int k x))=>some (.int k x)
    |_=>none
   else none
 |_=>none
def Wu {σ:Type} (i:Nat):List Au→Option (List (Chunk σ))
 |[]=>some []
 | .sls xs::cs=>match Wu i cs with
   |some l=>some (.ro (slA (xs.getD i 0)) (U9 (xs.getD i 0)).length (slC (xs.getD i 0)) [.fz (U9 (xs.getD i 0))]::l)
   |none=>none
 |_=>none
def Wv:Nat→List Au→List Pr
 |_,[]=>[]
 |k,_::cs=> .pt k .slice::Wv (k+1) cs
def AmB {σ:Type} (P:Program) (t:TypeId) (cols:List Au) (i off k:Nat):Option (Value×Pr×List (Chunk σ)):=
 match LY P t,EP P t with
 |some true,some n=>bif jS (off+n) cols.length then (match Wu i ((cols.drop off).take n) with
  |some chs=>some (.agg (((cols.drop off).take n).map (·.at i)).toArray,Gy (Wv k ((cols.drop off).take n)),chs)
  |none=>none) else none
 |some false,_=>match cols[off]? with
  |some c=>(match Wu i [c] with
   |some chs=>some (c.at i, .pt k .slice,chs)
   |none=>none)
  |none=>none
 |_,_=>none
def EQ (x:Int×Int):Value:= .agg #[.int .i64 x.1, .int .i64 x.2]
def NS (P:Program) (t:TypeId):Bool:=
 match P.underlying t with
 |some (.int .i64)=>true
 |_=>false
def PU (P:Program) (kt:TypeId):Bool:=
 match P.underlying kt with
 |some (.struct fs)=>match fs.toList with
  |[f,g]=>(!P.stoodInHeld kt)&&((!(f.name=="_"))&&((!(g.name=="_"))&&(iL f.offset 0&&(iL g.offset 1&&(NS P f.type&&NS P g.type)))))
  |_=>false
 |_=>false
def KI (P:Program) (t:TypeId):Bool:=
 match P.underlying t with
 |some (.map kt et)=>PU P kt&&NS P et
 |_=>false
def NP (x y:Int×Int):Bool:=x.1==y.1&&x.2==y.2
def JM (l:List (Int×Int)) (x:Int×Int):Bool:=l.any (NP x)
def He (l:List (Int×Int)) (x:Int×Int):List (Int×Int):=bif JM l x then l else l++[x]
def La (l:List (Int×Int)) (x:Int×Int):List (Int×Int):=l.filter λy=>!NP x y
def PV:List (Int×Int)→Bool
 |[]=>true
 |_=>false
def Dq (l:List (Int×Int)) (n:Nat):Int×Int:=l.getD (n%l.length) (0,0)
def Ry:List (Int×Int)→Bool
 |[_]=>true
 |_=>false
def hdB (l:List (Int×Int)):Int×Int:=l.headD (0,0)
def Hf (l:List (Int×Int)) (n:Nat):List (Int×Int):=l.eraseIdx (n%l.length)
def AfR {σ:Type} (P:Program) (L:List Ak) (K:List (Chunk σ)) (o:Oper) (k:Value→Pr→List (Chunk σ)→Tree σ):Option (Tree σ):=
 match o.op with
 | .makeMap t none=>bif KI P t then some (.fresh λb=>k (.map (some b)) (.pt K.length .map) (K++[.bm b [] none])) else none
 | .mapUpdate t m i x=>match Dl none L m,val none L i,val none L x with
   | .pt c .map,some (.agg ⟨[.int .i64 a, .int .i64 s]⟩),some (.int .i64 (.ofNat 1))=>match K[c]? with
     |some (.bm b l none)=>bif KI P t then some (k undef .no (K.set c (.bm b (He l (a,s)) none))) else none
     |_=>none
   |_,_,_=>none
 | .call {callee:= .builtin .delete,args:=⟨[m,i]⟩,argTypes:=⟨t::_⟩}=>match Dl none L m,val none L i with
   | .pt c .map,some (.agg ⟨[.int .i64 a, .int .i64 s]⟩)=>match K[c]? with
     |some (.bm b l none)=>bif KI P t then some (k (.tuple #[]) .no (K.set c (.bm b (La l (a,s)) none))) else none
     |_=>none
   |_,_=>none
 | .call {callee:= .builtin .len,args:=⟨[m]⟩,argTypes:=⟨[t]⟩}=>match Dl none L m with
   | .pt c .map=>match K[c]? with
     |some (.bm _ l _)=>bif KI P t then some (k (.int .i64 (l.length:Int)) .no K) else none
     |_=>none
   |_=>none
 | .range t m=>match Dl none L m with
   | .pt c .map=>match K[c]? with
     |some (.bm b l none)=>bif KI P t then some (.fresh λi=>k (.pointer (some ⟨i,0,none⟩)) (.pt c .iter) (K.set c (.bm b l (some (i,[],l))))) else none
     |_=>none
   |_=>none
 | .next it false=>match Dl none L it with
   | .pt c .iter=>match K[c]? with
     |some (.bm b l (some (i,_,r)))=>some (.br (PV r) (k (.tuple #[.bool false]) .no K) (.pick λn=>k (.tuple #[.bool true,EQ (Dq r n), .int .i64 1]) .no (K.set c (.bm b l (some (i,[Dq r n],Hf r n))))))
     |_=>none
   |_=>none
 | .entry it=>match Dl none L it with
   | .pt c .iter=>match K[c]? with
     |some (.bm _ _ (some (_,cu,_)))=>some (.need (Ry cu=true) (k (.tuple #[EQ (hdB cu), .int .i64 1]) .no K))
     |_=>none
   |_=>none
 |_=>none
def UB (P:Program) (t:TypeId):Bool:=
 match P.underlying t with
 |some (.map kt _)=>NS P kt
 |_=>false
def NU:List (Int×Nat×Addr)→Int→Option (Nat×Addr)
 |[],_=>none
 |x::r,z=>bif x.1==z then some x.2 else NU r z
def Md {σ:Type}:Nat→List (Chunk σ)→Option (Nat×Addr)
 |_,[]=>none
 |k, .obj q _::_=>some (k,q)
 |k,_::r=>Md (k+1) r
def Wx:List Value→Option (LI)
 |[]=>some []
 | .int .i64 x::r=>match Wx r with
   |some xs=>some (x::xs)
   |none=>none
 |_=>none
def fnV (f:Nat) (q:Addr):Value:= .func (.func f) #[.pointer (some q)] #[]
def AfS {σ:Type} (P:Program) (L:List Ak) (K:List (Chunk σ)) (o:Oper) (k:Value→Pr→List (Chunk σ)→Tree σ):Option (Tree σ):=
 match o.op with
 | .makeMap t none=>bif UB P t then some (.fresh λb=>k (.map (some b)) (.pt K.length .map) (K++[.fm b []])) else none
 | .insert t m i x=>match Dl none L m,val none L i,val none L x with
   | .pt c .map,some (.int .i64 z),some (.func (.func f) ⟨[.pointer (some q)]⟩ ⟨[]⟩)=>match K[c]? with
     |some (.fm b l)=>bif UB P t&&(NU l z).isNone then some (k undef .no (K.set c (.fm b (l++[(z,f,q)])))) else none
     |_=>none
   |_,_,_=>none
 | .lookup t m i false=>match Dl none L m,val none L i with
   | .pt c .map,some (.int .i64 z)=>match K[c]? with
     |some (.fm _ l)=>match NU l z,Md 0 K with
      |some (f,q),some (j,q')=>bif UB P t then some (.need (q=q') (k (fnV f q) (.box (.pt j .obj)) K)) else none
      |_,_=>none
     |_=>none
   |_,_=>none
 | .slice t x none none none=>match P.underlying t,Dl none L x,val none L x with
   |some (.array n e), .pt c (.cell off),some (.pointer (some a))=>match EP P e,K[c]? with
    |some _,some (.cells _ _ _)=>some (k (.slice (some a) n n) (.pt c (.arr off)) K)
    |_,_=>none
   |_,_,_=>none
 | .indexAddr t x ix=>match P.underlying t,Dl none L x,val none L x,val none L ix with
   |some (.slice e), .pt c (.arr off),some (.slice (some a) n _),some (.int _ i)=>match EP P e,K[c]? with
    |some sz,some (.cells _ _ _)=>some (.need (0≤i∧i<(n:Int)) (k (.pointer (some (a.add (i.toNat*sz)))) (.pt c (.cell (off+i.toNat*sz))) K))
    |_,_=>none
   |_,_,_,_=>none
 | .index t x ix=>match P.underlying t,val none L x,val none L ix with
   |some (.array n e),some (.agg ⟨cs⟩),some (.int _ i)=>match Wx cs,EP P e with
    |some xs,some 1=>bif NS P e&&iL n xs.length then some (.need (0≤i∧i<(n:Int)) (k (.int .i64 (xs.getD i.toNat 0)) .no K)) else none
    |_,_=>none
   |_,_,_=>none
 |_=>none
def ZY {σ:Type} (P:Program) (T:List (Nat×Entry σ)) (ext:Nat→List (Value×Pr)→List (Chunk σ)→Option (Tree σ)) (L:List Ak) (K:List (Chunk σ)) (o:Oper) (k:Value→Pr→List (Chunk σ)→Tree σ):Option (Tree σ):=
 match o.op with
 | .makeMap t none=>match ZX P t with
   |some (kk,vk)=>some (.fresh λb=>k (.map (some b)) (.pt K.length .map) (K++[.map b kk vk Alf]))
   |none=>none
 | .mapUpdate t m i x=>match Dl none L m,val none L i,val none L x,ZX P t with
   | .pt c .map,some (.int ki iv),some (.int kx xv),some (kk0,vk0)=>match K[c]? with
     |some (.map b kk vk f)=>match decEq ki kk,decEq kx vk,decEq kk0 kk with
      | .isTrue _, .isTrue _, .isTrue _=>some (k undef .no (K.set c (.map b kk vk (Aon f iv xv))))
      |_,_,_=>none
     |_=>none
   |_,_,_,_=>none
 | .call {callee:= .builtin .clear,args:=⟨[m]⟩,argTypes:=⟨[t]⟩}=>match Dl none L m,ZX P t with
   | .pt c .map,some _=>match K[c]? with
     |some (.map b kk vk _)=>some (k (.tuple #[]) .no (K.set c (.map b kk vk Alf)))
     |_=>none
   |_,_=>none
 | .box t x=>match val none L x with
   |some v=>bif J8 v.cells.toList then some (.fresh λb=>k (.pointer (some ⟨b,0,none⟩)) (.pt K.length (.cell 0)) (K++[.cells b t (Jg v (Dl none L x))])) else none
   |none=>none
 | .alloc t=>match P.info? t with
   |some i=>match i.zero with
    |some v=>bif J8 v.cells.toList then some (.fresh λb=>k (.pointer (some ⟨b,0,none⟩)) (.pt K.length (.cell 0)) (K++[.cells b t (Jg v .no)])) else none
    |none=>none
   |none=>none
 | .store t x y=>match Dl none L x,val none L y,EP P t with
   | .pt c (.cell off),some v,some n=>match K[c]? with
     |some (.cells b t0 cs)=>
      bif iL v.cells.size n&&jS (off+n) cs.length&&J8 v.cells.toList then some (k undef .no (K.set c (.cells b t0 (FP cs off (Jg v (Dl none L y)))))) else none
     |_=>none
   | .pt c (.elem i off),some v,some n=>match K[c]? with
     |some (.row a t0 m cap cols)=>
      bif iL v.cells.size n&&jS 1 n then match JL i off cols v.cells.toList with
       |some cols'=>some (k undef .no (K.set c (.row a t0 m cap cols')))
       |none=>none
      else none
     |_=>none
   |_,_,_=>none
 | .buildSlice t len parts=>match P.underlying t with
   |some (.slice e)=>match EP P e,KG P 4 e,P.info? e,Ox L parts.toList with
    |some sz,some cols,some ei,some vals=>match ei.zero with
     |some z=>match Instr.fill (λi=>some (i*sz,sz)) ((Array.range (len*sz)).map ((bif iL (len*sz) 0 then #[] else z.cells)[· %(bif iL (len*sz) 0 then #[] else z.cells).size]!)) vals with
      |some cells=>match Qo len cols cells.toList with
       |some cols'=>bif iL sz cols.length&&jS 1 sz&&jS (len*sz) 16777216 then
         some (.fresh λb=>k (Be (some b) len len) (.pt K.length .slice) (K++[.row (some b) e len len cols'])) else none
       |none=>none
      |none=>none
     |none=>none
    |_,_,_,_=>none
   |_=>none
 | .makeSlice t l c=>match P.underlying t,val none L l,val none L c with
   |some (.slice e),some (.int _ li),some (.int _ ci)=>match P.info? e,KG P 4 e with
    |some ei,some cols=>match ei.zero with
     |some z=>match pushRow cols z.cells.toList with
      |some (cols1,[])=>match Qp li.toNat cols1 with
       |some cols'=>bif iL ei.size cols.length&&jS 1 ei.size&&jS 1 ei.bytes&&iL z.cells.size ei.size then
         some (.need (0≤li∧li≤ci∧(ei.bytes:Int)*ci≤140737488355328) (.fresh λb=>k (Be (some b) li.toNat ci.toNat) (.pt K.length .slice) (K++[.row (some b) e li.toNat ci.toNat cols']))) else none
       |none=>none
      |_=>none
     |none=>none
    |_,_=>none
   |_,_,_=>none
 | .call {callee:= .builtin .append,args:=⟨[s,x]⟩,argTypes:=⟨[t,t']⟩}=>match P.underlying t with
   |some (.slice e)=>match P.info? e,Qq P L K e s,Agk L K x with
    |some ei,some (kd,n,cols),some (ks,m,cols2)=>match ei.zero,KR cols cols2 with
     |some z,some cols'=>bif iL t t'&&neK kd ks&&iL ei.size cols.length&&iL ei.size cols2.length&&jS 1 ei.size&&jS 1 ei.bytes&&iL z.cells.size ei.size&&cols2.all Agj then
       some (.need ((n+m)*ei.bytes≤140737488355328) (.freshS λa cap=>k (Be a (n+m) cap) (.pt K.length .slice) (KH K kd++[.row a e (n+m) cap cols']))) else none
     |_,_=>none
    |_,_,_=>none
   |_=>none
 | .load t x=>match Dl none L x with
   | .pt c (.elem i off)=>match K[c]? with
     |some (.ro _ _ _ cols)=>match AmB P t cols i off K.length with
      |some (v,p,chs)=>some (k v p (K++chs))
      |none=>none
     |_=>none
   |_=>none
 | .slice t x lo hi mx=>match lo,hi,mx with
   |none,some h,none=>match P.underlying t,Dl none L x,val none L x,val none L h with
    |some (.slice e), .pt c .slice,some (.slice _ _ _),some (.int _ i)=>match EP P e,K[c]? with
     |some _,some (.row ra te m cap cols)=>some (.need (0≤i∧i≤(m:Int)) (k (.slice (ra.map λb=>⟨b,0,none⟩) i.toNat cap) (.pt K.length .slice) (K.set c .dead++[.row ra te i.toNat cap (cols.map (Gn i.toNat))])))
     |some _,some (.ro ra m cap cols)=>some (.need (0≤i∧i≤(m:Int)) (k (.slice ra i.toNat cap) (.pt K.length .slice) (K++[.ro ra i.toNat cap (cols.map (Gn i.toNat))])))
     |_,_=>none
    |_,_,_,_=>none
   |some l,none,none=>match P.underlying t,Dl none L x,val none L x,val none L l with
    |some (.slice e), .pt c .slice,some (.slice _ _ _),some (.int _ i)=>match EP P e,K[c]? with
     |some sz,some (.ro ra m cap cols)=>bif iL sz cols.length then some (.need (0≤i∧i≤(m:Int)) (k (.slice (NR ra cap i.toNat sz) (m-i.toNat) (cap-i.toNat)) (.pt K.length .slice) (K++[.ro (NR ra cap i.toNat sz) (m-i.toNat) (cap-i.toNat) (cols.map (Iy i.toNat))]))) else none
     |_,_=>none
    |_,_,_,_=>none
   |_,_,_=>none
 |_=>match callOf P none L K o with
  |some (f,args,prs)=>bif iL f Ou then none else match Wq T f with
   |some e=>match e args with
    |some c=>match KF args,Gz prs with
     |some (q,st),[j]=>some (.bind c.x λa=>needs (c.r a).pre (Np (c.r a).rows λacs=>k ((c.r a).out (jA G5 (c.r a).rows acs)) ((c.r a).outp K.length) (K.set j (.obj q ((c.r a).new.getD st))++jA ED (c.r a).rows acs)))
     |none,[]=>some (.bind c.x λa=>needs (c.r a).pre (Np (c.r a).rows λacs=>k ((c.r a).out (jA G5 (c.r a).rows acs)) ((c.r a).outp K.length) (K++jA ED (c.r a).rows acs)))
     |_,_=>none
    |none=>match ext f (lI (args.map (·.1)) prs) K with
     |some t=>some (JK t k)
     |none=>none
   |none=>match ext f (lI (args.map (·.1)) prs) K with
    |some t=>some (JK t k)
    |none=>none
  |none=>match lenOf P L o with
   |some v=>some (k v .no K)
   |none=>match yieldOf none L o with
    |some (args,prs)=>match ext Ou (lI args prs) K with
     |some t=>some (JK t k)
     |none=>none
    |none=>none
def Jh {σ:Type} (P:Program) (T:List (Nat×Entry σ)) (ext:Nat→List (Value×Pr)→List (Chunk σ)→Option (Tree σ)) (L:List Ak) (K:List (Chunk σ)) (o:Oper) (k:Value→Pr→List (Chunk σ)→Tree σ):Option (Tree σ):=
 match AfR P L K o k with
 |some t=>some t
 |none=>match AfS P L K o k with
  |some t=>some t
  |none=>ZY P T ext L K o k
def known0 (c:Nat) (b:Bool):List Ak→List Ak
 |[]=>[]
 |e::r=>match e.g with
  |some (c',b')=>bif iL c' c then (bif b'==b then ⟨e.s,none,e.v,e.p⟩::known0 c b r else known0 c b r) else e::known0 c b r
  |none=>bif iL e.s c then ⟨c,none, .bool b, .no⟩::known0 c b r else e::known0 c b r
def known (c:Nat) (b:Bool) (L:List Ak):List Ak:=⟨1000000+c,none,undef, .no⟩::known0 c b L
def Nq {σ:Type} (mk t b:Bool) (A S:Tree σ):Tree σ:=bif mk then (bif t==b then A else S) else (bif b then .br t A S else .br t S A)
def Iq (o:Oper):Oper:={o with op:= .move (.const undef),dst:=none}
def Hy (ops:Array Oper) (m:Nat):Array Oper:=
 match ops[m]? with
 |some o=>ops.setIfInBounds m (Iq o)
 |none=>ops
def lastB (ops:Array Oper) (m:Nat):Bool:=
 match ops[m]? with
 |some om=>iL ops.size (m+1)&&om.guard.isNone&&(jQ m).all (λj=>om.after.any λe=>Region.binds .any e&&iL e.on j)&&
   ops.all (λo=>match o.guard with|some (j,_)=>!(iL j m)|none=>true)&&
   (jQ ops.size).all (λi=>((ops[i]?).map (·.after.all λe=>!Region.binds .any e||mF e.on i)).getD false)&&oF .any (Hy ops m)
 |none=>false
def EJ (ops:Array Oper) (m:Nat):Array Oper:=ops.mapIdx λi o=>bif jS m i then Iq o else o
def EZ (ops:Array Oper) (i:Nat):List Nat:=
 match ops[i]? with
 |some o=>(o.after.toList.filter λe=>Region.binds .any e).map (·.on)
 |none=>[]
def sweep (ops:Array Oper):Nat→List Nat→List Nat
 |0,S=>S
 |j+1,S=>sweep ops j (bif S.any (iL j) then EZ ops j++S else S)
def reached (ops:Array Oper) (m:Nat):List Nat:=sweep ops m (EZ ops m)
def ZZ (ops:Array Oper) (u m:Nat):Bool:=
 mF m ops.size&&((jQ m).all (λi=>iL i u||(reached ops m).any (iL i))&&
 ((jQ ops.size).all (λi=>jS i m||(EZ ops i).any (iL (i-1)))&&
 ((iL u ops.size||((EZ ops (m+1)).any (iL u)&&mF u m))&&
 (ops.all (λo=>match o.guard with|some (j,_)=>mF j m|none=>true)&&
 ((jQ ops.size).all (λi=>(mF i m&&!(iL i u))||((ops[i]?).map (·.guard.isNone)).getD false)&&
 ((jQ ops.size).all (λi=>((ops[i]?).map (·.after.all λe=>!Region.binds .any e||mF e.on i)).getD false)&&oF .any (EJ ops m)))))))
def Rz {σ:Type} (P:Program) (T:List (Nat×Entry σ)) (n:Nat) (ops:Array Oper) (K:List (Chunk σ)):Nat→List Oper→List Ak→Option Nat
 |_,[],_=>none
 |i,o::r,L=>match gs n ops o with
  |none=>none
  |some g=>match Hw P T g L K o with
   |none=>some i
   |some (v,p,_)=>Rz P T n ops K (i+1) r (Dw o.dst g v p L)
def AqY:Option Nat→Nat→Bool
 |some m,i=>iL m i
 |none,_=>false
def Nr (ops:Array Oper) (m:Nat):Nat:=((jQ m).find? λi=>!(reached ops m).any (iL i)).getD ops.size
def Jy (i:Nat) (l:List Nat):Bool:=l.any (iL i)
def J9 (j:Nat) (l:List Nat):List Nat:=l.filter λx=>!(iL x j)
def tmpsOf:List Operand→List Nat
 | .tmp t::r=>t::tmpsOf r
 |_::r=>tmpsOf r
 |[]=>[]
def Aoo (ops:Array Oper) (o:Oper):List Nat:=tmpsOf o.op.operands.toList++(match Wp ops o with|some (some (c,_))=>[c]|_=>[])
def Ii (ops:Array Oper) (o:Oper):List Nat:=Aoo ops o++(Aoo ops o).map (1000000+ ·)
def gIn (rd:List Nat):Option (Nat×Bool)→Bool
 |none=>true
 |some (c,_)=>Jy c rd
def keepR (rd:List Nat):List Ak→List Ak
 |[]=>[]
 |e::r=>bif Jy e.s rd&&gIn rd e.g then e::keepR rd r else keepR rd r
def Me {σ:Type}:Chunk σ→Chunk σ
 | .roc b t vs=> .roc b t vs
 | .ro a n cap cols=>bif EY cols then .dead else .ro a n cap cols
 |_=> .dead
def Qr {σ:Type} (K:List (Chunk σ)):List (Chunk σ):=K.map Me
def RD {σ:Type}:Chunk σ→Chunk σ
 | .roc b t vs=> .roc b t vs
 | .ro a n cap cols=>bif EY cols then .dead else .ro a n cap cols
 | .cells b t cs=> .cells b t cs
 |_=> .dead
def frs {σ:Type} (K:List (Chunk σ)):List (Chunk σ):=K.map RD
def Acx (o:Oper):Bool:=
 match o.op with
 | .call _=>true
 | .store _ _ _=>true
 | .alloc _=>true
 | .box _ _=>true
 | .makeMap _ _=>true
 | .mapUpdate _ _ _ _=>true
 | .buildSlice _ _ _=>true
 | .makeSlice _ _ _=>true
 | .slice _ _ _ _ _=>true
 |_=>false
def Pi (ops:Array Oper) (j:Nat):Bool:=
 match ops[j]? with
 |some o=>Acx o
 |none=>false
def storeAt (ops:Array Oper) (j:Nat):Bool:=
 match ops[j]? with
 |some o=>(match o.op with| .store _ _ _=>true|_=>false)
 |none=>false
def Alg (g:Option (Nat×Bool)) (L:List Ak):Bool:=
 match g with
 |some (c,b)=>(match look L c with
  |some ⟨_,none, .bool t,_⟩=>marked c L&&(t==!b)
  |some ⟨_,none, .tuple _,_⟩=>true
  |_=>false)
 |none=>false
def Wy (g:Option (Nat×Bool)) (L L':List Ak) (p:Prop):Prop:=
 match g with
 |none=>p
 |some (c,b)=>match look L' c with
  |some _=>p
  |none=>match look L c with
   |some ⟨_,some _, .bool t,_⟩=>t=b→p
   |_=>p
def neD (d:Nat):Option Nat→Bool
 |some d'=>!(iL d d')
 |none=>true
def wideRow (ops:Array Oper) (i d:Nat):Bool:=
 (jQ ops.size).all λj=>match ops[j]? with
   |some o=>(!(Jy d (Ii ops o))||(Jy i (EZ ops j)&&!(iL i j)))&&(iL i j||neD d o.dst)
   |none=>true
def Oy (ops:Array Oper):Bool:=
 (jQ ops.size).all (λi=>((ops[i]?).map (·.after.all λe=>!Region.binds .any e||mF e.on i)).getD false)&&
 (jQ ops.size).all λi=>match ops[i]? with
   |some o=>(match o.dst with|some d=>wideRow ops i d|none=>true)
   |none=>true
def Alh {σ:Type} (P:Program) (T:List (Nat×Entry σ)) (n:Nat) (ops:Array Oper) (nx:Bool) (Q:List Nat) (L:List Ak) (K:List (Chunk σ)) (i:Nat):Option (Oper×Option (Nat×Bool)×Value×Pr×List Prop):=
 match ops[i]? with
 |none=>none
 |some o=>bif (EZ ops i).any (λx=>Jy x Q) then none else
  match gs n ops o with
  |none=>none
  |some g=>bif Alg g L then some (o,none,undef, .no,[]) else
   bif Acx o then none else
   match Hw P T g (keepR (Ii ops o) L) (Qr K) o with
   |some (v,p,ps)=>some (o,g,v,p,ps.map (Wy g L (keepR (Ii ops o) L)))
   |none=>bif Q.all (λj=>!(Pi ops j)||Jy i (reached ops j)) then
     (match Hw P T g (keepR (Ii ops o) L) K o with
     |some (v,p,ps)=>some (o,g,v,p,ps.map (Wy g L (keepR (Ii ops o) L)))
     |none=>none) else
    bif nx&&Q.all (λj=>!(storeAt ops j)||Jy i (reached ops j)) then
     (match Hw P T g (keepR (Ii ops o) L) (frs K) o with
     |some (v,p,ps)=>some (o,g,v,p,ps.map (Wy g L (keepR (Ii ops o) L)))
     |none=>none) else none
def UC {σ:Type} (P:Program) (T:List (Nat×Entry σ)) (n:Nat) (ops:Array Oper) (nx:Bool) (Q:List Nat) (L:List Ak) (K:List (Chunk σ)):List Nat→Option (Nat×Oper×Option (Nat×Bool)×Value×Pr×List Prop)
 |[]=>none
 |i::r=>match Alh P T n ops nx Q L K i with
  |some x=>some (i,x)
  |none=>UC P T n ops nx Q L K r
def Aaa (ops:Array Oper) (Q:List Nat):List Nat:=Q.filter λj=>!((EZ ops j).any λx=>Jy x Q)
def Aop {σ:Type} (z:Tree σ):List (Tree σ)→Tree σ
 |[]=>z
 |[t]=>t
 |t::r=> .two t (Aop z r)
def markL (n:Nat):List Nat→List Ak→List Ak
 |[],L=>L
 |x::r,L=>bif jS n 1000000 then ⟨1000000+x,none,undef, .no⟩::markL n r L else markL n r L
def En:Nat→List (Value×Pr)→List Ak
 |_,[]=>[]
 |i,(v,p)::r=>⟨i,none,v,p⟩::En (i+1) r
def MB:Operand→List Ak→Bool
 | .tmp x,L=>marked x L
 | .const _,_=>true
 |_,_=>false
def Ara (L:List Ak) (c:Call):Bool:=
 match c.callee,c.args with
 | .builtin .len,⟨[.tmp t]⟩=>(match look L t with
   |some ⟨_,_,_, .pt _ (.arr _)⟩=>true
   |_=>false)
 |_,_=>false
def Agm (L:List Ak) (o:Oper):Bool:=
 match o.op with
 | .pick (.tmp c) a b=>marked c L&&(match look L c with
   |some ⟨_,_, .bool t,_⟩=>(match t with|true=>(match a with| .const (.bool _)=>true| .tmp x=>marked x L|_=>false)|false=>(match b with| .const (.bool _)=>true| .tmp x=>marked x L|_=>false))
   |_=>false)
 | .move (.tmp x)=>marked x L
 | .assign (.tmp x)=>marked x L
 | .move (.const _)=>true
 | .assign (.const _)=>true
 | .binOp _ _ x y _=>MB x L&&MB y L
 | .convert _ _ x=>MB x L
 | .unOp _ _ x=>MB x L
 | .call c=>(c.args.all λx=>MB x L)||Ara L c
 |_=>false
def unmark (o:Oper) (L:List Ak):List Ak:=
 match o.dst with
 |some d=>bif marked d L then del (1000000+d) L else L
 |none=>L
def rounds (I:List Nat):Bool:=I.any (iL 2999997)
def hooked (I:List Nat):Bool:=I.any (iL 2999996)
def Akg (I:List Nat):Bool:=I.any (iL 2999999)
def fixMark (n:Nat) (o:Oper) (L L':List Ak):List Ak:=
 match o.dst,o.guard with
 |some d,none=>bif jS n 1000000&&Agm L o then ⟨1000000+d,none,undef, .no⟩::L' else bif marked d L' then del (1000000+d) L' else L'
 |_,_=>L'
def Aoq {σ:Type} (P:Program) (T:List (Nat×Entry σ)) (ext:Nat→List (Value×Pr)→List (Chunk σ)→Option (Tree σ)) (n:Nat) (ops:Array Oper) (z:Tree σ) (go:List Nat→List Ak→List (Chunk σ)→Tree σ) (Q:List Nat) (L:List Ak) (K:List (Chunk σ)) (j:Nat):Tree σ:=
 match ops[j]? with
 |none=>z
 |some o=>match gs n ops o with
  |none=>z
  |some g=>match Acx o with
   |false=>match Hw P T g (keepR (Ii ops o) L) K o with
    |some (v,p,ps)=>needs ps (go (J9 j Q) (fixMark n o L (Dw o.dst g v p L)) K)
    |none=>match g,o.op with
     |none, .load _ _=>(match Jh P T ext (keepR (Ii ops o) L) K o (λv pr K'=>go (J9 j Q) (unmark o (Dw o.dst none v pr L)) K') with
      |some t=>t
      |none=>z)
     |some (c,b), .load _ _=>match look L c with
      |some ⟨_,none, .bool t,_⟩=>bif jS n 1000000 then
        Nq (marked c L) t b (match Jh P T ext (keepR (Ii ops o) (known c b L)) K o (λv pr K'=>go (J9 j Q) (unmark o (Dw o.dst none v pr (known c b L))) K') with
         |some A=>A
         |none=>z) (go (J9 j Q) (Dw o.dst none undef .no (known c (!b) L)) K) else z
      |_=>z
     |_,_=>z
   |true=>match g with
    |none=>match Jh P T ext (keepR (Ii ops o) L) K o (λv pr K'=>go (J9 j Q) (unmark o (Dw o.dst none v pr L)) K') with
     |some t=>t
     |none=>z
    |some (c,b)=>match look L c with
     |some ⟨_,none, .bool t,_⟩=>bif jS n 1000000 then
       Nq (marked c L) t b (match Jh P T ext (keepR (Ii ops o) (known c b L)) K o (λv pr K'=>go (J9 j Q) (unmark o (Dw o.dst none v pr (known c b L))) K') with
        |some A=>A
        |none=>z) (go (J9 j Q) (Dw o.dst none undef .no (known c (!b) L)) K) else z
     |_=>match Hw P T g (keepR (Ii ops o) L) K o with
      |some (v,p,ps)=>needs ps (go (J9 j Q) (fixMark n o L (Dw o.dst g v p L)) K)
      |none=>z
def wide {σ:Type} (P:Program) (T:List (Nat×Entry σ)) (ext:Nat→List (Value×Pr)→List (Chunk σ)→Option (Tree σ)) (n:Nat) (ops:Array Oper) (nx:Bool) (st:List Nat→List Ak→List (Chunk σ)→Tree σ) (kont:List Ak→List (Chunk σ)→Tree σ):
    Nat→List Nat→List Ak→List (Chunk σ)→Tree σ
 |0,Q,L,K=>st Q L K
 |m+1,Q,L,K=>match Q with
  |[]=>kont L K
  |_::_=>match UC P T n ops nx Q L K Q with
   |some (i,o,g,v,p,ps)=>needs ps (wide P T ext n ops nx st kont m (J9 i Q) (fixMark n o L (Dw o.dst g v p L)) K)
   |none=>Aop (st Q L K) ((Aaa ops Q).map (Aoq P T ext n ops (st Q L K) (wide P T ext n ops nx st kont m) Q L K))
def AfT (p:List Nat) (i:Nat):Nat:=1000000+1000*p.foldl (λa d=>4*a+d+1) 0+i
def Ali (p:List Nat):Nat:=p.foldl (λa d=>4*a+d+1) 0
def Qs (I:List Nat) (b:Nat):List Ak→List Ak
 |[]=>[]
 |e::r=>bif I.any (iL (b+e.s)) then e::Qs I b r else Qs I b r
def Alj (I:List Nat) (p:List Nat) (L:List Ak):List Ak:=
 bif I.any (λx=>iL (x/1000000000) (1+Ali p%9973)) then Qs I (1000000000*(1+Ali p%9973)) L else L
def Ap7 (o:Oper):Bool:=
 match o.op with
 | .call {callee:= .value _, .. }=>true
 | .call {callee:= .invoke _ _, .. }=>true
 |_=>false
def qB {α:Type} (I:List Nat) (g:Option (Nat×Bool)) (o:Oper) (x:Option α):Option α:=bif I.any (iL 2999998)&&Ap7 o&&g.isNone then none else x
theorem ApW {α:Type} {I:List Nat} {g:Option (Nat×Bool)} {o:Oper} {x:Option α} {y:α} (h:qB I g o x=some y):x=some y:=by
 unfold qB at h
 cases hb:(I.any (iL 2999998)&&Ap7 o&&g.isNone) with
 |true=>rw [hb] at h;cases h
 |false=>rw [hb] at h;exact h
def Ey {σ:Type} (P:Program) (T:List (Nat×Entry σ)) (Y:List (Value×Pr)→List (Chunk σ)→Option (Tree σ)) (I:List Nat):Nat→Code→List ResultVar→Nat→List Ab→List Ak→List (Chunk σ)→Tree σ
 |0,_,_,_,td,L,K=> .stuck td L K
 |f+1,B,rs,n,td,L,K=>
  let ext:Nat→List (Value×Pr)→List (Chunk σ)→Option (Tree σ):= λg args K=>
   bif I.any (iL g)&&mF g 1000000 then match P.funcs[g]? with
    |some fn=>match fn.body with
     |some B'=>bif jS args.length fn.ntmps then some (Ey P T Y I f B' fn.results.toList fn.ntmps [.code []] (En 0 args) K) else none
     |none=>none
    |none=>none
   else bif iL g Ou&&hooked I then Y args K else none
  let finish:Tree σ:=match GM P L K rs with
   |some [(v,p)]=> .ret v p K
   |some vs=> .ret (.tuple (vs.map (·.1)).toArray) (Gy (vs.map (·.2))) K
   |none=> .stuck td L K
  let lastT:Array Oper→Tree σ:= λops=>match ops[ops.size-1]? with
   |some om=>bif lastB ops (ops.size-1) then (match gs n ops om with
     |some none=>match Yy P T n (Hy ops (ops.size-1)) K (Hy ops (ops.size-1)).toList L with
      |some (L',ps)=>match Jh P T ext L' K om (λv pr K'=>Ey P T Y I f B rs n (td.drop 1) (Dw om.dst none v pr L') K') with
       |some t=>needs ps t
       |none=> .stuck td L K
      |none=> .stuck td L K
     |_=> .stuck td L K) else .stuck td L K
   |none=> .stuck td L K
  let wideT:List Nat→Array Oper→Tree σ:= λp ops=>bif Oy ops then
      wide P T ext n ops ((I.all λx=>jS 1000000 x)&&!(hooked I)) (λQ L K=> .need False (.stuck (.lst p Q::td.drop 1) L K)) (λL' K'=>Ey P T Y I f B rs n (td.drop 1) L' K') (ops.size+1) (jQ ops.size) L K else .stuck td L K
  let tailT:List Nat→Array Oper→Tree σ:= λp ops=>match Rz P T n ops K 0 ops.toList L with
   |some m=>bif ZZ ops (Nr ops m) m then (match Yy P T n (EJ ops m) K (EJ ops m).toList L with
     |some (L',ps)=>
      let A:Unit→Tree σ:= λ_=>Ey P T Y I f B rs n (.lst p (jK m (ops.size-m))::td.drop 1) L' K
      bif iL (Nr ops m) ops.size then needs ps (A ()) else match (ops[Nr ops m]?).bind (·.dst) with
       |some d=>needs ps (.two (A ()) (Ey P T Y I f B rs n (.lst p (m::Nr ops m::jK (m+1) (ops.size-(m+1)))::td.drop 1) (del d L') K))
       |none=> .stuck td L K
     |none=>wideT p ops) else wideT p ops
   |none=>wideT p ops
  match td with
  |[]=>finish
  | .code p::k=>match sub B p with
    | .skip=>Ey P T Y I f B rs n k L K
    | .seq _ _=>Ey P T Y I f B rs n (.code (0::p):: .code (1::p)::k) L K
    | .cond c _ _=>match val none L c with
      |some (.bool t)=>match MB c L with
       |true=>match t with
        |true=>Ey P T Y I f B rs n (.code (0::p)::k) L K
        |false=>Ey P T Y I f B rs n (.code (1::p)::k) L K
       |false=> .br t (Ey P T Y I f B rs n (.code (0::p)::k) L K) (Ey P T Y I f B rs n (.code (1::p)::k) L K)
      |_=> .stuck td L K
    | .block id _=>Ey P T Y I f B rs n (.code (0::p):: .blk id::k) L K
    | .exit id=>match Jo id k with
      |some k'=>Ey P T Y I f B rs n k' L K
      |none=> .stuck td L K
    | .ret=>finish
    | .region _ _ false=>Ey P T Y I f B rs n (.ops p 0::k) L K
    | .region _ ops true=>match I.any (iL (AfT p 900)) with
      |true=> .stuck td L K
      |false=>match (bif oF .any ops&&!(rounds I) then Yy P T n ops K ops.toList L else none) with
       |some (L',ps)=>needs ps (Ey P T Y I f B rs n k L' K)
       |none=>bif lastB ops (ops.size-1)&&AqY (Rz P T n ops K 0 ops.toList L) (ops.size-1) then lastT ops else tailT p ops
    | .scope _=>Ey P T Y I f B rs n (.code (0::p):: .scp p::k) L K
    | .label _=>Ey P T Y I f B rs n k L K
    | .loop _=>match Akg I with
      |true=>Ey P T Y I f B rs n (.code (0::p):: .again p::k) L K
      |false=> .stuck td (Alj I p L) K
    |_=> .stuck td L K
  | .blk _::k=>Ey P T Y I f B rs n k L K
  | .raw _::_=> .stuck td L K
  | .scp _::k=>Ey P T Y I f B rs n k L K
  | .again p::k=>match Akg I with
    |true=>Ey P T Y I f B rs n (.code (0::p):: .again p::k) L K
    |false=> .stuck td L K
  | .lst _ []::k=>Ey P T Y I f B rs n k L K
  | .lst p (i::is)::k=>match (opsOf (sub B p))[i]? with
    |none=> .stuck td L K
    |some o=>match gs n (opsOf (sub B p)) o with
     |none=> .stuck td L K
     |some g=>match Hw P T g L K o with
      |some (v,pr,ps)=>needs ps (Ey P T Y I f B rs n (.lst p is::k) (fixMark n o L (Dw o.dst g v pr L)) K)
      |none=>match g with
       |some _=> .stuck td L K
       |none=>match Jh P T ext L K o (λv pr K'=>Ey P T Y I f B rs n (.lst p is::k) (unmark o (Dw o.dst none v pr L)) K') with
        |some t=>t
        |none=> .stuck td L K
  | .ops p i::k=>match I.any (iL (AfT p i)) with
    |true=> .stuck td L K
    |false=>match (opsOf (sub B p))[i]? with
     |none=>Ey P T Y I f B rs n k L K
     |some o=>match gs n (opsOf (sub B p)) o with
      |none=> .stuck td L K
      |some g=>match qB I g o (Hw P T g L K o) with
       |some (v,pr,ps)=>needs ps (Ey P T Y I f B rs n (.ops p (i+1)::k) (fixMark n o L (Dw o.dst g v pr L)) K)
       |none=>match g with
        |some (c,b)=>match look L c with
         |some ⟨_,none, .bool t,_⟩=>bif jS n 1000000 then
           Nq (marked c L) t b (match Jh P T ext (known c b L) K o (λv pr K'=>Ey P T Y I f B rs n (.ops p (i+1)::k) (unmark o (Dw o.dst none v pr (known c b L))) K') with
            |some A=>A
            |none=> .stuck td L K) (Ey P T Y I f B rs n (.ops p (i+1)::k) (Dw o.dst none undef .no (known c (!b) L)) K) else .stuck td L K
         |_=> .stuck td L K
        |none=>match Jh P T ext L K o (λv pr K'=>Ey P T Y I f B rs n (.ops p (i+1)::k) (unmark o (Dw o.dst none v pr L)) K') with
         |some t=>t
         |none=> .stuck td L K
@[reducible] def run {σ:Type} (P:Program) (T:List (Nat×Entry σ)) (I:List Nat):=Ey P T (λ_ _=>none) I
def Tree.holds {σ:Type} (R:Value→Pr→List (Chunk σ)→Prop) (S:List Ab→List Ak→List (Chunk σ)→Prop):Tree σ→Prop
 | .ret v p K=>R v p K
 | .br t a b=>(t=true→a.holds R S)∧(t=false→b.holds R S)
 | .need p t=>p∧(p→t.holds R S)
 | .bind x t=>∀a,a=x→(t a).holds R S
 | .fresh t=>∀b,(t b).holds R S
 | .freshS t=>∀a c,(t a c).holds R S
 | .pick t=>∀b,(t b).holds R S
 | .two a b=>a.holds R S∧b.holds R S
 | .stuck td L K=>S td L K
end
section
open Go.RowKit
section
variable {σ:Type}
def DJ:Chunk σ→Value→PK→Prop
 | .dead,_,_=>True
 | .cells b _ _,v, .cell off=>v= .pointer (some ⟨b,off,none⟩)
 | .cells b _ _,v, .arr off=>∃n m,v= .slice (some ⟨b,off,none⟩) n m
 | .roc b _ _,v, .cell off=>v= .pointer (some ⟨b,off,none⟩)
 | .row a _ n cap _,v, .slice=>v= .slice (a.map λb=>⟨b,0,none⟩) n cap
 | .row a _ n _ cols,v, .elem i off=>i<n∧∃b,a=some b∧v= .pointer (some ((⟨b,0,none⟩:Addr).add (i*cols.length+off)))
 | .ro a n cap _,v, .slice=>v= .slice a n cap
 | .ro a n _ cols,v, .elem i off=>i<n∧∃b,a=some b∧v= .pointer (some (b.add (i*cols.length+off)))
 | .obj p _,v, .obj=>v= .pointer (some p)
 | .map b _ _ _,v, .map=>v= .map (some b)
 | .bm b _ _,v, .map=>v= .map (some b)
 | .fm b _,v, .map=>v= .map (some b)
 | .bm _ _ (some (i,_)),v, .iter=>v= .pointer (some ⟨i,0,none⟩)
 |_,_,_=>False
mutual
def BH (K:List (Chunk σ)):Value→Pr→Prop
 |_, .no=>True
 |v, .pt k pk=>∃c,K[k]? =some c∧DJ c v pk
 | .agg cs, .many ps=>AQ K cs.toList ps
 | .tuple vs, .many ps=>AQ K vs.toList ps
 | .func _ _ caps, .many ps=>AQ K caps.toList ps
 | .iface _ v, .box p=>BH K v p
 | .func _ first _, .box p=>∃v,first= #[v]∧BH K v p
 |_,_=>False
def AQ (K:List (Chunk σ)):List Value→List Pr→Prop
 |[],[]=>True
 |v::vs,p::ps=>BH K v p∧AQ K vs ps
 |_,_=>False
end
theorem MC {K:List (Chunk σ)}:∀{vs:List Value} {ps:List Pr},AQ K vs ps↔vs.length=ps.length∧∀(i:Nat) v p,vs[i]? =some v→ps[i]? =some p→BH K v p
 |[],[]=>by simp [AQ]
 |[],p::ps=>by simp [AQ]
 |v::vs,[]=>by simp [AQ]
 |v::vs,p::ps=>by
  simp only [AQ,MC (vs:=vs) (ps:=ps),jJ,Nat.add_right_cancel_iff]
  constructor
  ·rintro ⟨h1,h2,h3⟩
   refine ⟨h2, λi v' p' hv hp=>?_⟩
   cases i with
   |zero=>simp at hv hp;subst hv;subst hp;exact h1
   |succ i=>exact h3 i v' p' (by simpa using hv) (by simpa using hp)
  ·rintro ⟨h1,h2⟩
   exact ⟨h2 0 v p rfl rfl,h1, λi v' p' hv hp=>h2 (i+1) v' p' (by simpa using hv) (by simpa using hp)⟩
def Bf (K K':List (Chunk σ)):Prop:=∀(k:Nat) (c:Chunk σ),K[k]? =some c→∃c',K'[k]? =some c'∧∀v pk,DJ c v pk→DJ c' v pk
theorem Bf.refl (K:List (Chunk σ)):Bf K K:= λ_ c h=>⟨c,h, λ_ _ h=>h⟩
theorem BD {α:Type} {l:List α} {i:Nat} {x:α} (h:l[i]? =some x):i<l.length:=by
 rcases jB i l.length with h'|h'
 ·exact h'
 ·rw [jE h'] at h;cases h
theorem Bf.append (K B:List (Chunk σ)):Bf K (K++B):= λk c h=>⟨c,by
 rw [iI (BD h)]
 exact h, λ_ _ h=>h⟩
theorem Bf.set {K:List (Chunk σ)} {i:Nat} {c c':Chunk σ} (h:K[i]? =some c) (hc:∀v pk,DJ c v pk→DJ c' v pk):Bf K (K.set i c'):= λk d hk=>by
 by_cases hik:i=k
 ·subst hik
  rw [h] at hk;injection hk with hk;subst hk
  have hlt:i<K.length:=by
   rcases jB i K.length with h'|h'
   ·exact h'
   ·rw [jE h'] at h;cases h
  exact ⟨c',iT hlt,hc⟩
 ·exact ⟨d,by rw [iW hik];exact hk, λ_ _ h=>h⟩
theorem Bf.trans {K K' K'':List (Chunk σ)} (h:Bf K K') (h':Bf K' K''):Bf K K'':= λk c hk=>
 let ⟨c',h1,h2⟩:=h k c hk
 let ⟨c'',h3,h4⟩:=h' k c' h1
 ⟨c'',h3, λv pk hv=>h4 v pk (h2 v pk hv)⟩
mutual
theorem W9 {K K':List (Chunk σ)} (hK:Bf K K'):∀(v:Value) (p:Pr),BH K v p→BH K' v p
 |_, .no,_=>by simp [BH]
 |v, .pt k pk,h=>by
  simp only [BH] at h ⊢
  obtain ⟨c,h1,h2⟩:=h
  obtain ⟨c',h3,h4⟩:=hK k c h1
  exact ⟨c',h3,h4 v pk h2⟩
 |v, .many ps,h=>by
  cases v<;>simp only [BH] at h ⊢
  all_goals exact Agn hK _ ps h
 |v, .box p,h=>by
  cases v<;>simp only [BH] at h ⊢
  ·obtain ⟨v,h1,h2⟩:=h
   exact ⟨v,h1,W9 hK _ p h2⟩
  ·exact W9 hK _ p h
theorem Agn {K K':List (Chunk σ)} (hK:Bf K K'):∀(vs:List Value) (ps:List Pr),AQ K vs ps→AQ K' vs ps
 |[],[],_=>by simp [AQ]
 |[],_::_,h=>by simp [AQ] at h
 |_::_,[],h=>by simp [AQ] at h
 |v::vs,p::ps,h=>by
  simp only [AQ] at h ⊢
  exact ⟨W9 hK v p h.1,Agn hK vs ps h.2⟩
end
theorem BH.ext {K K':List (Chunk σ)} {v:Value} {p:Pr} (h:BH K v p) (hK:Bf K K'):BH K' v p:=W9 hK v p h
def Dz (K:List (Chunk σ)):Prop:=∀(k b:Nat) (t:TypeId) cs,K[k]? =some (.cells b t cs)→∀x∈cs,BH K x.1 x.2
theorem Dz.append {K B:List (Chunk σ)} (h:Dz K) (hB:∀b t cs,Chunk.cells b t cs∈B→∀x∈cs,BH (K++B) x.1 x.2):Dz (K++B):= λk b t cs hk x hx=>by
 rcases jB k K.length with hl|hl
 ·rw [iI hl] at hk
  exact (h k b t cs hk x hx).ext (Bf.append K B)
 ·rw [iJ hl] at hk
  exact hB b t cs (iV hk) x hx
theorem Dz.set {K:List (Chunk σ)} {i:Nat} {c c':Chunk σ} (h:Dz K) (hi:K[i]? =some c) (hc:∀v pk,DJ c v pk→DJ c' v pk) (hB:∀b t cs,c'= .cells b t cs→∀x∈cs,BH K x.1 x.2):Dz (K.set i c'):= λk b t cs hk x hx=>by
 have hE:=Bf.set hi hc
 by_cases hik:i=k
 ·subst hik
  rw [iT (BD hi)] at hk
  injection hk with hk
  exact (hB b t cs hk x hx).ext hE
 ·rw [iW hik] at hk
  exact (h k b t cs hk x hx).ext hE
theorem UD {K:List (Chunk σ)}:∀(vs:List Value),AQ K vs (Qn vs.length)
 |[]=>by simp [AQ,Qn]
 |v::vs=>by simp only [jJ,Qn,AQ,BH,true_and];exact UD vs
theorem JO {K:List (Chunk σ)} {vs:List Value} {ps:List Pr} (h:AQ K vs ps):BH K (.agg vs.toArray) (Gy ps):=by
 unfold Gy
 cases ps.all Pr.Agd with
 |true=>simp [BH]
 |false=>simpa [BH] using h
theorem AiP {K:List (Chunk σ)} {fn:Fn} {first caps:Array Value} {ps:List Pr} (h:AQ K caps.toList ps):BH K (.func fn first caps) (Gy ps):=by
 unfold Gy
 cases ps.all Pr.Agd with
 |true=>simp [BH]
 |false=>simpa [BH] using h
theorem Aab {K:List (Chunk σ)} {v:Value} {p:Pr} (h:BH K v p):AQ K v.cells.toList (LW v p):=by
 unfold LW
 cases v with
 |agg cs=>
  simp only [Value.cells]
  cases p with
  |many ps=>
   cases hb:iL ps.length cs.size with
   |true=>simp only [hb,cond_true];simpa [BH] using h
   |false=>simp only [hb,cond_false];simpa using UD cs.toList
  |_=>simpa using UD cs.toList
 |_=>simp only [Value.cells,AQ,and_true];exact h
theorem AiQ (v:Value) (p:Pr):(LW v p).length=v.cells.size:=by
 have:=nos_len
 unfold LW
 cases v with
 |agg cs=>
  simp only [Value.cells]
  cases p with
  |many ps=>
   cases hb:iL ps.length cs.size with
   |true=>simp only [hb,cond_true];exact iF hb
   |false=>simp only [hb,cond_false];exact this cs.size
  |_=>simpa using this cs.size
 |_=>rfl
where
 nos_len:∀n,(Qn n).length=n
  |0=>rfl
  |n+1=>by simp [Qn,nos_len n]
theorem Ago:∀(vs:List Value) (ps:List Pr),vs.length=ps.length→(UA vs ps).map (·.1)=vs
 |[],[],_=>rfl
 |[],_::_,h=>by simp at h
 |_::_,[],h=>by simp at h
 |v::vs,p::ps,h=>by simp only [UA,iD];rw [Ago vs ps (by simpa using h)]
theorem Akh {K:List (Chunk σ)}:∀(vs:List Value) (ps:List Pr),AQ K vs ps→∀x∈UA vs ps,BH K x.1 x.2
 |[],_,_,x,hx=>by simp [UA] at hx
 |_::_,[],_,x,hx=>by simp [UA] at hx
 |v::vs,p::ps,h,x,hx=>by
  simp only [AQ] at h
  simp only [UA,iG] at hx
  rcases hx with rfl|hx
  ·exact h.1
  ·exact Akh vs ps h.2 x hx
theorem Lc (v:Value) (p:Pr):(Jg v p).map (·.1)=v.cells.toList:=Ago _ _ (by rw [AiQ];simp)
theorem PW {K:List (Chunk σ)} {v:Value} {p:Pr} (h:BH K v p):∀x∈Jg v p,BH K x.1 x.2:=Akh _ _ (Aab h)
def GV (tm:Array Value):Option (Nat×Bool)→Prop
 |none=>True
 |some (c,b)=>tm.getD c undef= .bool b
def Ak.ok (K:List (Chunk σ)) (tm:Array Value) (e:Ak):Prop:=GV tm e.g→tm.getD e.s undef=e.v∧BH K e.v e.p
structure Fr (n:Nat) (L:List Ak) (K:List (Chunk σ)) (a:Act):Prop where
 kok:Dz K
 defers:a.defers=[]
 size:a.tmps.size=n
 ents:∀e∈L,e.ok K a.tmps
 skipd:∀e∈L,¬GV a.tmps e.g→a.tmps.getD e.s undef=undef
theorem Fr.ext {n:Nat} {L:List Ak} {K K':List (Chunk σ)} {a:Act} (h:Fr n L K a) (hK:Bf K K') (hk:Dz K'):Fr n L K' a:=
 ⟨hk,h.defers,h.size, λe he hg=>let ⟨h1,h2⟩:=h.ents e he hg;⟨h1,h2.ext hK⟩,h.skipd⟩
theorem Fr.sub {n:Nat} {L L':List Ak} {K:List (Chunk σ)} {a:Act} (h:Fr n L K a) (hs:∀e∈L',e∈L):Fr n L' K a:=
 ⟨h.kok,h.defers,h.size, λe he=>h.ents e (hs e he), λe he=>h.skipd e (hs e he)⟩
theorem Dp {L:List Ak} {t:Nat} {e:Ak} (h:look L t=some e):e∈L∧e.s=t:=by
 induction L with
 |nil=>simp [look] at h
 |cons x r ih=>
  simp only [look] at h
  cases hb:iL x.s t with
  |true=>rw [hb] at h;simp at h;subst h;exact ⟨by simp,iF hb⟩
  |false=>rw [hb] at h;simp at h;have:=ih h;exact ⟨by simp [this.1],this.2⟩
theorem Aea {n:Nat} {L:List Ak} {K:List (Chunk σ)} {a:Act} {g:Option (Nat×Bool)} {t:Nat} {e:Ak} (hF:Fr n L K a) (hg:GV a.tmps g) (h:ent g L t=some e):
 a.tmps.getD t undef=e.v∧BH K e.v e.p:=by
 unfold ent at h
 cases hl:look L t with
 |none=>simp [hl] at h
 |some x=>
  simp only [hl] at h
  obtain ⟨hm,hs⟩:=Dp hl
  have hx:=hF.ents x hm
  subst hs
  unfold Ak.ok at hx
  cases hxg:x.g with
  |none=>
   simp only [hxg] at h
   injection h with h;subst h
   exact hx (by rw [hxg];trivial)
  |some cb=>
   obtain ⟨c,b⟩:=cb
   cases g with
   |none=>simp [hxg] at h
   |some cb'=>
    obtain ⟨c',b'⟩:=cb'
    simp only [hxg] at h
    cases hq:iL c c'&&(b==b') with
    |false=>rw [hq] at h;simp at h
    |true=>
     rw [hq] at h;simp at h;subst h
     simp only [iE,beq_iff_eq] at hq
     obtain ⟨h1,rfl⟩:=hq
     have:=iF h1
     subst this
     exact hx (by rw [hxg];exact hg)
theorem AU {n:Nat} {L:List Ak} {K:List (Chunk σ)} {a:Act} {g:Option (Nat×Bool)} {x:Operand} {v:Value} (hF:Fr n L K a) (hg:GV a.tmps g) (h:val g L x=some v):a.eval x=v:=by
 cases x with
 |tmp t=>
  simp only [val] at h
  cases he:ent g L t with
  |none=>simp [he] at h
  |some e=>simp only [he] at h;injection h with h;subst h;exact (Aea hF hg he).1
 |const u=>simpa [val,Act.eval] using h
 |global m=>simpa [val,Act.eval] using h
 |func f=>simpa [val,Act.eval] using h
theorem Bv {n:Nat} {L:List Ak} {K:List (Chunk σ)} {a:Act} {g:Option (Nat×Bool)} {x:Operand} (hF:Fr n L K a) (hg:GV a.tmps g):BH K (a.eval x) (Dl g L x):=by
 cases x with
 |tmp t=>
  simp only [Dl]
  cases he:ent g L t with
  |none=>simp [BH]
  |some e=>have:=Aea hF hg he;simp only [Act.eval];rw [this.1];exact this.2
 |const u=>simp [Dl,BH]
 |global m=>simp [Dl,BH]
 |func f=>simp [Dl,BH]
theorem KT {n:Nat} {L:List Ak} {K:List (Chunk σ)} {a:Act} {g:Option (Nat×Bool)} {x:Operand} (hF:Fr n L K a) (hg:GV a.tmps g) (h:(val g L x).isSome=true):a.eval x=rho g L x:=by
 cases hv:val g L x with
 |none=>rw [hv] at h;cases h
 |some v=>rw [AU hF hg hv];simp [rho,hv]
theorem Alk {n:Nat} {L:List Ak} {K:List (Chunk σ)} {a:Act} {g:Option (Nat×Bool)} {o:Oper} (hF:Fr n L K a) (hg:GV a.tmps g) (hs:∀cs b,o.op≠ .select cs b) (h:o.op.operands.all (λx=>(val g L x).isSome)=true):
 execOp a.eval o=execOp (rho g L) o:=
 execOp_congr o hs λx hx=>KT hF hg (by
  rw [kC] at h
  exact h x hx)
theorem Ky (P:Program) {α:Type} (s:Sem α) (x:α) (h:Jz P s=some x):∀w,s.run P w= .ok x w:=by
 induction s with
 |pure a=>intro w;simp only [Jz] at h;injection h with h;subst h;rfl
 |program k ih=>intro w;simp only [Jz] at h;exact ih P h w
 |mark m k ih=>intro w;simp only [Jz] at h;exact ih h w
 |_=>simp [Jz] at h
theorem Ji {tm:Array Value} {d:Nat} (v:Value) (hd:d<tm.size) (t:Nat):(tm.setIfInBounds d v).getD t undef=if d=t then v else tm.getD t undef:=by
 simp only [jC,kW]
 by_cases h:d=t
 ·subst h;simp [hd]
 ·simp [h]
theorem Oq {d:Nat} {L:List Ak} {e:Ak} (h:e∈del d L):e∈L∧e.s≠d∧∀c b,e.g=some (c,b)→c≠d:=by
 induction L with
 |nil=>simp [del] at h
 |cons x r ih=>
  simp only [del] at h
  cases hb:(iL x.s d||gIs d x.g) with
  |true=>rw [hb] at h;simp at h;have:=ih h;exact ⟨by simp [this.1],this.2⟩
  |false=>
   rw [hb] at h
   simp only [cond_false,iG] at h
   rcases h with rfl|h
   ·simp only [kH] at hb
    refine ⟨by simp, λhe=>?_, λc b hc he=>?_⟩
    ·rw [he] at hb;simp at hb
    ·rw [hc,he] at hb;simp [gIs] at hb
   ·have:=ih h;exact ⟨by simp [this.1],this.2⟩
theorem Fr.put {n:Nat} {L:List Ak} {K:List (Chunk σ)} {a:Act} (hF:Fr n L K a) {dst:Option Nat} {g:Option (Nat×Bool)} {v u:Value} {p:Pr}
 (hd:∀d,dst=some d→d<n) (hcd:∀d c b,dst=some d→g=some (c,b)→c≠d) (hu:GV a.tmps g→u=v∧BH K v p) (hu2:¬GV a.tmps g→u=undef:=by first|(intro h;exact absurd trivial h)|(intro _;rfl)):Fr n (Dw dst g v p L) K (a.put dst u):=by
 cases dst with
 |none=>exact hF
 |some d=>
  have hdn:=hd d rfl
  rw [←hF.size] at hdn
  refine ⟨hF.kok,hF.defers,by simp [Act.put,hF.size], λe he hge=>?_, λe he hge=>?_⟩
  rotate_left
  ·simp only [Dw,iG] at he
   simp only [Act.put] at hge ⊢
   rcases he with rfl|he
   ·rw [Ji _ hdn,if_pos rfl]
    refine hu2 λhgv=>hge ?_
    dsimp only
    cases hg:g with
    |none=>trivial
    |some cb=>
     obtain ⟨c,b⟩:=cb
     rw [hg] at hgv
     simp only [GV] at hgv ⊢
     rw [Ji _ hdn,if_neg (λe=>hcd d c b rfl hg e.symm)]
     exact hgv
   ·obtain ⟨hm,hne,hgd⟩:=Oq he
    rw [Ji _ hdn,if_neg (λe=>hne e.symm)]
    refine hF.skipd e hm λhgv=>hge ?_
    cases hg:e.g with
    |none=>trivial
    |some cb=>
     obtain ⟨c,b⟩:=cb
     rw [hg] at hgv
     simp only [GV] at hgv ⊢
     rw [Ji _ hdn,if_neg (λe'=>hgd c b hg e'.symm)]
     exact hgv
  simp only [Dw,iG] at he
  simp only [Act.put] at hge ⊢
  rcases he with rfl|he
  ·rw [Ji _ hdn,if_pos rfl]
   refine hu ?_
   dsimp only at hge
   cases hg:g with
   |none=>trivial
   |some cb=>
    obtain ⟨c,b⟩:=cb
    rw [hg] at hge
    simp only [GV] at hge ⊢
    rw [Ji _ hdn,if_neg (λe=>hcd d c b rfl hg e.symm)] at hge
    exact hge
  ·obtain ⟨hm,hne,hgd⟩:=Oq he
   rw [Ji _ hdn,if_neg (λe=>hne e.symm)]
   refine hF.ents e hm ?_
   cases hg:e.g with
   |none=>trivial
   |some cb=>
    obtain ⟨c,b⟩:=cb
    rw [hg] at hge
    simp only [GV] at hge ⊢
    rw [Ji _ hdn,if_neg (λe'=>hgd c b hg e'.symm)] at hge
    exact hge
theorem Ej {ops:Array Oper} {o:Oper} {tm:Array Value} {g:Option (Nat×Bool)} (h:Wp ops o=some g):iZ o (yielded ops tm)=true↔GV tm g:=by
 unfold Wp at h
 unfold iZ
 cases ho:o.guard with
 |none=>rw [ho] at h;simp at h;subst h;simp [GV]
 |some jb=>
  obtain ⟨j,b⟩:=jb
  rw [ho] at h
  simp only at h
  cases hc:(ops[j]?).bind (·.dst) with
  |none=>simp [hc] at h
  |some c=>
   simp only [hc,iA] at h
   subst h
   simp only [GV,yielded,hc,Option.bind_some]
   rw [jC]
   cases ht:tm[c]? with
   |none=>simp [undef]
   |some v=>cases v<;>simp
theorem GY {n:Nat} {L:List Ak} {K:List (Chunk σ)} {a:Act} {g:Option (Nat×Bool)} {p:Prop} (hF:Fr n L K a) (hg:GV a.tmps g) (h:LX g L p):p:=by
 unfold LX at h
 cases g with
 |none=>exact h
 |some cb=>
  obtain ⟨c,b⟩:=cb
  simp only at h
  split at h
  ·rename_i s t pr hl
   obtain ⟨hm,hs⟩:=Dp hl
   have:=(hF.ents _ hm trivial).1
   dsimp only at this hs
   subst hs
   simp only [GV] at hg
   rw [hg] at this
   injection this with this
   exact h this.symm
  ·rename_i s gg t pr hl
   obtain ⟨hm,hs⟩:=Dp hl
   have h1:=hF.ents _ hm
   have h2:=hF.skipd _ hm
   dsimp only [Ak.ok] at h1 h2 hs
   subst hs
   simp only [GV] at hg
   by_cases hgv:GV a.tmps (some gg)
   ·have:=(h1 hgv).1
    rw [hg] at this
    injection this with this
    exact h this.symm
   ·have:=h2 hgv
    rw [hg] at this
    cases this
  ·exact h
end
def cellOf (h:Hp) (a:Addr):Option Value:=
 match h a.block with
 |some (.cells c _ _)=>if a.spot.isSome then none else c[a.off]?
 |_=>none
def Ef (h:Hp) (a:Option Addr) (n:Nat) (cols:List Au):Prop:=
 (∀c∈cols,c.len=n)∧(∀i,i<n→∃b,a=some b∧∀(j:Nat) (c:Au),cols[j]? =some c→cellOf h (b.add (i*cols.length+j))=some (c.at i))∧n≤maxLen
theorem AiR {h h':Hp} (hs:∀b o,h b=some o→h' b=some o) {a:Addr} {v:Value} (hv:cellOf h a=some v):cellOf h' a=some v:=by
 unfold cellOf at*
 cases hb:h a.block with
 |none=>simp [hb] at hv
 |some o=>rw [hs _ _ hb];rw [hb] at hv;exact hv
theorem Ef.mono {h h':Hp} (hs:∀b o,h b=some o→h' b=some o) {a:Option Addr} {n:Nat} {cols:List Au} (H:Ef h a n cols):Ef h' a n cols:=
 ⟨H.1, λi hi=>let ⟨b,hb,hc⟩:=H.2.1 i hi;⟨b,hb, λj c hj=>AiR hs (hc j c hj)⟩,H.2.2⟩
theorem PX {h:Hp} {w:World} (hs:h.sub w) {a:Addr} {v:Value} (hv:cellOf h a=some v):w.cell? a=some v:=by
 unfold cellOf at hv
 unfold World.cell?
 cases hb:h a.block with
 |none=>simp [hb] at hv
 |some o=>rw [hs _ _ hb];rw [hb] at hv;exact hv
def Au.sub (Y:Hp):Au→Nat→Prop
 | .sls xs,i=>Ef Y (slA (xs.getD i 0)) (U9 (xs.getD i 0)).length [.fz (U9 (xs.getD i 0))]∧(U9 (xs.getD i 0)).length≤slC (xs.getD i 0)
 |_,_=>True
def subs (Y:Hp) (n:Nat) (cols:List Au):Prop:=∀c∈cols,∀i,i<n→c.sub Y i
theorem Au.Arb {Y:Hp} {c:Au} {i:Nat} (h:c.isFz=false):c.sub Y i:=by cases c<;>first|trivial|cases h
theorem Acy {Y:Hp} {n:Nat}:∀{cols:List Au},EY cols=false→subs Y n cols
 |[],_=> λc hc=>by cases hc
 |c::cs,h=>by
  unfold EY at h
  cases hc:c.isFz with
  |true=>rw [hc] at h;cases h
  |false=>
   rw [hc] at h
   intro d hd i hi
   rcases iG.1 hd with rfl|hd
   ·exact Au.Arb hc
   ·exact Acy (cols:=cs) h d hd i hi
theorem Acz {Y:Hp} {n:Nat} {xs:LI}:subs Y n [.fz xs]:= λc hc i _=>by
 rw [jR] at hc;subst hc;trivial
theorem Au.Ot {Y Y':Hp} (hs:∀b o,Y b=some o→Y' b=some o) {c:Au} {i:Nat} (h:c.sub Y i):c.sub Y' i:=by
 cases c<;>first|trivial|exact ⟨h.1.mono hs,h.2⟩
theorem AmC {Y Y':Hp} (hs:∀b o,Y b=some o→Y' b=some o) {n:Nat} {cols:List Au} (h:subs Y n cols):subs Y' n cols:= λc hc i hi=>Au.Ot hs (h c hc i hi)
variable {σ:Type} (D:Addr→σ→CZ)
def flat (cols:List Au) (n:Nat):List Value:=(jQ n).flatMap λi=>cols.map (·.at i)
theorem GN (cols:List Au):∀n,(flat cols n).length=n*cols.length
 |0=>by simp [flat]
 |n+1=>by
  have:=GN cols n
  unfold flat at this ⊢
  rw [List.range_succ,List.flatMap_append,jL,this]
  simp [mU]
theorem JA (cols:List Au) (n:Nat):flat cols (n+1)=flat cols n++cols.map (·.at n):=by
 unfold flat
 rw [List.range_succ,List.flatMap_append]
 simp
theorem flat_get {cols:List Au}:∀{n i j:Nat} {c:Au},i<n→cols[j]? =some c→(flat cols n)[i*cols.length+j]? =some (c.at i)
 |0,i,j,c,hi,_=>by omega
 |n+1,i,j,c,hi,hj=>by
  have hjl:=BD hj
  rw [JA]
  rcases jB i n with h|h
  ·rw [iI]
   ·exact flat_get h hj
   ·rw [GN]
    have:(i+1)*cols.length≤n*cols.length:=kF _ h
    rw [mU] at this
    omega
  ·have:i=n:=by omega
   subst this
   rw [iJ (by rw [GN];omega),GN,Nat.add_sub_cancel_left,iM,hj]
   rfl
def Ir:List MapEntry→Int→Option Int
 |[],_=>none
 |e::r,x=>match e.key,e.val with
  | .int _ y, .int _ z=>bif x==y then some z else Ir r x
  |_,_=>Ir r x
def AfU (kk vk:IntKind) (es:List MapEntry) (f:Int→Option Int):Prop:=
 (∀e∈es,∃x y,e.key= .int kk x∧e.val= .int vk y)∧∀x,Ir es x=f x
def Kt (l:List (Int×Int)) (es:Array MapEntry) (clock:Nat):Prop:=
 es.toList.map (λe=>(e.key,e.val))=l.map (λx=>(EQ x, .int .i64 1))∧(es.toList.map (·.born)).Nodup∧(∀e∈es.toList,e.born<clock)∧l.Nodup
def RF (l:List (Int×Nat×Addr)) (es:List MapEntry):Prop:=es.map (λe=>(e.key,e.val))=l.map λx=>(.int .i64 x.1,fnV x.2.1 x.2.2)
def leftB (es:Array MapEntry) (seen:Array Nat):List MapEntry:=es.toList.filter λe=>!seen.contains e.born
def Y1 (b:Nat) (es:Array MapEntry) (clock:Nat) (cur r:List (Int×Int)) (o:Obj):Prop:=
 ∃seen last,o= .mapIter (some b) clock seen last∧clock≤last∧(leftB es seen).map (·.key)=r.map EQ∧
  match cur with
  |[x]=>last=clock∧∃e∈es.toList,e.key=EQ x∧seen.back? =some e.born
  |_=>True
def den (G:Hp):Chunk σ→CZ
 | .dead=> λ_ _=>True
 | .cells b t cs=>pt b (.cells (cs.map (·.1)).toArray t (0,0))
 | .row a t n cap cols=> λ_ h=>(∀c∈cols,c.len=n)∧0<cols.length∧
    match a with
    |none=>n=0∧cap=0
    |some b=>∃cs:Array Value,h b=some (.cells cs t (0,0))∧n≤cap∧cap≤maxLen∧cs.size=cap*cols.length∧cs.toList.take (n*cols.length)=flat cols n
 | .ro a n cap cols=> λY _=>Ef (bif EY cols then Y else G) a n cols∧n≤cap∧subs Y n cols
 | .roc b t vs=> λ_ _=>G b=some (.cells vs.toArray t (0,0))
 | .obj p s=>D p s
 | .map b kk vk f=> λ_ h=>∃es clock,h b=some (.map es clock)∧AfU kk vk es.toList f
 | .bm b l it=> λ_ h=>∃es clock,h b=some (.map es clock)∧Kt l es clock∧
    match it with
    |none=>True
    |some (i,cur,r)=>i≠b∧∃o,h i=some o∧Y1 b es clock cur r o
 | .fm b l=> λ_ h=>∃es clock,h b=some (.map es clock)∧RF l es.toList
theorem ApX {G Y h:Hp} {a:Option Nat} {t:TypeId} {n cap:Nat} {cols:List Au} (H:den D G (.row a t n cap cols) Y h):n≤cap:=by
 obtain ⟨_,_,h3⟩:=H
 cases a with
 |none=>dsimp only at h3;omega
 |some b=>obtain ⟨_,_,h4,_⟩:=h3;exact h4
theorem WA {G Y h:Hp} {a:Option Nat} {t:TypeId} {n cap:Nat} {cols:List Au} (H:den D G (.row a t n cap cols) Y h):Ef h (a.map λb=>⟨b,0,none⟩) n cols:=by
 obtain ⟨h1,h2,h3⟩:=H
 refine ⟨h1, λi hi=>?_,?_⟩
 rotate_left
 ·cases a with
  |none=>simp only at h3;omega
  |some b=>obtain ⟨cs,h4,h5,h6,_⟩:=h3;exact lZ h5 h6
 cases a with
 |none=>simp only at h3;omega
 |some b=>
  obtain ⟨cs,h4,h5,h6,h7,h8⟩:=h3
  refine ⟨⟨b,0,none⟩,rfl, λj c hj=>?_⟩
  have hjl:=BD hj
  have hg:=flat_get hi hj
  rw [←h8,kJ] at hg
  have hlt:i*cols.length+j<n*cols.length:=by
   have:(i+1)*cols.length≤n*cols.length:=kF _ hi
   rw [mU] at this
   omega
  rw [if_pos hlt] at hg
  have hadd:(⟨b,0,none⟩:Addr).add (i*cols.length+j)=⟨b,i*cols.length+j,none⟩:=by
   unfold Addr.add
   split
   ·rename_i e;rw [e]
   ·simp
  rw [hadd]
  simp only [cellOf,h4,Option.isSome_none,kQ,if_false]
  simpa using hg
def Af (E:Ev) (G:Hp) (w:World) (K:List (Chunk σ)):Prop:=Sat E G w (K.map (den D G))
mutual
def EC (G Y:Hp):Value→FC σ→Prop
 |_, .none=>True
 |v, .row n cols=>∃a cap,v= .slice a n cap∧Ef G a n cols∧n≤cap∧(EY cols=true→Ef Y a n cols∧subs Y n cols)
 |v, .cells t vs=>∃b,v= .pointer (some ⟨b,0,none⟩)∧G b=some (.cells vs.toArray t (0,0))
 |v, .obj _=>∃p,v= .pointer (some p)
 | .agg cs, .many is=>Ee G Y cs.toList is
 | .tuple vs, .many is=>Ee G Y vs.toList is
 | .func _ _ caps, .many is=>Ee G Y caps.toList is
 |_, .many _=>False
def Ee (G Y:Hp):List Value→List (FC σ)→Prop
 |[],[]=>True
 |v::vs,i::is=>EC G Y v i∧Ee G Y vs is
 |_,_=>False
end
def RG (args:List (Value×FC σ)):List CZ:=match KF args with|some (p,s)=>[D p s]|none=>[]
def MZ (args:List (Value×FC σ)) (new:Option σ):List CZ:=match KF args with
 |some (p,s)=>[D p (new.getD s)]
 |none=>[]
def Asd (r:Res σ):Prop:=∀(K:List (Chunk σ)) (acs:List (Option Nat×Nat)),Ha r.rows acs→BH (K++jA ED r.rows acs) (r.out (jA G5 r.rows acs)) (r.outp K.length)
def F9 (P:Program) (f:FuncId) (e:Entry σ):Prop:=
 ∀args c r,e args=some c→r=c.r c.x→Asd r∧((∀p∈r.pre,p)→∀E G w,(∀x∈args,EC G E.z x.1 x.2)→Sat E G w (RG D args)→
  Calls P f (args.map (·.1)).toArray w λen w'=>∃acs:List (Option Nat×Nat),Ha r.rows acs∧
   en= .returned (r.out (jA G5 r.rows acs))∧Sat E G w' (MZ D args r.new++(jA ED r.rows acs).map (den D G)))
def BO (P:Program) (T:List (Nat×Entry σ)):Prop:=∀x∈T,F9 D P x.1 x.2
theorem Agp {P:Program} {T:List (Nat×Entry σ)} (h:BO D P T) {f:Nat} {e:Entry σ} (he:Wq T f=some e):F9 D P f e:=by
 induction T with
 |nil=>simp [Wq] at he
 |cons x r ih=>
  obtain ⟨g,e'⟩:=x
  simp only [Wq] at he
  cases hb:iL g f with
  |true=>
   rw [hb] at he;simp at he;subst he
   have:=iF hb
   subst this
   exact h (g,e') (by simp)
  |false=>rw [hb] at he;simp at he;exact ih (λx hx=>h x (by simp [hx])) he
theorem BO.nil (P:Program):BO D P ([]:List (Nat×Entry σ)):= λ_ h=>by cases h
theorem BO.cons {P:Program} {T:List (Nat×Entry σ)} {f:Nat} {e:Entry σ} (h:F9 D P f e) (hT:BO D P T):BO D P ((f,e)::T):= λx hx=>by
 simp only [iG] at hx
 rcases hx with rfl|hx
 ·exact h
 ·exact hT x hx
end
section
open Go.RowKit
variable {σ:Type} (D:Addr→σ→CZ)
theorem Y4 {P:Program} {o:Oper} {a:Act} {C:World→Prop} {w:World} {v:Value} (h:(execOp a.eval o).run P w= .ok (.value v) w):o.quietAt P a C w v:=by
 unfold Oper.quietAt
 rw [h]
 exact ⟨rfl,rfl⟩
theorem Addr.add_add (a:Addr) (m n:Nat):(a.add m).add n=a.add (m+n):=by
 unfold Addr.add
 split<;>split<;>rename_i h1 h2
 ·subst h1;subst h2;simp
 ·subst h1;simp [h2]
 ·subst h2;simp [h1]
 ·rw [if_neg (by omega)];simp [mX]
theorem Addr.JB (b off n:Nat):(⟨b,off,none⟩:Addr).add n=⟨b,off+n,none⟩:=by
 unfold Addr.add
 split
 ·simp_all
 ·rfl
theorem RH {P:Program} {t:TypeId} {b:Bool} (h:LY P t=some b) (w:World):(isAgg t).run P w= .ok b w:=by
 unfold LY at h
 unfold isAgg
 cases hu:P.underlying t with
 |none=>simp [hu] at h
 |some d=>
  rw [hu] at h
  simp only [iR,run_underlying hu,Result.andThen_ok]
  cases d<;>simp_all
theorem Gp {P:Program} {t:TypeId} {n:Nat} (h:EP P t=some n) (w:World):(sizeOf t).run P w= .ok n w:=by
 unfold EP at h
 unfold sizeOf typeInfo
 cases hi:P.info? t with
 |none=>simp [hi] at h
 |some i=>simp [hi] at h;subst h;simp [hi]
theorem Pj {P:Program} {t:TypeId} {w:World} {a:Addr} {vs:List Value} (h:LY P t=some true) (hn:EP P t=some vs.length) (hc:∀(j:Nat) v,vs[j]? =some v→w.cell? (a.add j)=some v):
 (loadVar t a).run P w= .ok (.agg vs.toArray) w:=by
 unfold loadVar
 simp only [iR,RH h,Result.andThen_ok,if_true,Gp hn,run_loadCells_list (P:=P) w a vs hc,iY]
theorem Pm {P:Program} {t:TypeId} {w:World} {a:Addr} {v:Value} (h:LY P t=some false) (hc:w.cell? a=some v):
 (loadVar t a).run P w= .ok v w:=by
 unfold loadVar
 simp only [iR,RH h,Result.andThen_ok,kQ,if_false,run_load,hc]
theorem Nz {P:Program} {t:TypeId} {w:World} {b off:Nat} {t0:TypeId} {cs:List (Value×Pr)} {v:Value} {p:Pr} {fr:Nat×Nat} (hb:w.heap[b]? =some (.cells (cs.map (·.1)).toArray t0 fr)) (h:I8 P t cs off=some (v,p)):
 (loadVar t ⟨b,off,none⟩).run P w= .ok v w:=by
 unfold I8 at h
 have cell:∀o,w.cell? ⟨b,o,none⟩=(cs[o]?).map (·.1):= λo=>by rw [cell_of_row w b o _ t0 fr hb];simp
 cases ha:LY P t with
 |none=>simp [ha] at h
 |some g=>
  cases g with
  |false=>simp only [ha] at h;exact Pm ha (by rw [cell,h];rfl)
  |true=>
   cases hs:EP P t with
   |none=>simp [ha,hs] at h
   |some n=>
    simp only [ha,hs] at h
    cases hle:jS (off+n) cs.length with
    |false=>rw [hle] at h;simp at h
    |true=>
     rw [hle] at h
     simp only [cond_true,iA,iP] at h
     obtain ⟨rfl,rfl⟩:=h
     have hle':=iQ hle
     refine Pj ha (by rw [hs];simp;omega) λj v hj=>?_
     rw [Addr.JB,cell]
     rw [iM,kJ] at hj
     split at hj
     ·rw [lN] at hj;exact hj
     ·simp at hj
theorem Tu {P:Program} {t:TypeId} {K:List (Chunk σ)} {off:Nat} {cs:List (Value×Pr)} {v:Value} {p:Pr} (hk:∀x∈cs,BH K x.1 x.2) (h:I8 P t cs off=some (v,p)):BH K v p:=by
 unfold I8 at h
 cases ha:LY P t with
 |none=>simp [ha] at h
 |some g=>
  cases g with
  |false=>simp only [ha] at h;exact hk _ (iV h)
  |true=>
   cases hs:EP P t with
   |none=>simp [ha,hs] at h
   |some n=>
    simp only [ha,hs] at h
    cases hle:jS (off+n) cs.length with
    |false=>rw [hle] at h;simp at h
    |true=>
     rw [hle] at h
     simp only [cond_true,iA,iP] at h
     obtain ⟨rfl,rfl⟩:=h
     refine JO ?_
     rw [MC]
     refine ⟨by simp, λi v p hv hp=>?_⟩
     rw [iM] at hv hp
     cases hx:((cs.drop off).take n)[i]? with
     |none=>simp [hx] at hv
     |some x=>
      simp only [hx,iS,iA] at hv hp
      subst hv;subst hp
      exact hk x (List.mem_of_mem_drop (List.mem_of_mem_take (iV hx)))
theorem PY {P:Program} {t:TypeId} {w:World} {b:Addr} {cols:List Au} {i off:Nat} {v:Value} (hb:∀(j:Nat) (c:Au),cols[j]? =some c→w.cell? (b.add (i*cols.length+j))=some (c.at i)) (h:Om P t cols i off=some v):
 (loadVar t (b.add (i*cols.length+off))).run P w= .ok v w:=by
 unfold Om at h
 cases ha:LY P t with
 |none=>simp [ha] at h
 |some g=>
  cases g with
  |false=>
   simp only [ha] at h
   cases hc:cols[off]? with
   |none=>simp [hc] at h
   |some c=>simp [hc] at h;subst h;exact Pm ha (hb off c hc)
  |true=>
   cases hs:EP P t with
   |none=>simp [ha,hs] at h
   |some n=>
    simp only [ha,hs] at h
    cases hle:jS (off+n) cols.length with
    |false=>rw [hle] at h;simp at h
    |true=>
     rw [hle] at h
     simp only [cond_true,iA] at h
     subst h
     have hle':=iQ hle
     refine Pj ha (by rw [hs];simp;omega) λj v hj=>?_
     rw [Addr.add_add,mX]
     rw [iM,kJ] at hj
     split at hj
     ·rw [lN] at hj
      cases hc:cols[off+j]? with
      |none=>simp [hc] at hj
      |some c=>simp [hc] at hj;subst hj;exact hb _ c hc
     ·simp at hj
theorem Af.get {E:Ev} {G:Hp} {w:World} {K:List (Chunk σ)} (h:Af D E G w K) {k:Nat} {c:Chunk σ} (hk:K[k]? =some c):∃Y p:Hp,Y.sub w∧den D G c Y p∧p.sub w:=by
 obtain ⟨Z,_,hw,_,_,o,_,hA⟩:=h
 exact ⟨Z,_,hw,hA k _ (EI (by rw [iM,hk];rfl)) Z (Hp.le_refl Z), λb x hb=>KN hb⟩
theorem Af.G {E:Ev} {G:Hp} {w:World} {K:List (Chunk σ)} (h:Af D E G w K):G.sub w:=Sat.sub h
theorem AmD {Y G:Hp} {w:World} {b:Bool} (hy:Y.sub w) (hg:G.sub w):Hp.sub (bif b then Y else G) w:=by cases b<;>assumption
theorem Ase {Y G G':Hp} {b:Bool} (hy:Y.le G') (hg:G.le G'):Hp.le (bif b then Y else G) G':=by cases b<;>assumption
theorem UE {E:Ev} {G:Hp} {w:World} {K:List (Chunk σ)} (h:Af D E G w K) {k:Nat} {c:Chunk σ} {v:Value} {i off:Nat} (hk:K[k]? =some c) (hc:DJ c v (.elem i off)):
 (∃a t n cap cols,∃b:Addr,c= .row a t n cap cols∧v= .pointer (some (b.add (i*cols.length+off)))∧∀(j:Nat) (c:Au),cols[j]? =some c→w.cell? (b.add (i*cols.length+j))=some (c.at i))∨
 (∃a n cap cols,∃b:Addr,c= .ro a n cap cols∧v= .pointer (some (b.add (i*cols.length+off)))∧∀(j:Nat) (c:Au),cols[j]? =some c→w.cell? (b.add (i*cols.length+j))=some (c.at i))∨c= .dead:=by
 obtain ⟨Y,p,hy,hp,hs⟩:=h.get D hk
 cases c with
 |dead=>exact .inr (.inr rfl)
 |cells b t cs=>exact hc.elim
 |roc b t cs=>exact hc.elim
 |obj q s=>exact hc.elim
 |map b kk vk f=>exact hc.elim
 |bm b l it=>exact hc.elim
 |fm b l=>exact hc.elim
 |row a t n cap cols=>
  obtain ⟨hi,b,rfl,rfl⟩:=hc
  have hR:=WA D hp
  obtain ⟨b',hb',hcell⟩:=hR.2.1 i hi
  simp at hb';subst hb'
  exact .inl ⟨_,_,_,_,_,_,rfl,rfl, λj c hj=>PX hs (hcell j c hj)⟩
 |ro a n cap cols=>
  obtain ⟨hi,b,rfl,rfl⟩:=hc
  obtain ⟨b',hb',hcell⟩:=hp.1.2.1 i hi
  injection hb' with hb';subst hb'
  exact .inr (.inl ⟨_,_,_,_,_,rfl,rfl, λj c hj=>PX (AmD hy h.G) (hcell j c hj)⟩)
theorem Aac {P:Program} {o:Oper} {a:Act} {n:Nat} {L:List Ak} {K:List (Chunk σ)} {g:Option (Nat×Bool)} (hF:Fr n L K a) (hg:GV a.tmps g) (hs:∀cs b,o.op≠ .select cs b)
 (h:o.op.operands.all (λx=>(val g L x).isSome)=true) {nx:Next} (he:Jz P (execOp (rho g L) o)=some nx) (w:World):(execOp a.eval o).run P w= .ok nx w:=by
 rw [Alk hF hg hs h]
 exact Ky P _ _ he w
theorem AmE {G G' Zc:Hp} (hZ:Zc.le G') {K:List (Chunk σ)} (hrow:∀(k:Nat) c,K[k]? =some c→(∀q s,c≠ .obj q s)→∃q:Hp,den D G c Zc q∧∀b o,q b=some o→G' b=some o) (hG:∀b o,G b=some o→G' b=some o):
 ∀(p:Pr) (v:Value),BH K v p→EC G' Zc v (BG K p):=by
 have key:∀n:Nat,(∀p:Pr,SizeOf.sizeOf p<n→∀v,BH K v p→EC G' Zc v (BG K p))∧(∀ps:List Pr,SizeOf.sizeOf ps<n→∀vs,AQ K vs ps→Ee G' Zc vs (D9 K ps)):=by
  intro n
  induction n with
  |zero=>exact ⟨λp h=>absurd h (kB _), λp h=>absurd h (kB _)⟩
  |succ n ih=>
   constructor
   ·intro p hp v h
    cases p with
    |no=>simp [BG,EC]
    |box p=>simp [BG,EC]
    |many ps=>
     have hlt:SizeOf.sizeOf ps<n:=by simp at hp;omega
     cases v<;>simp only [BH] at h<;>simp only [BG,EC]
     all_goals exact ih.2 ps hlt _ h
    |pt k pk=>
     simp only [BH] at h
     obtain ⟨c,h1,h2⟩:=h
     cases pk with
     |cell off=>
      cases c with
      |cells b t cs=>
       obtain ⟨q,hq,hs⟩:=hrow k _ h1 (by simp)
       simp only [BG,h1]
       cases hb:iL off 0 with
       |false=>simp [EC]
       |true=>
        have:=iF hb
        subst this
        simp only [cond_true,EC]
        exact ⟨b,h2,hs _ _ hq⟩
      |roc b t vs=>
       obtain ⟨q,hq,hs⟩:=hrow k _ h1 (by simp)
       simp only [BG,h1]
       cases hb:iL off 0 with
       |false=>simp [EC]
       |true=>
        have:=iF hb
        subst this
        simp only [cond_true,EC]
        exact ⟨b,h2,hG _ _ hq⟩
      |_=>simp [BG,h1,EC]
     |elem i off=>simp [BG,EC]
     |slice=>
      cases c with
      |row a t n cap cols=>
       obtain ⟨q,hq,hs⟩:=hrow k _ h1 (by simp)
       simp only [BG,h1]
       cases hf:EY cols with
       |true=>simp only [cond_true,EC]
       |false=>
        simp only [cond_false,EC]
        exact ⟨_,_,h2,(WA D hq).mono hs,ApX D hq, λe=>by rw [hf] at e;cases e⟩
      |ro a n cap cols=>
       obtain ⟨q,hq,hs⟩:=hrow k _ h1 (by simp)
       simp only [BG,h1,EC]
       exact ⟨_,_,h2,Ef.mono (Ase hZ hG) hq.1,hq.2.1, λe=>⟨by have:=hq.1;rw [e] at this;exact this,hq.2.2⟩⟩
      |_=>simp [BG,h1,EC]
     |map=>simp [BG,EC]
     |iter=>simp [BG,EC]
     |arr off=>simp [BG,EC]
     |obj=>
      cases c with
      |obj q s=>simp only [BG,h1,EC];exact ⟨_,h2⟩
      |_=>simp [BG,h1,EC]
   ·intro ps hp vs h
    cases ps with
    |nil=>cases vs<;>simp [AQ,D9,Ee] at h ⊢
    |cons p ps=>
     cases vs with
     |nil=>simp [AQ] at h
     |cons v vs=>
      simp only [AQ] at h
      simp only [D9,Ee]
      exact ⟨ih.1 p (by simp at hp;omega) v h.1,ih.2 ps (by simp at hp;omega) vs h.2⟩
 exact λp v h=>(key (SizeOf.sizeOf p+1)).1 p (Nat.lt_succ_self _) v h
theorem Ld {P:Program} {f:Nat} (h:callable P f=true) (xs:Array Value) (w:World):(callFunc f xs).run P w= .ok (.enter f xs) w:=by
 unfold callable at h
 cases hf:P.funcs[f]? with
 |none=>simp [hf] at h
 |some fn=>
  simp only [hf,iE,kU] at h
  have hb:fn.body.isNone=false:=by
   cases hbb:fn.body with
   |none=>rw [hbb] at h;simp at h
   |some _=>rfl
  unfold callFunc
  simp only [iR,run_program,Result.andThen_ok,hf,h.1,hb,kQ,if_false,iY]
theorem WY {K:List (Chunk σ)}:∀{vs vs':List Value} {ps ps':List Pr},AQ K vs ps→AQ K vs' ps'→AQ K (vs++vs') (ps++ps')
 |[],_,[],_,_,h=>h
 |[],_,_::_,_,h,_=>by simp [AQ] at h
 |_::_,_,[],_,h,_=>by simp [AQ] at h
 |v::vs,_,p::ps,_,h,h'=>by
  simp only [AQ] at h
  simp only [jX,AQ]
  exact ⟨h.1,WY h.2 h'⟩
theorem PZ {K:List (Chunk σ)}:∀{vs:List Value} {ps:List Pr},AQ K vs ps→(LZ K vs ps).map (·.1)=vs
 |[],[],_=>rfl
 |[],_::_,h=>by simp [AQ] at h
 |_::_,[],h=>by simp [AQ] at h
 |v::vs,p::ps,h=>by
  simp only [AQ] at h
  simp [LZ,PZ h.2]
theorem WZ {K:List (Chunk σ)}:∀{vs:List Value} {ps:List Pr},AQ K vs ps→(LZ K vs ps).map (·.2)=D9 K ps
 |[],[],_=>rfl
 |[],_::_,h=>by simp [AQ] at h
 |_::_,[],h=>by simp [AQ] at h
 |v::vs,p::ps,h=>by
  simp only [AQ] at h
  simp [LZ,D9,WZ h.2]
theorem Qu {K:List (Chunk σ)}:∀(ps qs:List Pr),D9 K (ps++qs)=D9 K ps++D9 K qs
 |[],_=>rfl
 |p::ps,qs=>by simp [D9,Qu ps qs]
theorem Aor {g:Option (Nat×Bool)} {n:Nat} {L:List Ak} {K:List (Chunk σ)} {c:Operand} {f:Nat} {caps:List Value} {cps:List Pr} {a:Act} (hF:Fr n L K a) (hg:GV a.tmps g) (h:Ald g L c=some (f,caps,cps)):
 a.eval c= .func (.func f) #[] caps.toArray∧AQ K caps cps:=by
 have hp:=Bv (x:=c) hF hg
 unfold Ald at h
 split at h
 ·rename_i f' caps' hv
  have he:=AU hF hg hv
  rw [he] at hp
  split at h
  ·rename_i ps hps
   rw [hps] at hp
   simp only [BH] at hp
   cases hb:iL ps.length caps'.length with
   |false=>rw [hb] at h;simp at h
   |true=>
    rw [hb] at h
    simp only [cond_true,iA,iP] at h
    obtain ⟨rfl,rfl,rfl⟩:=h
    exact ⟨he,hp⟩
  ·simp only [iA,iP] at h
   obtain ⟨rfl,rfl,rfl⟩:=h
   exact ⟨he,UD _⟩
 ·cases h
theorem Alm {P:Program} {t:TypeId} {name:String} {f:Nat} (h:Agf P t name=some f) (v:Value) (fuel:Nat) (w:World):(method (fuel+1) t v name).run P w= .ok (f,v) w:=by
 unfold Agf at h
 cases hi:P.info? t with
 |none=>rw [hi] at h;cases h
 |some i=>
  rw [hi] at h
  simp only at h
  cases hm:i.methods.find? (·.name==name) with
  |none=>rw [hm] at h;cases h
  |some m=>
   rw [hm] at h
   simp only at h
   cases hp:m.path.isEmpty with
   |false=>rw [hp] at h;cases h
   |true=>
    rw [hp] at h
    simp only [cond_true] at h
    have hpl:m.path.toList=[]:=by simpa using hp
    unfold method
    simp only [iR,typeInfo,run_program,hi,Result.andThen_ok,iY,hm,hpl,follow]
    split at h
    ·rename_i f' e' hf hu
     injection h with h;subst h
     rw [hf]
     simp only [iR,receiverAt,run_underlying hu,Result.andThen_ok,Place.get,iY]
    ·cases h
    ·rename_i f' d hne hf hu
     injection h with h;subst h
     rw [hf]
     simp only [iR,receiverAt,run_underlying hu,Result.andThen_ok]
     cases d<;>first|(simp only [Place.get,iY,Result.andThen_ok];done)|(exact absurd rfl (hne _ _ hf))
    ·cases h
theorem AmF {K:List (Chunk σ)} {t:TypeId} {v:Value} {p:Pr} (h:BH K (.iface t v) p):BH K v (IX p):=by
 cases p with
 |box p=>simpa [IX,BH] using h
 |_=>simp [IX,BH]
theorem AmG {K:List (Chunk σ)} {fn:Fn} {caps:Array Value} {v:Value} {p:Pr} (h:BH K (.func fn #[v] caps) p):BH K v (IX p):=by
 cases p with
 |box p=>
  simp only [BH] at h
  obtain ⟨u,h1,h2⟩:=h
  have:u=v:=by have:=congrArg Array.toList h1;simp at this;exact this.symm
  subst this
  simpa [IX] using h2
 |_=>simp [IX,BH]
theorem Aos {g:Option (Nat×Bool)} {n:Nat} {L:List Ak} {K:List (Chunk σ)} {c:Operand} {f:Nat} {v:Value} {a:Act} (hF:Fr n L K a) (hg:GV a.tmps g) (h:Ale g L c=some (f,v)):
 a.eval c= .func (.func f) #[v] #[]∧BH K v (IX (Dl g L c)):=by
 have hp:=Bv (x:=c) hF hg
 unfold Ale at h
 split at h
 ·rename_i f' v' hv
  have he:=AU hF hg hv
  rw [he] at hp
  simp only [iA,iP] at h
  obtain ⟨rfl,rfl⟩:=h
  exact ⟨he,AmG hp⟩
 ·cases h
theorem AiS {P:Program} {g:Option (Nat×Bool)} {n:Nat} {L:List Ak} {K:List (Chunk σ)} {o:Oper} {args:List Value} {prs:List Pr} {a:Act} (hF:Fr n L K a) (hg:GV a.tmps g) (h:yieldOf g L o=some (args,prs)) (w:World):
 ∃l asv,args= .func (.yield l) #[] #[]::asv∧(execOp a.eval o).run P w=(Instr.yield l asv.toArray).run P w∧AQ K args prs:=by
 unfold yieldOf at h
 split at h
 ·rename_i c asv at_ hop
  split at h
  ·rename_i l first caps hv
   cases hc:(iL first.size 0&&iL caps.size 0&&asv.toList.all λx=>(val g L x).isSome) with
   |false=>rw [hc] at h;cases h
   |true=>
    rw [hc] at h
    simp only [cond_true,iA,iP] at h
    obtain ⟨rfl,rfl⟩:=h
    simp only [iE] at hc
    obtain ⟨⟨h1,h2⟩,h3⟩:=hc
    have e1:first= #[]:=nD (iF h1)
    have e2:caps= #[]:=nD (iF h2)
    subst e1 e2
    have hev:=AU hF hg hv
    have hpr:=Bv (x:=c) hF hg
    rw [hev] at hpr
    have hval:∀x∈asv.toList,a.eval x=rho g L x:= λx hx=>KT hF hg (by
     rw [jN] at h3
     exact h3 x hx)
    refine ⟨l,asv.toList.map (λx=>rho g L x),rfl,?_,?_⟩
    ·have hm:asv.map a.eval=(asv.toList.map (λx=>rho g L x)).toArray:=by
      apply Array.ext'
      simp only [lY]
      exact lR hval
     unfold execOp
     simp only [hop]
     unfold resolve
     simp only [hev]
     simp [go_sem,invoke,hm]
    ·simp only [AQ]
     refine ⟨hpr,?_⟩
     generalize asv.toList=l at hval
     induction l with
     |nil=>simp [AQ]
     |cons x l ih=>
      simp only [iD,AQ]
      refine ⟨?_,ih λy hy=>hval y (by simp [hy])⟩
      rw [←hval x (by simp)]
      exact Bv hF hg
  ·cases h
 ·cases h
theorem Lh {P:Program} {g:Option (Nat×Bool)} {n:Nat} {L:List Ak} {K:List (Chunk σ)} {o:Oper} {f:Nat} {args:List (Value×FC σ)} {prs:List Pr} {a:Act} (hF:Fr n L K a) (hg:GV a.tmps g)
 (h:callOf P g L K o=some (f,args,prs)) (w:World):
 (execOp a.eval o).run P w= .ok (.enter f (args.map (·.1)).toArray) w∧AQ K (args.map (·.1)) prs∧args.map (·.2)=D9 K prs:=by
 unfold callOf at h
 split at h
 ·rename_i recv name asv at_ hop
  split at h
  ·rename_i t v hv
   have hev:=AU hF hg hv
   have hpr:=Bv (x:=recv) hF hg
   rw [hev] at hpr
   split at h
   ·rename_i f' hm
    cases hc:(asv.toList.all λx=>(val g L x).isSome)&&callable P f' with
    |false=>rw [hc] at h;simp at h
    |true=>
     rw [hc] at h
     simp only [cond_true,iA,iP] at h
     obtain ⟨rfl,rfl,rfl⟩:=h
     simp only [iE] at hc
     obtain ⟨hvs,hcall⟩:=hc
     have hval:∀x∈asv.toList,a.eval x=rho g L x:= λx hx=>KT hF hg (by
      rw [jN] at hvs
      exact hvs x hx)
     refine ⟨?_,?_,?_⟩
     ·unfold execOp
      simp only [hop]
      unfold resolve
      simp only [hev,iR,iY,Result.andThen_ok,invoke]
      have e0:(#[Value.iface t v]++asv.map a.eval)[0]? =some (.iface t v):=by rw [Array.getElem?_append_left (by simp)];rfl
      rw [e0]
      simp only [callMethod,iR,run_program,Result.andThen_ok]
      have e1:P.types.size+Made.depth=(P.types.size+Made.depth-1)+1:=by
       have:0<Made.depth:=by decide
       omega
      rw [e1,Alm hm]
      simp only [Result.andThen_ok]
      have e2: #[v]++(#[Value.iface t v]++asv.map a.eval).extract 1 (#[Value.iface t v]++asv.map a.eval).size=(mV (λx=>x.1) ((v,BG K (IX (Dl g L recv)))::mV (λx=>(rho g L x,BG (σ:=σ) K (Dl g L x))) asv.toList)).toArray:=by
       apply Array.ext'
       simp only [oA,Array.toList_extract,List.extract_eq_take_drop,Array.size_append,lY,iD,lJ,List.size_toArray,Array.size_map,lV,jJ,mE]
       simp only [jX,nI,mY,mN,jZ,true_and]
       rw [List.take_of_length_le (by simp)]
       apply lR
       intro x hx
       exact hval x hx
      rw [e2]
      exact Ld hcall _ w
     ·simp only [iD,AQ]
      refine ⟨AmF hpr,?_⟩
      rw [lJ]
      generalize asv.toList=l at hval
      induction l with
      |nil=>simp [AQ]
      |cons x l ih=>
       simp only [iD,AQ]
       refine ⟨?_,ih λy hy=>hval y (by simp [hy])⟩
       show BH K (rho g L x) _
       rw [←hval x (by simp)]
       exact Bv hF hg
     ·simp only [iD,D9,lJ]
      congr 1
      generalize asv.toList=l
      induction l with
      |nil=>simp [D9]
      |cons x l ih=>simp only [iD,D9,ih];rfl
   ·cases h
  ·cases h
 ·rename_i c asv at_ hop
  unfold Ap5 at h
  split at h
  ·rename_i f' v hbd
   obtain ⟨hce,hcp⟩:=Aos hF hg hbd
   cases hc:(asv.toList.all λx=>(val g L x).isSome)&&callable P f' with
   |false=>rw [hc] at h;simp at h
   |true=>
    rw [hc] at h
    simp only [cond_true,iA,iP] at h
    obtain ⟨rfl,rfl,rfl⟩:=h
    simp only [iE] at hc
    obtain ⟨hv,hcall⟩:=hc
    have hval:∀x∈asv.toList,a.eval x=rho g L x:= λx hx=>KT hF hg (by
     rw [jN] at hv
     exact hv x hx)
    refine ⟨?_,?_,?_⟩
    ·unfold execOp
     simp only [hop]
     unfold resolve
     have hm: #[v]++asv.map a.eval=(mV (λx=>x.1) ((v,BG K (IX (Dl g L c)))::mV (λx=>(rho g L x,BG (σ:=σ) K (Dl g L x))) asv.toList)).toArray:=by
      apply Array.ext'
      simp only [oA,lY,lJ,iD,jX,nI,jZ,true_and]
      apply lR
      intro x hx
      exact hval x hx
     simp only [hce,Deferred.ofValue,iR,iY,Result.andThen_ok,invoke]
     have e0:(#[v]:Array Value)++Array.map a.eval asv++ #[]= #[v]++Array.map a.eval asv:=by simp
     rw [e0,hm]
     exact Ld hcall _ w
    ·simp only [iD,AQ]
     refine ⟨hcp,?_⟩
     rw [lJ]
     generalize asv.toList=l at hval
     induction l with
     |nil=>simp [AQ]
     |cons x l ih=>
      simp only [iD,AQ]
      refine ⟨?_,ih λy hy=>hval y (by simp [hy])⟩
      show BH K (rho g L x) _
      rw [←hval x (by simp)]
      exact Bv hF hg
    ·simp only [iD,D9,lJ]
     congr 1
     generalize asv.toList=l
     induction l with
     |nil=>simp [D9]
     |cons x l ih=>simp only [iD,D9,ih];rfl
  split at h
  ·rename_i f' caps cps hcal
   obtain ⟨hce,hcp⟩:=Aor hF hg hcal
   cases hc:(asv.toList.all λx=>(val g L x).isSome)&&callable P f' with
   |false=>rw [hc] at h;simp at h
   |true=>
    rw [hc] at h
    simp only [cond_true,iA,iP] at h
    obtain ⟨rfl,rfl,rfl⟩:=h
    simp only [iE] at hc
    obtain ⟨hv,hcall⟩:=hc
    have hval:∀x∈asv.toList,a.eval x=rho g L x:= λx hx=>KT hF hg (by
     rw [jN] at hv
     exact hv x hx)
    refine ⟨?_,?_,?_⟩
    ·unfold execOp
     simp only [hop]
     unfold resolve
     have hm:asv.map a.eval++caps.toArray=(mV (λx=>x.1) (mV (λx=>(rho g L x,BG K (Dl g L x))) asv.toList++LZ K caps cps)).toArray:=by
      apply Array.ext'
      rw [jD,PZ hcp]
      simp only [oA,lY,lJ]
      congr 1
      apply lR
      intro x hx
      exact hval x hx
     simp only [hce,Deferred.ofValue,iR,iY,Result.andThen_ok,invoke]
     have e0:(#[]:Array Value)++Array.map a.eval asv++caps.toArray=Array.map a.eval asv++caps.toArray:=by simp
     rw [e0,hm]
     exact Ld hcall _ w
    ·rw [jD,PZ hcp]
     refine WY ?_ hcp
     rw [lJ]
     generalize asv.toList=l at hval
     induction l with
     |nil=>simp [AQ]
     |cons x l ih=>
      simp only [iD,AQ]
      refine ⟨?_,ih λy hy=>hval y (by simp [hy])⟩
      show BH K (rho g L x) _
      rw [←hval x (by simp)]
      exact Bv hF hg
    ·rw [jD,Qu,WZ hcp]
     congr 1
     rw [lJ]
     generalize asv.toList=l
     induction l with
     |nil=>simp [D9]
     |cons x l ih=>simp only [iD,D9,ih];rfl
  ·cases h
 ·cases h
theorem C9 {G:Hp} {K:List (Chunk σ)} {k:Nat} {c:Chunk σ} (h:K[k]? =some c):(K.map (den D G))[k]? =some (den D G c):=by
 rw [iM,h];rfl
theorem Tv {K:List (Chunk σ)} {k off:Nat} (s:σ):BG K (.pt k (.cell off))≠ .obj s:=by
 simp only [BG]
 split
 ·cases iL off 0<;>simp
 ·cases iL off 0<;>simp
 ·simp
theorem Ac0 {K:List (Chunk σ)} {k off:Nat} (s:List (FC σ)):BG K (.pt k (.cell off))≠ .many s:=by
 simp only [BG]
 split
 ·cases iL off 0<;>simp
 ·cases iL off 0<;>simp
 ·simp
theorem Agq {K:List (Chunk σ)}:∀(vs:List Value) (ps:List Pr),AQ K vs ps→∀q s,(q,s)∈CV.go vs (D9 K ps)→∃k,k∈Gz.objK1 ps∧K[k]? =some (.obj q s)
 |[],ps,_,q,s,h=>by simp [CV.go] at h
 |v::vs,[],h,_,_,_=>by simp [AQ] at h
 |v::vs,p::ps,h,q,s,hm=>by
  simp only [AQ] at h
  have ih:=Agq vs ps h.2 q s
  simp only [D9] at hm
  rcases p with _|⟨k,pk⟩|ps'|p'
  ·cases v<;>simp only [BG,CV.go] at hm<;>simpa [Gz.objK1] using ih hm
  ·cases pk with
   |obj=>
    obtain ⟨c,h1,h2⟩:=(by simpa [BH] using h.1:∃c,K[k]? =some c∧DJ c v .obj)
    simp only [Gz.objK1,iG]
    cases c with
    |obj p0 s0=>
     simp only [DJ] at h2
     subst h2
     simp only [BG,h1,CV.go,iG,iP] at hm
     rcases hm with ⟨rfl,rfl⟩|hm
     ·exact ⟨k, .inl rfl,h1⟩
     ·obtain ⟨k',hk',e⟩:=ih hm;exact ⟨k', .inr hk',e⟩
    |_=>
     have hm':(q,s)∈CV.go vs (D9 K ps):=by
      cases v with
      |pointer a=>cases a<;>simpa [BG,h1,CV.go] using hm
      |_=>simpa [BG,h1,CV.go] using hm
     obtain ⟨k',hk',e⟩:=ih hm';exact ⟨k', .inr hk',e⟩
   |slice=>
    have hm':(q,s)∈CV.go vs (D9 K ps):=by
     have hne:∀s',BG K (.pt k .slice)≠ .obj s':= λs'=>by
      simp only [BG];split<;>first|(simp;done)|(cases EY _<;>simp)
     cases v with
     |pointer a=>
      cases a with
      |none=>simpa [CV.go] using hm
      |some p0=>
       cases hi:BG K (.pt k .slice) with
       |obj s'=>exact absurd hi (hne s')
       |_=>simpa [hi,CV.go] using hm
     |_=>simpa [CV.go] using hm
    simpa [Gz.objK1] using ih hm'
   |cell off=>
    have hm':(q,s)∈CV.go vs (D9 K ps):=by
     have hne:∀s',BG K (.pt k (.cell off))≠ .obj s':=Tv
     cases v with
     |pointer a=>
      cases a with
      |none=>simpa [CV.go] using hm
      |some p0=>
       cases hi:BG K (.pt k (.cell off)) with
       |obj s'=>exact absurd hi (hne s')
       |_=>simpa [hi,CV.go] using hm
     |_=>simpa [CV.go] using hm
    simpa [Gz.objK1] using ih hm'
   |elem i off=>cases v<;>simp only [BG,CV.go] at hm<;>simpa [Gz.objK1] using ih hm
   |map=>cases v<;>simp only [BG,CV.go] at hm<;>simpa [Gz.objK1] using ih hm
   |iter=>cases v<;>simp only [BG,CV.go] at hm<;>simpa [Gz.objK1] using ih hm
   |arr off=>cases v<;>simp only [BG,CV.go] at hm<;>simpa [Gz.objK1] using ih hm
  ·cases v<;>simp only [BG,CV.go] at hm<;>simpa [Gz.objK1] using ih hm
  ·cases v<;>simp only [BG,CV.go] at hm<;>simpa [Gz.objK1] using ih hm
theorem Ags {K:List (Chunk σ)}:∀(args:List (Value×FC σ)) (prs:List Pr),AQ K (args.map (·.1)) prs→args.map (·.2)=D9 K prs→∀q s,(q,s)∈J7 args→∃k,k∈Gz prs∧K[k]? =some (.obj q s)
 |[],prs,_,_,q,s,h=>by simp [J7] at h
 |(v,i)::args,[],h,_,_,_,_=>by simp [AQ] at h
 |(v,i)::args,p::ps,h,he,q,s,hm=>by
  simp only [iD,AQ] at h
  simp only [iD,D9,jZ] at he
  obtain ⟨rfl,he⟩:=he
  simp only [J7,lT] at hm
  have ih:=Ags args ps h.2 he q s
  rcases hm with hm|hm
  ·
   rcases p with _|⟨k,pk⟩|ps'|p'
   ·cases v<;>simp [BG,CV] at hm
   ·cases pk with
    |obj=>
     obtain ⟨c,h1,h2⟩:=(by simpa [BH] using h.1:∃c,K[k]? =some c∧DJ c v .obj)
     cases c with
     |obj p0 s0=>
      simp only [DJ] at h2
      subst h2
      simp only [BG,h1,CV,jR,iP] at hm
      obtain ⟨rfl,rfl⟩:=hm
      exact ⟨k,by simp [Gz],h1⟩
     |_=>
      cases v with
      |pointer a=>cases a<;>simp [BG,h1,CV] at hm
      |_=>simp [BG,h1,CV] at hm
    |slice=>
     have hne:∀s',BG K (.pt k .slice)≠ .obj s':= λs'=>by
      simp only [BG];split<;>first|(simp;done)|(cases EY _<;>simp)
     have hnm:∀is',BG K (.pt k .slice)≠ .many is':= λs'=>by
      simp only [BG];split<;>first|(simp;done)|(cases EY _<;>simp)
     cases hi:BG K (.pt k .slice) with
     |obj s'=>exact absurd hi (hne s')
     |many s'=>exact absurd hi (hnm s')
     |_=>
      rw [hi] at hm
      cases v with
      |pointer a=>cases a<;>simp [CV] at hm
      |_=>simp [CV] at hm
    |cell off=>
     have hne:∀s',BG K (.pt k (.cell off))≠ .obj s':=Tv
     have hnm:∀is',BG K (.pt k (.cell off))≠ .many is':=Ac0
     cases hi:BG K (.pt k (.cell off)) with
     |obj s'=>exact absurd hi (hne s')
     |many s'=>exact absurd hi (hnm s')
     |_=>
      rw [hi] at hm
      cases v with
      |pointer a=>cases a<;>simp [CV] at hm
      |_=>simp [CV] at hm
    |elem i off=>cases v<;>simp [BG,CV] at hm
    |map=>cases v<;>simp [BG,CV] at hm
    |iter=>cases v<;>simp [BG,CV] at hm
    |arr off=>cases v<;>simp [BG,CV] at hm
   ·cases v with
    |agg cs=>
     simp only [BG,CV] at hm
     have h1:AQ K cs.toList ps':=by simpa [BH] using h.1
     obtain ⟨k,hk,e⟩:=Agq _ _ h1 q s hm
     exact ⟨k,by simp [Gz,hk],e⟩
    |pointer a=>cases a<;>simp [BG,CV] at hm
    |_=>simp [BG,CV] at hm
   ·cases v with
    |pointer a=>cases a<;>simp [BG,CV] at hm
    |_=>simp [BG,CV] at hm
  ·obtain ⟨k,hk,e⟩:=ih hm
   refine ⟨k,?_,e⟩
   rcases p with _|⟨k',pk⟩|ps'|p'
   ·simpa [Gz] using hk
   ·cases pk<;>simp [Gz,hk]
   ·simp [Gz,hk]
   ·simpa [Gz] using hk
theorem Y5 (G G':Hp):∀(rows:List (Mk σ)) (acs:List (Option Nat×Nat)),((jA ED rows acs:List (Chunk σ)).map (den D G))=((jA ED rows acs:List (Chunk σ)).map (den D G'))
 |[],_=>by simp
 |_::_,[]=>by simp
 |r::rows,ac::acs=>by
  simp only [kK,iD]
  rw [Y5 G G' rows acs]
  congr 1
  cases r with
  |row t cols=>
   simp only [ED]
   cases hf:EY cols with
   |true=>simp only [cond_true,den,hf]
   |false=>rfl
  |obj s=>obtain ⟨a,c⟩:=ac;cases a<;>rfl
section
variable {P:Program} {T:List (Nat×Entry σ)} {g:Option (Nat×Bool)} {n:Nat} {L:List Ak} {K:List (Chunk σ)} {o:Oper} {f:Nat} {args:List (Value×FC σ)} {prs:List Pr} {a:Act} {e:Entry σ} {r:Res σ} {E:Ev} {G:Hp} {w:World}
theorem Y6 {G' Zc:Hp} (hZ:Zc.le G') (hrow:∀(k:Nat) c,K[k]? =some c→(∀q s,c≠ .obj q s)→∃q:Hp,den D G c Zc q∧∀b o,q b=some o→G' b=some o) (hG:∀b o,G b=some o→G' b=some o):
 ∀(args:List (Value×FC σ)) (prs:List Pr),AQ K (args.map (·.1)) prs→args.map (·.2)=D9 K prs→∀x∈args,EC G' Zc x.1 x.2
 |[],_,_,_,x,hx=>by cases hx
 |(v,i)::args,[],h,_,_,_=>by simp [AQ] at h
 |(v,i)::args,p::ps,h,he,x,hx=>by
  simp only [iD,AQ] at h
  simp only [iD,D9,jZ] at he
  obtain ⟨rfl,he⟩:=he
  simp only [iG] at hx
  rcases hx with rfl|hx
  ·exact AmE D hZ hrow hG p v h.1
  ·exact Y6 hZ hrow hG args ps h.2 he x hx
theorem Pn (hok:F9 D P f e) (h1:AQ K (args.map (·.1)) prs) (h2:args.map (·.2)=D9 K prs) {c:Did σ} (hc:e args=some c) (hr:r=c.r c.x) (hpre:∀p∈r.pre,p) (hS:Af D E G w K) (hno:KF args=none):
 Calls P f (args.map (·.1)).toArray w λen w'=>∃acs:List (Option Nat×Nat),Ha r.rows acs∧en= .returned (r.out (jA G5 r.rows acs))∧
  Af D E G w' (K++jA ED r.rows acs):=by
 obtain ⟨Ec,G',_,_,f1,fz,f2,f3,f4⟩:=Sat.frame hS [] (by simp) (by simp)
 refine ((hok args c r hc hr).2 hpre Ec G' w (Y6 D (Zc:=Ec.z) fz (λk c hk _=>let ⟨q,h1,h2⟩:=f2 k _ (C9 D hk);⟨q,h1,h2 (by simp)⟩) f1 args prs h1 h2) (by simpa [RG,hno] using f3)).mono λen w' ⟨acs,g1,g2,g3⟩=>⟨acs,g1,g2,?_⟩
 simp only [MZ,hno,nI] at g3
 rw [Y5 D G' G] at g3
 have g4:=f4 w' _ (by simp) g3
 unfold Af
 rw [jD]
 simp only [G7] at g4
 exact g4
theorem J3 (hok:F9 D P f e) (h1:AQ K (args.map (·.1)) prs) (h2:args.map (·.2)=D9 K prs) {c:Did σ} (hc:e args=some c) (hr:r=c.r c.x) (hpre:∀p∈r.pre,p) (hS:Af D E G w K) {q:Addr} {s:σ} (hob:KF args=some (q,s)):
 ∃k:Nat,k∈Gz prs∧K[k]? =some (.obj q s)∧Calls P f (args.map (·.1)).toArray w λen w'=>∃acs:List (Option Nat×Nat),Ha r.rows acs∧en= .returned (r.out (jA G5 r.rows acs))∧
  Af D E G w' (K.set k (.obj q (r.new.getD s))++jA ED r.rows acs):=by
 have hmem:(q,s)∈J7 args:=by
  unfold KF at hob
  split at hob
  ·rename_i x hx;injection hob with hob;subst hob;rw [hx];simp
  ·cases hob
 obtain ⟨k,hkm,hk⟩:=Ags args prs h1 h2 q s hmem
 refine ⟨k,hkm,hk,?_⟩
 have hklt:k<K.length:=BD hk
 obtain ⟨Ec,G',_,_,f1,fz,f2,f3,f4⟩:=Sat.frame hS [k] (by simp) (by simpa using hklt)
 have hgd:(K.map (den D G)).getD k (λ_ _=>True)=D q s:=by
  rw [iC,C9 D hk];rfl
 have hpre3:Sat Ec G' w (RG D args):=by
  simp only [iD,kD,hgd] at f3
  simp only [RG,hob]
  exact f3
 refine ((hok args c r hc hr).2 hpre Ec G' w (Y6 D (Zc:=Ec.z) fz (λk' c hk' hnob=>let ⟨q,h1,h2⟩:=f2 k' _ (C9 D hk');⟨q,h1,h2 ?_⟩) f1 args prs h1 h2) hpre3).mono λen w' ⟨acs,g1,g2,g3⟩=>⟨acs,g1,g2,?_⟩
 ·simp only [jR]
  rintro rfl
  rw [hk] at hk';injection hk' with hk'
  exact hnob _ _ hk'.symm
 ·have hnew:MZ D args r.new=[D q (r.new.getD s)]:=by simp only [MZ,hob]
  rw [hnew,Y5 D G' G] at g3
  have g4:=f4 w' _ (by simp) g3
  unfold Af
  rw [jD,jU]
  simp only [mO,G7] at g4
  exact g4
end
end
section
open Go.RowKit
variable {σ:Type} (D:Addr→σ→CZ)
section
variable {P:Program} {o:Oper} {a:Act} {w:World}
theorem Aki {x:Operand} (h:o.op= .move x∨o.op= .assign x):(execOp a.eval o).run P w= .ok (.value (a.eval x)) w:=by
 rcases h with h|h<;>simp [execOp,h]
theorem Qv {t:TypeId} {x:Operand} {p:Addr} {v:Value} (h:o.op= .load t x) (hx:a.eval x= .pointer (some p)) (hl:(loadVar t p).run P w= .ok v w):(execOp a.eval o).run P w= .ok (.value v) w:=by
 simp [execOp,h,hx,Instr.loadAt,Instr.sureAddr,hl]
theorem Oz {s:TypeId} {x:Operand} {f:Nat} {p:Addr} {fields:Array Field} {fd:Field} {n:Nat} (h:o.op= .fieldAddr s x f) (hx:a.eval x= .pointer (some p)) (hu:P.underlying s=some (.struct fields))
 (hf:fields[f]? =some fd) (hn:EP P fd.type=some (n+1)):(execOp a.eval o).run P w= .ok (.value (.pointer (some (p.add fd.offset)))) w:=by
 simp [execOp,h,hx,Instr.fieldAt,Instr.sureAddr,run_underlying hu,hf,fieldPlace,Gp hn]
theorem Qw {t e:TypeId} {x ix:Operand} {k:IntKind} {i:Int} {b:Addr} {len cap sz:Nat} (h:o.op= .indexAddr t x ix) (hx:a.eval x= .slice (some b) len cap) (hi:a.eval ix= .int k i)
 (hu:P.underlying t=some (.slice e)) (hn:EP P e=some sz) (h0:0≤i) (h1:i<(len:Int)):(execOp a.eval o).run P w= .ok (.value (.pointer (some (b.add (i.toNat*sz))))) w:=by
 simp [execOp,h,hx,hi,Instr.indexAt,asIntOf,run_underlying hu,Gp hn,h0,h1]
theorem JP {t e:TypeId} {x ix:Operand} {k:IntKind} {i:Int} {b:Addr} {len sz:Nat} (h:o.op= .indexAddr t x ix) (hx:a.eval x= .pointer (some b)) (hi:a.eval ix= .int k i)
 (hu:P.underlying t=some (.array len e)) (hn:EP P e=some sz) (h0:0≤i) (h1:i<(len:Int)):(execOp a.eval o).run P w= .ok (.value (.pointer (some (b.add (i.toNat*sz))))) w:=by
 simp [execOp,h,hx,hi,Instr.indexAt,Instr.sureAddr,asIntOf,run_underlying hu,Gp hn,h0,h1]
theorem Agt {t:TypeId} {x ix:Operand} {k:IntKind} {i:Int} {s:ByteArray} (h:o.op= .index t x ix) (hx:a.eval x= .string s) (hi:a.eval ix= .int k i)
 (hu:P.underlying t=some .string) (h0:0≤i) (h1:i<(s.size:Int)):(execOp a.eval o).run P w= .ok (.value (.int .u8 (sAt s i))) w:=by
 have hlt:i.toNat<s.size:=by omega
 simp [execOp,h,hx,hi,Instr.index,asIntOf,run_underlying hu,h0,sAt,hlt]
theorem Arc {t t':TypeId} {x y:Operand} {k:IntKind} {m d:Int} (h:o.op= .binOp .quo t x y t') (hx:a.eval x= .int k m) (hy:a.eval y= .int k d) (hd:d≠0):
 (execOp a.eval o).run P w= .ok (.value (.int k (k.wrap (m.tdiv d)))) w:=by
 simp [execOp,h,hx,hy,eqGuard,binOp,Op.intDiv,hd]
theorem Ard {t t':TypeId} {x y:Operand} {k:IntKind} {m d:Int} (h:o.op= .binOp .rem t x y t') (hx:a.eval x= .int k m) (hy:a.eval y= .int k d) (hd:d≠0):
 (execOp a.eval o).run P w= .ok (.value (.int k (m.tmod d))) w:=by
 simp [execOp,h,hx,hy,eqGuard,binOp,Op.intDiv,hd]
theorem Arf {t t':TypeId} {x y:Operand} {k k':IntKind} {m d:Int} (h:o.op= .binOp .shl t x y t') (hx:a.eval x= .int k m) (hy:a.eval y= .int k' d) (hd:0≤d):
 (execOp a.eval o).run P w= .ok (.value (.int k (k.wrap (m*2^(min d.toNat k.bits))))) w:=by
 have:¬d<0:=by omega
 simp [execOp,h,hx,hy,eqGuard,binOp,Op.shift,this]
theorem Arh {t t':TypeId} {x y:Operand} {k k':IntKind} {m d:Int} (h:o.op= .binOp .shr t x y t') (hx:a.eval x= .int k m) (hy:a.eval y= .int k' d) (hd:0≤d):
 (execOp a.eval o).run P w= .ok (.value (.int k (m.fdiv (2^(min d.toNat k.bits))))) w:=by
 have:¬d<0:=by omega
 simp [execOp,h,hx,hy,eqGuard,binOp,Op.shift,this]
theorem ApY {c x y:Operand} {t:Bool} (h:o.op= .pick c x y) (hc:a.eval c= .bool t):(execOp a.eval o).run P w= .ok (.value (if t then a.eval x else a.eval y)) w:=by
 cases t<;>simp [execOp,h,hc,asBool]
end
theorem Afj {n:Nat} {L:List Ak} {K:List (Chunk σ)} {a:Act} {g:Option (Nat×Bool)} {c x y:Operand} {v:Value} (hF:Fr n L K a) (hg:GV a.tmps g) (h:Acv g L c x y=some v):
 ∃t,a.eval c= .bool t∧(if t then a.eval x else a.eval y)=v:=by
 unfold Acv at h
 split at h
 ·rename_i t cs hc
  have hce:=AU hF hg hc
  refine ⟨t,hce,?_⟩
  have ha:∀u,(match val g L x with|some v=>some v|none=>val (some (cs,true)) L x)=some u→t=true→a.eval x=u:=by
   intro u hu ht
   split at hu
   ·rename_i v' hv;injection hu with hu;subst hu;exact AU hF hg hv
   ·exact AU (g:=some (cs,true)) hF (by simp only [GV];rw [←ht];exact hce) hu
  have hb:∀u,(match val g L y with|some v=>some v|none=>val (some (cs,false)) L y)=some u→t=false→a.eval y=u:=by
   intro u hu ht
   split at hu
   ·rename_i v' hv;injection hu with hu;subst hu;exact AU hF hg hv
   ·exact AU (g:=some (cs,false)) hF (by simp only [GV];rw [←ht];exact hce) hu
  cases hmk:marked cs L
  rotate_left
  ·rw [hmk] at h
   simp only [cond_true] at h
   cases t
   ·simpa using hb _ h rfl
   ·simpa using ha _ h rfl
  rw [hmk] at h
  simp only [cond_false] at h
  split at h
  ·rename_i u z hA hB
   have ha':=ha _ hA
   have hb':=hb _ hB
   split at h
   ·injection h with h;subst h
    cases t
    ·simpa using hb' rfl
    ·have:=ha' rfl
     simp only [Act.eval,Value.bool.injEq] at this
     simp [Act.eval]
   ·injection h with h;subst h
    cases t
    ·have:=hb' rfl
     simp [Act.eval]
    ·simpa using ha' rfl
   ·injection h with h;subst h
    cases t
    ·simpa using hb' rfl
    ·simpa using ha' rfl
  ·rename_i k u k' z hA hB
   have ha':=ha _ hA
   have hb':=hb _ hB
   split at h
   ·rename_i e _
    injection h with h;subst h;subst e
    cases t
    ·simpa using hb' rfl
    ·simpa using ha' rfl
   ·cases h
  ·cases h
 ·cases h
theorem Agu {P:Program} (d:Nat) (eq:TypeId→Value→Value→Option Bool) (heq:∀t x y r,eq t x y=some r→∀w,(Op.equalIn d t x y).run P w= .ok r w) (xs ys:Array Value):∀(fs:List Field) (r:Bool),Agg P eq xs ys fs=some r→
 ∀w,(Op.eqFields d xs ys fs).run P w= .ok r w
 |[],r,h,w=>by simp only [Agg,iA] at h;subst h;simp [Op.eqFields]
 |f::fs,r,h,w=>by
  simp only [Agg] at h
  cases hn:f.name=="_" with
  |true=>rw [hn] at h;simp at h
  |false=>
   rw [hn] at h
   simp only [cond_false] at h
   split at h
   ·rename_i a b s ha hb hs
    split at h
    ·rename_i q hq
     simp only [iA] at h
     subst h
     have hne:f.name≠"_":=by simpa using hn
     simp only [Op.eqFields,hne,if_true,ne_eq,not_false_eq_true,iR,Ky P _ _ ha,Ky P _ _ hb,Result.andThen_ok,heq _ _ _ _ hq]
     cases q
     ·simp
     ·simpa using Agu d eq heq xs ys fs s hs w
    ·cases h
   ·cases h
theorem Agv {P:Program} (d:Nat) (eq:TypeId→Value→Value→Option Bool) (heq:∀t x y r,eq t x y=some r→∀w,(Op.equalIn d t x y).run P w= .ok r w) (e:TypeId) (c:Nat) (xs ys:Array Value):∀(is:List Nat) (r:Bool),Agh P eq e c xs ys is=some r→
 ∀w,(Op.eqItems d e c xs ys is).run P w= .ok r w
 |[],r,h,w=>by simp only [Agh,iA] at h;subst h;simp [Op.eqItems]
 |i::is,r,h,w=>by
  simp only [Agh] at h
  split at h
  ·rename_i a b s ha hb hs
   split at h
   ·rename_i q hq
    simp only [iA] at h
    subst h
    simp only [Op.eqItems,iR,Ky P _ _ ha,Ky P _ _ hb,Result.andThen_ok,heq _ _ _ _ hq]
    cases q
    ·simp
    ·simpa using Agv d eq heq e c xs ys is s hs w
   ·cases h
  ·cases h
theorem Po {P:Program}:∀(d:Nat) (t:TypeId) (x y:Value) (r:Bool),NQ P d t x y=some r→∀m,d≤m→∀w,(Op.equalIn m t x y).run P w= .ok r w
 |0,t,x,y,r,h,_,_,_=>by simp [NQ] at h
 |d+1,t,x,y,r,h,m,hm,w=>by
  obtain ⟨m',rfl⟩:∃m',m=m'+1:=⟨m-1,by omega⟩
  simp only [NQ] at h
  split at h
  ·rename_i k0 k a k' b hu
   split at h
   ·rename_i e _
    subst e
    simp only [iA] at h;subst h
    exact run_equalIn_int w m' t k k0 a b hu
   ·cases h
  ·rename_i a b hu
   simp only [iA] at h;subst h
   exact run_equalIn_bool' w m' t a b hu
  ·rename_i fs xs ys hu
   cases hs:P.stoodInHeld t with
   |true=>rw [hs] at h;simp at h
   |false=>
    rw [hs] at h
    simp only [cond_false] at h
    have hf:P.fieldsOf t=fs:=by simp [Program.fieldsOf,hu]
    rw [run_equalIn_struct w m' t xs ys (by rw [hf];exact hu) hs,hf]
    exact Agu m' (NQ P d) (λt x y r h w=>Po d t x y r h m' (by omega) w) xs ys fs.toList r h w
  ·rename_i n e xs ys hu
   split at h
   ·rename_i i hi
    rw [run_equalIn_array w m' xs ys hu hi]
    exact Agv m' (NQ P d) (λt x y r h w=>Po d t x y r h m' (by omega) w) e _ xs ys _ r h w
   ·cases h
  ·cases h
theorem Xa {P:Program} {w:World} {d:Nat} {t el:TypeId} {a:Option Addr} {n c m k:Nat} (hu:P.underlying t=some (.slice el)):(Op.equalIn (d+1) t (.slice a n c) (.slice none m k)).run P w= .ok a.isNone w:=by
 unfold Op.equalIn
 simp only [iR,run_underlying hu,Result.andThen_ok]
 cases a<;>simp
theorem Aot {P:Program} {g:Option (Nat×Bool)} {n:Nat} {L:List Ak} {K:List (Chunk σ)} {o:Oper} {a:Act} {b:Bool} (hF:Fr n L K a) (hg:GV a.tmps g) (h:Aom P g L o=some b) (w:World):(execOp a.eval o).run P w= .ok (.value (.bool b)) w:=by
 unfold Aom at h
 split at h
 ·rename_i t x y t' hop
  split at h
  ·rename_i xs ys hx hy
   cases hq:P.eqGuardType P.depth t with
   |true=>rw [hq] at h;simp at h
   |false=>
    rw [hq] at h
    simp only [cond_false] at h
    have hr:=Po 8 t _ _ b h 10000 (by omega)
    simp [execOp,hop,AU hF hg hx,AU hF hg hy,run_eqGuard_agg w .eql t x y xs ys hq,run_eql_struct w t xs ys,hr]
  ·rename_i sa _ _ _ _ hx hy
   split at h
   ·rename_i el hu
    injection h with h;subst h
    have e1:=AU hF hg hx
    have e2:=AU hF hg hy
    have hr:= λn c m k=>Xa (P:=P) (w:=w) (d:=9999) (a:=sa) (n:=n) (c:=c) (m:=m) (k:=k) hu
    simp only [execOp,hop,e1,e2,eqGuard,binOp,Op.equal,Op.maxDepth]
    simp [hr]
   ·cases h
  ·cases h
 ·rename_i t x y t' hop
  split at h
  ·rename_i xs ys hx hy
   cases hq:P.eqGuardType P.depth t with
   |true=>rw [hq] at h;simp at h
   |false=>
    rw [hq] at h
    simp only [cond_false,Option.map_eq_some_iff] at h
    obtain ⟨b',h,rfl⟩:=h
    have hr:=Po 8 t _ _ b' h 10000 (by omega)
    simp [execOp,hop,AU hF hg hx,AU hF hg hy,run_eqGuard_agg w .neq t x y xs ys hq,run_neq_struct w t xs ys,hr]
  ·rename_i sa _ _ _ _ hx hy
   split at h
   ·rename_i el hu
    injection h with h;subst h
    have e1:=AU hF hg hx
    have e2:=AU hF hg hy
    have hr:= λn c m k=>Xa (P:=P) (w:=w) (d:=9999) (a:=sa) (n:=n) (c:=c) (m:=m) (k:=k) hu
    simp only [execOp,hop,e1,e2,eqGuard,binOp,Op.equal,Op.maxDepth]
    simp [hr]
   ·cases h
  ·cases h
 ·cases h
theorem Bg {K:List (Chunk σ)} {v:Value} {k:Nat} {pk:PK}:BH K v (.pt k pk)↔∃c,K[k]? =some c∧DJ c v pk:=by simp [BH]
theorem A8 {K:List (Chunk σ)} {v:Value}:BH K v .no:=by simp [BH]
theorem Xb:∀(qs ps:List Pr) (off:Nat),Rx ps off qs=FP ps off qs
 |[],_,_=>rfl
 |q::qs,ps,off=>by rw [Rx,FP,Xb qs]
theorem Aou {K:List (Chunk σ)} {vs:List Value} {ps:List Pr} (h:AQ K vs ps) (i:Nat) {v:Value} {p:Pr} (hv:BH K v p):AQ K (vs.set i v) (ps.set i p):=by
 rw [MC] at h ⊢
 refine ⟨by simpa using h.1, λj v' p' h1 h2=>?_⟩
 by_cases hij:i=j
 ·subst hij
  rcases jB i vs.length with hl|hl
  ·rw [iT hl] at h1
   rw [iT (by omega)] at h2
   injection h1 with h1;injection h2 with h2;subst h1;subst h2;exact hv
  ·rw [jE (by simpa using hl)] at h1;cases h1
 ·rw [iW hij] at h1 h2
  exact h.2 j v' p' h1 h2
theorem UF {K:List (Chunk σ)}:∀(us:List Value) (qs:List Pr) (vs:List Value) (ps:List Pr) (off:Nat),AQ K vs ps→AQ K us qs→AQ K (FP vs off us) (FP ps off qs)
 |[],[],vs,ps,off,h,_=>by simpa [FP] using h
 |[],_::_,_,_,_,_,h=>by simp [AQ] at h
 |_::_,[],_,_,_,_,h=>by simp [AQ] at h
 |u::us,q::qs,vs,ps,off,h,h'=>by
  simp only [AQ] at h'
  exact UF us qs _ _ _ (Aou h off h'.1) h'.2
theorem Tz (off:Nat):∀(vs:List Value) (k:Nat) (cs:Array Value),((vs.zipIdx k).foldl (λcs x=>cs.setIfInBounds (off+x.2) x.1) cs).toList=FP cs.toList (off+k) vs
 |[],k,cs=>by simp [FP]
 |v::vs,k,cs=>by
  rw [List.zipIdx_cons,List.foldl_cons,Tz off vs (k+1),FP]
  simp [mX]
theorem Akj {K:List (Chunk σ)} (place:Nat→Option (Nat×Nat)):∀(parts:List (Nat×Value×Pr)) (cells cells':Array Value) (ps:List Pr),AQ K cells.toList ps→(∀x∈parts,BH K x.2.1 x.2.2)→
 Instr.fill place cells (parts.map λx=>(x.1,x.2.1))=some cells'→AQ K cells'.toList (ZW place ps parts)
 |[],cells,cells',ps,h,_,hf=>by
  simp only [kD,Instr.fill,iA] at hf
  subst hf
  simpa [ZW] using h
 |(i,v,p)::r,cells,cells',ps,h,hp,hf=>by
  simp only [iD,Instr.fill] at hf
  cases hpl:place i with
  |none=>simp [hpl] at hf
  |some os=>
   obtain ⟨off,size⟩:=os
   simp only [hpl] at hf
   split at hf
   ·cases hf
   ·simp only [ZW,hpl]
    refine Akj place r _ cells' _ ?_ (λx hx=>hp x (by simp [hx])) hf
    rw [←Array.foldl_toList,Array.toList_zipIdx,Xb]
    have e:=Tz off v.cells.toList 0 cells
    simp only [oG] at e
    rw [show (List.foldl (λcs (x:Value×Nat)=>match x with|(c,j)=>cs.setIfInBounds (off+j) c) cells (v.cells.toList.zipIdx)).toList=FP cells.toList off v.cells.toList from e]
    exact UF _ _ _ _ _ h (Aab (hp (i,v,p) (by simp)))
theorem Xc {P:Program} {w:World}:∀(fs:List Field) (pl:List (Nat×Nat)),Oo P fs=some pl→(fs.mapM (m:=Sem) λf=>do pure (f.offset,←sizeOf f.type)).run P w= .ok pl w
 |[],pl,h=>by simp only [Oo,iA] at h;subst h;rfl
 |f::fs,pl,h=>by
  simp only [Oo] at h
  split at h
  ·rename_i n r hn hr
   injection h with h;subst h
   rw [List.mapM_cons]
   simp only [iR,Gp hn,Result.andThen_ok,iY,Xc fs r hr]
  ·cases h
theorem AmH {P:Program} {w w':World} {t:TypeId} {parts:Array (Nat×Value)} {fs:Array Field} {pl:List (Nat×Nat)} {ti:TypeInfo} {z v:Value} (hu:P.underlying t=some (.struct fs)) (hpl:Oo P fs.toList=some pl) (hi:P.info? t=some ti) (hz:ti.zero=some z)
 (h:(Instr.build t parts).run P w= .ok v w'):∃cells,v= .agg cells∧Instr.fill (pl[·]?) z.cells parts.toList=some cells:=by
 unfold Instr.build at h
 simp only [iR,zeroValue,typeInfo,run_program,Result.andThen_ok,hi,hz,iY,run_underlying hu] at h
 rw [nX,Sem.run_map] at h
 have hr:=Xc (w:=w) fs.toList pl hpl
 erw [hr] at h
 simp only [Result.andThen_ok] at h
 have he:(λx:Nat=>pl.toArray[x]?)=(λx:Nat=>pl[x]?):=by funext x;simp
 rw [he] at h
 cases hf:Instr.fill (λx=>pl[x]?) z.cells parts.toList with
 |none=>rw [hf] at h;simp at h
 |some cells=>
  rw [hf] at h
  simp only [iY,Result.ok.injEq] at h
  exact ⟨cells,h.1.symm,rfl⟩
theorem Aln {P:Program} {g:Option (Nat×Bool)} {n:Nat} {L:List Ak} {K:List (Chunk σ)} {o:Oper} {a:Act} {v:Value} (hF:Fr n L K a) (hg:GV a.tmps g) (hall:o.op.operands.all (λx=>(val g L x).isSome)=true) {w:World}
 (h:(execOp a.eval o).run P w= .ok (.value v) w):BH K v (Acw P g L o):=by
 have hval:∀x∈o.op.operands,a.eval x=rho g L x:= λx hx=>KT hF hg (by
  rw [kC] at hall
  exact hall x hx)
 unfold Acw
 split
 ·
  rename_i t parts hop
  unfold Akf
  split
  ·rename_i fs i hu hi
   split
   ·rename_i pl z hpl hz
    have hrun:(Instr.build t (parts.map λx=>(x.1,a.eval x.2))).run P w= .ok v w:=by
     simp only [execOp,hop,iR] at h
     generalize hgr:(Instr.build t (Array.map (λx=>(x.1,a.eval x.2)) parts)).run P w=r at h
     cases r with
     |ok u w1=>simp only [Result.andThen_ok,iY,Result.ok.injEq,Next.value.injEq] at h;obtain ⟨rfl,rfl⟩:=h;rfl
     |halt x w1=>simp [Result.andThen] at h
    obtain ⟨cells,rfl,hf⟩:=AmH hu hpl hi hz hrun
    have hmem:∀x∈parts.toList,a.eval x.2=rho g L x.2∧BH K (rho g L x.2) (Dl g L x.2):= λx hx=>by
     have he:=hval x.2 (by rw [hop];simp only [Op.operands];exact List.mem_toArray.2 (List.mem_map_of_mem hx))
     exact ⟨he,by rw [←he];exact Bv hF hg⟩
    have hlist:(parts.map λx=>(x.1,a.eval x.2)).toList=(parts.toList.map λx=>(x.1,rho g L x.2,Dl g L x.2)).map λx=>(x.1,x.2.1):=by
     rw [lY,lJ]
     apply lR
     intro x hx
     simp [(hmem x hx).1]
    rw [hlist] at hf
    have hz0:AQ K z.cells.toList (Qn z.cells.size):=by simpa using UD (K:=K) z.cells.toList
    have:=Akj (K:=K) (pl[·]?) _ z.cells cells (Qn z.cells.size) hz0 (λx hx=>by
     simp only [kN] at hx
     obtain ⟨y,hy,rfl⟩:=hx
     exact (hmem y hy).2) hf
    have:=JO this
    rw [mW] at this
    exact this
   ·exact A8
  ·exact A8
 ·
  rename_i t x f hop
  have hx:=Bv (x:=x) hF hg
  unfold Am9
  split
  ·rename_i fs ps hu hp
   rw [hp] at hx
   split
   ·rename_i fd hf
    have hrun:(Instr.field t (a.eval x) f).run P w= .ok v w:=by
     simp only [execOp,hop,iR] at h
     cases hr:(Instr.field t (a.eval x) f).run P w with
     |ok u w1=>rw [hr] at h;simp only [Result.andThen_ok,iY,Result.ok.injEq,Next.value.injEq] at h;obtain ⟨rfl,rfl⟩:=h;rfl
     |halt y w1=>rw [hr] at h;simp [Result.andThen] at h
    cases hex:a.eval x with
    |agg cs=>
     rw [hex] at hx hrun
     have hps:AQ K cs.toList ps:=by simpa [BH] using hx
     rw [MC] at hps
     simp only [Instr.field,iR,run_underlying hu,Result.andThen_ok,hf,asAgg,iY,Go.part] at hrun
     split
     ·rename_i m ha hs
      rw [RH ha] at hrun
      simp only [Result.andThen_ok,if_true,iR,Gp hs,iY,Result.ok.injEq,and_true] at hrun
      subst hrun
      have hq:AQ K (cs.extract fd.offset (fd.offset+m)).toList ((ps.drop fd.offset).take m):=by
       rw [MC]
       constructor
       ·simp;have:=hps.1;simp at this;omega
       ·intro i v p h1 h2
        rw [kJ] at h2
        split at h2
        ·rename_i him
         rw [lN] at h2
         rw [Array.toList_extract,List.extract_eq_take_drop,kJ] at h1
         split at h1
         ·rw [lN] at h1;exact hps.2 _ v p h1 h2
         ·cases h1
        ·cases h2
      have:=JO hq
      rw [mW] at this
      exact this
     ·rename_i m ha
      rw [RH ha] at hrun
      simp only [Result.andThen_ok,kQ,if_false] at hrun
      cases hc:cs[fd.offset]? with
      |none=>rw [hc] at hrun;simp at hrun
      |some u=>
       rw [hc] at hrun
       simp only [iY,Result.ok.injEq,and_true] at hrun
       subst hrun
       rw [iC]
       cases hp':ps[fd.offset]? with
       |none=>simpa using A8
       |some p'=>exact hps.2 fd.offset u p' (by simpa using hc) hp'
     ·exact A8
    |_=>rw [hex] at hrun;simp [Instr.field,run_underlying hu,hf,asAgg] at hrun
   ·exact A8
  ·exact A8
 ·
  rename_i x i hop
  have hx:=Bv (x:=x) hF hg
  unfold Ap6
  split
  ·rename_i ps hp
   rw [hp] at hx
   cases hex:a.eval x with
   |tuple vs=>
    rw [hex] at hx
    have hps:AQ K vs.toList ps:=by simpa [BH] using hx
    rw [MC] at hps
    simp only [execOp,hop,hex,Instr.extract,iR] at h
    cases hv:vs[i]? with
    |none=>rw [hv] at h;simp at h
    |some u=>
     rw [hv] at h
     simp only [iY,Result.andThen_ok,Result.ok.injEq,Next.value.injEq,and_true] at h
     subst h
     rw [iC]
     cases hp':ps[i]? with
     |none=>simpa using A8
     |some p'=>exact hps.2 i u p' (by simpa using hv) hp'
   |_=>simp [execOp,hop,hex,Instr.extract] at h
  ·exact A8
 ·
  rename_i t x hop
  have hx:=Bv (x:=x) hF hg
  split
  ·exact A8
  ·rename_i p hp hno
   cases hc:P.concrete t with
   |false=>exact A8
   |true=>
    simp only [execOp,hop,iR,run_makeInterface w t (a.eval x) hc,Result.andThen_ok,iY,Result.ok.injEq,Next.value.injEq,and_true] at h
    subst h
    simp only [cond_true,BH]
    exact hx
 ·
  rename_i fn x hop
  simp only [execOp,hop,Instr.makeFunc,iR,iY,Result.andThen_ok,Result.ok.injEq,Next.value.injEq,and_true] at h
  subst h
  have hx:=Bv (x:=x) hF hg
  split
  ·exact A8
  ·simp only [BH]
   exact ⟨a.eval x,by simp,hx⟩
 ·
  rename_i fn first caps _ hop
  simp only [execOp,hop,Instr.makeFunc,iR,iY,Result.andThen_ok,Result.ok.injEq,Next.value.injEq,and_true] at h
  subst h
  apply AiP
  rw [lY]
  generalize caps.toList=l
  induction l with
  |nil=>simp [AQ]
  |cons x l ih=>
   simp only [iD,AQ]
   exact ⟨Bv hF hg,ih⟩
 ·
  rename_i x hop
  split
  ·rename_i q hv
   have hx:=Bv (x:=x) hF hg
   have he:=AU hF hg hv
   simp only [execOp,hop,he,iY,Result.ok.injEq,Next.value.injEq,and_true] at h
   subst h
   rw [he] at hx;exact hx
  ·exact A8
 ·exact A8
theorem Qa {k kk vk:IntKind} {i:Int}:∀(es:List MapEntry) (m:Nat),(∀e∈es,∃x y,e.key= .int kk x∧e.val= .int vk y)→
 (Instr.findNow (.int k) (.int kk i) es m=some none∧Ir es i=none∧∀e∈es,e.key≠ .int kk i)∨∃j e y,Instr.findNow (.int k) (.int kk i) es m=some (some (m+j, .int vk y))∧Ir es i=some y∧es[j]? =some e∧e.key= .int kk i∧∀j',j'<j→∀e',es[j']? =some e'→e'.key≠ .int kk i
 |[],m,_=> .inl ⟨rfl,rfl,by simp⟩
 |e::es,m,h=>by
  obtain ⟨x,y,hk,hv⟩:=h e (by simp)
  by_cases hi:i=x
  ·subst hi
   exact .inr ⟨0,e,y,by simp [Instr.findNow,Instr.sameNow,hk,hv],by simp [Ir,hk,hv],rfl,hk, λj' hj=>absurd hj (kB _)⟩
  ·have hb:(i==x)=false:=by simpa using hi
   have hne:e.key≠ .int kk i:=by rw [hk];intro e';injection e' with _ e';exact hi e'.symm
   rcases Qa (k:=k) (i:=i) es (m+1) (λe he=>h e (by simp [he])) with ⟨h1,h2,h3⟩|⟨j,e',z,h1,h2,h3,h4,h5⟩
   ·refine .inl ⟨by simp [Instr.findNow,Instr.sameNow,hk,hb,h1],by simp [Ir,hk,hv,hb,h2], λe' he'=>?_⟩
    simp only [iG] at he'
    rcases he' with rfl|he'
    ·exact hne
    ·exact h3 e' he'
   ·refine .inr ⟨j+1,e',z,by simp [Instr.findNow,Instr.sameNow,hk,hb,h1];omega,by simp [Ir,hk,hv,hb,h2],by simpa using h3,h4, λj' hj' e'' he''=>?_⟩
    cases j' with
    |zero=>simp at he'';subst he'';exact hne
    |succ j'=>exact h5 j' (by omega) e'' (by simpa using he'')
theorem Alo {P:Program} {o:Oper} {a:Act} {w:World} {t:TypeId} {x ix:Operand} {ok:Bool} {b clock:Nat} {kk kk' vk:IntKind} {i:Int} {kt et:TypeId} {es:Array MapEntry} {f:Int→Option Int} (hop:o.op= .lookup t x ix ok) (hx:a.eval x= .map (some b)) (hi:a.eval ix= .int kk i)
 (hu:P.underlying t=some (.map kt et)) (hkt:P.underlying kt=some (.int kk')) (hz:(P.info? et).bind (·.zero)=some (.int vk 0)) (hb:w.heap[b]? =some (.map es clock)) (hm:AfU kk vk es.toList f):
 (execOp a.eval o).run P w= .ok (.value (bif ok then .tuple #[.int vk ((f i).getD 0), .bool (f i).isSome] else .int vk ((f i).getD 0))) w:=by
 have hzz:∀w:World,(zeroValue et).run P w= .ok (.int vk 0) w:= λw=>by
  cases hti:P.info? et with
  |none=>rw [hti] at hz;cases hz
  |some ti=>
   rw [hti] at hz
   simp only [Option.bind_some] at hz
   simp [zeroValue,typeInfo,hti,hz]
 have hck:(Instr.checkKey es.isEmpty 10000 kt (.int kk i)).run P w= .ok () w:=by
  unfold Instr.checkKey
  simp only [iR,run_underlying hkt,Result.andThen_ok,iY]
 have hm2:=hm.2 i
 rcases Qa (k:=kk') (i:=i) es.toList 0 hm.1 with ⟨h1,h2,_⟩|⟨j,e,y,h1,h2,_⟩
 ·rw [h2] at hm2
  have hf:(Instr.findKey kt (.int kk i) es.toList).run P w= .ok none w:=by simp [Instr.findKey,run_underlying hkt,h1]
  simp only [execOp,hop,hx,hi,Instr.lookup,iR,run_underlying hu,Result.andThen_ok,MapKept.run_getObj_map hb,iY,hck,hf,hzz,←hm2]
  cases ok<;>rfl
 ·rw [h2] at hm2
  have hf:(Instr.findKey kt (.int kk i) es.toList).run P w= .ok (some (0+j, .int vk y)) w:=by simp [Instr.findKey,run_underlying hkt,h1]
  simp only [execOp,hop,hx,hi,Instr.lookup,iR,run_underlying hu,Result.andThen_ok,MapKept.run_getObj_map hb,iY,hck,hf,←hm2]
  cases ok<;>rfl
theorem Xd {b:Nat}:∀{K:List (Chunk σ)} {k k' n:Nat} {cols:List Au},FZ b k K=some (k',n,cols)→∃m cap,k'=k+m∧K[m]? =some (.ro (some ⟨b,0,none⟩) n cap cols)
 |[],_,_,_,_,h=>by simp [FZ] at h
 |c::r,k,k',n,cols,h=>by
  have next:FZ b (k+1) r=some (k',n,cols)→∃m cap,k'=k+m∧(c::r)[m]? =some (.ro (some ⟨b,0,none⟩) n cap cols):= λh=>by
   obtain ⟨m,cap,h1,h2⟩:=Xd h
   exact ⟨m+1,cap,by omega,by simpa using h2⟩
  unfold FZ at h
  split at h
  ·rename_i h0;cases h0
  ·rename_i b' n' cap' cols' r' h0
   injection h0 with e1 e2
   subst e1;subst e2
   cases hbz:(iL b b'&&!(EY cols')) with
   |true=>
    rw [hbz] at h
    simp only [cond_true,iA,iP] at h
    obtain ⟨rfl,rfl,rfl⟩:=h
    simp only [iE] at hbz
    have hb:=hbz.1
    have:=iF hb
    subst this
    exact ⟨0,cap',rfl,rfl⟩
   |false=>rw [hbz] at h;simp only [cond_false] at h;exact next h
  ·rename_i h0
   injection h0 with e1 e2
   subst e1;subst e2
   exact next h
theorem D5 {P:Program} {o:Oper} {a:Act} {C:World→Prop} {w:World} {v:Value} (h:(execOp a.eval o).run P w= .ok (.value v) w):o.quietAt P a C w v∧((∀c,o.op≠ .call c)→(execOp a.eval o).run P w= .ok (.value v) w):=⟨Y4 h, λ_=>h⟩
theorem AiT {P:Program} {g:Option (Nat×Bool)} {L:List Ak} {K:List (Chunk σ)} {o:Oper} {x:Nat×List (Value×FC σ)×List Pr} (h:callOf P g L K o=some x):∃c,o.op= .call c:=by
 unfold callOf at h
 split at h
 ·rename_i hop;exact ⟨_,hop⟩
 ·rename_i hop;exact ⟨_,hop⟩
 ·cases h
def QS (P:Program) (o:Oper) (a:Act) (E:Ev) (G:Hp) (K:List (Chunk σ)) (v:Value) (p:Pr):Prop:=
 (∀w,Af D E G w K→o.quietAt P a (λw'=>Af D E G w' K) w v∧((∀c,o.op≠ .call c)→(execOp a.eval o).run P w= .ok (.value v) w))∧BH K v p
theorem Jt {P:Program} {T:List (Nat×Entry σ)} (hT:BO D P T) {g:Option (Nat×Bool)} {n:Nat} {L:List Ak} {K:List (Chunk σ)} {o:Oper} {a:Act} {v:Value} {p:Pr} {ps:List Prop}
 (hF:Fr n L K a) (hg:GV a.tmps g) (h:Hw P T g L K o=some (v,p,ps)) (hps:∀q∈ps,q) {E:Ev} {G:Hp} {w0:World} (hS:Af D E G w0 K):QS D P o a E G K v p:=by
 unfold Hw at h
 split at h
 ·
  rename_i x hop
  split at h
  ·rename_i u hu
   simp only [iA,iP] at h;obtain ⟨rfl,rfl,rfl⟩:=h
   have hv:=AU hF hg hu
   exact ⟨λw _=>D5 (by rw [Aki (.inl hop),hv]),by rw [←hv];exact Bv hF hg⟩
  ·cases h
 ·
  rename_i x hop
  split at h
  ·rename_i u hu
   simp only [iA,iP] at h;obtain ⟨rfl,rfl,rfl⟩:=h
   have hv:=AU hF hg hu
   exact ⟨λw _=>D5 (by rw [Aki (.inr hop),hv]),by rw [←hv];exact Bv hF hg⟩
  ·cases h
 ·
  rename_i c x y hop
  split at h
  ·rename_i u hu
   simp only [iA,iP] at h;obtain ⟨rfl,rfl,rfl⟩:=h
   obtain ⟨t,h1,h2⟩:=Afj hF hg hu
   exact ⟨λw _=>D5 (by rw [ApY hop h1,h2]),A8⟩
  ·cases h
 ·
  rename_i t x hop
  have hpx:=Bv (x:=x) hF hg
  split at h
  ·rename_i k off hpr
   rw [hpr,Bg] at hpx
   obtain ⟨c,hk,hc⟩:=hpx
   split at h
   ·rename_i b t0 cs hk'
    rw [hk'] at hk;injection hk with hk;subst hk
    split at h
    ·rename_i u pu hu
     simp only [iA,iP] at h;obtain ⟨rfl,rfl,rfl⟩:=h
     refine ⟨λw hw=>D5 (Qv hop hc (Nz (b:=b) (t0:=t0) (fr:=(0,0)) ?_ hu)),Tu (hF.kok _ _ _ _ hk') hu⟩
     obtain ⟨_,q,_,hq,hs⟩:=hw.get D hk'
     exact hs _ _ hq
    ·cases h
   ·rename_i b t0 vs hk'
    rw [hk'] at hk;injection hk with hk;subst hk
    split at h
    ·rename_i u pu hu
     simp only [iA,iP] at h;obtain ⟨rfl,rfl,rfl⟩:=h
     refine ⟨λw hw=>D5 (Qv hop hc (Nz (b:=b) (t0:=t0) (fr:=(0,0)) ?_ hu)),A8⟩
     obtain ⟨_,q,_,hq,_⟩:=hw.get D hk'
     have:=hw.G D _ _ hq
     rw [lJ]
     simpa [Function.comp_def] using this
    ·cases h
   ·cases h
  ·rename_i k i off hpr
   rw [hpr,Bg] at hpx
   obtain ⟨c,hk,hc⟩:=hpx
   split at h
   ·rename_i a' t0 m cap cols hk'
    rw [hk'] at hk;injection hk with hk;subst hk
    split at h
    ·rename_i u hu
     simp only [iA,iP] at h;obtain ⟨rfl,rfl,rfl⟩:=h
     refine ⟨λw hw=>?_,A8⟩
     rcases UE D hw hk' hc with ⟨_,_,_,_,_,b,e1,e2,e3⟩|⟨_,_,_,_,b,e1,_⟩|e1
     ·injection e1 with _ _ _ _ e1;subst e1
      exact D5 (Qv hop e2 (PY e3 hu))
     ·cases e1
     ·cases e1
    ·cases h
   ·rename_i a' m cap cols hk'
    rw [hk'] at hk;injection hk with hk;subst hk
    cases hsl:slB cols with
    |true=>rw [hsl] at h;cases h
    |false=>
    rw [hsl,cond_false] at h
    split at h
    ·rename_i u hu
     simp only [iA,iP] at h;obtain ⟨rfl,rfl,rfl⟩:=h
     refine ⟨λw hw=>?_,A8⟩
     rcases UE D hw hk' hc with ⟨_,_,_,_,_,b,e1,_⟩|⟨_,_,_,_,b,e1,e2,e3⟩|e1
     ·cases e1
     ·injection e1 with _ _ _ e1;subst e1
      exact D5 (Qv hop e2 (PY e3 hu))
     ·cases e1
    ·cases h
   ·cases h
  ·cases h
 ·
  rename_i s x f hop
  have hpx:=Bv (x:=x) hF hg
  split at h
  ·rename_i fields k pk hu hpr
   rw [hpr,Bg] at hpx
   obtain ⟨c,hk,hc⟩:=hpx
   split at h
   ·rename_i fd qd hf hv
    have hev:=AU hF hg hv
    rw [hev] at hc
    split at h
    ·rename_i m hn
     split at h
     ·rename_i off
      split at h
      ·rename_i ad
       simp only [iA,iP] at h;obtain ⟨rfl,rfl,rfl⟩:=h
       refine ⟨λw _=>D5 (Oz hop hev hu hf hn),?_⟩
       rw [Bg]
       refine ⟨c,hk,?_⟩
       cases c with
       |dead=>trivial
       |cells b t cs=>
        simp only [DJ] at hc ⊢
        injection hc with hc;injection hc with hc;subst hc
        rw [Addr.JB]
       |roc b t cs=>
        simp only [DJ] at hc ⊢
        injection hc with hc;injection hc with hc;subst hc
        rw [Addr.JB]
       |_=>exact hc.elim
      ·cases h
     ·rename_i i off
      split at h
      ·cases h
      rename_i hdead
      simp only [iA,iP] at h;obtain ⟨rfl,rfl,rfl⟩:=h
      cases c with
      |dead=>exact absurd hk hdead
      |row a t n cap cols=>
       obtain ⟨h1,b,h2,h3⟩:=hc
       injection h3 with h3;subst h3
       refine ⟨λw _=>D5 (Oz hop hev hu hf hn),?_⟩
       rw [Bg]
       exact ⟨_,hk,h1,b,h2,by simp only [iS];rw [Addr.add_add,mX]⟩
      |ro a n cap cols=>
       obtain ⟨h1,b,h2,h3⟩:=hc
       injection h3 with h3;subst h3
       refine ⟨λw _=>D5 (Oz hop hev hu hf hn),?_⟩
       rw [Bg]
       exact ⟨_,hk,h1,b,h2,by simp only [iS];rw [Addr.add_add,mX]⟩
      |_=>exact hc.elim
     ·cases h
    ·cases h
   ·cases h
  ·cases h
 ·
  rename_i t x ix hop
  have hpx:=Bv (x:=x) hF hg
  split at h
  ·rename_i e k ad m cap kk i hu hpr hvx hvi
   have hex:=AU hF hg hvx
   have hei:=AU hF hg hvi
   rw [hpr,hex,Bg] at hpx
   obtain ⟨c,hk,hc⟩:=hpx
   split at h
   ·rename_i sz a' t0 n' cap' cols hsz hk'
    rw [hk'] at hk;injection hk with hk;subst hk
    cases hbq:iL sz cols.length with
    |false=>rw [hbq] at h;simp at h
    |true=>
     rw [hbq] at h
     have hlen:=iF hbq
     simp only [cond_true,iA,iP] at h;obtain ⟨rfl,rfl,rfl⟩:=h
     have hb:=GY (p:=0≤i∧i<(m:Int)) hF hg (hps _ (by simp))
     simp only [DJ] at hc
     injection hc with hc1 hc2 hc3
     subst hc1;subst hc2
     have hin:i.toNat<m:=by omega
     obtain ⟨_,q,_,hq,_⟩:=hS.get D hk'
     obtain ⟨b,hb',_⟩:=(WA D hq).2.1 i.toNat hin
     cases a' with
     |none=>simp at hb'
     |some b0=>
      exact ⟨λw hw=>D5 (Qw hop hex hei hu hsz hb.1 hb.2),Bg.2 ⟨_,hk',hin,b0,rfl,by simp [hlen]⟩⟩
   ·rename_i sz a' n' cap' cols hsz hk'
    rw [hk'] at hk;injection hk with hk;subst hk
    cases hbq:iL sz cols.length with
    |false=>rw [hbq] at h;simp at h
    |true=>
     rw [hbq] at h
     have hlen:=iF hbq
     simp only [cond_true,iA,iP] at h;obtain ⟨rfl,rfl,rfl⟩:=h
     have hb:=GY (p:=0≤i∧i<(m:Int)) hF hg (hps _ (by simp))
     simp only [DJ] at hc
     injection hc with hc1 hc2 hc3
     subst hc1;subst hc2
     have hin:i.toNat<m:=by omega
     obtain ⟨_,q,_,hq,_⟩:=hS.get D hk'
     obtain ⟨b,hb',_⟩:=hq.1.2.1 i.toNat hin
     subst hb'
     exact ⟨λw hw=>D5 (Qw hop hex hei hu hsz hb.1 hb.2),Bg.2 ⟨_,hk',hin,b,rfl,by simp [hlen]⟩⟩
   ·cases h
  ·rename_i len e k off ad kk i hu hpr hvx hvi
   have hex:=AU hF hg hvx
   have hei:=AU hF hg hvi
   rw [hpr,hex,Bg] at hpx
   obtain ⟨c,hk,hc⟩:=hpx
   split at h
   ·rename_i u sz hsz
    cases hbq:decide (0≤i)&&decide (i<(len:Int)) with
    |false=>rw [hbq] at h;simp at h
    |true=>
     rw [hbq] at h
     simp only [cond_true,iA,iP] at h;obtain ⟨rfl,rfl,rfl⟩:=h
     simp only [iE,decide_eq_true_eq] at hbq
     refine ⟨λw _=>D5 (JP hop hex hei hu hsz hbq.1 hbq.2),Bg.2 ⟨c,hk,?_⟩⟩
     cases c with
     |dead=>trivial
     |cells b t cs=>
      simp only [DJ] at hc ⊢
      injection hc with hc;injection hc with hc;subst hc
      rw [Addr.JB]
     |roc b t cs=>
      simp only [DJ] at hc ⊢
      injection hc with hc;injection hc with hc;subst hc
      rw [Addr.JB]
     |_=>exact hc.elim
   ·rename_i u sz hsz
    simp only [iA,iP] at h;obtain ⟨rfl,rfl,rfl⟩:=h
    have hb:=GY (p:=0≤i∧i<(len:Int)) hF hg (hps _ (by simp))
    refine ⟨λw _=>D5 (JP hop hex hei hu hsz hb.1 hb.2),Bg.2 ⟨c,hk,?_⟩⟩
    cases c with
    |dead=>trivial
    |cells b t cs=>
     simp only [DJ] at hc ⊢
     injection hc with hc;injection hc with hc;subst hc
     rw [Addr.JB]
    |roc b t cs=>
     simp only [DJ] at hc ⊢
     injection hc with hc;injection hc with hc;subst hc
     rw [Addr.JB]
    |_=>exact hc.elim
   ·cases h
  ·rename_i len e k j off q kk i hu hpr hvx hvi
   have hex:=AU hF hg hvx
   have hei:=AU hF hg hvi
   rw [hpr,hex,Bg] at hpx
   obtain ⟨c,hk,hc⟩:=hpx
   split at h
   ·rename_i sz a' n' cap' cols hsz hk'
    rw [hk'] at hk;injection hk with hk;subst hk
    simp only [iA,iP] at h;obtain ⟨rfl,rfl,rfl⟩:=h
    have hb:=GY (p:=0≤i∧i<(len:Int)) hF hg (hps _ (by simp))
    obtain ⟨h1,b,h2,h3⟩:=hc
    injection h3 with h3;subst h3
    refine ⟨λw _=>D5 (JP hop hex hei hu hsz hb.1 hb.2),?_⟩
    rw [Bg]
    exact ⟨_,hk',h1,b,h2,by simp only [iS];rw [Addr.add_add,mX]⟩
   ·cases h
  ·rename_i len e ad kk i hu hpr hvx hvi
   have hex:=AU hF hg hvx
   have hei:=AU hF hg hvi
   split at h
   ·rename_i b sz hsz
    split at h
    ·rename_i k n' cols hfr
     cases hbq:iL n' len&&iL sz cols.length with
     |false=>rw [hbq] at h;simp at h
     |true=>
      rw [hbq] at h
      simp only [cond_true,iA,iP] at h;obtain ⟨rfl,rfl,rfl⟩:=h
      simp only [iE] at hbq
      have hb1:=iF hbq.1
      have hb2:=iF hbq.2
      have hb:=GY (p:=0≤i∧i<(len:Int)) hF hg (hps _ (by simp))
      obtain ⟨m,cap,hkm,hK⟩:=Xd hfr
      have had:ad=⟨b,0,none⟩:=by
       simp only [val,iA,Value.pointer.injEq] at hvx
       exact hvx.symm
      have hK':K[k]? =some (.ro (some ⟨b,0,none⟩) n' cap cols):=by rw [hkm,lD];exact hK
      refine ⟨λw _=>D5 (JP hop hex hei hu hsz hb.1 hb.2),Bg.2 ⟨_,hK',⟨by omega,_,rfl,by rw [had,hb2,oG]⟩⟩⟩
    ·cases h
   ·cases h
  ·cases h
 ·
  rename_i t x ix hop
  split at h
  ·rename_i st kk i hu hvx hvi
   simp only [iA,iP] at h;obtain ⟨rfl,rfl,rfl⟩:=h
   have hb:=GY (p:=0≤i∧i<(st.size:Int)) hF hg (hps _ (by simp))
   exact ⟨λw _=>D5 (Agt hop (AU hF hg hvx) (AU hF hg hvi) hu hb.1 hb.2),A8⟩
  ·cases h
 ·
  rename_i t x y t' hop
  split at h
  ·rename_i k m k' d hx hy
   split at h
   ·rename_i e _
    subst e
    simp only [iA,iP] at h;obtain ⟨rfl,rfl,rfl⟩:=h
    have hd:=GY (p:=d≠0) hF hg (hps _ (by simp))
    exact ⟨λw _=>D5 (Arc hop (AU hF hg hx) (AU hF hg hy) hd),A8⟩
   ·cases h
  ·cases h
 ·
  rename_i t x y t' hop
  split at h
  ·rename_i k m k' d hx hy
   split at h
   ·rename_i e _
    subst e
    simp only [iA,iP] at h;obtain ⟨rfl,rfl,rfl⟩:=h
    have hd:=GY (p:=d≠0) hF hg (hps _ (by simp))
    exact ⟨λw _=>D5 (Ard hop (AU hF hg hx) (AU hF hg hy) hd),A8⟩
   ·cases h
  ·cases h
 ·
  rename_i t x y t' hop
  split at h
  ·rename_i k m k' d hx hy
   simp only [iA,iP] at h;obtain ⟨rfl,rfl,rfl⟩:=h
   have hd:=GY (p:=0≤d) hF hg (hps _ (by simp))
   exact ⟨λw _=>D5 (Arf hop (AU hF hg hx) (AU hF hg hy) hd),A8⟩
  ·cases h
 ·
  rename_i t x y t' hop
  split at h
  ·rename_i k m k' d hx hy
   simp only [iA,iP] at h;obtain ⟨rfl,rfl,rfl⟩:=h
   have hd:=GY (p:=0≤d) hF hg (hps _ (by simp))
   exact ⟨λw _=>D5 (Arh hop (AU hF hg hx) (AU hF hg hy) hd),A8⟩
  ·cases h
 ·cases h
 ·cases h
 ·
  rename_i t x ix ok hop
  have hpx:=Bv (x:=x) hF hg
  split at h
  ·rename_i k ki i kt et hpr hvi hu
   have hei:=AU hF hg hvi
   rw [hpr,Bg] at hpx
   obtain ⟨c,hk,hc⟩:=hpx
   split at h
   ·rename_i b kk vk f hk'
    rw [hk'] at hk;injection hk with hk;subst hk
    split at h
    ·rename_i e1 kk' vk' _ hukt hz
     subst e1
     split at h
     ·rename_i e2 e3 _ _
      subst e2;subst e3
      simp only [iA,iP] at h;obtain ⟨rfl,rfl,rfl⟩:=h
      refine ⟨λw hw=>D5 ?_,A8⟩
      obtain ⟨_,q,_,⟨es,clock,hes,hm⟩,hs⟩:=hw.get D hk'
      exact Alo hop hc hei hu hukt hz (hs _ _ hes) hm
     ·cases h
    ·cases h
   ·cases h
  ·cases h
 ·cases h
 ·cases h
 ·
  rename_i hsel _ _ _ _
  split at h
  ·rename_i f args prs hcall
   split at h
   ·rename_i e he
    split at h
    ·rename_i cd hcd
     split at h
     ·rename_i pre out outp hr
      split at h
      rotate_left
      ·cases h
      rename_i hop0
      simp only [iA,iP] at h;obtain ⟨rfl,rfl,rfl⟩:=h
      have hpre:∀q∈pre,q:= λq hq=>GY hF hg (hps _ (List.mem_map_of_mem hq))
      refine ⟨λw hw=>⟨?_, λhnc=>(by obtain ⟨c,hcc⟩:=AiT hcall;exact absurd hcc (hnc c))⟩,A8⟩
      obtain ⟨hrun,hps1,hps2⟩:=Lh hF hg hcall w
      unfold Oper.quietAt
      rw [hrun]
      refine ⟨rfl,?_⟩
      have hok:=Agp D hT he
      cases hob:KF args with
      |none=>
       refine (Pn D hok hps1 hps2 hcd hr.symm hpre hw hob).mono λen w' ⟨acs,g1,g2,g3⟩=>?_
       have:acs=[]:=by
        cases acs with
        |nil=>rfl
        |cons _ _=>exact g1.elim
       subst this
       exact ⟨g2,by simpa using g3⟩
      |some qs=>
       obtain ⟨q,s⟩:=qs
       obtain ⟨k,_,hk,hc⟩:=J3 D hok hps1 hps2 hcd hr.symm hpre hw hob
       refine hc.mono λen w' ⟨acs,g1,g2,g3⟩=>?_
       have:acs=[]:=by
        cases acs with
        |nil=>rfl
        |cons _ _=>exact g1.elim
       subst this
       have hset:K.set k (Chunk.obj q s)=K:=by
        apply lB
        intro i
        by_cases hik:k=i
        ·subst hik;rw [iT (BD hk),hk]
        ·rw [iW hik]
       exact ⟨g2,by simpa [hset] using g3⟩
     ·cases h
    ·cases h
   ·cases h
  ·split at h
   ·rename_i b hb
    simp only [iA,iP] at h;obtain ⟨rfl,rfl,rfl⟩:=h
    exact ⟨λw _=>D5 (Aot hF hg hb w),A8⟩
   cases hall:o.op.operands.all (λx=>(val g L x).isSome) with
   |false=>rw [hall] at h;simp at h
   |true=>
    rw [hall] at h
    simp only [cond_true] at h
    split at h
    ·rename_i u hu
     simp only [iA,iP] at h;obtain ⟨rfl,rfl,rfl⟩:=h
     have hrun:= λw=>Aac hF hg (λcs b hb=>hsel cs b hb) hall hu w
     exact ⟨λw _=>D5 (hrun w),Aln hF hg hall (hrun w0)⟩
    ·cases h
end
section
open Go.RowKit
variable {σ:Type} (D:Addr→σ→CZ)
theorem JC {ro:Option Nat} {ρ:Operand→Value} {o:Oper} {P:Program} {w w':World} {nx:Next} (h:(execOp ρ o).run P w= .ok nx w') (hn:∀d,nx≠ .defer d):(Oper.semAt ro ρ o).run P w= .ok nx w':=by
 rw [Oper.semAt_eq ro ρ o λc hc=>?_]
 ·exact h
 ·simp only [execOp,hc,iR] at h
  cases hr:(resolve ρ c o.type).run P w with
  |halt x w1=>rw [hr] at h;simp [Result.andThen] at h
  |ok d w1=>rw [hr] at h;simp [Result.andThen] at h;exact hn d h.1.symm
structure Fq where
 id:FuncId
 ro:Option Nat:=none
 df:List Deferred:=[]
instance:Coe FuncId Fq:=⟨λf=>⟨f,none,[]⟩⟩
def EN (f:Fq):Frame:={(default:Frame) with fn:=f.id,kind:= .normal,roundOf:=f.ro}
def Fq.fin (f:Fq) (P:Program) (cs:List Frame) (S:Machine) (e:Ending) (w:World):Prop:=
 match f.ro with
 |none=>∃fr,S=lone fr cs w∧fr.fn=f.id∧fr.leaving P w e
 |some _=>∃v c cs',e= .returned v∧cs=c::cs'∧S=lone (c.finish v) cs' w
def Fq.pl (f:Fq):Prop:=f=⟨f.id,none,[]⟩
theorem Fq.pl.ro {f:Fq} (h:f.pl):f.ro=none:=by rw [h]
def Fq.act (f:Fq) (a:Act):Act:={a with defers:=f.df++a.defers}
theorem Fq.act_put (f:Fq) (a:Act) (d:Option Nat) (v:Value):f.act (a.put d v)=(f.act a).put d v:=by cases d<;>rfl
theorem Fq.O0 (f:Fq) (a:Act):(f.act a).eval=a.eval:=rfl
theorem Fq.pl.act {f:Fq} (h:f.pl) (a:Act):f.act a=a:=by unfold Fq.act;rw [h];rfl
def Fq.okc (f:Fq) (cs:List Frame):Prop:=f.ro=none∨cs≠[]
theorem AiU {P:Program} {b:Frame} {a:Act} {k:List Item} {cs:List Frame} {w:World} {c:Code}:step P (lone (b.atR a (.code (.scope c)::k)) cs w)= .next (lone (b.atR a (.code c:: .inScope c::k)) cs w):=
 step_lone_go (by simp [stepG,stepG.exec,Frame.atR])
theorem Afk {P:Program} {b:Frame} {a:Act} {k:List Item} {cs:List Frame} {w:World} {c:Code}:step P (lone (b.atR a (.inScope c::k)) cs w)= .next (lone (b.atR a k) cs w):=
 step_lone_go (by simp [stepG,stepG.exec,Frame.atR])
def WT (P:Program) (f:Fq) (R:Ending→World→Prop) (todo:List Item) (a:Act) (w:World):Prop:=
 ∀cs,f.okc cs→∃e w' S,R e w'∧Comes P (lone ((EN f).atR (f.act a) todo) cs w) S e∧f.fin P cs S e w'
section
variable {P:Program} {f:Fq} {R:Ending→World→Prop} {k:List Item} {a:Act} {w:World}
theorem WT.step {t t':List Item} {a':Act} {w':World} (h:∀cs,step P (lone ((EN f).atR (f.act a) t) cs w)= .next (lone ((EN f).atR (f.act a') t') cs w')) (H:WT P f R t' a' w'):WT P f R t a w:= λcs hcs=>
 let ⟨e,w'',fr,h1,h2,h3⟩:=H cs hcs
 ⟨e,w'',fr,h1,Comes.of_steps (.one (h cs)) h2,h3⟩
theorem WT.finish {fn:Func} {t:List Item} {v:Value} (hpl:f.pl) (hfn:P.funcs[f.id]? =some fn) (ht:t=[]∨∃k,t= .code .ret::k) (hd:a.defers=[]) (hr:(results fn a.tmps).run P w= .ok v w) (hR:R (.returned v) w):WT P f R t a w:= λcs _=>by
 have hro:=hpl.ro
 rw [hpl.act a]
 have hb:(EN f).roundOf=none:=hro
 have hfin:∀fr,fr.fn=f.id→fr.leaving P w (.returned v)→f.fin P cs (lone fr cs w) (.returned v) w:= λfr h1 h2=>by
  unfold Fq.fin;rw [hro];exact ⟨fr,rfl,h1,h2⟩
 rcases ht with rfl|⟨k,rfl⟩
 ·exact ⟨.returned v,w,_,hR,Steps.one (stepR_end hb),hfin _ rfl ⟨rfl,hd,rfl,fn,hfn,hr⟩⟩
 ·exact ⟨.returned v,w,_,hR,Steps.one (stepR_ret hb),hfin _ rfl ⟨rfl,hd,rfl,fn,hfn,hr⟩⟩
theorem Ju {f:FuncId} {fn:Func} {c:Code} {args:Array Value} (hf:P.funcs[f]? =some fn) (hb:fn.body=some c)
 (h:WT P (f:Fq) R [.code c] {tmps:=args++mT (fn.ntmps-args.size) undef,defers:=[]} w):Calls P f args w R:= λcs=>by
 have henter:Frame.enter P f args .normal=(EN (f:Fq)).atR {tmps:=args++mT (fn.ntmps-args.size) undef,defers:=[]} [.code c]:=by
  simp [Frame.enter,Frame.atR,hf,hb,EN]
 rw [henter]
 obtain ⟨e,w',S,h1,h2,fr,rfl,h3,h4⟩:=h cs (.inl rfl)
 exact ⟨e,w',fr,h1,h2,h3,h4⟩
theorem WT.op {ops:Array Oper} {i:Nat} {rest:List Nat} {o:Oper} {C:World→Prop} {v:Value} (ho:ops[i]? =some o) (hw:iZ o (yielded ops a.tmps)=true) (hq:o.quietAt P a C w v) (hC:C w)
 (H:∀w',C w'→WT P f R (.inRegion ops rest::k) (a.put o.dst v) w'):WT P f R (.inRegion ops (i::rest)::k) a w:=by
 unfold Oper.quietAt at hq
 have hg:∀cs,_:= λcs=>stepGR_op (P:=P) (b:=EN f) (a:=f.act a) (k:=k) (cs:=cs) (w:=w) (rest:=rest) ho hw
 simp only [Fq.O0] at hg
 have hfin:∀v,((EN f).atR (f.act a) (.inRegion ops (i::rest)::k)).finish v=(EN f).atR (f.act (a.put o.dst v)) (.inRegion ops rest::k):=by
  intro v;rw [Frame.finish_atR,ho,f.act_put];rfl
 cases hr:(execOp a.eval o).run P w with
 |halt x w'=>rw [hr] at hq;exact hq.elim
 |ok nx w'=>
  rw [hr] at hq
  cases nx with
  |value u=>
   obtain ⟨rfl,rfl⟩:=hq
   refine WT.step (λcs=>step_lone_go ?_) (H _ hC)
   rw [hg,←hfin];simp [stepG.apply,JC (ro:=(EN f).roundOf) hr (by simp)]
  |skip=>
   obtain ⟨rfl,rfl⟩:=hq
   refine WT.step (λcs=>step_lone_go ?_) (H _ hC)
   rw [hg,←hfin];simp [stepG.apply,JC (ro:=(EN f).roundOf) hr (by simp)]
  |enter g args=>
   obtain ⟨rfl,hc⟩:=hq
   intro cs hcs
   obtain ⟨e,w'',fr,⟨he,hC''⟩,hsteps,_,hleave⟩:=hc ((EN f).atR (f.act a) (.inRegion ops (i::rest)::k)::cs)
   subst he
   have henter:Go.step P (lone ((EN f).atR (f.act a) (.inRegion ops (i::rest)::k)) cs w')=
    .next (lone (Frame.enter P g args .normal) ((EN f).atR (f.act a) (.inRegion ops (i::rest)::k)::cs) w'):=
    step_lone_go (by rw [hg];simp [stepG.apply,JC (ro:=(EN f).roundOf) hr (by simp),Frame.atR])
   have hstep:=step_leave_returned (c:=(EN f).atR (f.act a) (.inRegion ops (i::rest)::k)) (cs:=cs) hleave
   rw [hfin] at hstep
   obtain ⟨e,w3,fr',h1,h2,h3⟩:=H w'' hC'' cs hcs
   exact ⟨e,w3,fr',h1,Comes.of_steps (.head henter (Steps.trans hsteps (.one hstep))) h2,h3⟩
  |_=>exact hq.elim
theorem WT.EE {ops:Array Oper} {i:Nat} {rest:List Nat} {o:Oper} {v:Value} {w':World} (ho:ops[i]? =some o) (hw:iZ o (yielded ops a.tmps)=true)
 (hr:(execOp a.eval o).run P w= .ok (.value v) w'∨((execOp a.eval o).run P w= .ok .skip w'∧v=undef)) (H:WT P f R (.inRegion ops rest::k) (a.put o.dst v) w'):WT P f R (.inRegion ops (i::rest)::k) a w:=by
 have hg:∀cs,_:= λcs=>stepGR_op (P:=P) (b:=EN f) (a:=f.act a) (k:=k) (cs:=cs) (w:=w) (rest:=rest) ho hw
 simp only [Fq.O0] at hg
 have hfin:∀v,((EN f).atR (f.act a) (.inRegion ops (i::rest)::k)).finish v=(EN f).atR (f.act (a.put o.dst v)) (.inRegion ops rest::k):=by
  intro v;rw [Frame.finish_atR,ho,f.act_put];rfl
 rcases hr with hr|⟨hr,rfl⟩
 ·refine WT.step (λcs=>step_lone_go ?_) H
  rw [hg,←hfin];simp [stepG.apply,JC (ro:=(EN f).roundOf) hr (by simp)]
 ·refine WT.step (λcs=>step_lone_go ?_) H
  rw [hg,←hfin];simp [stepG.apply,JC (ro:=(EN f).roundOf) hr (by simp)]
theorem WT.Qx {ops:Array Oper} {i:Nat} {rest:List Nat} {o:Oper} {g:FuncId} {args:Array Value} {w':World} {Q:Ending→World→Prop} (ho:ops[i]? =some o) (hw:iZ o (yielded ops a.tmps)=true)
 (hr:(execOp a.eval o).run P w= .ok (.enter g args) w') (hc:Calls P g args w' Q) (H:∀e w'',Q e w''→∃v,e= .returned v∧WT P f R (.inRegion ops rest::k) (a.put o.dst v) w''):WT P f R (.inRegion ops (i::rest)::k) a w:=by
 have hg:∀cs,_:= λcs=>stepGR_op (P:=P) (b:=EN f) (a:=f.act a) (k:=k) (cs:=cs) (w:=w) (rest:=rest) ho hw
 simp only [Fq.O0] at hg
 have hfin:∀v,((EN f).atR (f.act a) (.inRegion ops (i::rest)::k)).finish v=(EN f).atR (f.act (a.put o.dst v)) (.inRegion ops rest::k):=by
  intro v;rw [Frame.finish_atR,ho,f.act_put];rfl
 intro cs hcs
 obtain ⟨e,w'',fr,hQ,hsteps,_,hleave⟩:=hc ((EN f).atR (f.act a) (.inRegion ops (i::rest)::k)::cs)
 obtain ⟨v,rfl,HW⟩:=H e w'' hQ
 have henter:Go.step P (lone ((EN f).atR (f.act a) (.inRegion ops (i::rest)::k)) cs w)=
  .next (lone (Frame.enter P g args .normal) ((EN f).atR (f.act a) (.inRegion ops (i::rest)::k)::cs) w'):=
  step_lone_go (by rw [hg];simp [stepG.apply,JC (ro:=(EN f).roundOf) hr (by simp),Frame.atR])
 have hstep:=step_leave_returned (c:=(EN f).atR (f.act a) (.inRegion ops (i::rest)::k)) (cs:=cs) hleave
 rw [hfin] at hstep
 obtain ⟨e,w3,fr',h1,h2,h3⟩:=HW cs hcs
 exact ⟨e,w3,fr',h1,Comes.of_steps (.head henter (Steps.trans hsteps (.one hstep))) h2,h3⟩
theorem AmI {l:Nat} {fn:FuncId} {tmps:Array Value} {assign body:Code}:Frame.round l fn tmps assign body .normal=(EN ⟨fn,some l,[]⟩).atR {tmps:=tmps,defers:=[]} [.code assign, .beginRound, .code body]:=by
 simp [Frame.round,Frame.atR,EN]
theorem WT.Aov {ops:Array Oper} {i:Nat} {rest:List Nat} {o:Oper} {l:Nat} {fn:FuncId} {tmps:Array Value} {assign body:Code} {w1:World} {Rr:Ending→World→Prop} (ho:ops[i]? =some o) (hw:iZ o (yielded ops a.tmps)=true)
 (hr:(execOp a.eval o).run P w= .ok (.round l fn tmps assign body) w1) (hround:WT P ⟨fn,some l,[]⟩ Rr [.code assign, .beginRound, .code body] {tmps:=tmps,defers:=[]} w1)
 (H:∀v w',Rr (.returned v) w'→WT P f R (.inRegion ops rest::k) (a.put o.dst v) w'):WT P f R (.inRegion ops (i::rest)::k) a w:=by
 have hg:∀cs,_:= λcs=>stepGR_op (P:=P) (b:=EN f) (a:=f.act a) (k:=k) (cs:=cs) (w:=w) (rest:=rest) ho hw
 simp only [Fq.O0] at hg
 have hfin:∀v,((EN f).atR (f.act a) (.inRegion ops (i::rest)::k)).finish v=(EN f).atR (f.act (a.put o.dst v)) (.inRegion ops rest::k):=by
  intro v;rw [Frame.finish_atR,ho,f.act_put];rfl
 intro cs hcs
 obtain ⟨e,w',S,hR,hsteps,v,c,cs',rfl,hc,rfl⟩:=hround ((EN f).atR (f.act a) (.inRegion ops (i::rest)::k)::cs) (.inr (by simp))
 injection hc with hc1 hc2
 subst hc1 hc2
 have henter:Go.step P (lone ((EN f).atR (f.act a) (.inRegion ops (i::rest)::k)) cs w)=
  .next (lone (Frame.round l fn tmps assign body .normal) ((EN f).atR (f.act a) (.inRegion ops (i::rest)::k)::cs) w1):=
  step_lone_go (by rw [hg];simp [stepG.apply,JC (ro:=(EN f).roundOf) hr (by simp),Frame.atR])
 rw [AmI] at henter
 rw [hfin] at hsteps
 obtain ⟨e,w3,fr',h1,h2,h3⟩:=H v w' hR cs hcs
 exact ⟨e,w3,fr',h1,Comes.of_steps (.head henter hsteps) h2,h3⟩
def Qy (P:Program) (l:Nat) (asv:Array Value) (w:World) (R:Ending→World→Prop):Prop:=
 ∃fn tmps assign body,(Instr.yield l asv).run P w= .ok (.round l fn tmps assign body) w∧WT P ⟨fn,some l,[]⟩ R [.code assign, .beginRound, .code body] {tmps:=tmps,defers:=[]} w
def Qz (P:Program) (g:Nat) (args:Array Value) (w:World) (R:Ending→World→Prop):Prop:=
 (g≠Ou→Calls P g args w R)∧(g=Ou→∀l asv,args= #[.func (.yield l) #[] #[]]++asv→Qy P l asv w R)
theorem WT.Aow {ops:Array Oper} {i:Nat} {rest:List Nat} {o:Oper} {l:Nat} {asv:Array Value} {Q:Ending→World→Prop} (ho:ops[i]? =some o) (hw:iZ o (yielded ops a.tmps)=true)
 (hr:(execOp a.eval o).run P w=(Instr.yield l asv).run P w) (hc:Qy P l asv w Q) (H:∀e w'',Q e w''→∃v,e= .returned v∧WT P f R (.inRegion ops rest::k) (a.put o.dst v) w''):WT P f R (.inRegion ops (i::rest)::k) a w:=by
 obtain ⟨fn,tmps,assign,body,h1,h2⟩:=hc
 refine WT.Aov ho hw (hr.trans h1) h2 λv w' hq=>?_
 obtain ⟨v',e,hW⟩:=H _ _ hq
 injection e with e;subst e
 exact hW
theorem Ari {ops:Array Oper} {i:Nat} {o:Oper} {a':Act} (ho:ops[i]? =some o) (hw:iZ o (yielded ops a'.tmps)=false):(mJ (λx=>iZ x (yielded ops a'.tmps)) ops[i]?).getD false=false:=by simp [ho,hw]
theorem WT.JQ {ops:Array Oper} {i:Nat} {rest:List Nat} {o:Oper} (ho:ops[i]? =some o) (hw:iZ o (yielded ops a.tmps)=false)
 (H:WT P f R (.inRegion ops rest::k) (a.put o.dst undef) w):WT P f R (.inRegion ops (i::rest)::k) a w:=by
 have hs:= λcs=>stepR_op_skip (P:=P) (b:=EN f) (a:=f.act a) (k:=k) (cs:=cs) (w:=w) (ops:=ops) (i:=i) (rest:=rest) (Ari ho hw)
 simp only [ho,Option.bind_some,←Fq.act_put] at hs
 exact WT.step hs H
theorem WT.Asf {c:Code} (hpl:f.pl) (h:c.wp P (λe a' w'=>e= .normal∧WT P f R k a' w') a w):WT P f R (.code c::k) a w:= λcs hcs=>by
 have hb:(EN f).roundOf=none:=hpl.ro
 obtain ⟨e,a',w',⟨rfl,hW⟩,harr⟩:=h (EN f) k cs
 obtain ⟨e,w3,fr,h1,h2,h3⟩:=hW cs hcs
 rw [hpl.act] at h2 ⊢
 rw [Frame.atR_of_none hb] at h2 ⊢
 exact ⟨e,w3,fr,h1,Comes.of_steps harr h2,h3⟩
end
def item (B:Code):Ab→Item
 | .code p=> .code (sub B p)
 | .ops p i=> .inRegion (opsOf (sub B p)) (jK i ((opsOf (sub B p)).size-i))
 | .blk id=> .inBlock id
 | .again p=> .inLoop (sub B (0::p))
 | .lst p is=> .inRegion (opsOf (sub B p)) is
 | .scp p=> .inScope (sub B (0::p))
 | .raw i=>i
theorem IK {B:Code} {id:Nat}:∀{td td':List Ab},Jo id td=some td'→exitTo id (td.map (item B))=some (td'.map (item B))
 |[],_,h=>by simp [Jo] at h
 | .blk id'::k,td',h=>by
   simp only [Jo] at h
   simp only [iD,item,exitTo]
   cases hb:id'==id with
   |true=>rw [hb] at h;simp at h;subst h;simp
   |false=>rw [hb] at h;simp at h;simp only [kQ,if_false];exact IK h
 | .code p::k,td',h=>by simp only [Jo] at h;simp only [iD,item,exitTo];exact IK h
 | .ops p i::k,td',h=>by simp only [Jo] at h;simp only [iD,item,exitTo];exact IK h
 | .again p::k,td',h=>by simp only [Jo] at h;simp only [iD,item,exitTo];exact IK h
 | .lst p is::k,td',h=>by simp only [Jo] at h;simp only [iD,item,exitTo];exact IK h
 | .scp p::k,td',h=>by simp only [Jo] at h;simp only [iD,item,exitTo];exact IK h
 | .raw _::k,td',h=>by simp [Jo] at h
def SW (P:Program) (f:Fq) (R:Ending→World→Prop) (B:Code) (n:Nat) (E:Ev) (G:Hp) (td:List Ab) (L:List Ak) (K:List (Chunk σ)):Prop:=
 ∀a w,Fr n L K a→Af D E G w K→WT P f R (td.map (item B)) a w
theorem Gf {R:Value→Pr→List (Chunk σ)→Prop} {S:List Ab→List Ak→List (Chunk σ)→Prop}:∀{ps:List Prop} {t:Tree σ},(needs ps t).holds R S→(∀p∈ps,p)∧t.holds R S
 |[],_,h=>⟨by simp,h⟩
 |p::ps,t,h=>by
  obtain ⟨h1,h2⟩:=h
  obtain ⟨h3,h4⟩:=Gf (h2 h1)
  exact ⟨λq hq=>by
   simp only [iG] at hq
   rcases hq with rfl|hq
   ·exact h1
   ·exact h3 q hq,h4⟩
theorem KA {P:Program} {n:Nat} {L:List Ak} {K:List (Chunk σ)} {a:Act} {w:World} {E:Ev} {G:Hp} (hF:Fr n L K a) (hS:Af D E G w K):∀(rs:List ResultVar) (vs:List (Value×Pr)),GM P L K rs=some vs→
 (rs.mapM (m:=Sem) λ | .tmp t=>pure (a.tmps.getD t undef)| .cell b t=>do loadVar t (←asAddr (a.tmps.getD b undef))).run P w= .ok (vs.map (·.1)) w∧∀x∈vs,BH K x.1 x.2
 |[],vs,h=>by simp only [GM,iA] at h;subst h;exact ⟨rfl,by simp⟩
 | .tmp t::r,vs,h=>by
   simp only [GM] at h
   split at h
   ·rename_i v vs' hv hr
    injection h with h;subst h
    obtain ⟨ih,ihp⟩:=KA hF hS r vs' hr
    have hv':=AU (g:=none) hF trivial hv
    have hp':=Bv (x:= .tmp t) (g:=none) hF trivial
    simp only [Act.eval] at hv' hp'
    rw [List.mapM_cons]
    simp only [iR,iY,Result.andThen_ok,hv',ih,iD,true_and]
    intro x hx
    simp only [iG] at hx
    rcases hx with rfl|hx
    ·rw [hv'] at hp';exact hp'
    ·exact ihp x hx
   ·cases h
 | .cell b t::r,vs,h=>by
   simp only [GM] at h
   split at h
   ·rename_i k off vs' hp hr
    split at h
    ·rename_i bb t0 cs hk
     split at h
     ·rename_i v pv hv
      injection h with h;subst h
      obtain ⟨ih,ihp⟩:=KA hF hS r vs' hr
      have hpx:=Bv (x:= .tmp b) (g:=none) hF trivial
      rw [hp,Bg] at hpx
      obtain ⟨c,hk',hc⟩:=hpx
      rw [hk] at hk';injection hk' with hk';subst hk'
      simp only [DJ,Act.eval] at hc
      obtain ⟨_,q,_,hq,hs⟩:=hS.get D hk
      have hl:=Nz (P:=P) (t:=t) (off:=off) (hs _ _ hq) hv
      have hA:(asAddr (a.tmps.getD b undef)).run P w= .ok ⟨bb,off,none⟩ w:=by rw [hc];rfl
      rw [List.mapM_cons]
      simp only [iR,iY,Result.andThen_ok,hA,hl,ih,iD,true_and]
      intro x hx
      simp only [iG] at hx
      rcases hx with rfl|hx
      ·exact Tu (hF.kok _ _ _ _ hk) hv
      ·exact ihp x hx
     ·cases h
    ·cases h
   ·cases h
theorem Agw {P:Program} {f:Fq} {fn:Func} {R:Ending→World→Prop} {n:Nat} {L:List Ak} {K:List (Chunk σ)} {a:Act} {w:World} {E:Ev} {G:Hp} {td:List Item} {vs:List (Value×Pr)} (hpl:f.pl) (hfn:P.funcs[f.id]? =some fn)
 (ht:td=[]∨∃k,td= .code .ret::k) (hF:Fr n L K a) (hS:Af D E G w K) (h:GM P L K fn.results.toList=some vs) (hR:R (.returned (match vs with|[v]=>v.1|vs=> .tuple (vs.map (·.1)).toArray)) w):WT P f R td a w:=by
 refine WT.finish hpl hfn ht hF.defers ?_ hR
 have hrun:=(KA D hF hS _ _ h).1
 unfold results
 rw [nX]
 simp only [iR,Sem.run_map]
 erw [hrun]
 simp only [Result.andThen_ok,iY]
 match vs with
 |[]=>rfl
 |[v]=>rfl
 |_::_::_=>simp
theorem UG {K:List (Chunk σ)} {vs:List (Value×Pr)} (h:∀x∈vs,BH K x.1 x.2):BH K (.tuple (vs.map (·.1)).toArray) (Gy (vs.map (·.2))):=by
 unfold Gy
 cases (vs.map (·.2)).all Pr.Agd with
 |true=>simp [BH]
 |false=>
  simp only [cond_false,BH]
  induction vs with
  |nil=>simp [AQ]
  |cons x vs ih=>
   simp only [iD,AQ]
   exact ⟨h x (by simp),ih λy hy=>h y (by simp [hy])⟩
theorem Tree.Gq {R R':Value→Pr→List (Chunk σ)→Prop} {S S':List Ab→List Ak→List (Chunk σ)→Prop} (hR:∀v p K,R v p K→R' v p K) (hS:∀td L K,S td L K→S' td L K):∀{t:Tree σ},t.holds R S→t.holds R' S'
 | .ret v p K,h=>hR v p K h
 | .br t a b,h=>⟨λe=>Gq hR hS (h.1 e), λe=>Gq hR hS (h.2 e)⟩
 | .need p t,h=>⟨h.1, λe=>Gq hR hS (h.2 e)⟩
 | .bind x t,h=> λa e=>Gq hR hS (h a e)
 | .fresh t,h=> λb=>Gq hR hS (h b)
 | .freshS t,h=> λa c=>Gq hR hS (h a c)
 | .pick t,h=> λb=>Gq hR hS (h b)
 | .two a b,h=>⟨Gq hR hS h.1,Gq hR hS h.2⟩
 | .stuck td L K,h=>hS td L K h
theorem FN {R:Value→Pr→List (Chunk σ)→Prop} {S:List Ab→List Ak→List (Chunk σ)→Prop} {k:Value→Pr→List (Chunk σ)→Tree σ}:∀{t:Tree σ},(JK t k).holds R S→t.holds (λv p K=>(k v p K).holds R S) (λ_ _ _=>False)
 | .ret v p K,h=>h
 | .br t a b,h=>⟨λe=>FN (h.1 e), λe=>FN (h.2 e)⟩
 | .need p t,h=>⟨h.1, λe=>FN (h.2 e)⟩
 | .bind x t,h=> λa e=>FN (h a e)
 | .fresh t,h=> λb=>FN (h b)
 | .freshS t,h=> λa c=>FN (h a c)
 | .pick t,h=> λb=>FN (h b)
 | .two a b,h=>⟨FN h.1,FN h.2⟩
 | .stuck td L K,h=>h.1
theorem IL {i m:Nat} (h:i<m):jK i (m-i)=i::jK (i+1) (m-(i+1)):=by
 rw [show m-i=(m-(i+1))+1 by omega,List.range'_succ]
theorem Iz {n:Nat} {ops:Array Oper} {o:Oper} {g:Option (Nat×Bool)} (h:gs n ops o=some g):Wp ops o=some g∧(∀d,o.dst=some d→d<n)∧∀d c b,o.dst=some d→g=some (c,b)→c≠d:=by
 unfold gs at h
 split at h
 ·rename_i d hd
  cases hb:mF d n with
  |false=>rw [hb] at h;simp at h
  |true=>
   rw [hb] at h
   simp only [cond_true] at h
   split at h
   ·rename_i g' hg
    cases hi:gIs d g' with
    |true=>rw [hi] at h;simp at h
    |false=>
     rw [hi] at h
     simp only [cond_false,iA] at h
     subst h
     refine ⟨hg, λd' hd'=>?_, λd' c b hd' hc e=>?_⟩
     ·rw [hd] at hd';injection hd' with hd';subst hd';exact Nat.lt_of_lt_of_eq (iQ hb) rfl
     ·rw [hd] at hd';injection hd' with hd';subst hd'
      rw [hc,e] at hi
      simp [gIs] at hi
   ·cases h
 ·rename_i hd
  refine ⟨h,?_,?_⟩
  ·intro d hd';rw [hd] at hd';cases hd'
  ·intro d c b hd';rw [hd] at hd';cases hd'
theorem ApZ {P:Program} {o:Oper} {a:Act} {w:World} {t:TypeId} {x:Operand} (h:o.op= .box t x):(execOp a.eval o).run P w= .ok (.value (.pointer (some ⟨w.heap.size,0,none⟩))) (w.alloc (.cells (a.eval x).cells t)):=by
 simp [execOp,h,Instr.box,newVar,newRow]
theorem AmJ {P:Program} {o:Oper} {a:Act} {w:World} {t:TypeId} {i:TypeInfo} {z:Value} (h:o.op= .alloc t) (hi:P.info? t=some i) (hz:i.zero=some z):
 (execOp a.eval o).run P w= .ok (.value (.pointer (some ⟨w.heap.size,0,none⟩))) (w.alloc (.cells z.cells t)):=by
 simp [execOp,h,Instr.alloc,zeroValue,typeInfo,hi,hz,newVar,newRow]
theorem quiet_step {P:Program} {T:List (Nat×Entry σ)} (hT:BO D P T) {n:Nat} {ops:Array Oper} {g:Option (Nat×Bool)} {L:List Ak} {K:List (Chunk σ)} {o:Oper} {a:Act} {v:Value} {p:Pr} {ps:List Prop} {E:Ev} {G:Hp} {w:World}
 (hF:Fr n L K a) (hS:Af D E G w K) (hgs:gs n ops o=some g) (h:Hw P T g L K o=some (v,p,ps)) (hps:∀q∈ps,q):
 (iZ o (yielded ops a.tmps)=true∧(∀w,Af D E G w K→o.quietAt P a (λw'=>Af D E G w' K) w v)∧Fr n (Dw o.dst g v p L) K (a.put o.dst v))∨
 (iZ o (yielded ops a.tmps)=false∧Fr n (Dw o.dst g v p L) K (a.put o.dst undef)):=by
 obtain ⟨h1,h2,h3⟩:=Iz hgs
 cases hw:iZ o (yielded ops a.tmps) with
 |true=>
  have hg:=(Ej h1).1 hw
  obtain ⟨hq,hp⟩:=Jt D hT hF hg h hps hS
  exact .inl ⟨rfl, λw hw=>(hq w hw).1,hF.put h2 h3 (λ_=>⟨rfl,hp⟩) λh=>absurd hg h⟩
 |false=>
  refine .inr ⟨rfl,hF.put h2 h3 λhg=>?_⟩
  rw [(Ej h1).2 hg] at hw;cases hw
theorem Lj {P:Program} {T:List (Nat×Entry σ)} (hT:BO D P T) {n:Nat} {ops:Array Oper} {K:List (Chunk σ)} {E:Ev} {G:Hp} {Q:Act→Prop}:
 ∀(l:List Oper) (L:List Ak) {L':List Ak} {ps:List Prop} {a:Act} {w:World},Fr n L K a→Af D E G w K→Yy P T n ops K l L=some (L',ps)→(∀q∈ps,q)→(∀a',Fr n L' K a'→Q a')→
  wpQuiet P ops (λw'=>Af D E G w' K) Q l a
 |[],L,L',ps,a,w,hF,_,h,_,hQ=>by
  simp only [Yy,iA,iP] at h
  obtain ⟨rfl,rfl⟩:=h
  exact hQ a hF
 |o::r,L,L',ps,a,w,hF,hS,h,hps,hQ=>by
  simp only [Yy] at h
  split at h
  ·cases h
  ·rename_i g hgs
   split at h
   ·cases h
   ·rename_i v p ps1 hq
    split at h
    ·cases h
    ·rename_i L'' ps2 hr
     simp only [iA,iP] at h
     obtain ⟨rfl,rfl⟩:=h
     have hp1:∀q∈ps1,q:= λq hq=>hps q (List.mem_append_left _ hq)
     have hp2:∀q∈ps2,q:= λq hq=>hps q (List.mem_append_right _ hq)
     unfold wpQuiet
     rcases quiet_step D hT hF hS hgs hq hp1 with ⟨hw,hqq,hF'⟩|⟨hw,hF'⟩
     ·rw [hw]
      simp only [if_true]
      exact ⟨v,hqq,Lj hT r _ hF' hS hr hp2 hQ⟩
     ·rw [hw]
      simp only [kQ,if_false]
      exact Lj hT r _ hF' hS hr hp2 hQ
end
section
open Go.RowKit
section
variable {ops:Array Oper} {m:Nat}
theorem Y7 {i:Nat} (h:i≠m):(Hy ops m)[i]? =ops[i]? :=by
 unfold Hy
 split
 ·rw [kW];simp [Ne.symm h]
 ·rfl
theorem Aad:(Hy ops m).size=ops.size:=by
 unfold Hy
 split<;>simp
theorem Aae {o:Oper} (h:ops[m]? =some o):(Hy ops m)[m]? =some (Iq o):=by
 unfold Hy
 rw [h]
 have hl:m<ops.size:=by
  rcases jB m ops.size with h'|h'
  ·exact h'
  ·rw [kE h'] at h;cases h
 simp [hl]
theorem UH (listed:Array Bool):iU .any (Hy ops m) listed=iU .any ops listed:=by
 unfold iU
 rw [Aad]
 apply List.filter_congr
 intro i _
 by_cases h:i=m
 ·subst h
  cases ho:ops[i]? with
  |none=>
   have:Hy ops i=ops:=by unfold Hy;rw [ho]
   rw [this,ho]
  |some o=>rw [Aae ho];rfl
 ·rw [Y7 h]
theorem FX {md:Region.Mode} {listed:Array Bool} {i:Nat}:i∈iU md ops listed↔i<ops.size∧listed.getD i true=false∧((ops[i]?).map (·.after.all λe=>!Region.binds md e||listed.getD e.on false)).getD false=true:=by
 unfold iU
 simp [mD]
theorem getD_both {l:Array Bool} {i:Nat} (h:i<l.size) (x y:Bool):l.getD i x=l.getD i y:=by
 simp [Array.getD,h]
theorem ready_nil {listed:Array Bool} (hdep:(jQ ops.size).all (λi=>((ops[i]?).map (·.after.all λe=>!Region.binds .any e||mF e.on i)).getD false)=true) (hs:listed.size=ops.size) (h:iU .any ops listed=[]):
 ∀i,i<ops.size→listed.getD i true=true:=by
 intro i
 induction i using oD with
 |_ i ih=>
  intro hi
  cases hl:listed.getD i true with
  |true=>rfl
  |false=>
   exfalso
   have hd:=(jN.1 hdep) i (kV.2 hi)
   have ho:ops[i]? =some ops[i]:=jM hi
   rw [ho] at hd
   simp only [iS,lM] at hd
   have:i∈iU .any ops listed:=by
    rw [FX]
    refine ⟨hi,hl,?_⟩
    rw [ho]
    simp only [iS,lM]
    rw [kC] at hd ⊢
    intro e he
    have:=hd e he
    cases hb:Region.binds .any e with
    |false=>simp
    |true=>
     rw [hb] at this
     simp only [kL,jW] at this ⊢
     have hlt:e.on<i:=Nat.lt_of_lt_of_eq (iQ this) rfl
     rw [getD_both (by omega) false true]
     exact ih e.on hlt (by omega)
   rw [h] at this
   cases this
theorem AmK {md:Region.Mode} {listed:Array Bool} (h:iU md ops listed=[]):∀fuel t,jO md ops fuel t listed []=[]
 |0,t=>rfl
 |fuel+1,t=>by
  simp only [jO]
  change (match (iU md ops listed)[t%(iU md ops listed).length]? with
   |some i=>jO md ops fuel (t/(iU md ops listed).length) (listed.setIfInBounds i true) [i]
   |none=>[].reverse)=_
  rw [h];rfl
theorem Alp {o:Oper} {tm:Array Value} (hg:∀j b,o.guard=some (j,b)→j≠m):iZ o (yielded (Hy ops m) tm)=iZ o (yielded ops tm):=by
 unfold iZ
 split
 ·rfl
 ·rename_i j b hj
  have:=hg j b hj
  simp only [yielded,Y7 this]
theorem Aqa {P:Program} {f:Fq} {R:Ending→World→Prop} {k:List Item} {C:World→Prop} {Q0:Act→Prop} (hB:lastB ops m=true) (Hlast:∀a w,Q0 a→C w→WT P f R (.inRegion ops [m]::k) a w):
 ∀(fuel t:Nat) (listed:Array Bool) (a:Act) (w:World),listed.size=ops.size→listed.getD m true=false→C w→wpAnyQ P .any (Hy ops m) C Q0 fuel listed a→
  WT P f R (.inRegion ops (jO .any ops fuel t listed [])::k) a w:=by
 unfold lastB at hB
 split at hB
 ·rename_i om hom
  simp only [iE] at hB
  obtain ⟨⟨⟨⟨⟨b1,b2⟩,b3⟩,b4⟩,b5⟩,b6⟩:=hB
  have hsz:=iF b1
  have hng:om.guard=none:=by simpa using b2
  have hgd:∀(i:Nat) (o:Oper),ops[i]? =some o→∀j b,o.guard=some (j,b)→j≠m:= λi o ho j b hj e=>by
   rw [kC] at b4
   have:=b4 o (Array.mem_of_getElem? ho)
   rw [hj,e] at this
   simp at this
  have never:∀listed:Array Bool,listed.size=ops.size→listed.getD m true=false→iU .any ops listed≠[]:= λlisted hs hm h=>by
   have:=ready_nil b5 hs h m (by omega)
   rw [this] at hm;cases hm
  intro fuel
  induction fuel with
  |zero=>
   intro t listed a w hs hm hC h
   have:=h.1
   rw [UH] at this
   exact absurd this (never listed hs hm)
  |succ fuel ih=>
   intro t listed a w hs hm hC h
   obtain ⟨_,h1⟩:=h
   rw [UH] at h1
   simp only [jO]
   change WT P f R (.inRegion ops (match (iU .any ops listed)[t%(iU .any ops listed).length]? with
    |some i=>jO .any ops fuel (t/(iU .any ops listed).length) (listed.setIfInBounds i true) [i]
    |none=>[].reverse)::k) a w
   cases hi:(iU .any ops listed)[t%(iU .any ops listed).length]? with
   |none=>
    exfalso
    cases hr:iU .any ops listed with
    |nil=>exact never listed hs hm hr
    |cons x xs=>
     rw [hr] at hi
     have hlt:t%(x::xs).length<(x::xs).length:=mB _ (by simp)
     rw [iK hlt] at hi;cases hi
   |some i=>
    have him:=iV hi
    dsimp only
    rw [linearise_go_acc,nG,mO]
    have hq:=h1 i him
    obtain ⟨r1,r2,r3⟩:=FX.1 him
    by_cases hk:i=m
    ·subst hk
     have hall:∀j,j<i→listed.getD j true=true:= λj hj=>by
      have hj3:=(jN.1 b3) j (kV.2 hj)
      rw [Array.any_eq_true] at hj3
      obtain ⟨q,hq',hej⟩:=hj3
      have he:om.after[q]∈om.after:=Array.getElem_mem hq'
      generalize om.after[q]=e at he hej
      simp only [iE] at hej
      rw [hom] at r3
      simp only [iS,lM] at r3
      rw [kC] at r3
      have:=r3 e he
      rw [hej.1,iF hej.2] at this
      simp only [kL,jW] at this
      rw [getD_both (by omega) true false];exact this
     have hnil:iU .any ops (listed.setIfInBounds i true)=[]:=by
      cases hr:iU .any ops (listed.setIfInBounds i true) with
      |nil=>rfl
      |cons x xs=>
       have hx:x∈iU .any ops (listed.setIfInBounds i true):=by rw [hr];simp
       obtain ⟨q1,q2,_⟩:=FX.1 hx
       exfalso
       have hxi:x<(listed.setIfInBounds i true).size:=by simp;omega
       by_cases hxe:x=i
       ·subst hxe
        simp [Array.getD,show x<listed.size by omega] at q2
       ·have:=hall x (by omega)
        rw [jC] at q2 this
        rw [kW] at q2
        simp only [Ne.symm hxe,if_false] at q2
        rw [this] at q2;cases q2
     rw [AmK hnil]
     unfold qOp at hq
     rw [Aae hom] at hq
     simp only at hq
     have hw:iZ (Iq om) (yielded (Hy ops i) a.tmps)=true:=by
      unfold iZ Iq
      simp only [hng]
     rw [hw] at hq
     simp only [if_true] at hq
     obtain ⟨v,_,hq⟩:=hq
     have hput:a.put (Iq om).dst v=a:=rfl
     rw [hput] at hq
     refine Hlast a w ?_ hC
     cases fuel with
     |zero=>exact hq.2
     |succ fuel=>exact hq.1 (by rw [UH];exact hnil)
    ·have ho:ops[i]? =some ops[i]:=jM r1
     generalize ops[i]=o at ho
     have hs':(listed.setIfInBounds i true).size=ops.size:=by simpa using hs
     have hm':(listed.setIfInBounds i true).getD m true=false:=by
      rw [jC,kW]
      simp only [hk,if_false]
      rw [←jC];exact hm
     unfold qOp at hq
     rw [Y7 hk,ho] at hq
     simp only at hq
     rw [Alp (hgd i o ho)] at hq
     cases hw:iZ o (yielded ops a.tmps) with
     |true=>
      rw [hw] at hq
      simp only [if_true] at hq
      obtain ⟨v,hv,hq⟩:=hq
      exact WT.op ho hw (hv w hC) hC λw' hC'=>ih _ _ _ w' hs' hm' hC' hq
     |false=>
      rw [hw] at hq
      simp only [kQ,if_false] at hq
      exact WT.JQ ho hw (ih _ _ _ w hs' hm' hC hq)
 ·cases hB
end
theorem WT.AiV {P:Program} {f:Fq} {R:Ending→World→Prop} {k:List Item} {C:World→Prop} {Q0:Act→Prop} {ops:Array Oper} {m id:Nat} {a:Act} {w:World} (hm:P.follows .mixedOrders=true) (hB:lastB ops m=true) (hC:C {w with drawn:=w.drawn+1})
 (Hlast:∀a w,Q0 a→C w→WT P f R (.inRegion ops [m]::k) a w) (h:wpQuiet P (Hy ops m) C Q0 (Hy ops m).toList a):WT P f R (.code (.region id ops true)::k) a w:=by
 refine WT.step (λcs=>stepR_region_draw) ?_
 simp only [Region.schedule,hm,kS,if_true]
 have hB2:=hB
 unfold lastB at hB2
 split at hB2
 ·simp only [iE] at hB2
  have hlex:=hB2.2
  have hsz:=iF hB2.1.1.1.1.1
  simp only [oF,iE] at hlex
  have h2:=wpAnyQ_lex (C:=C) (md:= .any) hlex.1 (Hy ops m).toList 0 (mT (Hy ops m).size false) a (by simp) (by simpa using hlex.2) h
  simp only [lS,Aad] at h2
  exact Aqa hB Hlast ops.size _ _ a _ (by simp) (by simp [Array.getD,hsz]) hC h2
 ·cases hB2
section
variable {ops:Array Oper} {m u:Nat}
theorem IY:(EJ ops m).size=ops.size:=by simp [EJ]
theorem Jv (i:Nat):(EJ ops m)[i]? =(ops[i]?).map λo=>bif jS m i then Iq o else o:=by
 unfold EJ
 rw [Array.getElem?_mapIdx]
theorem I4 (listed:Array Bool):iU .any (EJ ops m) listed=iU .any ops listed:=by
 unfold iU
 rw [IY]
 apply List.filter_congr
 intro i _
 rw [Jv]
 cases ops[i]? with
 |none=>rfl
 |some o=>
  simp only [iS]
  cases jS m i<;>rfl
theorem RI {i j:Nat} {o:Oper} (ho:ops[i]? =some o):j∈EZ ops i↔∃e∈o.after,Region.binds .any e=true∧e.on=j:=by
 unfold EZ
 rw [ho]
 simp [kN,mD,and_assoc]
theorem Hz {listed:Array Bool} {i j:Nat} (h:i∈iU .any ops listed) (hj:j∈EZ ops i):listed.getD j false=true:=by
 obtain ⟨h1,_,h3⟩:=FX.1 h
 have ho:ops[i]? =some ops[i]:=jM h1
 rw [ho] at h3
 simp only [iS,lM] at h3
 obtain ⟨e,he,hb,rfl⟩:=(RI ho).1 hj
 rw [kC] at h3
 have:=h3 e he
 rw [hb] at this
 simpa using this
def Closed (ops:Array Oper) (listed:Array Bool):Prop:=∀i,listed.getD i false=true→∀j∈EZ ops i,listed.getD j false=true
theorem O1 {listed:Array Bool} (hc:Closed ops listed):∀(j:Nat) (S:List Nat),(∀s∈S,listed.getD s false=true)→∀s∈sweep ops j S,listed.getD s false=true
 |0,S,h,s,hs=>h s hs
 |j+1,S,h,s,hs=>by
  simp only [sweep] at hs
  refine O1 hc j _ ?_ s hs
  intro x hx
  cases hb:S.any (iL j) with
  |false=>rw [hb] at hx;exact h x hx
  |true=>
   rw [hb] at hx
   simp only [cond_true,lT] at hx
   rcases hx with hx|hx
   ·rw [lH] at hb
    obtain ⟨y,hy,e⟩:=hb
    have:=iF e
    subst this
    exact hc j (h _ hy) x hx
   ·exact h x hx
theorem DI {listed:Array Bool} {i j:Nat} (hi:i<listed.size) (d:Bool):(listed.setIfInBounds i true).getD j d=if j=i then true else listed.getD j d:=by
 rw [jC,kW]
 by_cases h:j=i
 ·subst h;simp [hi]
 ·rw [if_neg h,if_neg (Ne.symm h),jC]
theorem Closed.set {listed:Array Bool} (hc:Closed ops listed) {i:Nat} (hi:i∈iU .any ops listed) (hs:listed.size=ops.size):Closed ops (listed.setIfInBounds i true):=by
 have hlt:i<listed.size:=by rw [hs];exact (FX.1 hi).1
 intro x hx j hj
 rw [DI hlt] at hx ⊢
 by_cases hji:j=i
 ·rw [if_pos hji]
 ·rw [if_neg hji]
  by_cases hxi:x=i
  ·subst hxi;exact Hz hi hj
  ·rw [if_neg hxi] at hx;exact hc x hx j hj
theorem Y8 {P:Program} {C:World→Prop} {Q0:Act→Prop} {W:World} {ops:Array Oper}:∀(fuel:Nat) (listed:Array Bool) (a:Act),listed.size=ops.size→
 (∀i,i<ops.size→listed.getD i true=false→∃o,ops[i]? =some (Iq o)∧o.guard=none)→wpAnyQ P .any ops C Q0 fuel listed a→Q0 a
 |0,listed,a,_,_,h=>h.2
 |fuel+1,listed,a,hs,hn,h=>by
  cases hr:iU .any ops listed with
  |nil=>exact h.1 hr
  |cons i r=>
   have him:i∈iU .any ops listed:=by rw [hr];simp
   obtain ⟨h1,h2,_⟩:=FX.1 him
   obtain ⟨o,ho,hg⟩:=hn i h1 h2
   have hq:=h.2 i him
   unfold qOp at hq
   rw [ho] at hq
   simp only at hq
   have hw:iZ (Iq o) (yielded ops a.tmps)=true:=by
    unfold iZ Iq
    simp only [hg]
   rw [hw] at hq
   simp only [if_true] at hq
   obtain ⟨v,_,hq⟩:=hq
   have hput:a.put (Iq o).dst v=a:=rfl
   rw [hput] at hq
   refine Y8 (W:=W) fuel _ a (by simpa using hs) (λj hj hl=>?_) hq
   rw [DI (by omega)] at hl
   by_cases hji:j=i
   ·rw [if_pos hji] at hl;cases hl
   ·rw [if_neg hji] at hl;exact hn j hj hl
structure Aaf (ops:Array Oper) (u m:Nat):Prop where
 ms:m<ops.size
 cover:∀i,i<m→i=u∨i∈reached ops m
 chain:∀i,m<i→i<ops.size→i-1∈EZ ops i
 late:u=ops.size∨(u∈EZ ops (m+1)∧u<m)
 gd:∀(i:Nat) (o:Oper),ops[i]? =some o→∀j b,o.guard=some (j,b)→j<m
 ng:∀(i:Nat) (o:Oper),ops[i]? =some o→m≤i∨i=u→o.guard=none
 dep:(jQ ops.size).all (λi=>((ops[i]?).map (·.after.all λe=>!Region.binds .any e||mF e.on i)).getD false)=true
 lex:oF .any (EJ ops m)=true
theorem Aqb (h:ZZ ops u m=true):Aaf ops u m:=by
 unfold ZZ at h
 simp only [iE] at h
 obtain ⟨h1,h2,h3,h4,h5,h6,h7,h8⟩:=h
 refine ⟨iQ h1, λi hi=>?_, λi hi hs=>?_,?_, λi o ho j b hj=>?_, λi o ho hi=>?_,h7,h8⟩
 ·have:=(jN.1 h2) i (kV.2 hi)
  simp only [lU] at this
  rcases this with e|e
  ·exact .inl (iF e)
  ·rw [lH] at e
   obtain ⟨y,hy,e⟩:=e
   rw [iF e]
   exact .inr hy
 ·have:=(jN.1 h3) i (kV.2 hs)
  simp only [lU] at this
  rcases this with e|e
  ·have:=iQ e;omega
  ·rw [lH] at e
   obtain ⟨y,hy,e⟩:=e
   rw [iF e]
   exact hy
 ·simp only [lU,iE] at h4
  rcases h4 with e|⟨e,e2⟩
  ·exact .inl (iF e)
  ·rw [lH] at e
   obtain ⟨y,hy,e⟩:=e
   have:=iF e
   subst this
   exact .inr ⟨hy,iQ e2⟩
 ·rw [kC] at h5
  have:=h5 o (Array.mem_of_getElem? ho)
  rw [hj] at this
  exact iQ this
 ·have hlt:i<ops.size:=by
   rcases jB i ops.size with h'|h'
   ·exact h'
   ·rw [kE h'] at ho;cases ho
  have:=(jN.1 h6) i (kV.2 hlt)
  simp only [lU,iE] at this
  rcases this with ⟨e1,e2⟩|e
  ·exfalso
   have e1:i<m:=iQ e1
   rcases hi with hi|hi
   ·omega
   ·subst hi
    simp at e2
  ·rw [ho] at e
   simpa using e
theorem Aeb (hdep:(jQ ops.size).all (λi=>((ops[i]?).map (·.after.all λe=>!Region.binds .any e||mF e.on i)).getD false)=true) {i j:Nat} (hj:j∈EZ ops i):j<i∧i<ops.size:=by
 have hi:i<ops.size:=by
  rcases jB i ops.size with h'|h'
  ·exact h'
  ·unfold EZ at hj;rw [kE h'] at hj;cases hj
 have ho:ops[i]? =some ops[i]:=jM hi
 have hd:=(jN.1 hdep) i (kV.2 hi)
 rw [ho] at hd
 simp only [iS,lM] at hd
 obtain ⟨e,he,hb,rfl⟩:=(RI ho).1 hj
 rw [kC] at hd
 have:=hd e he
 rw [hb] at this
 simp only [kL,jW] at this
 exact ⟨iQ this,hi⟩
theorem Agx {listed:Array Bool} {i:Nat} (hi:i<ops.size) (h:listed.getD i true=false) (hd:∀j∈EZ ops i,listed.getD j false=true):i∈iU .any ops listed:=by
 have ho:ops[i]? =some ops[i]:=jM hi
 rw [FX]
 refine ⟨hi,h,?_⟩
 rw [ho]
 simp only [iS,lM]
 rw [kC]
 intro e he
 cases hb:Region.binds .any e with
 |false=>simp
 |true=>
  simp only [kL,jW]
  exact hd _ ((RI ho).2 ⟨e,he,hb,rfl⟩)
theorem ready_one {listed:Array Bool} {i:Nat} (h:i∈iU .any ops listed) (h1:∀j∈iU .any ops listed,j=i):iU .any ops listed=[i]:=by
 have hn:(iU .any ops listed).Nodup:=List.Nodup.sublist List.filter_sublist mZ
 cases hr:iU .any ops listed with
 |nil=>rw [hr] at h;cases h
 |cons x xs=>
  have hx:x=i:=h1 x (by rw [hr];simp)
  subst hx
  cases xs with
  |nil=>rfl
  |cons y ys=>
   have hy:y=x:=h1 y (by rw [hr];simp)
   subst hy
   rw [hr] at hn
   simp at hn
theorem AmL {listed:Array Bool} {i:Nat} (h:iU .any ops listed=[i]) (fuel t:Nat):jO .any ops (fuel+1) t listed []=i::jO .any ops fuel t (listed.setIfInBounds i true) []:=by
 simp only [jO]
 change (match (iU .any ops listed)[t%(iU .any ops listed).length]? with
  |some i=>jO .any ops fuel (t/(iU .any ops listed).length) (listed.setIfInBounds i true) [i]
  |none=>[].reverse)=_
 rw [h]
 simp only [lV,Nat.mod_one,Nat.div_one,jH]
 rw [linearise_go_acc,nG,mO]
theorem Agy {P:Program} {C:World→Prop} {Q0:Act→Prop} (hT:Aaf ops u m) {a:Act}:∀(fuel t j:Nat) (listed:Array Bool),listed.size=ops.size→m<j→(∀i,i<ops.size→listed.getD i true=decide (i<j))→
 wpAnyQ P .any (EJ ops m) C Q0 fuel listed a→jO .any ops fuel t listed []=jK j (ops.size-j):=by
 intro fuel
 induction fuel with
 |zero=>
  intro t j listed hs hj hl h
  have hr:=h.1
  rw [I4] at hr
  have:ops.size≤j:=by
   rcases jB j ops.size with h'|h'
   ·have:=ready_nil hT.dep hs hr j h'
    rw [hl j h'] at this
    simp at this
   ·exact h'
  rw [show ops.size-j=0 by omega]
  rfl
 |succ fuel ih=>
  intro t j listed hs hj hl h
  rcases jB j ops.size with hjs|hjs
  ·have hfl:∀i,i<ops.size→listed.getD i false=decide (i<j):= λi hi=>by rw [getD_both (by omega) false true];exact hl i hi
   have hjr:j∈iU .any ops listed:=Agx hjs (by rw [hl j hjs];simp) λd hd=>by
    obtain ⟨d1,d2⟩:=Aeb hT.dep hd
    rw [hfl d (by omega)]
    simpa using d1
   have hone:=ready_one hjr λi hi=>by
    obtain ⟨q1,q2,_⟩:=FX.1 hi
    rw [hl i q1] at q2
    have hge:j≤i:=by simpa using q2
    rcases jB j i with hlt|hge'
    ·exfalso
     have:=Hz hi (hT.chain i (by omega) q1)
     rw [hfl (i-1) (by omega)] at this
     simp at this
     omega
    ·omega
   rw [AmL hone,IL hjs]
   congr 1
   have hq:=h.2 j (by rw [I4];exact hjr)
   unfold qOp at hq
   have ho:ops[j]? =some ops[j]:=jM hjs
   rw [Jv,ho] at hq
   have hb:jS m j=true:=Nat.ble_eq_true_of_le (by omega)
   simp only [iS,hb,cond_true] at hq
   have hng:=hT.ng j _ ho (.inl (by omega))
   have hw:iZ (Iq ops[j]) (yielded (EJ ops m) a.tmps)=true:=by
    unfold iZ Iq
    simp only [hng]
   rw [hw] at hq
   simp only [if_true] at hq
   obtain ⟨v,_,hq⟩:=hq
   have hput:a.put (Iq ops[j]).dst v=a:=rfl
   rw [hput] at hq
   refine ih t (j+1) _ (by simpa using hs) (by omega) (λi hi=>?_) hq
   rw [DI (by omega),hl i hi]
   by_cases hij:i=j
   ·subst hij;simp
   ·rw [if_neg hij]
    apply mS.2
    simp only [decide_eq_true_eq]
    omega
  ·have hnil:iU .any ops listed=[]:=by
    cases hr:iU .any ops listed with
    |nil=>rfl
    |cons x xs=>
     have hx:x∈iU .any ops listed:=by rw [hr];simp
     obtain ⟨q1,q2,_⟩:=FX.1 hx
     rw [hl x q1] at q2
     simp at q2
     omega
   rw [AmK hnil,show ops.size-j=0 by omega]
   rfl
theorem Ac1 {o:Oper} {tm:Array Value} (hg:∀j b,o.guard=some (j,b)→j<m):iZ o (yielded (EJ ops m) tm)=iZ o (yielded ops tm):=by
 unfold iZ
 split
 ·rfl
 ·rename_i j b hj
  have:=hg j b hj
  have hb:jS m j=false:=by
   cases hb:jS m j with
   |false=>rfl
   |true=>have:=iQ hb;omega
  have e:(EJ ops m)[j]? =ops[j]? :=by
   rw [Jv,hb]
   cases ops[j]? <;>rfl
  simp only [yielded,e]
theorem Aqc {P:Program} {f:Fq} {R:Ending→World→Prop} {k:List Item} {C:World→Prop} {Q0:Act→Prop} (hT:Aaf ops u m) (HA:∀a w,Q0 a→C w→WT P f R (.inRegion ops (jK m (ops.size-m))::k) a w)
 (HB:∀o,ops[u]? =some o→∀a w v,Q0 (a.put o.dst v)→C w→WT P f R (.inRegion ops (m::u::jK (m+1) (ops.size-(m+1)))::k) a w):
 ∀(fuel t:Nat) (listed:Array Bool) (a:Act) (w:World),listed.size=ops.size→(∀i,m≤i→i<ops.size→listed.getD i true=false)→Closed ops listed→C w→wpAnyQ P .any (EJ ops m) C Q0 fuel listed a→
  WT P f R (.inRegion ops (jO .any ops fuel t listed [])::k) a w:=by
 have hms:=hT.ms
 have never:∀listed:Array Bool,listed.size=ops.size→(∀i,m≤i→i<ops.size→listed.getD i true=false)→iU .any ops listed≠[]:= λlisted hs hm h=>by
  have:=ready_nil hT.dep hs h m hms
  rw [hm m (jY _) hms] at this;cases this
 intro fuel
 induction fuel with
 |zero=>
  intro t listed a w hs hm hcl hC h
  have:=h.1
  rw [I4] at this
  exact absurd this (never listed hs hm)
 |succ fuel ih=>
  intro t listed a w hs hm hcl hC h
  have h0:=h
  obtain ⟨_,h1⟩:=h
  rw [I4] at h1
  simp only [jO]
  change WT P f R (.inRegion ops (match (iU .any ops listed)[t%(iU .any ops listed).length]? with
   |some i=>jO .any ops fuel (t/(iU .any ops listed).length) (listed.setIfInBounds i true) [i]
   |none=>[].reverse)::k) a w
  cases hi:(iU .any ops listed)[t%(iU .any ops listed).length]? with
  |none=>
   exfalso
   cases hr:iU .any ops listed with
   |nil=>exact never listed hs hm hr
   |cons x xs=>
    rw [hr] at hi
    have hlt:t%(x::xs).length<(x::xs).length:=mB _ (by simp)
    rw [iK hlt] at hi;cases hi
  |some i=>
   have him:=iV hi
   dsimp only
   rw [linearise_go_acc,nG,mO]
   have hq:=h1 i him
   obtain ⟨r1,r2,r3⟩:=FX.1 him
   have ho:ops[i]? =some ops[i]:=jM r1
   have hs':(listed.setIfInBounds i true).size=ops.size:=by simpa using hs
   rcases jB i m with hlm|hge
   ·
    generalize ops[i]=o at ho
    have hm':∀x,m≤x→x<ops.size→(listed.setIfInBounds i true).getD x true=false:= λx hx hxs=>by
     rw [DI (by omega),if_neg (by omega)];exact hm x hx hxs
    have hb:jS m i=false:=by
     cases hb:jS m i with
     |false=>rfl
     |true=>have:=iQ hb;omega
    unfold qOp at hq
    rw [Jv,ho] at hq
    simp only [iS,hb,cond_false] at hq
    rw [Ac1 (hT.gd i o ho)] at hq
    cases hw:iZ o (yielded ops a.tmps) with
    |true=>
     rw [hw] at hq
     simp only [if_true] at hq
     obtain ⟨v,hv,hq⟩:=hq
     exact WT.op ho hw (hv w hC) hC λw' hC'=>ih _ _ _ w' hs' hm' (hcl.set him hs) hC' hq
    |false=>
     rw [hw] at hq
     simp only [kQ,if_false] at hq
     exact WT.JQ ho hw (ih _ _ _ w hs' hm' (hcl.set him hs) hC hq)
   ·have him2:i=m:=by
     rcases jB m i with hlt|_
     ·exfalso
      have:=Hz him (hT.chain i hlt r1)
      rw [getD_both (by omega) false true,hm (i-1) (by omega) (by omega)] at this
      cases this
     ·omega
    subst him2
    have hall:∀j,j<i→j≠u→listed.getD j true=true:= λj hj hju=>by
     rcases hT.cover j hj with e|e
     ·exact absurd e hju
     ·have:=O1 hcl i (EZ ops i) (λs hs=>Hz him hs) j e
      rw [getD_both (by omega) true false];exact this
    have hnop:∀j,i≤j→j<ops.size→∃o,(EJ ops i)[j]? =some (Iq o)∧o.guard=none:= λj hj hjs=>by
     have hoj:ops[j]? =some ops[j]:=jM hjs
     refine ⟨ops[j],?_,hT.ng j _ hoj (.inl hj)⟩
     have hb:jS i j=true:=Nat.ble_eq_true_of_le hj
     rw [Jv,hoj,iS,hb,cond_true]
    have hq':wpAnyQ P .any (EJ ops i) C Q0 fuel (listed.setIfInBounds i true) a:=by
     obtain ⟨o,e,hg⟩:=hnop i (jY _) r1
     unfold qOp at hq
     rw [e] at hq
     simp only at hq
     have hw:iZ (Iq o) (yielded (EJ ops i) a.tmps)=true:=by
      unfold iZ Iq
      simp only [hg]
     rw [hw] at hq
     simp only [if_true] at hq
     obtain ⟨v,_,hq⟩:=hq
     have hput:a.put (Iq o).dst v=a:=rfl
     rw [hput] at hq
     exact hq
    have hlate:(u<i∧u∈EZ ops (i+1)∧listed.getD u true=false)∨(∀j,j<i→listed.getD j true=true):=by
     rcases hT.late with e|⟨e1,e2⟩
     ·exact .inr λj hj=>hall j hj (by omega)
     ·cases hl:listed.getD u true with
      |false=>exact .inl ⟨e2,e1,rfl⟩
      |true=>
       refine .inr λj hj=>?_
       by_cases hju:j=u
       ·rw [hju];exact hl
       ·exact hall j hj hju
    rcases hlate with ⟨hu1,hu2,hu3⟩|hall2
    ·
     have hus:u<ops.size:=by omega
     have hou:ops[u]? =some ops[u]:=jM hus
     have hnu:=hT.ng u _ hou (.inr rfl)
     have hur:u∈iU .any ops (listed.setIfInBounds i true):=Agx hus (by rw [DI (by omega),if_neg (by omega)];exact hu3) λd hd=>by
      obtain ⟨d1,d2⟩:=Aeb hT.dep hd
      rw [DI (by omega),if_neg (by omega),getD_both (by omega) false true]
      exact hall d (by omega) (by omega)
     have hone:=ready_one hur λj hj=>by
      obtain ⟨q1,q2,_⟩:=FX.1 hj
      rw [DI (by omega)] at q2
      by_cases hji:j=i
      ·rw [if_pos hji] at q2;cases q2
      ·rw [if_neg hji] at q2
       rcases jB j i with hlt|hge
       ·by_cases hju:j=u
        ·exact hju
        ·rw [hall j hlt hju] at q2;cases q2
       ·exfalso
        have hjd:=Hz hj (hT.chain j (by omega) q1)
        by_cases hj1:j=i+1
        ·subst hj1
         have:=Hz hj hu2
         rw [DI (by omega),if_neg (by omega),getD_both (by omega) false true,hu3] at this
         cases this
        ·rw [DI (by omega),if_neg (by omega),getD_both (by omega) false true,hm (j-1) (by omega) (by omega)] at hjd
         cases hjd
     cases fuel with
     |zero=>
      have:=hq'.1
      rw [I4,hone] at this
      cases this
     |succ fuel=>
      rw [AmL hone]
      have hqu:=hq'.2 u (by rw [I4];exact hur)
      unfold qOp at hqu
      have hb:jS i u=false:=by
       cases hb:jS i u with
       |false=>rfl
       |true=>have:=iQ hb;omega
      rw [Jv,hou] at hqu
      simp only [iS,hb,cond_false] at hqu
      have hw:iZ ops[u] (yielded (EJ ops i) a.tmps)=true:=by
       unfold iZ
       simp only [hnu]
      rw [hw] at hqu
      simp only [if_true] at hqu
      obtain ⟨v,_,hqu⟩:=hqu
      have hsz2:((listed.setIfInBounds i true).setIfInBounds u true).size=ops.size:=by simpa using hs
      have hl2:∀j,j<ops.size→((listed.setIfInBounds i true).setIfInBounds u true).getD j true=decide (j<i+1):= λj hj=>by
       rw [DI (by simpa using by omega),DI (by omega)]
       by_cases hju:j=u
       ·subst hju;simp;omega
       ·rw [if_neg hju]
        by_cases hji:j=i
        ·subst hji;simp
        ·rw [if_neg hji]
         rcases jB j i with hlt|hge
         ·rw [hall j hlt hju];simp;omega
         ·rw [hm j hge hj];simp;omega
      have hQ:=Y8 (W:=w) fuel _ _ (by rw [IY];exact hsz2) (λj hj hl=>by
       rw [IY] at hj
       rw [hl2 j hj] at hl
       have:¬j<i+1:=by simpa using hl
       exact hnop j (by omega) hj) hqu
      have hch:jO .any ops fuel (t/(iU .any ops listed).length) ((listed.setIfInBounds i true).setIfInBounds u true) []=jK (i+1) (ops.size-(i+1)):=
       Agy hT fuel _ (i+1) _ hsz2 (by omega) hl2 hqu
      rw [hch]
      exact HB _ hou a w v hQ hC
    ·have hl2:∀j,j<ops.size→(listed.setIfInBounds i true).getD j true=decide (j<i+1):= λj hj=>by
      rw [DI (by omega)]
      by_cases hji:j=i
      ·subst hji;simp
      ·rw [if_neg hji]
       rcases jB j i with hlt|hge
       ·rw [hall2 j hlt];simp;omega
       ·rw [hm j hge hj];simp;omega
     have hQ:=Y8 (W:=w) fuel _ _ (by rw [IY];exact hs') (λj hj hl=>by
      rw [IY] at hj
      rw [hl2 j hj] at hl
      have:¬j<i+1:=by simpa using hl
      exact hnop j (by omega) hj) hq'
     have hch:=Agy hT fuel (t/(iU .any ops listed).length) (i+1) _ hs' (by omega) hl2 hq'
     rw [hch,←IL r1]
     exact HA a w hQ hC
end
theorem WT.Xe {P:Program} {f:Fq} {R:Ending→World→Prop} {k:List Item} {C:World→Prop} {Q0:Act→Prop} {ops:Array Oper} {u m id:Nat} {a:Act} {w:World} (hmx:P.follows .mixedOrders=true) (hT:Aaf ops u m) (hC:C {w with drawn:=w.drawn+1})
 (HA:∀a w,Q0 a→C w→WT P f R (.inRegion ops (jK m (ops.size-m))::k) a w)
 (HB:∀o,ops[u]? =some o→∀a w v,Q0 (a.put o.dst v)→C w→WT P f R (.inRegion ops (m::u::jK (m+1) (ops.size-(m+1)))::k) a w)
 (h:wpQuiet P (EJ ops m) C Q0 (EJ ops m).toList a):WT P f R (.code (.region id ops true)::k) a w:=by
 refine WT.step (λcs=>stepR_region_draw) ?_
 simp only [Region.schedule,hmx,kS,if_true]
 have hlex:=hT.lex
 simp only [oF,iE] at hlex
 have h2:=wpAnyQ_lex (C:=C) (md:= .any) hlex.1 (EJ ops m).toList 0 (mT (EJ ops m).size false) a (by simp) (by simpa using hlex.2) h
 simp only [lS,IY] at h2
 refine Aqc hT HA HB ops.size _ _ a _ (by simp) (λi _ hi=>by simp [Array.getD,hi]) (λi hi=>?_) hC h2
 exfalso
 rw [jC] at hi
 rcases jB i ops.size with h'|h'
 ·simp [h'] at hi
 ·rw [kE (by simpa using h')] at hi;cases hi
theorem Fr.unput {σ:Type} {n d:Nat} {L:List Ak} {K:List (Chunk σ)} {a:Act} {v:Value} (h:Fr n L K (a.put (some d) v)):Fr n (del d L) K a:=by
 have hne:∀s,s≠d→(a.put (some d) v).tmps.getD s undef=a.tmps.getD s undef:= λs hs=>by
  show (a.tmps.setIfInBounds d v).getD s undef=_
  rw [jC,kW,if_neg (Ne.symm hs),jC]
 have hgv:∀g:Option (Nat×Bool),(∀c b,g=some (c,b)→c≠d)→(GV (a.put (some d) v).tmps g↔GV a.tmps g):= λg hg=>by
  cases g with
  |none=>rfl
  |some x=>
   obtain ⟨c,b⟩:=x
   simp only [GV]
   rw [hne c (hg c b rfl)]
 refine ⟨h.kok,h.defers,?_, λe he hg=>?_, λe he hg=>?_⟩
 ·have:=h.size
  have e:(a.put (some d) v).tmps.size=a.tmps.size:=by show (a.tmps.setIfInBounds d v).size=_;simp
  omega
 ·obtain ⟨h1,h2,h3⟩:=Oq he
  obtain ⟨q1,q2⟩:=h.ents e h1 ((hgv _ h3).2 hg)
  exact ⟨by rw [←hne e.s h2];exact q1,q2⟩
 ·obtain ⟨h1,h2,h3⟩:=Oq he
  have:=h.skipd e h1 (λq=>hg ((hgv _ h3).1 q))
  rw [hne e.s h2] at this
  exact this
end
section
open Go.RowKit
theorem Di.write' {E:World} {G:Hp} {w w':World} {As:List Ew} (h:Di E G w As) {i b:Nat} {A A':Ew} (hi:As[i]? =some A) (hown:∀k:Hp,A k→k b≠none)
 (he:w'.os=w.os∧w'.tape=w.tape∧w'.output=w.output) (hs:w'.heap.size=w.heap.size) (hh:∀c,c≠b→w'.heap[c]? =w.heap[c]?)
 (hA:∀k k':Hp,A k→(∀c,c≠b→k' c=k c)→k' b=w'.heap[b]? →A' k'):Di E G w' (As.set i A'):=by
 obtain ⟨⟨e1,e2,e3,e4⟩,h2,o,h3,h4⟩:=h
 have hAi:=h4 i _ hi
 have hob:o b=some i:=by
  have:=hown _ hAi
  unfold part at this
  split at this
  ·assumption
  ·exact absurd rfl this
 refine ⟨⟨he.1.trans e1,he.2.1.trans e2,he.2.2.trans e3,by omega⟩, λc y hc=>?_,o, λc j hc=>⟨(h3 c j hc).1,by rw [hs];exact (h3 c j hc).2⟩, λj A hj=>?_⟩
 ·rw [hh c (λe=>by subst e;rw [(h3 _ _ hob).1] at hc;cases hc)];exact h2 c y hc
 ·by_cases hij:i=j
  ·subst hij
   rw [iT (BD hi)] at hj
   injection hj with hj
   subst hj
   refine hA _ _ hAi (λc hc=>?_) ?_
   ·unfold part
    split
    ·exact hh c hc
    ·rfl
   ·simp [part,hob]
  ·rw [iW hij] at hj
   have:part w' o j=part w o j:=by
    funext c
    unfold part
    split
    ·rename_i hc
     exact hh c (λe=>by subst e;rw [hob] at hc;injection hc with hc;exact hij hc)
    ·rfl
   rw [this];exact h4 j A hj
theorem Sat.write' {E:Ev} {G:Hp} {w w':World} {As:List CZ} (h:Sat E G w As) {i b:Nat} {A A':CZ} (hi:As[i]? =some A) (hown:∀Y k:Hp,A Y k→k b≠none)
 (he:w'.os=w.os∧w'.tape=w.tape∧w'.output=w.output) (hs:w'.heap.size=w.heap.size) (hh:∀c,c≠b→w'.heap[c]? =w.heap[c]?)
 (hA:∀Y k k':Hp,A Y k→(∀c,c≠b→k' c=k c)→k' b=w'.heap[b]? →A' Y k'):Sat E G w' (As.set i A'):=by
 obtain ⟨Z,hz,hw,h0⟩:=h
 refine Sat.of hz hw h0.2.1 ?_
 rw [jU]
 exact h0.write' (b:=b) (EI hi) (λk hk=>hown Z k (hk Z (Hp.le_refl Z))) he hs hh λk k' hk h1 h2 Y hY=>hA Y k k' (hk Y hY) h1 h2
theorem Aag {α:Type}:∀(vs:List α) (cs:List α) (off:Nat),off+vs.length≤cs.length→FP cs off vs=cs.take off++vs++cs.drop (off+vs.length)
 |[],cs,off,_=>by simp [FP]
 |v::vs,cs,off,h=>by
  simp only [jJ] at h
  have hlt:off<cs.length:=by omega
  rw [FP,Aag vs _ _ (by simp;omega)]
  have e1:(cs.set off v).take (off+1)=cs.take off++[v]:=by
   rw [List.take_set]
   rw [List.take_succ_eq_append_getElem hlt,List.set_append_right _ _ (by simp;omega)]
   simp [Nat.min_eq_left (Nat.le_of_lt hlt)]
  have e2:(cs.set off v).drop (off+1+vs.length)=cs.drop (off+(v::vs).length):=by
   rw [List.drop_set_of_lt (by omega)]
   simp only [jJ]
   congr 1
   omega
  rw [e1,e2]
  simp
theorem Xf {α β:Type} (f:α→β):∀(vs:List α) (cs:List α) (off:Nat),(FP cs off vs).map f=FP (cs.map f) off (vs.map f)
 |[],cs,off=>rfl
 |v::vs,cs,off=>by rw [FP,Xf f vs,jU];rfl
theorem Xg {α:Type}:∀(vs:List α) (cs:List α) (off:Nat) (x:α),x∈FP cs off vs→x∈cs∨x∈vs
 |[],cs,off,x,h=> .inl h
 |v::vs,cs,off,x,h=>by
  rcases Xg vs _ _ x h with h|h
  ·rcases List.mem_or_eq_of_mem_set h with h|h
   ·exact .inl h
   ·exact .inr (by simp [h])
  ·exact .inr (by simp [h])
theorem Di.grown {E:World} {G:Hp} {w w':World} {As:List Ew} (h:Di E G w As) (kd row nb:Option Nat) (hg:w.grownBy w' row)
 (hrow:∀g,row=some g→∃k A,kd=some k∧As[k]? =some A∧∀p:Hp,A p→p g≠none) (hnb:nb=row∨nb=some w.heap.size) (hlt:∀g,nb=some g→g<w'.heap.size)
 (A':Ew) (hA':∀p:Hp,(∀g,nb=some g→p g=w'.heap[g]?)→A' p) (As':List Ew) (hAs':As'.length=As.length) (hAs:∀(i:Nat) A,As'[i]? =some A→(∀p,A p)∨(some i≠kd∧As[i]? =some A)):Di E G w' (As'++[A']):=by
 obtain ⟨⟨e1,e2,e3,e4⟩,h2,o,h3,h4⟩:=h
 have hown:∀g,row=some g→∃k,kd=some k∧o g=some k:= λg hr=>by
  obtain ⟨k,A,hk,hA,hp⟩:=hrow g hr
  refine ⟨k,hk,?_⟩
  have:=hp _ (h4 k A hA)
  unfold part at this
  split at this
  ·assumption
  ·exact absurd rfl this
 have hGnb:∀g,nb=some g→G g=none:= λg hn=>by
  rcases hnb with h|h
  ·obtain ⟨k,_,ho⟩:=hown g (h▸hn)
   exact (h3 g k ho).1
  ·rw [h] at hn;injection hn with hn;subst hn
   cases hG:G w.heap.size with
   |none=>rfl
   |some x=>have:=lt_of_heap (h2 _ _ hG);omega
 refine ⟨⟨hg.os.trans e1,hg.tape.trans e2,hg.output.trans e3,lZ e4 hg.size⟩, λb x hb=>?_,
  λb=>if nb=some b then some As.length else match o b with|some i=>if i<As.length∧some i≠kd then some i else none|none=>none, λb i hb=>?_, λi A hi=>?_⟩
 ·have hw:=h2 b x hb
  rw [hg.block b (lt_of_heap hw) (λe=>by obtain ⟨k,_,ho⟩:=hown b e.symm;rw [(h3 b k ho).1] at hb;cases hb)]
  exact hw
 ·dsimp only at hb
  split at hb
  ·rename_i hn;exact ⟨hGnb b hn,hlt b hn⟩
  ·cases ho:o b with
   |none=>simp [ho] at hb
   |some j=>exact ⟨(h3 b j ho).1,Nat.lt_of_lt_of_le (h3 b j ho).2 hg.size⟩
 ·rcases jB i As'.length with hl|hl
  ·rw [iI hl] at hi
   rcases hAs i A hi with hall|⟨hne,hA⟩
   ·exact hall _
   ·rw [Fb (w':=w) (o':=o) (j:=i)]
    ·exact h4 i A hA
    ·have one:∀b,(if nb=some b then some As.length else match o b with|some i=>if i<As.length∧some i≠kd then some i else none|none=>none)=some i↔o b=some i:= λb=>by
      constructor
      ·intro hb
       split at hb
       ·injection hb with hb;omega
       ·cases ho:o b with
        |none=>simp [ho] at hb
        |some j=>simp only [ho] at hb;split at hb
                 ·exact hb
                 ·cases hb
      ·intro hb
       have hnn:nb≠some b:= λhn=>by
        rcases hnb with h|h
        ·obtain ⟨k,hk,ho⟩:=hown b (h▸hn)
         rw [hb] at ho;injection ho with ho;subst ho
         exact hne hk.symm
        ·rw [h] at hn;injection hn with hn;have:=(h3 b i hb).2;omega
       rw [if_neg hnn,hb]
       simp only [if_pos (⟨by omega,hne⟩:i<As.length∧some i≠kd)]
     refine λb=>⟨one b, λhb=>?_⟩
     have hb':=(one b).1 hb
     refine hg.block b (h3 b i hb').2 (λe=>?_)
     obtain ⟨k,hk,ho⟩:=hown b e.symm
     rw [hb'] at ho;injection ho with ho;subst ho
     exact hne hk.symm
  ·rw [iJ hl] at hi
   have hz:i-As'.length=0:=by
    rcases mK (i-As'.length) with h0|h0
    ·exact h0
    ·rw [jE (by simp;omega)] at hi;cases hi
   rw [hz] at hi
   simp only [jH,iA] at hi
   subst hi
   have hi':i=As.length:=by omega
   subst hi'
   refine hA' _ λg hn=>?_
   unfold part
   rw [if_pos (by simp [hn])]
theorem Sat.grown {E:Ev} {G:Hp} {w w':World} {As:List CZ} (h:Sat E G w As) (kd row nb:Option Nat) (hg:w.grownBy w' row)
 (hrow:∀g,row=some g→∃k A,kd=some k∧As[k]? =some A∧∀Y p:Hp,A Y p→p g≠none) (hnb:nb=row∨nb=some w.heap.size) (hlt:∀g,nb=some g→g<w'.heap.size)
 (A':CZ) (hA':∀Y p:Hp,(∀g,nb=some g→p g=w'.heap[g]?)→A' Y p) (As':List CZ) (hAs':As'.length=As.length) (hAs:∀(i:Nat) A,As'[i]? =some A→(∀Y p,A Y p)∨(some i≠kd∧As[i]? =some A)):Sat E G w' (As'++[A']):=by
 obtain ⟨Z,hz,hw,h0⟩:=h
 refine Sat.of hz hw h0.2.1 ?_
 rw [jD]
 exact h0.grown kd row nb hg (λg hr=>let ⟨k,A,h1,h2,h3⟩:=hrow g hr;⟨k,_,h1,EI h2, λp hp=>h3 Z p (hp Z (Hp.le_refl Z))⟩) hnb hlt (IW Z A') (λp hp Y _=>hA' Y p hp) (As'.map (IW Z)) (by simp [hAs'])
  λi B hi=>by
   obtain ⟨C,h1,rfl⟩:=Js hi
   rcases hAs i C h1 with h2|⟨h2,h3⟩
   ·exact .inl λp Y _=>h2 Y p
   ·exact .inr ⟨h2,EI h3⟩
theorem Y9 {v:Value} (h:Yz v=true):v.oneCell'=true:=by cases v<;>first|rfl|(simp [Yz] at h)
theorem Agz {c c':Au} {v:Value} (h:Mc c v=some c'):c'.len=c.len+1∧c'.at c.len=v∧(∀i,i<c.len→c'.at i=c.at i)∧v.oneCell'=true:=by
 cases c with
 |ints k xs=>
  cases v<;>simp only [Mc] at h<;>try cases h
  split at h
  ·rename_i e _;subst e;injection h with h;subst h
   refine ⟨by simp [Au.len],by simp [Au.at,Au.len], λi hi=>?_,rfl⟩
   simp only [Au.at,Au.len] at hi ⊢
   rw [iC,iC,iI hi]
  ·cases h
 |bools xs=>
  cases v<;>simp only [Mc] at h<;>try cases h
  refine ⟨by simp [Au.len],by simp [Au.at,Au.len], λi hi=>?_,rfl⟩
  simp only [Au.at,Au.len] at hi ⊢
  rw [iC,iC,iI hi]
 |vals xs=>
  simp only [Mc] at h
  cases ho:Yz v with
  |false=>rw [ho] at h;simp at h
  |true=>
   rw [ho] at h
   simp only [cond_true,iA] at h
   subst h
   refine ⟨by simp [Au.len],by simp [Au.at,Au.len], λi hi=>?_,Y9 ho⟩
   simp only [Au.at,Au.len] at hi ⊢
   rw [iC,iC,iI hi]
 |fz xs=>cases v<;>simp [Mc] at h
 |sls xs=>cases v<;>simp [Mc] at h
theorem O3:∀{cols cols':List Au} {vs r:List Value} {n:Nat},pushRow cols vs=some (cols',r)→(∀c∈cols,c.len=n)→
 cols'.length=cols.length∧(∀c∈cols',c.len=n+1)∧vs=cols'.map (·.at n)++r∧(∀i,i<n→cols'.map (·.at i)=cols.map (·.at i))∧∀v∈cols'.map (·.at n),v.oneCell'=true
 |[],cols',vs,r,n,h,_=>by
  simp only [pushRow,iA,iP] at h
  obtain ⟨rfl,rfl⟩:=h
  simp
 |c::cs,cols',[],r,n,h,_=>by simp [pushRow] at h
 |c::cs,cols',v::vs,r,n,h,hn=>by
  simp only [pushRow] at h
  split at h
  ·rename_i c' cs' r' hc hr
   simp only [iA,iP] at h
   obtain ⟨rfl,rfl⟩:=h
   obtain ⟨g1,g2,g3,g4⟩:=Agz hc
   have hcn:=hn c (by simp)
   obtain ⟨h1,h2,h3,h4,h5⟩:=O3 hr (λc hc=>hn c (by simp [hc]))
   rw [hcn] at g1 g2 g3
   refine ⟨by simp [h1], λx hx=>?_,by simp [g2,h3], λi hi=>by simp [g3 i hi,h4 i hi], λx hx=>?_⟩
   ·simp only [iG] at hx
    rcases hx with rfl|hx
    ·exact g1
    ·exact h2 x hx
   ·simp only [iD,iG] at hx
    rcases hx with rfl|hx
    ·rw [g2];exact g4
    ·exact h5 x hx
  ·cases h
theorem RJ {cols cols':List Au} {n:Nat} (h:∀i,i<n→cols'.map (·.at i)=cols.map (·.at i)):flat cols' n=flat cols n:=by
 induction n with
 |zero=>rfl
 |succ n ih=>rw [JA,JA,ih (λi hi=>h i (by omega)),h n (by omega)]
theorem Xh:∀{m:Nat} {cols cols':List Au} {vs:List Value} {n:Nat},Qo m cols vs=some cols'→(∀c∈cols,c.len=n)→
 cols'.length=cols.length∧(∀c∈cols',c.len=n+m)∧flat cols' (n+m)=flat cols n++vs
 |0,cols,cols',[],n,h,hn=>by simp only [Qo,iA] at h;subst h;exact ⟨rfl,by simpa using hn,by simp⟩
 |0,cols,cols',_::_,n,h,_=>by simp [Qo] at h
 |m+1,cols,cols',vs,n,h,hn=>by
  simp only [Qo] at h
  split at h
  ·rename_i cols1 r hp
   obtain ⟨h1,h2,h3,h4,_⟩:=O3 hp hn
   obtain ⟨g1,g2,g3⟩:=Xh h h2
   refine ⟨by omega, λc hc=>by have:=g2 c hc;omega,?_⟩
   rw [show n+(m+1)=n+1+m by omega,g3,JA,RJ h4,h3]
   simp
  ·cases h
theorem Ns {P:Program}:∀(d:Nat) (t:TypeId) (cols:List Au),KG P d t=some cols→∀c∈cols,c.len=0
 |0,t,cols,h=>by simp [KG] at h
 |d+1,t,cols,h=>by
  simp only [KG] at h
  split at h
  ·injection h with h;subst h;simp [Au.len]
  ·injection h with h;subst h;simp [Au.len]
  ·rename_i fs _
   have key:∀(fs:List Field) (cols:List Au),KG.go (KG P d) fs=some cols→∀c∈cols,c.len=0:=by
    intro fs
    induction fs with
    |nil=>intro cols h;simp only [KG.go,iA] at h;subst h;simp
    |cons f fs ih=>
     intro cols h
     simp only [KG.go] at h
     split at h
     ·rename_i a b ha hb
      injection h with h;subst h
      intro c hc
      rw [lT] at hc
      rcases hc with hc|hc
      ·exact Ns d _ a ha c hc
      ·exact ih b hb c hc
     ·cases h
   exact key fs.toList cols h
  ·split at h
   ·rename_i cs hcs
    injection h with h;subst h
    intro c hc
    obtain ⟨l,h1,h2⟩:=List.mem_flatten.1 hc
    rw [(List.mem_replicate.1 h1).2] at h2
    exact Ns d _ cs hcs c h2
   ·cases h
  ·injection h with h;subst h;simp [Au.len]
  ·cases h
theorem AiW {c d e:Au} (h:Agi c d=some e):e.len=c.len+d.len∧(∀i,i<c.len→e.at i=c.at i)∧∀i,i<d.len→e.at (c.len+i)=d.at i:=by
 have key:∀{α:Type} (xs ys:List α) (z:α),(∀i,i<xs.length→(xs++ys).getD i z=xs.getD i z)∧∀i,i<ys.length→(xs++ys).getD (xs.length+i) z=ys.getD i z:= λxs ys z=>
  ⟨λi hi=>by rw [iC,iC,iI hi],
   λi hi=>by rw [iC,iC,iJ (by omega),Nat.add_sub_cancel_left]⟩
 cases c<;>cases d<;>simp only [Agi] at h<;>try cases h
 ·split at h
  ·rename_i e' _;subst e';injection h with h;subst h
   exact ⟨by simp [Au.len], λi hi=>by simp only [Au.at];rw [(key _ _ 0).1 i hi], λi hi=>by simp only [Au.at,Au.len];rw [(key _ _ 0).2 i hi]⟩
  ·cases h
 ·split at h
  ·rename_i e' _;subst e';injection h with h;subst h
   exact ⟨by simp [Au.len], λi hi=>by simp only [Au.at];rw [(key _ _ 0).1 i hi], λi hi=>by simp only [Au.at,Au.len];rw [(key _ _ 0).2 i hi]⟩
  ·cases h
 ·exact ⟨by simp [Au.len], λi hi=>by simp only [Au.at];rw [(key _ _ false).1 i hi], λi hi=>by simp only [Au.at,Au.len];rw [(key _ _ false).2 i hi]⟩
 ·exact ⟨by simp [Au.len], λi hi=>by simp only [Au.at];rw [(key _ _ undef).1 i hi], λi hi=>by simp only [Au.at,Au.len];rw [(key _ _ undef).2 i hi]⟩
 ·rename_i xs ys
  refine ⟨by simp [Au.len], λi hi=>by simp only [Au.at];rw [(key _ _ undef).1 i hi], λi hi=>?_⟩
  simp only [Au.len] at hi
  simp only [Au.at,Au.len]
  rw [(key xs (ys.map slV) undef).2 i (by rw [jV];exact hi)]
  rw [iC,iM,iC,iK hi];rfl
theorem UI:∀{cs ds es:List Au} {n m:Nat},KR cs ds=some es→(∀c∈cs,c.len=n)→(∀d∈ds,d.len=m)→
 es.length=cs.length∧ds.length=cs.length∧(∀e∈es,e.len=n+m)∧(∀i,i<n→es.map (·.at i)=cs.map (·.at i))∧∀i,i<m→es.map (·.at (n+i))=ds.map (·.at i)
 |[],[],es,n,m,h,_,_=>by simp only [KR,iA] at h;subst h;simp
 |[],_::_,es,n,m,h,_,_=>by simp [KR] at h
 |_::_,[],es,n,m,h,_,_=>by simp [KR] at h
 |c::cs,d::ds,es,n,m,h,hc,hd=>by
  simp only [KR] at h
  split at h
  ·rename_i e es' h1 h2
   injection h with h;subst h
   obtain ⟨g1,g2,g3⟩:=AiW h1
   obtain ⟨f1,f2,f3,f4,f5⟩:=UI h2 (λc h=>hc c (by simp [h])) (λd h=>hd d (by simp [h]))
   have hcn:=hc c (by simp)
   have hdm:=hd d (by simp)
   rw [hcn,hdm] at g1;rw [hcn] at g2 g3;rw [hdm] at g3
   refine ⟨by simp [f1],by simp [f2], λx hx=>?_, λi hi=>by simp [g2 i hi,f4 i hi], λi hi=>by simp [g3 i hi,f5 i hi]⟩
   simp only [iG] at hx
   rcases hx with rfl|hx
   ·exact g1
   ·exact f3 x hx
  ·cases h
theorem Xi {cs ds es:List Au} {n:Nat}:∀{m:Nat},(∀i,i<n→es.map (·.at i)=cs.map (·.at i))→(∀i,i<m→es.map (·.at (n+i))=ds.map (·.at i))→flat es (n+m)=flat cs n++flat ds m
 |0,h1,_=>by simpa [flat] using RJ h1
 |m+1,h1,h2=>by
  rw [←mX,JA,Xi h1 (λi hi=>h2 i (by omega)),JA,h2 m (by omega)]
  simp
theorem Aox {cols:List Au} (h:cols.all Agj=true) {n:Nat}:∀v∈flat cols n,v.oneCell'=true:= λv hv=>by
 unfold flat at hv
 rw [List.mem_flatMap] at hv
 obtain ⟨i,_,hv⟩:=hv
 rw [kN] at hv
 obtain ⟨c,hc,rfl⟩:=hv
 rw [jN] at h
 have:=h c hc
 cases c<;>first|rfl|(simp [Agj] at this)
theorem UJ {n:Nat}:∀{cols cols':List Au},Qp n cols=some cols'→cols'.length=cols.length∧(∀c∈cols',c.len=n)∧∀i,i<n→cols'.map (·.at i)=cols.map (·.at 0)
 |[],cols',h=>by simp only [Qp,iA] at h;subst h;simp
 |c::cs,cols',h=>by
  simp only [Qp] at h
  split at h
  ·rename_i c' cs' hc hr
   injection h with h;subst h
   obtain ⟨h1,h2,h3⟩:=UJ hr
   have hcc:c'.len=n∧∀i,i<n→c'.at i=c.at 0:=by
    unfold AmA at hc
    split at hc<;>first|(injection hc with hc;subst hc;refine ⟨by simp [Au.len], λi hi=>?_⟩;simp [Au.at,iC,hi])|cases hc
   refine ⟨by simp [h1], λx hx=>?_, λi hi=>by simp [hcc.2 i hi,h3 i hi]⟩
   simp only [iG] at hx
   rcases hx with rfl|hx
   ·exact hcc.1
   ·exact h2 x hx
  ·cases h
theorem AiX {c c':Au} {i:Nat} {v:Value} (h:Ov c i v=some c') (hi:i<c.len):c'.len=c.len∧c'.at i=v∧(∀m,m≠i→c'.at m=c.at m)∧v.oneCell'=true:=by
 have key:∀{α:Type} (xs:List α) (x z:α),i<xs.length→(xs.set i x).getD i z=x∧∀m,m≠i→(xs.set i x).getD m z=xs.getD m z:= λxs x z hl=>
  ⟨by rw [iC,iT hl];rfl, λm hm=>by rw [iC,iC,iW (λe=>hm e.symm)]⟩
 cases c with
 |ints k xs=>
  cases v<;>simp only [Ov] at h<;>try cases h
  split at h
  ·rename_i e _;subst e;injection h with h;subst h
   obtain ⟨k1,k2⟩:=key xs _ 0 hi
   exact ⟨by simp [Au.len],by simp only [Au.at];rw [k1], λm hm=>by simp only [Au.at];rw [k2 m hm],rfl⟩
  ·cases h
 |bools xs=>
  cases v<;>simp only [Ov] at h<;>try cases h
  obtain ⟨k1,k2⟩:=key xs _ false hi
  exact ⟨by simp [Au.len],by simp only [Au.at];rw [k1], λm hm=>by simp only [Au.at];rw [k2 m hm],rfl⟩
 |vals xs=>
  simp only [Ov] at h
  cases ho:Yz v with
  |false=>rw [ho] at h;simp at h
  |true=>
   rw [ho] at h
   simp only [cond_true,iA] at h
   subst h
   obtain ⟨k1,k2⟩:=key xs v undef hi
   exact ⟨by simp [Au.len],by simp only [Au.at];rw [k1], λm hm=>by simp only [Au.at];rw [k2 m hm],Y9 ho⟩
 |fz xs=>cases v<;>simp [Ov] at h
 |sls xs=>cases v<;>simp [Ov] at h
theorem O4 {i n:Nat} (hi:i<n):∀{off:Nat} {cols cols':List Au} {vs:List Value},JL i off cols vs=some cols'→(∀c∈cols,c.len=n)→
 cols'.length=cols.length∧(∀c∈cols',c.len=n)∧(vs=[]∨off+vs.length≤cols.length)∧(∀v∈vs,v.oneCell'=true)∧
 ∀(j:Nat) (c':Au),cols'[j]? =some c'→∃c,cols[j]? =some c∧∀m,c'.at m=if m=i∧off≤j∧j<off+vs.length then vs.getD (j-off) undef else c.at m
 |off,cols,cols',[],h,hn=>by
  have:cols'=cols:=by cases off<;>cases cols<;>simp [JL] at h<;>first|exact h.symm|exact h
  subst this
  refine ⟨rfl,hn, .inl rfl,by simp, λj c' hj=>⟨c',hj, λm=>?_⟩⟩
  rw [if_neg (by simp only [mE];omega)]
 |0,c::cs,cols',v::vs,h,hn=>by
  simp only [JL] at h
  split at h
  ·rename_i c1 cs1 hc hr
   injection h with h;subst h
   have hcn:=hn c (by simp)
   obtain ⟨a1,a2,a3,a4⟩:=AiX hc (by omega)
   obtain ⟨h1,h2,h3,h4,h5⟩:=O4 hi hr (λc hc=>hn c (by simp [hc]))
   refine ⟨by simp [h1], λx hx=>?_, .inr ?_, λx hx=>?_, λj c' hj=>?_⟩
   ·simp only [iG] at hx
    rcases hx with rfl|hx
    ·omega
    ·exact h2 x hx
   ·rcases h3 with h3|h3
    ·subst h3;simp
    ·simp only [jJ];omega
   ·simp only [iG] at hx
    rcases hx with rfl|hx
    ·exact a4
    ·exact h4 x hx
   ·cases j with
    |zero=>
     simp at hj;subst hj
     refine ⟨c,rfl, λm=>?_⟩
     by_cases hm:m=i
     ·subst hm;rw [if_pos (by simp),a2];simp
     ·rw [if_neg (by simp [hm]),a3 m hm]
    |succ j=>
     obtain ⟨c0,e1,e2⟩:=h5 j c' (by simpa using hj)
     refine ⟨c0,by simpa using e1, λm=>?_⟩
     rw [e2 m]
     by_cases hm:m=i∧j<vs.length
     ·rw [if_pos ⟨hm.1,by omega,by omega⟩,if_pos ⟨hm.1,by omega,by simp only [jJ];omega⟩];simp
     ·rw [if_neg (by intro h;exact hm ⟨h.1,by omega⟩),if_neg (by intro h;exact hm ⟨h.1,by have:=h.2.2;simp only [jJ] at this;omega⟩)]
  ·cases h
 |off+1,c::cs,cols',v::vs,h,hn=>by
  simp only [JL] at h
  split at h
  ·rename_i cs1 hr
   injection h with h;subst h
   obtain ⟨h1,h2,h3,h4,h5⟩:=O4 hi hr (λc hc=>hn c (by simp [hc]))
   refine ⟨by simp [h1], λx hx=>?_, .inr ?_,h4, λj c' hj=>?_⟩
   ·simp only [iG] at hx
    rcases hx with rfl|hx
    ·exact hn _ (by simp)
    ·exact h2 x hx
   ·rcases h3 with h3|h3
    ·cases h3
    ·simp only [jJ] at h3 ⊢;omega
   ·cases j with
    |zero=>
     simp at hj;subst hj
     exact ⟨c,rfl, λm=>by rw [if_neg (by omega)]⟩
    |succ j=>
     obtain ⟨c0,e1,e2⟩:=h5 j c' (by simpa using hj)
     refine ⟨c0,by simpa using e1, λm=>?_⟩
     rw [e2 m]
     by_cases hm:m=i∧off≤j∧j<off+(v::vs).length
     ·rw [if_pos hm,if_pos ⟨hm.1,by omega,by omega⟩,Nat.add_sub_add_right]
     ·rw [if_neg hm,if_neg (by intro h;exact hm ⟨h.1,by omega,by omega⟩)]
  ·cases h
 |0,[],_,_::_,h,_=>by simp [JL] at h
 |off+1,[],_,_::_,h,_=>by simp [JL] at h
variable {σ:Type} (D:Addr→σ→CZ)
theorem Aah {kk vk:IntKind} {i y:Int} {bn:Nat}:∀(es:List MapEntry),(∀e∈es,∃x y,e.key= .int kk x∧e.val= .int vk y)→Ir es i=none→∀x,Ir (es++[⟨.int kk i, .int vk y,bn⟩]) x=bif x==i then some y else Ir es x
 |[],_,_,x=>by simp [Ir]
 |e::es,h,hn,x=>by
  obtain ⟨z,u,hk,hv⟩:=h e (by simp)
  simp only [Ir,hk,hv] at hn
  have hiz:(i==z)=false:=by
   cases hb:i==z with
   |false=>rfl
   |true=>rw [hb] at hn;simp at hn
  rw [hiz] at hn
  have ih:=Aah (kk:=kk) (vk:=vk) (i:=i) (y:=y) (bn:=bn) es (λe he=>h e (by simp [he])) hn x
  simp only [jX,Ir,hk,hv,ih]
  cases hxz:x==z with
  |false=>rfl
  |true=>
   have:x=z:=by simpa using hxz
   subst this
   have:(x==i)=false:=by simp at hiz ⊢;exact λe=>hiz e.symm
   rw [this];rfl
theorem UK {kk vk:IntKind} {i y:Int} {g:MapEntry→MapEntry} (hg:∀e,(g e).key= .int kk i∧(g e).val= .int vk y):∀(es:List MapEntry) (j:Nat) (e:MapEntry),(∀e∈es,∃x y,e.key= .int kk x∧e.val= .int vk y)→es[j]? =some e→e.key= .int kk i→
 (∀j',j'<j→∀e',es[j']? =some e'→e'.key≠ .int kk i)→∀x,Ir (es.modify j g) x=bif x==i then some y else Ir es x
 |[],j,e,_,hj,_,_,x=>by simp at hj
 |e0::es,0,e,h,hj,hk,hf,x=>by
  simp at hj;subst hj
  obtain ⟨z,u,hk',hv⟩:=h e0 (by simp)
  rw [hk] at hk';injection hk' with _ hk';subst hk'
  simp only [List.modify_zero_cons,Ir,(hg e0).1,(hg e0).2,hk,hv]
  cases x==i<;>rfl
 |e0::es,j+1,e,h,hj,hk,hf,x=>by
  obtain ⟨z,u,hk',hv⟩:=h e0 (by simp)
  have ih:=UK hg es j e (λe he=>h e (by simp [he])) (by simpa using hj) hk (λj' hj' e' he'=>hf (j'+1) (by omega) e' (by simpa using he')) x
  simp only [List.modify_succ_cons,Ir,hk',hv,ih]
  cases hxz:x==z with
  |false=>rfl
  |true=>
   have:x=z:=by simpa using hxz
   subst this
   have hne:=hf 0 (by omega) e0 rfl
   rw [hk'] at hne
   have:(x==i)=false:=by
    simp only [beq_eq_false_iff_ne,ne_eq]
    rintro rfl;exact hne rfl
   rw [this];rfl
section
variable {P:Program} {f:Fq} {R:Ending→World→Prop} {n:Nat} {E:Ev} {G:Hp} {L:List Ak} {K:List (Chunk σ)} {o:Oper} {a:Act} {w:World}
theorem Aai {t:TypeId} {kk vk:IntKind} (h:ZX P t=some (kk,vk)):∃kt et,P.underlying t=some (.map kt et)∧P.underlying kt=some (.int kk):=by
 unfold ZX at h
 split at h
 ·rename_i kt et hu
  split at h
  ·rename_i kk' vk' h1 h2
   simp only [iA,iP] at h
   obtain ⟨rfl,rfl⟩:=h
   exact ⟨kt,et,hu,h1⟩
  ·cases h
 ·cases h
theorem Afl {t:TypeId} {m i x:Operand} {b clock:Nat} {kk vk:IntKind} {iv xv:Int} {kt et:TypeId} {es:Array MapEntry} {f:Int→Option Int} (hop:o.op= .mapUpdate t m i x) (hm:a.eval m= .map (some b)) (hi:a.eval i= .int kk iv) (hx:a.eval x= .int vk xv)
 (hu:P.underlying t=some (.map kt et)) (hkt:P.underlying kt=some (.int kk)) (hb:w.heap[b]? =some (.map es clock)) (hM:AfU kk vk es.toList f):
 ∃es' clock',(execOp a.eval o).run P w= .ok .skip {w with heap:=w.heap.setIfInBounds b (.map es' clock')}∧AfU kk vk es'.toList (Aon f iv xv):=by
 have hck:(Instr.checkKey false 10000 kt (.int kk iv)).run P w= .ok () w:=by
  unfold Instr.checkKey
  simp only [iR,run_underlying hkt,Result.andThen_ok,iY]
 rcases Qa (k:=kk) (i:=iv) es.toList 0 hM.1 with ⟨h1,h2,h3⟩|⟨j,e,y,h1,h2,h3,h4,h5⟩
 ·have hf:(Instr.findKey kt (.int kk iv) es.toList).run P w= .ok none w:=by simp [Instr.findKey,run_underlying hkt,h1]
  refine ⟨es.push ⟨.int kk iv, .int vk xv,clock⟩,clock+1,?_,?_, λz=>?_⟩
  ·simp only [execOp,hop,hm,hi,hx,Instr.mapUpdate,iR,run_underlying hu,Result.andThen_ok,MapKept.run_getObj_map hb,hck,hf,MapKept.run_setObj_map _ hb,iY]
  ·intro e he
   simp only [oL,lT,jR] at he
   rcases he with he|rfl
   ·exact hM.1 e he
   ·exact ⟨iv,xv,rfl,rfl⟩
  ·rw [oL,Aah es.toList hM.1 h2,hM.2 z];rfl
 ·have hf:(Instr.findKey kt (.int kk iv) es.toList).run P w= .ok (some (0+j, .int vk y)) w:=by simp [Instr.findKey,run_underlying hkt,h1]
  have hj:es[0+j]? =some e:=by simpa using h3
  refine ⟨es.modify (0+j) λe=>{e with key:= .int kk iv,val:= .int vk xv},clock,?_,?_, λz=>?_⟩
  ·have hst:(Instr.keyThatStays (((es[0+j]?).map (·.key)).getD (.int kk iv)) (.int kk iv)).run P w= .ok (.int kk iv) w:=by
    rw [hj]
    simp only [iS,lM,h4]
    exact MapKept.run_keyThatStays (d:= .int kk) (by simp [MapKept.IsKey])
   simp only [execOp,hop,hm,hi,hx,Instr.mapUpdate,iR,run_underlying hu,Result.andThen_ok,MapKept.run_getObj_map hb,hck,hf,hst,MapKept.run_setObj_map _ hb,iY]
  ·intro e' he'
   rw [Array.toList_modify] at he'
   obtain ⟨k,hk⟩:=kT he'
   rw [List.getElem?_modify] at hk
   cases hq:es.toList[k]? with
   |none=>rw [hq] at hk;cases hk
   |some e0=>
    rw [hq] at hk
    simp only [Option.map_eq_map,iS,iA] at hk
    subst hk
    by_cases hjk:0+j=k
    ·simp only [hjk,if_true];exact ⟨iv,xv,rfl,rfl⟩
    ·simp only [hjk,if_false,id];exact hM.1 e0 (iV hq)
  ·rw [Array.toList_modify,lD,UK (λe=>⟨rfl,rfl⟩) es.toList j e hM.1 h3 h4 h5,hM.2 z];rfl
theorem Afm {vs:List Value} (h:J8 vs=true):∀v∈vs,v.oneCell'=true:= λv hv=>by
 unfold J8 at h
 rw [jN] at h
 exact Y9 (h v hv)
theorem Xj {t:TypeId} {x y:Operand} {b off m:Nat} {t0:TypeId} {cur:Array Value} (h:o.op= .store t x y) (hx:a.eval x= .pointer (some ⟨b,off,none⟩)) (hm:EP P t=some m) (hsz:(a.eval y).cells.size=m)
 (hb:w.heap[b]? =some (.cells cur t0 (0,0))) (hfit:off+m≤cur.size) (h1:∀v∈(a.eval y).cells.toList,v.oneCell'=true):
 (execOp a.eval o).run P w= .ok .skip (w.setRow b (cur.toList.take off++(a.eval y).cells.toList++cur.toList.drop (off+m)).toArray):=by
 have hst:=run_storeCells_at (P:=P) b off t0 (a.eval y).cells.toList 0 cur w hb (by simpa [hsz] using hfit) h1
 simp only [oG,lS,hsz] at hst
 simp [execOp,h,hx,Instr.storeAt,Instr.sureAddr,storeVar,Gp hm,hsz,hst]
end
end
section
open Go.RowKit
theorem Di.grow {E:World} {G:Hp} {w:World} {As:List Ew} (h:Di E G w As) {i:Nat} {A A':Ew} (hi:As[i]? =some A) (x:Obj)
 (hA:∀k k':Hp,A k→k.sub w→k w.heap.size=none→(∀c,c≠w.heap.size→k' c=k c)→k' w.heap.size=some x→A' k'):Di E G (w.alloc x) (As.set i A'):=by
 obtain ⟨⟨e1,e2,e3,e4⟩,h2,o,h3,h4⟩:=h
 have hnew:(w.alloc x).heap[w.heap.size]? =some x:=heap_alloc_new w x
 have hold:∀c,c<w.heap.size→(w.alloc x).heap[c]? =w.heap[c]? := λc hc=>Below.heap_alloc w x c hc
 have hsz:(w.alloc x).heap.size=w.heap.size+1:=by simp
 have hno:w.heap[w.heap.size]? =none:=by simp
 refine ⟨⟨e1,e2,e3,by omega⟩, λc y hc=>?_, λc=>if c=w.heap.size then some i else o c, λc j hc=>?_, λj B hj=>?_⟩
 ·have:=h2 c y hc;rw [hold c (lt_of_heap this)];exact this
 ·dsimp only at hc
  split at hc
  ·rename_i e
   subst e
   refine ⟨?_,by omega⟩
   cases hg:G w.heap.size with
   |none=>rfl
   |some y=>have:=lt_of_heap (h2 _ _ hg);omega
  ·have:=h3 c j hc;exact ⟨this.1,by omega⟩
 ·by_cases hij:i=j
  ·subst hij
   have hlt:i<As.length:=BD hi
   rw [iT hlt] at hj
   injection hj with hj
   subst hj
   refine hA _ _ (h4 i A hi) (λb x hb=>KN hb) ?_ (λc hc=>?_) ?_
   ·unfold part;split
    ·exact hno
    ·rfl
   ·unfold part
    simp only [if_neg hc]
    by_cases ho:o c=some i
    ·rw [if_pos ho,if_pos ho];exact hold c (h3 c i ho).2
    ·rw [if_neg ho,if_neg ho]
   ·unfold part
    rw [if_pos (by simp)]
    exact hnew
  ·rw [iW hij] at hj
   have:part (w.alloc x) (λc=>if c=w.heap.size then some i else o c) j=part w o j:=by
    refine Fb λc=>⟨⟨λhc=>?_, λhc=>?_⟩, λhc=>?_⟩
    ·split at hc
     ·injection hc with hc;exact absurd hc hij
     ·exact hc
    ·rw [if_neg (by have:=(h3 c j hc).2;omega)];exact hc
    ·split at hc
     ·injection hc with hc;exact absurd hc hij
     ·exact hold c (h3 c j hc).2
   rw [this];exact h4 j B hj
theorem Sat.grow {E:Ev} {G:Hp} {w:World} {As:List CZ} (h:Sat E G w As) {i:Nat} {A A':CZ} (hi:As[i]? =some A) (x:Obj)
 (hA:∀Y k k':Hp,A Y k→k.sub w→k w.heap.size=none→(∀c,c≠w.heap.size→k' c=k c)→k' w.heap.size=some x→A' Y k'):Sat E G (w.alloc x) (As.set i A'):=by
 obtain ⟨Z,hz,hw,h0⟩:=h
 refine Sat.of hz hw h0.2.1 ?_
 rw [jU]
 exact h0.grow (EI hi) x λk k' hk h0 h1 h2 h3 Y hY=>hA Y k k' (hk Y hY) h0 h1 h2 h3
theorem Di.writeS {E:World} {G:Hp} {w w':World} {As:List Ew} (h:Di E G w As) {i b:Nat} {A A':Ew} (hi:As[i]? =some A) (hown:∀k:Hp,A k→k b≠none)
 (he:w'.os=w.os∧w'.tape=w.tape∧w'.output=w.output) (hs:w'.heap.size=w.heap.size) (hh:∀c,c≠b→w'.heap[c]? =w.heap[c]?)
 (hA:∀k k':Hp,A k→k.sub w→(∀c,c≠b→k' c=k c)→k' b=w'.heap[b]? →A' k'):Di E G w' (As.set i A'):=by
 obtain ⟨⟨e1,e2,e3,e4⟩,h2,o,h3,h4⟩:=h
 have hAi:=h4 i _ hi
 have hob:o b=some i:=by
  have:=hown _ hAi
  unfold part at this
  split at this
  ·assumption
  ·exact absurd rfl this
 refine ⟨⟨he.1.trans e1,he.2.1.trans e2,he.2.2.trans e3,by omega⟩, λc y hc=>?_,o, λc j hc=>⟨(h3 c j hc).1,by rw [hs];exact (h3 c j hc).2⟩, λj A hj=>?_⟩
 ·rw [hh c (λe=>by subst e;rw [(h3 _ _ hob).1] at hc;cases hc)];exact h2 c y hc
 ·by_cases hij:i=j
  ·subst hij
   rw [iT (BD hi)] at hj
   injection hj with hj
   subst hj
   refine hA _ _ hAi (λb x hb=>KN hb) (λc hc=>?_) ?_
   ·unfold part
    split
    ·exact hh c hc
    ·rfl
   ·simp [part,hob]
  ·rw [iW hij] at hj
   have:part w' o j=part w o j:=by
    funext c
    unfold part
    split
    ·rename_i hc
     exact hh c (λe=>by subst e;rw [hob] at hc;injection hc with hc;exact hij hc)
    ·rfl
   rw [this];exact h4 j A hj
theorem Sat.writeS {E:Ev} {G:Hp} {w w':World} {As:List CZ} (h:Sat E G w As) {i b:Nat} {A A':CZ} (hi:As[i]? =some A) (hown:∀Y k:Hp,A Y k→k b≠none)
 (he:w'.os=w.os∧w'.tape=w.tape∧w'.output=w.output) (hs:w'.heap.size=w.heap.size) (hh:∀c,c≠b→w'.heap[c]? =w.heap[c]?)
 (hA:∀Y k k':Hp,A Y k→k.sub w→(∀c,c≠b→k' c=k c)→k' b=w'.heap[b]? →A' Y k'):Sat E G w' (As.set i A'):=by
 obtain ⟨Z,hz,hw,h0⟩:=h
 refine Sat.of hz hw h0.2.1 ?_
 rw [jU]
 exact h0.writeS (b:=b) (EI hi) (λk hk=>hown Z k (hk Z (Hp.le_refl Z))) he hs hh λk k' hk h0 h1 h2 Y hY=>hA Y k k' (hk Y hY) h0 h1 h2
theorem JR {x y:Int×Int}:NP x y=true↔x=y:=by
 unfold NP
 rw [iE,beq_iff_eq,beq_iff_eq]
 exact ⟨λh=>Prod.ext h.1 h.2, λh=>by rw [h];exact ⟨rfl,rfl⟩⟩
theorem Ag0 (x:Int×Int):NP x x=true:=JR.2 rfl
section
variable {P:Program}
theorem Ll {t:TypeId} (h:NS P t=true):P.underlying t=some (.int .i64):=by
 unfold NS at h
 split at h
 ·assumption
 ·cases h
theorem UL {kt:TypeId} (h:PU P kt=true):∃fs f g,P.underlying kt=some (.struct fs)∧fs.toList=[f,g]∧P.stoodInHeld kt=false∧(f.name=="_")=false∧(g.name=="_")=false∧f.offset=0∧g.offset=1∧P.underlying f.type=some (.int .i64)∧P.underlying g.type=some (.int .i64):=by
 unfold PU at h
 split at h
 ·rename_i fs hu
  split at h
  ·rename_i f g hfg
   simp only [iE,kU] at h
   obtain ⟨h1,h2,h3,h4,h5,h6,h7⟩:=h
   exact ⟨fs,f,g,hu,hfg,h1,h2,h3,iF h4,iF h5,Ll h6,Ll h7⟩
  ·cases h
 ·cases h
theorem NV {t:TypeId} (h:KI P t=true):∃kt et,P.underlying t=some (.map kt et)∧PU P kt=true∧P.underlying et=some (.int .i64):=by
 unfold KI at h
 split at h
 ·rename_i kt et hu
  simp only [iE] at h
  exact ⟨kt,et,hu,h.1,Ll h.2⟩
 ·cases h
theorem O5 {t:TypeId} {cs:Array Value} {off:Nat} {v:Value} (hu:P.underlying t=some (.int .i64)) (hv:cs[off]? =some v) (w:World):(Go.part t cs off).run P w= .ok v w:=by
 simp [Go.part,isAgg,run_underlying hu,hv]
theorem Aqd {kt:TypeId} (h:PU P kt=true) (x y:Int×Int) (w:World):(Op.equal kt (EQ x) (EQ y)).run P w= .ok (NP x y) w:=by
 obtain ⟨fs,f,g,hu,hfg,hs,n1,n2,o1,o2,t1,t2⟩:=UL h
 have hf:P.fieldsOf kt=fs:=by simp [Program.fieldsOf,hu]
 have m1:f.name≠"_":=by simpa using n1
 have m2:g.name≠"_":=by simpa using n2
 show (Op.equalIn (9999+1) kt (.agg _) (.agg _)).run P w=_
 rw [run_equalIn_struct w 9999 kt _ _ (by rw [hf];exact hu) hs,hf,hfg]
 have p1:∀(z:Int×Int) (w:World),(Go.part f.type #[.int .i64 z.1, .int .i64 z.2] f.offset).run P w= .ok (.int .i64 z.1) w:= λz w=>O5 t1 (by rw [o1];rfl) w
 have p2:∀(z:Int×Int) (w:World),(Go.part g.type #[.int .i64 z.1, .int .i64 z.2] g.offset).run P w= .ok (.int .i64 z.2) w:= λz w=>O5 t2 (by rw [o2];rfl) w
 simp only [Op.eqFields,m1,m2,if_true,ne_eq,not_false_eq_true,iR,p1,p2,Result.andThen_ok,run_equalIn_int w 9998 _ _ _ _ _ t1,run_equalIn_int w 9998 _ _ _ _ _ t2]
 unfold NP
 cases h1:x.1==y.1<;>cases h2:x.2==y.2<;>simp [p2,run_equalIn_int w 9998 _ _ _ _ _ t2,h2]
theorem NW {kt:TypeId} (h:PU P kt=true) (x:Int×Int) (e:Bool) (w:World):(Instr.checkKey e 10000 kt (EQ x)).run P w= .ok () w:=by
 obtain ⟨fs,f,g,hu,hfg,hs,n1,n2,o1,o2,t1,t2⟩:=UL h
 have m1:f.name≠"_":=by simpa using n1
 have m2:g.name≠"_":=by simpa using n2
 have p1:∀(z:Int×Int) (w:World),(Go.part f.type #[.int .i64 z.1, .int .i64 z.2] f.offset).run P w= .ok (.int .i64 z.1) w:= λz w=>O5 t1 (by rw [o1];rfl) w
 have p2:∀(z:Int×Int) (w:World),(Go.part g.type #[.int .i64 z.1, .int .i64 z.2] g.offset).run P w= .ok (.int .i64 z.2) w:= λz w=>O5 t2 (by rw [o2];rfl) w
 have q1:∀(z:Int) (w:World),(Instr.checkKey e 9999 f.type (.int .i64 z)).run P w= .ok () w:= λz w=>by
  unfold Instr.checkKey;simp only [iR,run_underlying t1,Result.andThen_ok,iY]
 have q2:∀(z:Int) (w:World),(Instr.checkKey e 9999 g.type (.int .i64 z)).run P w= .ok () w:= λz w=>by
  unfold Instr.checkKey;simp only [iR,run_underlying t2,Result.andThen_ok,iY]
 show (Instr.checkKey e (9999+1) kt (.agg _)).run P w=_
 have hfs:fs= #[f,g]:=by rw [←mW (xs:=fs),hfg]
 subst hfs
 unfold Instr.checkKey
 simp only [iR,run_underlying hu,Result.andThen_ok]
 simp [m1,m2,p1,p2,q1,q2]
theorem Aaj {kt:TypeId} (h:PU P kt=true) (x:Int×Int):∀(es:List MapEntry) (l:List (Int×Int)) (i:Nat),es.map (·.key)=l.map EQ→∀w:World,
 (JM l x=false∧(Instr.findAsking kt (EQ x) es i).run P w= .ok none w)∨
 (∃j e,es[j]? =some e∧l[j]? =some x∧JM l x=true∧(Instr.findAsking kt (EQ x) es i).run P w= .ok (some (i+j,e.val)) w)
 |[],[],i,_,w=> .inl ⟨rfl,rfl⟩
 |[],_::_,_,hk,_=>by simp at hk
 |_::_,[],_,hk,_=>by simp at hk
 |e::es,y::l,i,hk,w=>by
  simp only [iD,jZ] at hk
  have hr:(Op.equal kt (EQ x) e.key).run P w= .ok (NP x y) w:=by rw [hk.1];exact Aqd h x y w
  have hc:JM (y::l) x=(NP x y||JM l x):=rfl
  cases he:NP x y with
  |true=>
   refine .inr ⟨0,e,rfl,?_,by rw [hc,he];rfl,?_⟩
   ·rw [JR.1 he];rfl
   ·rw [he] at hr
    simp [Instr.findAsking,hr]
  |false=>
   rw [he] at hr
   rcases Aaj h x es l (i+1) hk.2 w with ⟨h1,h2⟩|⟨j,e',h1,h2,h3,h4⟩
   ·exact .inl ⟨by rw [hc,he,h1];rfl,by simp [Instr.findAsking,hr,h2]⟩
   ·exact .inr ⟨j+1,e',by simpa using h1,by simpa using h2,by rw [hc,he,h3];rfl,by simp [Instr.findAsking,hr,h4];omega⟩
theorem Aec {kt:TypeId} (h:PU P kt=true) (x:Int×Int) (es:List MapEntry) (l:List (Int×Int)) (hk:es.map (·.key)=l.map EQ) (w:World):
 (JM l x=false∧(Instr.findKey kt (EQ x) es).run P w= .ok none w)∨
 (∃j e,es[j]? =some e∧l[j]? =some x∧JM l x=true∧(Instr.findKey kt (EQ x) es).run P w= .ok (some (j,e.val)) w):=by
 obtain ⟨fs,f,g,hu,_⟩:=UL h
 cases es with
 |nil=>
  cases l with
  |nil=>exact .inl ⟨rfl,by simp [Instr.findKey,run_underlying hu,Instr.findNow]⟩
  |cons _ _=>simp at hk
 |cons e es=>
  have e0:(Instr.findKey kt (EQ x) (e::es)).run P w=(Instr.findAsking kt (EQ x) (e::es)).run P w:=by
   have hn:Instr.findNow (.struct fs) (EQ x) (e::es) 0=none:=by simp [Instr.findNow,Instr.sameNow]
   simp [Instr.findKey,run_underlying hu,hn]
  rw [e0]
  rcases Aaj h x (e::es) l 0 hk w with h1|⟨j,e',h1,h2,h3,h4⟩
  ·exact .inl h1
  ·exact .inr ⟨j,e',h1,h2,h3,by rw [h4,lD]⟩
theorem Kt.keys {l:List (Int×Int)} {es:Array MapEntry} {clock:Nat} (H:Kt l es clock):es.toList.map (·.key)=l.map EQ:=by
 have:=congrArg (mV kM) H.1
 rw [lJ,lJ] at this
 exact this
theorem Kt.at {l:List (Int×Int)} {es:Array MapEntry} {clock:Nat} (H:Kt l es clock) {j:Nat} {e:MapEntry} {x:Int×Int} (he:es.toList[j]? =some e) (hx:l[j]? =some x):e.key=EQ x∧e.val= .int .i64 1:=by
 have:=congrArg (λq=>q[j]?) H.1
 simp only [iM,he,hx,iS,iA,iP] at this
 exact this
theorem Kt.nil:Kt [] #[] 0:=⟨rfl,by simp,by simp,lK⟩
theorem Akk {l:List (Int×Int)} {x:Int×Int}:JM l x=true↔x∈l:=by
 unfold JM
 rw [lH]
 exact ⟨λ⟨y,h1,h2⟩=>by rw [JR.1 h2];exact h1, λh=>⟨x,h,Ag0 x⟩⟩
theorem Akl {l:List (Int×Int)} {x:Int×Int} (h:JM l x=false):x ∉ l:= λhx=>by rw [Akk.2 hx] at h;cases h
variable {o:Oper} {a:Act} {w:World}
theorem Aoy {t kt et:TypeId} {m i v:Operand} {b clock:Nat} {x:Int×Int} {es:Array MapEntry} {l:List (Int×Int)} (hop:o.op= .mapUpdate t m i v) (hm:a.eval m= .map (some b)) (hi:a.eval i=EQ x) (hv:a.eval v= .int .i64 1)
 (hu:P.underlying t=some (.map kt et)) (hk:PU P kt=true) (hb:w.heap[b]? =some (.map es clock)) (hM:Kt l es clock):
 ∃es' clock',(execOp a.eval o).run P w= .ok .skip {w with heap:=w.heap.setIfInBounds b (.map es' clock')}∧Kt (He l x) es' clock':=by
 rcases Aec hk x es.toList l hM.keys w with ⟨h1,h2⟩|⟨j,e,h1,h2,h3,h4⟩
 ·refine ⟨es.push ⟨EQ x, .int .i64 1,clock⟩,clock+1,?_,?_⟩
  ·simp only [execOp,hop,hm,hi,hv,Instr.mapUpdate,iR,run_underlying hu,Result.andThen_ok,MapKept.run_getObj_map hb,NW hk,h2,MapKept.run_setObj_map _ hb,iY]
  ·obtain ⟨g1,g2,g3,g4⟩:=hM
   unfold He
   rw [h1,cond_false]
   refine ⟨by simp [g1],?_,?_,?_⟩
   ·rw [oL,jD,List.nodup_append]
    refine ⟨g2,by simp, λy hy z hz=>?_⟩
    simp only [iD,kD,jR] at hz
    subst hz
    obtain ⟨e,he,rfl⟩:=kN.1 hy
    exact Nat.ne_of_lt (g3 e he)
   ·intro e he
    rw [oL,lT,jR] at he
    rcases he with he|rfl
    ·have:=g3 e he;omega
    ·exact Nat.lt_succ_self clock
   ·rw [List.nodup_append]
    refine ⟨g4,by simp, λy hy z hz=>?_⟩
    simp only [jR] at hz
    subst hz
    rintro rfl
    exact Akl h1 hy
 ·obtain ⟨k1,k2⟩:=hM.at h1 h2
  have hj:es[j]? =some e:=by rw [←mP];exact h1
  refine ⟨es.modify j λe=>{e with key:=EQ x,val:= .int .i64 1},clock,?_,?_⟩
  ·have hst:(Instr.keyThatStays (((es[j]?).map (·.key)).getD (EQ x)) (EQ x)).run P w= .ok (EQ x) w:=by
    rw [hj]
    simp only [iS,lM,k1]
    have:Instr.sameBits 10000 (EQ x) (EQ x)=true:=by
     show Instr.sameBits (9999+1) (.agg _) (.agg _)=true
     unfold Instr.sameBits
     have q:∀z:Int,Instr.sameBits 9999 (.int .i64 z) (.int .i64 z)=true:= λz=>by unfold Instr.sameBits;simp
     simp [q]
    simp [Instr.keyThatStays,this]
   simp only [execOp,hop,hm,hi,hv,Instr.mapUpdate,iR,run_underlying hu,Result.andThen_ok,MapKept.run_getObj_map hb,NW hk,h4,hst,MapKept.run_setObj_map _ hb,iY]
  ·have e0:es.modify j (λe=>{e with key:=EQ x,val:= .int .i64 1})=es:=by
    apply Array.toList_inj.1
    rw [Array.toList_modify]
    refine lB λk=>?_
    rw [List.getElem?_modify]
    by_cases hk:j=k
    ·subst hk
     rw [h1]
     simp only [if_true,iS]
     rw [←k1,←k2];rfl
    ·cases es.toList[k]? <;>simp [hk]
   unfold He
   rw [h3,cond_true,e0]
   exact hM
theorem Jd {α β:Type} (f:α→β):∀(l:List α) (j:Nat),(l.eraseIdx j).map f=(l.map f).eraseIdx j
 |[],j=>rfl
 |x::l,0=>rfl
 |x::l,j+1=>by
  show f x::(l.eraseIdx j).map f=f x::(l.map f).eraseIdx j
  rw [Jd f l j]
theorem UM {x:Int×Int}:∀{l:List (Int×Int)} {j:Nat},l.Nodup→l[j]? =some x→La l x=l.eraseIdx j
 |[],j,_,h=>by simp at h
 |y::l,0,hn,h=>by
  simp only [jH,iA] at h
  subst h
  have hn:=lF.1 hn
  show (List.filter _ _)=_
  rw [nB (by simp [Ag0]),List.eraseIdx_zero,lE,List.filter_eq_self]
  intro z hz
  cases he:NP y z with
  |false=>rfl
  |true=>exact absurd (by rw [JR.1 he];exact hz) hn.1
 |y::l,j+1,hn,h=>by
  have hn:=lF.1 hn
  have h:l[j]? =some x:=by simpa using h
  have hne:NP x y=false:=by
   cases he:NP x y with
   |false=>rfl
   |true=>exact absurd (by rw [←JR.1 he];exact iV h) hn.1
  show (List.filter _ _)=_
  rw [List.filter_cons_of_pos (by simp [hne]),List.eraseIdx_cons_succ]
  exact congrArg _ (UM (l:=l) hn.2 h)
theorem Aoz {t kt et:TypeId} {m i:Operand} {ts:List TypeId} {b clock:Nat} {x:Int×Int} {es:Array MapEntry} {l:List (Int×Int)} (hop:o.op= .call {callee:= .builtin .delete,args:=⟨[m,i]⟩,argTypes:=⟨t::ts⟩}) (hm:a.eval m= .map (some b)) (hi:a.eval i=EQ x)
 (hu:P.underlying t=some (.map kt et)) (hk:PU P kt=true) (hb:w.heap[b]? =some (.map es clock)) (hM:Kt l es clock):
 ∃es',(execOp a.eval o).run P w= .ok (.value (.tuple #[])) {w with heap:=w.heap.setIfInBounds b (.map es' clock)}∧Kt (La l x) es' clock:=by
 rcases Aec hk x es.toList l hM.keys w with ⟨h1,h2⟩|⟨j,e,h1,h2,h3,h4⟩
 ·refine ⟨es,?_,?_⟩
  ·simp only [execOp,hop,resolve,invoke,builtin,iR,iY,Result.andThen_ok,nU,iD,kD,hm,hi,Builtin.delete_,nL,jH,kO,run_underlying hu,MapKept.run_getObj_map hb,NW hk,h2,MapKept.run_setObj_map _ hb]
  ·have:La l x=l:=by
    unfold La
    rw [List.filter_eq_self]
    intro z hz
    cases he:NP x z with
    |false=>rfl
    |true=>exact absurd (by rw [JR.1 he];exact hz) (Akl h1)
   rw [this];exact hM
 ·obtain ⟨g1,g2,g3,g4⟩:=hM
  refine ⟨es.eraseIdxIfInBounds j,?_,?_⟩
  ·simp only [execOp,hop,resolve,invoke,builtin,iR,iY,Result.andThen_ok,nU,iD,kD,hm,hi,Builtin.delete_,nL,jH,kO,run_underlying hu,MapKept.run_getObj_map hb,NW hk,h4,MapKept.run_setObj_map _ hb]
  ·have e0:(es.eraseIdxIfInBounds j).toList=es.toList.eraseIdx j:=by
    unfold Array.eraseIdxIfInBounds
    split
    ·simp
    ·rename_i hj
     rw [mM (by simpa using hj)]
   rw [UM g4 h2]
   refine ⟨?_,?_,?_,?_⟩
   ·rw [e0,Jd,g1,Jd]
   ·rw [e0,Jd];exact g2.sublist (nM _ _)
   ·intro e he;rw [e0] at he;exact g3 e ((nM _ _).subset he)
   ·exact g4.sublist (nM _ _)
theorem Ao0 {t kt et:TypeId} {m:Operand} {b clock:Nat} {es:Array MapEntry} {l:List (Int×Int)} (hop:o.op= .call {callee:= .builtin .len,args:=⟨[m]⟩,argTypes:=⟨[t]⟩}) (hm:a.eval m= .map (some b))
 (hu:P.underlying t=some (.map kt et)) (hb:w.heap[b]? =some (.map es clock)) (hM:Kt l es clock):(execOp a.eval o).run P w= .ok (.value (.int .i64 (l.length:Int))) w:=by
 have hl:es.size=l.length:=by
  have:=congrArg iH hM.1
  simpa using this
 simp only [execOp,hop,resolve,invoke,builtin,iR,iY,Result.andThen_ok,nU,iD,kD,hm,Builtin.len_,nL,jH,run_underlying hu,MapKept.run_getObj_map hb,hl,goInt]
theorem Alq {t kt et:TypeId} {m:Operand} {b clock:Nat} {es:Array MapEntry} (hop:o.op= .range t m) (hm:a.eval m= .map (some b))
 (hu:P.underlying t=some (.map kt et)) (hb:w.heap[b]? =some (.map es clock)):(execOp a.eval o).run P w= .ok (.value (.pointer (some ⟨w.heap.size,0,none⟩))) (w.alloc (.mapIter (some b) clock #[] clock)):=by
 simp only [execOp,hop,hm,iR,run_range_map w t kt et b es clock hu hb,Result.andThen_ok,iY]
theorem AmM (es:Array MapEntry):leftB es #[]=es.toList:=by
 unfold leftB
 rw [List.filter_eq_self]
 intro e _;simp
theorem Y1.start {l:List (Int×Int)} {b clock:Nat} {es:Array MapEntry} (H:Kt l es clock):Y1 b es clock [] l (.mapIter (some b) clock #[] clock):=
 ⟨#[],clock,rfl,jY _,by rw [AmM];exact H.keys,trivial⟩
theorem YA {p q:MapEntry→Bool} {e:MapEntry} (hq:∀z,q z=(p z&&!(z.born==e.born))):∀{es:List MapEntry} {j:Nat},(es.map (·.born)).Nodup→(es.filter p)[j]? =some e→es.filter q=(es.filter p).eraseIdx j
 |[],j,_,h=>by simp at h
 |y::l,j,hn,h=>by
  simp only [iD,lF] at hn
  cases hs:p y with
  |false=>
   rw [nB (p:=p) (by simp [hs])] at h ⊢
   rw [nB (p:=q) (by rw [hq,hs];simp)]
   exact YA hq hn.2 h
  |true=>
   rw [List.filter_cons_of_pos (p:=p) hs] at h ⊢
   cases j with
   |zero=>
    simp only [jH,iA] at h
    subst h
    rw [nB (p:=q) (by rw [hq];simp)]
    show l.filter q=l.filter p
    refine List.filter_congr λz hz=>?_
    rw [hq]
    have:(z.born==y.born)=false:=by
     cases hq:z.born==y.born with
     |false=>rfl
     |true=>exact absurd (kN.2 ⟨z,hz,by simpa using hq⟩) hn.1
    rw [this];simp
   |succ j=>
    have h:(l.filter p)[j]? =some e:=by simpa using h
    have hm:e∈l:=(mD.1 (iV h)).1
    have:(y.born==e.born)=false:=by
     cases hq:y.born==e.born with
     |false=>rfl
     |true=>exact absurd (kN.2 ⟨e,hm,Eq.symm (by simpa using hq)⟩) hn.1
    rw [List.filter_cons_of_pos (p:=q) (by rw [hq,hs,this];rfl),List.eraseIdx_cons_succ]
    exact congrArg _ (YA hq hn.2 h)
theorem AmN {es:Array MapEntry} {seen:Array Nat} {j:Nat} {e:MapEntry} (hn:(es.toList.map (·.born)).Nodup) (h:(leftB es seen)[j]? =some e):leftB es (seen.push e.born)=(leftB es seen).eraseIdx j:=by
 refine YA (λz=>?_) hn h
 have:(seen.push e.born).contains z.born=(seen.contains z.born||z.born==e.born):=by
  rw [mS]
  simp [Array.mem_push]
 rw [this,Bool.not_or]
theorem AmO {it:Operand} {b i clock:Nat} {es:Array MapEntry} {l r cur:List (Int×Int)} {ob:Obj} (hop:o.op= .next it false) (hi:a.eval it= .pointer (some ⟨i,0,none⟩))
 (hb:w.heap[b]? =some (.map es clock)) (ho:w.heap[i]? =some ob) (hM:Kt l es clock) (hI:Y1 b es clock cur r ob):
 (r=[]∧(execOp a.eval o).run P w= .ok (.value (.tuple #[.bool false])) w)∨
 (r≠[]∧∃(n:Nat) (ob':Obj) (w1:World),w1.heap=w.heap∧w1.os=w.os∧w1.tape=w.tape∧w1.output=w.output∧Y1 b es clock [Dq r n] (Hf r n) ob'∧
   (execOp a.eval o).run P w= .ok (.value (.tuple #[.bool true,EQ (Dq r n), .int .i64 1])) {w1 with heap:=w1.heap.setIfInBounds i ob'}):=by
 obtain ⟨seen,last,rfl,h1,h2,h3⟩:=hI
 have hold:∀x∈es.toList,x.born<clock:=hM.2.2.1
 have hrun:∀{v w'},(Instr.next (.pointer (some ⟨i,0,none⟩)) false o.type).run P w= .ok v w'→(execOp a.eval o).run P w= .ok (.value v) w':= λh=>by
  simp only [execOp,hop,hi,iR,h,Result.andThen_ok,iY]
 have hL:(es.filter λe=>!seen.contains e.born).toList=leftB es seen:=by rw [Array.toList_filter];rfl
 have hmem:∀x∈(es.filter λe=>!seen.contains e.born).toList,x.born<clock:= λx hx=>hold x (by rw [hL] at hx;exact (mD.1 hx).1)
 have hn:(Instr.next (.pointer (some ⟨i,0,none⟩)) false o.type).run P w=(do
  let left:=es.filter λe=>!seen.contains e.born
  let old:=left.filter (·.born<clock)
  let new:=left.filter (·.born≥clock)
  let candidates:=(if old.isEmpty then #[none] else #[])++(old++new).map some
  match candidates[←choose (.mapNext candidates.size)]? with
  |some (some e)=>
   setObj i (.mapIter (some b) clock (seen.push e.born) clock)
   pure (.tuple #[.bool true,e.key,e.val])
  |some none=>pure (.tuple #[.bool false])
  |none=>stuck "Next: no such candidate":Sem Value).run P w:=by
  simp only [Instr.next,getObj,iR,Sem.run,hb,ho,Result.andThen,next_test_false seen es clock last hold h1,kQ,if_false]
  rfl
 generalize hLe:(es.filter λe=>!seen.contains e.born)=Le at hL hmem hn
 have e1:Le.filter (λx=>decide (x.born<clock))=Le:=Array.filter_eq_self.2 (λx hx=>by simpa using hmem x (by simpa using hx))
 have e2:Le.filter (λx=>decide (x.born≥clock))= #[]:=by
  rw [Array.filter_eq_empty_iff]
  intro x hx
  have:=hmem x (by simpa using hx)
  simp
  omega
 simp only [e1,e2,Array.append_empty] at hn
 have hlen:r.length=Le.size:=by
  have:=congrArg iH h2
  rw [jV,jV,←hL] at this
  simpa using this.symm
 by_cases h0:Le.size=0
 ·left
  have:Le= #[]:=nD h0
  subst this
  refine ⟨nE (by simpa using hlen),hrun ?_⟩
  rw [hn]
  simp [choose,Sem.run,Question.forced]
 ·right
  have hne:Le.isEmpty=false:=by simp [Array.isEmpty,h0]
  simp only [hne,kQ,if_false,Array.empty_append,Array.size_map] at hn
  have hch:∃(n:Nat) (w1:World),n<Le.size∧w1.heap=w.heap∧w1.os=w.os∧w1.tape=w.tape∧w1.output=w.output∧(choose (Question.mapNext Le.size)).run P w= .ok n w1:=by
   by_cases hf:Le.size≤1
   ·exact ⟨0,w,by omega,rfl,rfl,rfl,rfl,by simp [choose,Sem.run,Question.forced,hf]⟩
   ·exact ⟨_,w.drew,mB _ (by omega),rfl,rfl,rfl,rfl,by
     simp only [choose,Sem.run,Question.forced,decide_eq_true_eq,hf,if_false,Question.cut]
     rfl⟩
  obtain ⟨n,w1,hjl',g1,g2,g3,g4,hr⟩:=hch
  have hjl:n%Le.size<Le.size:=mB _ (by omega)
  rw [←Nat.mod_eq_of_lt hjl'] at hr
  have hjr:n%Le.size<r.length:=by omega
  have hLj:(leftB es seen)[n%Le.size]? =some Le[n%Le.size]:=by
   rw [←hL,iK (by simpa using hjl)];simp
  have hm:Le[n%Le.size]∈es.toList:=(mD.1 (iV hLj)).1
  have hp:Dq r n=r[n%Le.size]:=by
   unfold Dq
   rw [hlen,iC,iK hjr];rfl
  have hk:(Le[n%Le.size]).key=EQ (Dq r n):=by
   have:=congrArg (λq=>q[n%Le.size]?) h2
   simp only [iM,hLj,iK hjr,iS,iA] at this
   rw [hp];exact this
  have hv:(Le[n%Le.size]).val= .int .i64 1:=by
   obtain ⟨q,hq⟩:=kT hm
   cases hx:l[q]? with
   |none=>
    have:=congrArg iH hM.keys
    rw [jV,jV] at this
    have h5:=BD hq
    rw [List.getElem?_eq_none_iff] at hx
    omega
   |some x=>exact (hM.at hq hx).2
  refine ⟨λe=>by rw [e] at hlen;simp at hlen;omega,n, .mapIter (some b) clock (seen.push (Le[n%Le.size]).born) clock,w1,g1,g2,g3,g4,⟨_,_,rfl,jY _,?_,rfl,Le[n%Le.size],hm,hk,by simp⟩,hrun ?_⟩
  ·rw [AmN hM.2.1 hLj,Jd,h2,←Jd]
   unfold Hf
   rw [hlen]
  ·rw [hn]
   have ho1:w1.heap[i]? =some (.mapIter (some b) clock seen last):=by rw [g1];exact ho
   simp only [iR,hr,Result.andThen_ok,Array.getElem?_map,jM hjl,iS]
   simp only [setObj,Sem.run,iR,ho1,Result.andThen,hk,hv]
   rfl
theorem Alr {it:Operand} {b i clock:Nat} {es:Array MapEntry} {l r:List (Int×Int)} {x:Int×Int} {ob:Obj} (hop:o.op= .entry it) (hi:a.eval it= .pointer (some ⟨i,0,none⟩))
 (hb:w.heap[b]? =some (.map es clock)) (ho:w.heap[i]? =some ob) (hM:Kt l es clock) (hI:Y1 b es clock [x] r ob):(execOp a.eval o).run P w= .ok (.value (.tuple #[EQ x, .int .i64 1])) w:=by
 obtain ⟨seen,last,rfl,h1,h2,rfl,e,he,hk,hs⟩:=hI
 have hf:es.find? (·.born==e.born)=some e:=by rw [←Array.find?_toList];exact find_born e es.toList hM.2.1 he
 have hv:e.val= .int .i64 1:=by
  obtain ⟨q,hq⟩:=kT he
  cases hx:l[q]? with
  |none=>
   have:=congrArg iH hM.keys
   rw [jV,jV] at this
   have h5:=BD hq
   rw [List.getElem?_eq_none_iff] at hx
   omega
  |some x=>exact (hM.at hq hx).2
 have hr:(Instr.entry (.pointer (some ⟨i,0,none⟩))).run P w= .ok (.tuple #[EQ x, .int .i64 1]) w:=by
  simp only [Instr.entry,getObj,iR,Sem.run,hb,ho,Result.andThen,hs,bne_self_eq_false,kQ,if_false,hf,hk,hv]
  rfl
 simp only [execOp,hop,hi,iR,hr,Result.andThen_ok,iY]
theorem Ac2 {z:Int}:∀(es:List MapEntry) (l:List (Int×Nat×Addr)) (i:Nat),RF l es→
 (NU l z=none→Instr.findNow (.int .i64) (.int .i64 z) es i=some none)∧∀f q,NU l z=some (f,q)→∃j,Instr.findNow (.int .i64) (.int .i64 z) es i=some (some (j,fnV f q))
 |[],[],i,_=>⟨λ_=>rfl, λf q h=>by cases h⟩
 |[],_::_,_,h=>by simp [RF] at h
 |_::_,[],_,h=>by simp [RF] at h
 |e::es,x::l,i,h=>by
  unfold RF at h
  simp only [iD,jZ,iP] at h
  obtain ⟨⟨h1,h2⟩,h3⟩:=h
  obtain ⟨g1,g2⟩:=Ac2 (z:=z) es l (i+1) h3
  have hs:Instr.sameNow (.int .i64) (.int .i64 z) e.key=some (z==x.1):=by rw [h1];simp [Instr.sameNow]
  unfold NU Instr.findNow
  rw [hs]
  cases hz:x.1==z with
  |true=>
   have:(z==x.1)=true:=by rw [beq_iff_eq] at hz ⊢;exact hz.symm
   rw [this]
   refine ⟨λh=>(by cases h), λf q h=>⟨i,?_⟩⟩
   simp only [cond_true,iA] at h
   show some (some (i,e.val))=_
   rw [h2,h]
  |false=>
   have:(z==x.1)=false:=by
    cases hq:z==x.1 with
    |false=>rfl
    |true=>rw [beq_iff_eq] at hq;rw [hq] at hz;simp at hz
   rw [this]
   exact ⟨λh=>g1 h, λf q h=>g2 f q h⟩
theorem Aak {kt:TypeId} (hk:P.underlying kt=some (.int .i64)) (z:Int) (e:Bool) (w:World):(Instr.checkKey e 10000 kt (.int .i64 z)).run P w= .ok () w:=by
 show (Instr.checkKey e (9999+1) kt (.int .i64 z)).run P w=_
 unfold Instr.checkKey;simp only [iR,run_underlying hk,Result.andThen_ok,iY]
theorem Aed {t:TypeId} (h:UB P t=true):∃kt et,P.underlying t=some (.map kt et)∧P.underlying kt=some (.int .i64):=by
 unfold UB at h
 split at h
 ·rename_i kt et hu
  exact ⟨kt,et,hu,Ll h⟩
 ·cases h
theorem Ao1 {t kt et:TypeId} {m i v:Operand} {b clock:Nat} {z:Int} {f:Nat} {q:Addr} {es:Array MapEntry} {l:List (Int×Nat×Addr)} (hop:o.op= .insert t m i v) (hm:a.eval m= .map (some b)) (hi:a.eval i= .int .i64 z) (hv:a.eval v=fnV f q)
 (hu:P.underlying t=some (.map kt et)) (hk:P.underlying kt=some (.int .i64)) (hb:w.heap[b]? =some (.map es clock)) (hM:RF l es.toList) (hn:NU l z=none):
 ∃es' clock',(execOp a.eval o).run P w= .ok .skip {w with heap:=w.heap.setIfInBounds b (.map es' clock')}∧RF (l++[(z,f,q)]) es'.toList:=by
 refine ⟨es.push ⟨.int .i64 z,fnV f q,clock⟩,clock+1,?_,?_⟩
 ·have h2:=(Ac2 (z:=z) es.toList l 0 hM).1 hn
  simp only [execOp,hop,hm,hi,hv,Instr.mapUpdate,Instr.findKey,iR,run_underlying hu,run_underlying hk,Result.andThen_ok,MapKept.run_getObj_map hb,Aak hk,h2,MapKept.run_setObj_map _ hb,iY]
 ·unfold RF at hM ⊢
  simp [hM]
theorem AmP {t kt et:TypeId} {m i:Operand} {b clock:Nat} {z:Int} {f:Nat} {q:Addr} {es:Array MapEntry} {l:List (Int×Nat×Addr)} (hop:o.op= .lookup t m i false) (hm:a.eval m= .map (some b)) (hi:a.eval i= .int .i64 z)
 (hu:P.underlying t=some (.map kt et)) (hk:P.underlying kt=some (.int .i64)) (hb:w.heap[b]? =some (.map es clock)) (hM:RF l es.toList) (hn:NU l z=some (f,q)):
 (execOp a.eval o).run P w= .ok (.value (fnV f q)) w:=by
 obtain ⟨j,h2⟩:=(Ac2 (z:=z) es.toList l 0 hM).2 f q hn
 simp only [execOp,hop,hm,hi,Instr.lookup,Instr.findKey,iR,run_underlying hu,run_underlying hk,Result.andThen_ok,MapKept.run_getObj_map hb,Aak hk,h2,iY,kQ,if_false]
theorem Aqe {t e:TypeId} {n sz:Nat} {x:Operand} {q:Addr} (hop:o.op= .slice t x none none none) (hx:a.eval x= .pointer (some q)) (hu:P.underlying t=some (.array n e)) (hs:EP P e=some sz):
 (execOp a.eval o).run P w= .ok (.value (.slice (some q) n n)) w:=by
 have hb:(Instr.sliceBounds false n n none none none).run P w= .ok (0,n,n) w:=by
  simp [Instr.sliceBounds]
 have ha:a.eval x= .pointer (some q):=hx
 simp only [execOp,hop,ha,Instr.sliceAt,nH,iR,run_underlying hu,Result.andThen_ok,Instr.sureAddr,iY,hb,Gp hs,Nat.sub_zero]
 by_cases h0:n=0
 ·simp [h0]
 ·simp [h0]
  simp [Addr.add]
theorem Aqf {t e:TypeId} {n m sz:Nat} {x ix:Operand} {q:Addr} {k:IntKind} {i:Int} (hop:o.op= .indexAddr t x ix) (hx:a.eval x= .slice (some q) n m) (hi:a.eval ix= .int k i) (hu:P.underlying t=some (.slice e)) (hs:EP P e=some sz) (h:0≤i∧i<(n:Int)):
 (execOp a.eval o).run P w= .ok (.value (.pointer (some (q.add (i.toNat*sz))))) w:=by
 simp only [execOp,hop,hx,hi,Instr.indexAt,asIntOf,iR,iY,run_underlying hu,Result.andThen_ok,h,and_self,if_true,Gp hs]
theorem Ag1:∀{cs:List Value} {xs:LI},Wx cs=some xs→cs.length=xs.length∧∀j,j<xs.length→cs[j]? =some (.int .i64 (xs.getD j 0))
 |[],xs,h=>by
  simp only [Wx,iA] at h
  subst h
  exact ⟨rfl, λj hj=>by simp at hj⟩
 |c::cs,xs,h=>by
  unfold Wx at h
  split at h
  ·rename_i e;cases e
  ·rename_i x r e
   injection e with e1 e2;subst e1;subst e2
   split at h
   ·rename_i ys hy
    injection h with h;subst h
    obtain ⟨h1,h2⟩:=Ag1 hy
    refine ⟨by simp [h1], λj hj=>?_⟩
    cases j with
    |zero=>rfl
    |succ j=>simpa using h2 j (by simpa using hj)
   ·cases h
  ·cases h
theorem Aqg {t e:TypeId} {n:Nat} {x ix:Operand} {cs:List Value} {xs:LI} {k:IntKind} {i:Int} (hop:o.op= .index t x ix) (hx:a.eval x= .agg ⟨cs⟩) (hi:a.eval ix= .int k i) (hu:P.underlying t=some (.array n e)) (hs:EP P e=some 1) (he:NS P e=true)
 (hv:Wx cs=some xs) (hn:n=xs.length) (h:0≤i∧i<(n:Int)):(execOp a.eval o).run P w= .ok (.value (.int .i64 (xs.getD i.toNat 0))) w:=by
 have hlt:i.toNat<xs.length:=by omega
 have hp:=O5 (P:=P) (t:=e) (cs:=⟨cs⟩) (off:=i.toNat*1) (v:= .int .i64 (xs.getD i.toNat 0)) (Ll he) (by rw [Nat.mul_one];simpa using (Ag1 hv).2 _ hlt) w
 simp only [execOp,hop,hx,hi,Instr.index,asIntOf,iR,iY,run_underlying hu,Result.andThen_ok,h,and_self,if_true,Gp hs,hp]
end
end
end Go.Sl
