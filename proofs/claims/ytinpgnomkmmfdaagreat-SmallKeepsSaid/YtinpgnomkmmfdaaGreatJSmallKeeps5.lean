/-
  DERIVED. Part 5 of the texts of this claim.
-/
import Derived.Test.YtinpgnomkmmfdaaGreatJSmallKeeps4
set_option linter.unusedSimpArgs false
set_option linter.unusedVariables false
open Go.IntKind renaming wrap → iA, i64 → iB, u32 → iS
open Option.some renaming injEq → iC
open List renaming getD_eq_getElem?_getD → iD, length → iF, getD → iG, mem_cons → iH, map_cons → iL, getElem?_eq_getElem → iM, getElem?_append_right → iQ, getElem?_map → iR, getElem?_set_self → iX, mem_singleton → iY, getElem?_set_ne → jE, zipWith → jI, length_cons → jJ, getElem?_cons_zero → jK, length_append → jL, range → jR, append_assoc → jX, getElem?_cons_succ → kB, mem_append → kC, cons_append → kE, length_map → kG, not_mem_nil → kM, mem_map → kW, map_set → kX, append_nil → lF, take_of_length_le → lH, set → lI, contains_iff_mem → lL, nodup_cons → lN, map_nil → lZ, filter_append → mB, mem_filter → mK, zip → mO, nil_append → mT, length_set → mU, length_take → mV, filter_cons → mW, length_nil → nY, drop_zero → oI, length_filter_le → oL, mem_of_mem_take → oP, getElem?_range → oS, getD_cons_succ → oT, map → oX, zip_cons_cons → pE, contains_cons → pG, nodup_append → pM, drop_eq_getElem_cons → pW
open Bool renaming and_eq_true → iE, or_eq_false_iff → jB, not_eq_true' → jP, not_eq_false' → jZ, not_true → kO, or_eq_true → kZ, false_or → lM, and_eq_false_iff → mN, and_self → nI, true_and → nT, false_and → oK, and_false → oY, or_true → pH, or_false → pJ, true_or → pU, and_true → qL
open Int renaming toNat → iI, mul_le_mul_of_nonneg_right → kK, le_refl → mM, mul_nonneg → nJ, add_mul → nN, one_mul → nW, mul_comm → oQ
open Go.Value renaming slice → iJ, pointer → jC, int → jT
open Nat renaming eq_of_beq_eq_true → iK, beq → iN, lt_or_ge → jO, le_refl → kA, zero_add → lX, le_trans → mI, add_assoc → nH, zero_le → oG, sub_self → qE
open BitVec renaming ofInt → iO, toNat → kL
open Go.Sl.Col renaming fz → iT, sls → kH, vals → qJ
open Prod.mk renaming injEq → iU
open Option renaming map_some → iV, map → jF, getD → kT, getD_some → lA
open Go.Sl.Chunk renaming cells → jA, ro → jV, obj → kR, row → nL
open Go.Sl.PK renaming slice → jG, cell → mD
open Go.Sl.Pr renaming pt → jW, no → kJ
open Prod renaming fst → jY, snd → lD
open List.cons renaming inj → qK
open List.Pairwise renaming nil → pN
namespace Go.Proofs.YtinpgnomkmmfdaaGreat
section
open Go Go.Sl
abbrev c_small_Alloc:Ct Sg:=⟨some wView,false,[.agg [.i .i64, .i .i64, .i .i64], .agg [.ro [some .i8], .ro [some .i8], .ro [some .i8], .ro [some .i8], .ro [some .i8], .ro [some .i8], .ro [some .i8], .ro [some .i8], .ro [some .i8]], .i .i64], .tup [.i .i64, .agg [.new 2 [some .i8], .new 2 [some .i8], .new 2 [some .i8], .new 2 [some .i8], .new 2 [some .i8], .new 2 [some .i8], .new 2 [some .i8], .new 2 [some .i8], .new 2 [some .i8]], .b]⟩
abbrev pELSE:List Nat:=[0,1,1,0,1,1,1,1]
abbrev pEND:List Nat:=[0,1,1,1,1,1]
abbrev allI:List Nat:=[2999998,30,stopC pELSE 0,stopC pEND 0]
abbrev al9 (x0 x1 x2 x3 x4 x5 x6 x7 x8:LI) (s:VS) (t p h k:Int):List (Cm Sg):=[.st (.view s), .i t, .i p, .i h, .li x0, .li x1, .li x2, .li x3, .li x4, .li x5, .li x6, .li x7, .li x8, .i k]
def sl9 (o:Nat) (pk:LL) (ad:Ad9):List (Value×Pr):=(hC ⟨0,0,none⟩ 0 o 0 0 0 pk ad).drop 4
def v9 (q:LL) (aq:Ad9):List Value:=(sl9 0 q aq).map (·.1)
theorem alloc_begin (R':Value→Pr→List (Chunk Sg)→Prop) (S0:List Ab→Option Ent→Option Ent→Option Ent→Option Ent→Option Ent→Option Ent→Option Ent→List (Chunk Sg)→Prop) (p0:Addr) (s:VS) (t p h k:Int) (x0 x1 x2 x3 x4 x5 x6 x7 x8:LI) (ad:Nat→Ad):
 (c_small_Alloc.tree Tryz.prog T_r18_Slot allI 400 Tryz.f9 (bodyOf Tryz.f9) p0 (al9 x0 x1 x2 x3 x4 x5 x6 x7 x8 s t p h k) ad).holds R' (λtd L K=>S0 td (Sl.look L 3) (Sl.look L 5) (Sl.look L 6) (Sl.look L 9) (Sl.look L 11) (Sl.look L 12) (Sl.look L 13) K)=
 (∀b0_0:Nat,(∀b1_0:Nat,(∀b2_0:Nat,(∀b3_0:Nat,(∀r4:Int×LI×LI×LI×LI×LI×LI×LI×LI×LI×Bool,r4=(p_Pop x0 x1 x2 x3 x4 x5 x6 x7 x8 k)→(aw_ (pkB x0 x1 x2 x3 x4 x5 x6 x7 x8) (∀(b6_0:Option Nat) (b6_1:Nat),(∀(b7_0:Option Nat) (b7_1:Nat),(∀(b8_0:Option Nat) (b8_1:Nat),(∀(b9_0:Option Nat) (b9_1:Nat),(∀(b10_0:Option Nat) (b10_1:Nat),(∀(b11_0:Option Nat) (b11_1:Nat),(∀(b12_0:Option Nat) (b12_1:Nat),(∀(b13_0:Option Nat) (b13_1:Nat),(∀(b14_0:Option Nat) (b14_1:Nat),(∀b15_0:Nat,(bw_ r4.2.2.2.2.2.2.2.2.2.2 (∀r17:Int×Int×Bool,r17=(addr_Page t p h r4.1)→(∀r18:Int×Bool,r18=(addr_Slot t p h k r17.2.1)→(S0 ([Ab.ops [0,1,1,1,1,1] 0,Ab.code [1,1,1,1,1,1]]) (some ⟨3,none,jT iB k,kJ⟩) (some ⟨5,none,jC (some ⟨b0_0,0,none⟩),jW 10 (mD 0)⟩) (some ⟨6,none,jC (some ⟨b1_0,0,none⟩),jW 11 (mD 0)⟩) (some ⟨9,none,jC (some ⟨b2_0,0,none⟩),jW 12 (mD 0)⟩) (some ⟨11,none,jC (some ⟨b3_0,0,none⟩),jW 13 (mD 0)⟩) (some ⟨12,none,jT iB r17.1,kJ⟩) (some ⟨13,none,jT iB r18.1,kJ⟩) ([kR p0 (Wr.inj wView s),jV (Ad.a (adP p0 ad 1)) (lenC [iT x0]) (Ad.c (adP p0 ad 1)) [iT x0],jV (Ad.a (adP p0 ad 2)) (lenC [iT x1]) (Ad.c (adP p0 ad 2)) [iT x1],jV (Ad.a (adP p0 ad 3)) (lenC [iT x2]) (Ad.c (adP p0 ad 3)) [iT x2],jV (Ad.a (adP p0 ad 4)) (lenC [iT x3]) (Ad.c (adP p0 ad 4)) [iT x3],jV (Ad.a (adP p0 ad 5)) (lenC [iT x4]) (Ad.c (adP p0 ad 5)) [iT x4],jV (Ad.a (adP p0 ad 6)) (lenC [iT x5]) (Ad.c (adP p0 ad 6)) [iT x5],jV (Ad.a (adP p0 ad 7)) (lenC [iT x6]) (Ad.c (adP p0 ad 7)) [iT x6],jV (Ad.a (adP p0 ad 8)) (lenC [iT x7]) (Ad.c (adP p0 ad 8)) [iT x7],jV (Ad.a (adP p0 ad 9)) (lenC [iT x8]) (Ad.c (adP p0 ad 9)) [iT x8],jA b0_0 23 [(jT iB t,kJ),(jT iB p,kJ),(jT iB h,kJ)],jA b1_0 40 [(iJ (Ad.a (adP p0 ad 1)) (lenC [iT x0]) (Ad.c (adP p0 ad 1)),jW 1 jG),(iJ (Ad.a (adP p0 ad 2)) (lenC [iT x1]) (Ad.c (adP p0 ad 2)),jW 2 jG),(iJ (Ad.a (adP p0 ad 3)) (lenC [iT x2]) (Ad.c (adP p0 ad 3)),jW 3 jG),(iJ (Ad.a (adP p0 ad 4)) (lenC [iT x3]) (Ad.c (adP p0 ad 4)),jW 4 jG),(iJ (Ad.a (adP p0 ad 5)) (lenC [iT x4]) (Ad.c (adP p0 ad 5)),jW 5 jG),(iJ (Ad.a (adP p0 ad 6)) (lenC [iT x5]) (Ad.c (adP p0 ad 6)),jW 6 jG),(iJ (Ad.a (adP p0 ad 7)) (lenC [iT x6]) (Ad.c (adP p0 ad 7)),jW 7 jG),(iJ (Ad.a (adP p0 ad 8)) (lenC [iT x7]) (Ad.c (adP p0 ad 8)),jW 8 jG),(iJ (Ad.a (adP p0 ad 9)) (lenC [iT x8]) (Ad.c (adP p0 ad 9)),jW 9 jG)],jA b2_0 40 [(iJ none 0 0,kJ),(iJ none 0 0,kJ),(iJ none 0 0,kJ),(iJ none 0 0,kJ),(iJ none 0 0,kJ),(iJ none 0 0,kJ),(iJ none 0 0,kJ),(iJ none 0 0,kJ),(iJ none 0 0,kJ)],jA b3_0 78 [(jC (some p0),jW 0 PK.obj),(jT iB t,kJ),(jT iB p,kJ),(jT iB h,kJ),(iJ (jF decA b6_0) (lenC [iT r4.2.1]) b6_1,jW 14 jG),(iJ (jF decA b7_0) (lenC [iT r4.2.2.1]) b7_1,jW 15 jG),(iJ (jF decA b8_0) (lenC [iT r4.2.2.2.1]) b8_1,jW 16 jG),(iJ (jF decA b9_0) (lenC [iT r4.2.2.2.2.1]) b9_1,jW 17 jG),(iJ (jF decA b10_0) (lenC [iT r4.2.2.2.2.2.1]) b10_1,jW 18 jG),(iJ (jF decA b11_0) (lenC [iT r4.2.2.2.2.2.2.1]) b11_1,jW 19 jG),(iJ (jF decA b12_0) (lenC [iT r4.2.2.2.2.2.2.2.1]) b12_1,jW 20 jG),(iJ (jF decA b13_0) (lenC [iT r4.2.2.2.2.2.2.2.2.1]) b13_1,jW 21 jG),(iJ (jF decA b14_0) (lenC [iT r4.2.2.2.2.2.2.2.2.2.1]) b14_1,jW 22 jG)],jV (jF decA b6_0) (lenC [iT r4.2.1]) b6_1 [iT r4.2.1],jV (jF decA b7_0) (lenC [iT r4.2.2.1]) b7_1 [iT r4.2.2.1],jV (jF decA b8_0) (lenC [iT r4.2.2.2.1]) b8_1 [iT r4.2.2.2.1],jV (jF decA b9_0) (lenC [iT r4.2.2.2.2.1]) b9_1 [iT r4.2.2.2.2.1],jV (jF decA b10_0) (lenC [iT r4.2.2.2.2.2.1]) b10_1 [iT r4.2.2.2.2.2.1],jV (jF decA b11_0) (lenC [iT r4.2.2.2.2.2.2.1]) b11_1 [iT r4.2.2.2.2.2.2.1],jV (jF decA b12_0) (lenC [iT r4.2.2.2.2.2.2.2.1]) b12_1 [iT r4.2.2.2.2.2.2.2.1],jV (jF decA b13_0) (lenC [iT r4.2.2.2.2.2.2.2.2.1]) b13_1 [iT r4.2.2.2.2.2.2.2.2.1],jV (jF decA b14_0) (lenC [iT r4.2.2.2.2.2.2.2.2.2.1]) b14_1 [iT r4.2.2.2.2.2.2.2.2.2.1],jA b15_0 40 [(iJ (jF decA b6_0) (lenC [iT r4.2.1]) b6_1,jW 14 jG),(iJ (jF decA b7_0) (lenC [iT r4.2.2.1]) b7_1,jW 15 jG),(iJ (jF decA b8_0) (lenC [iT r4.2.2.2.1]) b8_1,jW 16 jG),(iJ (jF decA b9_0) (lenC [iT r4.2.2.2.2.1]) b9_1,jW 17 jG),(iJ (jF decA b10_0) (lenC [iT r4.2.2.2.2.2.1]) b10_1,jW 18 jG),(iJ (jF decA b11_0) (lenC [iT r4.2.2.2.2.2.2.1]) b11_1,jW 19 jG),(iJ (jF decA b12_0) (lenC [iT r4.2.2.2.2.2.2.2.1]) b12_1,jW 20 jG),(iJ (jF decA b13_0) (lenC [iT r4.2.2.2.2.2.2.2.2.1]) b13_1,jW 21 jG),(iJ (jF decA b14_0) (lenC [iT r4.2.2.2.2.2.2.2.2.2.1]) b14_1,jW 22 jG)]])))) (S0 ([Ab.ops [0,1,1,0,1,1,1,1] 0,Ab.code [1,1,1,0,1,1,1,1],Ab.code [1,1,1,1,1]]) (some ⟨3,none,jT iB k,kJ⟩) (some ⟨5,none,jC (some ⟨b0_0,0,none⟩),jW 10 (mD 0)⟩) (some ⟨6,none,jC (some ⟨b1_0,0,none⟩),jW 11 (mD 0)⟩) (some ⟨9,none,jC (some ⟨b2_0,0,none⟩),jW 12 (mD 0)⟩) (some ⟨11,none,jC (some ⟨b3_0,0,none⟩),jW 13 (mD 0)⟩) (some ⟨12,none,jT iB (0:Int),kJ⟩) (some ⟨13,none,jT iB (0:Int),kJ⟩) ([kR p0 (Wr.inj wView s),jV (Ad.a (adP p0 ad 1)) (lenC [iT x0]) (Ad.c (adP p0 ad 1)) [iT x0],jV (Ad.a (adP p0 ad 2)) (lenC [iT x1]) (Ad.c (adP p0 ad 2)) [iT x1],jV (Ad.a (adP p0 ad 3)) (lenC [iT x2]) (Ad.c (adP p0 ad 3)) [iT x2],jV (Ad.a (adP p0 ad 4)) (lenC [iT x3]) (Ad.c (adP p0 ad 4)) [iT x3],jV (Ad.a (adP p0 ad 5)) (lenC [iT x4]) (Ad.c (adP p0 ad 5)) [iT x4],jV (Ad.a (adP p0 ad 6)) (lenC [iT x5]) (Ad.c (adP p0 ad 6)) [iT x5],jV (Ad.a (adP p0 ad 7)) (lenC [iT x6]) (Ad.c (adP p0 ad 7)) [iT x6],jV (Ad.a (adP p0 ad 8)) (lenC [iT x7]) (Ad.c (adP p0 ad 8)) [iT x7],jV (Ad.a (adP p0 ad 9)) (lenC [iT x8]) (Ad.c (adP p0 ad 9)) [iT x8],jA b0_0 23 [(jT iB t,kJ),(jT iB p,kJ),(jT iB h,kJ)],jA b1_0 40 [(iJ (Ad.a (adP p0 ad 1)) (lenC [iT x0]) (Ad.c (adP p0 ad 1)),jW 1 jG),(iJ (Ad.a (adP p0 ad 2)) (lenC [iT x1]) (Ad.c (adP p0 ad 2)),jW 2 jG),(iJ (Ad.a (adP p0 ad 3)) (lenC [iT x2]) (Ad.c (adP p0 ad 3)),jW 3 jG),(iJ (Ad.a (adP p0 ad 4)) (lenC [iT x3]) (Ad.c (adP p0 ad 4)),jW 4 jG),(iJ (Ad.a (adP p0 ad 5)) (lenC [iT x4]) (Ad.c (adP p0 ad 5)),jW 5 jG),(iJ (Ad.a (adP p0 ad 6)) (lenC [iT x5]) (Ad.c (adP p0 ad 6)),jW 6 jG),(iJ (Ad.a (adP p0 ad 7)) (lenC [iT x6]) (Ad.c (adP p0 ad 7)),jW 7 jG),(iJ (Ad.a (adP p0 ad 8)) (lenC [iT x7]) (Ad.c (adP p0 ad 8)),jW 8 jG),(iJ (Ad.a (adP p0 ad 9)) (lenC [iT x8]) (Ad.c (adP p0 ad 9)),jW 9 jG)],jA b2_0 40 [(iJ none 0 0,kJ),(iJ none 0 0,kJ),(iJ none 0 0,kJ),(iJ none 0 0,kJ),(iJ none 0 0,kJ),(iJ none 0 0,kJ),(iJ none 0 0,kJ),(iJ none 0 0,kJ),(iJ none 0 0,kJ)],jA b3_0 78 [(jC (some p0),jW 0 PK.obj),(jT iB t,kJ),(jT iB p,kJ),(jT iB h,kJ),(iJ (Ad.a (adP p0 ad 1)) (lenC [iT x0]) (Ad.c (adP p0 ad 1)),jW 1 jG),(iJ (Ad.a (adP p0 ad 2)) (lenC [iT x1]) (Ad.c (adP p0 ad 2)),jW 2 jG),(iJ (Ad.a (adP p0 ad 3)) (lenC [iT x2]) (Ad.c (adP p0 ad 3)),jW 3 jG),(iJ (Ad.a (adP p0 ad 4)) (lenC [iT x3]) (Ad.c (adP p0 ad 4)),jW 4 jG),(iJ (Ad.a (adP p0 ad 5)) (lenC [iT x4]) (Ad.c (adP p0 ad 5)),jW 5 jG),(iJ (Ad.a (adP p0 ad 6)) (lenC [iT x5]) (Ad.c (adP p0 ad 6)),jW 6 jG),(iJ (Ad.a (adP p0 ad 7)) (lenC [iT x6]) (Ad.c (adP p0 ad 7)),jW 7 jG),(iJ (Ad.a (adP p0 ad 8)) (lenC [iT x7]) (Ad.c (adP p0 ad 8)),jW 8 jG),(iJ (Ad.a (adP p0 ad 9)) (lenC [iT x8]) (Ad.c (adP p0 ad 9)),jW 9 jG)],jV (jF decA b6_0) (lenC [iT r4.2.1]) b6_1 [iT r4.2.1],jV (jF decA b7_0) (lenC [iT r4.2.2.1]) b7_1 [iT r4.2.2.1],jV (jF decA b8_0) (lenC [iT r4.2.2.2.1]) b8_1 [iT r4.2.2.2.1],jV (jF decA b9_0) (lenC [iT r4.2.2.2.2.1]) b9_1 [iT r4.2.2.2.2.1],jV (jF decA b10_0) (lenC [iT r4.2.2.2.2.2.1]) b10_1 [iT r4.2.2.2.2.2.1],jV (jF decA b11_0) (lenC [iT r4.2.2.2.2.2.2.1]) b11_1 [iT r4.2.2.2.2.2.2.1],jV (jF decA b12_0) (lenC [iT r4.2.2.2.2.2.2.2.1]) b12_1 [iT r4.2.2.2.2.2.2.2.1],jV (jF decA b13_0) (lenC [iT r4.2.2.2.2.2.2.2.2.1]) b13_1 [iT r4.2.2.2.2.2.2.2.2.1],jV (jF decA b14_0) (lenC [iT r4.2.2.2.2.2.2.2.2.2.1]) b14_1 [iT r4.2.2.2.2.2.2.2.2.2.1],jA b15_0 40 [(iJ (jF decA b6_0) (lenC [iT r4.2.1]) b6_1,jW 14 jG),(iJ (jF decA b7_0) (lenC [iT r4.2.2.1]) b7_1,jW 15 jG),(iJ (jF decA b8_0) (lenC [iT r4.2.2.2.1]) b8_1,jW 16 jG),(iJ (jF decA b9_0) (lenC [iT r4.2.2.2.2.1]) b9_1,jW 17 jG),(iJ (jF decA b10_0) (lenC [iT r4.2.2.2.2.2.1]) b10_1,jW 18 jG),(iJ (jF decA b11_0) (lenC [iT r4.2.2.2.2.2.2.1]) b11_1,jW 19 jG),(iJ (jF decA b12_0) (lenC [iT r4.2.2.2.2.2.2.2.1]) b12_1,jW 20 jG),(iJ (jF decA b13_0) (lenC [iT r4.2.2.2.2.2.2.2.2.1]) b13_1,jW 21 jG),(iJ (jF decA b14_0) (lenC [iT r4.2.2.2.2.2.2.2.2.2.1]) b14_1,jW 22 jG)]]))))))))))))))))))):=by
 kernel_rfl
def handA (pv:Addr) (hb:Nat) (s:VS) (t p h:Int):LL→Asn:= λst Y k=>∃ad:Ad9,Sl.star ((hK pv hb s t p h st ad).map (den Dg λ_=>none)) Y k
def isA (hb:Nat) (q:Addr):Prop:=q=⟨hb,0,none⟩
def e_fill (pv:Addr) (hb:Nat) (s:VS) (t p h:Int):Entry Sg:= λargs=>match args with
 |[(.pointer (some q), .obj (.any A st)),(.int .i64 k,_)]=>some ⟨fillR s t p h k st, λr=>⟨[isA hb q,A=handA pv hb s t p h,pkO st,p≤1024],some (.any (handA pv hb r.1 t p h) r.2.1),[], λ_=> .tuple #[.int .i64 r.2.2.1, .int .i64 r.2.2.2.1, .bool r.2.2.2.2], λ_=> .no⟩⟩
 |_=>none
def nil9:List (Value×Pr):=[(.slice none 0 0, .no),(.slice none 0 0, .no),(.slice none 0 0, .no),(.slice none 0 0, .no),(.slice none 0 0, .no),(.slice none 0 0, .no),(.slice none 0 0, .no),(.slice none 0 0, .no),(.slice none 0 0, .no)]
def aK (hb bc bp br:Nat) (t p h:Int) (A:LL→Asn) (st pk:LL) (ax:Ad9):List (Chunk Sg):=[.obj ⟨hb,0,none⟩ (.any A st), .cells bc 23 [(.int .i64 t, .no),(.int .i64 p, .no),(.int .i64 h, .no)], .cells bp 40 (sl9 4 pk ax), .cells br 40 nil9]++ro9 pk ax
def aL (hb bc bp br:Nat) (k:Int):List Ent:=[⟨3,none, .int .i64 k, .no⟩,ptE 5 bc 1,ptE 6 bp 2,ptE 9 br 3,⟨11,none, .pointer (some ⟨hb,0,none⟩), .pt 0 .obj⟩]
abbrev pC:List Nat:=[0,1,1,1,0,1,1,1,1]
theorem alloc_fill (R':Value→Pr→List (Chunk Sg)→Prop) (S0:List Ab→Option Ent→Option Ent→Option Ent→Option Ent→Option Ent→Option Ent→Option Ent→Option Ent→List (Chunk Sg)→Prop) (p0:Addr) (hb bc bp br:Nat) (s:VS) (t p h k:Int) (pk:LL) (ax:Ad9):
 (run Tryz.prog ((31,e_fill p0 hb s t p h)::T_r18_Slot) [2999998,stopC pC 0] 400 (bodyOf Tryz.f9) Tryz.f9.results.toList Tryz.f9.ntmps [.ops pELSE 0, .code [1,1,1,0,1,1,1,1], .code [1,1,1,1,1]] (aL hb bc bp br k) (aK hb bc bp br t p h (handA p0 hb s t p h) pk pk ax)).holds R' (λtd L K=>S0 td (Sl.look L 3) (Sl.look L 5) (Sl.look L 6) (Sl.look L 9) (Sl.look L 11) (Sl.look L 12) (Sl.look L 13) (Sl.look L 16) K)=
 (∀r0:VS×List (LI)×Int×Int×Bool,r0=(fillR s t p h k pk)→(aw_ (isA hb ⟨hb,0,none⟩) (aw_ (handA p0 hb s t p h=handA p0 hb s t p h) (aw_ (pkO pk) (aw_ (p≤(1024:Int)) (S0 ([Ab.ops [0,1,1,1,0,1,1,1,1] 0,Ab.code [1,1,1,1,0,1,1,1,1],Ab.code [1,1,1,1,1]]) (some ⟨3,none,jT iB k,kJ⟩) (some ⟨5,none,jC (some ⟨bc,0,none⟩),jW 1 (mD 0)⟩) (some ⟨6,none,jC (some ⟨bp,0,none⟩),jW 2 (mD 0)⟩) (some ⟨9,none,jC (some ⟨br,0,none⟩),jW 3 (mD 0)⟩) (some ⟨11,none,jC (some ⟨hb,0,none⟩),jW 0 PK.obj⟩) (some ⟨12,none,jT iB r0.2.2.1,kJ⟩) (some ⟨13,none,jT iB r0.2.2.2.1,kJ⟩) (some ⟨16,none,Value.bool r0.2.2.2.2,kJ⟩) (([kR ⟨hb,0,none⟩ (kT (some (Sg.any (handA p0 hb r0.1 t p h) r0.2.1)) (Sg.any (handA p0 hb s t p h) pk)),jA bc 23 [(jT iB t,kJ),(jT iB p,kJ),(jT iB h,kJ)],jA bp 40 (sl9 4 pk ax),jA br 40 [(iJ none 0 0,kJ),(iJ none 0 0,kJ),(iJ none 0 0,kJ),(iJ none 0 0,kJ),(iJ none 0 0,kJ),(iJ none 0 0,kJ),(iJ none 0 0,kJ),(iJ none 0 0,kJ),(iJ none 0 0,kJ)]]++ro9 pk ax)))))))):=by
 kernel_rfl
def bK (p0:Addr) (hb bc bp br:Nat) (s:VS) (t p h:Int) (q:LL) (aq:Ad9) (pk:LL) (ax:Ad9):List (Chunk Sg):=[.obj p0 (.view s), .cells hb 78 (hC p0 0 5 t p h q aq), .cells bc 23 [(.int .i64 t, .no),(.int .i64 p, .no),(.int .i64 h, .no)], .cells bp 40 (sl9 14 pk ax), .cells br 40 nil9]++ro9 q aq++ro9 pk ax
def bL (hb bc bp br:Nat) (k pg sl:Int) (ok:Bool):List Ent:=[⟨3,none, .int .i64 k, .no⟩,ptE 5 bc 2,ptE 6 bp 3,ptE 9 br 4,ptE 11 hb 1,⟨12,none, .int .i64 pg, .no⟩,⟨13,none, .int .i64 sl, .no⟩,⟨16,none, .bool ok, .no⟩]
theorem alloc_c (R':Value→Pr→List (Chunk Sg)→Prop) (S0:List Ab→Option Ent→Option Ent→Option Ent→Option Ent→Option Ent→Option Ent→List (Chunk Sg)→Prop) (p0:Addr) (hb bc bp br:Nat) (s:VS) (t p h k pg sl:Int) (ok:Bool) (q:LL) (aq:Ad9) (pk:LL) (ax:Ad9):
 (run Tryz.prog T_r18_Slot [2999998,stopC pEND 0] 400 (bodyOf Tryz.f9) Tryz.f9.results.toList Tryz.f9.ntmps [.ops pC 0, .code [1,1,1,1,0,1,1,1,1], .code [1,1,1,1,1]] (bL hb bc bp br k pg sl ok) (bK p0 hb bc bp br s t p h q aq pk ax)).holds R' (λtd L K=>S0 td (Sl.look L 3) (Sl.look L 5) (Sl.look L 9) (Sl.look L 11) (Sl.look L 12) (Sl.look L 13) K)=
 (bw_ (!ok) (R' (Value.tuple ⟨[jT iB (0:Int),Value.agg (v9 pk ax).toArray,Value.bool false]⟩) (Pr.many [kJ,Pr.many [jW 14 jG,jW 15 jG,jW 16 jG,jW 17 jG,jW 18 jG,jW 19 jG,jW 20 jG,jW 21 jG,jW 22 jG],kJ]) (([kR p0 (Sg.view s),jA hb 78 (hC p0 0 5 t p h q aq),jA bc 23 [(jT iB t,kJ),(jT iB p,kJ),(jT iB h,kJ)],jA bp 40 (sl9 14 pk ax),jA br 40 (sl9 14 pk ax)]++ro9 q aq++ro9 pk ax))) (S0 ([Ab.ops [0,1,1,1,1,1] 0,Ab.code [1,1,1,1,1,1]]) (some ⟨3,none,jT iB k,kJ⟩) (some ⟨5,none,jC (some ⟨bc,0,none⟩),jW 2 (mD 0)⟩) (some ⟨9,none,jC (some ⟨br,0,none⟩),jW 4 (mD 0)⟩) (some ⟨11,none,jC (some ⟨hb,0,none⟩),jW 1 (mD 0)⟩) (some ⟨12,none,jT iB pg,kJ⟩) (some ⟨13,none,jT iB sl,kJ⟩) (([kR p0 (Sg.view s),jA hb 78 (hC p0 0 5 t p h q aq),jA bc 23 [(jT iB t,kJ),(jT iB p,kJ),(jT iB h,kJ)],jA bp 40 (sl9 14 pk ax),jA br 40 [(iJ none 0 0,kJ),(iJ none 0 0,kJ),(iJ none 0 0,kJ),(iJ none 0 0,kJ),(iJ none 0 0,kJ),(iJ none 0 0,kJ),(iJ none 0 0,kJ),(iJ none 0 0,kJ),(iJ none 0 0,kJ)]]++ro9 q aq++ro9 pk ax)))):=by
 kernel_rfl
def eK (p0:Addr) (hb bc br:Nat) (s:VS) (t p h:Int) (q:LL) (aq:Ad9):List (Chunk Sg):=[.obj p0 (.view s), .cells hb 78 (hC p0 0 4 t p h q aq), .cells bc 23 [(.int .i64 t, .no),(.int .i64 p, .no),(.int .i64 h, .no)], .cells br 40 nil9]++ro9 q aq
def eL (hb bc br:Nat) (k pg sl:Int):List Ent:=[⟨3,none, .int .i64 k, .no⟩,ptE 5 bc 2,ptE 9 br 3,ptE 11 hb 1,⟨12,none, .int .i64 pg, .no⟩,⟨13,none, .int .i64 sl, .no⟩]
abbrev Pv (r2:VS×Int) (sl:Int):=(iA iS (↑(kL (iO 32 r2.2 ||| iO 32 (iA iS ((1:Int)*(2:Int)^min (iI sl) 32)))):Int))
abbrev Px (r4:VS) (t p h k pg sl:Int) (R':Value→Pr→List (Chunk Sg)→Prop) (q:LL) (aq:Ad9) (p0:Addr) (r2:VS×Int) (s:VS) (hb bc br b0_0:Nat):Prop:=(∀r6:VS×Int,r6=((VS.read r4 (1:Int),VS.get r4 (1:Int)))→(∀r7:VS,r7=(VS.set r6.1 (1:Int) (iA iS (r6.2+(1:Int))))→(aw_ (bd32 (iA iS (r6.2+(1:Int)))) (∀r9:Int×Bool,r9=(addr_At t p h k pg sl)→(R' (Value.tuple ⟨[jT iB r9.1,Value.agg (v9 q aq).toArray,Value.bool true]⟩) (Pr.many [kJ,Pr.many [jW 4 jG,jW 5 jG,jW 6 jG,jW 7 jG,jW 8 jG,jW 9 jG,jW 10 jG,jW 11 jG,jW 12 jG],kJ]) (([kR p0 (kT (some (Wr.inj wView r7)) (kT (some (Wr.inj wView r6.1)) (kT (some (Wr.inj wView r4)) (kT (some (Wr.inj wView r2.1)) (Sg.view s))))),jA hb 78 (hC p0 0 4 t p h q aq),jA bc 23 [(jT iB t,kJ),(jT iB p,kJ),(jT iB h,kJ)],jA br 40 (sl9 4 q aq)]++ro9 q aq++[jA b0_0 3 [(jT iB sl,kJ)]])))))))
abbrev OE (sl:Int) (r2:VS×Int) (r1 t p h k pg:Int) (R':Value→Pr→List (Chunk Sg)→Prop) (q:LL) (aq:Ad9) (p0:Addr) (s:VS) (hb bc br b0_0:Nat):Prop:=(aw_ ((0:Int)≤sl) (∀r4:VS,r4=(VS.set r2.1 r1 (Pv r2 sl))→(aw_ (bd32 (Pv r2 sl)) ((Px r4 t p h k pg sl R' q aq p0 r2 s hb bc br b0_0)∧(Px r4 t p h k pg sl R' q aq p0 r2 s hb bc br b0_0)))))
theorem alloc_end (R':Value→Pr→List (Chunk Sg)→Prop) (S0:List Ab→List (Chunk Sg)→Prop) (p0:Addr) (hb bc br:Nat) (s:VS) (t p h k pg sl:Int) (q:LL) (aq:Ad9):
 (run Tryz.prog T_r18_Slot [2999998,32,59,60] 400 (bodyOf Tryz.f9) Tryz.f9.results.toList Tryz.f9.ntmps [.ops pEND 0, .code [1,1,1,1,1,1]] (eL hb bc br k pg sl) (eK p0 hb bc br s t p h q aq)).holds R' (λtd L K=>S0 td K)=
 (∀b0_0:Nat,(∀r1:Int,r1=(place_Slots t p h pg)→((∀r2:VS×Int,r2=((VS.read s r1,VS.get s r1))→(OE sl r2 r1 t p h k pg R' q aq p0 s hb bc br b0_0))∧(∀r2:VS×Int,r2=((VS.read s r1,VS.get s r1))→((OE sl r2 r1 t p h k pg R' q aq p0 s hb bc br b0_0)∧(OE sl r2 r1 t p h k pg R' q aq p0 s hb bc br b0_0)))))):=by
 kernel_rfl
section
variable {E:Ev} {G:Hp} {p0:Addr} {hb:Nat} {s:VS} {t p h:Int}
theorem e_fill_ok:EntryOk Dg Tryz.prog 31 (e_fill p0 hb s t p h):=by
 intro args c r he hr
 unfold e_fill at he
 split at he
 ·rename_i q A st k i
  injection he with he;subst he;subst hr
  refine ⟨λK acs _=>pOk_no, λhpre E G w _ hS=>?_⟩
  have q1:q=⟨hb,0,none⟩:=hpre _ (.head _)
  have q2:A=handA p0 hb s t p h:=hpre _ (.tail _ (.head _))
  have q3:pkO st:=hpre _ (.tail _ (.tail _ (.head _)))
  have q4:p≤1024:=hpre _ (.tail _ (.tail _ (.tail _ (.head _))))
  subst q1;subst q2
  have hS1:SatK Dg E G w [.obj ⟨hb,0,none⟩ (.any (handA p0 hb s t p h) st)]:=hS
  obtain ⟨ad,hS2⟩:=SatK.unpackEx Dg (k:=0) (k0:= λ_:Ad9=> .obj p0 (.view s)) (ks:= λad=> .cells hb 78 (hC p0 0 2 t p h st ad)::ro9 st ad) hS1 rfl (by kernel_rfl)
  have hP:fillP s t p h k:= λho=>by have:=pick_ok (c:=⟨t,p,h⟩) (s:=s) (k:=k) ho;exact ⟨this.1,mI this.2.1 (by decide)⟩
  refine fill_calls (ad:=ad) q3 q4 hP hS2 λw' ad' hS3=>⟨[],trivial,rfl,?_⟩
  have hc:∀Y y,Sl.star ((hK p0 hb (fillR s t p h k st).1 t p h (fillR s t p h k st).2.1 ad').map (den Dg G)) Y y→handA p0 hb (fillR s t p h k st).1 t p h (fillR s t p h k st).2.1 Y y:= λY y hx=>⟨ad',hx⟩
  exact SatK.packEx Dg (G:=G) (Ks:=hK p0 hb (fillR s t p h k st).1 t p h (fillR s t p h k st).2.1 ad') (K1:=[]) (c:= .obj ⟨hb,0,none⟩ (.any (handA p0 hb (fillR s t p h k st).1 t p h) (fillR s t p h k st).2.1)) (by rw [lF];exact hS3) hc
 ·cases he
end
abbrev allF:FuncId:=9
noncomputable abbrev allB:Code:=bodyOf Tryz.f9
noncomputable abbrev allN:Nat:=Tryz.f9.ntmps
abbrev RT:=VS×Int×LI×LI×LI×LI×LI×LI×LI×LI×LI×Bool
def AP (E:Ev) (G:Hp) (p0:Addr) (cs:List (Cm Sg)) (r:RT):Ending→World→Prop:=Post Dg E G (c_small_Alloc.outC r) (c_small_Alloc.nwC p0 cs r) (c_small_Alloc.mksC r)
def AR (p0:Addr) (cs:List (Cm Sg)) (r:RT):Value→Pr→List (Chunk Sg)→Prop:=RetOk (c_small_Alloc.outC r) (c_small_Alloc.nwC p0 cs r) (c_small_Alloc.mksC r)
def p9 (o:Nat):List Pr:=[.pt o .slice, .pt (o+1) .slice, .pt (o+2) .slice, .pt (o+3) .slice, .pt (o+4) .slice, .pt (o+5) .slice, .pt (o+6) .slice, .pt (o+7) .slice, .pt (o+8) .slice]
def zK (p0:Addr) (hb bc br b0:Nat) (s:VS) (t p h sl:Int) (q:LL) (aq:Ad9):List (Chunk Sg):=[.obj p0 (.view s), .cells hb 78 (hC p0 0 4 t p h q aq), .cells bc 23 [(.int .i64 t, .no),(.int .i64 p, .no),(.int .i64 h, .no)], .cells br 40 (sl9 4 q aq)]++ro9 q aq++[.cells b0 3 [(.int .i64 sl, .no)]]
theorem end_ret (p0:Addr) (cs:List (Cm Sg)) (hb bc br b0:Nat) (s:VS) (t p h sl a:Int) (q:LL) (aq:Ad9):AR p0 cs (tup9 true a s q) (.tuple #[.int .i64 a, .agg (v9 q aq).toArray, .bool true]) (.many [.no, .many (p9 4), .no]) (zK p0 hb bc br b0 s t p h sl q aq):=
 Ct.ret_ok (c:=c_small_Alloc) (p0:=p0) (cs:=cs) (v:= .tuple #[.int .i64 a, .agg (v9 q aq).toArray, .bool true]) (p:= .many [.no, .many (p9 4), .no]) (K:=zK p0 hb bc br b0 s t p h sl q aq) (by kernel_rfl) (by kernel_rfl)
def yK (p0:Addr) (hb bc bp br:Nat) (s:VS) (t p h:Int) (q:LL) (aq:Ad9) (pk:LL) (ax:Ad9):List (Chunk Sg):=[.obj p0 (.view s), .cells hb 78 (hC p0 0 5 t p h q aq), .cells bc 23 [(.int .i64 t, .no),(.int .i64 p, .no),(.int .i64 h, .no)], .cells bp 40 (sl9 14 pk ax), .cells br 40 (sl9 14 pk ax)]++ro9 q aq++ro9 pk ax
theorem no_ret (p0:Addr) (cs:List (Cm Sg)) (hb bc bp br:Nat) (s:VS) (t p h:Int) (q:LL) (aq:Ad9) (pk:LL) (ax:Ad9):AR p0 cs (tup9 false 0 s pk) (.tuple #[.int .i64 0, .agg (v9 pk ax).toArray, .bool false]) (.many [.no, .many (p9 14), .no]) (yK p0 hb bc bp br s t p h q aq pk ax):=
 Ct.ret_ok (c:=c_small_Alloc) (p0:=p0) (cs:=cs) (v:= .tuple #[.int .i64 0, .agg (v9 pk ax).toArray, .bool false]) (p:= .many [.no, .many (p9 14), .no]) (K:=yK p0 hb bc bp br s t p h q aq pk ax) (by kernel_rfl) (by kernel_rfl)
end
section
open Go Go.Sl
def allocC (s:VS) (t p h:Int) (st:LL) (k:Int):RT:=
 bif (lastI (pkk st k)).2 then tup9 true (addr_At t p h k (pgA t p h (lastI (pkk st k)).1) (slA t p h k (lastI (pkk st k)).1)).1 (begS s t p h (pgA t p h (lastI (pkk st k)).1) (slA t p h k (lastI (pkk st k)).1)) (pkS st k (popL (pkk st k)))
 else bif (fillR s t p h k st).2.2.2.2 then tup9 true (addr_At t p h k (fillR s t p h k st).2.2.1 (fillR s t p h k st).2.2.2.1).1 (begS (fillR s t p h k st).1 t p h (fillR s t p h k st).2.2.1 (fillR s t p h k st).2.2.2.1) (fillR s t p h k st).2.1
  else tup9 false 0 (fillR s t p h k st).1 st
def small_Alloc (s:VS) (t p h:Int) (x0 x1 x2 x3 x4 x5 x6 x7 x8:LI) (k:Int):RT:=allocC s t p h [x0,x1,x2,x3,x4,x5,x6,x7,x8] k
def e_small_Alloc:Entry Sg:=entC c_small_Alloc small_Alloc (λs t p h x0 x1 x2 x3 x4 x5 x6 x7 x8 k=>[p≤1024,pkB x0 x1 x2 x3 x4 x5 x6 x7 x8])
section
variable {E:Ev} {G:Hp} {p0:Addr} {cs:List (Cm Sg)} {hb bc bp br:Nat} {s:VS} {t p h k pg sl:Int} {q pk:LL} {aq ax:Ad9}
set_option maxRecDepth 100000 in
theorem alloc_end_sw (hsl:0≤sl∧sl<32):SW Dg Tryz.prog allF (AP E G p0 cs (tup9 true (addr_At t p h k pg sl).1 (begS s t p h pg sl) q)) allB allN E G [.ops pEND 0, .code [1,1,1,1,1,1]] (eL hb bc br k pg sl) (eK p0 hb bc br s t p h q aq):=by
 refine pieceF (f:=allF) T_r18_Slot_ok Tryz.func9 (alloc_end (AR p0 cs (tup9 true (addr_At t p h k pg sl).1 (begS s t p h pg sl) q)) (λ_ _=>False) p0 hb bc br s t p h k pg sl q aq) (λv pr K w hz hS=>RetOk.post Dg hz hS) (λ_ _ _ hz=>hz.elim) ?_
 intro b0 r1 h1
 rw [place_Slots_eq] at h1
 subst h1
 have e1:=orOne_eq (VS.get_bd s (Cf.slots ⟨t,p,h⟩ pg)) hsl
 have g1:=(bitAt_setB (VS.get_bd s (Cf.slots ⟨t,p,h⟩ pg)) hsl).1
 have two:∀r4:VS,r4=(s.read (Cf.slots ⟨t,p,h⟩ pg)).set (Cf.slots ⟨t,p,h⟩ pg) (setB (s.get (Cf.slots ⟨t,p,h⟩ pg)) sl)→∀r6:VS×Int,r6=(r4.read 1,r4.get 1)→∀r7:VS,r7=r6.1.set 1 (iA iS (r6.2+1))→aw_ (bd32 (iA iS (r6.2+1))) (∀r9:Int×Bool,r9=addr_At t p h k pg sl→
  AR p0 cs (tup9 true (addr_At t p h k pg sl).1 (begS s t p h pg sl) q) (.tuple #[.int .i64 r9.1, .agg (v9 q aq).toArray, .bool true]) (.many [.no, .many (p9 4), .no]) (zK p0 hb bc br b0 r7 t p h sl q aq)):=by
  rintro r4 rfl r6 rfl r7 rfl
  refine ⟨wu32_bd _, λ_=>?_⟩
  rintro r9 rfl
  exact end_ret ..
 have g2:=g1
 rw [←e1] at g2
 have thr:∀r4:VS,r4=(s.read (Cf.slots ⟨t,p,h⟩ pg)).set (Cf.slots ⟨t,p,h⟩ pg) (iA iS (↑(kL (iO (32:Nat) (s.get (Cf.slots ⟨t,p,h⟩ pg)) ||| iO (32:Nat) (iA iS ((1:Int)*(2:Int)^min (iI sl) (32:Nat))))):Int))→_:= λr4 h4=>two r4 (h4.trans (congrArg (VS.set _ _) e1))
 refine ⟨?_,?_⟩
 ·rintro r2 rfl
  exact ⟨hsl.1, λ_ r4 h4=>⟨g2, λ_=>⟨thr r4 h4,thr r4 h4⟩⟩⟩
 ·rintro r2 rfl
  exact ⟨⟨hsl.1, λ_ r4 h4=>⟨g2, λ_=>⟨thr r4 h4,thr r4 h4⟩⟩⟩,⟨hsl.1, λ_ r4 h4=>⟨g2, λ_=>⟨thr r4 h4,thr r4 h4⟩⟩⟩⟩
theorem reN {L:List Ent} {K:List (Chunk Sg)} {a:Nat} {v:Value} {pr:Pr} (hm:(⟨a,none,v,pr⟩:Ent)∈L):reOk L K ⟨a,none,v, .no⟩:=⟨rfl,⟨_,hm⟩,pOk_no⟩
def atEnd (E:Ev) (G:Hp) (p0:Addr) (s:VS) (t p h k pg sl:Int) (q:LL) (td:List Ab) (e3 e5 e9 e11 e12 e13:Option Ent) (K:List (Chunk Sg)):Prop:=
 td=[.ops pEND 0, .code [1,1,1,1,1,1]]∧∃(hb bc br:Nat) (aq:Ad9) (q5 q9 q11:Pr),e3=some ⟨3,none, .int .i64 k, .no⟩∧e5=some ⟨5,none, .pointer (some ⟨bc,0,none⟩),q5⟩∧e9=some ⟨9,none, .pointer (some ⟨br,0,none⟩),q9⟩∧e11=some ⟨11,none, .pointer (some ⟨hb,0,none⟩),q11⟩∧e12=some ⟨12,none, .int .i64 pg, .no⟩∧e13=some ⟨13,none, .int .i64 sl, .no⟩∧
  ∀w,SatK Dg E G w K→SatK Dg E G w (eK p0 hb bc br s t p h q aq)
theorem atEnd_sw {td:List Ab} {L:List Ent} {K:List (Chunk Sg)} (hz:atEnd E G p0 s t p h k pg sl q td (Sl.look L 3) (Sl.look L 5) (Sl.look L 9) (Sl.look L 11) (Sl.look L 12) (Sl.look L 13) K) (hsl:0≤sl∧sl<32):
 SW Dg Tryz.prog allF (AP E G p0 cs (tup9 true (addr_At t p h k pg sl).1 (begS s t p h pg sl) q)) allB allN E G td L K:=by
 obtain ⟨rfl,hb,bc,br,aq,q5,q9,q11,e3,e5,e9,e11,e12,e13,hK⟩:=hz
 refine SW.re Dg (α:=Unit) (Kf:= λ_=>eK p0 hb bc br s t p h q aq) (L':=eL hb bc br k pg sl) (λw hS=>⟨(),hK w hS⟩) (λ_=>KOk_all (by simp [eK,hC,nil9,ro9,cellsAll,psOk,pOk,cOk])) (λ_ e he=>?_) λ_=>alloc_end_sw hsl
 simp only [eL,iH,kM,or_false] at he
 rcases he with rfl|rfl|rfl|rfl|rfl|rfl
 ·exact reN (look_mem e3).1
 ·exact ⟨rfl,⟨_,(look_mem e5).1⟩,(pOk_pt).2 ⟨_,rfl,rfl⟩⟩
 ·exact ⟨rfl,⟨_,(look_mem e9).1⟩,(pOk_pt).2 ⟨_,rfl,rfl⟩⟩
 ·exact ⟨rfl,⟨_,(look_mem e11).1⟩,(pOk_pt).2 ⟨_,rfl,rfl⟩⟩
 ·exact reN (look_mem e12).1
 ·exact reN (look_mem e13).1
set_option maxRecDepth 100000 in
theorem alloc_c_sw {r:RT} {ok:Bool} (hsl:ok=true→0≤sl∧sl<32) (hr:r=bif ok then tup9 true (addr_At t p h k pg sl).1 (begS s t p h pg sl) q else tup9 false 0 s pk):
 SW Dg Tryz.prog allF (AP E G p0 cs r) allB allN E G [.ops pC 0, .code [1,1,1,1,0,1,1,1,1], .code [1,1,1,1,1]] (bL hb bc bp br k pg sl ok) (bK p0 hb bc bp br s t p h q aq pk ax):=by
 cases ok with
 |false=>
  refine pieceF (f:=allF) T_r18_Slot_ok Tryz.func9 (alloc_c (AR p0 cs r) (λ_ _ _ _ _ _ _ _=>False) p0 hb bc bp br s t p h k pg sl false q aq pk ax) (λv pr K w hz hS=>RetOk.post Dg hz hS) (λ_ _ _ hz=>hz.elim) ⟨λ_=>?_, λhz=>by cases hz⟩
  rw [hr]
  exact no_ret ..
 |true=>
  rw [hr,cond_true]
  refine pieceF (f:=allF) T_r18_Slot_ok Tryz.func9 (alloc_c (λ_ _ _=>False) (λtd e3 e5 e9 e11 e12 e13 K=>atEnd E G p0 s t p h k pg sl q td e3 e5 e9 e11 e12 e13 K) p0 hb bc bp br s t p h k pg sl true q aq pk ax) (λ_ _ _ _ hz=>hz.elim) (λtd L K hz=>atEnd_sw hz (hsl rfl)) ⟨(λhz=>by cases hz), λ_=>?_⟩
  exact ⟨rfl,hb,bc,br,aq,_,_,_,rfl,rfl,rfl,rfl,rfl,rfl, λw hS=>hS.ord Dg [0,1,2,4,5,6,7,8,9,10,11,12,13] rfl (by kernel_rfl)⟩
def atC (p0:Addr) (hb bc bp br:Nat) (t p h k:Int) (r:VS×LL×Int×Int×Bool) (pk:LL) (ax:Ad9) (td:List Ab) (e3 e5 e6 e9 e11 e12 e13 e16:Option Ent) (K:List (Chunk Sg)):Prop:=
 td=[.ops pC 0, .code [1,1,1,1,0,1,1,1,1], .code [1,1,1,1,1]]∧e3=some ⟨3,none, .int .i64 k, .no⟩∧e5=some (ptE 5 bc 1)∧e6=some (ptE 6 bp 2)∧e9=some (ptE 9 br 3)∧e11=some ⟨11,none, .pointer (some ⟨hb,0,none⟩), .pt 0 .obj⟩∧e12=some ⟨12,none, .int .i64 r.2.2.1, .no⟩∧e13=some ⟨13,none, .int .i64 r.2.2.2.1, .no⟩∧e16=some ⟨16,none, .bool r.2.2.2.2, .no⟩∧
  K=aK hb bc bp br t p h (handA p0 hb r.1 t p h) r.2.1 pk ax
theorem fill_slot (ho:(fillR s t p h k pk).2.2.2.2=true):0≤(fillR s t p h k pk).2.2.2.1∧(fillR s t p h k pk).2.2.2.1<32:=by
 unfold fillR at ho ⊢
 cases hc:(slab_Pick s t p h k 4).2.2.2 with
 |false=>rw [hc] at ho;cases ho
 |true=>
  have h1:=pick_ok (c:=⟨t,p,h⟩) (s:=s) (k:=k) hc
  have h2:=h1.2.2 _ (getD_mem' (i:=0) h1.1)
  have h3:=kSlots_32 k
  exact ⟨h2.1,Int.lt_of_lt_of_le h2.2 h3⟩
set_option maxRecDepth 100000 in
theorem alloc_fill_sw {r:RT} (hO:pkO pk) (hp:p≤1024) (hr:r=bif (fillR s t p h k pk).2.2.2.2 then tup9 true (addr_At t p h k (fillR s t p h k pk).2.2.1 (fillR s t p h k pk).2.2.2.1).1 (begS (fillR s t p h k pk).1 t p h (fillR s t p h k pk).2.2.1 (fillR s t p h k pk).2.2.2.1) (fillR s t p h k pk).2.1 else tup9 false 0 (fillR s t p h k pk).1 pk):
 SW Dg Tryz.prog allF (AP E G p0 cs r) allB allN E G [.ops pELSE 0, .code [1,1,1,0,1,1,1,1], .code [1,1,1,1,1]] (aL hb bc bp br k) (aK hb bc bp br t p h (handA p0 hb s t p h) pk pk ax):=by
 refine pieceF (f:=allF) (TableOk.cons Dg (e_fill_ok (p0:=p0) (hb:=hb) (s:=s) (t:=t) (p:=p) (h:=h)) T_r18_Slot_ok) Tryz.func9 (alloc_fill (λ_ _ _=>False) (λtd e3 e5 e6 e9 e11 e12 e13 e16 K=>atC p0 hb bc bp br t p h k (fillR s t p h k pk) pk ax td e3 e5 e6 e9 e11 e12 e13 e16 K) p0 hb bc bp br s t p h k pk ax) (λ_ _ _ _ hz=>hz.elim) (λtd L K hz=>?_)
  (λr0 h0=>⟨rfl, λ_=>⟨rfl, λ_=>⟨hO, λ_=>⟨hp, λ_=>by subst h0;exact ⟨rfl,rfl,rfl,rfl,rfl,rfl,rfl,rfl,rfl,rfl⟩⟩⟩⟩⟩)
 obtain ⟨rfl,e3,e5,e6,e9,e11,e12,e13,e16,rfl⟩:=(hz:atC p0 hb bc bp br t p h k (fillR s t p h k pk) pk ax td (Sl.look L 3) (Sl.look L 5) (Sl.look L 6) (Sl.look L 9) (Sl.look L 11) (Sl.look L 12) (Sl.look L 13) (Sl.look L 16) K)
 have hsl:=fill_slot (s:=s) (t:=t) (p:=p) (h:=h) (k:=k) (pk:=pk)
 generalize fillR s t p h k pk=f at hr hsl e12 e13 e16 ⊢
 obtain ⟨s1,q,pg,sl,ok⟩:=f
 refine SW.re Dg (α:=Ad9) (Kf:= λaq=>bK p0 hb bc bp br s1 t p h q aq pk ax) (L':=bL hb bc bp br k pg sl ok) (λw hS=>?_) (λ_=>KOk_all (by simp [bK,hC,sl9,nil9,ro9,cellsAll,psOk,pOk,cOk])) (λaq e he=>?_) λaq=>alloc_c_sw hsl hr
 ·obtain ⟨aq,h1⟩:=SatK.unpackEx Dg (k:=0) (k0:= λ_:Ad9=> .obj p0 (.view s1)) (ks:= λad=> .cells hb 78 (hC p0 0 2 t p h q ad)::ro9 q ad) hS rfl (by kernel_rfl)
  exact ⟨aq,h1.ord Dg [0,13,1,2,3,14,15,16,17,18,19,20,21,22,4,5,6,7,8,9,10,11,12] rfl (by kernel_rfl)⟩
 ·simp only [bL,iH,kM,or_false] at he
  rcases he with rfl|rfl|rfl|rfl|rfl|rfl|rfl|rfl
  ·exact reN (look_mem e3).1
  ·exact ⟨rfl,⟨_,(look_mem e5).1⟩,(pOk_pt).2 ⟨_,rfl,rfl⟩⟩
  ·exact ⟨rfl,⟨_,(look_mem e6).1⟩,(pOk_pt).2 ⟨_,rfl,rfl⟩⟩
  ·exact ⟨rfl,⟨_,(look_mem e9).1⟩,(pOk_pt).2 ⟨_,rfl,rfl⟩⟩
  ·exact ⟨rfl,⟨_,(look_mem e11).1⟩,(pOk_pt).2 ⟨_,rfl,rfl⟩⟩
  ·exact reN (look_mem e12).1
  ·exact reN (look_mem e13).1
  ·exact reN (look_mem e16).1
def atElse (E:Ev) (G:Hp) (p0:Addr) (s:VS) (t p h k:Int) (pk:LL) (td:List Ab) (e3 e5 e6 e9 e11:Option Ent) (K:List (Chunk Sg)):Prop:=
 td=[.ops pELSE 0, .code [1,1,1,0,1,1,1,1], .code [1,1,1,1,1]]∧∃(hb bc bp br:Nat) (ax:Ad9) (q5 q6 q9 q11:Pr),e3=some ⟨3,none, .int .i64 k, .no⟩∧e5=some ⟨5,none, .pointer (some ⟨bc,0,none⟩),q5⟩∧e6=some ⟨6,none, .pointer (some ⟨bp,0,none⟩),q6⟩∧e9=some ⟨9,none, .pointer (some ⟨br,0,none⟩),q9⟩∧e11=some ⟨11,none, .pointer (some ⟨hb,0,none⟩),q11⟩∧
  ∀w,SatK Dg E G w K→SatK Dg E G w (aK hb bc bp br t p h (handA p0 hb s t p h) pk pk ax)
theorem atElse_sw {td:List Ab} {L:List Ent} {K:List (Chunk Sg)} {r:RT} (hz:atElse E G p0 s t p h k pk td (Sl.look L 3) (Sl.look L 5) (Sl.look L 6) (Sl.look L 9) (Sl.look L 11) K) (hO:pkO pk) (hp:p≤1024)
 (hr:r=bif (fillR s t p h k pk).2.2.2.2 then tup9 true (addr_At t p h k (fillR s t p h k pk).2.2.1 (fillR s t p h k pk).2.2.2.1).1 (begS (fillR s t p h k pk).1 t p h (fillR s t p h k pk).2.2.1 (fillR s t p h k pk).2.2.2.1) (fillR s t p h k pk).2.1 else tup9 false 0 (fillR s t p h k pk).1 pk):
 SW Dg Tryz.prog allF (AP E G p0 cs r) allB allN E G td L K:=by
 obtain ⟨rfl,hb,bc,bp,br,ax,q5,q6,q9,q11,e3,e5,e6,e9,e11,hK⟩:=hz
 refine SW.re Dg (α:=Unit) (Kf:= λ_=>aK hb bc bp br t p h (handA p0 hb s t p h) pk pk ax) (L':=aL hb bc bp br k) (λw hS=>⟨(),hK w hS⟩) (λ_=>KOk_all (by simp [aK,sl9,hC,nil9,ro9,cellsAll,psOk,pOk,cOk])) (λ_ e he=>?_) λ_=>alloc_fill_sw hO hp hr
 simp only [aL,iH,kM,or_false] at he
 rcases he with rfl|rfl|rfl|rfl|rfl
 ·exact reN (look_mem e3).1
 ·exact ⟨rfl,⟨_,(look_mem e5).1⟩,(pOk_pt).2 ⟨_,rfl,rfl⟩⟩
 ·exact ⟨rfl,⟨_,(look_mem e6).1⟩,(pOk_pt).2 ⟨_,rfl,rfl⟩⟩
 ·exact ⟨rfl,⟨_,(look_mem e9).1⟩,(pOk_pt).2 ⟨_,rfl,rfl⟩⟩
 ·exact ⟨rfl,⟨_,(look_mem e11).1⟩,(pOk_pt).2 ⟨_,rfl,rfl⟩⟩
end
abbrev adX (p0:Addr) (ad:Nat→Ad):Ad9:= λi=>((adP p0 ad (i+1)).a,(adP p0 ad (i+1)).c)
set_option maxRecDepth 100000 in
theorem small_Alloc_ok:EOk 9 e_small_Alloc:=by
 refine ent_of Dg (mk:=[]) T_r18_Slot_ok (I:=allI) Tryz.func9 mix (B:=allB) (by kernel_rfl) rfl (by kernel_rfl) 400 λp0 s t p h x0 x1 x2 x3 x4 x5 x6 x7 x8 k hbd hp ad E G=>?_
 have hp0:p≤1024:=hp _ (.head _)
 have hp1:pkB x0 x1 x2 x3 x4 x5 x6 x7 x8:=hp _ (.tail _ (.head _))
 refine holdsE (alloc_begin _ (λtd e3 e5 e6 e9 e11 e12 e13 K=>((lastI (pkk [x0,x1,x2,x3,x4,x5,x6,x7,x8] k)).2=true∧atEnd E G p0 s t p h k (pgA t p h (lastI (pkk [x0,x1,x2,x3,x4,x5,x6,x7,x8] k)).1) (slA t p h k (lastI (pkk [x0,x1,x2,x3,x4,x5,x6,x7,x8] k)).1) (pkS [x0,x1,x2,x3,x4,x5,x6,x7,x8] k (popL (pkk [x0,x1,x2,x3,x4,x5,x6,x7,x8] k))) td e3 e5 e9 e11 e12 e13 K)∨
  ((lastI (pkk [x0,x1,x2,x3,x4,x5,x6,x7,x8] k)).2=false∧atElse E G p0 s t p h k [x0,x1,x2,x3,x4,x5,x6,x7,x8] td e3 e5 e6 e9 e11 K)) p0 s t p h k x0 x1 x2 x3 x4 x5 x6 x7 x8 ad) (λtd L K hz=>?_) ?_
 ·show SW Dg Tryz.prog allF (AP E G p0 (al9 x0 x1 x2 x3 x4 x5 x6 x7 x8 s t p h k) (allocC s t p h [x0,x1,x2,x3,x4,x5,x6,x7,x8] k)) allB allN E G td L K
  rcases hz with ⟨h1,hz⟩|⟨h1,hz⟩
  ·have e:allocC s t p h [x0,x1,x2,x3,x4,x5,x6,x7,x8] k=tup9 true (addr_At t p h k (pgA t p h (lastI (pkk [x0,x1,x2,x3,x4,x5,x6,x7,x8] k)).1) (slA t p h k (lastI (pkk [x0,x1,x2,x3,x4,x5,x6,x7,x8] k)).1)).1 (begS s t p h (pgA t p h (lastI (pkk [x0,x1,x2,x3,x4,x5,x6,x7,x8] k)).1) (slA t p h k (lastI (pkk [x0,x1,x2,x3,x4,x5,x6,x7,x8] k)).1)) (pkS [x0,x1,x2,x3,x4,x5,x6,x7,x8] k (popL (pkk [x0,x1,x2,x3,x4,x5,x6,x7,x8] k))):=by unfold allocC;rw [h1];rfl
   rw [e]
   exact atEnd_sw hz (slot_rg ..)
  ·exact atElse_sw hz hp1 hp0 (by unfold allocC;rw [h1];rfl)
 ·intro bc bp br hb
  rintro ⟨a,q0,q1,q2,q3,q4,q5,q6,q7,q8,ok⟩ h4
  have hv:(a,q0,q1,q2,q3,q4,q5,q6,q7,q8,ok)=((lastI (pkk [x0,x1,x2,x3,x4,x5,x6,x7,x8] k)).1,pkSel k 0 (popL (pkk [x0,x1,x2,x3,x4,x5,x6,x7,x8] k)) x0,pkSel k 1 (popL (pkk [x0,x1,x2,x3,x4,x5,x6,x7,x8] k)) x1,pkSel k 2 (popL (pkk [x0,x1,x2,x3,x4,x5,x6,x7,x8] k)) x2,pkSel k 3 (popL (pkk [x0,x1,x2,x3,x4,x5,x6,x7,x8] k)) x3,pkSel k 4 (popL (pkk [x0,x1,x2,x3,x4,x5,x6,x7,x8] k)) x4,pkSel k 5 (popL (pkk [x0,x1,x2,x3,x4,x5,x6,x7,x8] k)) x5,pkSel k 6 (popL (pkk [x0,x1,x2,x3,x4,x5,x6,x7,x8] k)) x6,pkSel k 7 (popL (pkk [x0,x1,x2,x3,x4,x5,x6,x7,x8] k)) x7,pkSel k 8 (popL (pkk [x0,x1,x2,x3,x4,x5,x6,x7,x8] k)) x8,(lastI (pkk [x0,x1,x2,x3,x4,x5,x6,x7,x8] k)).2):=h4
  simp only [iU] at hv
  obtain ⟨ha,hq0,hq1,hq2,hq3,hq4,hq5,hq6,hq7,hq8,hok⟩:=hv
  refine ⟨hp1, λ_ a0 c0 a1 c1 a2 c2 a3 c3 a4 c4 a5 c5 a6 c6 a7 c7 a8 c8 b15=>⟨λho=>?_, λho=>?_⟩⟩
  ·have ho:ok=true:=ho
   rintro r17 rfl r18 rfl
   have hi:i64R (lastI (pkk [x0,x1,x2,x3,x4,x5,x6,x7,x8] k)).1:=lastI_i64 (pkB_get hp1 k)
   refine .inl ⟨by rw [←hok];exact ho,rfl,hb,bc,br, λn=>match n with
    |0=>(a0.map decA,c0)|1=>(a1.map decA,c1)|2=>(a2.map decA,c2)|3=>(a3.map decA,c3)|4=>(a4.map decA,c4)|5=>(a5.map decA,c5)|6=>(a6.map decA,c6)|7=>(a7.map decA,c7)|_=>(a8.map decA,c8),_,_,_,rfl,rfl,rfl,rfl,?_,?_, λw hS=>?_⟩
   ·dsimp only
    rw [ha,Page_eq hi];rfl
   ·dsimp only
    rw [ha,Page_eq hi,Slot_eq];rfl
   ·have e:pkS [x0,x1,x2,x3,x4,x5,x6,x7,x8] k (popL (pkk [x0,x1,x2,x3,x4,x5,x6,x7,x8] k))=[q0,q1,q2,q3,q4,q5,q6,q7,q8]:=by rw [hq0,hq1,hq2,hq3,hq4,hq5,hq6,hq7,hq8];rfl
    rw [e]
    exact hS.ord Dg [0,13,10,12,14,15,16,17,18,19,20,21,22] rfl (by kernel_rfl)
  ·have ho:ok=false:=ho
   refine .inr ⟨by rw [←hok];exact ho,rfl,hb,bc,bp,br,adX p0 ad,_,_,_,_,rfl,rfl,rfl,rfl,rfl, λw hS=>?_⟩
   have hS2:=((((((((hS.dup Dg (j:=1) rfl).dup Dg (j:=2) rfl).dup Dg (j:=3) rfl).dup Dg (j:=4) rfl).dup Dg (j:=5) rfl).dup Dg (j:=6) rfl).dup Dg (j:=7) rfl).dup Dg (j:=8) rfl).dup Dg (j:=9) rfl
   refine SatK.packEx Dg (G:=G) (Ks:=hK p0 hb s t p h [x0,x1,x2,x3,x4,x5,x6,x7,x8] (adX p0 ad)) (K1:=[.cells bc 23 [(.int .i64 t, .no),(.int .i64 p, .no),(.int .i64 h, .no)], .cells bp 40 (sl9 4 [x0,x1,x2,x3,x4,x5,x6,x7,x8] (adX p0 ad)), .cells br 40 nil9]++ro9 [x0,x1,x2,x3,x4,x5,x6,x7,x8] (adX p0 ad)) (c:= .obj ⟨hb,0,none⟩ (.any (handA p0 hb s t p h) [x0,x1,x2,x3,x4,x5,x6,x7,x8]))
    (hS2.ord Dg [0,13,1,2,3,4,5,6,7,8,9,10,11,12,24,25,26,27,28,29,30,31,32] rfl (by kernel_rfl)) λY y hx=>⟨adX p0 ad,hx⟩
def T_small_Alloc:Tb:=(9,e_small_Alloc)::T_r18_Slot
theorem T_small_Alloc_ok:TOk T_small_Alloc:=tc_ small_Alloc_ok T_r18_Slot_ok
end
section
open Go Go.Sl
def allL (c:LI):Nat→LI
 |0=>[]
 |n+1=>allL c n++slR (c.getD n 0)
def lenB (c:LI):Nat→Bool
 |0=>true
 |n+1=>lenB c n&&decide ((slR (c.getD n 0)).length≤4)
def oft (l:LI) (a:Int):Int:=((l.filter (· ==a)).length:Int)
def idP (sz:Int) (x:Pt):Bool:=x.k==4&&x.s==sz
def fitIn (sz:Int) (H:LI):List Pt→Int→Option Int
 |[],n=>some n
 |x::r,n=>bif idP sz x then (bif oft H x.a==1 then fitIn sz H r (iA .i64 (n-1)) else none) else fitIn sz H r n
def fitOut (h:Int) (L:List Pt) (C:Int→LI) (N:Nat):Nat→Int→Bool
 |0,n=>n==0
 |j+1,n=>bif lenB (C (8-j)) N then (match fitIn (r05_Size h (8-j)) (allL (C (8-j)) N) L (iA .i64 (n+(allL (C (8-j)) N).length)) with
  |some n'=>fitOut h L C N j n'
  |none=>false) else false
def fitTl (h:Int) (L:List Pt) (C:Int→LI) (N:Nat) (k:Int) (H:LI) (M:List Pt) (n:Int):Bool:=match fitIn (r05_Size h k) H M n with
 |some n'=>fitOut h L C N (8-k).toNat n'
 |none=>false
theorem fitOut_step {h:Int} {L:List Pt} {C:Int→LI} {N:Nat} {k n:Int} (hk:0≤k∧k≤8):fitOut h L C N (9-k).toNat n=bif lenB (C k) N then fitTl h L C N k (allL (C k) N) L (iA .i64 (n+(allL (C k) N).length)) else false:=by
 have e1:(9-k).toNat=(8-k).toNat+1:=by omega
 have e2:(8:Int)-((8-k).toNat:Nat)=k:=by omega
 rw [e1,fitOut,e2]
 rfl
theorem lenB_le {c:LI}:∀{N m:Nat},m≤N→lenB c N=true→lenB c m=true
 |0,m,h,_=>by rw [show m=0 by omega];rfl
 |n+1,m,h,hb=>by
  by_cases e:m=n+1
  ·rw [e];exact hb
  ·simp only [lenB,iE] at hb
   exact lenB_le (by omega) hb.1
theorem fitTl_cons {h:Int} {L:List Pt} {C:Int→LI} {N:Nat} {k n:Int} {H:LI} {x:Pt} {M:List Pt}:fitTl h L C N k H (x::M) n=bif idP (r05_Size h k) x then (bif oft H x.a==1 then fitTl h L C N k H M (iA .i64 (n-1)) else false) else fitTl h L C N k H M n:=by
 unfold fitTl
 rw [fitIn]
 cases idP (r05_Size h k) x with
 |false=>rfl
 |true=>cases oft H x.a==1<;>rfl
theorem pt_drop {L:List Pt} {i:Nat} (h:i<L.length):∃x:Pt,L.drop i=x::L.drop (i+1)∧(L.map (·.k)).getD i 0=x.k∧(L.map (·.a)).getD i 0=x.a∧(L.map (·.s)).getD i 0=x.s:=by
 have e:∀f:Pt→Int,(L.map f).getD i 0=f L[i]:= λf=>by
  rw [iD,iR,iM h];rfl
 exact ⟨L[i],pW h,e _,e _,e _⟩
theorem nodup_cnt:∀(S:LI),S.Nodup→∀H:LI,(∀a∈S,a∈H)→S.length≤H.length∧(S.length=H.length→∀a∈H,a∈S)
 |[],_,H,_=>⟨oG _, λe a ha=>by rw [List.length_eq_zero_iff.mp e.symm] at ha;exact ha⟩
 |s::S,hn,H,hs=>by
  obtain ⟨h1,h2⟩:=lN.mp hn
  have hm:=hs s (by simp)
  have hl:=List.length_erase_of_mem hm
  have hp:0<H.length:=List.length_pos_of_mem hm
  obtain ⟨h3,h4⟩:=nodup_cnt S h2 (H.erase s) λa ha=>(List.mem_erase_of_ne (λe:a=s=>h1 (by rw [←e];exact ha))).mpr (hs a (by simp [ha]))
  refine ⟨by rw [jJ];omega, λe a ha=>?_⟩
  rw [jJ] at e
  by_cases he:a=s
  ·rw [he];simp
  ·exact List.mem_cons_of_mem _ (h4 (by omega) a ((List.mem_erase_of_ne he).mpr ha))
theorem oft_mem {l:LI} {a:Int} (h:oft l a=1):a∈l:=by
 unfold oft at h
 have:0<(l.filter (· ==a)).length:=by omega
 obtain ⟨b,hb⟩:=List.exists_mem_of_length_pos this
 rw [mK] at hb
 have e:b=a:=by simpa using hb.2
 rw [←e];exact hb.1
theorem fitIn_some {sz:Int} {H:LI}:∀{L:List Pt} {n n':Int}, -1000000000≤n-L.length→n≤1000000000→fitIn sz H L n=some n'→n'=n-((L.filter (idP sz)).length:Int)∧∀x∈L.filter (idP sz),oft H x.a=1
 |[],n,n',_,_,h=>by injection h with h;subst h;exact ⟨by simp, λx hx=>by cases hx⟩
 |x::r,n,n',h1,h2,h=>by
  rw [jJ] at h1
  rw [fitIn] at h
  cases hp:idP sz x with
  |false=>
   rw [hp] at h
   obtain ⟨g1,g2⟩:=fitIn_some (L:=r) (by push_cast at h1;omega) h2 h
   rw [mW,hp]
   exact ⟨g1,g2⟩
  |true=>
   rw [hp] at h
   cases ho:oft H x.a==1 with
   |false=>rw [ho] at h;cases h
   |true=>
    rw [ho,cond_true,cond_true,w64 (n:=n-1) (by push_cast at h1;omega)] at h
    obtain ⟨g1,g2⟩:=fitIn_some (L:=r) (by push_cast at h1;omega) (by omega) h
    rw [mW,hp]
    refine ⟨by rw [g1];simp only [if_true,jJ];push_cast;omega, λy hy=>?_⟩
    simp only [if_true,iH] at hy
    rcases hy with rfl|hy
    ·exact eq_of_beq ho
    ·exact g2 y hy
theorem lenB_all {c:LI}:∀{N:Nat},lenB c N=true→∀τ,τ<N→(slR (c.getD τ 0)).length≤4
 |0,_,τ,h=>by omega
 |n+1,h,τ,ht=>by
  simp only [lenB,iE,decide_eq_true_eq] at h
  by_cases e:τ=n
  ·rw [e];exact h.2
  ·exact lenB_all h.1 τ (by omega)
theorem allL_len {c:LI}:∀{N:Nat},lenB c N=true→(allL c N).length≤4*N
 |0,_=>kA _
 |n+1,h=>by
  simp only [lenB,iE,decide_eq_true_eq] at h
  have:=allL_len h.1
  rw [allL,jL];omega
def dfS (h:Int) (L:List Pt) (C:Int→LI) (N:Nat):Nat→Int
 |0=>0
 |j+1=>(((allL (C (8-j)) N).length:Int)-((L.filter (idP (r05_Size h (8-j)))).length:Int))+dfS h L C N j
theorem fitOut_true {h:Int} {L:List Pt} {C:Int→LI} {N:Nat} (hL:L.length≤100000) (hN:N≤100000):∀(j:Nat) (n:Int),j≤9→ -10000000-1000000*(9-j:Int)≤n→n≤10000000+1000000*(9-j:Int)→fitOut h L C N j n=true→
 n+dfS h L C N j=0∧∀i:Nat,i<j→lenB (C (8-i)) N=true∧∀x∈L.filter (idP (r05_Size h (8-i))),oft (allL (C (8-i)) N) x.a=1
 |0,n,_,_,_,ht=>⟨by have:n=0:=eq_of_beq ht;rw [this];rfl, λi hi=>by omega⟩
 |j+1,n,hj,h1,h2,ht=>by
  rw [fitOut] at ht
  cases hb:lenB (C (8-j)) N with
  |false=>rw [hb] at ht;cases ht
  |true=>
   rw [hb,cond_true] at ht
   have hl:=allL_len hb
   push_cast at h1 h2
   rw [w64 (n:=n+((allL (C (8-j)) N).length:Int)) (by omega)] at ht
   cases hf:fitIn (r05_Size h (8-j)) (allL (C (8-j)) N) L (n+((allL (C (8-j)) N).length:Int)) with
   |none=>rw [hf] at ht;cases ht
   |some n'=>
    rw [hf] at ht
    dsimp only at ht
    obtain ⟨g1,g2⟩:=fitIn_some (by omega) (by omega) hf
    have g3:=oL (idP (r05_Size h (8-j))) L
    obtain ⟨k1,k2⟩:=fitOut_true hL hN j n' (by omega) (by omega) (by omega) ht
    refine ⟨by rw [dfS];omega, λi hi=>?_⟩
    by_cases e:i=j
    ·subst e;exact ⟨hb,g2⟩
    ·exact k2 i (by omega)
end
section
open Go Go.Sl
theorem szB_inj:∀(s:Fin 11) (k l:Fin 9),szB ((s.val:Int)+10) (k.val:Int)=szB ((s.val:Int)+10) (l.val:Int)→k=l:=by decide+kernel
theorem szB_in {s k l:Int} (hs:10≤s∧s≤20) (hk:0≤k∧k≤8) (hl:0≤l∧l≤8) (h:szB s k=szB s l):k=l:=by
 have:=szB_inj ⟨(s-10).toNat,by omega⟩ ⟨k.toNat,by omega⟩ ⟨l.toNat,by omega⟩ (by
  dsimp only
  rw [show (((s-10).toNat:Nat):Int)+10=s by omega,show ((k.toNat:Nat):Int)=k by omega,show ((l.toNat:Nat):Int)=l by omega];exact h)
 have e:=congrArg Fin.val this
 dsimp only at e
 omega
theorem cls_of {k j:Int} (h0:0≤j) (h:j<kSlots k):0≤k∧k≤8:=by
 apply Classical.byContradiction
 intro hk
 have:=slots_out (k:=k) (by omega)
 omega
section
variable {c:Cf} {xs:LI}
theorem slabF_in {g k:Int} {x:Pt}:∀{n:Nat},x∈slabF c xs g k n→∃j:Nat,j<n∧x=slabPt c xs g k j
 |0,h=>by cases h
 |n+1,h=>by
  rw [slabF,kC,iY] at h
  rcases h with h|h
  ·obtain ⟨j,h1,h2⟩:=slabF_in h
   exact ⟨j,by omega,h2⟩
  ·exact ⟨n,by omega,h⟩
theorem slabF_sorted {g k:Int} (hz:0<szB c.s k):∀n:Nat,(slabF c xs g k n).Pairwise λx y=>x.a<y.a
 |0=>pN
 |n+1=>by
  rw [slabF,List.pairwise_append]
  refine ⟨slabF_sorted hz n,List.pairwise_singleton _ _, λx hx y hy=>?_⟩
  obtain ⟨j,h1,rfl⟩:=slabF_in hx
  rw [iY] at hy
  subst hy
  show (g+1)*pgB c.s+(j:Int)*szB c.s k<(g+1)*pgB c.s+(n:Int)*szB c.s k
  have:(j:Int)*szB c.s k<(n:Int)*szB c.s k:=Int.mul_lt_mul_of_pos_right (by omega) hz
  omega
def idl (x:Pt):Bool:=x.k==4
theorem slabL_idl (g k:Int):(slabL c xs g k).filter idl=(slabF c xs g k (kSlots k).toNat).filter idl:=by
 unfold slabL
 cases decide (0<slabRest c k) with
 |false=>rfl
 |true=>rw [cond_true,mB];simp [idl]
theorem partsOf_idl (g:Int):(partsOf c xs g).filter idl=[]∨∃k,(partsOf c xs g).filter idl=(slabF c xs g k (kSlots k).toNat).filter idl:=by
 cases h12:((aInfo c xs g).k==1||(aInfo c xs g).k==2) with
 |true=>
  rw [partsOf_one c xs h12]
  refine .inl ?_
  simp only [kZ,beq_iff_eq] at h12
  rw [mW]
  have:idl ⟨(aInfo c xs g).k,(g+1)*pgB c.s,(aInfo c xs g).l*pgB c.s⟩=false:=by
   unfold idl
   rcases h12 with h|h<;>(dsimp only;rw [h];rfl)
  rw [this];rfl
 |false=>
  cases h3:((aInfo c xs g).k==3) with
  |true=>rw [partsOf_slab c xs h3];exact .inr ⟨_,slabL_idl _ _⟩
  |false=>
   simp only [jB] at h12
   rw [partsOf_none c xs h12.1 h12.2 h3];exact .inl rfl
theorem partsOf_at {g:Int} {x:Pt} (h:x∈(partsOf c xs g).filter idl):∃(k:Int) (j:Nat),(j:Int)<kSlots k∧x=slabPt c xs g k j:=by
 rcases partsOf_idl (c:=c) (xs:=xs) g with e|⟨k,e⟩
 ·rw [e] at h;cases h
 ·rw [e] at h
  obtain ⟨j,h1,h2⟩:=slabF_in (mK.mp h).1
  exact ⟨k,j,by omega,h2⟩
theorem partsOf_sorted (hs:10≤c.s∧c.s≤20) (g:Int):((partsOf c xs g).filter idl).Pairwise λx y=>x.a<y.a:=by
 rcases partsOf_idl (c:=c) (xs:=xs) g with e|⟨k,e⟩
 ·rw [e];exact pN
 ·rw [e]
  by_cases hk:0≤k∧k≤8
  ·have:=(szB_ok hs hk).2.1
   exact (slabF_sorted (by omega) _).filter _
  ·rw [slots_out (k:=k) (by omega)];exact pN
theorem slot_rng (hs:10≤c.s∧c.s≤20) {g k:Int} {j:Nat} (h:(j:Int)<kSlots k):(g+1)*pgB c.s≤(slabPt c xs g k j).a∧(slabPt c xs g k j).a<(g+2)*pgB c.s:=by
 have hk:=cls_of (by omega) h
 obtain ⟨_,e2,e3,_⟩:=szB_ok hs hk
 have f1:0≤(j:Int)*szB c.s k:=nJ (by omega) (by omega)
 have f2:((j:Int)+1)*szB c.s k≤kSlots k*szB c.s k:=kK (by omega) (by omega)
 have f3:((j:Int)+1)*szB c.s k=(j:Int)*szB c.s k+szB c.s k:=by rw [nN,nW]
 have f4:kSlots k*szB c.s k=szB c.s k*kSlots k:=oQ _ _
 have f5:(g+2)*pgB c.s=(g+1)*pgB c.s+pgB c.s:=by rw [show g+2=(g+1)+1 by omega,nN,nW]
 show _≤(g+1)*pgB c.s+(j:Int)*szB c.s k∧(g+1)*pgB c.s+(j:Int)*szB c.s k<_
 omega
theorem partsF_at:∀{n:Nat} {x:Pt},x∈(partsF c xs n).filter idl→∃(g:Nat) (k:Int) (j:Nat),g<n∧(j:Int)<kSlots k∧x=slabPt c xs g k j
 |0,_,h=>by cases h
 |n+1,x,h=>by
  rw [partsF,mB,kC] at h
  rcases h with h|h
  ·obtain ⟨g,k,j,h1,h2,h3⟩:=partsF_at h
   exact ⟨g,k,j,by omega,h2,h3⟩
  ·obtain ⟨k,j,h2,h3⟩:=partsOf_at h
   exact ⟨n,k,j,by omega,h2,h3⟩
theorem partsF_sorted (hs:10≤c.s∧c.s≤20):∀n:Nat,((partsF c xs n).filter idl).Pairwise λx y=>x.a<y.a
 |0=>pN
 |n+1=>by
  rw [partsF,mB,List.pairwise_append]
  refine ⟨partsF_sorted hs n,partsOf_sorted hs n, λx hx y hy=>?_⟩
  obtain ⟨g,k,j,h1,h2,rfl⟩:=partsF_at hx
  obtain ⟨k',j',h3,rfl⟩:=partsOf_at hy
  have a1:=(slot_rng (xs:=xs) hs (g:=g) h2).2
  have a2:=(slot_rng (xs:=xs) hs (g:=n) h3).1
  have hp:1024≤pgB c.s:=(szB_ok hs (k:=0) (by omega)).2.2.2.2.1
  have:((g:Int)+2)*pgB c.s≤((n:Int)+1)*pgB c.s:=kK (by omega) (by omega)
  omega
theorem idP_idl {sz:Int} (L:List Pt):(L.filter (idP sz)).Pairwise (λx y=>x.a<y.a)↔((L.filter idl).filter λx=>x.s==sz).Pairwise λx y=>x.a<y.a:=by
 rw [List.filter_filter]
 have:(λx:Pt=>(x.s==sz)&&idl x)=idP sz:=by funext x;unfold idP idl;exact Bool.and_comm _ _
 rw [this]
theorem dfS_zero {h:Int} {L:List Pt} {C:Int→LI} {N:Nat}:∀{j:Nat},(∀i:Nat,i<j→(L.filter (idP (r05_Size h (8-i)))).length≤(allL (C (8-i)) N).length)→dfS h L C N j≤0→∀i:Nat,i<j→(L.filter (idP (r05_Size h (8-i)))).length=(allL (C (8-i)) N).length
 |0,_,_,i,hi=>by omega
 |j+1,hle,h0,i,hi=>by
  have h1:=hle j (by omega)
  have nn:∀m:Nat,(∀i:Nat,i<m→(L.filter (idP (r05_Size h (8-i)))).length≤(allL (C (8-i)) N).length)→0≤dfS h L C N m:=by
   intro m
   induction m with
   |zero=>intro _;exact mM _
   |succ m ih=>intro hm;have:=hm m (by omega);have:=ih λi hi=>hm i (by omega);rw [dfS];omega
  have h2:=nn j λi hi=>hle i (by omega)
  rw [dfS] at h0
  by_cases e:i=j
  ·subst e;omega
  ·exact dfS_zero (j:=j) (λi hi=>hle i (by omega)) (by omega) i (by omega)
end
end
section
open Go.Sl
theorem good_len {c:Cf} {xs:LI} (h:AGood c xs):xs.length≤1000000:=by
 have h1:=Cf.ok_iff.1 h.ok
 have h2:=h.len
 rw [show c.cells=30+4*c.t+6*c.p by unfold Cf.cells;rw [h.ok];rfl] at h2
 omega
def r12_Parts (t p h:Int) (xs:LI):LI×LI×LI:=bif soundA ⟨t,p,h⟩ xs then ((partsL ⟨t,p,h⟩ xs).map (·.k),(partsL ⟨t,p,h⟩ xs).map (·.a),(partsL ⟨t,p,h⟩ xs).map (·.s)) else ([],[],[])
abbrev c_r12_Parts:Ct Sg:=⟨none,false,[.agg [.i .i64, .i .i64, .i .i64], .ro [some .u32]], .new 94 [some .i64,some .i64,some .i64]⟩
def e_r12_Parts:Entry Sg:=entC c_r12_Parts r12_Parts (λt p h xs=>[bdAll xs])
def r12_Parts_w (t p h:Int) (xs:LI) (R_:LI×LI×LI→Prop):Prop:=(∀r1:Bool,r1=(r12_Sound t p h xs)→(aw_ (bdAll xs) (bw_ (!r1) (R_ (([],[],[]))) (∀r5:LI×LI×LI,r5=(x_parts t p h xs)→(aw_ (AGood {t:=t,p:=p,s:=h} xs) (R_ ((r5.1,r5.2.1,r5.2.2))))))))
theorem r12_Parts_begin (t p h:Int) (xs:LI) (hp0:bdAll xs) (hl0:xs.length≤9223372036854775807):r12_Parts_w t p h xs (λr__=>r__=(r12_Parts t p h xs)):=by
 unfold r12_Parts_w
 have hS:soundA ⟨t,p,h⟩ xs=r12_Sound t p h xs:=rfl
 rintro r rfl
 refine ⟨hp0, λ_=>⟨λh1=>?_, λh1=>?_⟩⟩
 ·show _=r12_Parts t p h xs
  rw [←hS] at h1
  rw [r12_Parts,(jP _).mp h1];rfl
 ·rintro r rfl
  rw [←hS] at h1
  have hs:=(jZ _).mp h1
  refine ⟨sound_good hs hp0, λ_=>?_⟩
  show _=r12_Parts t p h xs
  rw [r12_Parts,hs];rfl
theorem r12_Parts_ok:EOk 36 e_r12_Parts:=
 ent_w0 Dg T_small_Alloc_ok (I:=[2999998]) Tryz.func36 mix (B:=bodyOf Tryz.f36) (by kernel_rfl) rfl (by kernel_rfl) 400
  λ_ t p h xs hb hp=>⟨_, λ_ _ _=>by kernel_rfl,r12_Parts_begin t p h xs (hp _ (.head _)) (hb.2.1)⟩
def T_r12_Parts:Tb:=(36,e_r12_Parts)::T_small_Alloc
theorem T_r12_Parts_ok:TOk T_r12_Parts:=tc_ r12_Parts_ok T_small_Alloc_ok
abbrev Qh (a0 a1 a2 a3 a4 a5 a6 a7 a8:LI) (kk:Int) (n1:Nat) (ys:LI) (i:Int) (Q:Int→Nat→LI→Int→Prop) (R:LI→Prop):Prop:=
 bw_ (decide (i<(a0.length:Int))) (aw_ (0≤i∧i<(a0.length:Int)) (aw_ (0≤kk∧kk<9) (aw_ ((n1+(slR ((pkGet kk a0 a1 a2 a3 a4 a5 a6 a7 a8).getD i.toNat 0)).length)*8≤140737488355328) (Q kk (n1+(slR ((pkGet kk a0 a1 a2 a3 a4 a5 a6 a7 a8).getD i.toNat 0)).length) (ys++slR ((pkGet kk a0 a1 a2 a3 a4 a5 a6 a7 a8).getD i.toNat 0)) (iA .i64 (i+1)))))) (R ys)
def r17_All (a0 a1 a2 a3 a4 a5 a6 a7 a8:LI) (k:Int):LI:=allL (pkGet k a0 a1 a2 a3 a4 a5 a6 a7 a8) a0.length
abbrev c_r17_All:Ct Sg:=⟨none,false,[.ro [some .i16,some .i16,some .i16,some .i16,some .i16,some .i16,some .i16,some .i16,some .i16], .i .i64], .new 2 [some .i64]⟩
def e_r17_All:Entry Sg:=entC c_r17_All r17_All (λa0 a1 a2 a3 a4 a5 a6 a7 a8 k=>[(0≤k∧k≤8)∧a0.length≤1000∧lenB (pkGet k a0 a1 a2 a3 a4 a5 a6 a7 a8) a0.length=true])
def r17_All_w (a0 a1 a2 a3 a4 a5 a6 a7 a8:LI) (k:Int) (Q0:Int→Nat→LI→Int→Prop) (R_:LI→Prop):Prop:=(Q0 (k) (0) ([]) (0))
def r17_All_I0 (a0 a1 a2 a3 a4 a5 a6 a7 a8:LI) (k kk:Int) (n1:Nat) (ys:LI) (i:Int) (r_:LI):Prop:=kk=k∧0≤kk∧kk≤8∧0≤i∧i≤a0.length∧(a0.length≤1000∧lenB (pkGet kk a0 a1 a2 a3 a4 a5 a6 a7 a8) a0.length=true)∧n1=ys.length∧ys=allL (pkGet kk a0 a1 a2 a3 a4 a5 a6 a7 a8) i.toNat∧r_=allL (pkGet k a0 a1 a2 a3 a4 a5 a6 a7 a8) a0.length
abbrev r17_All_h0 (p0:Addr) (a0 a1 a2 a3 a4 a5 a6 a7 a8:LI) (k:Int):Hd Sg:=⟨none,[0,1,0,1,1],[.blk 0, .code [1,1,1]],[0,1,5,6],[.roc [.sls (a0), .sls (a1), .sls (a2), .sls (a3), .sls (a4), .sls (a5), .sls (a6), .sls (a7), .sls (a8)], .i .i64, .own 2 [some .i64], .i .i64]⟩
theorem r17_All_begin (a0 a1 a2 a3 a4 a5 a6 a7 a8:LI) (k:Int) (hp0:(0≤k∧k≤8)∧a0.length≤1000∧lenB (pkGet k a0 a1 a2 a3 a4 a5 a6 a7 a8) a0.length=true):r17_All_w a0 a1 a2 a3 a4 a5 a6 a7 a8 k (λkk' n1' ys' i'=>r17_All_I0 a0 a1 a2 a3 a4 a5 a6 a7 a8 k kk' n1' ys' i' (r17_All a0 a1 a2 a3 a4 a5 a6 a7 a8 k)) (λr__=>r__=(r17_All a0 a1 a2 a3 a4 a5 a6 a7 a8 k)):=by
 unfold r17_All_w
 try unfold r17_All_I0
 exact ⟨rfl,hp0.1.1,hp0.1.2,by omega,by omega,hp0.2,rfl,rfl,rfl⟩
theorem r17_All_cs0 (a0 a1 a2 a3 a4 a5 a6 a7 a8:LI) (k:Int) (hp0:(0≤k∧k≤8)∧a0.length≤1000∧lenB (pkGet k a0 a1 a2 a3 a4 a5 a6 a7 a8) a0.length=true) (kk:Int) (n1:Nat) (ys:LI) (i:Int) {r_:LI} (hI:r17_All_I0 a0 a1 a2 a3 a4 a5 a6 a7 a8 k kk n1 ys i r_):kk=0∨kk=1∨kk=2∨kk=3∨kk=4∨kk=5∨kk=6∨kk=7∨kk=8:=by
 unfold r17_All_I0 at hI
 obtain ⟨_,h1,h2,_⟩:=hI
 omega
theorem LY (a0 a1 a2 a3 a4 a5 a6 a7 a8:LI) (k:Int) (hp0:(0≤k∧k≤8)∧a0.length≤1000∧lenB (pkGet k a0 a1 a2 a3 a4 a5 a6 a7 a8) a0.length=true) (kk:Int) (n1:Nat) (ys:LI) (i:Int) {r_:LI} (hI:r17_All_I0 a0 a1 a2 a3 a4 a5 a6 a7 a8 k kk n1 ys i r_):Qh a0 a1 a2 a3 a4 a5 a6 a7 a8 kk n1 ys i (λkk' n1' ys' i'=>r17_All_I0 a0 a1 a2 a3 a4 a5 a6 a7 a8 k kk' n1' ys' i' r_∧lx (((a0.length:Int)-i').toNat,0,0) (((a0.length:Int)-i).toNat,0,0)) (λr__=>r__=r_):=by
 unfold r17_All_I0 at hI
 obtain ⟨hk,hk0,hk8,h0,h1,hb,hn,hx,hr⟩:=hI
 subst hk
 refine ⟨λhc=>?_, λhc=>?_⟩
 ·have hc:i<(a0.length:Int):=of_decide_eq_true hc
  have hlt:i.toNat<a0.length:=by omega
  have g1:=allL_len (lenB_le (Nat.le_of_lt hlt) hb.2)
  have g2:(slR ((pkGet kk a0 a1 a2 a3 a4 a5 a6 a7 a8).getD i.toNat 0)).length≤4:=lenB_all hb.2 _ hlt
  rw [w64 (n:=i+1) (by omega)]
  refine ⟨⟨h0,hc⟩, λ_=>⟨⟨by omega,by omega⟩, λ_=>⟨?_, λ_=>⟨⟨rfl,by omega,by omega,by omega,by omega,hb,?_,?_,hr⟩,lxo_⟩⟩⟩⟩
  ·rw [hn,hx];omega
  ·rw [hn,jL]
  ·rw [hx,show (i+1).toNat=i.toNat+1 by omega];rfl
 ·have hc:¬i<(a0.length:Int):=of_decide_eq_false hc
  show ys=r_
  rw [hr,hx,show i.toNat=a0.length by omega]
theorem r17_All_ok:EOk 37 e_r17_All:=
 ent_wp Dg T_r12_Parts_ok (I:=[2999998,411000000000,411000000001,411000000005,411000000006]) Tryz.func37 mix (B:=bodyOf Tryz.f37) (by kernel_rfl) rfl (by kernel_rfl) 400
  λp0 a0 a1 a2 a3 a4 a5 a6 a7 a8 k hb hp=>have hp0:(0≤k∧k≤8)∧a0.length≤1000∧lenB (pkGet k a0 a1 a2 a3 a4 a5 a6 a7 a8) a0.length=true:=hp _ (.head _);⟨[r17_All_h0 p0 a0 a1 a2 a3 a4 a5 a6 a7 a8 k], λj=>iG [appC (Hd.kd (r17_All_h0 p0 a0 a1 a2 a3 a4 a5 a6 a7 a8 k)) (λkk' n1' ys' i'=>r17_All_I0 a0 a1 a2 a3 a4 a5 a6 a7 a8 k kk' n1' ys' i' (r17_All a0 a1 a2 a3 a4 a5 a6 a7 a8 k))] j (λ_=>False), λj=>iG [appC (Hd.kd (r17_All_h0 p0 a0 a1 a2 a3 a4 a5 a6 a7 a8 k)) (λkk' n1' ys' i'=>(((a0.length:Int)-i').toNat,0,0))] j (λ_=>(0,0,0)),by kernel_rfl,⟨_, λ_ _ _=>by kernel_rfl,r17_All_begin a0 a1 a2 a3 a4 a5 a6 a7 a8 k hp0⟩,⟨λkk n1 ys i hI=>(by
   rcases r17_All_cs0 a0 a1 a2 a3 a4 a5 a6 a7 a8 k hp0 kk n1 ys i hI with rfl|rfl|rfl|rfl|rfl|rfl|rfl|rfl|rfl
   ·exact ⟨_, λ_ _ _=>by kernel_rfl,LY a0 a1 a2 a3 a4 a5 a6 a7 a8 k hp0 0 n1 ys i hI⟩
   ·exact ⟨_, λ_ _ _=>by kernel_rfl,LY a0 a1 a2 a3 a4 a5 a6 a7 a8 k hp0 1 n1 ys i hI⟩
   ·exact ⟨_, λ_ _ _=>by kernel_rfl,LY a0 a1 a2 a3 a4 a5 a6 a7 a8 k hp0 2 n1 ys i hI⟩
   ·exact ⟨_, λ_ _ _=>by kernel_rfl,LY a0 a1 a2 a3 a4 a5 a6 a7 a8 k hp0 3 n1 ys i hI⟩
   ·exact ⟨_, λ_ _ _=>by kernel_rfl,LY a0 a1 a2 a3 a4 a5 a6 a7 a8 k hp0 4 n1 ys i hI⟩
   ·exact ⟨_, λ_ _ _=>by kernel_rfl,LY a0 a1 a2 a3 a4 a5 a6 a7 a8 k hp0 5 n1 ys i hI⟩
   ·exact ⟨_, λ_ _ _=>by kernel_rfl,LY a0 a1 a2 a3 a4 a5 a6 a7 a8 k hp0 6 n1 ys i hI⟩
   ·exact ⟨_, λ_ _ _=>by kernel_rfl,LY a0 a1 a2 a3 a4 a5 a6 a7 a8 k hp0 7 n1 ys i hI⟩
   ·exact ⟨_, λ_ _ _=>by kernel_rfl,LY a0 a1 a2 a3 a4 a5 a6 a7 a8 k hp0 8 n1 ys i hI⟩),trivial⟩⟩
def T_r17_All:Tb:=(37,e_r17_All)::T_r12_Parts
theorem T_r17_All_ok:TOk T_r17_All:=tc_ r17_All_ok T_r12_Parts_ok
def r17_often (l:LI) (a:Int):Int:=oft l a
abbrev c_r17_often:Ct Sg:=⟨none,false,[.ro [some .i64], .i .i64], .i .i64⟩
def e_r17_often:Entry Sg:=entC c_r17_often r17_often (λ_ _=>[])
def r17_often_w (l:LI) (a:Int) (Q0:Int→Int→Prop) (R_:Int→Prop):Prop:=(Q0 (0) (0))
def r17_often_w0 (l:LI) (a n i:Int) (Q0:Int→Int→Prop) (R_:Int→Prop):Prop:=(bw_ (decide (i<(↑(iF l):Int))) (aw_ (0≤i∧i<(↑(iF l):Int)) (bw_ (iG l (iI i) 0==a) (Q0 (iA iB (n+1)) (iA iB (i+1))) (Q0 (n) (iA iB (i+1))))) (R_ (n)))
def r17_often_I0 (l:LI) (a n i r_:Int):Prop:=0≤i∧i≤l.length∧n=oft (l.take i.toNat) a∧r_=oft l a
abbrev r17_often_h0 (p0:Addr) (l:LI) (a:Int):Hd Sg:=⟨none,[0,1,0,1,1],[.blk 0, .code [1,1,1]],[0,1,5,6],[.roc [.ints .i64 (l)], .ic .i64 (a), .i .i64, .i .i64]⟩
theorem r17_often_begin (l:LI) (a:Int) (hl0:l.length≤9223372036854775807):r17_often_w l a (λn' i'=>r17_often_I0 l a n' i' (r17_often l a)) (λr__=>r__=(r17_often l a)):=by
 unfold r17_often_w
 try unfold r17_often_I0
 exact ⟨by omega,by omega,rfl,rfl⟩
theorem r17_often_step0 (l:LI) (a:Int) (hl0:l.length≤9223372036854775807) (n i:Int) {r_:Int} (hI:r17_often_I0 l a n i r_):r17_often_w0 l a n i (λn' i'=>r17_often_I0 l a n' i' r_∧lx ((l.length-i').toNat,0,0) ((l.length-i).toNat,0,0)) (λr__=>r__=r_):=by
 unfold r17_often_I0 at hI
 unfold r17_often_w0
 try unfold r17_often_I0
 obtain ⟨h0,h1,hn,hr⟩:=hI
 refine ⟨λhc=>?_, λhc=>?_⟩
 ·have hc:i<(l.length:Int):=of_decide_eq_true hc
  have hlt:i.toNat<l.length:=by omega
  have hle:oft (l.take i.toNat) a≤i:=by
   unfold oft
   have g1:=oL (· ==a) (l.take i.toNat)
   rw [mV] at g1;omega
  have hge:0≤oft (l.take i.toNat) a:=by unfold oft;omega
  have ht:oft (l.take (i+1).toNat) a=oft (l.take i.toNat) a+(bif l.getD i.toNat 0==a then 1 else 0):=by
   rw [toNat_succ h0,take_snocB hlt]
   unfold oft
   rw [mB,jL,mW]
   cases l.getD i.toNat 0==a<;>simp
  rw [w64 (n:=i+1) (by omega)]
  refine ⟨⟨h0,hc⟩, λ_=>⟨λhe=>?_, λhe=>?_⟩⟩
  ·rw [he,cond_true] at ht
   rw [w64 (n:=n+1) (by omega)]
   exact ⟨⟨by omega,by omega,by rw [ht,hn],hr⟩,lxo_⟩
  ·rw [he,cond_false] at ht
   exact ⟨⟨by omega,by omega,by rw [ht,hn,Int.add_zero],hr⟩,lxo_⟩
 ·have hc:¬i<(l.length:Int):=of_decide_eq_false hc
  rw [lH (by omega)] at hn
  show n=r_
  rw [hr,hn]
theorem r17_often_ok:EOk 38 e_r17_often:=
 ent_wp Dg T_r17_All_ok (I:=[411000000000,411000000001,411000000005,411000000006]) Tryz.func38 mix (B:=bodyOf Tryz.f38) (by kernel_rfl) rfl (by kernel_rfl) 400
  λp0 l a hb hp=>have hl0:l.length≤9223372036854775807:=hb.1;⟨[r17_often_h0 p0 l a], λj=>iG [appC (Hd.kd (r17_often_h0 p0 l a)) (λn' i'=>r17_often_I0 l a n' i' (r17_often l a))] j (λ_=>False), λj=>iG [appC (Hd.kd (r17_often_h0 p0 l a)) (λn' i'=>((l.length-i').toNat,0,0))] j (λ_=>(0,0,0)),by kernel_rfl,⟨_, λ_ _ _=>by kernel_rfl,r17_often_begin l a hl0⟩,⟨λn i hI=>⟨_, λ_ _ _=>by kernel_rfl,r17_often_step0 l a hl0 n i hI⟩,trivial⟩⟩
def T_r17_often:Tb:=(38,e_r17_often)::T_r17_All
theorem T_r17_often_ok:TOk T_r17_often:=tc_ r17_often_ok T_r17_All_ok
abbrev Qi (a0 a1 a2 a3 a4 a5 a6 a7 a8:LI) (kk:Int) (n1:Nat) (ks zs ss:LI) (n i:Int) (Q0:Nat→LI→LI→LI→Int→Int→Prop) (Q1:Nat→LI→LI→LI→Int→Int→Int→Prop) (Q2:Nat→LI→LI→LI→Int→Int→Nat→LI→Int→Prop) (R:Bool→Prop):Prop:=
 bw_ (decide (i<(a0.length:Int))) (aw_ (0≤i∧i<(a0.length:Int)) (aw_ (0≤kk∧kk<9) (bw_ (decide (((slR ((pkGet kk a0 a1 a2 a3 a4 a5 a6 a7 a8).getD i.toNat 0)).length:Int)>4)) (R false) (Q1 n1 ks zs ss n kk (iA .i64 (i+1))))))
  (∀r1:LI,r1=r17_All a0 a1 a2 a3 a4 a5 a6 a7 a8 kk→aw_ ((0≤kk∧kk≤8)∧a0.length≤1000∧lenB (pkGet kk a0 a1 a2 a3 a4 a5 a6 a7 a8) a0.length=true) (Q2 n1 ks zs ss (iA .i64 (n+(r1.length:Int))) kk r1.length r1 0))
def r17_Fits (t p h:Int) (xs a0 a1 a2 a3 a4 a5 a6 a7 a8:LI):Bool:=bif !soundA ⟨t,p,h⟩ xs||(a0.length:Int) !=t then false else fitOut h (partsL ⟨t,p,h⟩ xs) (λk=>pkGet k a0 a1 a2 a3 a4 a5 a6 a7 a8) a0.length 9 0
abbrev c_r17_Fits:Ct Sg:=⟨none,false,[.agg [.i .i64, .i .i64, .i .i64], .ro [some .u32], .ro [some .i16,some .i16,some .i16,some .i16,some .i16,some .i16,some .i16,some .i16,some .i16]], .b⟩
def e_r17_Fits:Entry Sg:=entC c_r17_Fits r17_Fits (λt p h xs a0 a1 a2 a3 a4 a5 a6 a7 a8=>[bdAll xs,a0.length≤1000])
def r17_Fits_w (t p h:Int) (xs a0 a1 a2 a3 a4 a5 a6 a7 a8:LI) (Q0:Nat→LI→LI→LI→Int→Int→Prop) (Q1:Nat→LI→LI→LI→Int→Int→Int→Prop) (Q2:Nat→LI→LI→LI→Int→Int→Nat→LI→Int→Prop) (R_:Bool→Prop):Prop:=(∀r1:Bool,r1=(r12_Sound t p h xs)→(aw_ (bdAll xs) (bw_ (!r1||(↑(lenC [kH a0,kH a1,kH a2,kH a3,kH a4,kH a5,kH a6,kH a7,kH a8]):Int) !=t) (R_ (false)) (∀r4:LI×LI×LI,r4=(r12_Parts t p h xs)→(aw_ (bdAll xs) (Q0 (iF r4.1) r4.1 r4.2.1 r4.2.2 (0) (0)))))))
def r17_Fits_w0 (t p h:Int) (xs a0 a1 a2 a3 a4 a5 a6 a7 a8:LI) (n1:Nat) (ks zs ss:LI) (n k:Int) (Q0:Nat→LI→LI→LI→Int→Int→Prop) (Q1:Nat→LI→LI→LI→Int→Int→Int→Prop) (Q2:Nat→LI→LI→LI→Int→Int→Nat→LI→Int→Prop) (R_:Bool→Prop):Prop:=(bw_ (decide (k<9)) (Q1 (n1) (ks) (zs) (ss) (n) (k) (0)) (R_ (n==0)))
def r17_Fits_I0 (t p h:Int) (xs a0 a1 a2 a3 a4 a5 a6 a7 a8:LI) (n1:Nat) (ks zs ss:LI) (n k:Int) (r_:Bool):Prop:=(n1=ks.length∧ks=(partsL ⟨t,p,h⟩ xs).map (·.k)∧zs=(partsL ⟨t,p,h⟩ xs).map (·.a)∧ss=(partsL ⟨t,p,h⟩ xs).map (·.s)∧(partsL ⟨t,p,h⟩ xs).length≤100000∧a0.length≤1000)∧0≤k∧k≤9∧r_=fitOut h (partsL ⟨t,p,h⟩ xs) (λk=>pkGet k a0 a1 a2 a3 a4 a5 a6 a7 a8) a0.length (9-k).toNat n
def r17_Fits_I1 (t p h:Int) (xs a0 a1 a2 a3 a4 a5 a6 a7 a8:LI) (n1:Nat) (ks zs ss:LI) (n k i:Int) (r_:Bool):Prop:=(n1=ks.length∧ks=(partsL ⟨t,p,h⟩ xs).map (·.k)∧zs=(partsL ⟨t,p,h⟩ xs).map (·.a)∧ss=(partsL ⟨t,p,h⟩ xs).map (·.s)∧(partsL ⟨t,p,h⟩ xs).length≤100000∧a0.length≤1000)∧0≤k∧k≤8∧0≤i∧i≤a0.length∧lenB ((λk=>pkGet k a0 a1 a2 a3 a4 a5 a6 a7 a8) k) i.toNat=true∧r_=fitOut h (partsL ⟨t,p,h⟩ xs) (λk=>pkGet k a0 a1 a2 a3 a4 a5 a6 a7 a8) a0.length (9-k).toNat n
def r17_Fits_w2 (t p h:Int) (xs a0 a1 a2 a3 a4 a5 a6 a7 a8:LI) (n1:Nat) (ks zs ss:LI) (n k:Int) (n2:Nat) (ys:LI) (i:Int) (Q0:Nat→LI→LI→LI→Int→Int→Prop) (Q1:Nat→LI→LI→LI→Int→Int→Int→Prop) (Q2:Nat→LI→LI→LI→Int→Int→Nat→LI→Int→Prop) (R_:Bool→Prop):Prop:=(bw_ (decide (i<(↑n1:Int))) (aw_ (0≤i∧i<(↑n1:Int)) (aw_ ((iG ks (iI i) (0:Int)==4)=true→0≤i∧i<(↑n1:Int)) (bw_ (iG ks (iI i) (0:Int)==4&&iG ss (iI i) 0==r05_Size h k) (aw_ (0≤i∧i<(↑n1:Int)) (∀r5:Int,r5=(r17_often ys (iG zs (iI i) 0))→(bw_ (r5 !=1) (R_ (false)) (Q2 (n1) (ks) (zs) (ss) (iA iB (n-1)) (k) (n2) (ys) (iA iB (i+1)))))) (Q2 (n1) (ks) (zs) (ss) (n) (k) (n2) (ys) (iA iB (i+1)))))) (Q0 (n1) (ks) (zs) (ss) (n) (iA iB (k+1))))
def r17_Fits_I2 (t p h:Int) (xs a0 a1 a2 a3 a4 a5 a6 a7 a8:LI) (n1:Nat) (ks zs ss:LI) (n k:Int) (n2:Nat) (ys:LI) (i:Int) (r_:Bool):Prop:=(n1=ks.length∧ks=(partsL ⟨t,p,h⟩ xs).map (·.k)∧zs=(partsL ⟨t,p,h⟩ xs).map (·.a)∧ss=(partsL ⟨t,p,h⟩ xs).map (·.s)∧(partsL ⟨t,p,h⟩ xs).length≤100000∧a0.length≤1000)∧0≤k∧k≤8∧n2=ys.length∧0≤i∧i≤n1∧r_=fitTl h (partsL ⟨t,p,h⟩ xs) (λk=>pkGet k a0 a1 a2 a3 a4 a5 a6 a7 a8) a0.length k ys ((partsL ⟨t,p,h⟩ xs).drop i.toNat) n
abbrev r17_Fits_h0 (p0:Addr) (t p h:Int) (xs a0 a1 a2 a3 a4 a5 a6 a7 a8:LI):Hd Sg:=⟨none,[0,1,0,1,1,1,1],[.blk 0, .code [1,1,1,1,1]],[2,3,7,8,9],[.roc [.sls (a0), .sls (a1), .sls (a2), .sls (a3), .sls (a4), .sls (a5), .sls (a6), .sls (a7), .sls (a8)], .box 23 [.ic .i64 (t), .ic .i64 (p), .ic .i64 (h)], .own 94 [some .i64,some .i64,some .i64], .i .i64, .i .i64]⟩
abbrev r17_Fits_h1 (p0:Addr) (t p h:Int) (xs a0 a1 a2 a3 a4 a5 a6 a7 a8:LI):Hd Sg:=⟨none,[0,1,0,0,0,1,0,0,1,0,1,1,1,1],[.blk 2, .code [1,0,0,1,0,0,1,0,1,1,1,1], .blk 1, .code [1,1,0,0,1,0,1,1,1,1], .again [0,1,0,1,1,1,1], .blk 0, .code [1,1,1,1,1]],[2,3,7,8,9,10],[.roc [.sls (a0), .sls (a1), .sls (a2), .sls (a3), .sls (a4), .sls (a5), .sls (a6), .sls (a7), .sls (a8)], .box 23 [.ic .i64 (t), .ic .i64 (p), .ic .i64 (h)], .own 94 [some .i64,some .i64,some .i64], .i .i64, .i .i64, .i .i64]⟩
abbrev r17_Fits_h2 (p0:Addr) (t p h:Int) (xs a0 a1 a2 a3 a4 a5 a6 a7 a8:LI):Hd Sg:=⟨none,[0,1,1,1,1,0,0,1,0,0,1,0,1,1,1,1],[.blk 4, .blk 1, .code [1,1,0,0,1,0,1,1,1,1], .again [0,1,0,1,1,1,1], .blk 0, .code [1,1,1,1,1]],[2,3,7,8,9,11,12],[.roc [.sls (a0), .sls (a1), .sls (a2), .sls (a3), .sls (a4), .sls (a5), .sls (a6), .sls (a7), .sls (a8)], .box 23 [.ic .i64 (t), .ic .i64 (p), .ic .i64 (h)], .own 94 [some .i64,some .i64,some .i64], .i .i64, .i .i64, .own 2 [some .i64], .i .i64]⟩
theorem r17_Fits_begin (t p h:Int) (xs a0 a1 a2 a3 a4 a5 a6 a7 a8:LI) (hp0:bdAll xs) (hp1:a0.length≤1000):r17_Fits_w t p h xs a0 a1 a2 a3 a4 a5 a6 a7 a8 (λn1' ks' zs' ss' n' k'=>r17_Fits_I0 t p h xs a0 a1 a2 a3 a4 a5 a6 a7 a8 n1' ks' zs' ss' n' k' (r17_Fits t p h xs a0 a1 a2 a3 a4 a5 a6 a7 a8)) (λn1' ks' zs' ss' n' k' i'=>r17_Fits_I1 t p h xs a0 a1 a2 a3 a4 a5 a6 a7 a8 n1' ks' zs' ss' n' k' i' (r17_Fits t p h xs a0 a1 a2 a3 a4 a5 a6 a7 a8)) (λn1' ks' zs' ss' n' k' n2' ys' i'=>r17_Fits_I2 t p h xs a0 a1 a2 a3 a4 a5 a6 a7 a8 n1' ks' zs' ss' n' k' n2' ys' i' (r17_Fits t p h xs a0 a1 a2 a3 a4 a5 a6 a7 a8)) (λr__=>r__=(r17_Fits t p h xs a0 a1 a2 a3 a4 a5 a6 a7 a8)):=by
 unfold r17_Fits_w
 try unfold r17_Fits_I0
 try unfold r17_Fits_I1
 try unfold r17_Fits_I2
 rintro r1 rfl
 refine ⟨hp0, λ_=>⟨λhc=>?_, λhc=>?_⟩⟩
 ·show false=r17_Fits t p h xs a0 a1 a2 a3 a4 a5 a6 a7 a8
  have hc:(!soundA ⟨t,p,h⟩ xs||(a0.length:Int) !=t)=true:=hc
  unfold r17_Fits
  rw [hc];rfl
 ·have hc:(!soundA ⟨t,p,h⟩ xs||(a0.length:Int) !=t)=false:=hc
  have hs:soundA ⟨t,p,h⟩ xs=true:=by
   simp only [jB,jZ] at hc;exact hc.1
  have hok:=(sound_good hs hp0).ok
  have hl:=partsL_len ⟨t,p,h⟩ xs
  have hp4:=(Cf.ok_iff.1 hok).2.1.2
  have e:r12_Parts t p h xs=((partsL ⟨t,p,h⟩ xs).map (·.k),(partsL ⟨t,p,h⟩ xs).map (·.a),(partsL ⟨t,p,h⟩ xs).map (·.s)):=by
   unfold r12_Parts;rw [hs];rfl
  rw [e]
  rintro r4 rfl
  refine ⟨hp0, λ_=>⟨⟨rfl,rfl,rfl,rfl,?_,hp1⟩,by omega,by omega,?_⟩⟩
  ·dsimp only at hl hp4;omega
  ·show r17_Fits t p h xs a0 a1 a2 a3 a4 a5 a6 a7 a8=_
   unfold r17_Fits
   rw [hc];rfl
theorem r17_Fits_step0 (t p h:Int) (xs a0 a1 a2 a3 a4 a5 a6 a7 a8:LI) (hp0:bdAll xs) (hp1:a0.length≤1000) (n1:Nat) (ks zs ss:LI) (n k:Int) {r_:Bool} (hI:r17_Fits_I0 t p h xs a0 a1 a2 a3 a4 a5 a6 a7 a8 n1 ks zs ss n k r_):r17_Fits_w0 t p h xs a0 a1 a2 a3 a4 a5 a6 a7 a8 n1 ks zs ss n k (λn1' ks' zs' ss' n' k'=>r17_Fits_I0 t p h xs a0 a1 a2 a3 a4 a5 a6 a7 a8 n1' ks' zs' ss' n' k' r_∧lx ((9-k').toNat,3,0) ((9-k).toNat,3,0)) (λn1' ks' zs' ss' n' k' i'=>r17_Fits_I1 t p h xs a0 a1 a2 a3 a4 a5 a6 a7 a8 n1' ks' zs' ss' n' k' i' r_∧lx ((9-k').toNat,2,(a0.length-i').toNat) ((9-k).toNat,3,0)) (λn1' ks' zs' ss' n' k' n2' ys' i'=>r17_Fits_I2 t p h xs a0 a1 a2 a3 a4 a5 a6 a7 a8 n1' ks' zs' ss' n' k' n2' ys' i' r_∧lx ((9-k').toNat,1,(n1'-i').toNat) ((9-k).toNat,3,0)) (λr__=>r__=r_):=by
 unfold r17_Fits_I0 at hI
 unfold r17_Fits_w0
 try unfold r17_Fits_I0
 try unfold r17_Fits_I1
 try unfold r17_Fits_I2
 obtain ⟨hb,h0,h1,hr⟩:=hI
 refine ⟨λhc=>?_, λhc=>?_⟩
 ·have hc:=of_decide_eq_true hc
  exact ⟨⟨hb,h0,by omega,by omega,by omega,rfl,hr⟩,lxo_⟩
 ·have hc:=of_decide_eq_false hc
  show (n==0)=r_
  rw [hr,show (9-k).toNat=0 by omega];rfl
theorem r17_Fits_cs1 (t p h:Int) (xs a0 a1 a2 a3 a4 a5 a6 a7 a8:LI) (hp0:bdAll xs) (hp1:a0.length≤1000) (n1:Nat) (ks zs ss:LI) (n k i:Int) {r_:Bool} (hI:r17_Fits_I1 t p h xs a0 a1 a2 a3 a4 a5 a6 a7 a8 n1 ks zs ss n k i r_):k=0∨k=1∨k=2∨k=3∨k=4∨k=5∨k=6∨k=7∨k=8:=by
 unfold r17_Fits_I1 at hI
 obtain ⟨_,h1,h2,_⟩:=hI
 omega
theorem LX (t p h:Int) (xs a0 a1 a2 a3 a4 a5 a6 a7 a8:LI) (hp0:bdAll xs) (hp1:a0.length≤1000) (n1:Nat) (ks zs ss:LI) (n k i:Int) {r_:Bool} (hI:r17_Fits_I1 t p h xs a0 a1 a2 a3 a4 a5 a6 a7 a8 n1 ks zs ss n k i r_):Qi a0 a1 a2 a3 a4 a5 a6 a7 a8 k n1 ks zs ss n i (λn1' ks' zs' ss' n' k'=>r17_Fits_I0 t p h xs a0 a1 a2 a3 a4 a5 a6 a7 a8 n1' ks' zs' ss' n' k' r_∧lx ((9-k').toNat,3,0) ((9-k).toNat,2,(a0.length-i).toNat)) (λn1' ks' zs' ss' n' k' i'=>r17_Fits_I1 t p h xs a0 a1 a2 a3 a4 a5 a6 a7 a8 n1' ks' zs' ss' n' k' i' r_∧lx ((9-k').toNat,2,(a0.length-i').toNat) ((9-k).toNat,2,(a0.length-i).toNat)) (λn1' ks' zs' ss' n' k' n2' ys' i'=>r17_Fits_I2 t p h xs a0 a1 a2 a3 a4 a5 a6 a7 a8 n1' ks' zs' ss' n' k' n2' ys' i' r_∧lx ((9-k').toNat,1,(n1'-i').toNat) ((9-k).toNat,2,(a0.length-i).toNat)) (λr__=>r__=r_):=by
 unfold r17_Fits_I1 at hI
 obtain ⟨hb,hk0,hk8,h0,h1,hl,hr⟩:=hI
 refine ⟨λhc=>?_, λhc=>?_⟩
 ·have hc:i<(a0.length:Int):=of_decide_eq_true hc
  have hlt:i.toNat<a0.length:=by omega
  have hb6:=hb.2.2.2.2.2
  rw [w64 (n:=i+1) (by omega)]
  refine ⟨⟨h0,hc⟩, λ_=>⟨⟨by omega,by omega⟩, λ_=>⟨λhg=>?_, λhg=>?_⟩⟩⟩
  ·have hg:((slR ((pkGet k a0 a1 a2 a3 a4 a5 a6 a7 a8).getD i.toNat 0)).length:Int)>4:=of_decide_eq_true hg
   show false=r_
   rw [hr,fitOut_step ⟨hk0,hk8⟩]
   cases hq:lenB ((λk=>pkGet k a0 a1 a2 a3 a4 a5 a6 a7 a8) k) a0.length with
   |false=>rfl
   |true=>
    have:(slR ((pkGet k a0 a1 a2 a3 a4 a5 a6 a7 a8).getD i.toNat 0)).length≤4:=lenB_all hq _ hlt
    omega
  ·have hg:¬((slR ((pkGet k a0 a1 a2 a3 a4 a5 a6 a7 a8).getD i.toNat 0)).length:Int)>4:=of_decide_eq_false hg
   refine ⟨⟨hb,hk0,hk8,by omega,by omega,?_,hr⟩,lxo_⟩
   rw [show (i+1).toNat=i.toNat+1 by omega]
   show (lenB ((λk=>pkGet k a0 a1 a2 a3 a4 a5 a6 a7 a8) k) i.toNat&&decide ((slR ((pkGet k a0 a1 a2 a3 a4 a5 a6 a7 a8).getD i.toNat 0)).length≤4))=true
   rw [hl,nT,decide_eq_true_eq];omega
 ·have hc:¬i<(a0.length:Int):=of_decide_eq_false hc
  rw [show i.toNat=a0.length by omega] at hl
  rintro r1 rfl
  refine ⟨⟨⟨hk0,hk8⟩,hb.2.2.2.2.2,hl⟩, λ_=>⟨⟨hb,hk0,hk8,rfl,by omega,by omega,?_⟩,lxo_⟩⟩
  rw [hr,fitOut_step ⟨hk0,hk8⟩,hl];rfl
theorem r17_Fits_step2 (t p h:Int) (xs a0 a1 a2 a3 a4 a5 a6 a7 a8:LI) (hp0:bdAll xs) (hp1:a0.length≤1000) (n1:Nat) (ks zs ss:LI) (n k:Int) (n2:Nat) (ys:LI) (i:Int) {r_:Bool} (hI:r17_Fits_I2 t p h xs a0 a1 a2 a3 a4 a5 a6 a7 a8 n1 ks zs ss n k n2 ys i r_):r17_Fits_w2 t p h xs a0 a1 a2 a3 a4 a5 a6 a7 a8 n1 ks zs ss n k n2 ys i (λn1' ks' zs' ss' n' k'=>r17_Fits_I0 t p h xs a0 a1 a2 a3 a4 a5 a6 a7 a8 n1' ks' zs' ss' n' k' r_∧lx ((9-k').toNat,3,0) ((9-k).toNat,1,(n1-i).toNat)) (λn1' ks' zs' ss' n' k' i'=>r17_Fits_I1 t p h xs a0 a1 a2 a3 a4 a5 a6 a7 a8 n1' ks' zs' ss' n' k' i' r_∧lx ((9-k').toNat,2,(a0.length-i').toNat) ((9-k).toNat,1,(n1-i).toNat)) (λn1' ks' zs' ss' n' k' n2' ys' i'=>r17_Fits_I2 t p h xs a0 a1 a2 a3 a4 a5 a6 a7 a8 n1' ks' zs' ss' n' k' n2' ys' i' r_∧lx ((9-k').toNat,1,(n1'-i').toNat) ((9-k).toNat,1,(n1-i).toNat)) (λr__=>r__=r_):=by
 unfold r17_Fits_I2 at hI
 unfold r17_Fits_w2
 try unfold r17_Fits_I0
 try unfold r17_Fits_I1
 try unfold r17_Fits_I2
 obtain ⟨hb,hk0,hk1,hn2,h0,h1,hr⟩:=hI
 obtain ⟨b1,b2,b3,b4,b5,b6⟩:=hb
 have bl:n1=(partsL ⟨t,p,h⟩ xs).length:=by rw [b1,b2,kG]
 refine ⟨λhc=>?_, λhc=>?_⟩
 ·have hc:=of_decide_eq_true hc
  have hi:0≤i∧i<(n1:Int):=⟨h0,hc⟩
  obtain ⟨x,e1,e2,e3,e4⟩:=pt_drop (L:=(partsL ⟨t,p,h⟩ xs)) (i:=i.toNat) (by omega)
  rw [e1,fitTl_cons] at hr
  have es:(i+1).toNat=i.toNat+1:=by omega
  rw [w64 (n:=i+1) (by omega)]
  rw [b2,b3,b4,e2,e3,e4]
  refine ⟨hi, λ_=>⟨λ_=>hi, λ_=>⟨λhg=>?_, λhg=>?_⟩⟩⟩
  ·rw [show idP (r05_Size h k) x=true from hg,cond_true] at hr
   refine ⟨hi, λ_=>?_⟩
   rintro r5 rfl
   refine ⟨λhq=>?_, λhq=>?_⟩
   ·have hq:(oft ys x.a==1)=false:=by
     have hq:(oft ys x.a !=1)=true:=hq
     simpa [bne] using hq
    rw [hq] at hr
    exact hr.symm
   ·have hq:(oft ys x.a==1)=true:=by
     have hq:(oft ys x.a !=1)=false:=hq
     simpa [bne] using hq
    rw [hq,cond_true] at hr
    exact ⟨⟨⟨by rw [bl,kG],rfl,rfl,rfl,b5,b6⟩,hk0,hk1,hn2,by omega,by omega,by rw [es];exact hr⟩,lxo_⟩
  ·rw [show idP (r05_Size h k) x=false from hg,cond_false] at hr
   exact ⟨⟨⟨by rw [bl,kG],rfl,rfl,rfl,b5,b6⟩,hk0,hk1,hn2,by omega,by omega,by rw [es];exact hr⟩,lxo_⟩
 ·have hc:=of_decide_eq_false hc
  rw [w64 (n:=k+1) (by omega)]
  rw [List.drop_eq_nil_of_le (by omega)] at hr
  refine ⟨⟨⟨b1,b2,b3,b4,b5,b6⟩,by omega,by omega,?_⟩,lxo_⟩
  rw [hr,show (9-(k+1)).toNat=(8-k).toNat by omega];rfl
theorem r17_Fits_ok:EOk 14 e_r17_Fits:=
 ent_wp Dg T_r17_often_ok (I:=[2999998,6571000000002,6571000000003,6571000000007,6571000000008,6571000000009,194000000002,194000000003,194000000007,194000000008,194000000009,194000000010,9540000000002,9540000000003,9540000000007,9540000000008,9540000000009,9540000000011,9540000000012]) Tryz.func14 mix (B:=bodyOf Tryz.f14) (by kernel_rfl) rfl (by kernel_rfl) 400
  λp0 t p h xs a0 a1 a2 a3 a4 a5 a6 a7 a8 hb hp=>have hp0:bdAll xs:=hp _ (.head _);have hp1:a0.length≤1000:=hp _ (.tail _ (.head _));⟨[r17_Fits_h0 p0 t p h xs a0 a1 a2 a3 a4 a5 a6 a7 a8,r17_Fits_h1 p0 t p h xs a0 a1 a2 a3 a4 a5 a6 a7 a8,r17_Fits_h2 p0 t p h xs a0 a1 a2 a3 a4 a5 a6 a7 a8], λj=>iG [appC (Hd.kd (r17_Fits_h0 p0 t p h xs a0 a1 a2 a3 a4 a5 a6 a7 a8)) (λn1' ks' zs' ss' n' k'=>r17_Fits_I0 t p h xs a0 a1 a2 a3 a4 a5 a6 a7 a8 n1' ks' zs' ss' n' k' (r17_Fits t p h xs a0 a1 a2 a3 a4 a5 a6 a7 a8)),appC (Hd.kd (r17_Fits_h1 p0 t p h xs a0 a1 a2 a3 a4 a5 a6 a7 a8)) (λn1' ks' zs' ss' n' k' i'=>r17_Fits_I1 t p h xs a0 a1 a2 a3 a4 a5 a6 a7 a8 n1' ks' zs' ss' n' k' i' (r17_Fits t p h xs a0 a1 a2 a3 a4 a5 a6 a7 a8)),appC (Hd.kd (r17_Fits_h2 p0 t p h xs a0 a1 a2 a3 a4 a5 a6 a7 a8)) (λn1' ks' zs' ss' n' k' n2' ys' i'=>r17_Fits_I2 t p h xs a0 a1 a2 a3 a4 a5 a6 a7 a8 n1' ks' zs' ss' n' k' n2' ys' i' (r17_Fits t p h xs a0 a1 a2 a3 a4 a5 a6 a7 a8))] j (λ_=>False), λj=>iG [appC (Hd.kd (r17_Fits_h0 p0 t p h xs a0 a1 a2 a3 a4 a5 a6 a7 a8)) (λn1' ks' zs' ss' n' k'=>((9-k').toNat,3,0)),appC (Hd.kd (r17_Fits_h1 p0 t p h xs a0 a1 a2 a3 a4 a5 a6 a7 a8)) (λn1' ks' zs' ss' n' k' i'=>((9-k').toNat,2,(a0.length-i').toNat)),appC (Hd.kd (r17_Fits_h2 p0 t p h xs a0 a1 a2 a3 a4 a5 a6 a7 a8)) (λn1' ks' zs' ss' n' k' n2' ys' i'=>((9-k').toNat,1,(n1'-i').toNat))] j (λ_=>(0,0,0)),by kernel_rfl,⟨_, λ_ _ _=>by kernel_rfl,r17_Fits_begin t p h xs a0 a1 a2 a3 a4 a5 a6 a7 a8 hp0 hp1⟩,⟨λn1 ks zs ss n k hI=>⟨_, λ_ _ _=>by kernel_rfl,r17_Fits_step0 t p h xs a0 a1 a2 a3 a4 a5 a6 a7 a8 hp0 hp1 n1 ks zs ss n k hI⟩,⟨λn1 ks zs ss n k i hI=>(by
   rcases r17_Fits_cs1 t p h xs a0 a1 a2 a3 a4 a5 a6 a7 a8 hp0 hp1 n1 ks zs ss n k i hI with rfl|rfl|rfl|rfl|rfl|rfl|rfl|rfl|rfl
   ·exact ⟨_, λ_ _ _=>by kernel_rfl,LX t p h xs a0 a1 a2 a3 a4 a5 a6 a7 a8 hp0 hp1 n1 ks zs ss n 0 i hI⟩
   ·exact ⟨_, λ_ _ _=>by kernel_rfl,LX t p h xs a0 a1 a2 a3 a4 a5 a6 a7 a8 hp0 hp1 n1 ks zs ss n 1 i hI⟩
   ·exact ⟨_, λ_ _ _=>by kernel_rfl,LX t p h xs a0 a1 a2 a3 a4 a5 a6 a7 a8 hp0 hp1 n1 ks zs ss n 2 i hI⟩
   ·exact ⟨_, λ_ _ _=>by kernel_rfl,LX t p h xs a0 a1 a2 a3 a4 a5 a6 a7 a8 hp0 hp1 n1 ks zs ss n 3 i hI⟩
   ·exact ⟨_, λ_ _ _=>by kernel_rfl,LX t p h xs a0 a1 a2 a3 a4 a5 a6 a7 a8 hp0 hp1 n1 ks zs ss n 4 i hI⟩
   ·exact ⟨_, λ_ _ _=>by kernel_rfl,LX t p h xs a0 a1 a2 a3 a4 a5 a6 a7 a8 hp0 hp1 n1 ks zs ss n 5 i hI⟩
   ·exact ⟨_, λ_ _ _=>by kernel_rfl,LX t p h xs a0 a1 a2 a3 a4 a5 a6 a7 a8 hp0 hp1 n1 ks zs ss n 6 i hI⟩
   ·exact ⟨_, λ_ _ _=>by kernel_rfl,LX t p h xs a0 a1 a2 a3 a4 a5 a6 a7 a8 hp0 hp1 n1 ks zs ss n 7 i hI⟩
   ·exact ⟨_, λ_ _ _=>by kernel_rfl,LX t p h xs a0 a1 a2 a3 a4 a5 a6 a7 a8 hp0 hp1 n1 ks zs ss n 8 i hI⟩),⟨λn1 ks zs ss n k n2 ys i hI=>⟨_, λ_ _ _=>by kernel_rfl,r17_Fits_step2 t p h xs a0 a1 a2 a3 a4 a5 a6 a7 a8 hp0 hp1 n1 ks zs ss n k n2 ys i hI⟩,trivial⟩⟩⟩⟩
def T_r17_Fits:Tb:=(14,e_r17_Fits)::T_r17_often
theorem T_r17_Fits_ok:TOk T_r17_Fits:=tc_ r17_Fits_ok T_r17_often_ok
def r17_Same (x0 x1 x2 x3 x4 x5 x6 x7 x8 y0 y1 y2 y3 y4 y5 y6 y7 y8:LI):Bool:=(x0==y0)&&(x1==y1)&&(x2==y2)&&(x3==y3)&&(x4==y4)&&(x5==y5)&&(x6==y6)&&(x7==y7)&&(x8==y8)
abbrev c_r17_Same:Ct Sg:=⟨none,false,[.agg [.ro [some .i8], .ro [some .i8], .ro [some .i8], .ro [some .i8], .ro [some .i8], .ro [some .i8], .ro [some .i8], .ro [some .i8], .ro [some .i8]], .agg [.ro [some .i8], .ro [some .i8], .ro [some .i8], .ro [some .i8], .ro [some .i8], .ro [some .i8], .ro [some .i8], .ro [some .i8], .ro [some .i8]]], .b⟩
def e_r17_Same:Entry Sg:=entC c_r17_Same r17_Same (λ_ _ _ _ _ _ _ _ _ _ _ _ _ _ _ _ _ _=>[])
def r17_Same_w (x0 x1 x2 x3 x4 x5 x6 x7 x8 y0 y1 y2 y3 y4 y5 y6 y7 y8:LI) (R_:Bool→Prop):Prop:=(aw_ ((0:Int)≤0∧(0:Int)<9) (aw_ ((0:Int)≤0∧(0:Int)<9) (bw_ (!r01_Longs x0 y0) (R_ (false)) (aw_ ((0:Int)≤1∧(1:Int)<9) (aw_ ((0:Int)≤1∧(1:Int)<9) (bw_ (!r01_Longs x1 y1) (R_ (false)) (aw_ ((0:Int)≤2∧(2:Int)<9) (aw_ ((0:Int)≤2∧(2:Int)<9) (bw_ (!r01_Longs x2 y2) (R_ (false)) (aw_ ((0:Int)≤3∧(3:Int)<9) (aw_ ((0:Int)≤3∧(3:Int)<9) (bw_ (!r01_Longs x3 y3) (R_ (false)) (aw_ ((0:Int)≤4∧(4:Int)<9) (aw_ ((0:Int)≤4∧(4:Int)<9) (bw_ (!r01_Longs x4 y4) (R_ (false)) (aw_ ((0:Int)≤5∧(5:Int)<9) (aw_ ((0:Int)≤5∧(5:Int)<9) (bw_ (!r01_Longs x5 y5) (R_ (false)) (aw_ ((0:Int)≤6∧(6:Int)<9) (aw_ ((0:Int)≤6∧(6:Int)<9) (bw_ (!r01_Longs x6 y6) (R_ (false)) (aw_ ((0:Int)≤7∧(7:Int)<9) (aw_ ((0:Int)≤7∧(7:Int)<9) (bw_ (!r01_Longs x7 y7) (R_ (false)) (aw_ ((0:Int)≤8∧(8:Int)<9) (aw_ ((0:Int)≤8∧(8:Int)<9) (bw_ (!r01_Longs x8 y8) (R_ (false)) (R_ (true)))))))))))))))))))))))))))))
theorem r17_Same_begin (x0 x1 x2 x3 x4 x5 x6 x7 x8 y0 y1 y2 y3 y4 y5 y6 y7 y8:LI):r17_Same_w x0 x1 x2 x3 x4 x5 x6 x7 x8 y0 y1 y2 y3 y4 y5 y6 y7 y8 (λr__=>r__=(r17_Same x0 x1 x2 x3 x4 x5 x6 x7 x8 y0 y1 y2 y3 y4 y5 y6 y7 y8)):=by
 unfold r17_Same_w
 have L:∀x y:LI,r01_Longs x y=(x==y):= λ_ _=>rfl
 simp only [L]
 repeat' first
  |refine ⟨by decide, λ_=>?_⟩
  |refine ⟨λhc=>?_, λhc=>?_⟩
  |fail
 all_goals
  first
  |show false=r17_Same x0 x1 x2 x3 x4 x5 x6 x7 x8 y0 y1 y2 y3 y4 y5 y6 y7 y8
  |show true=r17_Same x0 x1 x2 x3 x4 x5 x6 x7 x8 y0 y1 y2 y3 y4 y5 y6 y7 y8
 all_goals
  unfold r17_Same
  simp only [jP,jZ] at*
  simp [*]
theorem r17_Same_ok:EOk 11 e_r17_Same:=
 ent_w0 Dg T_r17_Fits_ok (I:=[2999999]) Tryz.func11 mix (B:=bodyOf Tryz.f11) (by kernel_rfl) rfl (by kernel_rfl) 400
  λ_ x0 x1 x2 x3 x4 x5 x6 x7 x8 y0 y1 y2 y3 y4 y5 y6 y7 y8 hb hp=>⟨_, λ_ _ _=>by kernel_rfl,r17_Same_begin x0 x1 x2 x3 x4 x5 x6 x7 x8 y0 y1 y2 y3 y4 y5 y6 y7 y8⟩
def T_r17_Same:Tb:=(11,e_r17_Same)::T_r17_Fits
theorem T_r17_Same_ok:TOk T_r17_Same:=tc_ r17_Same_ok T_r17_Fits_ok
def r01_LongsI (l m:LI):Bool:=l==m
abbrev c_r01_LongsI:Ct Sg:=⟨none,false,[.ro [some .i8], .ro [some .i64]], .b⟩
def e_r01_LongsI:Entry Sg:=entC c_r01_LongsI r01_LongsI (λ_ _=>[])
def r01_LongsI_w (l m:LI) (Q0:Int→Prop) (R_:Bool→Prop):Prop:=(bw_ ((↑(lenC [iT l]):Int) !=(↑(iF m):Int)) (R_ (false)) (Q0 (0)))
def r01_LongsI_w0 (l m:LI) (i:Int) (Q0:Int→Prop) (R_:Bool→Prop):Prop:=(bw_ (decide (i<(↑(lenC [iT l]):Int))) (aw_ (0≤i∧i<(↑(lenC [iT l]):Int)) (aw_ (0≤i∧i<(↑(iF m):Int)) (bw_ (iG l (iI i) 0 !=iG m (iI i) 0) (R_ (false)) (Q0 (iA iB (i+1)))))) (R_ (true)))
def r01_LongsI_I0 (l m:LI) (i:Int) (r_:Bool):Prop:=0≤i∧i≤l.length∧l.length=m.length∧l.take i.toNat=m.take i.toNat∧r_=r01_LongsI l m
abbrev r01_LongsI_h0 (p0:Addr) (l m:LI):Hd Sg:=⟨none,[0,1,0,1,1],[.blk 0, .code [1,1,1]],[5,0,1],[.i .i64, .roc [.fz (l)], .roc [.ints .i64 (m)]]⟩
theorem r01_LongsI_begin (l m:LI) (hl0:l.length≤9223372036854775807) (hl1:m.length≤9223372036854775807):r01_LongsI_w l m (λi'=>r01_LongsI_I0 l m i' (r01_LongsI l m)) (λr__=>r__=(r01_LongsI l m)):=by
 unfold r01_LongsI_w
 try unfold r01_LongsI_I0
 refine ⟨λhc=>?_, λhc=>?_⟩
 ·show false=r01_LongsI l m
  unfold r01_LongsI
  symm
  rw [beq_eq_false_iff_ne]
  rintro rfl
  simp at hc
  exact hc rfl
 ·have hc:((l.length:Nat):Int)=((m.length:Nat):Int):=bne_eq_false_iff_eq.1 hc
  exact ⟨by omega,by omega,by omega,rfl,rfl⟩
theorem r01_LongsI_step0 (l m:LI) (hl0:l.length≤9223372036854775807) (hl1:m.length≤9223372036854775807) (i:Int) {r_:Bool} (hI:r01_LongsI_I0 l m i r_):r01_LongsI_w0 l m i (λi'=>r01_LongsI_I0 l m i' r_∧lx ((l.length-i').toNat,0,0) ((l.length-i).toNat,0,0)) (λr__=>r__=r_):=by
 unfold r01_LongsI_I0 at hI
 unfold r01_LongsI_w0
 try unfold r01_LongsI_I0
 obtain ⟨h0,h1,h2,h3,hr⟩:=hI
 refine ⟨λhc=>?_, λhc=>?_⟩
 ·simp only [decide_eq_true_eq] at hc
  have hc:i<l.length:=hc
  have hm:i<m.length:=by omega
  rw [w64 (n:=i+1) (by omega)]
  refine ⟨⟨h0,hc⟩, λ_=>⟨⟨h0,hm⟩, λ_=>⟨λhq=>?_, λhq=>?_⟩⟩⟩
  ·show false=r_
   rw [hr]
   unfold r01_LongsI
   symm
   rw [beq_eq_false_iff_ne]
   rintro rfl
   simp at hq
  ·have hq:l.getD i.toNat 0=m.getD i.toNat 0:=by simpa using hq
   refine ⟨⟨by omega,by omega,h2,?_,hr⟩,lxo_⟩
   rw [toNat_succ h0,take_snocB (by omega),take_snocB (by omega),h3,hq]
 ·simp only [decide_eq_false_iff_not] at hc
  have hc:¬i<l.length:=hc
  show true=r_
  have e:i.toNat=l.length:=by omega
  rw [e] at h3
  have:=take_eq_all h2 h3
  subst this
  rw [hr];unfold r01_LongsI;simp
theorem r01_LongsI_ok:EOk 23 e_r01_LongsI:=
 ent_wp Dg T_r17_Same_ok (I:=[411000000005,411000000000,411000000001]) Tryz.func23 mix (B:=bodyOf Tryz.f23) (by kernel_rfl) rfl (by kernel_rfl) 400
  λp0 l m hb hp=>have hl0:l.length≤9223372036854775807:=hb.1;have hl1:m.length≤9223372036854775807:=hb.2.1;⟨[r01_LongsI_h0 p0 l m], λj=>iG [appC (Hd.kd (r01_LongsI_h0 p0 l m)) (λi'=>r01_LongsI_I0 l m i' (r01_LongsI l m))] j (λ_=>False), λj=>iG [appC (Hd.kd (r01_LongsI_h0 p0 l m)) (λi'=>((l.length-i').toNat,0,0))] j (λ_=>(0,0,0)),by kernel_rfl,⟨_, λ_ _ _=>by kernel_rfl,r01_LongsI_begin l m hl0 hl1⟩,⟨λi hI=>⟨_, λ_ _ _=>by kernel_rfl,r01_LongsI_step0 l m hl0 hl1 i hI⟩,trivial⟩⟩
def T_r01_LongsI:Tb:=(23,e_r01_LongsI)::T_r17_Same
theorem T_r01_LongsI_ok:TOk T_r01_LongsI:=tc_ r01_LongsI_ok T_r17_Same_ok
def e_lg:Entry Sg:= λargs=>match e_r01_LongsI args with
 |some d=>some d
 |none=>e_r01_Longs args
theorem e_lg_ok:EOk 23 e_lg:=by
 intro args c r h hr
 unfold e_lg at h
 split at h
 ·rename_i d hd
  exact r01_LongsI_ok args c r (by rw [hd];exact h) hr
 ·exact r01_Longs_ok args c r h hr
def e_al:Entry Sg:= λargs=>match args with
 |[v,c,(x,i),k]=>match i with
  | .none=>(match x with
    | .agg ⟨[.slice none 0 0, .slice none 0 0, .slice none 0 0, .slice none 0 0, .slice none 0 0, .slice none 0 0, .slice none 0 0, .slice none 0 0, .slice none 0 0]⟩=>e_small_Alloc [v,c,(.agg ⟨[.slice none 0 0, .slice none 0 0, .slice none 0 0, .slice none 0 0, .slice none 0 0, .slice none 0 0, .slice none 0 0, .slice none 0 0, .slice none 0 0]⟩, .many [.row 0 [.fz []], .row 0 [.fz []], .row 0 [.fz []], .row 0 [.fz []], .row 0 [.fz []], .row 0 [.fz []], .row 0 [.fz []], .row 0 [.fz []], .row 0 [.fz []]]),k]
    |_=>e_small_Alloc args)
  | .many is=>(match is with
    |[.none, .none, .none, .none, .none, .none, .none, .none, .none]=>(match x with
     | .agg ⟨[.slice none 0 0, .slice none 0 0, .slice none 0 0, .slice none 0 0, .slice none 0 0, .slice none 0 0, .slice none 0 0, .slice none 0 0, .slice none 0 0]⟩=>e_small_Alloc [v,c,(.agg ⟨[.slice none 0 0, .slice none 0 0, .slice none 0 0, .slice none 0 0, .slice none 0 0, .slice none 0 0, .slice none 0 0, .slice none 0 0, .slice none 0 0]⟩, .many [.row 0 [.fz []], .row 0 [.fz []], .row 0 [.fz []], .row 0 [.fz []], .row 0 [.fz []], .row 0 [.fz []], .row 0 [.fz []], .row 0 [.fz []], .row 0 [.fz []]]),k]
     |_=>e_small_Alloc args)
    |_=>e_small_Alloc args)
  |_=>e_small_Alloc args
 |_=>e_small_Alloc args
theorem nil_row (G Y:Hp):iOk G Y (.slice none 0 0) (.row 0 [.fz []]:Info Sg):=by
 have h:∀Z:Hp,RowAt Z none 0 [.fz []]:= λZ=>⟨λc hc=>by rw [iY] at hc;subst hc;rfl, λi hi=>by omega,oG _⟩
 exact ⟨none,0,rfl,h G,kA _, λ_=>⟨h Y, λc _ i hi=>by omega⟩⟩
theorem e_al_ok:EOk 9 e_al:=by
 intro args c r h hr
 unfold e_al at h
 repeat' split at h
 all_goals first
  |exact small_Alloc_ok _ c r h hr
  |(have h1:=small_Alloc_ok _ c r h hr
    refine ⟨h1.1, λhp E G w hi hS=>?_⟩
    have h2:=h1.2 hp E G w (λx hx=>?_) (by simpa [objAs,objOf,objsOf,objsV,objsV.go] using hS)
    ·simpa [newAs,objOf,objsOf,objsV,objsV.go] using h2
    ·simp only [iH,kM,or_false] at hx
     rcases hx with rfl|rfl|rfl|rfl
     ·exact hi _ (by simp)
     ·exact hi _ (by simp)
     ·exact ⟨nil_row _ _,nil_row _ _,nil_row _ _,nil_row _ _,nil_row _ _,nil_row _ _,nil_row _ _,nil_row _ _,nil_row _ _,trivial⟩
     ·exact hi _ (by simp))
def T_ad:Tb:=(23,e_lg)::(9,e_al)::T_r01_LongsI
theorem T_ad_ok:TOk T_ad:=tc_ e_lg_ok (tc_ e_al_ok T_r01_LongsI_ok)
end
end Go.Proofs.YtinpgnomkmmfdaaGreat
namespace Go.Sl
section
open Go.RowKit
variable {σ:Type} (D:Addr→σ→Asn)
theorem add_block (a:Addr) (n:Nat):(a.add n).block=a.block:=by unfold Addr.add;split<;>rfl
theorem cellOf_block {h h':Hp} {a:Addr} (e:h' a.block=h a.block):cellOf h' a=cellOf h a:=by unfold cellOf;rw [e]
theorem RowAt.block {h h':Hp} {b n:Nat} {cols:List Col} (H:RowAt h (some ⟨b,0,none⟩) n cols) (e:h' b=h b):RowAt h' (some ⟨b,0,none⟩) n cols:=by
 refine ⟨H.1, λi hi=>?_,H.2.2⟩
 obtain ⟨q,hq,hc⟩:=H.2.1 i hi
 injection hq with hq;subst hq
 exact ⟨_,rfl, λj c hj=>by rw [cellOf_block (h:=h) (h':=h') (by rw [add_block];exact e)];exact hc j c hj⟩
theorem RowAt.cols {h:Hp} {a:Option Addr} {n:Nat} {cols cols':List Col} (H:RowAt h a n cols) (hl:cols'.length=cols.length) (h1:∀c∈cols',c.len=n) (h2:∀(j:Nat) c c',cols[j]? =some c→cols'[j]? =some c'→∀r,r<n→c'.at r=c.at r):RowAt h a n cols':=by
 refine ⟨h1, λi hi=>?_,H.2.2⟩
 obtain ⟨q,hq,hc⟩:=H.2.1 i hi
 refine ⟨q,hq, λj c' hj=>?_⟩
 have hjl:j<cols.length:=by rw [←hl];exact lt_of_get hj
 rw [hl,hc j cols[j] (iM hjl),h2 j _ c' (iM hjl) hj i hi]
def frozenAt (Y:Hp) (K:List (Chunk σ)):Prop:=∀(j:Nat) a n cap cols,K[j]? =some (.ro a n cap cols)→fzB cols=true→RowAt Y a n cols∧n≤cap∧subs Y n cols
theorem SatK.frozen {E:Ev} {G:Hp} {w:World} {K:List (Chunk σ)} {Z:Hp} (h0:Sat0 E.w (G.or Z) w ((K.map (den D G)).map (upZ Z))):∀Y,Z.le Y→frozenAt Y K:= λY hY j a n cap cols hj hf=>by
 obtain ⟨_,_,o,_,h4⟩:=h0
 have h5:=h4 j _ (map_get (map_get hj)) Y hY
 have h6:RowAt (bif fzB cols then Y else G) a n cols∧n≤cap∧subs Y n cols:=h5
 rw [hf,cond_true] at h6
 exact h6
theorem SatK.freezeSl {E:Ev} {G:Hp} {w:World} {K:List (Chunk σ)} (h:SatK D E G w K) {i:Nat} {ra:Option Nat} {t:TypeId} {n cap:Nat} {cols cols':List Col} (hi:K[i]? =some (.row ra t n cap cols)) (hn:0<n) (hf:fzB cols'=true)
 (hl:cols'.length=cols.length) (h1:∀c∈cols',c.len=n) (h2:∀(j:Nat) c c',cols[j]? =some c→cols'[j]? =some c'→∀r,r<n→c'.at r=c.at r) (h3:∀Y,frozenAt Y K→subs Y n cols'):
 ∃b,ra=some b∧SatK D E G w (K.set i (.ro (some ⟨b,0,none⟩) n cap cols')):=by
 cases ra with
 |none=>
  obtain ⟨Z,_,_,_,_,o,_,h4⟩:=h
  have h5:den D G (.row none t n cap cols) Z _:=h4 i _ (map_get (map_get hi)) Z (Hp.le_refl Z)
  have:=h5.2.2.1
  omega
 |some b=>
  refine ⟨b,rfl,?_⟩
  have hK:∀Z,Sat0 E.w (G.or Z) w ((K.map (den D G)).map (upZ Z))→∀Y,Z.le Y→subs Y n cols':= λZ h0 Y hY=>h3 Y (SatK.frozen D h0 Y hY)
  have hs:∃S:Hp→Prop,(∀Y Y',Y.le Y'→S Y→S Y')∧(∀Y,S Y→subs Y n cols')∧∃Z,Zok E G Z∧Z.sub w∧Sat0 E.w (G.or Z) w ((K.map (den D G)).map (upZ Z))∧S Z:=by
   obtain ⟨Z,hz,hw,h0⟩:=h
   exact ⟨λY=>Z.le Y, λY Y' a b=>b.trans a, λY hY=>hK Z h0 Y hY,Z,hz,hw,h0,Hp.le_refl Z⟩
  obtain ⟨S,hS1,hS2,Z,hz,hw,h0,hSZ⟩:=hs
  have hA:Sat ⟨E.w,Z⟩ G w (K.map (den D G)):=⟨Z,⟨Hp.le_refl Z, λc hc=> .inr hc⟩,hw,h0⟩
  have hB:=Sat.freeze hA (i:=i) (b:=b) (A:=den D G (.row (some b) t n cap cols)) (A':= λY' _=>RowAt Y' (some ⟨b,0,none⟩) n cols∧n≤cap) (map_get hi) λY k hk=>by
   have hr:=den_row D hk
   have hc:=den_cap D hk
   obtain ⟨_,_,cs,h4,_⟩:=hk
   exact ⟨_,h4, λY' k' hy=>⟨RowAt.block hr (by rw [hy,h4]),hc⟩⟩
  obtain ⟨Z',hz',hw',h0'⟩:=hB
  refine ⟨Z',⟨hz.low.trans hz'.low, λc hc=>(hz'.new c hc).elim .inl λhq=>hz.new c hq⟩,hw',?_⟩
  refine h0'.imp λj B hj=>?_
  obtain ⟨C,h4,rfl⟩:=get_map hj
  rw [iR] at h4
  by_cases hij:i=j
  ·subst hij
   rw [iX (lt_of_get hi)] at h4
   injection h4 with h4;subst h4
   refine ⟨_,map_get (by rw [iX (by rw [kG];exact lt_of_get hi)]), λk hk Y hY=>?_⟩
   obtain ⟨h5,h6⟩:=hk Y hY
   show RowAt (bif fzB cols' then Y else G) _ n cols'∧n≤cap∧subs Y n cols'
   rw [hf,cond_true]
   exact ⟨h5.cols hl h1 h2,h6,hS2 Y (hS1 Z Y (hz'.low.trans hY) hSZ)⟩
  ·rw [jE hij] at h4
   refine ⟨_,map_get (by rw [jE hij,iR];exact h4), λk hk=>hk⟩
theorem Qe (a:Option Addr) (c:Nat) (x:LI):MG (slE a c x)= .slice a x.length c:=by unfold MG;rw [slA_E,slR_E,slC_E]
theorem MJ {xs:LI} {T r:Nat} {a:Option Addr} {c:Nat} {x:LI} (h:r<xs.length):(kH (xs.set T (slE a c x))).at r=(qJ (([]++xs.map MG).set T (.slice a x.length c))).at r:=by
 show MG ((xs.set T (slE a c x)).getD r 0)=(([]++xs.map MG).set T (.slice a x.length c)).getD r undef
 rw [mT,←Qe a c x,←kX,iD,iD,iR,iM (by rw [mU];exact h)];rfl
theorem MK {Y:Hp} {xs:LI} {T i:Nat} {a:Option Addr} {c:Nat} {x:LI} (h1:(kH xs).sub Y i) (h2:RowAt Y a x.length [.fz x]∧x.length≤c) (hT:T<xs.length):(kH (xs.set T (slE a c x))).sub Y i:=by
 by_cases e:T=i
 ·subst e
  show RowAt Y (slA ((xs.set T (slE a c x)).getD T 0)) (slR ((xs.set T (slE a c x)).getD T 0)).length [.fz (slR ((xs.set T (slE a c x)).getD T 0))]∧(slR ((xs.set T (slE a c x)).getD T 0)).length≤slC ((xs.set T (slE a c x)).getD T 0)
  rw [show (xs.set T (slE a c x)).getD T 0=slE a c x by rw [iD,iX hT];rfl,slA_E,slR_E,slC_E]
  exact h2
 ·have:(xs.set T (slE a c x)).getD i 0=xs.getD i 0:=by rw [iD,jE e,←iD]
  show RowAt Y (slA ((xs.set T (slE a c x)).getD i 0)) (slR ((xs.set T (slE a c x)).getD i 0)).length [.fz (slR ((xs.set T (slE a c x)).getD i 0))]∧(slR ((xs.set T (slE a c x)).getD i 0)).length≤slC ((xs.set T (slE a c x)).getD i 0)
  rw [this];exact h1
end
end Go.Sl
namespace Go.Proofs.YtinpgnomkmmfdaaGreat
section
open Go Go.Sl
def wC (al:LL):List Col:=[.sls (gL al 0), .sls (gL al 1), .sls (gL al 2), .sls (gL al 3), .sls (gL al 4), .sls (gL al 5), .sls (gL al 6), .sls (gL al 7), .sls (gL al 8)]
def wK (av:Option Addr) (n cap:Nat) (al pk:LL) (ax:Ad9):List (Chunk Sg):= .ro av n cap (wC al)::ro9 pk ax
def PT (av:Option Addr) (n cap:Nat) (T k g b:Int) (pk:LL) (ax:Ad9):List Value:=[.agg #[.slice av n cap, .int .i64 T, .int .i64 k, .int .i64 g, .int .i64 b], .agg ((sl9 0 pk ax).map (·.1)).toArray]
def PY:List Pr:=[.many [.pt 0 .slice, .no, .no, .no, .no], .many [.pt 1 .slice, .pt 2 .slice, .pt 3 .slice, .pt 4 .slice, .pt 5 .slice, .pt 6 .slice, .pt 7 .slice, .pt 8 .slice, .pt 9 .slice]]
theorem PL (R':Value→Pr→List (Chunk Sg)→Prop) (S0:List Ab→List (Chunk Sg)→Prop) (av:Option Addr) (n cap:Nat) (T k g b:Int) (al pk:LL) (ax:Ad9):
 (run Tryz.prog [] [2999998] 400 (bodyOf Tryz.f15) Tryz.f15.results.toList Tryz.f15.ntmps [.code []] (argEnts 0 (mO (PT av n cap T k g b pk ax) PY)) (wK av n cap al pk ax)).holds R' (λtd L K=>S0 td K)=
 (∀b0_0:Nat,(∀b1_0:Nat,(∀b2_0:Nat,(aw_ ((0+n)*216≤140737488355328) (∀(b4_0:Option Nat) (b4_1:Nat),(aw_ ((0:Int)≤T∧T<(↑(0+n):Int)) (R' (iJ (jF (λb=>⟨b,0,none⟩) b4_0) (0+n) b4_1) (jW 13 jG) (([jV av n cap [kH (gL al 0),kH (gL al 1),kH (gL al 2),kH (gL al 3),kH (gL al 4),kH (gL al 5),kH (gL al 6),kH (gL al 7),kH (gL al 8)]]++ro9 pk ax++[jA b0_0 27 [(iJ av n cap,jW 0 jG),(jT iB T,kJ),(jT iB k,kJ),(jT iB g,kJ),(jT iB b,kJ)],jA b1_0 40 (sl9 1 pk ax),Chunk.dead,nL b4_0 40 (0+n) b4_1 [qJ (lI ([]++oX MG (gL al 0)) (iI T) (iJ (jY (ax 0)) (iF (gL pk 0)) (lD (ax 0)))),qJ (lI ([]++oX MG (gL al 1)) (iI T) (iJ (jY (ax 1)) (iF (gL pk 1)) (lD (ax 1)))),qJ (lI ([]++oX MG (gL al 2)) (iI T) (iJ (jY (ax 2)) (iF (gL pk 2)) (lD (ax 2)))),qJ (lI ([]++oX MG (gL al 3)) (iI T) (iJ (jY (ax 3)) (iF (gL pk 3)) (lD (ax 3)))),qJ (lI ([]++oX MG (gL al 4)) (iI T) (iJ (jY (ax 4)) (iF (gL pk 4)) (lD (ax 4)))),qJ (lI ([]++oX MG (gL al 5)) (iI T) (iJ (jY (ax 5)) (iF (gL pk 5)) (lD (ax 5)))),qJ (lI ([]++oX MG (gL al 6)) (iI T) (iJ (jY (ax 6)) (iF (gL pk 6)) (lD (ax 6)))),qJ (lI ([]++oX MG (gL al 7)) (iI T) (iJ (jY (ax 7)) (iF (gL pk 7)) (lD (ax 7)))),qJ (lI ([]++oX MG (gL al 8)) (iI T) (iJ (jY (ax 8)) (iF (gL pk 8)) (lD (ax 8))))]]))))))))):=by
 kernel_rfl
def wS (al pk:LL) (ax:Ad9) (T:Int):List Col:=[.sls ((gL al 0).set T.toNat (slE (ax 0).1 (ax 0).2 (gL pk 0))), .sls ((gL al 1).set T.toNat (slE (ax 1).1 (ax 1).2 (gL pk 1))), .sls ((gL al 2).set T.toNat (slE (ax 2).1 (ax 2).2 (gL pk 2))), .sls ((gL al 3).set T.toNat (slE (ax 3).1 (ax 3).2 (gL pk 3))), .sls ((gL al 4).set T.toNat (slE (ax 4).1 (ax 4).2 (gL pk 4))), .sls ((gL al 5).set T.toNat (slE (ax 5).1 (ax 5).2 (gL pk 5))), .sls ((gL al 6).set T.toNat (slE (ax 6).1 (ax 6).2 (gL pk 6))), .sls ((gL al 7).set T.toNat (slE (ax 7).1 (ax 7).2 (gL pk 7))), .sls ((gL al 8).set T.toNat (slE (ax 8).1 (ax 8).2 (gL pk 8)))]
def PU (al pk:LL) (ax:Ad9) (T:Int):List (Mk Sg):=[.row 40 (wS al pk ax T)]
def PZ (vs:List Value):Value:=vs.headD undef
def wP (E:Ev) (G:Hp) (al pk:LL) (ax:Ad9) (T:Int):Ending→World→Prop:=Post Dg E G PZ [] (PU al pk ax T)
def PQ (av:Option Addr) (n cap:Nat) (T:Int) (al pk:LL) (ax:Ad9) (v:Value) (K:List (Chunk Sg)):Prop:=
 ∃(ra:Option Nat) (c':Nat),v=sliceVal ra n c'∧K[13]? =some (.row ra 40 n c' [.vals (([]++(gL al 0).map MG).set T.toNat (.slice (ax 0).1 (gL pk 0).length (ax 0).2)), .vals (([]++(gL al 1).map MG).set T.toNat (.slice (ax 1).1 (gL pk 1).length (ax 1).2)), .vals (([]++(gL al 2).map MG).set T.toNat (.slice (ax 2).1 (gL pk 2).length (ax 2).2)), .vals (([]++(gL al 3).map MG).set T.toNat (.slice (ax 3).1 (gL pk 3).length (ax 3).2)), .vals (([]++(gL al 4).map MG).set T.toNat (.slice (ax 4).1 (gL pk 4).length (ax 4).2)), .vals (([]++(gL al 5).map MG).set T.toNat (.slice (ax 5).1 (gL pk 5).length (ax 5).2)), .vals (([]++(gL al 6).map MG).set T.toNat (.slice (ax 6).1 (gL pk 6).length (ax 6).2)), .vals (([]++(gL al 7).map MG).set T.toNat (.slice (ax 7).1 (gL pk 7).length (ax 7).2)), .vals (([]++(gL al 8).map MG).set T.toNat (.slice (ax 8).1 (gL pk 8).length (ax 8).2))])∧(wK av n cap al pk ax).map some=(jR 10).map (λj=>K[j]?)
section
variable {E:Ev} {G:Hp} {w:World} {av:Option Addr} {n cap:Nat} {T k g b:Int} {al pk:LL} {ax:Ad9}
theorem PM {v:Value} {K:List (Chunk Sg)} (hr:PQ av n cap T al pk ax v K) (hT:0≤T∧T<(n:Int)) (hS:SatK Dg E G w K):wP E G al pk ax T (.returned v) w:=by
 obtain ⟨ra,c',rfl,hK,hp⟩:=hr
 have hk:∀(j:Nat) (c:Chunk Sg),(wK av n cap al pk ax)[j]? =some c→K[j]? =some c:= λj c hj=>by
  have e:=congrArg (λl:List (Option (Chunk Sg))=>l[j]?) hp
  simp only [iR,hj,iV] at e
  have hl:j<10:=lt_of_get hj
  rw [oS hl] at e
  simpa using e.symm
 have hlen:∀c∈wC al,c.len=n:=by
  obtain ⟨_,p,_,⟨g1,_⟩,_⟩:=hS.get Dg (hk 0 _ rfl)
  exact g1.1
 have hl:∀i,i<9→(gL al i).length=n:= λi hi=>by
  have:i=0∨i=1∨i=2∨i=3∨i=4∨i=5∨i=6∨i=7∨i=8:=by omega
  rcases this with rfl|rfl|rfl|rfl|rfl|rfl|rfl|rfl|rfl
  ·exact hlen (.sls (gL al 0)) (by simp [wC])
  ·exact hlen (.sls (gL al 1)) (by simp [wC])
  ·exact hlen (.sls (gL al 2)) (by simp [wC])
  ·exact hlen (.sls (gL al 3)) (by simp [wC])
  ·exact hlen (.sls (gL al 4)) (by simp [wC])
  ·exact hlen (.sls (gL al 5)) (by simp [wC])
  ·exact hlen (.sls (gL al 6)) (by simp [wC])
  ·exact hlen (.sls (gL al 7)) (by simp [wC])
  ·exact hlen (.sls (gL al 8)) (by simp [wC])
 have hTn:T.toNat<n:=by omega
 obtain ⟨bb,rfl,hS2⟩:=SatK.freezeSl Dg hS (cols':=wS al pk ax T) hK (by omega) rfl rfl
  (λc hc=>by
    simp only [wS,iH,kM,or_false] at hc
    rcases hc with rfl|rfl|rfl|rfl|rfl|rfl|rfl|rfl|rfl<;>(show (lI _ _ _).length=n;rw [mU];exact hl _ (by decide)))
  (λj c c2 h1 h2 r hr=>by
    match j,h1,h2 with
    |0,h1,h2=>simp only [wS,kB,jK,iC] at h1 h2;subst h1;subst h2;exact MJ (by rw [hl 0 (by decide)];exact hr)
    |1,h1,h2=>simp only [wS,kB,jK,iC] at h1 h2;subst h1;subst h2;exact MJ (by rw [hl 1 (by decide)];exact hr)
    |2,h1,h2=>simp only [wS,kB,jK,iC] at h1 h2;subst h1;subst h2;exact MJ (by rw [hl 2 (by decide)];exact hr)
    |3,h1,h2=>simp only [wS,kB,jK,iC] at h1 h2;subst h1;subst h2;exact MJ (by rw [hl 3 (by decide)];exact hr)
    |4,h1,h2=>simp only [wS,kB,jK,iC] at h1 h2;subst h1;subst h2;exact MJ (by rw [hl 4 (by decide)];exact hr)
    |5,h1,h2=>simp only [wS,kB,jK,iC] at h1 h2;subst h1;subst h2;exact MJ (by rw [hl 5 (by decide)];exact hr)
    |6,h1,h2=>simp only [wS,kB,jK,iC] at h1 h2;subst h1;subst h2;exact MJ (by rw [hl 6 (by decide)];exact hr)
    |7,h1,h2=>simp only [wS,kB,jK,iC] at h1 h2;subst h1;subst h2;exact MJ (by rw [hl 7 (by decide)];exact hr)
    |8,h1,h2=>simp only [wS,kB,jK,iC] at h1 h2;subst h1;subst h2;exact MJ (by rw [hl 8 (by decide)];exact hr)
    |_+9,h1,_=>simp at h1)
  (λY hf c hc i hi=>by
    have f0:=(hf 0 av n cap (wC al) (hk 0 _ rfl) rfl).2.2
    have f1:=hf 1 _ _ _ _ (hk 1 _ rfl) rfl
    have f2:=hf 2 _ _ _ _ (hk 2 _ rfl) rfl
    have f3:=hf 3 _ _ _ _ (hk 3 _ rfl) rfl
    have f4:=hf 4 _ _ _ _ (hk 4 _ rfl) rfl
    have f5:=hf 5 _ _ _ _ (hk 5 _ rfl) rfl
    have f6:=hf 6 _ _ _ _ (hk 6 _ rfl) rfl
    have f7:=hf 7 _ _ _ _ (hk 7 _ rfl) rfl
    have f8:=hf 8 _ _ _ _ (hk 8 _ rfl) rfl
    have f9:=hf 9 _ _ _ _ (hk 9 _ rfl) rfl
    simp only [wS,iH,kM,or_false] at hc
    rcases hc with rfl|rfl|rfl|rfl|rfl|rfl|rfl|rfl|rfl
    ·exact MK (f0 _ (by simp [wC]) i hi) ⟨f1.1,f1.2.1⟩ (by rw [hl 0 (by decide)];exact hTn)
    ·exact MK (f0 _ (by simp [wC]) i hi) ⟨f2.1,f2.2.1⟩ (by rw [hl 1 (by decide)];exact hTn)
    ·exact MK (f0 _ (by simp [wC]) i hi) ⟨f3.1,f3.2.1⟩ (by rw [hl 2 (by decide)];exact hTn)
    ·exact MK (f0 _ (by simp [wC]) i hi) ⟨f4.1,f4.2.1⟩ (by rw [hl 3 (by decide)];exact hTn)
    ·exact MK (f0 _ (by simp [wC]) i hi) ⟨f5.1,f5.2.1⟩ (by rw [hl 4 (by decide)];exact hTn)
    ·exact MK (f0 _ (by simp [wC]) i hi) ⟨f6.1,f6.2.1⟩ (by rw [hl 5 (by decide)];exact hTn)
    ·exact MK (f0 _ (by simp [wC]) i hi) ⟨f7.1,f7.2.1⟩ (by rw [hl 6 (by decide)];exact hTn)
    ·exact MK (f0 _ (by simp [wC]) i hi) ⟨f8.1,f8.2.1⟩ (by rw [hl 7 (by decide)];exact hTn)
    ·exact MK (f0 _ (by simp [wC]) i hi) ⟨f9.1,f9.2.1⟩ (by rw [hl 8 (by decide)];exact hTn))
 refine ⟨[(some (encA ⟨bb,0,none⟩),c')],⟨trivial,trivial⟩,?_,?_⟩
 ·show Ending.returned (.slice (some ⟨bb,0,none⟩) n c')= .returned (.slice ((some (encA ⟨bb,0,none⟩)).map decA) (lI _ _ _).length c')
  rw [iV,decA_enc,mU,hl 0 (by decide)]
 ·have h5:SatK Dg E G w [.ro (some ⟨bb,0,none⟩) n c' (wS al pk ax T)]:=hS2.ord Dg [13] rfl (by
   simp only [iL,lZ]
   rw [iX (lt_of_get hK)];rfl)
  have e:jI sliceC (PU al pk ax T) [(some (encA ⟨bb,0,none⟩),c')]=[.ro (some ⟨bb,0,none⟩) n c' (wS al pk ax T)]:=by
   show [jV ((some (encA ⟨bb,0,none⟩)).map decA) (lI _ _ _).length c' (wS al pk ax T)]=_
   rw [iV,decA_enc,mU,hl 0 (by decide)]
  rw [e];exact h5
set_option maxRecDepth 100000 in
theorem PH (hn:n≤1000) (hT:0≤T∧T<(n:Int)) (hr:rosOk G E.z (wK av n cap al pk ax)) (hS:Sat E G w []):Calls Tryz.prog 15 (PT av n cap T k g b pk ax).toArray w (wP E G al pk ax T):=by
 have hS0:SatK Dg E G w ([]:List (Chunk Sg)):=hS
 have:=calls_runM Dg (mk:=[]) (TableOk.nil Dg Tryz.prog) (f:=15) Tryz.func15 mix (B:=bodyOf Tryz.f15) (by kernel_rfl) rfl (mO (PT av n cap T k g b pk ax) PY) (by rfl) (K:=[]++wK av n cap al pk ax) (R:=wP E G al pk ax T)
  (λx hx=>by
    simp only [PT,PY,pE,List.zip_nil_right,iH,kM,or_false] at hx
    rcases hx with rfl|rfl<;>simp [pOk,psOk,wK,ro9,cOk,sl9,hC])
  (KOk_of (by rfl)) (hS0.ros Dg hr) (R':= λv _ K=>PQ av n cap T al pk ax v K) (λv p K w' h h2=>PM h hT h2) 400 rfl
  (holdsE (PL (λv _ K=>PQ av n cap T al pk ax v K) (λ_ _=>False) av n cap T k g b al pk ax) (λ_ _ _ h=>h.elim) (λb0 b1 b2=>⟨by omega, λ_ b4 c4=>⟨by omega, λ_=>⟨b4,c4,by rw [lX];rfl,by rw [lX];rfl,rfl⟩⟩⟩))
 exact this
end
abbrev OO:=Option Addr×Nat×LI
def OQ:List Value→List (Info Sg)→Option (List OO)
 |[],[]=>some []
 | .slice a _ c::vs, .row _ [.fz x]::is=>match OQ vs is with
   |some r=>some ((a,c,x)::r)
   |none=>none
 |_,_=>none
def O1:List Col→Option LL
 |[]=>some []
 | .sls a::cs=>match O1 cs with
   |some r=>some (a::r)
   |none=>none
 |_=>none
theorem OT:∀{cs:List Col} {al:LL},O1 cs=some al→cs=al.map .sls
 |[],al,h=>by injection h with h;subst h;rfl
 |c::cs,al,h=>by
  cases c with
  |sls a=>
   unfold O1 at h
   cases hr:O1 cs with
   |none=>rw [hr] at h;cases h
   |some r=>rw [hr] at h;injection h with h;subst h;rw [OT hr];rfl
  |_=>cases h
def Mc (p:OO):Value:= .slice p.1 p.2.2.length p.2.1
def Qj (p:OO):Chunk Sg:= .ro p.1 p.2.2.length p.2.1 [.fz p.2.2]
theorem Py {G Y:Hp}:∀{vs:List Value} {is:List (Info Sg)} {ps:List OO},OQ vs is=some ps→isOk G Y vs is→vs=ps.map Mc∧∀c∈ps.map Qj,Chunk.roOk G Y c
 |[],[],ps,h,_=>by injection h with h;subst h;exact ⟨rfl, λc hc=>by cases hc⟩
 |[],_::_,_,h,_=>by cases h
 |v::vs,[],_,h,_=>by
  unfold OQ at h
  split at h<;>simp_all
 |v::vs,i::is,ps,h,hi=>by
  unfold OQ at h
  split at h
  ·simp_all
  ·rename_i h1 h2
   obtain ⟨e1,e2⟩:=qK h1
   obtain ⟨e3,e4⟩:=qK h2
   subst e1 e2 e3 e4
   split at h
   ·rename_i r hr
    injection h with h;subst h
    obtain ⟨⟨ua,va,ea,ra,da,za⟩,hi2⟩:=hi
    obtain ⟨g1,g2⟩:=Py hr hi2
    cases ea
    have l:=ra.1 _ (.head _)
    change iF _=_ at l
    subst l
    refine ⟨by rw [iL,←g1];rfl, λc hc=>?_⟩
    rw [iL,iH] at hc
    rcases hc with rfl|hc
    ·exact ⟨(za rfl).1,da,(za rfl).2⟩
    ·exact g2 c hc
   ·cases h
  ·cases h
def pL (ps:List OO):LL:=ps.map (·.2.2)
def pA (ps:List OO):Ad9:= λi=>((ps.getD i (none,0,[])).1,(ps.getD i (none,0,[])).2.1)
def Pz (T:Int):LL→List OO→List Col
 |a::al,p::ps=> .sls (a.set T.toNat (slE p.1 p.2.1 p.2.2))::Pz T al ps
 |_,_=>[]
def OU:Entry Sg:= λargs=>match args with
 |[(.agg xa, .many (.row _ cols::_)),(.agg pa, .many is)]=>match xa.toList with
  |[.slice _ n _, .int .i64 T, .int .i64 _, .int .i64 _, .int .i64 _]=>match O1 cols,OQ pa.toList is with
   |some al,some ps=>bif iN al.length 9&&iN ps.length 9 then some ⟨(), λ_=>⟨[n≤1000,0≤T∧T<(n:Int)],none,[.row 40 (Pz T al ps)],PZ, λk=> .pt k .slice⟩⟩ else none
   |_,_=>none
  |_=>none
 |_=>none
theorem nine {α:Type}:∀{l:List α},l.length=9→∃a b c d e f g h i,l=[a,b,c,d,e,f,g,h,i]
 |[a,b,c,d,e,f,g,h,i],_=>⟨a,b,c,d,e,f,g,h,i,rfl⟩
theorem OV {G Z:Hp}:∀{l:List (Chunk Sg)},(∀c∈l,Chunk.roOk G Z c)→rosOk G Z l
 |[],_=>trivial
 |c::l,h=>⟨h c (by simp),OV λd hd=>h d (by simp [hd])⟩
theorem PI:∀(vs:List Value) (is:List (Info Sg)),(∀v∈vs,∀p,v≠ .pointer (some p))→objsV.go vs is=[]
 |[],[],_=>rfl
 |[],_::_,_=>rfl
 |v::vs,[],_=>by unfold objsV.go;split<;>simp_all
 |v::vs,i::is,h=>by
  have ih:=PI vs is λx hx=>h x (by simp [hx])
  have hv:=h v (by simp)
  unfold objsV.go
  split
  ·rename_i e1 e2
   obtain ⟨rfl,rfl⟩:=qK e1
   exact absurd rfl (hv _)
  ·rename_i e1 e2
   obtain ⟨rfl,rfl⟩:=qK e1
   obtain ⟨rfl,rfl⟩:=qK e2
   exact ih
  ·rfl
theorem PN:EOk 15 OU:=by
 intro args c r h hr
 unfold OU at h
 split at h
 rotate_left
 ·cases h
 rename_i xa n0 cols ir pa is
 split at h
 rotate_left
 ·cases h
 rename_i sa n sc T k g b hxa
 split at h
 rotate_left
 ·cases h
 rename_i al ps hal hps
 cases hb:(iN al.length 9&&iN ps.length 9) with
 |false=>rw [hb] at h;cases h
 |true=>
  rw [hb,cond_true] at h
  injection h with h;subst h;subst hr
  rw [iE] at hb
  obtain ⟨a0,a1,a2,a3,a4,a5,a6,a7,a8,rfl⟩:=nine (iK hb.1)
  obtain ⟨P0,P1,P2,P3,P4,P5,P6,P7,P8,rfl⟩:=nine (iK hb.2)
  refine ⟨λK acs ha=>?_, λhp E G w hi hS=>?_⟩
  ·match acs,ha with
   |[ac],_=>
    exact pOk_pt.2 ⟨.ro (ac.1.map decA) (lenC (Pz T [a0,a1,a2,a3,a4,a5,a6,a7,a8] [P0,P1,P2,P3,P4,P5,P6,P7,P8])) ac.2 (Pz T [a0,a1,a2,a3,a4,a5,a6,a7,a8] [P0,P1,P2,P3,P4,P5,P6,P7,P8]),(by rw [iQ (kA _),qE];rfl),(show iJ (ac.1.map decA) (lenC (Pz T [a0,a1,a2,a3,a4,a5,a6,a7,a8] [P0,P1,P2,P3,P4,P5,P6,P7,P8])) ac.2=iJ (ac.1.map decA) (lenC (Pz T [a0,a1,a2,a3,a4,a5,a6,a7,a8] [P0,P1,P2,P3,P4,P5,P6,P7,P8])) ac.2 from rfl)⟩
  ·have q1:=hp _ (.head _)
   have q2:=hp _ (.tail _ (.head _))
   have i1:isOk G E.z xa.toList _:=hi _ (.head _)
   have i2:isOk G E.z pa.toList is:=hi _ (.tail _ (.head _))
   have hpa:=Py hps i2
   have hcol:=OT hal
   subst hcol
   rw [hxa] at i1
   obtain ⟨⟨ua,va,ea,ra,da,za⟩, -⟩:=i1
   cases ea
   have exa:xa=⟨[.slice sa n0 sc, .int .i64 T, .int .i64 k, .int .i64 g, .int .i64 b]⟩:=by rw [←hxa]
   have epa:pa=⟨[Mc P0,Mc P1,Mc P2,Mc P3,Mc P4,Mc P5,Mc P6,Mc P7,Mc P8]⟩:=by
    have:=hpa.1
    cases pa;exact congrArg Array.mk this
   subst exa
   subst epa
   have n1:∀v∈[iJ sa n0 sc, .int .i64 T, .int .i64 k, .int .i64 g, .int .i64 b],∀q,v≠ .pointer (some q):= λv hv q e=>by
    subst e
    simp at hv
   have n2:∀v∈[Mc P0,Mc P1,Mc P2,Mc P3,Mc P4,Mc P5,Mc P6,Mc P7,Mc P8],∀q,v≠ .pointer (some q):= λv hv q e=>by
    subst e
    simp [Mc] at hv
   have ho:objsOf [(Value.agg ⟨[.slice sa n0 sc, .int .i64 T, .int .i64 k, .int .i64 g, .int .i64 b]⟩,Info.many (Info.row n0 (oX kH [a0,a1,a2,a3,a4,a5,a6,a7,a8])::ir)),(Value.agg ⟨[Mc P0,Mc P1,Mc P2,Mc P3,Mc P4,Mc P5,Mc P6,Mc P7,Mc P8]⟩,Info.many is)]=([]:List (Addr×Sg)):=by
    show objsV.go _ _++(objsV.go _ _++[])=[]
    rw [PI _ _ n1,PI _ _ n2];rfl
   unfold newAs objAs objOf at*
   rw [ho] at hS ⊢
   refine PH (al:=[a0,a1,a2,a3,a4,a5,a6,a7,a8]) (pk:=pL [P0,P1,P2,P3,P4,P5,P6,P7,P8]) (ax:=pA [P0,P1,P2,P3,P4,P5,P6,P7,P8]) (T:=T) (k:=k) (g:=g) (b:=b) (av:=sa) (n:=n0) (cap:=sc) q1 q2 ?_ hS
   exact ⟨⟨(za rfl).1,da,(za rfl).2⟩,OV hpa.2⟩
def Qa:Tb:=(15,OU)::T_ad
theorem P9:TOk Qa:=tc_ PN T_ad_ok
end
section
open Go.Sl
def slO (n:Nat) (a:LI):Prop:=∀i,i<n→∀y∈slR (a.getD i 0),i64R y
def l18_fit (t p h:Int) (xs a0 a1 a2 a3 a4 a5 a6 a7 a8:LI) (T k g b:Int):Bool:=(((r12_Few t p h&&decide ((a0.length:Int)≤16))&&decide (T≥0))&&decide (T<(a0.length:Int)))&&r17_Fits t p h xs a0 a1 a2 a3 a4 a5 a6 a7 a8
abbrev c_l18_fit:Ct Sg:=⟨none,false,[.agg [.i .i64, .i .i64, .i .i64], .ro [some .u32], .agg [.ro [some .i16,some .i16,some .i16,some .i16,some .i16,some .i16,some .i16,some .i16,some .i16], .i .i64, .i .i64, .i .i64, .i .i64]], .b⟩
def e_l18_fit:Entry Sg:=entC c_l18_fit l18_fit (λt p h xs a0 a1 a2 a3 a4 a5 a6 a7 a8 T k g b=>[bdAll xs])
abbrev MN (a0 a1 a2 a3 a4 a5 a6 a7 a8:LI):=(lenC [kH a0,kH a1,kH a2,kH a3,kH a4,kH a5,kH a6,kH a7,kH a8])
def l18_fit_w (t p h:Int) (xs a0 a1 a2 a3 a4 a5 a6 a7 a8:LI) (T k g b:Int) (R_:Bool→Prop):Prop:=(∀r2:Bool,r2=(r12_Few t p h)→(aw_ ((r2&&decide ((↑(MN a0 a1 a2 a3 a4 a5 a6 a7 a8):Int)≤16)&&decide (T≥0)&&decide (T<(↑(MN a0 a1 a2 a3 a4 a5 a6 a7 a8):Int)))=true→bdAll xs) (aw_ ((r2&&decide ((↑(MN a0 a1 a2 a3 a4 a5 a6 a7 a8):Int)≤16)&&decide (T≥0)&&decide (T<(↑(MN a0 a1 a2 a3 a4 a5 a6 a7 a8):Int)))=true→iF a0≤1000) (R_ (r2&&decide ((↑(MN a0 a1 a2 a3 a4 a5 a6 a7 a8):Int)≤16)&&decide (T≥0)&&decide (T<(↑(MN a0 a1 a2 a3 a4 a5 a6 a7 a8):Int))&&r17_Fits t p h xs a0 a1 a2 a3 a4 a5 a6 a7 a8)))))
theorem l18_fit_begin (t p h:Int) (xs a0 a1 a2 a3 a4 a5 a6 a7 a8:LI) (T k g b:Int) (hp0:bdAll xs) (hl0:xs.length≤9223372036854775807) (hl1:a0.length≤9223372036854775807):l18_fit_w t p h xs a0 a1 a2 a3 a4 a5 a6 a7 a8 T k g b (λr__=>r__=(l18_fit t p h xs a0 a1 a2 a3 a4 a5 a6 a7 a8 T k g b)):=by
 unfold l18_fit_w MN
 rintro r2 rfl
 refine ⟨λ_=>hp0, λ_=>⟨λhc=>?_, λ_=>rfl⟩⟩
 simp only [iE,decide_eq_true_eq] at hc
 have:(a0.length:Int)≤16:=hc.1.1.2
 omega
theorem l18_fit_ok:EOk 5 e_l18_fit:=
 ent_w0 Dg P9 (I:=[2999998]) Tryz.func5 mix (B:=bodyOf Tryz.f5) (by kernel_rfl) rfl (by kernel_rfl) 400
  λ_ t p h xs a0 a1 a2 a3 a4 a5 a6 a7 a8 T k g b hb hp=>⟨_, λ_ _ _=>by kernel_rfl,l18_fit_begin t p h xs a0 a1 a2 a3 a4 a5 a6 a7 a8 T k g b (hp _ (.head _)) (hb.2.1) (hb.2.2.1.1)⟩
def T_l18_fit:Tb:=(5,e_l18_fit)::Qa
theorem T_l18_fit_ok:TOk T_l18_fit:=tc_ l18_fit_ok P9
theorem fit_all {t p h:Int} {xs a0 a1 a2 a3 a4 a5 a6 a7 a8:LI} {T k g b:Int} (hf:l18_fit t p h xs a0 a1 a2 a3 a4 a5 a6 a7 a8 T k g b=true) (hs:slO a0.length a0∧slO a0.length a1∧slO a0.length a2∧slO a0.length a3∧slO a0.length a4∧slO a0.length a5∧slO a0.length a6∧slO a0.length a7∧slO a0.length a8):
 (soundA ⟨t,p,h⟩ xs=true∧p≤64)∧(0≤T∧T<a0.length)∧pkB (slR (a0.getD T.toNat 0)) (slR (a1.getD T.toNat 0)) (slR (a2.getD T.toNat 0)) (slR (a3.getD T.toNat 0)) (slR (a4.getD T.toNat 0)) (slR (a5.getD T.toNat 0)) (slR (a6.getD T.toNat 0)) (slR (a7.getD T.toNat 0)) (slR (a8.getD T.toNat 0))∧a0.length≤16∧fitOut h (partsL ⟨t,p,h⟩ xs) (λk=>pkGet k a0 a1 a2 a3 a4 a5 a6 a7 a8) a0.length 9 0=true:=by
 unfold l18_fit at hf
 simp only [iE,decide_eq_true_eq,r12_Few] at hf
 obtain ⟨⟨⟨⟨h1,h2⟩,h3⟩,h4⟩,h5⟩:=hf
 unfold r17_Fits at h5
 cases hc:(!soundA ⟨t,p,h⟩ xs||(a0.length:Int) !=t) with
 |true=>rw [hc] at h5;cases h5
 |false=>
  rw [hc,cond_false] at h5
  simp only [jB,jZ] at hc
  have hl:=partsL_len ⟨t,p,h⟩ xs
  dsimp only at hl
  have hlen:=(fitOut_true (by omega) (by omega) 9 0 (by omega) (by decide) (by decide) h5).2
  have hT:T.toNat<a0.length:=by omega
  refine ⟨⟨hc.1,h1⟩,⟨by omega,h4⟩,?_,by omega,h5⟩
  refine ⟨⟨mI (lenB_all (hlen 8 (by omega)).1 T.toNat hT) (by decide),hs.1 T.toNat hT⟩,⟨mI (lenB_all (hlen 7 (by omega)).1 T.toNat hT) (by decide),hs.2.1 T.toNat hT⟩,⟨mI (lenB_all (hlen 6 (by omega)).1 T.toNat hT) (by decide),hs.2.2.1 T.toNat hT⟩,⟨mI (lenB_all (hlen 5 (by omega)).1 T.toNat hT) (by decide),hs.2.2.2.1 T.toNat hT⟩,⟨mI (lenB_all (hlen 4 (by omega)).1 T.toNat hT) (by decide),hs.2.2.2.2.1 T.toNat hT⟩,⟨mI (lenB_all (hlen 3 (by omega)).1 T.toNat hT) (by decide),hs.2.2.2.2.2.1 T.toNat hT⟩,⟨mI (lenB_all (hlen 2 (by omega)).1 T.toNat hT) (by decide),hs.2.2.2.2.2.2.1 T.toNat hT⟩,⟨mI (lenB_all (hlen 1 (by omega)).1 T.toNat hT) (by decide),hs.2.2.2.2.2.2.2.1 T.toNat hT⟩,⟨mI (lenB_all (hlen 0 (by omega)).1 T.toNat hT) (by decide),hs.2.2.2.2.2.2.2.2 T.toNat hT⟩⟩
def l18_live:Bool:=true
abbrev c_l18_live:Ct Sg:=⟨none,false,[], .b⟩
def e_l18_live:Entry Sg:=entC c_l18_live l18_live ([])
def l18_live_w (R_:Bool→Prop):Prop:=(∀r0:Int×Int×Int×LI,r0=(l14_Eight)→(∀r3:VS,r3=(VS.whole r0.2.2.2)→(aw_ (iF r0.2.2.2≤1000000) (aw_ (bdL r0.2.2.2) (∀r7:VS×Int×LI×LI×LI×LI×LI×LI×LI×LI×LI×Bool,r7=(small_Alloc r3 r0.1 r0.2.1 r0.2.2.1 [] [] [] [] [] [] [] [] [] 0)→(aw_ (r0.2.1≤1024) (aw_ (pkB [] [] [] [] [] [] [] [] []) (∀r20:VS×Int×LI×LI×LI×LI×LI×LI×LI×LI×LI×Bool,r20=(small_Alloc r7.1 r0.1 r0.2.1 r0.2.2.1 r7.2.2.1 r7.2.2.2.1 r7.2.2.2.2.1 r7.2.2.2.2.2.1 r7.2.2.2.2.2.2.1 r7.2.2.2.2.2.2.2.1 r7.2.2.2.2.2.2.2.2.1 r7.2.2.2.2.2.2.2.2.2.1 r7.2.2.2.2.2.2.2.2.2.2.1 0)→(aw_ (r0.2.1≤1024) (aw_ (pkB r7.2.2.1 r7.2.2.2.1 r7.2.2.2.2.1 r7.2.2.2.2.2.1 r7.2.2.2.2.2.2.1 r7.2.2.2.2.2.2.2.1 r7.2.2.2.2.2.2.2.2.1 r7.2.2.2.2.2.2.2.2.2.1 r7.2.2.2.2.2.2.2.2.2.2.1) (bw_ (r7.2.2.2.2.2.2.2.2.2.2.2&&r7.2.1==1024) (R_ (r01_LongsI r7.2.2.1 [1120,1088,1056]&&r20.2.2.2.2.2.2.2.2.2.2.2&&r20.2.1==1056)) (R_ (false)))))))))))))
theorem l18_live_begin:l18_live_w (λr__=>r__=l18_live):=by
 unfold l18_live_w
 have h1:l14_Eight.2.2.2.length≤1000000:=by decide+kernel
 have h2:∀v∈l14_Eight.2.2.2,bd32 v:=by unfold bd32;decide+kernel
 have h3:l14_Eight.2.1≤1024:=by decide+kernel
 rintro r0 rfl r3 rfl
 refine ⟨h1, λ_=>⟨h2, λ_=>?_⟩⟩
 rintro r7 rfl
 refine ⟨h3, λ_=>⟨⟨lB_nil,lB_nil,lB_nil,lB_nil,lB_nil,lB_nil,lB_nil,lB_nil,lB_nil⟩, λ_=>?_⟩⟩
 rintro r20 rfl
 refine ⟨h3, λ_=>⟨by unfold pkB lB;decide+kernel, λ_=>⟨λhd=>?_, λhd=>?_⟩⟩⟩
 ·show _=l18_live
  unfold l18_live
  decide+kernel
 ·exfalso;revert hd;decide+kernel
theorem l18_live_ok:EOk 6 e_l18_live:=
 ent_w0 Dg T_l18_fit_ok (I:=[2999998]) Tryz.func6 mix (B:=bodyOf Tryz.f6) (by kernel_rfl) rfl (by kernel_rfl) 400
  λ_ hb hp=>⟨_, λ_ _ _=>by kernel_rfl,l18_live_begin⟩
def T_l18_live:Tb:=(6,e_l18_live)::T_l18_fit
theorem T_l18_live_ok:TOk T_l18_live:=tc_ l18_live_ok T_l18_fit_ok
end
end Go.Proofs.YtinpgnomkmmfdaaGreat
namespace Go.Sl
section
theorem VS.there_of {s:VS} {i:Int} (h:s.there i=true):0≤i∧i<s.n∧s.miss<0:=by
 simp only [VS.there,iE,decide_eq_true_eq] at h
 exact ⟨h.1.1,h.1.2,h.2⟩
theorem VS.there_stuck {s:VS} {i:Int} (h:0≤s.miss):s.there i=false:=by
 simp only [VS.there,mN,decide_eq_false_iff_not]
 exact .inr (by omega)
theorem Pg.run_stuck {α:Type} (p:Pg α):∀s:VS,0≤s.miss→(p.run s).1=s:=by
 induction p with
 |ret a=>intro s _;rfl
 |get i k ih=>
  intro s h
  have e:s.read i=s:=by simp only [VS.read,VS.there_stuck h,cond_false]
  rw [Pg.run_get,e];exact ih _ s h
 |put i x k ih=>
  intro s h
  have e:s.set i x=s:=by simp only [VS.set,VS.there_stuck h,cond_false]
  rw [Pg.run_put,e];exact ih s h
structure Full (s:VS):Prop where
 miss:s.miss= -1
 src:∀i:Int,0≤i→i<s.n→(s.src i).isSome=true
 rn:s.reads.Nodup
 ri:∀i∈s.reads,0≤i∧i<s.n
theorem VS.read_cases (s:VS) (i:Int):s.read i=s∨(s.there i=true∧s.put i=none∧s.src i=none∧s.read i={s with miss:=i})∨(s.there i=true∧s.put i=none∧(s.src i).isSome=true∧s.reads.contains i=false∧s.read i={s with reads:=s.reads++[i]}):=by
 unfold VS.read
 cases ht:s.there i with
 |false=>exact .inl rfl
 |true=>
  simp only [cond_true]
  cases hp:s.put i with
  |some v=>exact .inl rfl
  |none=>
   cases hs:s.src i with
   |none=>exact .inr (.inl ⟨by trivial,by trivial,by trivial,rfl⟩)
   |some v=>
    simp only
    cases hc:s.reads.contains i with
    |true=>exact .inl rfl
    |false=>exact .inr (.inr ⟨by trivial,by trivial,rfl,by trivial,rfl⟩)
theorem nodup_snoc' {xs:LI} {i:Int} (h:xs.Nodup) (hi:xs.contains i=false):(xs++[i]).Nodup:=by
 rw [pM]
 refine ⟨h,by simp, λa ha b hb=>?_⟩
 simp only [iY] at hb
 subst hb
 intro e
 subst e
 have:xs.contains a=true:=by simpa using ha
 rw [hi] at this;cases this
theorem Full.read {s:VS} (h:Full s) (i:Int):Full (s.read i):=by
 rcases s.read_cases i with e|⟨ht,_,hs,_⟩|⟨ht,_,_,hc,e⟩
 ·rw [e];exact h
 ·obtain ⟨h0,h1,_⟩:=VS.there_of ht
  have:=h.src i h0 h1
  rw [hs] at this;cases this
 ·rw [e]
  obtain ⟨h0,h1,_⟩:=VS.there_of ht
  refine {miss:=h.miss,src:=h.src,rn:=nodup_snoc' h.rn hc,ri:= λj hj=>?_}
  have hj':j∈s.reads++[i]:=hj
  simp only [kC,iY] at hj'
  rcases hj' with hj'|rfl
  ·exact h.ri j hj'
  ·exact ⟨h0,h1⟩
theorem VS.set_same (s:VS) (i x:Int):(s.set i x).n=s.n∧(s.set i x).src=s.src∧(s.set i x).reads=s.reads∧(s.set i x).miss=s.miss∧(s.set i x).all=s.all:=by
 unfold VS.set
 cases s.there i<;>exact ⟨rfl,rfl,rfl,rfl,rfl⟩
theorem VS.read_same (s:VS) (i:Int):(s.read i).n=s.n∧(s.read i).src=s.src∧(s.read i).put=s.put∧(s.read i).wrote=s.wrote∧(s.read i).all=s.all:=by
 rcases s.read_cases i with e|⟨_,_,_,e⟩|⟨_,_,_,_,e⟩<;>rw [e]<;>exact ⟨rfl,rfl,rfl,rfl,rfl⟩
theorem Full.set {s:VS} (h:Full s) (i x:Int):Full (s.set i x):=by
 obtain ⟨e1,e2,e3,e4,_⟩:=s.set_same i x
 exact {miss:=by rw [e4];exact h.miss,src:=by rw [e1,e2];exact h.src,rn:=by rw [e3];exact h.rn,ri:=by rw [e1,e3];exact h.ri}
theorem Full.run {α:Type} (p:Pg α):∀{s:VS},Full s→Full (p.run s).1:=by
 induction p with
 |ret a=>intro s h;exact h
 |get i k ih=>intro s h;exact ih _ (h.read i)
 |put i x k ih=>intro s h;exact ih (h.set i x)
theorem Pg.run_reads {α:Type} (p:Pg α):∀s:VS,∃r,(p.run s).1.reads=s.reads++r:=by
 induction p with
 |ret a=>intro s;exact ⟨[],by simp [Pg.run]⟩
 |get i k ih=>
  intro s
  obtain ⟨r,hr⟩:=ih (s.get i) (s.read i)
  rw [Pg.run_get,hr]
  rcases s.read_cases i with e|⟨_,_,_,e⟩|⟨_,_,_,_,e⟩<;>rw [e]
  ·exact ⟨r,rfl⟩
  ·exact ⟨r,rfl⟩
  ·exact ⟨i::r,by simp⟩
 |put i x k ih=>
  intro s
  obtain ⟨r,hr⟩:=ih (s.set i x)
  rw [Pg.run_put,hr,(s.set_same i x).2.2.1]
  exact ⟨r,rfl⟩
theorem VS.whole_full (xs:LI):Full (VS.whole xs) where
 miss:=rfl
 src:= λi h0 h1=>by
  have e1:decide (0≤i)=true:=by simpa using h0
  have e2:decide (i<(xs.length:Int))=true:=by simpa [VS.whole] using h1
  simp only [VS.whole,e1,e2,nI,cond_true,Option.isSome_some]
 rn:=List.nodup_nil
 ri:= λi h=>by cases h
structure Sim (kn:Int→Bool) (s k:VS):Prop where
 full:Full s
 n:k.n=s.n
 put:k.put=s.put
 reads:k.reads=s.reads
 wrote:k.wrote=s.wrote
 miss:k.miss= -1
 src:∀i:Int,0≤i→i<s.n→k.src i=bif kn i then s.src i else none
 rk:∀i∈s.reads,kn i=true
theorem Sim.there {kn:Int→Bool} {s k:VS} (h:Sim kn s k) (i:Int):k.there i=s.there i:=by
 simp only [VS.there,h.n,h.miss,h.full.miss]
theorem Sim.set {kn:Int→Bool} {s k:VS} (h:Sim kn s k) (i x:Int):Sim kn (s.set i x) (k.set i x):=by
 obtain ⟨e1,e2,e3,e4,_⟩:=s.set_same i x
 obtain ⟨f1,f2,f3,f4,_⟩:=k.set_same i x
 exact {full:=h.full.set i x
        n:=by rw [e1,f1];exact h.n
        put:=by unfold VS.set;rw [h.there i,h.put];cases s.there i<;>simp [h.put]
        reads:=by rw [e3,f3];exact h.reads
        wrote:=by unfold VS.set;rw [h.there i,h.put,h.wrote];cases s.there i<;>simp [h.wrote]
        miss:=by rw [f4];exact h.miss
        src:=by rw [e1,e2,f2];exact h.src
        rk:=by rw [e3];exact h.rk}
def Ends {α:Type} (kn:Int→Bool) (s:VS×α) (k:VS×α):Prop:=
 (Sim kn s.1 k.1∧s.2=k.2)∨∃pre i rest,s.1.reads=pre++i::rest∧(∀j∈pre,kn j=true)∧kn i=false∧k.1.miss=i∧k.1.reads=pre
theorem Sim.run {α:Type} (kn:Int→Bool) (p:Pg α):∀{s k:VS},Sim kn s k→Ends kn (p.run s) (p.run k):=by
 induction p with
 |ret a=>intro s k h;exact .inl ⟨h,rfl⟩
 |put i x q ih=>intro s k h;exact ih (h.set i x)
 |get i q ih=>
  intro s k h
  rw [Pg.run_get,Pg.run_get]
  have step:Sim kn (s.read i) (k.read i)→s.get i=k.get i→Ends kn ((q (s.get i)).run (s.read i)) ((q (k.get i)).run (k.read i)):= λh1 h2=>by
   rw [h2];exact ih _ h1
  cases ht:s.there i with
  |false=>
   have hk:k.there i=false:=by rw [h.there];exact ht
   refine step ?_ ?_
   ·simp only [VS.read,ht,hk,cond_false];exact h
   ·simp only [VS.get,ht,hk,cond_false]
  |true=>
   have hk:k.there i=true:=by rw [h.there];exact ht
   obtain ⟨h0,h1,_⟩:=VS.there_of ht
   cases hp:s.put i with
   |some v=>
    have hpk:k.put i=some v:=by rw [h.put];exact hp
    refine step ?_ ?_
    ·simp only [VS.read,ht,hk,cond_true,hp,hpk];exact h
    ·simp only [VS.get,ht,hk,cond_true,hp,hpk]
   |none=>
    have hpk:k.put i=none:=by rw [h.put];exact hp
    have hsome:=h.full.src i h0 h1
    have hsk:=h.src i h0 h1
    cases hs:s.src i with
    |none=>rw [hs] at hsome;cases hsome
    |some v=>
     cases hkn:kn i with
     |true=>
      have hks:k.src i=some v:=by rw [hsk,hkn,hs];rfl
      refine step ?_ ?_
      ·simp only [VS.read,ht,hk,cond_true,hp,hpk,hs,hks,h.reads]
       cases hc:s.reads.contains i with
       |true=>exact h
       |false=>
        exact {full:=by have:=h.full.read i;simpa only [VS.read,ht,cond_true,hp,hs,hc,cond_false] using this
               n:=h.n,put:=h.put,reads:=rfl,wrote:=h.wrote,miss:=h.miss,src:=h.src
               rk:= λj hj=>by
                simp only [cond_false,kC,iY] at hj
                rcases hj with hj|rfl
                ·exact h.rk j hj
                ·exact hkn}
      ·simp only [VS.get,ht,hk,cond_true,hp,hpk,hs,hks]
     |false=>
      have hks:k.src i=none:=by rw [hsk,hkn];rfl
      have hni:s.reads.contains i=false:=by
       cases hc:s.reads.contains i with
       |false=>rfl
       |true=>
        have:=h.rk i (by simpa using hc)
        rw [hkn] at this;cases this
      have er:k.read i={k with miss:=i}:=by simp only [VS.read,hk,cond_true,hpk,hks]
      have es:s.read i={s with reads:=s.reads++[i]}:=by simp only [VS.read,ht,cond_true,hp,hs,hni,cond_false]
      right
      obtain ⟨r,hr⟩:=Pg.run_reads (q (s.get i)) (s.read i)
      have hst:=Pg.run_stuck (q (k.get i)) (k.read i) (by rw [er];exact h0)
      refine ⟨s.reads,i,r,?_,h.rk,hkn,?_,?_⟩
      ·rw [hr,es];simp
      ·rw [hst,er]
      ·rw [hst,er];exact h.reads
end
section
structure Mm where
 info:Int→Int
 foot:Int→Int
 next:Int→Int
 prev:Int→Int
 slots:Int→Int
 taken:Int→Int
 bin:Int→Int
 rack:Int→Int
 root:Int→Int
 dn:Int→Int→Int
 fr:Int
 lv:Int
def fset (f:Int→Int) (i x:Int):Int→Int:= λj=>if j=i then x else f j
theorem fset_same (f:Int→Int) (i x:Int):fset f i x i=x:=by simp [fset]
theorem fset_ne {f:Int→Int} {i x j:Int} (h:j≠i):fset f i x j=f j:=by simp [fset,h]
theorem pc_val {c:Cf} (hc:c.ok=true) {g:Int} (hg:0≤g∧g<c.p) (k:Int):c.pc g k=30+4*c.t+6*g+k:=by
 unfold Cf.pc Cf.page
 have:(decide (0≤g)&&decide (g<c.p))=true:=by simp [hg.1,hg.2]
 rw [hc,this];rfl
theorem cells_val {c:Cf} (hc:c.ok=true):c.cells=30+4*c.t+6*c.p:=by unfold Cf.cells;rw [hc];rfl
theorem cBin_val {k:Int} (hk:0≤k∧k<11):cBin k=2+k:=by
 unfold cBin
 have:(decide (0≤k)&&decide (k<11))=true:=by simp [hk.1,hk.2]
 rw [this];rfl
theorem cRack_val {k:Int} (hk:0≤k∧k<9):cRack k=13+k:=by
 unfold cRack
 have:(decide (0≤k)&&decide (k<9))=true:=by simp [hk.1,hk.2]
 rw [this];rfl
structure At (c:Cf) (s:VS) (m:Mm):Prop where
 ok:c.ok=true
 full:Full s
 n:s.n=c.cells
 info:∀g,0≤g∧g<c.p→s.cur (30+4*c.t+6*g+0)=m.info g
 foot:∀g,0≤g∧g<c.p→s.cur (30+4*c.t+6*g+1)=m.foot g
 next:∀g,0≤g∧g<c.p→s.cur (30+4*c.t+6*g+2)=m.next g
 prev:∀g,0≤g∧g<c.p→s.cur (30+4*c.t+6*g+3)=m.prev g
 slots:∀g,0≤g∧g<c.p→s.cur (30+4*c.t+6*g+4)=m.slots g
 taken:∀g,0≤g∧g<c.p→s.cur (30+4*c.t+6*g+5)=m.taken g
 bin:∀k,0≤k∧k<11→s.cur (2+k)=m.bin k
 rack:∀k,0≤k∧k<9→s.cur (13+k)=m.rack k
 root:∀k,0≤k∧k<8→s.cur (22+k)=m.root k
 dn:∀t f,0≤t∧t<c.t→0≤f∧f<4→s.cur (30+4*t+f)=m.dn t f
 fr:s.cur 0=m.fr
 lv:s.cur 1=m.lv
theorem cur_read (s:VS) (i j:Int):(s.read i).cur j=s.cur j:=by
 obtain ⟨_,e1,e2,_,_⟩:=s.read_same i
 unfold VS.cur
 rw [e1,e2]
theorem cur_set {s:VS} {i:Int} (h:s.there i=true) (x j:Int):(s.set i x).cur j=if j=i then nv x else s.cur j:=by
 unfold VS.set
 rw [h,cond_true]
 unfold VS.cur
 by_cases e:j=i
 ·subst e;simp [mupd]
 ·have e':(j==i)=false:=by simpa using e
  simp [mupd,e,e']
theorem get_cur {s:VS} {i:Int} (h:s.there i=true):s.get i=s.cur i:=by
 unfold VS.get VS.cur
 rw [h,cond_true]
section
variable {c:Cf} {s:VS} {m:Mm}
theorem At.there (h:At c s m) {i:Int} (h0:0≤i) (h1:i<c.cells):s.there i=true:=by
 have:=h.full.miss
 have:=h.n
 simp only [VS.there,iE,decide_eq_true_eq]
 omega
theorem At.read (h:At c s m) (i:Int):At c (s.read i) m:=by
 have e:=cur_read s i
 exact {ok:=h.ok,full:=h.full.read i,n:=(s.read_same i).1.trans h.n,info:= λg hg=>(e _).trans (h.info g hg),foot:= λg hg=>(e _).trans (h.foot g hg),next:= λg hg=>(e _).trans (h.next g hg),prev:= λg hg=>(e _).trans (h.prev g hg),slots:= λg hg=>(e _).trans (h.slots g hg),taken:= λg hg=>(e _).trans (h.taken g hg),bin:= λk hk=>(e _).trans (h.bin k hk),rack:= λk hk=>(e _).trans (h.rack k hk),root:= λk hk=>(e _).trans (h.root k hk),dn:= λt f ht hf=>(e _).trans (h.dn t f ht hf),fr:=(e _).trans h.fr,lv:=(e _).trans h.lv}
theorem At.set_info (h:At c s m) {g:Int} (hg:0≤g∧g<c.p) (x:Int):At c (s.set (c.info g) x) {m with info:=fset m.info g (nv x)}:=by
 have ha:c.info g=30+4*c.t+6*g+0:=pc_val h.ok hg 0
 have h1:=Cf.ok_iff.1 h.ok
 have h2:=cells_val h.ok
 have ht:s.there (c.info g)=true:=h.there (by omega) (by omega)
 refine ⟨h.ok,h.full.set _ _,(s.set_same _ _).1.trans h.n,?_,?_,?_,?_,?_,?_,?_,?_,?_,?_,?_,?_⟩
 ·intro g' hg';rw [cur_set ht];by_cases e:g'=g
  ·subst e;rw [if_pos (by omega)];exact (fset_same _ _ _).symm
  ·rw [if_neg (by omega),h.info g' hg'];exact (fset_ne e).symm
 ·intro g' hg';rw [cur_set ht,if_neg (by omega)];exact h.foot g' hg'
 ·intro g' hg';rw [cur_set ht,if_neg (by omega)];exact h.next g' hg'
 ·intro g' hg';rw [cur_set ht,if_neg (by omega)];exact h.prev g' hg'
 ·intro g' hg';rw [cur_set ht,if_neg (by omega)];exact h.slots g' hg'
 ·intro g' hg';rw [cur_set ht,if_neg (by omega)];exact h.taken g' hg'
 ·intro g' hg';rw [cur_set ht,if_neg (by omega)];exact h.bin g' hg'
 ·intro g' hg';rw [cur_set ht,if_neg (by omega)];exact h.rack g' hg'
 ·intro g' hg';rw [cur_set ht,if_neg (by omega)];exact h.root g' hg'
 ·intro t' f' ht' hf';rw [cur_set ht,if_neg (by omega)];exact h.dn t' f' ht' hf'
 ·rw [cur_set ht,if_neg (by omega)];exact h.fr
 ·rw [cur_set ht,if_neg (by omega)];exact h.lv
theorem At.get_info (h:At c s m) {g:Int} (hg:0≤g∧g<c.p):s.get (c.info g)=m.info g:=by
 have ha:c.info g=30+4*c.t+6*g+0:=pc_val h.ok hg 0
 have h1:=Cf.ok_iff.1 h.ok
 have h2:=cells_val h.ok
 have ht:s.there (c.info g)=true:=h.there (by omega) (by omega)
 rw [get_cur ht,ha];exact h.info g hg
theorem At.set_foot (h:At c s m) {g:Int} (hg:0≤g∧g<c.p) (x:Int):At c (s.set (c.foot g) x) {m with foot:=fset m.foot g (nv x)}:=by
 have ha:c.foot g=30+4*c.t+6*g+1:=pc_val h.ok hg 1
 have h1:=Cf.ok_iff.1 h.ok
 have h2:=cells_val h.ok
 have ht:s.there (c.foot g)=true:=h.there (by omega) (by omega)
 refine ⟨h.ok,h.full.set _ _,(s.set_same _ _).1.trans h.n,?_,?_,?_,?_,?_,?_,?_,?_,?_,?_,?_,?_⟩
 ·intro g' hg';rw [cur_set ht,if_neg (by omega)];exact h.info g' hg'
 ·intro g' hg';rw [cur_set ht];by_cases e:g'=g
  ·subst e;rw [if_pos (by omega)];exact (fset_same _ _ _).symm
  ·rw [if_neg (by omega),h.foot g' hg'];exact (fset_ne e).symm
 ·intro g' hg';rw [cur_set ht,if_neg (by omega)];exact h.next g' hg'
 ·intro g' hg';rw [cur_set ht,if_neg (by omega)];exact h.prev g' hg'
 ·intro g' hg';rw [cur_set ht,if_neg (by omega)];exact h.slots g' hg'
 ·intro g' hg';rw [cur_set ht,if_neg (by omega)];exact h.taken g' hg'
 ·intro g' hg';rw [cur_set ht,if_neg (by omega)];exact h.bin g' hg'
 ·intro g' hg';rw [cur_set ht,if_neg (by omega)];exact h.rack g' hg'
 ·intro g' hg';rw [cur_set ht,if_neg (by omega)];exact h.root g' hg'
 ·intro t' f' ht' hf';rw [cur_set ht,if_neg (by omega)];exact h.dn t' f' ht' hf'
 ·rw [cur_set ht,if_neg (by omega)];exact h.fr
 ·rw [cur_set ht,if_neg (by omega)];exact h.lv
theorem At.set_next (h:At c s m) {g:Int} (hg:0≤g∧g<c.p) (x:Int):At c (s.set (c.next g) x) {m with next:=fset m.next g (nv x)}:=by
 have ha:c.next g=30+4*c.t+6*g+2:=pc_val h.ok hg 2
 have h1:=Cf.ok_iff.1 h.ok
 have h2:=cells_val h.ok
 have ht:s.there (c.next g)=true:=h.there (by omega) (by omega)
 refine ⟨h.ok,h.full.set _ _,(s.set_same _ _).1.trans h.n,?_,?_,?_,?_,?_,?_,?_,?_,?_,?_,?_,?_⟩
 ·intro g' hg';rw [cur_set ht,if_neg (by omega)];exact h.info g' hg'
 ·intro g' hg';rw [cur_set ht,if_neg (by omega)];exact h.foot g' hg'
 ·intro g' hg';rw [cur_set ht];by_cases e:g'=g
  ·subst e;rw [if_pos (by omega)];exact (fset_same _ _ _).symm
  ·rw [if_neg (by omega),h.next g' hg'];exact (fset_ne e).symm
 ·intro g' hg';rw [cur_set ht,if_neg (by omega)];exact h.prev g' hg'
 ·intro g' hg';rw [cur_set ht,if_neg (by omega)];exact h.slots g' hg'
 ·intro g' hg';rw [cur_set ht,if_neg (by omega)];exact h.taken g' hg'
 ·intro g' hg';rw [cur_set ht,if_neg (by omega)];exact h.bin g' hg'
 ·intro g' hg';rw [cur_set ht,if_neg (by omega)];exact h.rack g' hg'
 ·intro g' hg';rw [cur_set ht,if_neg (by omega)];exact h.root g' hg'
 ·intro t' f' ht' hf';rw [cur_set ht,if_neg (by omega)];exact h.dn t' f' ht' hf'
 ·rw [cur_set ht,if_neg (by omega)];exact h.fr
 ·rw [cur_set ht,if_neg (by omega)];exact h.lv
theorem At.get_next (h:At c s m) {g:Int} (hg:0≤g∧g<c.p):s.get (c.next g)=m.next g:=by
 have ha:c.next g=30+4*c.t+6*g+2:=pc_val h.ok hg 2
 have h1:=Cf.ok_iff.1 h.ok
 have h2:=cells_val h.ok
 have ht:s.there (c.next g)=true:=h.there (by omega) (by omega)
 rw [get_cur ht,ha];exact h.next g hg
theorem At.set_prev (h:At c s m) {g:Int} (hg:0≤g∧g<c.p) (x:Int):At c (s.set (c.prev g) x) {m with prev:=fset m.prev g (nv x)}:=by
 have ha:c.prev g=30+4*c.t+6*g+3:=pc_val h.ok hg 3
 have h1:=Cf.ok_iff.1 h.ok
 have h2:=cells_val h.ok
 have ht:s.there (c.prev g)=true:=h.there (by omega) (by omega)
 refine ⟨h.ok,h.full.set _ _,(s.set_same _ _).1.trans h.n,?_,?_,?_,?_,?_,?_,?_,?_,?_,?_,?_,?_⟩
 ·intro g' hg';rw [cur_set ht,if_neg (by omega)];exact h.info g' hg'
 ·intro g' hg';rw [cur_set ht,if_neg (by omega)];exact h.foot g' hg'
 ·intro g' hg';rw [cur_set ht,if_neg (by omega)];exact h.next g' hg'
 ·intro g' hg';rw [cur_set ht];by_cases e:g'=g
  ·subst e;rw [if_pos (by omega)];exact (fset_same _ _ _).symm
  ·rw [if_neg (by omega),h.prev g' hg'];exact (fset_ne e).symm
 ·intro g' hg';rw [cur_set ht,if_neg (by omega)];exact h.slots g' hg'
 ·intro g' hg';rw [cur_set ht,if_neg (by omega)];exact h.taken g' hg'
 ·intro g' hg';rw [cur_set ht,if_neg (by omega)];exact h.bin g' hg'
 ·intro g' hg';rw [cur_set ht,if_neg (by omega)];exact h.rack g' hg'
 ·intro g' hg';rw [cur_set ht,if_neg (by omega)];exact h.root g' hg'
 ·intro t' f' ht' hf';rw [cur_set ht,if_neg (by omega)];exact h.dn t' f' ht' hf'
 ·rw [cur_set ht,if_neg (by omega)];exact h.fr
 ·rw [cur_set ht,if_neg (by omega)];exact h.lv
theorem At.get_prev (h:At c s m) {g:Int} (hg:0≤g∧g<c.p):s.get (c.prev g)=m.prev g:=by
 have ha:c.prev g=30+4*c.t+6*g+3:=pc_val h.ok hg 3
 have h1:=Cf.ok_iff.1 h.ok
 have h2:=cells_val h.ok
 have ht:s.there (c.prev g)=true:=h.there (by omega) (by omega)
 rw [get_cur ht,ha];exact h.prev g hg
theorem At.set_slots (h:At c s m) {g:Int} (hg:0≤g∧g<c.p) (x:Int):At c (s.set (c.slots g) x) {m with slots:=fset m.slots g (nv x)}:=by
 have ha:c.slots g=30+4*c.t+6*g+4:=pc_val h.ok hg 4
 have h1:=Cf.ok_iff.1 h.ok
 have h2:=cells_val h.ok
 have ht:s.there (c.slots g)=true:=h.there (by omega) (by omega)
 refine ⟨h.ok,h.full.set _ _,(s.set_same _ _).1.trans h.n,?_,?_,?_,?_,?_,?_,?_,?_,?_,?_,?_,?_⟩
 ·intro g' hg';rw [cur_set ht,if_neg (by omega)];exact h.info g' hg'
 ·intro g' hg';rw [cur_set ht,if_neg (by omega)];exact h.foot g' hg'
 ·intro g' hg';rw [cur_set ht,if_neg (by omega)];exact h.next g' hg'
 ·intro g' hg';rw [cur_set ht,if_neg (by omega)];exact h.prev g' hg'
 ·intro g' hg';rw [cur_set ht];by_cases e:g'=g
  ·subst e;rw [if_pos (by omega)];exact (fset_same _ _ _).symm
  ·rw [if_neg (by omega),h.slots g' hg'];exact (fset_ne e).symm
 ·intro g' hg';rw [cur_set ht,if_neg (by omega)];exact h.taken g' hg'
 ·intro g' hg';rw [cur_set ht,if_neg (by omega)];exact h.bin g' hg'
 ·intro g' hg';rw [cur_set ht,if_neg (by omega)];exact h.rack g' hg'
 ·intro g' hg';rw [cur_set ht,if_neg (by omega)];exact h.root g' hg'
 ·intro t' f' ht' hf';rw [cur_set ht,if_neg (by omega)];exact h.dn t' f' ht' hf'
 ·rw [cur_set ht,if_neg (by omega)];exact h.fr
 ·rw [cur_set ht,if_neg (by omega)];exact h.lv
theorem At.get_slots (h:At c s m) {g:Int} (hg:0≤g∧g<c.p):s.get (c.slots g)=m.slots g:=by
 have ha:c.slots g=30+4*c.t+6*g+4:=pc_val h.ok hg 4
 have h1:=Cf.ok_iff.1 h.ok
 have h2:=cells_val h.ok
 have ht:s.there (c.slots g)=true:=h.there (by omega) (by omega)
 rw [get_cur ht,ha];exact h.slots g hg
theorem At.set_taken (h:At c s m) {g:Int} (hg:0≤g∧g<c.p) (x:Int):At c (s.set (c.taken g) x) {m with taken:=fset m.taken g (nv x)}:=by
 have ha:c.taken g=30+4*c.t+6*g+5:=pc_val h.ok hg 5
 have h1:=Cf.ok_iff.1 h.ok
 have h2:=cells_val h.ok
 have ht:s.there (c.taken g)=true:=h.there (by omega) (by omega)
 refine ⟨h.ok,h.full.set _ _,(s.set_same _ _).1.trans h.n,?_,?_,?_,?_,?_,?_,?_,?_,?_,?_,?_,?_⟩
 ·intro g' hg';rw [cur_set ht,if_neg (by omega)];exact h.info g' hg'
 ·intro g' hg';rw [cur_set ht,if_neg (by omega)];exact h.foot g' hg'
 ·intro g' hg';rw [cur_set ht,if_neg (by omega)];exact h.next g' hg'
 ·intro g' hg';rw [cur_set ht,if_neg (by omega)];exact h.prev g' hg'
 ·intro g' hg';rw [cur_set ht,if_neg (by omega)];exact h.slots g' hg'
 ·intro g' hg';rw [cur_set ht];by_cases e:g'=g
  ·subst e;rw [if_pos (by omega)];exact (fset_same _ _ _).symm
  ·rw [if_neg (by omega),h.taken g' hg'];exact (fset_ne e).symm
 ·intro g' hg';rw [cur_set ht,if_neg (by omega)];exact h.bin g' hg'
 ·intro g' hg';rw [cur_set ht,if_neg (by omega)];exact h.rack g' hg'
 ·intro g' hg';rw [cur_set ht,if_neg (by omega)];exact h.root g' hg'
 ·intro t' f' ht' hf';rw [cur_set ht,if_neg (by omega)];exact h.dn t' f' ht' hf'
 ·rw [cur_set ht,if_neg (by omega)];exact h.fr
 ·rw [cur_set ht,if_neg (by omega)];exact h.lv
theorem At.get_taken (h:At c s m) {g:Int} (hg:0≤g∧g<c.p):s.get (c.taken g)=m.taken g:=by
 have ha:c.taken g=30+4*c.t+6*g+5:=pc_val h.ok hg 5
 have h1:=Cf.ok_iff.1 h.ok
 have h2:=cells_val h.ok
 have ht:s.there (c.taken g)=true:=h.there (by omega) (by omega)
 rw [get_cur ht,ha];exact h.taken g hg
theorem At.set_bin (h:At c s m) {k:Int} (hg:0≤k∧k<11) (x:Int):At c (s.set (cBin k) x) {m with bin:=fset m.bin k (nv x)}:=by
 have ha:cBin k=2+k:=cBin_val hg
 have h1:=Cf.ok_iff.1 h.ok
 have h2:=cells_val h.ok
 have ht:s.there (cBin k)=true:=h.there (by omega) (by omega)
 refine ⟨h.ok,h.full.set _ _,(s.set_same _ _).1.trans h.n,?_,?_,?_,?_,?_,?_,?_,?_,?_,?_,?_,?_⟩
 ·intro g' hg';rw [cur_set ht,if_neg (by omega)];exact h.info g' hg'
 ·intro g' hg';rw [cur_set ht,if_neg (by omega)];exact h.foot g' hg'
 ·intro g' hg';rw [cur_set ht,if_neg (by omega)];exact h.next g' hg'
 ·intro g' hg';rw [cur_set ht,if_neg (by omega)];exact h.prev g' hg'
 ·intro g' hg';rw [cur_set ht,if_neg (by omega)];exact h.slots g' hg'
 ·intro g' hg';rw [cur_set ht,if_neg (by omega)];exact h.taken g' hg'
 ·intro g' hg';rw [cur_set ht];by_cases e:g'=k
  ·subst e;rw [if_pos (by omega)];exact (fset_same _ _ _).symm
  ·rw [if_neg (by omega),h.bin g' hg'];exact (fset_ne e).symm
 ·intro g' hg';rw [cur_set ht,if_neg (by omega)];exact h.rack g' hg'
 ·intro g' hg';rw [cur_set ht,if_neg (by omega)];exact h.root g' hg'
 ·intro t' f' ht' hf';rw [cur_set ht,if_neg (by omega)];exact h.dn t' f' ht' hf'
 ·rw [cur_set ht,if_neg (by omega)];exact h.fr
 ·rw [cur_set ht,if_neg (by omega)];exact h.lv
theorem At.get_bin (h:At c s m) {k:Int} (hg:0≤k∧k<11):s.get (cBin k)=m.bin k:=by
 have ha:cBin k=2+k:=cBin_val hg
 have h1:=Cf.ok_iff.1 h.ok
 have h2:=cells_val h.ok
 have ht:s.there (cBin k)=true:=h.there (by omega) (by omega)
 rw [get_cur ht,ha];exact h.bin k hg
theorem At.set_rack (h:At c s m) {k:Int} (hg:0≤k∧k<9) (x:Int):At c (s.set (cRack k) x) {m with rack:=fset m.rack k (nv x)}:=by
 have ha:cRack k=13+k:=cRack_val hg
 have h1:=Cf.ok_iff.1 h.ok
 have h2:=cells_val h.ok
 have ht:s.there (cRack k)=true:=h.there (by omega) (by omega)
 refine ⟨h.ok,h.full.set _ _,(s.set_same _ _).1.trans h.n,?_,?_,?_,?_,?_,?_,?_,?_,?_,?_,?_,?_⟩
 ·intro g' hg';rw [cur_set ht,if_neg (by omega)];exact h.info g' hg'
 ·intro g' hg';rw [cur_set ht,if_neg (by omega)];exact h.foot g' hg'
 ·intro g' hg';rw [cur_set ht,if_neg (by omega)];exact h.next g' hg'
 ·intro g' hg';rw [cur_set ht,if_neg (by omega)];exact h.prev g' hg'
 ·intro g' hg';rw [cur_set ht,if_neg (by omega)];exact h.slots g' hg'
 ·intro g' hg';rw [cur_set ht,if_neg (by omega)];exact h.taken g' hg'
 ·intro g' hg';rw [cur_set ht,if_neg (by omega)];exact h.bin g' hg'
 ·intro g' hg';rw [cur_set ht];by_cases e:g'=k
  ·subst e;rw [if_pos (by omega)];exact (fset_same _ _ _).symm
  ·rw [if_neg (by omega),h.rack g' hg'];exact (fset_ne e).symm
 ·intro g' hg';rw [cur_set ht,if_neg (by omega)];exact h.root g' hg'
 ·intro t' f' ht' hf';rw [cur_set ht,if_neg (by omega)];exact h.dn t' f' ht' hf'
 ·rw [cur_set ht,if_neg (by omega)];exact h.fr
 ·rw [cur_set ht,if_neg (by omega)];exact h.lv
theorem At.get_rack (h:At c s m) {k:Int} (hg:0≤k∧k<9):s.get (cRack k)=m.rack k:=by
 have ha:cRack k=13+k:=cRack_val hg
 have h1:=Cf.ok_iff.1 h.ok
 have h2:=cells_val h.ok
 have ht:s.there (cRack k)=true:=h.there (by omega) (by omega)
 rw [get_cur ht,ha];exact h.rack k hg
theorem At.set_fr (h:At c s m) (x:Int):At c (s.set (0) x) {m with fr:=nv x}:=by
 have ha:(0:Int)=0:=rfl
 have h1:=Cf.ok_iff.1 h.ok
 have h2:=cells_val h.ok
 have ht:s.there (0)=true:=h.there (by omega) (by omega)
 refine ⟨h.ok,h.full.set _ _,(s.set_same _ _).1.trans h.n,?_,?_,?_,?_,?_,?_,?_,?_,?_,?_,?_,?_⟩
 ·intro g' hg';rw [cur_set ht,if_neg (by omega)];exact h.info g' hg'
 ·intro g' hg';rw [cur_set ht,if_neg (by omega)];exact h.foot g' hg'
 ·intro g' hg';rw [cur_set ht,if_neg (by omega)];exact h.next g' hg'
 ·intro g' hg';rw [cur_set ht,if_neg (by omega)];exact h.prev g' hg'
 ·intro g' hg';rw [cur_set ht,if_neg (by omega)];exact h.slots g' hg'
 ·intro g' hg';rw [cur_set ht,if_neg (by omega)];exact h.taken g' hg'
 ·intro g' hg';rw [cur_set ht,if_neg (by omega)];exact h.bin g' hg'
 ·intro g' hg';rw [cur_set ht,if_neg (by omega)];exact h.rack g' hg'
 ·intro g' hg';rw [cur_set ht,if_neg (by omega)];exact h.root g' hg'
 ·intro t' f' ht' hf';rw [cur_set ht,if_neg (by omega)];exact h.dn t' f' ht' hf'
 ·rw [cur_set ht,if_pos rfl]
 ·rw [cur_set ht,if_neg (by omega)];exact h.lv
theorem At.get_fr (h:At c s m):s.get (0)=m.fr:=by
 have ha:(0:Int)=0:=rfl
 have h1:=Cf.ok_iff.1 h.ok
 have h2:=cells_val h.ok
 have ht:s.there (0)=true:=h.there (by omega) (by omega)
 rw [get_cur ht];exact h.fr
theorem At.set_lv (h:At c s m) (x:Int):At c (s.set (1) x) {m with lv:=nv x}:=by
 have ha:(1:Int)=1:=rfl
 have h1:=Cf.ok_iff.1 h.ok
 have h2:=cells_val h.ok
 have ht:s.there (1)=true:=h.there (by omega) (by omega)
 refine ⟨h.ok,h.full.set _ _,(s.set_same _ _).1.trans h.n,?_,?_,?_,?_,?_,?_,?_,?_,?_,?_,?_,?_⟩
 ·intro g' hg';rw [cur_set ht,if_neg (by omega)];exact h.info g' hg'
 ·intro g' hg';rw [cur_set ht,if_neg (by omega)];exact h.foot g' hg'
 ·intro g' hg';rw [cur_set ht,if_neg (by omega)];exact h.next g' hg'
 ·intro g' hg';rw [cur_set ht,if_neg (by omega)];exact h.prev g' hg'
 ·intro g' hg';rw [cur_set ht,if_neg (by omega)];exact h.slots g' hg'
 ·intro g' hg';rw [cur_set ht,if_neg (by omega)];exact h.taken g' hg'
 ·intro g' hg';rw [cur_set ht,if_neg (by omega)];exact h.bin g' hg'
 ·intro g' hg';rw [cur_set ht,if_neg (by omega)];exact h.rack g' hg'
 ·intro g' hg';rw [cur_set ht,if_neg (by omega)];exact h.root g' hg'
 ·intro t' f' ht' hf';rw [cur_set ht,if_neg (by omega)];exact h.dn t' f' ht' hf'
 ·rw [cur_set ht,if_neg (by omega)];exact h.fr
 ·rw [cur_set ht,if_pos rfl]
theorem At.get_lv (h:At c s m):s.get (1)=m.lv:=by
 have ha:(1:Int)=1:=rfl
 have h1:=Cf.ok_iff.1 h.ok
 have h2:=cells_val h.ok
 have ht:s.there (1)=true:=h.there (by omega) (by omega)
 rw [get_cur ht];exact h.lv
end
end
section
def Mm.of (c:Cf) (xs:LI):Mm:=
 {info:= λg=>cel xs (c.info g),foot:= λg=>cel xs (c.foot g),next:= λg=>cel xs (c.next g),prev:= λg=>cel xs (c.prev g),slots:= λg=>cel xs (c.slots g),taken:= λg=>cel xs (c.taken g),
  bin:= λk=>cel xs (cBin k),rack:= λk=>cel xs (cRack k),root:= λk=>cel xs (cRoot k),dn:= λt f=>cel xs (c.done t f),fr:=cel xs 0,lv:=cel xs 1}
structure Sp where
 k:Int
 l:Int
 c:Int
structure Spn (m:Mm) (a:Int) (x:Sp):Prop where
 l1:1≤x.l
 rt:iRight x.k x.l x.c=true
 k0:x.k≠0
 inf:iGet (m.info a)=⟨x.k,x.l,x.c⟩
 iok:infoOk (m.info a)=true
 in0:∀q,a<q→q<a+x.l→m.info q=0
 ft0:∀q,a≤q→q<a+x.l-1→m.foot q=0
 ft:m.foot (a+x.l-1)=nv (a+1)
def Tl (m:Mm):Int→List Sp→Int→Prop
 |a,[],b=>a=b
 |a,x::L,b=>Spn m a x∧Tl m (a+x.l) L b
def begs:Int→List Sp→LI
 |_,[]=>[]
 |a,x::L=>a::begs (a+x.l) L
theorem Tl.app {m:Mm}:∀{L1 L2:List Sp} {a b:Int},Tl m a (L1++L2) b↔∃d,Tl m a L1 d∧Tl m d L2 b
 |[],L2,a,b=>⟨λh=>⟨a,rfl,h⟩, λ⟨d,h1,h2⟩=>by have h1:a=d:=h1;subst h1;exact h2⟩
 |x::L1,L2,a,b=>by
  constructor
  ·rintro ⟨h1,h2⟩
   obtain ⟨d,h3,h4⟩:=Tl.app.1 h2
   exact ⟨d,⟨h1,h3⟩,h4⟩
  ·rintro ⟨d,⟨h1,h3⟩,h4⟩
   exact ⟨h1,Tl.app.2 ⟨d,h3,h4⟩⟩
theorem Tl.le {m:Mm}:∀{L:List Sp} {a b:Int},Tl m a L b→a≤b
 |[],a,b,h=>by have h:a=b:=h;omega
 |x::L,a,b,h=>by have:=h.1.l1;have:=Tl.le h.2;omega
theorem Spn.of_eq {m m':Mm} {a:Int} {x:Sp} (h:Spn m a x) (h1:∀q,a≤q→q<a+x.l→m'.info q=m.info q) (h2:∀q,a≤q→q<a+x.l→m'.foot q=m.foot q):Spn m' a x:=by
 have hl:=h.l1
 exact {l1:=hl,rt:=h.rt,k0:=h.k0,inf:=by rw [h1 a (by omega) (by omega)];exact h.inf,iok:=by rw [h1 a (by omega) (by omega)];exact h.iok,in0:= λq a b=>by rw [h1 q (by omega) b];exact h.in0 q a b,ft0:= λq a b=>by rw [h2 q a (by omega)];exact h.ft0 q a b,ft:=by rw [h2 _ (by omega) (by omega)];exact h.ft}
theorem Tl.of_eq {m m':Mm}:∀{L:List Sp} {a b:Int},Tl m a L b→(∀q,a≤q→q<b→m'.info q=m.info q)→(∀q,a≤q→q<b→m'.foot q=m.foot q)→Tl m' a L b
 |[],_,_,h,_,_=>h
 |x::L,a,b,h,h1,h2=>by
  have:=h.1.l1
  have:=Tl.le h.2
  exact ⟨h.1.of_eq (λq a b=>h1 q a (by omega)) (λq a b=>h2 q a (by omega)),Tl.of_eq h.2 (λq a b=>h1 q (by omega) b) λq a b=>h2 q (by omega) b⟩
end
section
inductive Hq where
 |bin (k:Int)
 |rack (k:Int)
deriving DecidableEq
def Mm.hd (m:Mm):Hq→Int
 | .bin k=>m.bin k
 | .rack k=>m.rack k
def Mm.setHd (m:Mm) (h:Hq) (x:Int):Mm:=
 match h with
 | .bin k=>{m with bin:=fset m.bin k x}
 | .rack k=>{m with rack:=fset m.rack k x}
def Sg' (m:Mm) (p:Int):Int→Int→LI→Int→Int→Prop
 |q,b,[],q',b'=>q=q'∧b=b'
 |q,b,g::r,q',b'=>q=g+1∧(0≤g∧g<p)∧m.prev g=b∧Sg' m p (m.next g) q r q' b'
theorem Sg'.app {m:Mm} {p:Int}:∀{l1 l2:LI} {q b q' b':Int},Sg' m p q b (l1++l2) q' b'↔∃q1 b1,Sg' m p q b l1 q1 b1∧Sg' m p q1 b1 l2 q' b'
 |[],l2,q,b,q',b'=>⟨λh=>⟨q,b,⟨rfl,rfl⟩,h⟩, λ⟨q1,b1,⟨h1,h2⟩,h3⟩=>by subst h1;subst h2;exact h3⟩
 |g::l1,l2,q,b,q',b'=>by
  constructor
  ·rintro ⟨h1,h2,h3,h4⟩
   obtain ⟨q1,b1,h5,h6⟩:=Sg'.app.1 h4
   exact ⟨q1,b1,⟨h1,h2,h3,h5⟩,h6⟩
  ·rintro ⟨q1,b1,⟨h1,h2,h3,h5⟩,h6⟩
   exact ⟨h1,h2,h3,Sg'.app.2 ⟨q1,b1,h5,h6⟩⟩
theorem Sg'.of_eq {m m':Mm} {p:Int}:∀{l:LI} {q b q' b':Int},Sg' m p q b l q' b'→(∀g∈l,m'.next g=m.next g)→(∀g∈l,m'.prev g=m.prev g)→Sg' m' p q b l q' b'
 |[],_,_,_,_,h,_,_=>h
 |g::l,q,b,q',b',⟨h1,h2,h3,h4⟩,hn,hp=>by
  refine ⟨h1,h2,(hp g (by simp)).trans h3,?_⟩
  rw [hn g (by simp)]
  exact Sg'.of_eq h4 (λx hx=>hn x (by simp [hx])) λx hx=>hp x (by simp [hx])
abbrev DL (m:Mm) (p:Int) (h:Hq) (l:LI):Prop:=∃b',Sg' m p (m.hd h) 0 l 0 b'
def mPush (m:Mm) (h:Hq) (g:Int):Mm:=
 let q:=m.hd h
 {m with next:=fset m.next g q,prev:=bif q==0 then fset m.prev g 0 else fset (fset m.prev g 0) (q-1) (g+1)}.setHd h (g+1)
def mPull (m:Mm) (h:Hq) (g:Int):Mm:=
 let n:=m.next g
 let b:=m.prev g
 let m1:=bif b==0 then m.setHd h n else {m with next:=fset m.next (b-1) n}
 let m2:=bif n==0 then m1 else {m1 with prev:=fset m1.prev (n-1) b}
 {m2 with next:=fset m2.next g 0,prev:=fset m2.prev g 0}
def Hq.ok:Hq→Prop
 | .bin k=>0≤k∧k<11
 | .rack k=>0≤k∧k<9
def Hq.ad:Hq→Int
 | .bin k=>cBin k
 | .rack k=>cRack k
theorem nv0:nv 0=0:=rfl
theorem cur_bd (s:VS) (i:Int):0≤s.cur i∧s.cur i<4294967296:=by
 unfold VS.cur
 split
 ·exact nv_bd _
 ·split
  ·exact nv_bd _
  ·exact ⟨by decide,by decide⟩
section
variable {c:Cf} {s:VS} {m:Mm}
theorem At.next_bd (h:At c s m) {g:Int} (hg:0≤g∧g<c.p):0≤m.next g∧m.next g<4294967296:=by rw [←h.next g hg];exact cur_bd _ _
theorem At.prev_bd (h:At c s m) {g:Int} (hg:0≤g∧g<c.p):0≤m.prev g∧m.prev g<4294967296:=by rw [←h.prev g hg];exact cur_bd _ _
theorem At.hd_bd (h:At c s m) {q:Hq} (hq:q.ok):0≤m.hd q∧m.hd q<4294967296:=by
 cases q with
 |bin k=>show 0≤m.bin k∧m.bin k<4294967296;rw [←h.bin k hq];exact cur_bd _ _
 |rack k=>show 0≤m.rack k∧m.rack k<4294967296;rw [←h.rack k hq];exact cur_bd _ _
theorem At.get_hd (h:At c s m) {q:Hq} (hq:q.ok):s.get q.ad=m.hd q:=by
 cases q with
 |bin k=>exact h.get_bin hq
 |rack k=>exact h.get_rack hq
theorem At.set_hd (h:At c s m) {q:Hq} (hq:q.ok) (x:Int):At c (s.set q.ad x) (m.setHd q (nv x)):=by
 cases q with
 |bin k=>exact h.set_bin hq x
 |rack k=>exact h.set_rack hq x
theorem Cf.page_iff {c:Cf} {g:Int}:c.page g=true↔0≤g∧g<c.p:=by simp [Cf.page]
theorem push_at (h:At c s m) {q:Hq} (hq:q.ok) {g:Int} (hg:0≤g∧g<c.p) (hh:m.hd q=0∨(0≤m.hd q-1∧m.hd q-1<c.p)):At c ((pPush c q.ad g).run s).1 (mPush m q g):=by
 have hp:=Cf.ok_iff.1 h.ok
 have hb:=h.hd_bd hq
 have e1:nv (g+1)=g+1:=nv_id (by omega)
 have e2:nv (m.hd q)=m.hd q:=nv_id hb
 unfold pPush
 rw [Cf.page_iff.2 hg,cond_true]
 simp only [Pg.run_get,Pg.run_put,Pg.run_bind]
 rw [h.get_hd hq]
 have h1:=((h.read q.ad).set_next hg (m.hd q)).set_prev hg 0
 rw [e2,nv0] at h1
 unfold mPush
 dsimp only
 cases hz:m.hd q==0 with
 |true=>
  simp only [cond_true,Pg.run_ret]
  have h2:=h1.set_hd hq (nv (g+1))
  rw [show nv (nv (g+1))=g+1 by rw [e1,e1]] at h2
  exact h2
 |false=>
  simp only [cond_false,Pg.run_put,Pg.run_ret]
  have hz':m.hd q≠0:=by simpa using hz
  have hv:0≤m.hd q-1∧m.hd q-1<c.p:=by omega
  have h2:=(h1.set_prev hv (nv (g+1))).set_hd hq (nv (g+1))
  rw [show nv (nv (g+1))=g+1 by rw [e1,e1]] at h2
  exact h2
theorem pull_at (h:At c s m) {q:Hq} (hq:q.ok) {g:Int} (hg:0≤g∧g<c.p) (hn:m.next g=0∨(0≤m.next g-1∧m.next g-1<c.p)) (hb:m.prev g=0∨(0≤m.prev g-1∧m.prev g-1<c.p)):At c ((pPull c q.ad g).run s).1 (mPull m q g):=by
 have e1:nv (m.next g)=m.next g:=nv_id (h.next_bd hg)
 have e2:nv (m.prev g)=m.prev g:=nv_id (h.prev_bd hg)
 unfold pPull
 rw [Cf.page_iff.2 hg,cond_true]
 simp only [Pg.run_get,Pg.run_put,Pg.run_bind]
 have h0:=h.read (c.next g)
 rw [h.get_next hg,h0.get_prev hg]
 have h1:=h0.read (c.prev g)
 have key:∀(s1:VS) (m1:Mm),At c s1 m1→At c (((((bif m.next g==0 then Pg.ret () else Pg.put (c.prev (m.next g-1)) (m.prev g) (.ret ())).run s1).1.set (c.next g) 0).set (c.prev g) 0)) (let m2:=bif m.next g==0 then m1 else {m1 with prev:=fset m1.prev (m.next g-1) (m.prev g)};{m2 with next:=fset m2.next g 0,prev:=fset m2.prev g 0}):=by
  intro s1 m1 h2
  cases hz:m.next g==0 with
  |true=>
   have h3:=(h2.set_next hg 0).set_prev hg 0
   rw [nv0] at h3
   exact h3
  |false=>
   have hz':m.next g≠0:=by simpa using hz
   have h3:=((h2.set_prev (show 0≤m.next g-1∧m.next g-1<c.p by omega) (m.prev g)).set_next hg 0).set_prev hg 0
   rw [e2,nv0] at h3
   exact h3
 unfold mPull
 dsimp only at key ⊢
 cases hz:m.prev g==0 with
 |true=>
  have h2:=h1.set_hd hq (m.next g)
  rw [e1] at h2
  exact key _ _ h2
 |false=>
  have hz':m.prev g≠0:=by simpa using hz
  have h2:=h1.set_next (show 0≤m.prev g-1∧m.prev g-1<c.p by omega) (m.next g)
  rw [e1] at h2
  exact key _ _ h2
end
end
section
section
variable (m:Mm) (h:Hq) (x:Int)
theorem setHd_next:(m.setHd h x).next=m.next:=by cases h<;>rfl
theorem setHd_prev:(m.setHd h x).prev=m.prev:=by cases h<;>rfl
theorem setHd_hd (h':Hq):(m.setHd h x).hd h'=if h'=h then x else m.hd h':=by
 cases h<;>cases h'<;>simp [Mm.setHd,Mm.hd,fset]
end
section
variable {m:Mm} {p:Int} {q:Hq} {g:Int}
theorem push_next (y:Int):(mPush m q g).next y=if y=g then m.hd q else m.next y:=by
 unfold mPush;dsimp only;rw [setHd_next];rfl
theorem push_prev (y:Int):(mPush m q g).prev y=if m.hd q≠0∧y=m.hd q-1 then g+1 else if y=g then 0 else m.prev y:=by
 unfold mPush;dsimp only;rw [setHd_prev];dsimp only
 cases hz:m.hd q==0 with
 |true=>
  have:m.hd q=0:=by simpa using hz
  simp [this,fset]
 |false=>
  have:m.hd q≠0:=by simpa using hz
  simp [this,fset]
theorem push_hd (q':Hq):(mPush m q g).hd q'=if q'=q then g+1 else m.hd q':=by
 unfold mPush;dsimp only;rw [setHd_hd];cases q'<;>rfl
theorem push_list {l:LI} (hl:DL m p q l) (hg:0≤g∧g<p) (hn:g ∉ l) (hd:l.Nodup):DL (mPush m q g) p q (g::l):=by
 obtain ⟨b',hl⟩:=hl
 have eh:(mPush m q g).hd q=g+1:=by rw [push_hd,if_pos rfl]
 have en:(mPush m q g).next g=m.hd q:=by rw [push_next,if_pos rfl]
 cases l with
 |nil=>
  obtain ⟨h1,h2⟩:=hl
  refine ⟨g+1,eh,hg,?_,?_⟩
  ·rw [push_prev,if_neg (by omega),if_pos rfl]
  ·rw [en];exact ⟨h1,eh⟩
 |cons x r=>
  obtain ⟨h1,h2,h3,h4⟩:=hl
  have hx:x≠g:= λe=>hn (by simp [e])
  have hxr:g ∉ r:= λe=>hn (by simp [e])
  have hd':=(lN.1 hd).1
  refine ⟨b',eh,hg,?_,?_,h2,?_,?_⟩
  ·rw [push_prev,if_neg (by omega),if_pos rfl]
  ·rw [en,h1]
  ·rw [push_prev,if_pos (by omega),eh]
  ·rw [push_next,if_neg hx,en]
   refine Sg'.of_eq h4 (λy hy=>?_) λy hy=>?_
   ·rw [push_next,if_neg (λ(e:y=g)=>hxr (e▸hy))]
   ·rw [push_prev,if_neg (λe=>hd' (by have:y=x:=by omega
                                      exact this▸hy)),if_neg (λ(e:y=g)=>hxr (e▸hy))]
theorem push_other {q':Hq} {l l':LI} (hl:DL m p q l) (hl':DL m p q' l') (hq:q'≠q) (hn:g ∉ l') (hd:∀y∈l,y ∉ l'):DL (mPush m q g) p q' l':=by
 obtain ⟨b1,hl⟩:=hl
 obtain ⟨b',hl'⟩:=hl'
 refine ⟨b',?_⟩
 rw [push_hd,if_neg hq]
 refine Sg'.of_eq hl' (λy hy=>?_) λy hy=>?_
 ·rw [push_next,if_neg (λ(e:y=g)=>hn (e▸hy))]
 ·rw [push_prev,if_neg (λe=>?_),if_neg (λ(e:y=g)=>hn (e▸hy))]
  cases l with
  |nil=>exact e.1 hl.1
  |cons x r=>
   have:=hl.1
   exact hd x (by simp) (by have:y=x:=by omega
                            exact this▸hy)
theorem pull_next (y:Int):(mPull m q g).next y=if y=g then 0 else if m.prev g≠0∧y=m.prev g-1 then m.next g else m.next y:=by
 unfold mPull;dsimp only
 cases hz:m.prev g==0<;>cases hw:m.next g==0<;>simp only [cond_true,cond_false,setHd_next,fset]<;>simp only [beq_iff_eq,beq_eq_false_iff_ne,ne_eq] at hz hw<;>simp [hz]
theorem pull_prev (y:Int):(mPull m q g).prev y=if y=g then 0 else if m.next g≠0∧y=m.next g-1 then m.prev g else m.prev y:=by
 unfold mPull;dsimp only
 cases hz:m.prev g==0<;>cases hw:m.next g==0<;>simp only [cond_true,cond_false,setHd_prev,fset]<;>simp only [beq_iff_eq,beq_eq_false_iff_ne,ne_eq] at hz hw<;>simp [hw]
theorem pull_hd (q':Hq):(mPull m q g).hd q'=if q'=q∧m.prev g=0 then m.next g else m.hd q':=by
 unfold mPull;dsimp only
 cases hz:m.prev g==0<;>cases hw:m.next g==0<;>simp only [cond_true,cond_false]<;>simp only [beq_iff_eq,beq_eq_false_iff_ne,ne_eq] at hz hw<;>cases q'<;>simp [hz,Mm.hd,Mm.setHd]<;>cases q<;>simp [fset]
theorem Sg'.last:∀{l:LI} {a b q1 b1:Int},Sg' m p a b l q1 b1→l≠[]→∃y∈l,b1=y+1
 |[],_,_,_,_,_,h=>absurd rfl h
 |[y],_,_,_,_,⟨h1,_,_,_,h5⟩,_=>⟨y,by simp,by omega⟩
 |y::z::r,_,_,_,_,⟨_,_,_,h4⟩,_=>by
  obtain ⟨w,hw,e⟩:=Sg'.last h4 (by simp)
  exact ⟨w,by simp only [iH] at hw ⊢;exact .inr hw,e⟩
theorem Sg'.pages:∀{l:LI} {a b q1 b1:Int},Sg' m p a b l q1 b1→∀y∈l,0≤y∧y<p
 |[],_,_,_,_,_,_,h=>by cases h
 |y::r,_,_,_,_,⟨_,h2,_,h4⟩,z,hz=>by
  rcases iH.1 hz with rfl|hz
  ·exact h2
  ·exact Sg'.pages h4 z hz
theorem Sg'.relink {m':Mm} {q1':Int}:∀{l:LI} {a b q1 b1:Int},Sg' m p a b l q1 b1→(∀y∈l,m'.prev y=m.prev y)→(∀y∈l,y+1≠b1→m'.next y=m.next y)→(∀y∈l,y+1=b1→m'.next y=q1')→l.Nodup→l≠[]→Sg' m' p a b l q1' b1
 |[],_,_,_,_,_,_,_,_,_,h=>absurd rfl h
 |[y],a,b,q1,b1,⟨h1,h2,h3,h4,h5⟩,hp,_,hq,_,_=>⟨h1,h2,(hp y (by simp)).trans h3,hq y (by simp) (by omega),h5⟩
 |y::z::r,a,b,q1,b1,⟨h1,h2,h3,h4⟩,hp,hn,hq,hd,_=>by
  obtain ⟨w,hw,e⟩:=Sg'.last h4 (by simp)
  have hd':=lN.1 hd
  have hy:y+1≠b1:= λe'=>hd'.1 (by have:y=w:=by omega
                                  exact this▸hw)
  refine ⟨h1,h2,(hp y (by simp)).trans h3,?_⟩
  rw [hn y (by simp) hy]
  exact Sg'.relink h4 (λx hx=>hp x (by simp only [iH] at hx ⊢;exact .inr hx)) (λx hx=>hn x (by simp only [iH] at hx ⊢;exact .inr hx)) (λx hx=>hq x (by simp only [iH] at hx ⊢;exact .inr hx)) hd'.2 (by simp)
theorem pull_list {l1 l2:LI} (hl:DL m p q (l1++g::l2)) (hd:(l1++g::l2).Nodup):DL (mPull m q g) p q (l1++l2):=by
 obtain ⟨b',hl⟩:=hl
 obtain ⟨q1,b1,hA,h1,h2,h3,hB⟩:=Sg'.app.1 hl
 have hd1:=pM.1 hd
 have hg1:g ∉ l1:= λe=>hd1.2.2 g e g (by simp) rfl
 have hg2:g ∉ l2:=(lN.1 hd1.2.1).1
 have hdis:∀y∈l1,y ∉ l2:= λy hy hy2=>hd1.2.2 y hy y (by simp [hy2]) rfl
 have hpg:=Sg'.pages hA
 have hb1:l1≠[]→∃y∈l1,b1=y+1:=Sg'.last hA
 have hB':∃b'',Sg' (mPull m q g) p (m.next g) b1 l2 0 b'':=by
  cases l2 with
  |nil=>exact ⟨b1,hB.1,rfl⟩
  |cons z r=>
   obtain ⟨e1,e2,e3,e4⟩:=hB
   have hz:z≠g:= λe=>hg2 (by simp [e])
   have hgr:g ∉ r:= λe=>hg2 (by simp [e])
   have hzr:=(lN.1 (lN.1 hd1.2.1).2).1
   have hzb:∀y∈z::r,¬(m.prev g≠0∧y=m.prev g-1):= λy hy ⟨n1,n2⟩=>by
    cases hc:l1 with
    |nil=>rw [hc] at hA;have:=hA.2;omega
    |cons u v=>
     obtain ⟨w,hw,ew⟩:=hb1 (by rw [hc];simp)
     have:y=w:=by omega
     exact hdis w hw (this▸hy)
   refine ⟨b',e1,e2,?_,?_⟩
   ·rw [pull_prev,if_neg hz,if_pos ⟨by omega,by omega⟩,h3]
   ·rw [pull_next,if_neg hz,if_neg (hzb z (by simp))]
    refine Sg'.of_eq e4 (λy hy=>?_) λy hy=>?_
    ·rw [pull_next,if_neg (λ(e:y=g)=>hgr (e▸hy)),if_neg (hzb y (by simp [hy]))]
    ·rw [pull_prev,if_neg (λ(e:y=g)=>hgr (e▸hy)),if_neg (λ⟨_,e⟩=>hzr ((show y=z by omega)▸hy))]
 obtain ⟨b'',hB'⟩:=hB'
 have hnl:∀y∈l1,¬(m.next g≠0∧y=m.next g-1):= λy hy ⟨n1,n2⟩=>by
  cases l2 with
  |nil=>exact n1 hB.1
  |cons z r=>
   have:=hB.1
   exact hdis y hy (by have:y=z:=by omega
                       rw [this];simp)
 refine ⟨b'',Sg'.app.2 ⟨m.next g,b1,?_,hB'⟩⟩
 by_cases hc:l1=[]
 ·subst hc
  obtain ⟨e1,e2⟩:=hA
  rw [pull_hd,if_pos ⟨rfl,by omega⟩]
  exact ⟨rfl,e2⟩
 ·obtain ⟨w,hw,ew⟩:=hb1 hc
  have:=hpg w hw
  rw [pull_hd,if_neg (λ⟨_,e⟩=>by omega)]
  refine Sg'.relink hA (λy hy=>?_) (λy hy hne=>?_) (λy hy he=>?_) hd1.1 hc
  ·rw [pull_prev,if_neg (λ(e:y=g)=>hg1 (e▸hy)),if_neg (hnl y hy)]
  ·rw [pull_next,if_neg (λ(e:y=g)=>hg1 (e▸hy)),if_neg (λ⟨_,e⟩=>by omega)]
  ·rw [pull_next,if_neg (λ(e:y=g)=>hg1 (e▸hy)),if_pos ⟨by omega,by omega⟩]
theorem pull_other {q':Hq} {l l':LI} (hl:DL m p q l) (hg:g∈l) (hl':DL m p q' l') (hq:q'≠q) (hd:∀y∈l,y ∉ l'):DL (mPull m q g) p q' l':=by
 obtain ⟨l1,l2,rfl⟩:=List.append_of_mem hg
 obtain ⟨b',hl⟩:=hl
 obtain ⟨q1,b1,hA,h1,h2,h3,hB⟩:=Sg'.app.1 hl
 obtain ⟨b2,hl'⟩:=hl'
 have hgl:g ∉ l':=hd g (by simp)
 have hp1:∀y∈l',¬(m.prev g≠0∧y=m.prev g-1):= λy hy ⟨n1,n2⟩=>by
  by_cases hc:l1=[]
  ·subst hc;have:=hA.2;omega
  ·obtain ⟨w,hw,ew⟩:=Sg'.last hA hc
   exact hd w (by simp [hw]) (by have:y=w:=by omega
                                 exact this▸hy)
 have hp2:∀y∈l',¬(m.next g≠0∧y=m.next g-1):= λy hy ⟨n1,n2⟩=>by
  cases l2 with
  |nil=>exact n1 hB.1
  |cons z r=>
   have:=hB.1
   exact hd z (by simp) (by have:y=z:=by omega
                            exact this▸hy)
 refine ⟨b2,?_⟩
 rw [pull_hd,if_neg (λ⟨e,_⟩=>hq e)]
 refine Sg'.of_eq hl' (λy hy=>?_) λy hy=>?_
 ·rw [pull_next,if_neg (λ(e:y=g)=>hgl (e▸hy)),if_neg (hp1 y hy)]
 ·rw [pull_prev,if_neg (λ(e:y=g)=>hgl (e▸hy)),if_neg (hp2 y hy)]
end
end
end Go.Sl
namespace Go.Proofs.YtinpgnomkmmfdaaGreat
section
open Go.Sl
section
variable {c:Cf} {xs:LI}
theorem listF_dl (hx:AGood c xs):∀(f:Nat) (q ahead:Int) (out:LI),0≤q→(listF c xs f q ahead out).2=true→∃l b',(listF c xs f q ahead out).1=out++l∧Sg' (Mm.of c xs) c.p q ahead l 0 b'∧out.length+l.length≤c.p.toNat+(if l=[] then out.length else 0)
 |0,_,_,_,_,h=>by simp [listF] at h
 |f+1,q,ahead,out,hq,h=>by
  simp only [listF] at h ⊢
  cases h0:q==0 with
  |true=>
   simp only [cond_true]
   exact ⟨[],ahead,by simp,⟨by simpa using h0,rfl⟩,by simp⟩
  |false=>
   rw [h0,cond_false] at h
   simp only [cond_false]
   have hq0:q≠0:=by simpa using h0
   cases h1:(decide (q>c.p)||decide ((out.length:Int)≥c.p)) with
   |true=>rw [h1] at h;cases h
   |false=>
    rw [h1,cond_false] at h
    simp only [cond_false]
    simp only [jB,decide_eq_false_iff_not] at h1
    cases h2:cel xs (c.prev (q-1)) !=ahead with
    |true=>rw [h2] at h;cases h
    |false=>
     rw [h2,cond_false] at h
     simp only [cond_false]
     have hb:=cel_bd hx (c.next (q-1))
     obtain ⟨l,b',e1,e2,e3⟩:=listF_dl hx f _ _ _ hb.1 h
     refine ⟨(q-1)::l,b',by rw [e1];simp,⟨by omega,by omega,(show cel xs (c.prev (q-1))=ahead by simpa using h2),e2⟩,?_⟩
     simp only [jL,jJ,nY,reduceCtorEq,if_false] at e3 ⊢
     by_cases hl:l=[]
     ·subst hl;simp at e3 ⊢;omega
     ·rw [if_neg hl] at e3;omega
theorem dl_listF (hx:AGood c xs):∀(l:LI) (f:Nat) (q ahead b':Int) (out:LI),Sg' (Mm.of c xs) c.p q ahead l 0 b'→l.length<f→(out.length+l.length:Int)≤c.p→listF c xs f q ahead out=(out++l,true)
 |_,0,_,_,_,_,_,h,_=>by omega
 |[],f+1,q,ahead,b',out,h,_,_=>by
  have:q=0:=h.1
  simp [listF,this]
 |g::l,f+1,q,ahead,b',out,⟨h1,h2,h3,h4⟩,hf,hl=>by
  simp only [jJ] at hf hl
  have e0:(q==0)=false:=by simp;omega
  have e1:(decide (q>c.p)||decide ((out.length:Int)≥c.p))=false:=by
   simp only [jB,decide_eq_false_iff_not];push_cast at hl;omega
  have eg:q-1=g:=by omega
  have e2:(cel xs (c.prev (q-1)) !=ahead)=false:=by
   rw [eg]
   have:cel xs (c.prev g)=ahead:=h3
   simp [this]
  simp only [listF,e0,e1,e2,cond_false]
  have:=dl_listF hx l f _ _ b' (out++[g]) h4 (by omega) (by simp only [jL,jJ,nY];push_cast at hl ⊢;omega)
  rw [eg]
  exact this.trans (by simp)
def Ch (c:Cf) (xs:LI):Int→LI→Prop
 |a,[]=>a=c.p
 |a,x::l=>a=x∧a<c.p∧infoOk (cel xs (c.info a))=true∧(aInfo c xs a).k≠0∧1≤(aInfo c xs a).l∧Ch c xs (a+(aInfo c xs a).l) l
theorem startsF_ch:∀(f:Nat) (a:Int) (out:LI),(startsF c xs f a out).2=true→∃l,(startsF c xs f a out).1=out++l∧Ch c xs a l
 |0,a,out,h=>⟨[],by simp [startsF],(show a=c.p by simpa [startsF] using h)⟩
 |f+1,a,out,h=>by
  simp only [startsF] at h ⊢
  cases hd:decide (a<c.p) with
  |false=>
   rw [hd] at h
   simp only [cond_false] at h ⊢
   exact ⟨[],by simp,(show a=c.p by simpa using h)⟩
  |true=>
   rw [hd,cond_true] at h
   simp only [cond_true]
   cases hc:(!infoOk (cel xs (c.info a))||(aInfo c xs a).k==0) with
   |true=>rw [hc] at h;cases h
   |false=>
    rw [hc,cond_false] at h
    simp only [cond_false]
    obtain ⟨l,e1,e2⟩:=startsF_ch f _ _ h
    simp only [jB,jZ] at hc
    exact ⟨a::l,by rw [e1];simp,rfl,by simpa using hd,hc.1,by simpa using hc.2,iGet_len hc.1 hc.2,e2⟩
theorem ch_startsF:∀(l:LI) (f:Nat) (a:Int) (out:LI),Ch c xs a l→l.length<f→startsF c xs f a out=(out++l,true)
 |_,0,_,_,_,h=>by omega
 |[],f+1,a,out,h,_=>by
  have h:a=c.p:=h
  simp [startsF,h]
 |x::l,f+1,a,out,⟨h1,h2,h3,h4,h5,h6⟩,hf=>by
  have e1:decide (a<c.p)=true:=by simpa using h2
  have e2:(!infoOk (cel xs (c.info a))||(aInfo c xs a).k==0)=false:=by simp [h3,h4]
  simp only [startsF,e1,e2,cond_true,cond_false]
  rw [ch_startsF l f _ _ h6 (by simp at hf;omega)]
  subst h1;simp
theorem Ch.le:∀{l:LI} {a:Int},Ch c xs a l→a+l.length≤c.p
 |[],a,h=>by have h:a=c.p:=h;simp;omega
 |x::l,a,⟨_,_,_,_,h5,h6⟩=>by have:=Ch.le h6;simp only [jJ];push_cast;omega
theorem Ch.ge:∀{l:LI} {a:Int},Ch c xs a l→∀x∈l,a≤x
 |[],_,_,_,h=>by cases h
 |y::l,a,⟨h1,_,_,_,h5,h6⟩,x,hx=>by
  rcases iH.1 hx with rfl|hx
  ·omega
  ·have:=Ch.ge h6 x hx;omega
theorem starts_iff (hp:0≤c.p) {l:LI}:starts c xs=(l,true)↔Ch c xs 0 l:=by
 constructor
 ·intro h
  have h2:(startsF c xs (c.p.toNat+1) 0 []).2=true:=by unfold starts at h;rw [h]
  obtain ⟨l',e1,e2⟩:=startsF_ch _ _ _ h2
  have:l=l':=by
   have e3:(startsF c xs (c.p.toNat+1) 0 []).1=l:=by unfold starts at h;rw [h]
   rw [←e3,e1];simp
  rw [this];exact e2
 ·intro h
  have:=h.le
  unfold starts
  rw [ch_startsF l _ 0 [] h (by omega)];simp
theorem drop_at {l:LI} {n:Nat} (h:n<l.length):l.drop n=l.getD n 0::l.drop (n+1):=by
 rw [pW h,iD,iM h];rfl
theorem tilesF_iff (l:LI):∀(k n:Nat),(l.drop n).Pairwise (· < ·)→(∀x∈l.drop n,c.p-k≤x∧x<c.p)→(tilesF c xs l k n=true↔∀q:Int,c.p-k≤q→q<c.p→q∈l.drop n∨cel xs (c.info q)=0)
 |0,n,_,_=>by
  simp only [tilesF,true_iff]
  intro q h1 h2;omega
 |k+1,n,hs,hb=>by
  simp only [tilesF]
  cases hc:(decide (n<l.length)&&l.getD n 0==c.p-(k+1:Nat)) with
  |true=>
   simp only [iE,decide_eq_true_eq,beq_iff_eq] at hc
   have hd:=drop_at hc.1
   rw [hc.2] at hd
   rw [hd] at hs hb ⊢
   have hs':=List.pairwise_cons.1 hs
   simp only [cond_true]
   rw [tilesF_iff l k (n+1) hs'.2 (λx hx=>⟨by have:=hs'.1 x hx;push_cast at this;omega,(hb x (by simp [hx])).2⟩)]
   constructor
   ·intro h q h1 h2
    by_cases hq:q=c.p-(k+1:Nat)
    ·left;rw [hq];simp
    ·rcases h q (by push_cast at hq h1;omega) h2 with h3|h3
     ·left;simp [h3]
     ·exact .inr h3
   ·intro h q h1 h2
    rcases h q (by push_cast;omega) h2 with h3|h3
    ·rcases iH.1 h3 with h4|h4
     ·exfalso;push_cast at h4;omega
     ·exact .inl h4
    ·exact .inr h3
  |false=>
   simp only [cond_false]
   have hn:∀x∈l.drop n,x≠c.p-(k+1:Nat):= λx hx e=>by
    have hlt:n<l.length:=by
     rcases jO n l.length with h|h
     ·exact h
     ·rw [List.drop_of_length_le h] at hx;cases hx
    have hd:=drop_at hlt
    rw [hd] at hx hs hb
    have h1:l.getD n 0≠c.p-(k+1:Nat):= λe'=>by
     have:(decide (n<l.length)&&l.getD n 0==c.p-(k+1:Nat))=true:=by
      simp only [iE,decide_eq_true_eq,beq_iff_eq];exact ⟨hlt,e'⟩
     rw [hc] at this;cases this
    rcases iH.1 hx with h2|h2
    ·exact h1 (h2▸e)
    ·have h3:=(List.pairwise_cons.1 hs).1 x h2
     have h4:=(hb _ (List.mem_cons_self)).1
     omega
   have hb':∀x∈l.drop n,c.p-k≤x∧x<c.p:= λx hx=>by
    have h1:=hb x hx
    have h2:=hn x hx
    push_cast at h1 h2
    omega
   cases hz:cel xs (c.info (c.p-(k+1:Nat))) !=0 with
   |true=>
    simp only [cond_true,reduceCtorEq,false_iff]
    intro h
    rcases h (c.p-(k+1:Nat)) (mM _) (by push_cast;omega) with h3|h3
    ·exact hn _ h3 rfl
    ·rw [h3] at hz;cases hz
   |false=>
    simp only [cond_false]
    rw [tilesF_iff l k n hs hb']
    constructor
    ·intro h q h1 h2
     by_cases hq:q=c.p-(k+1:Nat)
     ·right;rw [hq];simpa using hz
     ·exact h q (by push_cast at hq h1;omega) h2
    ·intro h q h1 h2
     exact h q (by push_cast;omega) h2
theorem Ch.sorted:∀{l:LI} {a:Int},Ch c xs a l→l.Pairwise (· < ·)
 |[],_,_=>pN
 |y::l,a,⟨h1,_,_,_,h5,h6⟩=>List.pairwise_cons.2 ⟨λx hx=>by have:=Ch.ge h6 x hx;omega,Ch.sorted h6⟩
theorem Ch.lt:∀{l:LI} {a:Int},Ch c xs a l→∀x∈l,x<c.p
 |[],_,_,_,h=>by cases h
 |y::l,a,⟨h1,h2,_,_,_,h6⟩,x,hx=>by
  rcases iH.1 hx with rfl|hx
  ·omega
  ·exact Ch.lt h6 x hx
theorem tiles_iff (hp:0≤c.p):tiles c xs=true↔∃l,starts c xs=(l,true)∧Ch c xs 0 l∧∀q:Int,0≤q→q<c.p→q∈l∨cel xs (c.info q)=0:=by
 unfold tiles
 cases h2:(starts c xs).2 with
 |false=>
  simp only [cond_false,reduceCtorEq,false_iff]
  rintro ⟨l,h,_⟩
  rw [h] at h2;cases h2
 |true=>
  have hs:starts c xs=((starts c xs).1,true):=by rw [←h2]
  have hc:=(starts_iff hp).1 hs
  have e:(c.p.toNat:Int)=c.p:=by omega
  simp only [cond_true]
  rw [tilesF_iff _ _ 0 (by simpa using hc.sorted) (λx hx=>⟨by rw [e];have:=hc.ge x (by simpa using hx);omega,hc.lt x (by simpa using hx)⟩)]
  simp only [oI]
  constructor
  ·intro h
   exact ⟨_,hs,hc, λq h1 h3=>h q (by omega) h3⟩
  ·rintro ⟨l,h,_,h4⟩ q h1 h3
   rw [h];exact h4 q (by omega) h3
def wantF (c:Cf) (xs:LI) (x q:Int):Int:=bif q==x+(aInfo c xs x).l-1 then nv (x+1) else 0
theorem feetF_iff (l:LI):∀(k n:Nat) (a:Int) (r:LI),l.drop n=a::r→Ch c xs a (a::r)→a≤c.p-k→c.p-k≤a+(aInfo c xs a).l→
 (feetF c xs l k n=true↔∀q:Int,c.p-k≤q→q<c.p→∀x∈a::r,x≤q→q<x+(aInfo c xs x).l→cel xs (c.foot q)=wantF c xs x q)
 |0,n,a,r,_,_,_,_=>by
  simp only [feetF,true_iff]
  intro q h1 h2;omega
 |k+1,n,a,r,hd,hc,h1,h2=>by
  have hlt:n<l.length:=by
   rcases jO n l.length with h|h
   ·exact h
   ·rw [List.drop_of_length_le h] at hd;cases hd
  have hda:=drop_at hlt
  rw [hd] at hda
  have ha:l.getD n 0=a:=by injection hda with h _;exact h.symm
  have hr:l.drop (n+1)=r:=by injection hda with _ h;exact h.symm
  obtain ⟨_,c2,c3,c4,c5,c6⟩:=hc
  have hw:∀x q,(bif q==x+(aInfo c xs x).l-1 then nv (x+1) else 0)=wantF c xs x q:= λ_ _=>rfl
  simp only [feetF]
  cases r with
  |nil=>
   have e6:a+(aInfo c xs a).l=c.p:=c6
   have hlen:¬(n+1<l.length):= λh=>by
    have:=drop_at h;rw [hr] at this;cases this
   have e1:(decide (n+1<l.length)&&l.getD (n+1) 0==c.p-(k+1:Nat))=false:=by simp [hlen]
   rw [e1]
   simp only [cond_false]
   rw [ha,hw]
   have ih:=feetF_iff l k n a [] hd ⟨rfl,c2,c3,c4,c5,c6⟩ (by push_cast at h1;omega) (by omega)
   cases hz:cel xs (c.foot (c.p-(k+1:Nat))) !=wantF c xs a (c.p-(k+1:Nat)) with
   |true=>
    simp only [cond_true,reduceCtorEq,false_iff]
    intro h
    have:=h (c.p-(k+1:Nat)) (mM _) (by push_cast;omega) a (by simp) h1 (by push_cast at h2 ⊢;omega)
    rw [this] at hz;simp at hz
   |false=>
    simp only [cond_false]
    rw [ih]
    constructor
    ·intro h q g1 g2 x hx g3 g4
     by_cases hq:q=c.p-(k+1:Nat)
     ·simp only [iY] at hx
      subst hx;rw [hq];simpa using hz
     ·exact h q (by push_cast at hq g1;omega) g2 x hx g3 g4
    ·intro h q g1 g2 x hx g3 g4
     exact h q (by push_cast;omega) g2 x hx g3 g4
  |cons b r'=>
   obtain ⟨d1,d2,d3,d4,d5,d6⟩:=c6
   have hlt2:n+1<l.length:=by
    rcases jO (n+1) l.length with h|h
    ·exact h
    ·rw [List.drop_of_length_le h] at hr;cases hr
   have hdb:=drop_at hlt2
   rw [hr] at hdb
   have hb:l.getD (n+1) 0=b:=by injection hdb with h _;exact h.symm
   have hb2:Ch c xs b (b::r'):=by
    have e:Ch c xs (a+(aInfo c xs a).l) (b::r'):=⟨d1,d2,d3,d4,d5,d6⟩
    rw [d1] at e;exact e
   have hge:∀x∈b::r',b≤x:=hb2.ge
   by_cases hp:c.p-(k+1:Nat)=b
   ·have e1:(decide (n+1<l.length)&&l.getD (n+1) 0==c.p-(k+1:Nat))=true:=by rw [hb,hp];simp [hlt2]
    rw [e1]
    simp only [cond_true]
    rw [hb,hw]
    have d5':1≤(aInfo c xs b).l:=by rw [←d1];exact d5
    have ih:=feetF_iff l k (n+1) b r' hr hb2 (by push_cast at hp;omega) (by push_cast at hp;omega)
    have hb3:Ch c xs (b+(aInfo c xs b).l) r':=hb2.2.2.2.2.2
    have hge2:∀x∈r',b+(aInfo c xs b).l≤x:=hb3.ge
    cases hz:cel xs (c.foot (c.p-(k+1:Nat))) !=wantF c xs b (c.p-(k+1:Nat)) with
    |true=>
     simp only [cond_true,reduceCtorEq,false_iff]
     intro h
     have:=h (c.p-(k+1:Nat)) (mM _) (by push_cast;omega) b (by simp) (by omega) (by omega)
     rw [this] at hz;simp at hz
    |false=>
     simp only [cond_false]
     rw [ih]
     constructor
     ·intro h q g1 g2 x hx g3 g4
      have hxa:x≠a:= λe=>by subst e;push_cast at hp g1;omega
      have hx':x∈b::r':=by
       rcases iH.1 hx with h5|h5
       ·exact absurd h5 hxa
       ·exact h5
      by_cases hq:q=c.p-(k+1:Nat)
      ·have hxb:x=b:=by
        rcases iH.1 hx' with h5|h5
        ·exact h5
        ·have:=hge2 x h5;omega
       subst hxb;rw [hq];simpa using hz
      ·exact h q (by push_cast at hq g1;omega) g2 x hx' g3 g4
     ·intro h q g1 g2 x hx g3 g4
      exact h q (by push_cast;omega) g2 x (by simp only [iH] at hx ⊢;exact .inr hx) g3 g4
   ·have e1:(decide (n+1<l.length)&&l.getD (n+1) 0==c.p-(k+1:Nat))=false:=by
     simp only [hb,mN,beq_eq_false_iff_ne,ne_eq]
     right;omega
    rw [e1]
    simp only [cond_false]
    rw [ha,hw]
    have ih:=feetF_iff l k n a (b::r') hd ⟨rfl,c2,c3,c4,c5,d1,d2,d3,d4,d5,d6⟩ (by push_cast at h1;omega) (by push_cast at h2 hp;omega)
    cases hz:cel xs (c.foot (c.p-(k+1:Nat))) !=wantF c xs a (c.p-(k+1:Nat)) with
    |true=>
     simp only [cond_true,reduceCtorEq,false_iff]
     intro h
     have:=h (c.p-(k+1:Nat)) (mM _) (by push_cast;omega) a (by simp) h1 (by omega)
     rw [this] at hz;simp at hz
    |false=>
     simp only [cond_false]
     rw [ih]
     constructor
     ·intro h q g1 g2 x hx g3 g4
      by_cases hq:q=c.p-(k+1:Nat)
      ·have hxa:x=a:=by
        rcases iH.1 hx with h5|h5
        ·exact h5
        ·have:=hge x h5;omega
       subst hxa;rw [hq];simpa using hz
      ·exact h q (by push_cast at hq g1;omega) g2 x hx g3 g4
     ·intro h q g1 g2 x hx g3 g4
      exact h q (by push_cast;omega) g2 x hx g3 g4
theorem feet_iff (hp:1≤c.p) {l:LI} (h:starts c xs=(l,true)):feet c xs=true↔∀q:Int,0≤q→q<c.p→∀x∈l,x≤q→q<x+(aInfo c xs x).l→cel xs (c.foot q)=wantF c xs x q:=by
 have hc:=(starts_iff (by omega)).1 h
 have e:(c.p.toNat:Int)=c.p:=by omega
 unfold feet
 rw [h]
 cases l with
 |nil=>have:(0:Int)=c.p:=hc;omega
 |cons a r=>
  have ha:(0:Int)=a:=hc.1
  have hc':Ch c xs a (a::r):=by rw [←ha] at hc ⊢;exact hc
  have hl:=hc.2.2.2.2.1
  rw [feetF_iff (a::r) c.p.toNat 0 a r rfl hc' (by omega) (by rw [←ha];omega)]
  constructor
  ·intro g q g1 g2;exact g q (by omega) g2
  ·intro g q g1 g2;exact g q (by omega) g2
def spOf (c:Cf) (xs:LI) (x:Int):Sp:=⟨(aInfo c xs x).k,(aInfo c xs x).l,(aInfo c xs x).c⟩
theorem tl_of:∀(l:LI) (a:Int),Ch c xs a l→(∀q:Int,a≤q→q<c.p→q∈l∨cel xs (c.info q)=0)→(∀q:Int,a≤q→q<c.p→∀x∈l,x≤q→q<x+(aInfo c xs x).l→cel xs (c.foot q)=wantF c xs x q)→Tl (Mm.of c xs) a (l.map (spOf c xs)) c.p
 |[],a,h,_,_=>h
 |x::l,a,⟨h1,h2,h3,h4,h5,h6⟩,ht,hf=>by
  have hge:=Ch.ge h6
  have hle:=Ch.le h6
  subst h1
  have hle':a+(aInfo c xs a).l≤c.p:=by omega
  have hsp:(spOf c xs a).l=(aInfo c xs a).l:=rfl
  refine ⟨?_,?_⟩
  ·exact {l1:=h5,rt:=iGet_right (cel xs (c.info a)),k0:=h4,inf:=rfl,iok:=h3,
          in0:= λq g1 g2=>by
           rcases ht q (by omega) (by rw [hsp] at g2;omega) with h|h
           ·rcases iH.1 h with h|h
            ·omega
            ·have:=hge q h;rw [hsp] at g2;omega
           ·exact h,
          ft0:= λq g1 g2=>by
           rw [hsp] at g2
           have:=hf q g1 (by omega) a (by simp) g1 (by omega)
           unfold wantF at this
           rw [show (q==a+(aInfo c xs a).l-1)=false by simp;omega] at this
           exact this,
          ft:=by
           have:=hf (a+(aInfo c xs a).l-1) (by omega) (by omega) a (by simp) (by omega) (by omega)
           unfold wantF at this
           rw [show (a+(aInfo c xs a).l-1==a+(aInfo c xs a).l-1)=true by simp] at this
           exact this}
  ·refine tl_of l _ h6 (λq g1 g2=>?_) λq g1 g2 y hy=>hf q (by have:a+(spOf c xs a).l≤q:=g1;omega) g2 y (by simp [hy])
   have g1':a+(aInfo c xs a).l≤q:=g1
   rcases ht q (by omega) g2 with h|h
   ·rcases iH.1 h with h|h
    ·omega
    ·exact .inl h
   ·exact .inr h
theorem ch_of_tl:∀(L:List Sp) (a:Int),Tl (Mm.of c xs) a L c.p→Ch c xs a (begs a L)∧(∀q:Int,a≤q→q<c.p→q∈begs a L∨cel xs (c.info q)=0)∧(∀q:Int,a≤q→q<c.p→∀x∈begs a L,x≤q→q<x+(aInfo c xs x).l→cel xs (c.foot q)=wantF c xs x q)∧(begs a L).map (spOf c xs)=L
 |[],a,h=>⟨h, λq g1 g2=>(by have h:a=c.p:=h;omega), λq g1 g2 x hx=>(by cases hx),rfl⟩
 |x::L,a,⟨h,h2⟩=>by
  obtain ⟨i1,i2,i3,i4⟩:=ch_of_tl L _ h2
  have hl:=h.l1
  have hle:=Tl.le h2
  have hinf:aInfo c xs a=⟨x.k,x.l,x.c⟩:=h.inf
  have hal:(aInfo c xs a).l=x.l:=by rw [hinf]
  have hge:=Ch.ge i1
  refine ⟨⟨rfl,by omega,h.iok,by rw [hinf];exact h.k0,by omega,by rw [hal];exact i1⟩, λq g1 g2=>?_, λq g1 g2 y hy g3 g4=>?_,?_⟩
  ·by_cases hq:q=a
   ·left;rw [hq];simp [begs]
   ·by_cases hq2:q<a+x.l
    ·right;exact h.in0 q (by omega) hq2
    ·rcases i2 q (by omega) g2 with g|g
     ·left;simp only [begs,iH];exact .inr g
     ·exact .inr g
  ·simp only [begs,iH] at hy
   by_cases hya:y=a
   ·subst hya
    unfold wantF
    by_cases hq:q=y+(aInfo c xs y).l-1
    ·rw [show (q==y+(aInfo c xs y).l-1)=true by simpa using hq,cond_true,hq,hal]
     exact h.ft
    ·rw [show (q==y+(aInfo c xs y).l-1)=false by simpa using hq,cond_false]
     exact h.ft0 q g1 (by omega)
   ·rcases hy with hy|hy
    ·exact absurd hy hya
    ·have:=hge y hy
     exact i3 q (by omega) g2 y hy g3 g4
  ·simp only [begs,iL,i4,spOf,hinf]
theorem upto_iff {P:Int→Prop} {k:Nat} {b:Bool} {rest:Bool} (hb:b=true↔P (c.p-(k+1:Nat))) (hr:rest=true↔∀q:Int,c.p-k≤q→q<c.p→P q):(b&&rest)=true↔∀q:Int,c.p-(k+1:Nat)≤q→q<c.p→P q:=by
 rw [iE,hb,hr]
 constructor
 ·rintro ⟨h1,h2⟩ q g1 g2
  by_cases hq:q=c.p-(k+1:Nat)
  ·rw [hq];exact h1
  ·exact h2 q (by push_cast at hq g1;omega) g2
 ·intro h
  exact ⟨h _ (mM _) (by push_cast;omega), λq g1 g2=>h q (by push_cast;omega) g2⟩
def inL (c:Cf) (xs:LI) (q:Int):Bool:=(aInfo c xs q).k==1||((aInfo c xs q).k==3&&!full (cel xs (c.taken q)) (aInfo c xs q).c)
theorem looseF_iff:∀k:Nat,looseF c xs k=true↔∀q:Int,c.p-k≤q→q<c.p→(inL c xs q=true∨(cel xs (c.next q)=0∧cel xs (c.prev q)=0))
 |0=>by
  simp only [looseF,true_iff]
  intro q h1 h2;omega
 |k+1=>by
  have e:looseF c xs (k+1)=((inL c xs (c.p-(k+1:Nat))||(cel xs (c.next (c.p-(k+1:Nat)))==0&&cel xs (c.prev (c.p-(k+1:Nat)))==0))&&looseF c xs k):=by
   simp only [looseF,inL,bne]
   cases ((aInfo c xs (c.p-(k+1:Nat))).k==1||((aInfo c xs (c.p-(k+1:Nat))).k==3&&!full (cel xs (c.taken (c.p-(k+1:Nat)))) (aInfo c xs (c.p-(k+1:Nat))).c))<;>cases cel xs (c.next (c.p-(k+1:Nat)))==0<;>cases cel xs (c.prev (c.p-(k+1:Nat)))==0<;>simp
  rw [e]
  exact upto_iff (P:= λq=>inL c xs q=true∨(cel xs (c.next q)=0∧cel xs (c.prev q)=0)) (by simp only [kZ,iE,beq_iff_eq]) (looseF_iff k)
theorem apartF_iff (l:LI):∀k:Nat,k<l.length→(apartF c xs l k=true↔∀i:Nat,l.length-k≤i→i<l.length→¬((aInfo c xs (l.getD i 0)).k=1∧(aInfo c xs (l.getD (i-1) 0)).k=1))
 |0,_=>by
  simp only [apartF,true_iff]
  intro i h1 h2;omega
 |k+1,hk=>by
  simp only [apartF]
  have ih:=apartF_iff l k (by omega)
  cases hc:(aInfo c xs (l.getD (l.length-(k+1)) 0)).k==1&&(aInfo c xs (l.getD (l.length-(k+1)-1) 0)).k==1 with
  |true=>
   simp only [cond_true,reduceCtorEq,false_iff]
   intro h
   simp only [iE,beq_iff_eq] at hc
   exact h (l.length-(k+1)) (kA _) (by omega) hc
  |false=>
   simp only [cond_false]
   rw [ih]
   constructor
   ·intro h i g1 g2
    by_cases hi:i=l.length-(k+1)
    ·subst hi
     rintro ⟨h1,h2⟩
     rw [h1,h2] at hc;cases hc
    ·exact h i (by omega) g2
   ·intro h i g1 g2
    exact h i (by omega) g2
theorem uptoN {P:Int→Prop} {N:Int} {k:Nat} {b:Bool} {rest:Bool} (hb:b=true↔P (N-(k+1:Nat))) (hr:rest=true↔∀q:Int,N-k≤q→q<N→P q):(b&&rest)=true↔∀q:Int,N-(k+1:Nat)≤q→q<N→P q:=by
 rw [iE,hb,hr]
 constructor
 ·rintro ⟨h1,h2⟩ q g1 g2
  by_cases hq:q=N-(k+1:Nat)
  ·rw [hq];exact h1
  ·exact h2 q (by push_cast at hq g1;omega) g2
 ·intro h
  exact ⟨h _ (mM _) (by push_cast;omega), λq g1 g2=>h q (by push_cast;omega) g2⟩
def badBit (c:Cf) (xs:LI) (p:Int) (i:If) (b:Int):Bool:=(bitAt (cel xs (c.slots p)) b&&!bitAt (cel xs (c.taken p)) b)||(bitAt (cel xs (c.taken p)) b&&((i.k !=3)||decide (b≥kSlots i.c)))
theorem slotsB_iff (p:Int) (i:If):∀k:Nat,slotsB c xs p i k=true↔∀b:Int,32-k≤b→b<32→badBit c xs p i b=false
 |0=>by
  simp only [slotsB,true_iff]
  intro b h1 h2;omega
 |k+1=>by
  have e:slotsB c xs p i (k+1)=(!badBit c xs p i (32-(k+1:Nat))&&slotsB c xs p i k):=by
   simp only [slotsB]
   show (bif badBit c xs p i (32-(k+1:Nat)) then false else slotsB c xs p i k)=_
   cases badBit c xs p i (32-(k+1:Nat))<;>simp
  rw [e]
  exact uptoN (P:= λb=>badBit c xs p i b=false) (by simp) (slotsB_iff p i k)
theorem slotsF_iff:∀k:Nat,slotsF c xs k=true↔∀q:Int,c.p-k≤q→q<c.p→(slotsB c xs q (aInfo c xs q) 32&&!((aInfo c xs q).k==3&&cel xs (c.taken q)==0))=true
 |0=>by
  simp only [slotsF,true_iff]
  intro q h1 h2;omega
 |k+1=>by
  have e:slotsF c xs (k+1)=((slotsB c xs (c.p-(k+1:Nat)) (aInfo c xs (c.p-(k+1:Nat))) 32&&!((aInfo c xs (c.p-(k+1:Nat))).k==3&&cel xs (c.taken (c.p-(k+1:Nat)))==0))&&slotsF c xs k):=by
   simp only [slotsF]
   cases slotsB c xs (c.p-(k+1:Nat)) (aInfo c xs (c.p-(k+1:Nat))) 32<;>cases ((aInfo c xs (c.p-(k+1:Nat))).k==3&&cel xs (c.taken (c.p-(k+1:Nat)))==0)<;>simp
  rw [e]
  exact uptoN (P:= λq=>(slotsB c xs q (aInfo c xs q) 32&&!((aInfo c xs q).k==3&&cel xs (c.taken q)==0))=true) Iff.rfl (slotsF_iff k)
theorem onceF_iff (l:LI) (g:Int→Bool):∀k:Nat,onceF c l g k=true↔∀q:Int,c.p-k≤q→q<c.p→inA l q=bif g q then 1 else 0
 |0=>by
  simp only [onceF,true_iff]
  intro q h1 h2;omega
 |k+1=>by
  have e:onceF c l g (k+1)=((inA l (c.p-(k+1:Nat))==(bif g (c.p-(k+1:Nat)) then 1 else 0))&&onceF c l g k):=by
   simp only [onceF,bne]
   cases inA l (c.p-(k+1:Nat))==(bif g (c.p-(k+1:Nat)) then 1 else 0)<;>simp
  rw [e]
  exact uptoN (P:= λq=>inA l q=bif g q then 1 else 0) (by simp only [beq_iff_eq]) (onceF_iff l g k)
def binOk (c:Cf) (xs:LI) (j:Int):Bool:=(listA c xs (cBin j)).2&&onceF c (listA c xs (cBin j)).1 (binned c xs · j) c.p.toNat
theorem binsF_iff:∀k:Nat,binsF c xs k=true↔∀j:Int,11-k≤j→j<11→binOk c xs j=true
 |0=>by
  simp only [binsF,true_iff]
  intro q h1 h2;omega
 |k+1=>by
  have e:binsF c xs (k+1)=(binOk c xs (11-(k+1:Nat))&&binsF c xs k):=by
   simp only [binsF,binOk]
   cases (listA c xs (cBin (11-(k+1:Nat)))).2<;>cases onceF c (listA c xs (cBin (11-(k+1:Nat)))).1 (binned c xs · (11-(k+1:Nat))) c.p.toNat<;>simp
  rw [e]
  exact uptoN (P:= λj=>binOk c xs j=true) Iff.rfl (binsF_iff k)
def rackOk (c:Cf) (xs:LI) (j:Int):Bool:=(listA c xs (cRack j)).2&&onceF c (listA c xs (cRack j)).1 (racked c xs · j) c.p.toNat
theorem racksF_iff:∀k:Nat,racksF c xs k=true↔∀j:Int,9-k≤j→j<9→rackOk c xs j=true
 |0=>by
  simp only [racksF,true_iff]
  intro q h1 h2;omega
 |k+1=>by
  have e:racksF c xs (k+1)=(rackOk c xs (9-(k+1:Nat))&&racksF c xs k):=by
   simp only [racksF,rackOk]
   cases (listA c xs (cRack (9-(k+1:Nat)))).2<;>cases onceF c (listA c xs (cRack (9-(k+1:Nat)))).1 (racked c xs · (9-(k+1:Nat))) c.p.toNat<;>simp
  rw [e]
  exact uptoN (P:= λj=>rackOk c xs j=true) Iff.rfl (racksF_iff k)
theorem inA_count (l:LI) (q:Int):inA l q=(l.count q:Int):=by
 unfold inA
 rw [List.count,List.countP_eq_length_filter]
theorem nodup_pages {p:Int} {l:LI} (hn:l.Nodup) (h:∀x∈l,0≤x∧x<p):l.length≤p.toNat:=nodup_len' hn h
def LsOk (c:Cf) (m:Mm) (h:Hq) (g:Int→Bool) (l:LI):Prop:=DL m c.p h l∧l.Nodup∧∀q:Int,q∈l↔(0≤q∧q<c.p)∧g q=true
theorem lst_iff (hx:AGood c xs) (hd:Int) (h:Hq) (hh:(Mm.of c xs).hd h=cel xs hd) (g:Int→Bool):((listA c xs hd).2&&onceF c (listA c xs hd).1 g c.p.toNat)=true↔∃l,LsOk c (Mm.of c xs) h g l:=by
 have hok:=Cf.ok_iff.1 hx.ok
 have hbd:=cel_bd hx hd
 rw [iE,onceF_iff]
 constructor
 ·rintro ⟨h1,h2⟩
  unfold listA at h1 h2
  obtain ⟨l,b',e1,e2,_⟩:=listF_dl hx _ _ _ _ hbd.1 h1
  rw [e1,mT] at h2
  have hpg:=Sg'.pages e2
  refine ⟨l,⟨b',by rw [hh];exact e2⟩,?_, λq=>?_⟩
  ·rw [List.nodup_iff_count]
   intro q
   by_cases hq:q∈l
   ·have:=h2 q (by have:=hpg q hq;omega) (hpg q hq).2
    rw [inA_count] at this
    cases hg:g q<;>rw [hg] at this<;>simp only [cond_true,cond_false] at this<;>omega
   ·rw [List.count_eq_zero.2 hq];omega
  ·constructor
   ·intro hq
    refine ⟨hpg q hq,?_⟩
    have:=h2 q (by have:=hpg q hq;omega) (hpg q hq).2
    rw [inA_count] at this
    have hc:=List.count_pos_iff.2 hq
    cases hg:g q with
    |true=>rfl
    |false=>rw [hg] at this;simp only [cond_false] at this;omega
   ·rintro ⟨h3,h4⟩
    have:=h2 q (by omega) h3.2
    rw [inA_count,h4] at this
    simp only [cond_true] at this
    exact List.count_pos_iff.1 (by omega)
 ·rintro ⟨l,⟨b',h1⟩,h2,h3⟩
  rw [hh] at h1
  have hpg:=Sg'.pages h1
  have hl:=nodup_pages h2 hpg
  have e:=dl_listF hx l (c.p.toNat+2) _ _ _ [] h1 (by omega) (by simp;omega)
  have e':listA c xs hd=(l,true):=by unfold listA;rw [e];simp
  rw [e']
  refine ⟨rfl, λq g1 g2=>?_⟩
  rw [inA_count]
  cases hg:g q with
  |true=>
   have hm:=(h3 q).2 ⟨⟨by omega,g2⟩,hg⟩
   have a1:=List.count_pos_iff.2 hm
   have a2:=(List.nodup_iff_count.1 h2) q
   simp only [cond_true];omega
  |false=>
   have hm:q ∉ l:= λhm=>by
    have:=((h3 q).1 hm).2
    rw [hg] at this;cases this
   rw [List.count_eq_zero.2 hm];rfl
def ifM (m:Mm) (q:Int):If:=iGet (m.info q)
def inM (m:Mm) (q:Int):Bool:=(ifM m q).k==1||((ifM m q).k==3&&!full (m.taken q) (ifM m q).c)
def binM (m:Mm) (k q:Int):Bool:=(ifM m q).k==1&&logI (ifM m q).l==k
def rackM (m:Mm) (k q:Int):Bool:=(ifM m q).k==3&&(ifM m q).c==k&&!full (m.taken q) k
def badM (m:Mm) (q b:Int):Bool:=(bitAt (m.slots q) b&&!bitAt (m.taken q) b)||(bitAt (m.taken q) b&&(((ifM m q).k !=3)||decide (b≥kSlots (ifM m q).c)))
structure SndM (c:Cf) (m:Mm) (L:List Sp):Prop where
 tl:Tl m 0 L c.p
 ap:∀i:Nat,i+1<L.length→¬((L.getD i ⟨0,0,0⟩).k=1∧(L.getD (i+1) ⟨0,0,0⟩).k=1)
 bits:∀q:Int,0≤q→q<c.p→∀b:Int,0≤b→b<32→badM m q b=false
 some:∀q:Int,0≤q→q<c.p→((ifM m q).k==3&&m.taken q==0)=false
 bins:∀k:Int,0≤k→k<11→∃l,LsOk c m (.bin k) (binM m k) l
 racks:∀k:Int,0≤k→k<9→∃l,LsOk c m (.rack k) (rackM m k) l
 loose:∀q:Int,0≤q→q<c.p→inM m q=true∨(m.next q=0∧m.prev q=0)
theorem snd_of (hb:bdAll xs) (h:soundA c xs=true):AGood c xs∧(∃L,SndM c (Mm.of c xs) L)∧counts c xs=true∧rootsOk c xs=true:=by
 rw [soundA_eq] at h
 unfold soundB at h
 simp only [iE,beq_iff_eq] at h
 obtain ⟨⟨⟨⟨⟨⟨⟨⟨⟨⟨h1,h2⟩,h3⟩,h4⟩,h5⟩,h6⟩,h7⟩,h8⟩,h9⟩,h10⟩,h11⟩:=h
 have hx:AGood c xs:={ok:=h1,len:=h2,bd:=hb}
 have hok:=Cf.ok_iff.1 h1
 have ep:(c.p.toNat:Int)=c.p:=by omega
 obtain ⟨l,e1,e2,e3⟩:=(tiles_iff (by omega)).1 h3
 refine ⟨hx,⟨l.map (spOf c xs),?_⟩,h10,h11⟩
 exact
  {tl:=tl_of l 0 e2 e3 ((feet_iff (by omega) e1).1 h4)
   ap:= λi hi=>by
    rw [kG] at hi
    have hl:1≤l.length:=by omega
    unfold apart at h5
    rw [e1] at h5
    have:=(apartF_iff l (l.length-1) (by omega)).1 h5 (i+1) (by omega) hi
    have g:∀j,j<l.length→(l.map (spOf c xs)).getD j ⟨0,0,0⟩=spOf c xs (l.getD j 0):= λj hj=>by
     rw [iD,iD,iR,iM hj];rfl
    rw [g i (by omega),g (i+1) hi]
    rintro ⟨a,b⟩
    exact this ⟨b,a⟩
   bits:= λq g1 g2 b g3 g4=>by
    have:=(slotsF_iff c.p.toNat).1 h6 q (by omega) g2
    simp only [iE] at this
    exact (slotsB_iff q _ 32).1 this.1 b (by omega) g4
   some:= λq g1 g2=>by
    have:=(slotsF_iff c.p.toNat).1 h6 q (by omega) g2
    simp only [iE,jP] at this
    exact this.2
   bins:= λk g1 g2=>by
    have:=(binsF_iff 11).1 h7 k (by omega) g2
    exact (lst_iff hx (cBin k) (.bin k) rfl _).1 this
   racks:= λk g1 g2=>by
    have:=(racksF_iff 9).1 h8 k (by omega) g2
    exact (lst_iff hx (cRack k) (.rack k) rfl _).1 this
   loose:= λq g1 g2=>(looseF_iff c.p.toNat).1 h9 q (by omega) g2}
theorem snd_to {L:List Sp} (hx:AGood c xs) (S:SndM c (Mm.of c xs) L) (h10:counts c xs=true) (h11:rootsOk c xs=true):soundA c xs=true:=by
 have hok:=Cf.ok_iff.1 hx.ok
 have ep:(c.p.toNat:Int)=c.p:=by omega
 obtain ⟨i1,i2,i3,i4⟩:=ch_of_tl L 0 S.tl
 have e:=(starts_iff (by omega)).2 i1
 have hll:(begs 0 L).length=L.length:=by rw [←congrArg iF i4];simp
 have h3:tiles c xs=true:=(tiles_iff (by omega)).2 ⟨_,e,i1,i2⟩
 have h4:feet c xs=true:=(feet_iff (by omega) e).2 i3
 have h5:apart c xs=true:=by
  unfold apart
  rw [e]
  simp only
  by_cases h0:(begs 0 L).length=0
  ·rw [h0];rfl
  ·refine (apartF_iff (begs 0 L) _ (by omega)).2 λi g1 g2=>?_
   have g:∀j,j<(begs 0 L).length→L.getD j ⟨0,0,0⟩=spOf c xs ((begs 0 L).getD j 0):= λj hj=>by
    have:((begs 0 L).map (spOf c xs)).getD j ⟨0,0,0⟩=spOf c xs ((begs 0 L).getD j 0):=by
     rw [iD,iD,iR,iM hj];rfl
    rw [i4] at this;exact this
   have:=S.ap (i-1) (by omega)
   rw [show i-1+1=i by omega,g i g2,g (i-1) (by omega)] at this
   rintro ⟨a,b⟩
   exact this ⟨b,a⟩
 have h6:slotsOk c xs=true:=(slotsF_iff c.p.toNat).2 λq g1 g2=>by
  have a:=S.some q (by omega) g2
  simp only [iE,jP]
  exact ⟨(slotsB_iff q _ 32).2 λb g3 g4=>S.bits q (by omega) g2 b (by omega) g4,a⟩
 have h7:bins c xs=true:=(binsF_iff 11).2 λk g1 g2=>(lst_iff hx (cBin k) (.bin k) rfl _).2 (S.bins k (by omega) g2)
 have h8:racks c xs=true:=(racksF_iff 9).2 λk g1 g2=>(lst_iff hx (cRack k) (.rack k) rfl _).2 (S.racks k (by omega) g2)
 have h9:loose c xs=true:=(looseF_iff c.p.toNat).2 λq g1 g2=>S.loose q (by omega) g2
 rw [soundA_eq]
 unfold soundB
 simp only [hx.ok,hx.len,h3,h4,h5,h6,h7,h8,h9,h10,h11,beq_self_eq_true,qL]
def smF (f:Int→Int):Nat→Int
 |0=>0
 |k+1=>smF f k+f k
theorem smF_congr {f g:Int→Int}:∀{n:Nat},(∀q:Int,0≤q→q<n→f q=g q)→smF f n=smF g n
 |0,_=>rfl
 |n+1,h=>by
  simp only [smF]
  rw [smF_congr (n:=n) λq a b=>h q a (by push_cast;omega),h n (by omega) (by push_cast;omega)]
theorem smF_one {f g:Int→Int} {a:Int}:∀{n:Nat},0≤a→a<n→(∀q:Int,0≤q→q<n→q≠a→f q=g q)→smF f n=smF g n+(f a-g a)
 |0,h1,h2,_=>by omega
 |n+1,h1,h2,h=>by
  simp only [smF]
  by_cases e:a=n
  ·rw [smF_congr (f:=f) (g:=g) λq a b=>h q a (by push_cast;omega) (by omega),←e];omega
  ·have h3:f n=g n:=h n (by omega) (by push_cast;omega) (by omega)
   have:=smF_one (f:=f) (g:=g) (n:=n) h1 (by push_cast at h2;omega) λq a b d=>h q a (by push_cast;omega) d
   rw [this,h3];omega
def frP (m:Mm) (q:Int):Int:=bif (ifM m q).k==1 then (ifM m q).l else 0
def lvP (m:Mm) (q:Int):Int:=(bif (ifM m q).k==2 then 1 else 0)+ones (m.slots q)
def CntM (c:Cf) (m:Mm):Prop:=m.fr=nv (smF (frP m) c.p.toNat)∧m.lv=nv (smF (lvP m) c.p.toNat)
theorem countsF_sm:∀n:Nat,countsF c xs n=(smF (frP (Mm.of c xs)) n,smF (lvP (Mm.of c xs)) n)
 |0=>rfl
 |n+1=>by
  simp only [countsF,countsF_sm n,smF]
  refine Prod.ext rfl ?_
  show _+_+_=_+(_+_)
  rw [Int.add_assoc];rfl
theorem counts_iff:counts c xs=true↔CntM c (Mm.of c xs):=by
 unfold counts CntM
 rw [countsF_sm,iE,beq_iff_eq,beq_iff_eq]
 exact Iff.rfl
def slB (c:Cf) (m:Mm) (q k:Int):Nat→List Pt
 |0=>[]
 |n+1=>slB c m q k n++bif bitAt (m.slots q) n then [⟨2,(q+1)*pgB c.s+n*szB c.s k,szB c.s k⟩] else []
def blkP (c:Cf) (m:Mm) (q:Int):List Pt:=bif (ifM m q).k==2 then [⟨2,(q+1)*pgB c.s,(ifM m q).l*pgB c.s⟩] else bif (ifM m q).k==3 then slB c m q (ifM m q).c (kSlots (ifM m q).c).toNat else []
def blkF (c:Cf) (m:Mm):Nat→List Pt
 |0=>[]
 |n+1=>blkF c m n++blkP c m n
theorem slB_of (g k:Int):∀n:Nat,(slabF c xs g k n).filter (λx=>x.k==2)=slB c (Mm.of c xs) g k n
 |0=>rfl
 |n+1=>by
  have e:(slabKind c xs g n==2)=bitAt (cel xs (c.slots g)) n:=by
   unfold slabKind
   cases bitAt (cel xs (c.slots g)) n<;>cases bitAt (cel xs (c.taken g)) n<;>rfl
  simp only [slabF,slB,mB,slB_of g k n]
  congr 1
  simp only [slabPt,mW,List.filter_nil,e]
  show _=bif bitAt (cel xs (c.slots g)) n then _ else _
  cases h:bitAt (cel xs (c.slots g)) n with
  |true=>
   have:slabKind c xs g n=2:=by rw [h] at e;simpa using e
   simp [this]
  |false=>simp
theorem blkP_of (g:Int):(partsOf c xs g).filter (λx=>x.k==2)=blkP c (Mm.of c xs) g:=by
 unfold partsOf blkP
 have e:ifM (Mm.of c xs) g=aInfo c xs g:=rfl
 rw [e]
 simp only
 cases h2:(aInfo c xs g).k==2 with
 |true=>
  have h2':(aInfo c xs g).k=2:=by simpa using h2
  simp [h2']
 |false=>
  cases h1:(aInfo c xs g).k==1 with
  |true=>
   have h1':(aInfo c xs g).k=1:=by simpa using h1
   simp [h1']
  |false=>
   cases h3:(aInfo c xs g).k==3 with
   |false=>simp
   |true=>
    simp only [Bool.or_self,cond_false,cond_true]
    unfold slabL
    cases decide (0<slabRest c (aInfo c xs g).c) with
    |false=>simp only [cond_false];exact slB_of _ _ _
    |true=>
     simp only [cond_true,mB,slB_of]
     simp
theorem blkF_of:∀n:Nat,(partsF c xs n).filter (λx=>x.k==2)=blkF c (Mm.of c xs) n
 |0=>rfl
 |n+1=>by rw [partsF,mB,blkF_of n,blkP_of];rfl
theorem blocks_eq:blocksL c xs=blkF c (Mm.of c xs) c.p.toNat:=blkF_of _
theorem blkF_congr {m m':Mm}:∀{n:Nat},(∀q:Int,0≤q→q<n→blkP c m' q=blkP c m q)→blkF c m' n=blkF c m n
 |0,_=>rfl
 |n+1,h=>by
  simp only [blkF]
  rw [blkF_congr (n:=n) λq a b=>h q a (by push_cast;omega),h n (by omega) (by push_cast;omega)]
theorem blkP_congr {m m':Mm} {q:Int} (h1:m'.info q=m.info q) (h2:m'.slots q=m.slots q):blkP c m' q=blkP c m q:=by
 have e:ifM m' q=ifM m q:=by unfold ifM;rw [h1]
 have e2:∀k n,slB c m' q k n=slB c m q k n:= λk n=>by
  induction n with
  |zero=>rfl
  |succ n ih=>simp only [slB,ih,h2]
 unfold blkP
 rw [e,e2]
theorem mem_blkF {m:Mm} {x:Pt}:∀{n:Nat},x∈blkF c m n↔∃q:Int,0≤q∧q<n∧x∈blkP c m q
 |0=>by
  constructor
  ·intro h;cases h
  ·rintro ⟨q,h1,h2,_⟩;omega
 |n+1=>by
  rw [blkF,kC,mem_blkF (n:=n)]
  constructor
  ·rintro (⟨q,h1,h2,h3⟩|h)
   ·exact ⟨q,h1,by push_cast;omega,h3⟩
   ·exact ⟨n,by omega,by push_cast;omega,h⟩
  ·rintro ⟨q,h1,h2,h3⟩
   by_cases e:q=n
   ·subst e;exact .inr h3
   ·exact .inl ⟨q,h1,by push_cast at h2;omega,h3⟩
def RootM (c:Cf) (m:Mm):Prop:=∀k:Int,0≤k→k<8→m.root k=0∨∃x∈blkF c m c.p.toNat,x.a=m.root k
theorem rootsF_iff (l:LI):∀k:Nat,rootsF xs l k=true↔∀q:Int,8-k≤q→q<8→(cel xs (cRoot q)=0∨cel xs (cRoot q)∈l)
 |0=>by
  simp only [rootsF,true_iff]
  intro q h1 h2;omega
 |k+1=>by
  have e:rootsF xs l (k+1)=((cel xs (cRoot (8-(k+1:Nat)))==0||l.contains (cel xs (cRoot (8-(k+1:Nat)))))&&rootsF xs l k):=by
   simp only [rootsF,bne]
   cases cel xs (cRoot (8-(k+1:Nat)))==0<;>cases l.contains (cel xs (cRoot (8-(k+1:Nat))))<;>simp
  rw [e]
  exact uptoN (P:= λq=>cel xs (cRoot q)=0∨cel xs (cRoot q)∈l) (by simp) (rootsF_iff l k)
theorem roots_iff:rootsOk c xs=true↔RootM c (Mm.of c xs):=by
 unfold rootsOk RootM
 rw [rootsF_iff,blocks_eq]
 constructor
 ·intro h k g1 g2
  rcases h k (by omega) g2 with h|h
  ·exact .inl h
  ·obtain ⟨x,h1,h2⟩:=kW.1 h
   exact .inr ⟨x,h1,h2⟩
 ·intro h k g1 g2
  rcases h k (by omega) g2 with h|⟨x,h1,h2⟩
  ·exact .inl h
  ·exact .inr (kW.2 ⟨x,h1,h2⟩)
structure SoundM (c:Cf) (m:Mm) (L:List Sp):Prop where
 snd:SndM c m L
 cnt:CntM c m
 rts:RootM c m
theorem sound_iff (hb:bdAll xs):soundA c xs=true↔AGood c xs∧∃L,SoundM c (Mm.of c xs) L:=by
 constructor
 ·intro h
  obtain ⟨h1,⟨L,h2⟩,h3,h4⟩:=snd_of hb h
  exact ⟨h1,L,h2,counts_iff.1 h3,roots_iff.1 h4⟩
 ·rintro ⟨h1,L,h2⟩
  exact snd_to h1 h2.snd (counts_iff.2 h2.cnt) (roots_iff.2 h2.rts)
end
end
section
open Go.Sl
structure MEq (c:Cf) (m m':Mm):Prop where
 info:∀q:Int,0≤q→q<c.p→m'.info q=m.info q
 foot:∀q:Int,0≤q→q<c.p→m'.foot q=m.foot q
 next:∀q:Int,0≤q→q<c.p→m'.next q=m.next q
 prev:∀q:Int,0≤q→q<c.p→m'.prev q=m.prev q
 slots:∀q:Int,0≤q→q<c.p→m'.slots q=m.slots q
 taken:∀q:Int,0≤q→q<c.p→m'.taken q=m.taken q
 bin:∀k:Int,0≤k→k<11→m'.bin k=m.bin k
 rack:∀k:Int,0≤k→k<9→m'.rack k=m.rack k
 root:∀k:Int,0≤k→k<8→m'.root k=m.root k
 fr:m'.fr=m.fr
 lv:m'.lv=m.lv
section
variable {c:Cf} {m m':Mm}
theorem ifM_eq {q:Int} (h:m'.info q=m.info q):ifM m' q=ifM m q:=by unfold ifM;rw [h]
theorem inM_eq {q:Int} (h:m'.info q=m.info q) (h2:m'.taken q=m.taken q):inM m' q=inM m q:=by unfold inM;rw [ifM_eq h,h2]
theorem binM_eq {q:Int} (h:m'.info q=m.info q) (k:Int):binM m' k q=binM m k q:=by unfold binM;rw [ifM_eq h]
theorem rackM_eq {q:Int} (h:m'.info q=m.info q) (h2:m'.taken q=m.taken q) (k:Int):rackM m' k q=rackM m k q:=by unfold rackM;rw [ifM_eq h,h2]
theorem badM_eq {q:Int} (h:m'.info q=m.info q) (h1:m'.slots q=m.slots q) (h2:m'.taken q=m.taken q) (b:Int):badM m' q b=badM m q b:=by unfold badM;rw [ifM_eq h,h1,h2]
theorem LsOk.of_eq {h:Hq} {g g':Int→Bool} {l:LI} (H:LsOk c m h g l) (e0:m'.hd h=m.hd h) (e1:∀q∈l,m'.next q=m.next q) (e2:∀q∈l,m'.prev q=m.prev q) (e3:∀q:Int,0≤q→q<c.p→g' q=g q):LsOk c m' h g' l:=by
 obtain ⟨⟨b',h1⟩,h2,h3⟩:=H
 refine ⟨⟨b',?_⟩,h2, λq=>?_⟩
 ·rw [e0];exact Sg'.of_eq h1 e1 e2
 ·rw [h3 q]
  constructor
  ·rintro ⟨a,b⟩;exact ⟨a,by rw [e3 q a.1 a.2];exact b⟩
  ·rintro ⟨a,b⟩;exact ⟨a,by rw [←e3 q a.1 a.2];exact b⟩
theorem LsOk.pg {h:Hq} {g:Int→Bool} {l:LI} (H:LsOk c m h g l) {q:Int} (hq:q∈l):0≤q∧q<c.p:=((H.2.2 q).1 hq).1
theorem SndM.congr {L:List Sp} (S:SndM c m L) (e:MEq c m m'):SndM c m' L:=
 {tl:=Tl.of_eq S.tl (λq a b=>e.info q a b) λq a b=>e.foot q a b
  ap:=S.ap
  bits:= λq a b k g1 g2=>by rw [badM_eq (e.info q a b) (e.slots q a b) (e.taken q a b)];exact S.bits q a b k g1 g2
  some:= λq a b=>by rw [ifM_eq (e.info q a b),e.taken q a b];exact S.some q a b
  bins:= λk a b=>by
   obtain ⟨l,h⟩:=S.bins k a b
   exact ⟨l,h.of_eq (e.bin k a b) (λq hq=>e.next q (h.pg hq).1 (h.pg hq).2) (λq hq=>e.prev q (h.pg hq).1 (h.pg hq).2) λq g1 g2=>binM_eq (e.info q g1 g2) k⟩
  racks:= λk a b=>by
   obtain ⟨l,h⟩:=S.racks k a b
   exact ⟨l,h.of_eq (e.rack k a b) (λq hq=>e.next q (h.pg hq).1 (h.pg hq).2) (λq hq=>e.prev q (h.pg hq).1 (h.pg hq).2) λq g1 g2=>rackM_eq (e.info q g1 g2) (e.taken q g1 g2) k⟩
  loose:= λq a b=>by rw [inM_eq (e.info q a b) (e.taken q a b),e.next q a b,e.prev q a b];exact S.loose q a b}
theorem frP_eq {q:Int} (h:m'.info q=m.info q):frP m' q=frP m q:=by unfold frP;rw [ifM_eq h]
theorem lvP_eq {q:Int} (h:m'.info q=m.info q) (h1:m'.slots q=m.slots q):lvP m' q=lvP m q:=by unfold lvP;rw [ifM_eq h,h1]
theorem blkF_eq (h:∀q:Int,0≤q→q<c.p→m'.info q=m.info q) (h1:∀q:Int,0≤q→q<c.p→m'.slots q=m.slots q):blkF c m' c.p.toNat=blkF c m c.p.toNat:=blkF_congr λq a b=>blkP_congr (h q a (by omega)) (h1 q a (by omega))
theorem CntM.congr (S:CntM c m) (e:MEq c m m'):CntM c m':=by
 unfold CntM at*
 rw [e.fr,e.lv,smF_congr (f:=frP m') (g:=frP m) λq a b=>frP_eq (e.info q a (by omega)),smF_congr (f:=lvP m') (g:=lvP m) λq a b=>lvP_eq (e.info q a (by omega)) (e.slots q a (by omega))]
 exact S
theorem RootM.congr (S:RootM c m) (e:MEq c m m'):RootM c m':= λk a b=>by
 rw [e.root k a b,blkF_eq e.info e.slots];exact S k a b
theorem SoundM.congr {L:List Sp} (S:SoundM c m L) (e:MEq c m m'):SoundM c m' L:=⟨S.snd.congr e,S.cnt.congr e,S.rts.congr e⟩
end
end
section
open Go.Sl
structure ListsM (c:Cf) (m:Mm) (G:Hq→Int→Bool):Prop where
 ls:∀h:Hq,h.ok→∃l,LsOk c m h (G h) l
 lo:∀q:Int,0≤q→q<c.p→(∃h:Hq,h.ok∧G h q=true)∨(m.next q=0∧m.prev q=0)
 one:∀h h':Hq,h.ok→h'.ok→h≠h'→∀q:Int,0≤q→q<c.p→G h q=true→G h' q=true→False
def gAdd (G:Hq→Int→Bool) (h:Hq) (a:Int):Hq→Int→Bool:= λh' q=>G h' q||(decide (h'=h)&&decide (q=a))
def gDel (G:Hq→Int→Bool) (h:Hq) (a:Int):Hq→Int→Bool:= λh' q=>G h' q&&!(decide (h'=h)&&decide (q=a))
section
variable {c:Cf} {m:Mm} {G:Hq→Int→Bool} {h:Hq} {a:Int}
theorem DL.hd_in {l:LI} (H:DL m c.p h l) (h0:m.hd h≠0):m.hd h-1∈l:=by
 obtain ⟨b',H⟩:=H
 cases l with
 |nil=>exact absurd H.1 h0
 |cons x r=>have:=H.1;simp only [iH];left;omega
theorem ListsM.hd_ok (S:ListsM c m G) (hh:h.ok):m.hd h=0∨(0≤m.hd h-1∧m.hd h-1<c.p):=by
 obtain ⟨l,H⟩:=S.ls h hh
 by_cases h0:m.hd h=0
 ·exact .inl h0
 ·exact .inr (H.pg (DL.hd_in (c:=c) H.1 h0))
theorem ListsM.push (S:ListsM c m G) (hh:h.ok) (ha:0≤a∧a<c.p) (hn:∀h':Hq,h'.ok→G h' a=false):ListsM c (mPush m h a) (gAdd G h a):=by
 obtain ⟨l,H⟩:=S.ls h hh
 have hal:a ∉ l:= λe=>by have:=((H.2.2 a).1 e).2;rw [hn h hh] at this;cases this
 refine ⟨λh' hh'=>?_, λq g1 g2=>?_, λh1 h2 k1 k2 hne q g1 g2 e1 e2=>?_⟩
 ·by_cases e:h'=h
  ·subst e
   refine ⟨a::l,push_list H.1 ha hal H.2.1,lN.2 ⟨hal,H.2.1⟩, λq=>?_⟩
   simp only [iH,gAdd,decide_true,nT,kZ,decide_eq_true_eq]
   rw [H.2.2 q]
   constructor
   ·rintro (rfl|⟨b1,b2⟩)
    ·exact ⟨ha, .inr rfl⟩
    ·exact ⟨b1, .inl b2⟩
   ·rintro ⟨b1,b2|b2⟩
    ·exact .inr ⟨b1,b2⟩
    ·exact .inl b2
  ·obtain ⟨l',H'⟩:=S.ls h' hh'
   have hal':a ∉ l':= λe=>by have:=((H'.2.2 a).1 e).2;rw [hn h' hh'] at this;cases this
   refine ⟨l',push_other H.1 H'.1 e hal' (λy b1 b2=>?_),H'.2.1, λq=>?_⟩
   ·have c1:=(H.2.2 y).1 b1
    have c2:=(H'.2.2 y).1 b2
    exact S.one h' h hh' hh e y c1.1.1 c1.1.2 c2.2 c1.2
   ·rw [H'.2.2 q]
    have:decide (h'=h)=false:=by simpa using e
    simp only [gAdd,this,oK,pJ]
 ·by_cases e:q=a
  ·left;exact ⟨h,hh,by simp [gAdd,e]⟩
  ·rcases S.lo q g1 g2 with ⟨h',k1,k2⟩|⟨k1,k2⟩
   ·left;exact ⟨h',k1,by simp [gAdd,k2]⟩
   ·by_cases e2:m.hd h≠0∧q=m.hd h-1
    ·left
     have:=(H.2.2 q).1 (by rw [e2.2];exact DL.hd_in (c:=c) H.1 e2.1)
     exact ⟨h,hh,by simp [gAdd,this.2]⟩
    ·right
     rw [push_next,push_prev,if_neg e,if_neg e2,if_neg e]
     exact ⟨k1,k2⟩
 ·simp only [gAdd,kZ,iE,decide_eq_true_eq] at e1 e2
  rcases e1 with e1|⟨e1,f1⟩<;>rcases e2 with e2|⟨e2,f2⟩
  ·exact S.one h1 h2 k1 k2 hne q g1 g2 e1 e2
  ·rw [f2,hn h1 k1] at e1;cases e1
  ·rw [f1,hn h2 k2] at e2;cases e2
  ·exact hne (e1.trans e2.symm)
theorem nb_in {l1 l2:LI} (H:DL m c.p h (l1++a::l2)):(m.next a≠0→m.next a-1∈l2)∧(m.prev a≠0→m.prev a-1∈l1):=by
 obtain ⟨b',H⟩:=H
 obtain ⟨q1,b1,H1,H2⟩:=Sg'.app.1 H
 obtain ⟨e1,e2,e3,e4⟩:=H2
 constructor
 ·intro h0
  cases l2 with
  |nil=>exact absurd e4.1 h0
  |cons x r=>have:=e4.1;simp only [iH];left;omega
 ·intro h0
  cases l1 with
  |nil=>have h2:=H1.2;exact absurd (e3.trans h2.symm) h0
  |cons x r=>
   obtain ⟨y,hy,e⟩:=Sg'.last H1 (by simp)
   rw [e3,e];simpa using hy
theorem ListsM.nb_ok (S:ListsM c m G) (hh:h.ok) (ha:0≤a∧a<c.p) (hg:G h a=true):(m.next a=0∨(0≤m.next a-1∧m.next a-1<c.p))∧(m.prev a=0∨(0≤m.prev a-1∧m.prev a-1<c.p)):=by
 obtain ⟨l,H⟩:=S.ls h hh
 obtain ⟨l1,l2,e⟩:=List.append_of_mem ((H.2.2 a).2 ⟨ha,hg⟩)
 subst e
 have hn:=nb_in (c:=c) H.1
 constructor
 ·by_cases h0:m.next a=0
  ·exact .inl h0
  ·exact .inr (H.pg (by simp [hn.1 h0]))
 ·by_cases h0:m.prev a=0
  ·exact .inl h0
  ·exact .inr (H.pg (by simp [hn.2 h0]))
theorem ListsM.pull (S:ListsM c m G) (hh:h.ok) (ha:0≤a∧a<c.p) (hg:G h a=true):ListsM c (mPull m h a) (gDel G h a):=by
 obtain ⟨l,H⟩:=S.ls h hh
 have hal:=(H.2.2 a).2 ⟨ha,hg⟩
 obtain ⟨l1,l2,e⟩:=List.append_of_mem hal
 subst e
 have hnd:=H.2.1
 have hnb:=nb_in (c:=c) H.1
 have hna:a ∉ l1++l2:=by
  have:=hnd
  rw [pM] at this
  obtain ⟨n1,n2,n3⟩:=this
  have n4:=lN.1 n2
  rw [kC]
  rintro (e|e)
  ·exact n3 a e a (by simp) rfl
  ·exact n4.1 e
 refine ⟨λh' hh'=>?_, λq g1 g2=>?_, λh1 h2 k1 k2 hne q g1 g2 e1 e2=>?_⟩
 ·by_cases e:h'=h
  ·subst e
   refine ⟨l1++l2,pull_list H.1 hnd,?_, λq=>?_⟩
   ·exact hnd.sublist (List.Sublist.append (List.Sublist.refl l1) (List.sublist_cons_self a l2))
   ·simp only [gDel,decide_true,nT,iE,jP,decide_eq_false_iff_not]
    have hq:=H.2.2 q
    constructor
    ·intro hm
     have h5:=hq.1 (by simp only [kC,iH] at hm ⊢;rcases hm with hm|hm;exact .inl hm;exact .inr (.inr hm))
     exact ⟨h5.1,h5.2, λe=>hna (e▸hm)⟩
    ·rintro ⟨b1,b2,b3⟩
     have:=hq.2 ⟨b1,b2⟩
     simp only [kC,iH] at this ⊢
     rcases this with h5|h5|h5
     ·exact .inl h5
     ·exact absurd h5 b3
     ·exact .inr h5
  ·obtain ⟨l',H'⟩:=S.ls h' hh'
   refine ⟨l',pull_other H.1 hal H'.1 e (λy b1 b2=>?_),H'.2.1, λq=>?_⟩
   ·have c1:=(H.2.2 y).1 b1
    have c2:=(H'.2.2 y).1 b2
    exact S.one h' h hh' hh e y c1.1.1 c1.1.2 c2.2 c1.2
   ·rw [H'.2.2 q]
    have:decide (h'=h)=false:=by simpa using e
    simp only [gDel,this,oK,Bool.not_false,qL]
 ·by_cases e:q=a
  ·right;rw [pull_next,pull_prev,if_pos e,if_pos e];exact ⟨rfl,rfl⟩
  ·rcases S.lo q g1 g2 with ⟨h',k1,k2⟩|⟨k1,k2⟩
   ·left;exact ⟨h',k1,by simp [gDel,k2,e]⟩
   ·by_cases e1:m.prev a≠0∧q=m.prev a-1
    ·left
     have:=(H.2.2 q).1 (by rw [e1.2];simp [hnb.2 e1.1])
     exact ⟨h,hh,by simp [gDel,this.2,e]⟩
    ·by_cases e2:m.next a≠0∧q=m.next a-1
     ·left
      have:=(H.2.2 q).1 (by rw [e2.2];simp [hnb.1 e2.1])
      exact ⟨h,hh,by simp [gDel,this.2,e]⟩
     ·right
      rw [pull_next,pull_prev,if_neg e,if_neg e,if_neg e1,if_neg e2]
      exact ⟨k1,k2⟩
 ·simp only [gDel,iE] at e1 e2
  exact S.one h1 h2 k1 k2 hne q g1 g2 e1.1 e2.1
def gM (m:Mm):Hq→Int→Bool
 | .bin k=>binM m k
 | .rack k=>rackM m k
structure ShapeM (c:Cf) (m:Mm) (L:List Sp):Prop where
 tl:Tl m 0 L c.p
 ap:∀i:Nat,i+1<L.length→¬((L.getD i ⟨0,0,0⟩).k=1∧(L.getD (i+1) ⟨0,0,0⟩).k=1)
 bits:∀q:Int,0≤q→q<c.p→∀b:Int,0≤b→b<32→badM m q b=false
 some:∀q:Int,0≤q→q<c.p→((ifM m q).k==3&&m.taken q==0)=false
theorem logI_bd {n:Int} (h:1≤n∧n≤1024):0≤logI n∧logI n<11:=by
 unfold logI
 rw [if_neg (by omega)]
 have:Nat.log2 n.toNat<11:=(Nat.log2_lt (by omega)).2 (by omega)
 omega
theorem iGet_one {v:Int} (h:(iGet v).k=1):1≤(iGet v).l∧(iGet v).l≤1024:=by
 have:=iGet_right v
 rw [h] at this
 have e:(decide (1≤(iGet v).l)&&decide ((iGet v).l≤1024)&&((iGet v).c==0))=true:=this
 simp only [iE,decide_eq_true_eq] at e
 exact e.1
theorem iGet_three {v:Int} (h:(iGet v).k=3):0≤(iGet v).c∧(iGet v).c≤8∧(iGet v).l=1:=by
 have:=iGet_right v
 rw [h] at this
 have e:((iGet v).l==1&&(decide (0≤(iGet v).c)&&decide ((iGet v).c≤8)))=true:=this
 simp only [iE,decide_eq_true_eq,beq_iff_eq] at e
 exact ⟨e.2.1,e.2.2,e.1⟩
theorem snd_iff {L:List Sp}:SndM c m L↔ShapeM c m L∧ListsM c m (gM m):=by
 constructor
 ·intro S
  refine ⟨⟨S.tl,S.ap,S.bits,S.some⟩, λh hh=>?_, λq g1 g2=>?_, λh h' k1 k2 hne q g1 g2 e1 e2=>?_⟩
  ·cases h with
   |bin k=>exact S.bins k hh.1 hh.2
   |rack k=>exact S.racks k hh.1 hh.2
  ·rcases S.loose q g1 g2 with h|h
   ·left
    unfold inM at h
    simp only [kZ,beq_iff_eq,iE] at h
    rcases h with h|⟨h,h2⟩
    ·refine ⟨.bin (logI (ifM m q).l),logI_bd (iGet_one h),?_⟩
     simp [gM,binM,h]
    ·refine ⟨.rack (ifM m q).c,(by have:=iGet_three h;exact ⟨this.1,(by have:=this.2.1;show (iGet (m.info q)).c<9;omega)⟩),?_⟩
     simp only [gM,rackM,h,h2,beq_self_eq_true,qL]
   ·exact .inr h
  ·cases h with
   |bin k=>
    cases h' with
    |bin k'=>
     simp only [gM,binM,iE,beq_iff_eq] at e1 e2
     exact hne (by rw [←e1.2,e2.2])
    |rack k'=>
     simp only [gM,binM,rackM,iE,beq_iff_eq] at e1 e2
     rw [e1.1] at e2;exact absurd e2.1.1 (by decide)
   |rack k=>
    cases h' with
    |bin k'=>
     simp only [gM,binM,rackM,iE,beq_iff_eq] at e1 e2
     rw [e2.1] at e1;exact absurd e1.1.1 (by decide)
    |rack k'=>
     simp only [gM,rackM,iE,beq_iff_eq] at e1 e2
     exact hne (by rw [←e1.1.2,e2.1.2])
 ·rintro ⟨S,T⟩
  exact
   {tl:=S.tl,ap:=S.ap,bits:=S.bits,some:=S.some
    bins:= λk a b=>T.ls (.bin k) ⟨a,b⟩
    racks:= λk a b=>T.ls (.rack k) ⟨a,b⟩
    loose:= λq a b=>by
     rcases T.lo q a b with ⟨h,h1,h2⟩|h
     ·left
      cases h with
      |bin k=>
       simp only [gM,binM,iE] at h2
       simp only [inM,h2.1,pU]
      |rack k=>
       simp only [gM,rackM,iE] at h2
       have e:(ifM m q).c=k:=by simpa using h2.1.2
       simp only [inM,h2.1.1,e,h2.2,qL,pH]
     ·exact .inr h}
theorem ListsM.of_eq {m':Mm} {G':Hq→Int→Bool} (S:ListsM c m G) (e0:∀h:Hq,m'.hd h=m.hd h) (e1:m'.next=m.next) (e2:m'.prev=m.prev) (e3:∀h:Hq,h.ok→∀q:Int,0≤q→q<c.p→G' h q=G h q):ListsM c m' G' where
 ls:= λh hh=>by
  obtain ⟨l,H⟩:=S.ls h hh
  exact ⟨l,H.of_eq (e0 h) (λq _=>by rw [e1]) (λq _=>by rw [e2]) (e3 h hh)⟩
 lo:= λq g1 g2=>by
  rw [e1,e2]
  rcases S.lo q g1 g2 with ⟨h,k1,k2⟩|k
  ·exact .inl ⟨h,k1,by rw [e3 h k1 q g1 g2];exact k2⟩
  ·exact .inr k
 one:= λh h' k1 k2 hne q g1 g2 a b=>S.one h h' k1 k2 hne q g1 g2 (by rw [←e3 h k1 q g1 g2];exact a) (by rw [←e3 h' k2 q g1 g2];exact b)
end
end
section
open Go.Sl
theorem iRight_bd {k l x:Int} (h:iRight k l x=true):(0≤k∧k≤3)∧(0≤l∧l≤1024)∧0≤x∧x≤8:=by
 unfold iRight at h
 cases h0:k==0 with
 |true=>
  rw [h0] at h
  simp only [cond_true,iE,beq_iff_eq] at h h0
  omega
 |false=>
  rw [h0] at h
  simp only [cond_false] at h
  cases h1:(k==1||k==2) with
  |true=>
   rw [h1] at h
   simp only [cond_true,iE,decide_eq_true_eq,beq_iff_eq,kZ] at h h1
   omega
  |false=>
   rw [h1] at h
   simp only [cond_false] at h
   cases h3:k==3 with
   |false=>rw [h3] at h;cases h
   |true=>
    rw [h3] at h
    simp only [cond_true,iE,decide_eq_true_eq,beq_iff_eq] at h h3
    omega
theorem iVal_get {k l x:Int} (h:iRight k l x=true):iGet (iVal k l x)=⟨k,l,x⟩∧infoOk (iVal k l x)=true∧nv (iVal k l x)=iVal k l x:=by
 have hb:=iRight_bd h
 have e:iVal k l x=k+16*l+65536*x:=by unfold iVal;rw [h];rfl
 have e1:(k+16*l+65536*x)%16=k:=by omega
 have e2:(k+16*l+65536*x)/16%4096=l:=by omega
 have e3:(k+16*l+65536*x)/65536=x:=by omega
 rw [e]
 unfold iGet infoOk
 rw [e1,e2,e3,h]
 exact ⟨rfl,rfl,by unfold nv;omega⟩
section
variable {c:Cf} {m:Mm} {s:VS} {a n:Int}
def mSpan (m:Mm) (k a n:Int):Mm:={m with info:=fset m.info a (iVal k n 0),foot:=fset m.foot (a+n-1) (nv (a+1))}
def mAdd (m:Mm) (a n:Int):Mm:=mPush (mSpan m 1 a n) (.bin (logI n)) a
theorem span_right {k:Int} (hk:k=1∨k=2) (hn:1≤n∧n≤1024):iRight k n 0=true:=by
 rcases hk with rfl|rfl<;>simp [iRight,hn]
theorem nvnv (x:Int):nv (nv x)=nv x:=by unfold nv;omega
theorem add_at (h:At c s m) (ha:0≤a∧a<c.p) (hn:1≤n∧n≤c.p-a) (hh:m.bin (logI n)=0∨(0≤m.bin (logI n)-1∧m.bin (logI n)-1<c.p)):At c ((pAdd c a n).run s).1 (mAdd m a n):=by
 have hp:=Cf.ok_iff.1 h.ok
 have hb:=logI_bd (n:=n) (by omega)
 have hr:=iVal_get (span_right (n:=n) (.inl rfl) (by omega))
 have eb:binOf n=logI n:=by
  unfold binOf
  have:decide (n>1024)=false:=by simp;omega
  rw [this];rfl
 unfold pAdd
 have e:(c.page a&&(decide (1≤n)&&decide (n≤c.p-a)))=true:=by
  rw [Cf.page_iff.2 ha];simp [hn]
 rw [e,cond_true]
 simp only [Pg.run_put]
 have h1:=(h.set_info ha (iVal 1 n 0)).set_foot (g:=a+n-1) (by omega) (nv (a+1))
 rw [hr.2.2,nvnv] at h1
 rw [eb]
 exact push_at (q:= .bin (logI n)) h1 hb ha hh
theorem used_at (h:At c s m) (ha:0≤a∧a<c.p) (hn:1≤n∧n≤c.p-a):At c ((pUsed c a n).run s).1 (mSpan m 2 a n):=by
 have hp:=Cf.ok_iff.1 h.ok
 have hr:=iVal_get (span_right (n:=n) (.inr rfl) (by omega))
 unfold pUsed
 simp only [Pg.run_put,Pg.run_ret]
 have h1:=(h.set_info ha (iVal 2 n 0)).set_foot (g:=a+n-1) (by omega) (nv (a+1))
 rw [hr.2.2,nvnv] at h1
 exact h1
def mDrop (m:Mm) (a:Int):Mm:=mPull m (.bin (logI (ifM m a).l)) a
theorem free_at (h:At c s m) (ha:0≤a∧a<c.p):At c ((pFree c a).run s).1 m∧((pFree c a).run s).2=bif (ifM m a).k==1 then (ifM m a).l else 0:=by
 unfold pFree
 simp only [Pg.run_get,Pg.run_ret]
 rw [h.get_info ha]
 exact ⟨h.read _,rfl⟩
theorem drop_at' {G:Hq→Int→Bool} (h:At c s m) (ha:0≤a∧a<c.p) (hk:(ifM m a).k=1) (S:ListsM c m G) (hG:G (.bin (logI (ifM m a).l)) a=true):At c ((pDrop c a).run s).1 (mDrop m a)∧((pDrop c a).run s).2=(ifM m a).l:=by
 have hl:=iGet_one hk
 have hb:=logI_bd hl
 have hl':1≤(ifM m a).l∧(ifM m a).l≤1024:=hl
 have eb:binOf (ifM m a).l=logI (ifM m a).l:=by
  unfold binOf
  have:decide ((ifM m a).l>1024)=false:=by simp;omega
  rw [this];rfl
 obtain ⟨f1,f2⟩:=free_at h ha
 rw [hk] at f2
 unfold pDrop
 rw [Cf.page_iff.2 ha,cond_true]
 simp only [Pg.run_bind,Pg.run_ret,f2,beq_self_eq_true,cond_true]
 have e:decide (0<(ifM m a).l)=true:=by simp;omega
 rw [e,cond_true,eb]
 have hn:=S.nb_ok (h:= .bin (logI (ifM m a).l)) hb ha hG
 exact ⟨pull_at (q:= .bin (logI (ifM m a).l)) f1 hb ha hn.1 hn.2,trivial⟩
theorem iGet_zero:iGet 0=⟨0,0,0⟩:=rfl
theorem Tl.at {b q:Int}:∀{L:List Sp} {a:Int},Tl m a L b→a≤q→q<b→(ifM m q).k≠0→∃L1 x L2,L=L1++x::L2∧Tl m a L1 q∧Spn m q x∧Tl m (q+x.l) L2 b
 |[],a,h,h1,h2,_=>by have h:a=b:=h;omega
 |x::L,a,⟨h,hr⟩,h1,h2,h3=>by
  by_cases e:q=a
  ·subst e;exact ⟨[],x,L,rfl,rfl,h,hr⟩
  ·by_cases e2:q<a+x.l
   ·exfalso
    apply h3
    unfold ifM
    rw [h.in0 q (by omega) e2,iGet_zero]
   ·obtain ⟨L1,y,L2,g1,g2,g3,g4⟩:=Tl.at hr (by omega) h2 h3
    exact ⟨x::L1,y,L2,by rw [g1];rfl,⟨h,g2⟩,g3,g4⟩
theorem pull_same (h:Hq):(mPull m h a).info=m.info∧(mPull m h a).foot=m.foot∧(mPull m h a).slots=m.slots∧(mPull m h a).taken=m.taken∧(mPull m h a).root=m.root∧(mPull m h a).fr=m.fr∧(mPull m h a).lv=m.lv∧(mPull m h a).dn=m.dn:=by
 unfold mPull
 dsimp only
 cases m.prev a==0<;>cases m.next a==0<;>cases h<;>exact ⟨rfl,rfl,rfl,rfl,rfl,rfl,rfl,rfl⟩
theorem push_same (h:Hq):(mPush m h a).info=m.info∧(mPush m h a).foot=m.foot∧(mPush m h a).slots=m.slots∧(mPush m h a).taken=m.taken∧(mPush m h a).root=m.root∧(mPush m h a).fr=m.fr∧(mPush m h a).lv=m.lv∧(mPush m h a).dn=m.dn:=by
 unfold mPush
 dsimp only
 cases m.hd h==0<;>cases h<;>exact ⟨rfl,rfl,rfl,rfl,rfl,rfl,rfl,rfl⟩
end
end
section
open Go.Sl
section
variable {c:Cf} {xs:LI} {m:Mm} {s:VS}
theorem whole_cur (hx:AGood c xs) {i:Int} (h:0≤i∧i<c.cells):(VS.whole xs).cur i=cel xs i:=by
 have hl:=hx.len
 have e:(decide (0≤i)&&decide (i<(xs.length:Int)))=true:=by
  simp only [iE,decide_eq_true_eq];omega
 have hb:=cel_bd hx i
 have:(VS.whole xs).cur i=nv (cel xs i):=by
  unfold VS.cur VS.whole
  simp only [mnil,e,cond_true];rfl
 rw [this,nv_id hb]
theorem at_whole (hx:AGood c xs):At c (VS.whole xs) (Mm.of c xs):=by
 have hok:=Cf.ok_iff.1 hx.ok
 have hl:=hx.len
 have hc:c.cells=30+4*c.t+6*c.p:=by unfold Cf.cells;rw [hx.ok];rfl
 have pc:∀g k:Int,0≤g∧g<c.p→c.pc g k=30+4*c.t+6*g+k:= λg k hg=>by
  unfold Cf.pc;rw [hx.ok,Cf.page_iff.2 hg];rfl
 have P:∀g k:Int,(0≤g∧g<c.p)→0≤k∧k≤5→(VS.whole xs).cur (30+4*c.t+6*g+k)=cel xs (c.pc g k):= λg k hg hk=>by
  rw [pc g k hg];exact whole_cur hx (by omega)
 exact
  {ok:=hx.ok,full:=VS.whole_full xs,n:=hl
   info:= λg hg=>P g 0 hg (by omega),foot:= λg hg=>P g 1 hg (by omega),next:= λg hg=>P g 2 hg (by omega),prev:= λg hg=>P g 3 hg (by omega),slots:= λg hg=>P g 4 hg (by omega),taken:= λg hg=>P g 5 hg (by omega)
   bin:= λk hk=>by
    have e:(decide (0≤k)&&decide (k<11))=true:=by simpa using hk
    show _=cel xs (cBin k)
    unfold cBin;rw [e];exact whole_cur hx (by omega)
   rack:= λk hk=>by
    have e:(decide (0≤k)&&decide (k<9))=true:=by simpa using hk
    show _=cel xs (cRack k)
    unfold cRack;rw [e];exact whole_cur hx (by omega)
   root:= λk hk=>by
    have e:(decide (0≤k)&&decide (k<8))=true:=by simpa using hk
    show _=cel xs (cRoot k)
    unfold cRoot;rw [e];exact whole_cur hx (by omega)
   dn:= λt f ht hf=>by
    show _=cel xs (c.done t f)
    have e:(c.ok&&(decide (0≤t)&&decide (t<c.t))&&(decide (0≤f)&&decide (f<4)))=true:=by
     rw [hx.ok];simp [ht,hf]
    unfold Cf.done;rw [e];exact whole_cur hx (by omega)
   fr:=whole_cur hx (by omega),lv:=whole_cur hx (by omega)}
theorem cel_vals (h:At c s m) (ha:s.all=true) {i:Int} (hi:0≤i∧i<c.cells):cel s.vals i=s.cur i:=by
 have hn:=h.n
 unfold cel VS.vals
 rw [ha]
 simp only [cond_true]
 rw [iD,iR,oS (by omega)]
 simp only [iV,lA]
 congr 1;omega
theorem good_vals (h:At c s m) (ha:s.all=true):AGood c s.vals:=by
 have hok:=Cf.ok_iff.1 h.ok
 have hc:c.cells=30+4*c.t+6*c.p:=by unfold Cf.cells;rw [h.ok];rfl
 have hn:=h.n
 exact
  {ok:=h.ok
   len:=by
    unfold VS.vals;rw [ha];simp only [cond_true,kG,List.length_range];omega
   bd:= λv hv=>by
    unfold VS.vals at hv;rw [ha] at hv
    simp only [cond_true,kW] at hv
    obtain ⟨j,_,rfl⟩:=hv
    exact cur_bd _ _}
theorem meq_vals (h:At c s m) (ha:s.all=true):MEq c m (Mm.of c s.vals):=by
 have hok:=Cf.ok_iff.1 h.ok
 have hc:c.cells=30+4*c.t+6*c.p:=by unfold Cf.cells;rw [h.ok];rfl
 have P:∀g k:Int,(0≤g∧g<c.p)→0≤k∧k≤5→cel s.vals (c.pc g k)=s.cur (30+4*c.t+6*g+k):= λg k hg hk=>by
  have:c.pc g k=30+4*c.t+6*g+k:=by unfold Cf.pc;rw [h.ok,Cf.page_iff.2 hg];rfl
  rw [this];exact cel_vals h ha (by omega)
 exact
  {info:= λq a b=>(P q 0 ⟨a,b⟩ (by omega)).trans (h.info q ⟨a,b⟩),foot:= λq a b=>(P q 1 ⟨a,b⟩ (by omega)).trans (h.foot q ⟨a,b⟩),next:= λq a b=>(P q 2 ⟨a,b⟩ (by omega)).trans (h.next q ⟨a,b⟩),prev:= λq a b=>(P q 3 ⟨a,b⟩ (by omega)).trans (h.prev q ⟨a,b⟩),slots:= λq a b=>(P q 4 ⟨a,b⟩ (by omega)).trans (h.slots q ⟨a,b⟩),taken:= λq a b=>(P q 5 ⟨a,b⟩ (by omega)).trans (h.taken q ⟨a,b⟩)
   bin:= λk a b=>by
    have e:(decide (0≤k)&&decide (k<11))=true:=by simp [a,b]
    show cel s.vals (cBin k)=_
    rw [←h.bin k ⟨a,b⟩]
    unfold cBin;rw [e,cond_true];exact cel_vals h ha (by omega)
   rack:= λk a b=>by
    have e:(decide (0≤k)&&decide (k<9))=true:=by simp [a,b]
    show cel s.vals (cRack k)=_
    rw [←h.rack k ⟨a,b⟩]
    unfold cRack;rw [e,cond_true];exact cel_vals h ha (by omega)
   root:= λk a b=>by
    have e:(decide (0≤k)&&decide (k<8))=true:=by simp [a,b]
    show cel s.vals (cRoot k)=_
    rw [←h.root k ⟨a,b⟩]
    unfold cRoot;rw [e,cond_true];exact cel_vals h ha (by omega)
   fr:=(cel_vals h ha (by omega)).trans h.fr,lv:=(cel_vals h ha (by omega)).trans h.lv}
theorem read_all (s:VS) (i:Int):(s.read i).all=s.all:=by
 rcases VS.read_cases s i with h|⟨_,_,_,h⟩|⟨_,_,_,_,h⟩<;>rw [h]
theorem set_all (s:VS) (i x:Int):(s.set i x).all=s.all:=by
 unfold VS.set
 cases s.there i<;>rfl
theorem run_all {α:Type} (p:Pg α):∀s:VS,(p.run s).1.all=s.all:=by
 induction p with
 |ret a=>intro s;rfl
 |get i k ih=>intro s;exact (ih _ _).trans (read_all s i)
 |put i x k ih=>intro s;exact (ih _).trans (set_all s i x)
end
end
section
open Go.Sl
def apF:Bool→List Sp→Bool
 |_,[]=>true
 |b,x::L=>!(b&&x.k==1)&&apF (x.k==1) L
def apE:Bool→List Sp→Bool
 |b,[]=>b
 |_,x::L=>apE (x.k==1) L
theorem apF_app:∀(L1 L2:List Sp) (b:Bool),apF b (L1++L2)=(apF b L1&&apF (apE b L1) L2)
 |[],_,_=>by simp [apF,apE]
 |x::L1,L2,b=>by simp only [kE,apF,apE,apF_app L1 L2,Bool.and_assoc]
theorem apE_app:∀(L1 L2:List Sp) (b:Bool),apE b (L1++L2)=apE (apE b L1) L2
 |[],_,_=>rfl
 |x::L1,L2,b=>by simp only [kE,apE,apE_app L1 L2]
theorem apF_weak {L:List Sp} {b:Bool} (h:apF b L=true):apF false L=true:=by
 cases L with
 |nil=>rfl
 |cons x L=>simp only [apF,iE] at h ⊢;exact ⟨rfl,h.2⟩
theorem apF_iff:∀{L:List Sp},apF false L=true↔∀i:Nat,i+1<L.length→¬((L.getD i ⟨0,0,0⟩).k=1∧(L.getD (i+1) ⟨0,0,0⟩).k=1)
 |[]=>by simp [apF]
 |[x]=>by simp [apF]
 |x::y::L=>by
  have ih:=apF_iff (L:=y::L)
  simp only [apF,oK,Bool.not_false,nT,iE] at ih ⊢
  rw [ih]
  constructor
  ·rintro ⟨h1,h2⟩ i hi
   cases i with
   |zero=>
    simp only [List.getD_cons_zero,oT]
    rintro ⟨a,b⟩
    rw [a,b] at h1;simp at h1
   |succ i=>
    simp only [oT]
    exact h2 i (by simp only [jJ] at hi ⊢;omega)
  ·intro h
   refine ⟨?_, λi hi=>?_⟩
   ·have:=h 0 (by simp)
    simp only [List.getD_cons_zero,oT] at this
    cases h1:x.k==1<;>cases h2:y.k==1<;>simp_all
   ·have:=h (i+1) (by simp only [jJ] at hi ⊢;omega)
    simpa only [oT] using this
def fS:List Sp→Int
 |[]=>0
 |x::L=>(bif x.k==1 then x.l else 0)+fS L
theorem fS_app:∀L1 L2:List Sp,fS (L1++L2)=fS L1+fS L2
 |[],L2=>by simp [fS]
 |x::L1,L2=>by simp only [kE,fS,fS_app L1 L2];omega
theorem smF_zero (f:Int→Int) (n:Nat):∀k:Nat,(∀q:Int,n≤q→q<n+k→f q=0)→smF f (n+k)=smF f n
 |0,_=>rfl
 |k+1,h=>by
  rw [←nH,smF,smF_zero f n k λq a b=>h q a (by push_cast;omega),h _ (by push_cast;omega) (by push_cast;omega)];omega
section
variable {c:Cf} {m:Mm} {s:VS} {a n:Int}
theorem sm_tl:∀{L:List Sp} {a b:Int},0≤a→Tl m a L b→smF (frP m) b.toNat=smF (frP m) a.toNat+fS L
 |[],a,b,_,h=>by have h:a=b:=h;subst h;simp [fS]
 |x::L,a,b,ha,⟨h,hr⟩=>by
  have hl:=h.l1
  rw [sm_tl (by omega) hr]
  have e:(a+x.l).toNat=(a.toNat+1)+(x.l-1).toNat:=by omega
  rw [e,smF_zero (frP m) (a.toNat+1) _ λq g1 g2=>?_,smF,fS]
  ·have e2:((a.toNat:Nat):Int)=a:=by omega
   have e3:frP m a=bif x.k==1 then x.l else 0:=by
    have:ifM m a=⟨x.k,x.l,x.c⟩:=h.inf
    unfold frP;rw [this]
   rw [e2,e3];omega
  ·have:ifM m q=⟨0,0,0⟩:=by unfold ifM;rw [h.in0 q (by push_cast at g1;omega) (by push_cast at g2;omega),iGet_zero]
   unfold frP;rw [this];rfl
def exG (m:Mm) (X:LI):Hq→Int→Bool:= λh q=>gM m h q&&!X.contains q
structure Hol (c:Cf) (m:Mm) (L1:List Sp) (a n:Int) (L2:List Sp):Prop where
 t1:Tl m 0 L1 a
 t2:Tl m (a+n) L2 c.p
 n1:1≤n
 i0:∀q,a<q→q<a+n→m.info q=0
 f0:∀q,a≤q→q<a+n-1→m.foot q=0
 p1:apF false L1=true
 p2:apF false L2=true
 bits:∀q:Int,0≤q→q<c.p→q≠a→∀b:Int,0≤b→b<32→badM m q b=false
 z:∀b:Int,0≤b→b<32→bitAt (m.taken a) b=false∧bitAt (m.slots a) b=false
 some:∀q:Int,0≤q→q<c.p→q≠a→((ifM m q).k==3&&m.taken q==0)=false
 ls:ListsM c m (exG m [a])
theorem Hol.pos {L1 L2:List Sp} (H:Hol c m L1 a n L2):0≤a∧a+n≤c.p:=⟨H.t1.le,H.t2.le⟩
theorem gM_eq {m m':Mm} {q:Int} (h:m'.info q=m.info q) (h2:m'.taken q=m.taken q) (g:Hq):gM m' g q=gM m g q:=by
 cases g with
 |bin k=>exact binM_eq h k
 |rack k=>exact rackM_eq h h2 k
theorem gM_none {q:Int} (h:(ifM m q).k≠1) (h2:(ifM m q).k≠3) (g:Hq):gM m g q=false:=by
 cases g with
 |bin k=>simp [gM,binM,h]
 |rack k=>simp [gM,rackM,h2]
theorem exG_eq {m m':Mm} {X:LI} {q:Int} (h:X.contains q=false→m'.info q=m.info q) (h2:X.contains q=false→m'.taken q=m.taken q) (g:Hq):exG m' X g q=exG m X g q:=by
 unfold exG
 cases e:X.contains q with
 |true=>simp
 |false=>rw [gM_eq (h e) (h2 e)]
theorem notin {X:LI} {q:Int}:X.contains q=false↔q ∉ X:=by
 rw [←Bool.not_eq_true,lL]
theorem Tl.kind {b q:Int}:∀{L:List Sp} {a:Int},Tl m a L b→a≤q→q<b→infoOk (m.info q)=true
 |[],a,h,h1,h2=>by have h:a=b:=h;omega
 |x::L,a,⟨h,hr⟩,h1,h2=>by
  by_cases e:q=a
  ·subst e;exact h.iok
  ·by_cases e2:q<a+x.l
   ·rw [h.in0 q (by omega) e2];rfl
   ·exact Tl.kind hr (by omega) h2
theorem ShapeM.apF {L:List Sp} (S:ShapeM c m L):apF false L=true:=apF_iff.2 S.ap
theorem ap_split {L1 L2:List Sp} {x:Sp} (h:apF false (L1++x::L2)=true):apF false L1=true∧apF false L2=true∧apF (x.k==1) L2=true∧(x.k=1→apE false L1=false):=by
 rw [apF_app] at h
 simp only [apF,iE,jP,mN] at h
 refine ⟨h.1,apF_weak h.2.2,h.2.2, λe=>?_⟩
 rcases h.2.1 with h1|h1
 ·exact h1
 ·rw [e] at h1;cases h1
theorem ap_join {L1 L2:List Sp} {x:Sp} (h1:apF false L1=true) (h2:apF (x.k==1) L2=true) (h3:x.k=1→apE false L1=false):apF false (L1++x::L2)=true:=by
 rw [apF_app]
 simp only [apF,iE,jP,mN]
 refine ⟨h1,?_,h2⟩
 by_cases e:x.k=1
 ·exact .inl (h3 e)
 ·right;simpa using e
theorem bad_zero {q b:Int} (h:badM m q b=false) (hk:(ifM m q).k≠3):bitAt (m.taken q) b=false∧bitAt (m.slots q) b=false:=by
 have e:((ifM m q).k !=3)=true:=by simpa using hk
 unfold badM at h
 rw [e] at h
 cases h1:bitAt (m.taken q) b<;>cases h2:bitAt (m.slots q) b<;>rw [h1,h2] at h<;>first|exact ⟨rfl,rfl⟩|cases h
theorem zero_bad {q b:Int} (h:bitAt (m.taken q) b=false∧bitAt (m.slots q) b=false):badM m q b=false:=by
 unfold badM;rw [h.1,h.2];rfl
theorem gDel_ex {h:Hq} {X:LI} (hh:h.ok) (ha:0≤a∧a<c.p) (hX:a ∉ X) (S:ListsM c m (exG m X)) (hg:gM m h a=true) (h':Hq) (hh':h'.ok) (q:Int):gDel (exG m X) h a h' q=exG m (a::X) h' q:=by
 have hxa:exG m X h a=true:=by unfold exG;rw [hg,notin.2 hX];rfl
 by_cases e:q=a
 ·subst e
  have e2:exG m (q::X) h' q=false:=by unfold exG;simp
  rw [e2]
  unfold gDel
  by_cases e3:h'=h
  ·subst e3;simp
  ·cases e4:exG m X h' q with
   |false=>rfl
   |true=>exact (S.one h' h hh' hh e3 q ha.1 ha.2 e4 hxa).elim
 ·unfold gDel exG
  have e2:decide (q=a)=false:=by simpa using e
  have e3:(a::X).contains q=X.contains q:=by
   rw [pG]
   have:(q==a)=false:=by simpa using e
   rw [this,lM]
  rw [e2,e3];simp
theorem pull_ex {h:Hq} {X:LI} (hh:h.ok) (ha:0≤a∧a<c.p) (hX:a ∉ X) (S:ListsM c m (exG m X)) (hg:gM m h a=true):ListsM c (mPull m h a) (exG (mPull m h a) (a::X)):=by
 have hxa:exG m X h a=true:=by unfold exG;rw [hg,notin.2 hX];rfl
 have ep:=pull_same (m:=m) (a:=a) h
 refine (S.pull hh ha hxa).of_eq (λ_=>rfl) rfl rfl λh' hh' q a1 a2=>?_
 rw [gDel_ex hh ha hX S hg h' hh' q]
 exact exG_eq (λ_=>by rw [ep.1]) (λ_=>by rw [ep.2.2.2.1]) h'
theorem push_ex {h:Hq} {X:LI} (hh:h.ok) (ha:0≤a∧a<c.p) (hX:a ∉ X) (S:ListsM c m (exG m (a::X))) (hg:gM m h a=true) (ho:∀h':Hq,h'.ok→h'≠h→gM m h' a=false):ListsM c (mPush m h a) (exG (mPush m h a) X):=by
 have hno:∀h':Hq,h'.ok→exG m (a::X) h' a=false:= λh' _=>by unfold exG;simp
 have ep:=push_same (m:=m) (a:=a) h
 refine (S.push hh ha hno).of_eq (λ_=>rfl) rfl rfl λh' hh' q a1 a2=>?_
 rw [exG_eq (m:=m) (λ_=>by rw [ep.1]) (λ_=>by rw [ep.2.2.2.1]) h']
 unfold gAdd
 by_cases e:q=a
 ·subst e
  rw [hno h' hh']
  unfold exG
  rw [notin.2 hX]
  by_cases e2:h'=h
  ·subst e2;rw [hg];simp
  ·rw [ho h' hh' e2];simp [e2]
 ·have e2:decide (q=a)=false:=by simpa using e
  have e3:(a::X).contains q=X.contains q:=by
   rw [pG]
   have:(q==a)=false:=by simpa using e
   rw [this,lM]
  unfold exG
  rw [e2,e3];simp
theorem ex_none {X:LI} (S:ListsM c m (exG m (a::X))) (hn:∀h:Hq,gM m h a=false):ListsM c m (exG m X):=by
 refine S.of_eq (λ_=>rfl) rfl rfl λh hh q a1 a2=>?_
 unfold exG
 by_cases e:q=a
 ·subst e;rw [hn h];rfl
 ·rw [pG]
  have:(q==a)=false:=by simpa using e
  rw [this,lM]
theorem ex_set {X:LI} {m':Mm} (S:ListsM c m (exG m X)) (e0:∀h:Hq,m'.hd h=m.hd h) (e1:m'.next=m.next) (e2:m'.prev=m.prev) (e3:∀q,q ∉ X→m'.info q=m.info q) (e4:∀q,q ∉ X→m'.taken q=m.taken q):ListsM c m' (exG m' X):=
 S.of_eq e0 e1 e2 λh _ q _ _=>exG_eq (λe=>e3 q (notin.1 e)) (λe=>e4 q (notin.1 e)) h
end
end
section
open Go.Sl
structure Kp (m m':Mm):Prop where
 slots:m'.slots=m.slots
 taken:m'.taken=m.taken
 root:m'.root=m.root
 dn:m'.dn=m.dn
 fr:m'.fr=m.fr
 lv:m'.lv=m.lv
theorem Kp.rfl {m:Mm}:Kp m m:=⟨_root_.rfl,_root_.rfl,_root_.rfl,_root_.rfl,_root_.rfl,_root_.rfl⟩
theorem Kp.trans {m m1 m2:Mm} (h:Kp m m1) (k:Kp m1 m2):Kp m m2:=⟨k.slots.trans h.slots,k.taken.trans h.taken,k.root.trans h.root,k.dn.trans h.dn,k.fr.trans h.fr,k.lv.trans h.lv⟩
theorem Kp.span (m:Mm) (k a n:Int):Kp m (mSpan m k a n):=⟨_root_.rfl,_root_.rfl,_root_.rfl,_root_.rfl,_root_.rfl,_root_.rfl⟩
theorem Kp.pull (m:Mm) (h:Hq) (a:Int):Kp m (mPull m h a):=by
 obtain ⟨_,_,e1,e2,e3,e4,e5,e6⟩:=pull_same (m:=m) (a:=a) h
 exact ⟨e1,e2,e3,e6,e4,e5⟩
theorem Kp.push (m:Mm) (h:Hq) (a:Int):Kp m (mPush m h a):=by
 obtain ⟨_,_,e1,e2,e3,e4,e5,e6⟩:=push_same (m:=m) (a:=a) h
 exact ⟨e1,e2,e3,e6,e4,e5⟩
theorem Kp.drop (m:Mm) (a:Int):Kp m (mDrop m a):=Kp.pull _ _ _
theorem Kp.add (m:Mm) (a n:Int):Kp m (mAdd m a n):=(Kp.span m 1 a n).trans (Kp.push _ _ _)
def uI (i:If):If:=bif i.k==2||i.k==3 then i else ⟨0,0,0⟩
def uM (m:Mm) (q:Int):If:=uI (ifM m q)
theorem uM_eq {m m':Mm} {q:Int} (h:m'.info q=m.info q):uM m' q=uM m q:=by unfold uM;rw [ifM_eq h]
section
variable {c:Cf} {m:Mm} {s:VS} {a n:Int}
theorem ex_any {X Y:LI} (S:ListsM c m (exG m X)) (hx:∀q∈X,q ∉ Y→∀h:Hq,gM m h q=false) (hy:∀q∈Y,q ∉ X→∀h:Hq,gM m h q=false):ListsM c m (exG m Y):=by
 refine S.of_eq (λ_=>rfl) rfl rfl λh hh q a1 a2=>?_
 unfold exG
 by_cases e1:q∈X
 ·by_cases e2:q∈Y
  ·rw [lL.2 e1,lL.2 e2]
  ·rw [hx q e1 e2 h];rfl
 ·by_cases e2:q∈Y
  ·rw [hy q e2 e1 h];rfl
  ·rw [notin.2 e1,notin.2 e2]
theorem ex_nil:exG m []=gM m:=by funext h q;simp [exG]
theorem mSpan_info {k:Int} (q:Int):(mSpan m k a n).info q=if q=a then iVal k n 0 else m.info q:=rfl
theorem mSpan_foot {k:Int} (q:Int):(mSpan m k a n).foot q=if q=a+n-1 then nv (a+1) else m.foot q:=rfl
theorem mSpan_if {k:Int} (hk:k=1∨k=2) (hn:1≤n∧n≤1024):ifM (mSpan m k a n) a=⟨k,n,0⟩:=by
 unfold ifM;rw [mSpan_info,if_pos rfl];exact (iVal_get (span_right hk hn)).1
theorem zero_if {q:Int} (h:m.info q=0):ifM m q=⟨0,0,0⟩:=by unfold ifM;rw [h];exact iGet_zero
theorem span_spn {k:Int} (hk:k=1∨k=2) (hn:1≤n∧n≤1024) (i0:∀q,a<q→q<a+n→m.info q=0) (f0:∀q,a≤q→q<a+n-1→m.foot q=0):Spn (mSpan m k a n) a ⟨k,n,0⟩ where
 l1:=hn.1
 rt:=span_right hk hn
 k0:=by show k≠0;omega
 inf:=by rw [mSpan_info,if_pos rfl];exact (iVal_get (span_right hk hn)).1
 iok:=by rw [mSpan_info,if_pos rfl];exact (iVal_get (span_right hk hn)).2.1
 in0:= λq g1 g2=>by rw [mSpan_info,if_neg (by omega)];exact i0 q g1 g2
 ft0:= λq g1 g2=>by
  have g2:q<a+n-1:=g2
  rw [mSpan_foot,if_neg (by omega)];exact f0 q g1 g2
 ft:=by
  show (mSpan m k a n).foot (a+n-1)=_
  rw [mSpan_foot,if_pos rfl]
theorem gM_two {q n:Int} (e:ifM m q=⟨2,n,0⟩) (h:Hq):gM m h q=false:=gM_none (by rw [e];exact (by decide:(2:Int)≠1)) (by rw [e];exact (by decide:(2:Int)≠3)) h
theorem drop_hol {L1 L2:List Sp} {x:Sp} (S:SndM c m (L1++x::L2)) (h1:Tl m 0 L1 a) (h2:Spn m a x) (h3:Tl m (a+x.l) L2 c.p) (hk:x.k=1):Hol c (mDrop m a) L1 a x.l L2∧apF true L2=true∧apE false L1=false:=by
 obtain ⟨S1,S2⟩:=snd_iff.1 S
 have hap:=ap_split S1.apF
 have hif:ifM m a=⟨x.k,x.l,x.c⟩:=h2.inf
 have hka:(ifM m a).k=1:=by rw [hif];exact hk
 have hl:=h2.l1
 have:=h1.le
 have:=h3.le
 have ha:0≤a∧a<c.p:=by omega
 obtain ⟨e1,e2,e3,e4,_⟩:=pull_same (m:=m) (a:=a) (.bin (logI (ifM m a).l))
 have e1:(mDrop m a).info=m.info:=e1
 have e2:(mDrop m a).foot=m.foot:=e2
 have e3:(mDrop m a).slots=m.slots:=e3
 have e4:(mDrop m a).taken=m.taken:=e4
 have h2':apF (x.k==1) L2=true:=hap.2.2.1
 rw [hk] at h2'
 refine ⟨⟨h1.of_eq (λq _ _=>by rw [e1]) (λq _ _=>by rw [e2]),h3.of_eq (λq _ _=>by rw [e1]) (λq _ _=>by rw [e2]),h2.l1, λq g1 g2=>by rw [e1];exact h2.in0 q g1 g2, λq g1 g2=>by rw [e2];exact h2.ft0 q g1 g2,hap.1,hap.2.1, λq a1 a2 _ b b1 b2=>?_, λb b1 b2=>?_, λq a1 a2 _=>?_,?_⟩,h2',hap.2.2.2 hk⟩
 ·rw [badM_eq (m:=m) (by rw [e1]) (by rw [e3]) (by rw [e4])];exact S1.bits q a1 a2 b b1 b2
 ·rw [e3,e4];exact bad_zero (S1.bits a (by omega) (by omega) b b1 b2) (by omega)
 ·rw [ifM_eq (m:=m) (by rw [e1]),e4];exact S1.some q a1 a2
 ·have hb:=logI_bd (iGet_one hka)
  exact pull_ex (X:=[]) hb ha (by simp) (by rw [ex_nil];exact S2) (by simp [gM,binM,hka])
theorem fill_used {L1 L2:List Sp} (H:Hol c m L1 a n L2) (hn:n≤1024):SndM c (mSpan m 2 a n) (L1++⟨2,n,0⟩::L2):=by
 have hp:=H.pos
 have hn1:=H.n1
 have hif:=mSpan_if (m:=m) (a:=a) (.inr rfl) ⟨hn1,hn⟩
 refine snd_iff.2 ⟨⟨Tl.app.2 ⟨a,H.t1.of_eq (λq _ g=>?_) (λq _ g=>?_),span_spn (.inr rfl) ⟨hn1,hn⟩ H.i0 H.f0,H.t2.of_eq (λq g _=>?_) (λq g _=>?_)⟩,apF_iff.1 (ap_join H.p1 H.p2 (λe=>by cases e)), λq a1 a2 b b1 b2=>?_, λq a1 a2=>?_⟩,?_⟩
 ·rw [mSpan_info,if_neg (by omega)]
 ·rw [mSpan_foot,if_neg (by omega)]
 ·rw [mSpan_info,if_neg (by omega)]
 ·rw [mSpan_foot,if_neg (by omega)]
 ·by_cases e:q=a
  ·subst e;exact zero_bad (H.z b b1 b2)
  ·rw [badM_eq (m:=m) (m':=mSpan m 2 a n) (by rw [mSpan_info,if_neg e]) rfl rfl];exact H.bits q a1 a2 e b b1 b2
 ·by_cases e:q=a
  ·subst e;rw [hif];rfl
  ·rw [ifM_eq (m:=m) (by rw [mSpan_info,if_neg e])];exact H.some q a1 a2 e
 ·rw [←ex_nil]
  refine ex_none (a:=a) (ex_set H.ls (λ_=>rfl) rfl rfl (λq hq=>?_) λq _=>rfl) λh=>gM_two hif h
  rw [mSpan_info,if_neg (by simpa using hq)]
theorem fill_free {L1 L2:List Sp} (H:Hol c m L1 a n L2) (hn:n≤1024) (h1:apE false L1=false) (h2:apF true L2=true):SndM c (mAdd m a n) (L1++⟨1,n,0⟩::L2):=by
 have hp:=H.pos
 have hn1:=H.n1
 have ha:0≤a∧a<c.p:=by omega
 have hif:=mSpan_if (m:=m) (a:=a) (.inl rfl) ⟨hn1,hn⟩
 obtain ⟨e1,e2,e3,e4,_⟩:=push_same (m:=mSpan m 1 a n) (a:=a) (.bin (logI n))
 have e1:(mAdd m a n).info=(mSpan m 1 a n).info:=e1
 have e2:(mAdd m a n).foot=(mSpan m 1 a n).foot:=e2
 have e3:(mAdd m a n).slots=m.slots:=e3
 have e4:(mAdd m a n).taken=m.taken:=e4
 refine snd_iff.2 ⟨⟨Tl.app.2 ⟨a,H.t1.of_eq (λq _ g=>?_) (λq _ g=>?_),(span_spn (.inl rfl) ⟨hn1,hn⟩ H.i0 H.f0).of_eq (λq _ _=>by rw [e1]) (λq _ _=>by rw [e2]),H.t2.of_eq (λq g _=>?_) (λq g _=>?_)⟩,apF_iff.1 (ap_join H.p1 h2 (λ_=>h1)), λq a1 a2 b b1 b2=>?_, λq a1 a2=>?_⟩,?_⟩
 ·rw [e1,mSpan_info,if_neg (by omega)]
 ·rw [e2,mSpan_foot,if_neg (by omega)]
 ·rw [e1,mSpan_info,if_neg (by have g:a+n≤q:=g;omega)]
 ·rw [e2,mSpan_foot,if_neg (by have g:a+n≤q:=g;omega)]
 ·by_cases e:q=a
  ·subst e;exact zero_bad (by rw [e3,e4];exact H.z b b1 b2)
  ·rw [badM_eq (m:=m) (by rw [e1,mSpan_info,if_neg e]) (by rw [e3]) (by rw [e4])];exact H.bits q a1 a2 e b b1 b2
 ·by_cases e:q=a
  ·subst e;rw [ifM_eq (m:=mSpan m 1 q n) (by rw [e1]),hif];rfl
  ·rw [ifM_eq (m:=m) (by rw [e1,mSpan_info,if_neg e]),e4];exact H.some q a1 a2 e
 ·rw [←ex_nil]
  have hb:=logI_bd (n:=n) (by omega)
  refine push_ex (X:=[]) (h:= .bin (logI n)) hb ha (by simp) (ex_set H.ls (λ_=>rfl) rfl rfl (λq hq=>?_) λq _=>rfl) (by simp [gM,binM,hif]) λh' hh' hne=>?_
  ·rw [mSpan_info,if_neg (by simpa using hq)]
  ·cases h' with
   |bin k=>
    cases e:gM (mSpan m 1 a n) (.bin k) a with
    |false=>rfl
    |true=>
     simp only [gM,binM,hif,iE,beq_iff_eq] at e
     exact absurd (by rw [e.2]) hne
   |rack k=>simp [gM,rackM,hif]
theorem split_hol {L1 L2:List Sp} {k:Int} (H:Hol c m L1 a n L2) (hk:1≤k∧k<n) (hn:n≤1024):Hol c (mSpan m 2 a k) (L1++[⟨2,k,0⟩]) (a+k) (n-k) L2:=by
 have hp:=H.pos
 have hif:=mSpan_if (m:=m) (a:=a) (n:=k) (.inr rfl) ⟨hk.1,by omega⟩
 have hz:(mSpan m 2 a k).info (a+k)=0:=by rw [mSpan_info,if_neg (by omega)];exact H.i0 _ (by omega) (by omega)
 have hz0:m.info (a+k)=0:=H.i0 _ (by omega) (by omega)
 refine ⟨Tl.app.2 ⟨a,H.t1.of_eq (λq _ g=>?_) (λq _ g=>?_),span_spn (.inr rfl) ⟨hk.1,by omega⟩ (λq g1 g2=>H.i0 q g1 (by omega)) (λq g1 g2=>H.f0 q g1 (by omega)),rfl⟩,?_,by omega, λq g1 g2=>?_, λq g1 g2=>?_,ap_join H.p1 rfl (λe=>by cases e),H.p2, λq a1 a2 hq b b1 b2=>?_, λb b1 b2=>?_, λq a1 a2 hq=>?_,?_⟩
 ·rw [mSpan_info,if_neg (by omega)]
 ·rw [mSpan_foot,if_neg (by omega)]
 ·have e:a+k+(n-k)=a+n:=by omega
  rw [e]
  exact H.t2.of_eq (λq g _=>by rw [mSpan_info,if_neg (by omega)]) (λq g _=>by rw [mSpan_foot,if_neg (by omega)])
 ·rw [mSpan_info,if_neg (by omega)];exact H.i0 q (by omega) (by omega)
 ·rw [mSpan_foot,if_neg (by omega)];exact H.f0 q (by omega) (by omega)
 ·by_cases e:q=a
  ·subst e;exact zero_bad (H.z b b1 b2)
  ·rw [badM_eq (m:=m) (m':=mSpan m 2 a k) (by rw [mSpan_info,if_neg e]) rfl rfl];exact H.bits q a1 a2 e b b1 b2
 ·exact bad_zero (m:=m) (H.bits (a+k) (by omega) (by omega) (by omega) b b1 b2) (by rw [zero_if hz0];decide)
 ·by_cases e:q=a
  ·subst e;rw [hif];rfl
  ·rw [ifM_eq (m:=m) (by rw [mSpan_info,if_neg e])];exact H.some q a1 a2 e
 ·have S:=ex_set (m':=mSpan m 2 a k) H.ls (λ_=>rfl) rfl rfl (λq hq=>by rw [mSpan_info,if_neg (by simpa using hq)]) λq _=>rfl
  refine ex_any S (λq hq _ h=>?_) λq hq _ h=>?_
  ·simp only [iY] at hq
   subst hq;exact gM_two hif h
  ·simp only [iY] at hq
   subst hq;exact gM_none (by rw [zero_if hz];decide) (by rw [zero_if hz];decide) h
end
end
section
open Go.Sl
theorem wI_id {x:Int} (h: -9223372036854775808≤x∧x<9223372036854775808):wI x=x:=w64 h
section
variable {c:Cf} {m:Mm} {s:VS} {a n:Int}
theorem count_at (h:At c s m) (k:Int):At c ((pCount k).run s).1 {m with fr:=nv (m.fr+k)}:=by
 unfold pCount
 simp only [Pg.run_get,Pg.run_put,Pg.run_ret]
 have h1:=(h.read 0).set_fr (nv (s.get 0+k))
 rw [nvnv,h.get_fr] at h1
 rw [h.get_fr]
 exact h1
theorem SndM.same {L:List Sp} {m':Mm} (S:SndM c m L) (e1:m'.info=m.info) (e2:m'.foot=m.foot) (e3:m'.slots=m.slots) (e4:m'.taken=m.taken) (e5:m'.next=m.next) (e6:m'.prev=m.prev) (e7:∀h:Hq,m'.hd h=m.hd h):SndM c m' L:=by
 obtain ⟨S1,S2⟩:=snd_iff.1 S
 refine snd_iff.2 ⟨⟨S1.tl.of_eq (λq _ _=>by rw [e1]) (λq _ _=>by rw [e2]),S1.ap, λq a1 a2 b b1 b2=>?_, λq a1 a2=>?_⟩,S2.of_eq e7 e5 e6 λh hh q a1 a2=>gM_eq (by rw [e1]) (by rw [e4]) h⟩
 ·rw [badM_eq (m:=m) (by rw [e1]) (by rw [e3]) (by rw [e4])];exact S1.bits q a1 a2 b b1 b2
 ·rw [ifM_eq (m:=m) (by rw [e1]),e4];exact S1.some q a1 a2
structure Ch1 (c:Cf) (m m':Mm) (a:Int) (u:If) (d:Int):Prop where
 u:∀q,0≤q→q<c.p→uM m' q=if q=a then u else uM m q
 slots:m'.slots=m.slots
 taken:m'.taken=m.taken
 root:m'.root=m.root
 dn:m'.dn=m.dn
 lv:m'.lv=m.lv
 fr:m'.fr=nv (m.fr+d)
theorem add_info (q:Int):(mAdd m a n).info q=if q=a then iVal 1 n 0 else m.info q:=by
 have e:(mAdd m a n).info=(mSpan m 1 a n).info:=(push_same (m:=mSpan m 1 a n) (a:=a) (.bin (logI n))).1
 rw [e,mSpan_info]
theorem add_uM (hn:1≤n∧n≤1024) (q:Int):uM (mAdd m a n) q=if q=a then ⟨0,0,0⟩ else uM m q:=by
 by_cases e:q=a
 ·subst e
  rw [if_pos rfl]
  unfold uM ifM
  rw [add_info,if_pos rfl,(iVal_get (span_right (.inl rfl) hn)).1];rfl
 ·rw [if_neg e];exact uM_eq (by rw [add_info,if_neg e])
theorem span_uM (hn:1≤n∧n≤1024) (q:Int):uM (mSpan m 2 a n) q=if q=a then ⟨2,n,0⟩ else uM m q:=by
 by_cases e:q=a
 ·subst e
  rw [if_pos rfl]
  unfold uM;rw [mSpan_if (.inr rfl) hn];rfl
 ·rw [if_neg e];exact uM_eq (by rw [mSpan_info,if_neg e])
end
end
section
open Go.Sl
theorem read_wrote (s:VS) (i:Int):(s.read i).wrote=s.wrote:=by
 rcases VS.read_cases s i with h|⟨_,_,_,h⟩|⟨_,_,_,_,h⟩<;>rw [h]
theorem log_le {n l:Int} (h1:1≤n) (h:n≤l):logI n≤logI l:=by
 unfold logI
 rw [if_neg (by omega),if_neg (by omega)]
 have h2:2^Nat.log2 n.toNat≤n.toNat:=(Nat.le_log2 (by omega)).1 (kA _)
 have:=(Nat.le_log2 (n:=l.toNat) (by omega)).2 (mI h2 (by omega))
 omega
theorem log_lt {n l:Int} (h1:1≤n) (h3:1≤l) (h:logI n<logI l):n<l:=by
 unfold logI at h
 rw [if_neg (by omega),if_neg (by omega)] at h
 have h2:=(Nat.log2_lt (n:=n.toNat) (k:=Nat.log2 l.toNat) (by omega)).1 (by omega)
 have h4:=(Nat.le_log2 (n:=l.toNat) (by omega)).1 (kA (Nat.log2 l.toNat))
 omega
section
variable {c:Cf} {m:Mm} {s:VS} {a n:Int}
theorem free_wrote:((pFree c a).run s).1.wrote=s.wrote:=read_wrote s _
theorem page_no {p:Int} (h:¬(0≤p∧p<c.p)):c.page p=false:=by
 rw [←Bool.not_eq_true,Cf.page_iff];exact h
theorem first_at (hn:1≤n):∀(f:Nat) (l:LI) (s:VS) (q b b':Int),At c s m→Sg' m c.p q b l 0 b'→(∀g∈l,(ifM m g).k=1)→l.length≤f→
 At c ((pFirst c n f (q-1)).run s).1 m∧((pFirst c n f (q-1)).run s).1.wrote=s.wrote∧
 (((pFirst c n f (q-1)).run s).2.2=true→((pFirst c n f (q-1)).run s).2.1∈l∧n≤(ifM m ((pFirst c n f (q-1)).run s).2.1).l)∧
 (((pFirst c n f (q-1)).run s).2.2=false→((pFirst c n f (q-1)).run s).2.1=0∧∀g∈l,(ifM m g).l<n)
 |0,l,s,q,b,b',h,hl,hk,hf=>by
  have:l=[]:=List.length_eq_zero_iff.1 (by omega)
  subst this
  exact ⟨h,rfl, λe=>(by cases e), λ_=>⟨rfl, λg hg=>by cases hg⟩⟩
 |f+1,[],s,q,b,b',h,hl,hk,hf=>by
  have hq:q=0:=hl.1
  have e:c.page (q-1)=false:=page_no (by omega)
  unfold pFirst
  rw [e,cond_false]
  exact ⟨h,rfl, λe=>(by cases e), λ_=>⟨rfl, λg hg=>by cases hg⟩⟩
 |f+1,x::l,s,q,b,b',h,⟨h1,h2,h3,h4⟩,hk,hf=>by
  have hq:q-1=x:=by omega
  have e:c.page x=true:=Cf.page_iff.2 h2
  have hkx:=hk x (by simp)
  obtain ⟨f1,f2⟩:=free_at h h2
  rw [hkx] at f2
  have hrun:(pFirst c n (f+1) (q-1)).run s=(bif decide (n≤(ifM m x).l) then Pg.ret (x,true) else .get (c.next x) λq=>pFirst c n f (q-1)).run ((pFree c x).run s).1:=by
   rw [hq]
   show (bif c.page x then _ else _:Pg _).run s=_
   rw [e,cond_true,Pg.run_bind,f2];rfl
  rw [hrun]
  by_cases hd:n≤(ifM m x).l
  ·have e2:decide (n≤(ifM m x).l)=true:=by simpa using hd
   rw [e2,cond_true,Pg.run_ret]
   exact ⟨f1,free_wrote, λ_=>⟨by simp,hd⟩, λe=>by cases e⟩
  ·have e2:decide (n≤(ifM m x).l)=false:=by simpa using hd
   rw [e2,cond_false,Pg.run_get,f1.get_next h2]
   obtain ⟨i1,i2,i3,i4⟩:=first_at hn f l _ (m.next x) q b' (f1.read (c.next x)) h4 (λg hg=>hk g (by simp [hg])) (by simp only [jJ] at hf;omega)
   refine ⟨i1,by rw [i2,read_wrote,free_wrote], λe=>?_, λe=>?_⟩
   ·have:=i3 e;exact ⟨by simp [this.1],this.2⟩
   ·refine ⟨(i4 e).1, λg hg=>?_⟩
    rcases iH.1 hg with rfl|hg
    ·omega
    ·exact (i4 e).2 g hg
theorem bins_at (S:ListsM c m (gM m)):∀(f:Nat) (k:Int) (s:VS),At c s m→0≤k→11-k≤f→
 At c ((pBins c f k).run s).1 m∧((pBins c f k).run s).1.wrote=s.wrote∧
 (((pBins c f k).run s).2.2=true→∃k',k≤k'∧k'<11∧(0≤((pBins c f k).run s).2.1∧((pBins c f k).run s).2.1<c.p)∧binM m k' ((pBins c f k).run s).2.1=true)∧
 (((pBins c f k).run s).2.2=false→((pBins c f k).run s).2.1=0∧∀k',k≤k'→k'<11→∀g,0≤g→g<c.p→binM m k' g=false)
 |0,k,s,h,h0,hf=>⟨h,rfl, λe=>(by cases e), λ_=>⟨rfl, λk' _ _=>by omega⟩⟩
 |f+1,k,s,h,h0,hf=>by
  by_cases hk:k<11
  ·have e:decide (k<11)=true:=by simpa using hk
   have hok:(Hq.bin k).ok:=⟨h0,hk⟩
   obtain ⟨l,⟨b',hl⟩,_,hm⟩:=S.ls (.bin k) hok
   have hl:Sg' m c.p (m.bin k) 0 l 0 b':=hl
   have hrun:(pBins c (f+1) k).run s=(bif c.page (m.bin k-1) then Pg.ret (m.bin k-1,true) else pBins c f (k+1)).run (s.read (cBin k)):=by
    show (bif decide (k<11) then _ else _:Pg _).run s=_
    rw [e,cond_true,Pg.run_get,h.get_bin ⟨h0,hk⟩]
   rw [hrun]
   have h1:=h.read (cBin k)
   cases l with
   |nil=>
    have hq:m.bin k=0:=hl.1
    have e2:c.page (m.bin k-1)=false:=page_no (by omega)
    rw [e2,cond_false]
    obtain ⟨i1,i2,i3,i4⟩:=bins_at S f (k+1) _ h1 (by omega) (by omega)
    refine ⟨i1,by rw [i2,read_wrote], λe=>?_, λe=>⟨(i4 e).1, λk' g1 g2 g g3 g4=>?_⟩⟩
    ·obtain ⟨k',j1,j2⟩:=i3 e
     exact ⟨k',by omega,j2⟩
    ·by_cases e3:k'=k
     ·subst e3
      cases e4:binM m k' g with
      |false=>rfl
      |true=>exact absurd ((hm g).2 ⟨⟨g3,g4⟩,e4⟩) (by simp)
     ·exact (i4 e).2 k' (by omega) g2 g g3 g4
   |cons x r=>
    obtain ⟨q1,q2,_⟩:=hl
    have e2:c.page (m.bin k-1)=true:=Cf.page_iff.2 (by omega)
    rw [e2,cond_true,Pg.run_ret]
    refine ⟨h1,read_wrote _ _, λ_=>⟨k,mM _,hk,by show 0≤m.bin k-1∧m.bin k-1<c.p;omega,?_⟩, λe=>(by cases e)⟩
    show binM m k (m.bin k-1)=true
    rw [show m.bin k-1=x by omega]
    exact ((hm x).1 (by simp)).2
  ·have e:decide (k<11)=false:=by simpa using hk
   have hrun:(pBins c (f+1) k).run s=(s,(0,false)):=by
    show (bif decide (k<11) then _ else _:Pg _).run s=_
    rw [e,cond_false,Pg.run_ret]
   rw [hrun]
   exact ⟨h,rfl, λe=>(by cases e), λ_=>⟨rfl, λk' _ _=>by omega⟩⟩
theorem span_fits {L:List Sp} (S:SndM c m L) (ha:0≤a∧a<c.p) (hk:(ifM m a).k≠0):∃L1 x L2,L=L1++x::L2∧Tl m 0 L1 a∧Spn m a x∧Tl m (a+x.l) L2 c.p∧ifM m a=⟨x.k,x.l,x.c⟩∧a+x.l≤c.p:=by
 obtain ⟨L1,x,L2,g1,g2,g3,g4⟩:=Tl.at S.tl ha.1 ha.2 hk
 exact ⟨L1,x,L2,g1,g2,g3,g4,g3.inf,g4.le⟩
theorem find_at {L:List Sp} (h:At c s m) (S:SndM c m L):At c ((pFind c n).run s).1 m∧((pFind c n).run s).1.wrote=s.wrote∧
 (((pFind c n).run s).2.2=true→1≤n∧(0≤((pFind c n).run s).2.1∧((pFind c n).run s).2.1<c.p)∧(ifM m ((pFind c n).run s).2.1).k=1∧n≤(ifM m ((pFind c n).run s).2.1).l)∧
 (((pFind c n).run s).2.2=false→((pFind c n).run s).2.1=0∧(1≤n→∀g,0≤g→g<c.p→(ifM m g).k=1→(ifM m g).l<n)):=by
 have hok:=Cf.ok_iff.1 h.ok
 obtain ⟨S1,S2⟩:=snd_iff.1 S
 unfold pFind
 by_cases hn:1≤n∧n≤c.p
 ·have e:(decide (1≤n)&&decide (n≤c.p))=true:=by simp [hn]
  rw [e,cond_true,Pg.run_bind,Pg.run_get]
  have eb:binOf n=logI n:=by
   unfold binOf
   have:decide (n>1024)=false:=by simp;omega
   rw [this];rfl
  have hb:=logI_bd (n:=n) (by omega)
  rw [eb,h.get_bin hb]
  obtain ⟨l,⟨b',hl⟩,hnd,hm⟩:=S2.ls (.bin (logI n)) hb
  have hl:Sg' m c.p (m.bin (logI n)) 0 l 0 b':=hl
  have hk1:∀g∈l,(ifM m g).k=1:= λg hg=>by
   have:=((hm g).1 hg).2
   simp only [gM,binM,iE,beq_iff_eq] at this
   exact this.1
  have hlen:=nodup_pages hnd (Sg'.pages hl)
  obtain ⟨i1,i2,i3,i4⟩:=first_at hn.1 c.p.toNat l _ (m.bin (logI n)) 0 b' (h.read (cBin (logI n))) hl hk1 hlen
  rw [read_wrote] at i2
  cases hr:((pFirst c n c.p.toNat (m.bin (logI n)-1)).run (s.read (cBin (logI n)))).2.2 with
  |true=>
   rw [cond_true,Pg.run_ret]
   refine ⟨i1,i2, λ_=>?_, λe=>?_⟩
   ·obtain ⟨j1,j2⟩:=i3 hr
    exact ⟨hn.1,Sg'.pages hl _ j1,hk1 _ j1,j2⟩
   ·rw [hr] at e;cases e
  |false=>
   rw [cond_false]
   obtain ⟨k1,k2,k3,k4⟩:=bins_at S2 12 (logI n+1) _ i1 (by omega) (by omega)
   refine ⟨k1,k2.trans i2, λe=>?_, λe=>⟨(k4 e).1, λ_ g g1 g2 g3=>?_⟩⟩
   ·obtain ⟨k',j1,j2,j3,j4⟩:=k3 e
    simp only [binM,iE,beq_iff_eq] at j4
    have hl2:=iGet_one j4.1
    refine ⟨hn.1,j3,j4.1,?_⟩
    have:=log_lt hn.1 hl2.1 (show logI n<logI (ifM m _).l by rw [j4.2];omega)
    exact Int.le_of_lt this
   ·have hl2:=iGet_one g3
    have hb2:=logI_bd hl2
    rcases Int.lt_or_le (ifM m g).l n with h5|h5
    ·exact h5
    ·have h6:=log_le hn.1 h5
     by_cases e7:logI (ifM m g).l=logI n
     ·exact (i4 hr).2 g ((hm g).2 ⟨⟨g1,g2⟩,by simp [gM,binM,g3,e7]⟩)
     ·have:=(k4 e).2 (logI (ifM m g).l) (by omega) hb2.2 g g1 g2
      simp [binM,g3] at this
 ·have e:(decide (1≤n)&&decide (n≤c.p))=false:=by
   cases h1:(decide (1≤n)&&decide (n≤c.p)) with
   |false=>rfl
   |true=>simp only [iE,decide_eq_true_eq] at h1;exact absurd h1 hn
  rw [e,cond_false,Pg.run_ret]
  refine ⟨h,rfl, λe=>(by cases e), λ_=>⟨rfl, λh1 g g1 g2 g3=>?_⟩⟩
  obtain ⟨L1,x,L2,_,_,_,_,e2,e3⟩:=span_fits S ⟨g1,g2⟩ (by rw [g3];decide)
  rw [e2];show x.l<n;omega
theorem qused_at {k:Int} (h:At c s m) (ha:0≤a∧a<c.p) (hk:1≤k∧k≤c.p-a):At c ((qUsed c a k).run s).1 (mSpan m 2 a k):=by
 have hok:=Cf.ok_iff.1 h.ok
 have e:qUsed c a k=pUsed c a k:=by
  unfold qUsed pUsed
  rw [wI_id (x:=a+k) (by omega),wI_id (x:=a+k-1) (by omega)]
 rw [e];exact used_at h ha hk
theorem part_at {L1 L2:List Sp} {k:Int} (h:At c s m) (H:Hol c m L1 a n L2) (hk:1≤k∧k≤n) (h2:apF true L2=true):∃m' L',At c (((qUsed c a k).bind λ_=>bif decide (k<n) then pAdd c (a+k) (n-k) else .ret ()).run s).1 m'∧SndM c m' L'∧Kp m m'∧(∀q,q≠a→(k<n→q≠a+k)→uM m' q=uM m q)∧uM m' a=⟨2,k,0⟩∧(k<n→uM m' (a+k)=⟨0,0,0⟩)∧fS L'=fS L1+(n-k)+fS L2:=by
 have hok:=Cf.ok_iff.1 h.ok
 have hp:=H.pos
 have hn1:=H.n1
 have h1:=qused_at (a:=a) (k:=k) h (by omega) (by omega)
 rw [Pg.run_bind]
 by_cases hkn:k<n
 ·have e:decide (k<n)=true:=by simpa using hkn
  have H1:=split_hol (k:=k) H ⟨hk.1,hkn⟩ (by omega)
  have hA:=add_at (a:=a+k) (n:=n-k) h1 (by omega) (by omega) (H1.ls.hd_ok (h:= .bin (logI (n-k))) (logI_bd (by omega)))
  rw [e,cond_true]
  refine ⟨_,_,hA,fill_free H1 (by omega) ?_ h2,(Kp.span m 2 a k).trans (Kp.add _ _ _), λq q1 q2=>?_,?_, λ_=>?_,?_⟩
  ·rw [apE_app];rfl
  ·rw [add_uM (by omega),if_neg (q2 hkn),span_uM (by omega),if_neg q1]
  ·rw [add_uM (by omega),if_neg (by omega),span_uM (by omega),if_pos rfl]
  ·rw [add_uM (by omega),if_pos rfl]
  ·rw [fS_app,fS_app];simp [fS];omega
 ·have e:decide (k<n)=false:=by simpa using hkn
  have ek:k=n:=by omega
  subst ek
  rw [e,cond_false,Pg.run_ret]
  refine ⟨_,_,h1,fill_used H (by omega),Kp.span m 2 a k, λq q1 q2=>?_,?_, λe=>by omega,?_⟩
  ·rw [span_uM (by omega),if_neg q1]
  ·rw [span_uM (by omega),if_pos rfl]
  ·rw [fS_app];simp [fS]
theorem take_at {L:List Sp} (h:At c s m) (S:SndM c m L):
 (((qTake c n).run s).2.2=false→((qTake c n).run s).2.1=0∧At c ((qTake c n).run s).1 m∧((qTake c n).run s).1.wrote=s.wrote∧(1≤n→∀g,0≤g→g<c.p→(ifM m g).k=1→(ifM m g).l<n))∧
 (((qTake c n).run s).2.2=true→∃m' L' p,((qTake c n).run s).2.1=p∧At c ((qTake c n).run s).1 m'∧SndM c m' L'∧Ch1 c m m' p ⟨2,n,0⟩ (-n)∧uM m p=⟨0,0,0⟩∧fS L'=fS L-n∧(0≤p∧p+n≤c.p∧1≤n)∧(ifM m p).k=1∧n≤(ifM m p).l):=by
 have hok:=Cf.ok_iff.1 h.ok
 obtain ⟨f1,f2,f3,f4⟩:=find_at (n:=n) h S
 cases hr:((pFind c n).run s).2.2 with
 |false=>
  have hrun:(qTake c n).run s=(((pFind c n).run s).1,(0,false)):=by
   unfold qTake
   rw [Pg.run_bind,hr,cond_false,Pg.run_ret]
  rw [hrun]
  exact ⟨λ_=>⟨rfl,f1,f2,(f4 hr).2⟩, λe=>(by cases e)⟩
 |true=>
  obtain ⟨g1,g2,g3,g4⟩:=f3 hr
  generalize hpq:((pFind c n).run s).2.1=p at g2 g3 g4
  obtain ⟨L1,x,L2,e1,t1,t2,t3,e2,e3⟩:=span_fits S g2 (by rw [g3];decide)
  subst e1
  have hxk:x.k=1:=by rw [e2] at g3;exact g3
  have hxl:n≤x.l:=by rw [e2] at g4;exact g4
  obtain ⟨S1,S2⟩:=snd_iff.1 S
  obtain ⟨d1,d2⟩:=drop_at' f1 g2 g3 S2 (by simp [gM,binM,g3])
  obtain ⟨H,hap,_⟩:=drop_hol S t1 t2 t3 hxk
  obtain ⟨m',L',k1,k2,k3,k4,k5,k6,k7⟩:=part_at (k:=n) d1 H ⟨g1,hxl⟩ hap
  have hC:=count_at k1 (-n)
  have hrun:(qTake c n).run s=(((pCount (-n)).run (((qUsed c p n).bind λ_=>bif decide (n<x.l) then pAdd c (p+n) (x.l-n) else .ret ()).run ((pDrop c p).run ((pFind c n).run s).1).1).1).1,(p,true)):=by
   unfold qTake
   simp only [Pg.run_bind,hr,cond_true,hpq,d2,e2,Pg.run_ret]
   rw [wI_id (x:=p+n) (by omega),wI_id (x:=x.l-n) (by omega)]
  rw [hrun]
  have ei:∀q,uM (mDrop m p) q=uM m q:= λq=>uM_eq (congrFun (pull_same (m:=m) (a:=p) (.bin (logI (ifM m p).l))).1 q)
  have kk:=(Kp.drop m p).trans k3
  refine ⟨λe=>(by cases e), λ_=>⟨_,L',p,rfl,hC,k2.same rfl rfl rfl rfl rfl rfl (λh=>by cases h<;>rfl),⟨λq a1 a2=>?_,kk.slots,kk.taken,kk.root,kk.dn,kk.lv,?_⟩,?_,?_,by omega,by rw [e2];exact hxk,by rw [e2];exact hxl⟩⟩
  ·show uM m' q=_
   by_cases e:q=p
   ·subst e;rw [if_pos rfl,k5]
   ·rw [if_neg e]
    by_cases e4:q=p+n
    ·by_cases e5:n<x.l
     ·rw [e4,k6 e5]
      unfold uM
      rw [zero_if (t2.in0 (p+n) (by omega) (by omega))];rfl
     ·rw [k4 q e (λe6=>absurd e6 e5),ei]
    ·rw [k4 q e (λ_=>e4),ei]
  ·show nv (m'.fr+ -n)=_
   rw [kk.fr]
  ·unfold uM;rw [e2,uI,hxk];rfl
  ·rw [k7,fS_app]
   simp only [fS,hxk,beq_self_eq_true,cond_true];omega
end
end
section
open Go.Sl
section
variable {c:Cf} {m m':Mm}
def blkU (c:Cf) (u:If) (sl q:Int):List Pt:=bif u.k==2 then [⟨2,(q+1)*pgB c.s,u.l*pgB c.s⟩] else bif u.k==3 then slF c sl q u.c (kSlots u.c).toNat else []
where slF (c:Cf) (sl q k:Int):Nat→List Pt
 |0=>[]
 |n+1=>slF c sl q k n++bif bitAt sl n then [⟨2,(q+1)*pgB c.s+n*szB c.s k,szB c.s k⟩] else []
theorem slF_eq (q k:Int):∀n:Nat,slB c m q k n=blkU.slF c (m.slots q) q k n
 |0=>rfl
 |n+1=>by rw [slB,blkU.slF,slF_eq q k n]
theorem blkP_u (q:Int):blkP c m q=blkU c (uM m q) (m.slots q) q:=by
 unfold blkP blkU uM uI
 cases h2:(ifM m q).k==2 with
 |true=>simp only [pU,cond_true,h2]
 |false=>
  cases h3:(ifM m q).k==3 with
  |true=>simp only [pH,cond_true,h2,h3,cond_false,slF_eq]
  |false=>
   simp only [Bool.or_self,cond_false]
   have e1:((0:Int)==2)=false:=by decide
   have e2:((0:Int)==3)=false:=by decide
   rw [e1,e2,cond_false,cond_false]
theorem lvP_u (q:Int):lvP m q=(bif (uM m q).k==2 then 1 else 0)+ones (m.slots q):=by
 unfold lvP uM uI
 cases h2:(ifM m q).k==2 with
 |true=>simp only [pU,cond_true,h2]
 |false=>
  cases h3:(ifM m q).k==3 with
  |true=>simp only [pH,cond_true,h2]
  |false=>rfl
def blkT (c:Cf) (m:Mm) (a:Int):Nat→List Pt
 |0=>[]
 |k+1=>blkT c m a k++blkP c m (a+k)
theorem blkF_add (n:Nat):∀k:Nat,blkF c m (n+k)=blkF c m n++blkT c m n k
 |0=>by simp [blkT]
 |k+1=>by rw [←nH,blkF,blkF_add n k,blkT,jX];rfl
theorem blkT_congr {a:Int}:∀{k:Nat},(∀q:Int,a≤q→q<a+k→blkP c m' q=blkP c m q)→blkT c m' a k=blkT c m a k
 |0,_=>rfl
 |k+1,h=>by
  rw [blkT,blkT,blkT_congr (k:=k) λq g1 g2=>h q g1 (by push_cast;omega),h _ (by omega) (by push_cast;omega)]
theorem blkF_split {p:Int} (h0:0≤p) (h1:p<c.p):blkF c m c.p.toNat=blkF c m p.toNat++(blkP c m p++blkT c m (p+1) (c.p-p-1).toNat):=by
 have e:c.p.toNat=(p.toNat+1)+(c.p-p-1).toNat:=by omega
 have e2:((p.toNat:Nat):Int)=p:=by omega
 have e3:((p.toNat+1:Nat):Int)=p+1:=by omega
 rw [e,blkF_add,blkF,jX,e2,e3]
theorem pg_pos (h:c.ok=true):1024≤pgB c.s:=(szB_ok (Cf.ok_iff.1 h).2.2 (k:=0) (by omega)).2.2.2.2.1
theorem slB_bd (h:c.ok=true) {q k:Int} (hk:0≤k∧k≤8) {x:Pt}:∀n:Nat,n≤(kSlots k).toNat→x∈slB c m q k n→∃j:Nat,j<n∧bitAt (m.slots q) j=true∧x=⟨2,(q+1)*pgB c.s+j*szB c.s k,szB c.s k⟩
 |0,_,hx=>by cases hx
 |n+1,hn,hx=>by
  rw [slB,kC] at hx
  rcases hx with hx|hx
  ·obtain ⟨j,h1,h2⟩:=slB_bd h hk n (by omega) hx
   exact ⟨j,by omega,h2⟩
  ·cases hb:bitAt (m.slots q) n with
   |false=>rw [hb] at hx;cases hx
   |true=>
    rw [hb,cond_true,iY] at hx
    exact ⟨n,by omega,hb,hx⟩
theorem sl_in (h:c.ok=true) {k:Int} (hk:0≤k∧k≤8) {j:Nat} (hj:j<(kSlots k).toNat):0≤(j:Int)*szB c.s k∧(j:Int)*szB c.s k+szB c.s k≤pgB c.s:=by
 obtain ⟨e,e2,e3,e4,e5,e6,_⟩:=szB_ok (Cf.ok_iff.1 h).2.2 hk
 have f1:0≤(j:Int)*szB c.s k:=nJ (by omega) (by omega)
 have f2:((j:Int)+1)*szB c.s k≤kSlots k*szB c.s k:=kK (by omega) (by omega)
 have f3:((j:Int)+1)*szB c.s k=j*szB c.s k+szB c.s k:=by rw [nN,nW]
 have f4:kSlots k*szB c.s k=szB c.s k*kSlots k:=oQ _ _
 omega
theorem blkP_bd (h:c.ok=true) {q:Int} {x:Pt} (hx:x∈blkP c m q):x.k=2∧(q+1)*pgB c.s≤x.a∧x.a<(q+1)*pgB c.s+pgB c.s:=by
 have hp:=pg_pos h
 unfold blkP at hx
 cases h2:(ifM m q).k==2 with
 |true=>
  rw [h2,cond_true,iY] at hx
  subst hx;exact ⟨rfl,mM _,by show (q+1)*pgB c.s<(q+1)*pgB c.s+pgB c.s;omega⟩
 |false=>
  cases h3:(ifM m q).k==3 with
  |false=>rw [h2,h3] at hx;cases hx
  |true=>
   rw [h2,h3,cond_false,cond_true] at hx
   have hb:=iGet_bd (m.info q)
   have hk:0≤(ifM m q).c∧(ifM m q).c≤8:=⟨hb.2.2.2.2.1,hb.2.2.2.2.2⟩
   obtain ⟨j,h4,_,rfl⟩:=slB_bd h hk _ (kA _) hx
   have:=sl_in h hk h4
   have e2:=(szB_ok (Cf.ok_iff.1 h).2.2 hk).2.1
   exact ⟨rfl,by show _≤_+_;omega,by show _+_<_;omega⟩
theorem pg_mono (h:c.ok=true) {q r:Int} (hq:q+1≤r):(q+1)*pgB c.s+pgB c.s≤(r+1)*pgB c.s:=by
 have hp:=pg_pos h
 have e:(q+1)*pgB c.s+pgB c.s=(q+2)*pgB c.s:=by
  rw [show q+2=(q+1)+1 by omega,nN (q+1) 1,nW]
 rw [e]
 exact kK (by omega) (by omega)
theorem blkF_lt (h:c.ok=true) {p:Int} (hp:0≤p) {x:Pt} (hx:x∈blkF c m p.toNat):x.a<(p+1)*pgB c.s:=by
 obtain ⟨q,h1,h2,h3⟩:=mem_blkF.1 hx
 have:=blkP_bd h h3
 have:=pg_mono h (q:=q) (r:=p) (by omega)
 omega
theorem mem_blkT {a:Int} {x:Pt}:∀{k:Nat},x∈blkT c m a k→∃q:Int,a≤q∧q<a+k∧x∈blkP c m q
 |0,h=>by cases h
 |k+1,h=>by
  rw [blkT,kC] at h
  rcases h with h|h
  ·obtain ⟨q,h1,h2,h3⟩:=mem_blkT h
   exact ⟨q,h1,by push_cast;omega,h3⟩
  ·exact ⟨_,by omega,by push_cast;omega,h⟩
theorem blkT_ge (h:c.ok=true) {p:Int} {k:Nat} {x:Pt} (hx:x∈blkT c m (p+1) k):(p+1)*pgB c.s+pgB c.s≤x.a:=by
 obtain ⟨q,h1,h2,h3⟩:=mem_blkT hx
 have:=blkP_bd h h3
 have:=pg_mono h (q:=p) (r:=q) (by omega)
 omega
def addB (b:Pt):List Pt→List Pt
 |[]=>[b]
 |x::l=>bif decide (x.a>b.a) then b::x::l else x::addB b l
theorem addB_app {b:Pt}:∀{l1 l2:List Pt},(∀x∈l1,x.a≤b.a)→(∀x∈l2,b.a<x.a)→addB b (l1++l2)=l1++b::l2
 |[],[],_,_=>rfl
 |[],y::l2,_,h=>by
  have:decide (y.a>b.a)=true:=by simpa using h y (by simp)
  simp only [mT,addB,this,cond_true]
 |x::l1,l2,h1,h2=>by
  have e:decide (x.a>b.a)=false:=by have:=h1 x (by simp);simpa using this
  have ih:=addB_app (l1:=l1) (l2:=l2) (λy hy=>h1 y (by simp [hy])) h2
  simp only [kE,addB,e,cond_false,ih]
section
variable {a:Int} {u:If} {d:Int}
theorem Ch1.blkP (C:Ch1 c m m' a u d) {q:Int} (h0:0≤q) (h1:q<c.p) (hq:q≠a):blkP c m' q=blkP c m q:=by
 rw [blkP_u,blkP_u,C.u q h0 h1,if_neg hq,C.slots]
theorem Ch1.pre (C:Ch1 c m m' a u d) (h1:a<c.p):blkF c m' a.toNat=blkF c m a.toNat:=blkF_congr λq g1 g2=>C.blkP g1 (by omega) (by omega)
theorem Ch1.post (C:Ch1 c m m' a u d) (h0:0≤a) (h1:a<c.p):blkT c m' (a+1) (c.p-a-1).toNat=blkT c m (a+1) (c.p-a-1).toNat:=blkT_congr λq g1 g2=>C.blkP (by omega) (by omega) (by omega)
end
end
end
section
open Go.Sl
def stM (c:Cf) (m:Mm):LI×LI×Int×Int×Int×Int×Int×Int×Int×Int×Bool:=((blkF c m c.p.toNat).map (·.a),(blkF c m c.p.toNat).map (·.s),m.root 0,m.root 1,m.root 2,m.root 3,m.root 4,m.root 5,m.root 6,m.root 7,true)
section
variable {c:Cf} {m m':Mm} {s:VS} {xs:LI} {L:List Sp}
theorem state_xs (h:soundA c xs=true):stateA c xs=stM c (Mm.of c xs):=by
 unfold stateA
 rw [h,cond_true,blocks_eq];rfl
theorem sound_xs (h:soundA c xs=true) (hb:bdAll xs):∃L,SoundM c (Mm.of c xs) L:=((sound_iff hb).1 h).2
theorem sound_of (h:At c s m) (ha:s.all=true) (S:SoundM c m L):soundA c s.vals=true:=(sound_iff (good_vals h ha).bd).2 ⟨good_vals h ha,L,S.congr (meq_vals h ha)⟩
theorem state_of (h:At c s m) (ha:s.all=true) (S:SoundM c m L):stateA c s.vals=stM c m:=by
 have e:=meq_vals h ha
 rw [state_xs (sound_of h ha S)]
 unfold stM
 rw [blkF_eq e.info e.slots,e.root 0 (by decide) (by decide),e.root 1 (by decide) (by decide),e.root 2 (by decide) (by decide),e.root 3 (by decide) (by decide),e.root 4 (by decide) (by decide),e.root 5 (by decide) (by decide),e.root 6 (by decide) (by decide),e.root 7 (by decide) (by decide)]
theorem stM_eq (h1:blkF c m' c.p.toNat=blkF c m c.p.toNat) (h2:m'.root=m.root):stM c m'=stM c m:=by unfold stM;rw [h1,h2]
end
end
section
open Go.Sl
theorem mem_addB {b x:Pt}:∀{l:List Pt},x∈addB b l↔x=b∨x∈l
 |[]=>by simp [addB]
 |y::l=>by
  unfold addB
  cases decide (y.a>b.a) with
  |true=>simp
  |false=>
   simp only [cond_false,iH,mem_addB (l:=l)]
   constructor
   ·rintro (h|h|h)
    ·exact .inr (.inl h)
    ·exact .inl h
    ·exact .inr (.inr h)
   ·rintro (h|h|h)
    ·exact .inr (.inl h)
    ·exact .inl h
    ·exact .inr (.inr h)
section
variable {c:Cf} {m m':Mm} {s:VS} {L L':List Sp} {a d:Int} {u:If}
theorem uM_kind {q:Int} (h:uM m q=⟨0,0,0⟩):(ifM m q).k≠2∧(ifM m q).k≠3:=by
 unfold uM uI at h
 constructor
 ·intro e
  rw [e] at h
  have e2:((2:Int)==2||(2:Int)==3)=true:=rfl
  rw [e2,cond_true] at h
  rw [h] at e;cases e
 ·intro e
  rw [e] at h
  have e2:((3:Int)==2||(3:Int)==3)=true:=rfl
  rw [e2,cond_true] at h
  rw [h] at e;cases e
theorem uM_two {q n:Int} (h:uM m q=⟨2,n,0⟩):ifM m q=⟨2,n,0⟩:=by
 unfold uM uI at h
 cases e:((ifM m q).k==2||(ifM m q).k==3) with
 |true=>rw [e] at h;exact h
 |false=>rw [e] at h;cases h
end
end
section
open Go.Sl
def insA (b:Int):LI→LI
 |[]=>[b]
 |x::l=>bif decide (x>b) then b::x::l else x::insA b l
def insZ (b z:Int):LI→LI→LI
 |x::l,y::k=>bif decide (x>b) then z::y::k else y::insZ b z l k
 |_,_=>[z]
theorem insA_map (b:Pt):∀l:List Pt,insA b.a (l.map (·.a))=(addB b l).map (·.a)
 |[]=>rfl
 |x::l=>by
  simp only [iL,insA,addB,insA_map b l]
  cases decide (x.a>b.a)<;>rfl
theorem insZ_map (b:Pt):∀l:List Pt,insZ b.a b.s (l.map (·.a)) (l.map (·.s))=(addB b l).map (·.s)
 |[]=>rfl
 |x::l=>by
  simp only [iL,insZ,addB,insZ_map b l]
  cases decide (x.a>b.a)<;>rfl
theorem insA_len (b:Int):∀l:LI,(insA b l).length=l.length+1
 |[]=>rfl
 |x::l=>by
  unfold insA
  cases decide (x>b) with
  |true=>rfl
  |false=>simp only [cond_false,jJ,insA_len b l]
end
section
open Go.Sl
abbrev StT:=LI×LI×Int×Int×Int×Int×Int×Int×Int×Int×Bool
def stWith (t:StT) (a z:LI):StT:=(a,z,t.2.2)
section
variable {c:Cf} {m m':Mm} {s:VS} {xs:LI} {L L':List Sp}
theorem stM_add {b:Pt} (h:blkF c m' c.p.toNat=addB b (blkF c m c.p.toNat)) (hr:m'.root=m.root):stM c m'=stWith (stM c m) (insA b.a (stM c m).1) (insZ b.a b.s (stM c m).1 (stM c m).2.1):=by
 unfold stM stWith
 simp only [h,hr,insA_map,insZ_map]
end
end
section
open Go.Sl
theorem onesF_fr (t:Int):∀n:Nat,onesF t n+(frN (λi=>!bitAt t (i:Int)) n).length=n
 |0=>rfl
 |n+1=>by
  have ih:=onesF_fr t n
  rw [onesF,frN_succ,jL]
  cases bitAt t (n:Int)<;>simp<;>omega
theorem onesF_top {t:Int} {n:Nat}:∀{k:Nat},(∀b:Int,n≤b→b<n+k→bitAt t b=false)→onesF t (n+k)=onesF t n
 |0,_=>rfl
 |k+1,h=>by
  rw [←nH,onesF,onesF_top (k:=k) λb h1 h2=>h b h1 (by push_cast;omega),h _ (by push_cast;omega) (by push_cast;omega)];simp
theorem ones_fr {t k:Int} (h:∀b:Int,kSlots k≤b→b<32→bitAt t b=false):ones t+(frL t (kSlots k)).length=kSlots k:=by
 have hk:=kSlots_bd k
 have h1:=onesF_top (t:=t) (n:=(kSlots k).toNat) (k:=32-(kSlots k).toNat) λb g1 g2=>h b (by omega) (by omega)
 rw [show (kSlots k).toNat+(32-(kSlots k).toNat)=32 by omega] at h1
 have h2:=onesF_fr t (kSlots k).toNat
 unfold ones frL
 rw [h1];omega
theorem full_fr {t k:Int} (h:∀b:Int,kSlots k≤b→b<32→bitAt t b=false):full t k=(frL t (kSlots k)).isEmpty:=by
 have:=ones_fr h
 unfold full
 cases hl:frL t (kSlots k) with
 |nil=>rw [hl] at this;simp at this ⊢;omega
 |cons x l=>
  rw [hl] at this
  simp only [jJ] at this
  simp only [List.isEmpty_cons,beq_eq_false_iff_ne,ne_eq]
  omega
def idN (t s:Int):Nat→Int
 |0=>0
 |n+1=>idN t s n+bif bitAt t n&&!bitAt s n then 1 else 0
theorem idN_one {t t' s x:Int} (h:∀b,bitAt t' b=(bitAt t b||decide (b=x))) (ht:bitAt t x=false) (hs:bitAt s x=false) (h0:0≤x):∀n:Nat,idN t' s n=idN t s n+bif decide (x<n) then 1 else 0
 |0=>by
  have:decide (x<((0:Nat):Int))=false:=by simp;omega
  rw [this];rfl
 |n+1=>by
  rw [idN,idN,idN_one h ht hs h0 n,h]
  by_cases e:(n:Int)=x
  ·have e1:decide (x<(n:Int))=false:=by simp;omega
   have e2:decide (x<((n+1:Nat):Int))=true:=by simp;omega
   rw [e1,e2,e,ht,hs];simp
  ·have e1:decide ((n:Int)=x)=false:=by simpa using e
   have e2:decide (x<((n+1:Nat):Int))=decide (x<(n:Int)):=decide_eq_decide.2 (by push_cast;omega)
   rw [e1,e2,pJ];omega
theorem idN_sub {t t' s x:Int} (h:∀b,bitAt t' b=(bitAt t b&&!decide (b=x))) (ht:bitAt t x=true) (hs:bitAt s x=false) (h0:0≤x) {n:Nat} (hn:x<n):idN t s n=idN t' s n+1:=by
 have:=idN_one (t:=t') (t':=t) (s:=s) (x:=x) (λb=>by
  rw [h]
  by_cases e:b=x
  ·subst e;rw [ht];simp
  ·simp [e]) (by rw [h];simp) hs h0 n
 have e:decide (x<(n:Int))=true:=by simpa using hn
 rw [e] at this;exact this
section
variable {c:Cf} {m m':Mm} {s:VS} {L:List Sp} {a k:Int} {xs:LI}
def mTak (m:Mm) (a t:Int):Mm:={m with taken:=fset m.taken a t}
structure SndX (c:Cf) (m:Mm) (L:List Sp) (a:Int):Prop where
 tl:Tl m 0 L c.p
 ap:∀i:Nat,i+1<L.length→¬((L.getD i ⟨0,0,0⟩).k=1∧(L.getD (i+1) ⟨0,0,0⟩).k=1)
 bits:∀q:Int,0≤q→q<c.p→∀b:Int,0≤b→b<32→badM m q b=false
 some:∀q:Int,0≤q→q<c.p→q≠a→((ifM m q).k==3&&m.taken q==0)=false
 ls:ListsM c m (gM m)
theorem SndM.x (S:SndM c m L) (a:Int):SndX c m L a:=by
 obtain ⟨S1,S2⟩:=snd_iff.1 S
 exact ⟨S1.tl,S1.ap,S1.bits, λq h0 h1 _=>S1.some q h0 h1,S2⟩
theorem rackM_iff {q:Int}:rackM m k q=true↔(ifM m q).k=3∧(ifM m q).c=k∧full (m.taken q) k=false:=by
 simp only [rackM,iE,beq_iff_eq,jP,and_assoc]
theorem bad_live {q b:Int} (h:badM m q b=false) (hs:bitAt (m.slots q) b=true):bitAt (m.taken q) b=true:=by
 cases ht:bitAt (m.taken q) b with
 |true=>rfl
 |false=>unfold badM at h;rw [hs,ht] at h;cases h
theorem bad_slot {q b:Int} (h:badM m q b=false) (ht:bitAt (m.taken q) b=true):(ifM m q).k=3∧b<kSlots (ifM m q).c:=by
 unfold badM at h
 rw [ht] at h
 simp only [kO,oY,lM,nT,jB,bne_eq_false_iff_eq,decide_eq_false_iff_not] at h
 omega
theorem bits_in (hb:∀b:Int,0≤b→b<32→badM m a b=false):∀b:Int,kSlots (ifM m a).c≤b→b<32→bitAt (m.taken a) b=false:= λb h1 h2=>by
 have hk:=kSlots_bd (ifM m a).c
 cases ht:bitAt (m.taken a) b with
 |false=>rfl
 |true=>have:=bad_slot (hb b (by omega) h2) ht;omega
theorem put_slots (S:SndX c m L a) (ha:0≤a∧a<c.p) (hk:0≤k∧k<9) (hg:gM m (.rack k) a=true) (ht:bd32 (m.taken a)) {l:LI} (hl:l≠[]) (hm:∀x∈l,0≤x∧x<kSlots k∧bitAt (m.taken a) x=false):
 SndM c (bif full (setL (m.taken a) l) k then mPull (mTak m a (setL (m.taken a) l)) (.rack k) a else mTak m a (setL (m.taken a) l)) L:=by
 have hks:=kSlots_bd k
 obtain ⟨h3,hc,_⟩:=rackM_iff.1 hg
 obtain ⟨t1,t2⟩:=bitAt_setL ht λx hx=>by have:=hm x hx;omega
 generalize setL (m.taken a) l=t at t1 t2 ⊢
 have hi:∀q,(mTak m a t).info q=m.info q:= λ_=>rfl
 have htk:∀q,q≠a→(mTak m a t).taken q=m.taken q:= λq hq=>fset_ne hq
 have hta:(mTak m a t).taken a=t:=fset_same _ _ _
 have hif:ifM (mTak m a t) a=ifM m a:=rfl
 have hbits:∀q:Int,0≤q→q<c.p→∀b:Int,0≤b→b<32→badM (mTak m a t) q b=false:= λq h0 h1 b b0 b1=>by
  by_cases e:q=a
  ·subst e
   have hb:=S.bits q h0 h1 b b0 b1
   unfold badM
   rw [hta,hif,t2,h3,hc]
   have hs:(mTak m q t).slots q=m.slots q:=rfl
   rw [hs]
   have e1:(bitAt (m.slots q) b&&!(bitAt (m.taken q) b||l.contains b))=false:=by
    cases hsb:bitAt (m.slots q) b with
    |false=>rfl
    |true=>rw [bad_live hb hsb];rfl
   rw [e1,lM]
   have e2:((3:Int) !=3||decide (b≥kSlots k))=decide (b≥kSlots k):=rfl
   rw [e2]
   cases hd:decide (b≥kSlots k) with
   |false=>simp
   |true=>
    have hd':kSlots k≤b:=by simpa using hd
    have e3:bitAt (m.taken q) b=false:=by
     cases hx:bitAt (m.taken q) b with
     |false=>rfl
     |true=>have:=bad_slot hb hx;rw [hc] at this;omega
    have e4:l.contains b=false:=by
     cases hx:l.contains b with
     |false=>rfl
     |true=>rw [lL] at hx;have:=hm b hx;omega
    rw [e3,e4];rfl
  ·rw [badM_eq (m:=m) (m':=mTak m a t) rfl rfl (htk q e)];exact S.bits q h0 h1 b b0 b1
 have htne:t≠0:= λe=>by
  obtain ⟨x,hx⟩:∃x,x∈l:=List.exists_mem_of_ne_nil l hl
  have:=t2 x
  rw [e,bitAt_zero,lL.2 hx,pH] at this
  cases this
 have hsome:∀q:Int,0≤q→q<c.p→((ifM (mTak m a t) q).k==3&&(mTak m a t).taken q==0)=false:= λq h0 h1=>by
  by_cases e:q=a
  ·subst e
   rw [hta]
   have:(t==0)=false:=by simpa using htne
   rw [this,oY]
  ·rw [htk q e];exact S.some q h0 h1 e
 have hT:Tl (mTak m a t) 0 L c.p:=S.tl.of_eq (λ_ _ _=>rfl) λ_ _ _=>rfl
 have hls:ListsM c (mTak m a t) (gM m):=S.ls.of_eq (λh=>by cases h<;>rfl) rfl rfl λ_ _ _ _ _=>rfl
 have hne:∀q,q≠a→∀h:Hq,gM (mTak m a t) h q=gM m h q:= λq hq h=>gM_eq (m:=m) (m':=mTak m a t) (q:=q) rfl (htk q hq) h
 have hhok:(Hq.rack k).ok:=hk
 cases hf:full t k with
 |false=>
  rw [cond_false]
  refine snd_iff.2 ⟨⟨hT,S.ap,hbits,hsome⟩,hls.of_eq (λ_=>rfl) rfl rfl λh hh q h0 h1=>?_⟩
  by_cases e:q=a
  ·subst e
   cases h with
   |bin j=>rfl
   |rack j=>
    show rackM (mTak m q t) j q=rackM m j q
    unfold rackM
    rw [hta,hif]
    by_cases ej:(ifM m q).c=j
    ·rw [←ej,hc,hf]
     have:=(rackM_iff.1 hg).2.2
     rw [this]
    ·have:((ifM m q).c==j)=false:=by simpa using ej
     rw [this];simp
  ·exact hne q e h
 |true=>
  rw [cond_true]
  obtain ⟨p1,p2,p3,p4,_,_,_,_⟩:=pull_same (m:=mTak m a t) (a:=a) (.rack k)
  have hpull:=hls.pull hhok ha hg
  refine snd_iff.2 ⟨⟨hT.of_eq (λ_ _ _=>by rw [p1]) λ_ _ _=>by rw [p2],S.ap, λq h0 h1 b b0 b1=>?_, λq h0 h1=>?_⟩,hpull.of_eq (λ_=>rfl) rfl rfl λh hh q h0 h1=>?_⟩
  ·rw [badM_eq (m:=mTak m a t) (by rw [p1]) (by rw [p3]) (by rw [p4])];exact hbits q h0 h1 b b0 b1
  ·rw [ifM_eq (m:=mTak m a t) (by rw [p1]),p4];exact hsome q h0 h1
  ·rw [gM_eq (m:=mTak m a t) (by rw [p1]) (by rw [p4]) h]
   unfold gDel
   by_cases e:q=a
   ·subst e
    by_cases eh:h= .rack k
    ·subst eh
     show rackM (mTak m q t) k q=_
     unfold rackM
     rw [hta,hf];simp
    ·have e1:gM m h q=false:=by
      cases hx:gM m h q with
      |false=>rfl
      |true=>exact (S.ls.one h (.rack k) hh hhok eh q h0 h1 hx hg).elim
     rw [e1,oK]
     cases h with
     |bin j=>exact e1
     |rack j=>
      have hj:j≠k:= λe=>eh (by rw [e])
      show rackM (mTak m q t) j q=false
      unfold rackM
      rw [hif]
      have:((ifM m q).c==j)=false:=by rw [hc];simp;omega
      rw [this];simp
   ·rw [hne q e h]
    have:decide (q=a)=false:=by simpa using e
    rw [this];simp
theorem slot_right (hk:0≤k∧k<9):iRight 3 1 k=true:=by
 have:k≤8:=by omega
 simp [iRight,hk.1,this]
theorem new_slab (S:SndM c m L) (ha:0≤a∧a<c.p) (hu:ifM m a=⟨2,1,0⟩) (hk:0≤k∧k<9) (ht:bd32 (m.taken a)) (hs:bd32 (m.slots a)):
 let m3:=mPush {m with info:=fset m.info a (iVal 3 1 k)} (.rack k) a
 ∃L',SndX c m3 L' a∧gM m3 (.rack k) a=true∧m.taken a=0∧m.slots a=0∧fS L'=fS L∧ListsM c m (gM m)∧ifM m3 a=⟨3,1,k⟩:=by
 intro m3
 obtain ⟨S1,S2⟩:=snd_iff.1 S
 obtain ⟨g1,g2,g3⟩:=iVal_get (slot_right hk)
 have hz:∀b:Int,bitAt (m.taken a) b=false∧bitAt (m.slots a) b=false:= λb=>by
  by_cases hb:0≤b∧b<32
  ·exact bad_zero (S1.bits a ha.1 ha.2 b hb.1 hb.2) (by rw [hu];decide)
  ·exact ⟨bitAt_out hb,bitAt_out hb⟩
 have z0:bd32 0:=by unfold bd32;decide
 have ht0:m.taken a=0:=bits_ext ht z0 λb=>by rw [(hz b).1,bitAt_zero]
 have hs0:m.slots a=0:=bits_ext hs z0 λb=>by rw [(hz b).2,bitAt_zero]
 let m2:Mm:={m with info:=fset m.info a (iVal 3 1 k)}
 obtain ⟨p1,p2,p3,p4,_,_,_,_⟩:=push_same (m:=m2) (a:=a) (.rack k)
 have i3:∀q,q≠a→m3.info q=m.info q:= λq hq=>by show (mPush m2 (.rack k) a).info q=_;rw [p1];exact fset_ne hq
 have ia:m3.info a=iVal 3 1 k:=by show (mPush m2 (.rack k) a).info a=_;rw [p1];exact fset_same _ _ _
 have f3:m3.foot=m.foot:=p2
 have s3:m3.slots=m.slots:=p3
 have t3:m3.taken=m.taken:=p4
 have hifa:ifM m3 a=⟨3,1,k⟩:=by unfold ifM;rw [ia,g1]
 obtain ⟨La,x,Lb,e,ta,tx,tb⟩:=Tl.at S1.tl ha.1 ha.2 (by rw [hu];decide)
 subst e
 have hx:(⟨x.k,x.l,x.c⟩:If)=⟨2,1,0⟩:=by rw [←tx.inf];exact hu
 injection hx with hx1 hx2 hx3
 have hfull0:full 0 k=false:=by
  have hkk:k=0∨k=1∨k=2∨k=3∨k=4∨k=5∨k=6∨k=7∨k=8:=by omega
  rcases hkk with rfl|rfl|rfl|rfl|rfl|rfl|rfl|rfl|rfl<;>decide
 have hg:gM m3 (.rack k) a=true:=rackM_iff.2 ⟨by rw [hifa],by rw [hifa],by rw [t3,ht0];exact hfull0⟩
 have hap:=ap_split S1.apF
 refine ⟨La++⟨3,1,k⟩::Lb,⟨?_,?_, λq h0 h1 b b0 b1=>?_, λq h0 h1 hq=>?_,?_⟩,hg,ht0,hs0,?_,S2,hifa⟩
 ·refine Tl.app.2 ⟨a,ta.of_eq (λq _ h2=>i3 q (by omega)) λq _ _=>by rw [f3],?_,?_⟩
  ·exact {l1:=mM _,rt:=slot_right hk,k0:=(by decide:(3:Int)≠0),inf:=by rw [ia,g1],iok:=by rw [ia];exact g2
          in0:= λq h1 h2=>absurd h2 (by show ¬q<a+1;omega)
          ft0:= λq h1 h2=>absurd h2 (by show ¬q<a+1-1;omega)
          ft:=by
           have:=tx.ft
           rw [hx2] at this
           rw [f3];exact this}
  ·have h':Tl m (a+1) Lb c.p:=by rw [←hx2];exact tb
   exact h'.of_eq (λq h1 _=>i3 q (by omega)) λq _ _=>by rw [f3]
 ·exact apF_iff.1 (ap_join hap.1 (by
   have:=hap.2.2.1
   rw [hx1] at this
   exact this) λe=>by cases e)
 ·by_cases e:q=a
  ·subst e
   exact zero_bad (by rw [s3,t3];exact hz b)
  ·rw [badM_eq (m:=m) (i3 q e) (by rw [s3]) (by rw [t3])];exact S1.bits q h0 h1 b b0 b1
 ·rw [ifM_eq (m:=m) (i3 q hq),t3];exact S1.some q h0 h1
 ·have hls:ListsM c m2 (gM m):=S2.of_eq (λh=>by cases h<;>rfl) rfl rfl λ_ _ _ _ _=>rfl
  have hno:∀h:Hq,gM m h a=false:=gM_none (by rw [hu];decide) (by rw [hu];decide)
  have hp:=hls.push (h:= .rack k) hk ha λh _=>hno h
  refine hp.of_eq (λ_=>rfl) rfl rfl λh hh q h0 h1=>?_
  show gM m3 h q=gAdd (gM m) (.rack k) a h q
  unfold gAdd
  by_cases e:q=a
  ·subst e
   rw [hno h,lM]
   by_cases eh:h= .rack k
   ·subst eh;rw [hg];simp
   ·have:decide (h= .rack k)=false:=by simpa using eh
    rw [this,oK]
    cases h with
    |bin j=>show binM m3 j q=false;unfold binM;rw [hifa];rfl
    |rack j=>
     have hj:j≠k:= λe=>eh (by rw [e])
     show rackM m3 j q=false
     unfold rackM
     rw [hifa]
     have:(k==j)=false:=by simp;omega
     rw [this];rfl
  ·have:decide (q=a)=false:=by simpa using e
   rw [this,gM_eq (m:=m) (i3 q e) (by rw [t3]) h];simp
 ·rw [fS_app,fS_app,fS,fS,hx1];rfl
end
end
section
open Go.Sl
section
variable {c:Cf} {m m':Mm} {s:VS} {L L':List Sp} {a k b:Int} {xs:LI}
structure Slc (c:Cf) (m m':Mm) (a d:Int):Prop where
 u:∀q,0≤q→q<c.p→q≠a→uM m' q=uM m q
 ua:uM m' a=uM m a∨(m.slots a=0∧(uM m' a).k≠2∧(uM m a).k≠2)
 slots:m'.slots=m.slots
 tk:∀q,q≠a→m'.taken q=m.taken q
 root:m'.root=m.root
 dn:m'.dn=m.dn
 lv:m'.lv=m.lv
 fr:m'.fr=nv (m.fr+d)
theorem slF_zero (c:Cf) (q k:Int):∀n:Nat,blkU.slF c 0 q k n=[]
 |0=>rfl
 |n+1=>by rw [blkU.slF,slF_zero c q k n,bitAt_zero];rfl
theorem blkU_zero {u:If} (h:u.k≠2) (q:Int):blkU c u 0 q=[]:=by
 unfold blkU
 have:(u.k==2)=false:=by simpa using h
 rw [this,cond_false]
 cases u.k==3 with
 |true=>exact slF_zero _ _ _ _
 |false=>rfl
theorem Slc.blkP {d:Int} (C:Slc c m m' a d) {q:Int} (h0:0≤q) (h1:q<c.p):Go.Proofs.YtinpgnomkmmfdaaGreat.blkP c m' q=Go.Proofs.YtinpgnomkmmfdaaGreat.blkP c m q:=by
 rw [blkP_u,blkP_u,C.slots]
 by_cases e:q=a
 ·subst e
  rcases C.ua with h|⟨h1,h2,h3⟩
  ·rw [h]
  ·rw [h1,blkU_zero h2,blkU_zero h3]
 ·rw [C.u q h0 h1 e]
theorem Slc.blk {d:Int} (C:Slc c m m' a d):blkF c m' c.p.toNat=blkF c m c.p.toNat:=blkF_congr λq h0 h1=>C.blkP h0 (by omega)
theorem Slc.lvP {d:Int} (C:Slc c m m' a d) {q:Int} (h0:0≤q) (h1:q<c.p):Go.Proofs.YtinpgnomkmmfdaaGreat.lvP m' q=Go.Proofs.YtinpgnomkmmfdaaGreat.lvP m q:=by
 rw [lvP_u,lvP_u,C.slots]
 by_cases e:q=a
 ·subst e
  rcases C.ua with h|⟨h1,h2,h3⟩
  ·rw [h]
  ·have e2:((uM m' q).k==2)=false:=by simpa using h2
   have e3:((uM m q).k==2)=false:=by simpa using h3
   rw [e2,e3]
 ·rw [C.u q h0 h1 e]
theorem Slc.sound {d:Int} (C:Slc c m m' a d) (S:SoundM c m L) (S':SndM c m' L') (hf:fS L'=fS L+d):SoundM c m' L':=by
 refine ⟨S',⟨?_,?_⟩, λk k0 k1=>?_⟩
 ·have t1:=sm_tl (m:=m) (L:=L) (a:=0) (b:=c.p) (mM _) S.snd.tl
  have t2:=sm_tl (m:=m') (L:=L') (a:=0) (b:=c.p) (mM _) S'.tl
  have e0:smF (frP m) (iI 0)=0:=rfl
  have e1:smF (frP m') (iI 0)=0:=rfl
  rw [t2,e1,C.fr,S.cnt.1,t1,e0,hf]
  unfold nv;omega
 ·rw [C.lv,S.cnt.2]
  rw [smF_congr (f:=Go.Proofs.YtinpgnomkmmfdaaGreat.lvP m') (g:=Go.Proofs.YtinpgnomkmmfdaaGreat.lvP m) λq h0 h1=>C.lvP h0 (by omega)]
 ·rw [C.root,C.blk];exact S.rts k k0 k1
def cntP (m:Mm) (q:Int):Int:=bif (ifM m q).k==3 then idN (m.taken q) (m.slots q) (kSlots (ifM m q).c).toNat else 0
def cntM (c:Cf) (m:Mm):Int:=smF (cntP m) c.p.toNat
theorem cntP_u (q:Int):cntP m q=bif (uM m q).k==3 then idN (m.taken q) (m.slots q) (kSlots (uM m q).c).toNat else 0:=by
 unfold cntP uM uI
 cases h3:(ifM m q).k==3 with
 |true=>simp only [pH,cond_true,h3]
 |false=>
  cases h2:(ifM m q).k==2 with
  |true=>simp only [pU,cond_true,h3]
  |false=>rfl
theorem Slc.cnt {d:Int} (C:Slc c m m' a d) (ha:0≤a∧a<c.p):cntM c m'=cntM c m+(cntP m' a-cntP m a):=by
 unfold cntM
 refine smF_one ha.1 (by omega) λq h0 h1 h2=>?_
 rw [cntP_u,cntP_u,C.slots,C.tk q h2,C.u q h0 (by omega) h2]
end
end
section
open Go.Sl
section
variable {c:Cf} {m m':Mm} {s:VS} {L L':List Sp} {a k b want:Int} {xs:LI}
theorem tkn_bd (h:At c s m) (ha:0≤a∧a<c.p):bd32 (m.taken a):=by rw [←h.get_taken ha];exact VS.get_bd _ _
theorem slt_bd (h:At c s m) (ha:0≤a∧a<c.p):bd32 (m.slots a):=by rw [←h.get_slots ha];exact VS.get_bd _ _
theorem tak_at (h:At c s m) (ha:0≤a∧a<c.p) {t:Int} (ht:bd32 t):At c (s.set (c.taken a) t) (mTak m a t):=by
 have:=h.set_taken ha t
 rw [nv_id ht] at this
 exact this
theorem mset_wrote (s:VS) (i:Int):(s.read i).wrote=s.wrote:=by
 unfold VS.read
 cases s.there i with
 |false=>rfl
 |true=>
  simp only [cond_true]
  split
  ·rfl
  ·split
   ·rfl
   ·cases s.reads.contains i<;>rfl
theorem put_at (h:At c s m) (S:SndX c m L a) (ha:0≤a∧a<c.p) (hk:0≤k∧k<9) (hg:gM m (.rack k) a=true) {l:LI} (hl:l≠[]) (hm:∀x∈l,0≤x∧x<kSlots k∧bitAt (m.taken a) x=false):
 ∃m',((pPutS c a k (m.taken a) l).run s).2=(a,l,true)∧At c ((pPutS c a k (m.taken a) l).run s).1 m'∧SndM c m' L∧m'.info=m.info∧m'.slots=m.slots∧m'.taken=fset m.taken a (setL (m.taken a) l)∧m'.root=m.root∧m'.dn=m.dn∧m'.lv=m.lv∧m'.fr=m.fr:=by
 have ht:=tkn_bd h ha
 have hks:=kSlots_bd k
 have hb:=(bitAt_setL ht λx hx=>by have:=hm x hx;omega).1
 have h1:=tak_at h ha hb
 have hS:=put_slots S ha hk hg ht hl hm
 unfold pPutS
 cases hf:full (setL (m.taken a) l) k with
 |false=>
  rw [hf,cond_false] at hS
  exact ⟨_,rfl,h1,hS,rfl,rfl,rfl,rfl,rfl,rfl,rfl⟩
 |true=>
  rw [hf,cond_true] at hS
  have hls:ListsM c (mTak m a (setL (m.taken a) l)) (gM m):=S.ls.of_eq (λh=>by cases h<;>rfl) rfl rfl λ_ _ _ _ _=>rfl
  obtain ⟨n1,n2⟩:=hls.nb_ok (h:= .rack k) hk ha hg
  have h2:=pull_at h1 (q:= .rack k) hk ha n1 n2
  obtain ⟨p1,_,p3,p4,p5,p6,p7,p8⟩:=pull_same (m:=mTak m a (setL (m.taken a) l)) (a:=a) (.rack k)
  refine ⟨_,?_,?_,hS,p1,p3,p4,p5,p8,p7,p6⟩
  ·simp only [Pg.run_put,Pg.run_bind,Pg.run_ret,cond_true]
  ·simp only [Pg.run_put,Pg.run_bind,Pg.run_ret,cond_true];exact h2
theorem frL_ne (S:∀b:Int,0≤b→b<32→badM m a b=false) (hg:gM m (.rack k) a=true):frL (m.taken a) (kSlots k)≠[]:=by
 obtain ⟨h3,hc,hf⟩:=rackM_iff.1 hg
 have hin:=bits_in S
 rw [hc] at hin
 rw [full_fr hin] at hf
 intro e
 rw [e] at hf;cases hf
structure Pk (c:Cf) (m m':Mm) (a k d:Int) (l:LI):Prop where
 s:Slc c m m' a d
 inf:ifM m' a=⟨3,1,k⟩
 tk:m'.taken=fset m.taken a (setL (m.taken a) l)
 old:ifM m a=⟨3,1,k⟩∨(uM m a=⟨0,0,0⟩∧m.taken a=0)
 free:∀x∈l,0≤x∧x<kSlots k∧bitAt (m.taken a) x=false
 srt:l.Pairwise (· < ·)
theorem pick_at (h:At c s m) (S:SndM c m L):
 (((pPick c k want).run s).2.2.2=false→((pPick c k want).run s).2.2.1=[]∧((pPick c k want).run s).1.wrote=s.wrote)∧
 (((pPick c k want).run s).2.2.2=true→(0≤k∧k<9)∧(1≤want∧want≤4)∧∃m' L' d,At c ((pPick c k want).run s).1 m'∧SndM c m' L'∧fS L'=fS L+d∧
   (0≤((pPick c k want).run s).2.1∧((pPick c k want).run s).2.1<c.p)∧Pk c m m' ((pPick c k want).run s).2.1 k d ((pPick c k want).run s).2.2.1∧1≤((pPick c k want).run s).2.2.1.length∧(((pPick c k want).run s).2.2.1.length:Int)≤want∧(((pPick c k want).run s).2.2.1.length:Int)≤kSlots k):=by
 unfold pPick
 cases hc:(decide (k<0)||decide (9≤k)||decide (want<1)||decide (4<want)) with
 |true=>exact ⟨λ_=>⟨rfl,rfl⟩, λh=>by cases h⟩
 |false=>
  rw [cond_false]
  have hkw:(0≤k∧k<9)∧1≤want∧want≤4:=by
   simp only [jB,decide_eq_false_iff_not] at hc;omega
  have hks:=kSlots_bd k
  have fin:∀(u:VS) (m1:Mm) (L1:List Sp) (p d:Int),At c u m1→SndX c m1 L1 p→(0≤p∧p<c.p)→gM m1 (.rack k) p=true→fS L1=fS L+d→
   (∀q,0≤q→q<c.p→q≠p→uM m1 q=uM m q)→(uM m1 p=uM m p∨(m.slots p=0∧(uM m1 p).k≠2∧(uM m p).k≠2))→m1.slots=m.slots→m1.taken=m.taken→m1.root=m.root→m1.dn=m.dn→m1.lv=m.lv→m1.fr=nv (m.fr+d)→ifM m1 p=⟨3,1,k⟩→(ifM m p=⟨3,1,k⟩∨(uM m p=⟨0,0,0⟩∧m.taken p=0))→
   ∀R,R=(Pg.get (c.taken p) (pTakeS c p k want)).run u→(R.2.2.2=false→R.2.2.1=[]∧R.1.wrote=s.wrote)∧(R.2.2.2=true→(0≤k∧k<9)∧(1≤want∧want≤4)∧∃m' L' d,At c R.1 m'∧SndM c m' L'∧fS L'=fS L+d∧(0≤R.2.1∧R.2.1<c.p)∧Pk c m m' R.2.1 k d R.2.2.1∧1≤R.2.2.1.length∧(R.2.2.1.length:Int)≤want∧(R.2.2.1.length:Int)≤kSlots k):=by
   intro u m1 L1 p d h1 S1 hp hg hf hu hup hsl htk hro hdn hlv hfr hif hold R hR
   rw [Pg.run_get,h1.get_taken hp,pTakeS] at hR
   have hne:=frL_ne (S1.bits p hp.1 hp.2) hg
   have hz:(((frL (m1.taken p) (kSlots k)).length:Int)==0)=false:=by
    cases hl:frL (m1.taken p) (kSlots k) with
    |nil=>exact absurd hl hne
    |cons x l=>simp;omega
   rw [hz,cond_false] at hR
   have hlen:((frL (m1.taken p) (kSlots k)).length:Int)≠0:=by simpa using hz
   have hlen2:=frL_len (m1.taken p) (kSlots k)
   have htl:((frL (m1.taken p) (kSlots k)).take want.toNat).length=min want.toNat (frL (m1.taken p) (kSlots k)).length:=mV
   have hm:∀x∈(frL (m1.taken p) (kSlots k)).take want.toNat,0≤x∧x<kSlots k∧bitAt (m1.taken p) x=false:= λx hx=>frL_mem (oP hx)
   have hsr:((frL (m1.taken p) (kSlots k)).take want.toNat).Pairwise (· < ·):=List.Pairwise.sublist (List.take_sublist _ _) (frN_sorted _ _)
   generalize (frL (m1.taken p) (kSlots k)).take want.toNat=l at hR htl hm hsr
   have hl:l≠[]:= λe=>by rw [e] at htl;simp at htl;omega
   obtain ⟨m',r1,r2,r3,r4,r5,r6,r7,r8,r9,r10⟩:=put_at (h1.read (c.taken p)) S1 hp hkw.1 hg hl hm
   rw [←hR] at r1 r2
   have e1:R.2.1=p:=congrArg (·.1) r1
   have e2:R.2.2.1=l:=congrArg (·.2.1) r1
   have e3:R.2.2.2=true:=congrArg (·.2.2) r1
   refine ⟨λe=>(by rw [e3] at e;cases e), λ_=>⟨hkw.1,hkw.2,m',L1,d,r2,r3,hf,by rw [e1];exact hp,?_,by rw [e2];omega,by rw [e2];omega,by rw [e2];omega⟩⟩
   rw [e1,e2]
   have ui:∀q,uM m' q=uM m1 q:= λq=>uM_eq (by rw [r4])
   refine ⟨⟨λq h0 h1 hq=>by rw [ui,hu q h0 h1 hq],by rw [ui];exact hup,r5.trans hsl, λq hq=>by rw [r6,fset_ne hq,htk],r7.trans hro,r8.trans hdn,r9.trans hlv,r10.trans hfr⟩,by rw [ifM_eq (m:=m1) (by rw [r4])];exact hif,by rw [r6,htk],hold, λx hx=>by rw [←htk];exact hm x hx,hsr⟩
  have hrun:((pOpen c k).bind λr=>bif r.2 then .get (c.taken r.1) (pTakeS c r.1 k want) else .ret (-1,[],false)).run s=
   (bif ((pOpen c k).run s).2.2 then Pg.get (c.taken ((pOpen c k).run s).2.1) (pTakeS c ((pOpen c k).run s).2.1 k want) else .ret (-1,[],false)).run ((pOpen c k).run s).1:=Pg.run_bind _ _ _
  rw [hrun]
  have hS:=S.x
  obtain ⟨S1,S2⟩:=snd_iff.1 S
  have hk9:(Hq.rack k).ok:=hkw.1
  unfold pOpen
  rw [Pg.run_get,h.get_rack hkw.1]
  have h1:=h.read (cRack k)
  cases hq:m.rack k==0 with
  |false=>
   have hq0:m.hd (.rack k)≠0:=by show m.rack k≠0;simpa using hq
   rw [cond_false]
   obtain ⟨l,hl1,_,hl3⟩:=S2.ls (.rack k) hk9
   obtain ⟨g1,g2⟩:=(hl3 _).1 (DL.hd_in hl1 hq0)
   have hif:ifM m (m.rack k-1)=⟨3,1,k⟩:=by
    have x0:=rackM_iff.1 (g2:rackM m k (m.rack k-1)=true)
    have x1:(ifM m (m.rack k-1)).k=3:=x0.1
    have x2:(ifM m (m.rack k-1)).c=k:=x0.2.1
    have x3:=(iGet_three x1).2.2
    show (⟨(ifM m (m.rack k-1)).k,(ifM m (m.rack k-1)).l,(ifM m (m.rack k-1)).c⟩:If)=_
    rw [x1,x2,show (ifM m (m.rack k-1)).l=1 from x3]
   refine fin _ m L (m.rack k-1) 0 h1 (hS _) g1 g2 (by omega) (λ_ _ _ _=>rfl) (.inl rfl) rfl rfl rfl rfl rfl ?_ hif (.inl hif) _ rfl
   have:=h.get_fr
   rw [Int.add_zero,←this]
   exact (nv_id (VS.get_bd _ _)).symm
  |true=>
   rw [cond_true,Pg.run_bind]
   obtain ⟨T1,T2⟩:=take_at (n:=1) h1 S
   cases hr:((qTake c 1).run (s.read (cRack k))).2.2 with
   |false=>
    obtain ⟨_,_,t3,_⟩:=T1 hr
    refine ⟨λ_=>⟨rfl,?_⟩, λh=>by cases h⟩
    show ((qTake c 1).run (s.read (cRack k))).1.wrote=s.wrote
    rw [t3,mset_wrote]
   |true=>
    obtain ⟨m1,L1,p,q0,a1,S1',C1,u1,f1,b1,_,_⟩:=T2 hr
    rw [cond_true,Pg.run_put,Pg.run_bind]
    rw [q0]
    have hp:0≤p∧p<c.p:=by omega
    have hu1:ifM m1 p=⟨2,1,0⟩:=by
     refine uM_two ?_
     rw [C1.u p hp.1 hp.2,if_pos rfl]
    obtain ⟨L2,X,g2,z1,z2,f2,ls,if3⟩:=new_slab S1' hp hu1 hkw.1 (tkn_bd a1 hp) (slt_bd a1 hp)
    have a2:=a1.set_info hp (iVal 3 1 k)
    rw [(iVal_get (slot_right hkw.1)).2.2] at a2
    have hls2:ListsM c {m1 with info:=fset m1.info p (iVal 3 1 k)} (gM m1):=ls.of_eq (λh=>by cases h<;>rfl) rfl rfl λ_ _ _ _ _=>rfl
    have a3:=push_at a2 (q:= .rack k) hk9 hp (hls2.hd_ok hk9)
    obtain ⟨p1,p2,p3,p4,p5,p6,p7,p8⟩:=push_same (m:={m1 with info:=fset m1.info p (iVal 3 1 k)}) (a:=p) (.rack k)
    refine fin _ _ L2 p (-1) a3 X hp g2 (by omega) (λq h0 h1 hq=>?_) (.inr ⟨by rw [←C1.slots];exact z2,?_,?_⟩) (by rw [p3];exact C1.slots) (by rw [p4];exact C1.taken) (by rw [p5];exact C1.root) (by rw [p8];exact C1.dn) (by rw [p7];exact C1.lv) (by rw [p6];exact C1.fr) if3 (.inr ⟨u1,by rw [←C1.taken];exact z1⟩) _ rfl
    ·have e:uM (mPush {m1 with info:=fset m1.info p (iVal 3 1 k)} (.rack k) p) q=uM m1 q:=uM_eq (by rw [p1];exact fset_ne hq)
     rw [e,C1.u q h0 h1,if_neg hq]
    ·unfold uM uI;rw [if3];exact (by decide:(3:Int)≠2)
    ·rw [u1];decide
end
end
section
open Go.Sl
section
variable {c:Cf} {m m':Mm} {s:VS} {L L':List Sp} {a k b want:Int} {xs:LI}
theorem onesF_id (t:Int):∀n:Nat,idN t 0 n=onesF t n
 |0=>rfl
 |n+1=>by rw [idN,onesF,onesF_id t n,bitAt_zero];simp
theorem onesF_pos (t:Int):∀n:Nat,0≤onesF t n∧(onesF t n=0→∀x:Int,0≤x→x<n→bitAt t x=false)
 |0=>⟨mM _, λ_ x h0 h1=>by omega⟩
 |n+1=>by
  obtain ⟨h1,h2⟩:=onesF_pos t n
  rw [onesF]
  cases hb:bitAt t (n:Int) with
  |true=>simp only [cond_true];exact ⟨by omega, λh=>by omega⟩
  |false=>
   simp only [cond_false]
   refine ⟨by omega, λh x x0 x1=>?_⟩
   by_cases e:x=n
   ·rw [e];exact hb
   ·exact h2 (by omega) x x0 (by omega)
theorem clr_ones {t:Int} (ht:bd32 t) (hb:0≤b∧b<32) (hT:bitAt t b=true):ones t=ones (clrB t b)+1∧(ones t=1↔clrB t b=0):=by
 obtain ⟨g1,g2⟩:=bitAt_clrB ht hb
 have e:=idN_sub (n:=32) g2 hT (bitAt_zero b) hb.1 (by omega)
 rw [onesF_id,onesF_id] at e
 have e1:ones t=ones (clrB t b)+1:=e
 refine ⟨e1, λh=>?_, λh=>?_⟩
 ·refine bits_ext g1 (by unfold bd32;decide) λx=>?_
  rw [bitAt_zero]
  by_cases hx:0≤x∧x<32
  ·exact (onesF_pos (clrB t b) 32).2 (by show ones (clrB t b)=0;omega) x hx.1 (by omega)
  ·exact bitAt_out hx
 ·rw [e1,h];rfl
end
end
end Go.Proofs.YtinpgnomkmmfdaaGreat
