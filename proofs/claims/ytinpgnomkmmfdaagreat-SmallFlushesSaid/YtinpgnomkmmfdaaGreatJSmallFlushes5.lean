/-
  DERIVED. Part 5 of the texts of this claim.
-/
import Derived.Test.YtinpgnomkmmfdaaGreatJSmallFlushes4
set_option linter.unusedSimpArgs false
set_option linter.unusedVariables false
open Go.IntKind renaming wrap → iA, i64 → iB, u32 → iW
open Option.some renaming injEq → iC
open List renaming getD_eq_getElem?_getD → iD, length → iF, mem_cons → iG, getD → iI, map_cons → iK, getElem?_eq_getElem → iN, getElem?_append_right → iQ, getElem?_map → iR, getElem?_set_self → iX, mem_singleton → iY, getElem?_set_ne → jD, zipWith → jI, getElem?_cons_zero → jJ, length_append → jM, range → jQ, length_cons → jR, append_assoc → jX, cons_append → kA, mem_append → kC, getElem?_cons_succ → kD, length_map → kK, not_mem_nil → kL, map_set → kW, filter_append → kX, mem_map → kZ, append_nil → lF, take_of_length_le → lI, nodup_cons → lK, mem_filter → lS, map_nil → mA, length_filter_le → mB, length_take → mL, set → mO, zip → mP, filter_cons → mT, length_set → mY, nil_append → nL, drop_zero → oH, drop_eq_getElem_cons → oJ, length_nil → oK, getElem?_range → oR, map → oV, zip_cons_cons → pD, contains_cons → pF, getD_cons_succ → pU, nodup_append → qC
open Bool renaming and_eq_true → iE, or_eq_false_iff → jH, not_eq_true' → jO, not_eq_false' → jY, not_true → kU, or_eq_true → lG, false_or → lY, and_eq_false_iff → mD, and_self → nG, true_and → nR, false_and → oW, and_false → oX, or_false → pG, true_or → pQ, and_true → qJ
open Go.Value renaming slice → iH, pointer → jB, int → jT
open Nat renaming eq_of_beq_eq_true → iJ, beq → iM, lt_or_ge → jN, le_refl → kF, zero_add → lV, le_trans → mE, add_assoc → nF, zero_le → oM, sub_self → pZ
open Int renaming toNat → iL, mul_le_mul_of_nonneg_right → kJ, le_refl → mC, mul_nonneg → nH, add_mul → nM, one_mul → nV, mul_comm → oP
open BitVec renaming ofInt → iP, toNat → kN
open Go.Sl.Col renaming fz → iS, sls → kG, vals → qG
open Option renaming map_some → iT, map → jE, getD → kS, getD_some → lA
open Prod.mk renaming injEq → iV
open Go.Sl.Chunk renaming cells → jA, ro → jV, obj → kQ, row → nI
open Go.Sl.PK renaming slice → jF, cell → mF
open Go.Sl.Pr renaming pt → jW, no → kI
open Prod renaming fst → jZ, snd → lD
open List.cons renaming inj → qH
open List.Pairwise renaming nil → pH
namespace Go.Proofs.YtinpgnomkmmfdaaGreat
section
open Go Go.Sl
abbrev c_small_Alloc:Ct Sg:=⟨some wView,false,[.agg [.i .i64, .i .i64, .i .i64], .agg [.ro [some .i8], .ro [some .i8], .ro [some .i8], .ro [some .i8], .ro [some .i8], .ro [some .i8], .ro [some .i8], .ro [some .i8], .ro [some .i8]], .i .i64], .tup [.i .i64, .agg [.new 2 [some .i8], .new 2 [some .i8], .new 2 [some .i8], .new 2 [some .i8], .new 2 [some .i8], .new 2 [some .i8], .new 2 [some .i8], .new 2 [some .i8], .new 2 [some .i8]], .b]⟩
abbrev pELSE:List Nat:=[0,1,1,0,1,1,1,1]
abbrev pEND:List Nat:=[0,1,1,1,1,1]
abbrev allI:List Nat:=[2999998,30,stopC pELSE 0,stopC pEND 0]
abbrev al9 (x0 x1 x2 x3 x4 x5 x6 x7 x8:LI) (s:VS) (t p h k:Int):List (Cm Sg):=[.st (.view s), .i t, .i p, .i h, .li x0, .li x1, .li x2, .li x3, .li x4, .li x5, .li x6, .li x7, .li x8, .i k]
def sl9 (o:Nat) (pk:LL) (ad:Ad9):List (Value×Pr):=(hC ⟨0,0,none⟩ 0 o 0 0 0 pk ad).drop 4
def v9 (q:LL) (aq:Ad9):List Value:=(sl9 0 q aq).map (·.1)
theorem alloc_begin (R':Value→Pr→List (Chunk Sg)→Prop) (S0:List Ab→Option Ent→Option Ent→Option Ent→Option Ent→Option Ent→Option Ent→Option Ent→List (Chunk Sg)→Prop) (p0:Addr) (s:VS) (t p h k:Int) (x0 x1 x2 x3 x4 x5 x6 x7 x8:LI) (ad:Nat→Ad):
 (c_small_Alloc.tree Tryz.prog T_r18_Slot allI 400 Tryz.f9 (bodyOf Tryz.f9) p0 (al9 x0 x1 x2 x3 x4 x5 x6 x7 x8 s t p h k) ad).holds R' (λtd L K=>S0 td (Sl.look L 3) (Sl.look L 5) (Sl.look L 6) (Sl.look L 9) (Sl.look L 11) (Sl.look L 12) (Sl.look L 13) K)=
 (∀b0_0:Nat,(∀b1_0:Nat,(∀b2_0:Nat,(∀b3_0:Nat,(∀r4:Int×LI×LI×LI×LI×LI×LI×LI×LI×LI×Bool,r4=(p_Pop x0 x1 x2 x3 x4 x5 x6 x7 x8 k)→(aw_ (pkB x0 x1 x2 x3 x4 x5 x6 x7 x8) (∀(b6_0:Option Nat) (b6_1:Nat),(∀(b7_0:Option Nat) (b7_1:Nat),(∀(b8_0:Option Nat) (b8_1:Nat),(∀(b9_0:Option Nat) (b9_1:Nat),(∀(b10_0:Option Nat) (b10_1:Nat),(∀(b11_0:Option Nat) (b11_1:Nat),(∀(b12_0:Option Nat) (b12_1:Nat),(∀(b13_0:Option Nat) (b13_1:Nat),(∀(b14_0:Option Nat) (b14_1:Nat),(∀b15_0:Nat,(bw_ r4.2.2.2.2.2.2.2.2.2.2 (∀r17:Int×Int×Bool,r17=(addr_Page t p h r4.1)→(∀r18:Int×Bool,r18=(addr_Slot t p h k r17.2.1)→(S0 ([Ab.ops [0,1,1,1,1,1] 0,Ab.code [1,1,1,1,1,1]]) (some ⟨3,none,jT iB k,kI⟩) (some ⟨5,none,jB (some ⟨b0_0,0,none⟩),jW 10 (mF 0)⟩) (some ⟨6,none,jB (some ⟨b1_0,0,none⟩),jW 11 (mF 0)⟩) (some ⟨9,none,jB (some ⟨b2_0,0,none⟩),jW 12 (mF 0)⟩) (some ⟨11,none,jB (some ⟨b3_0,0,none⟩),jW 13 (mF 0)⟩) (some ⟨12,none,jT iB r17.1,kI⟩) (some ⟨13,none,jT iB r18.1,kI⟩) ([kQ p0 (Wr.inj wView s),jV (Ad.a (adP p0 ad 1)) (lenC [iS x0]) (Ad.c (adP p0 ad 1)) [iS x0],jV (Ad.a (adP p0 ad 2)) (lenC [iS x1]) (Ad.c (adP p0 ad 2)) [iS x1],jV (Ad.a (adP p0 ad 3)) (lenC [iS x2]) (Ad.c (adP p0 ad 3)) [iS x2],jV (Ad.a (adP p0 ad 4)) (lenC [iS x3]) (Ad.c (adP p0 ad 4)) [iS x3],jV (Ad.a (adP p0 ad 5)) (lenC [iS x4]) (Ad.c (adP p0 ad 5)) [iS x4],jV (Ad.a (adP p0 ad 6)) (lenC [iS x5]) (Ad.c (adP p0 ad 6)) [iS x5],jV (Ad.a (adP p0 ad 7)) (lenC [iS x6]) (Ad.c (adP p0 ad 7)) [iS x6],jV (Ad.a (adP p0 ad 8)) (lenC [iS x7]) (Ad.c (adP p0 ad 8)) [iS x7],jV (Ad.a (adP p0 ad 9)) (lenC [iS x8]) (Ad.c (adP p0 ad 9)) [iS x8],jA b0_0 23 [(jT iB t,kI),(jT iB p,kI),(jT iB h,kI)],jA b1_0 40 [(iH (Ad.a (adP p0 ad 1)) (lenC [iS x0]) (Ad.c (adP p0 ad 1)),jW 1 jF),(iH (Ad.a (adP p0 ad 2)) (lenC [iS x1]) (Ad.c (adP p0 ad 2)),jW 2 jF),(iH (Ad.a (adP p0 ad 3)) (lenC [iS x2]) (Ad.c (adP p0 ad 3)),jW 3 jF),(iH (Ad.a (adP p0 ad 4)) (lenC [iS x3]) (Ad.c (adP p0 ad 4)),jW 4 jF),(iH (Ad.a (adP p0 ad 5)) (lenC [iS x4]) (Ad.c (adP p0 ad 5)),jW 5 jF),(iH (Ad.a (adP p0 ad 6)) (lenC [iS x5]) (Ad.c (adP p0 ad 6)),jW 6 jF),(iH (Ad.a (adP p0 ad 7)) (lenC [iS x6]) (Ad.c (adP p0 ad 7)),jW 7 jF),(iH (Ad.a (adP p0 ad 8)) (lenC [iS x7]) (Ad.c (adP p0 ad 8)),jW 8 jF),(iH (Ad.a (adP p0 ad 9)) (lenC [iS x8]) (Ad.c (adP p0 ad 9)),jW 9 jF)],jA b2_0 40 [(iH none 0 0,kI),(iH none 0 0,kI),(iH none 0 0,kI),(iH none 0 0,kI),(iH none 0 0,kI),(iH none 0 0,kI),(iH none 0 0,kI),(iH none 0 0,kI),(iH none 0 0,kI)],jA b3_0 78 [(jB (some p0),jW 0 PK.obj),(jT iB t,kI),(jT iB p,kI),(jT iB h,kI),(iH (jE decA b6_0) (lenC [iS r4.2.1]) b6_1,jW 14 jF),(iH (jE decA b7_0) (lenC [iS r4.2.2.1]) b7_1,jW 15 jF),(iH (jE decA b8_0) (lenC [iS r4.2.2.2.1]) b8_1,jW 16 jF),(iH (jE decA b9_0) (lenC [iS r4.2.2.2.2.1]) b9_1,jW 17 jF),(iH (jE decA b10_0) (lenC [iS r4.2.2.2.2.2.1]) b10_1,jW 18 jF),(iH (jE decA b11_0) (lenC [iS r4.2.2.2.2.2.2.1]) b11_1,jW 19 jF),(iH (jE decA b12_0) (lenC [iS r4.2.2.2.2.2.2.2.1]) b12_1,jW 20 jF),(iH (jE decA b13_0) (lenC [iS r4.2.2.2.2.2.2.2.2.1]) b13_1,jW 21 jF),(iH (jE decA b14_0) (lenC [iS r4.2.2.2.2.2.2.2.2.2.1]) b14_1,jW 22 jF)],jV (jE decA b6_0) (lenC [iS r4.2.1]) b6_1 [iS r4.2.1],jV (jE decA b7_0) (lenC [iS r4.2.2.1]) b7_1 [iS r4.2.2.1],jV (jE decA b8_0) (lenC [iS r4.2.2.2.1]) b8_1 [iS r4.2.2.2.1],jV (jE decA b9_0) (lenC [iS r4.2.2.2.2.1]) b9_1 [iS r4.2.2.2.2.1],jV (jE decA b10_0) (lenC [iS r4.2.2.2.2.2.1]) b10_1 [iS r4.2.2.2.2.2.1],jV (jE decA b11_0) (lenC [iS r4.2.2.2.2.2.2.1]) b11_1 [iS r4.2.2.2.2.2.2.1],jV (jE decA b12_0) (lenC [iS r4.2.2.2.2.2.2.2.1]) b12_1 [iS r4.2.2.2.2.2.2.2.1],jV (jE decA b13_0) (lenC [iS r4.2.2.2.2.2.2.2.2.1]) b13_1 [iS r4.2.2.2.2.2.2.2.2.1],jV (jE decA b14_0) (lenC [iS r4.2.2.2.2.2.2.2.2.2.1]) b14_1 [iS r4.2.2.2.2.2.2.2.2.2.1],jA b15_0 40 [(iH (jE decA b6_0) (lenC [iS r4.2.1]) b6_1,jW 14 jF),(iH (jE decA b7_0) (lenC [iS r4.2.2.1]) b7_1,jW 15 jF),(iH (jE decA b8_0) (lenC [iS r4.2.2.2.1]) b8_1,jW 16 jF),(iH (jE decA b9_0) (lenC [iS r4.2.2.2.2.1]) b9_1,jW 17 jF),(iH (jE decA b10_0) (lenC [iS r4.2.2.2.2.2.1]) b10_1,jW 18 jF),(iH (jE decA b11_0) (lenC [iS r4.2.2.2.2.2.2.1]) b11_1,jW 19 jF),(iH (jE decA b12_0) (lenC [iS r4.2.2.2.2.2.2.2.1]) b12_1,jW 20 jF),(iH (jE decA b13_0) (lenC [iS r4.2.2.2.2.2.2.2.2.1]) b13_1,jW 21 jF),(iH (jE decA b14_0) (lenC [iS r4.2.2.2.2.2.2.2.2.2.1]) b14_1,jW 22 jF)]])))) (S0 ([Ab.ops [0,1,1,0,1,1,1,1] 0,Ab.code [1,1,1,0,1,1,1,1],Ab.code [1,1,1,1,1]]) (some ⟨3,none,jT iB k,kI⟩) (some ⟨5,none,jB (some ⟨b0_0,0,none⟩),jW 10 (mF 0)⟩) (some ⟨6,none,jB (some ⟨b1_0,0,none⟩),jW 11 (mF 0)⟩) (some ⟨9,none,jB (some ⟨b2_0,0,none⟩),jW 12 (mF 0)⟩) (some ⟨11,none,jB (some ⟨b3_0,0,none⟩),jW 13 (mF 0)⟩) (some ⟨12,none,jT iB (0:Int),kI⟩) (some ⟨13,none,jT iB (0:Int),kI⟩) ([kQ p0 (Wr.inj wView s),jV (Ad.a (adP p0 ad 1)) (lenC [iS x0]) (Ad.c (adP p0 ad 1)) [iS x0],jV (Ad.a (adP p0 ad 2)) (lenC [iS x1]) (Ad.c (adP p0 ad 2)) [iS x1],jV (Ad.a (adP p0 ad 3)) (lenC [iS x2]) (Ad.c (adP p0 ad 3)) [iS x2],jV (Ad.a (adP p0 ad 4)) (lenC [iS x3]) (Ad.c (adP p0 ad 4)) [iS x3],jV (Ad.a (adP p0 ad 5)) (lenC [iS x4]) (Ad.c (adP p0 ad 5)) [iS x4],jV (Ad.a (adP p0 ad 6)) (lenC [iS x5]) (Ad.c (adP p0 ad 6)) [iS x5],jV (Ad.a (adP p0 ad 7)) (lenC [iS x6]) (Ad.c (adP p0 ad 7)) [iS x6],jV (Ad.a (adP p0 ad 8)) (lenC [iS x7]) (Ad.c (adP p0 ad 8)) [iS x7],jV (Ad.a (adP p0 ad 9)) (lenC [iS x8]) (Ad.c (adP p0 ad 9)) [iS x8],jA b0_0 23 [(jT iB t,kI),(jT iB p,kI),(jT iB h,kI)],jA b1_0 40 [(iH (Ad.a (adP p0 ad 1)) (lenC [iS x0]) (Ad.c (adP p0 ad 1)),jW 1 jF),(iH (Ad.a (adP p0 ad 2)) (lenC [iS x1]) (Ad.c (adP p0 ad 2)),jW 2 jF),(iH (Ad.a (adP p0 ad 3)) (lenC [iS x2]) (Ad.c (adP p0 ad 3)),jW 3 jF),(iH (Ad.a (adP p0 ad 4)) (lenC [iS x3]) (Ad.c (adP p0 ad 4)),jW 4 jF),(iH (Ad.a (adP p0 ad 5)) (lenC [iS x4]) (Ad.c (adP p0 ad 5)),jW 5 jF),(iH (Ad.a (adP p0 ad 6)) (lenC [iS x5]) (Ad.c (adP p0 ad 6)),jW 6 jF),(iH (Ad.a (adP p0 ad 7)) (lenC [iS x6]) (Ad.c (adP p0 ad 7)),jW 7 jF),(iH (Ad.a (adP p0 ad 8)) (lenC [iS x7]) (Ad.c (adP p0 ad 8)),jW 8 jF),(iH (Ad.a (adP p0 ad 9)) (lenC [iS x8]) (Ad.c (adP p0 ad 9)),jW 9 jF)],jA b2_0 40 [(iH none 0 0,kI),(iH none 0 0,kI),(iH none 0 0,kI),(iH none 0 0,kI),(iH none 0 0,kI),(iH none 0 0,kI),(iH none 0 0,kI),(iH none 0 0,kI),(iH none 0 0,kI)],jA b3_0 78 [(jB (some p0),jW 0 PK.obj),(jT iB t,kI),(jT iB p,kI),(jT iB h,kI),(iH (Ad.a (adP p0 ad 1)) (lenC [iS x0]) (Ad.c (adP p0 ad 1)),jW 1 jF),(iH (Ad.a (adP p0 ad 2)) (lenC [iS x1]) (Ad.c (adP p0 ad 2)),jW 2 jF),(iH (Ad.a (adP p0 ad 3)) (lenC [iS x2]) (Ad.c (adP p0 ad 3)),jW 3 jF),(iH (Ad.a (adP p0 ad 4)) (lenC [iS x3]) (Ad.c (adP p0 ad 4)),jW 4 jF),(iH (Ad.a (adP p0 ad 5)) (lenC [iS x4]) (Ad.c (adP p0 ad 5)),jW 5 jF),(iH (Ad.a (adP p0 ad 6)) (lenC [iS x5]) (Ad.c (adP p0 ad 6)),jW 6 jF),(iH (Ad.a (adP p0 ad 7)) (lenC [iS x6]) (Ad.c (adP p0 ad 7)),jW 7 jF),(iH (Ad.a (adP p0 ad 8)) (lenC [iS x7]) (Ad.c (adP p0 ad 8)),jW 8 jF),(iH (Ad.a (adP p0 ad 9)) (lenC [iS x8]) (Ad.c (adP p0 ad 9)),jW 9 jF)],jV (jE decA b6_0) (lenC [iS r4.2.1]) b6_1 [iS r4.2.1],jV (jE decA b7_0) (lenC [iS r4.2.2.1]) b7_1 [iS r4.2.2.1],jV (jE decA b8_0) (lenC [iS r4.2.2.2.1]) b8_1 [iS r4.2.2.2.1],jV (jE decA b9_0) (lenC [iS r4.2.2.2.2.1]) b9_1 [iS r4.2.2.2.2.1],jV (jE decA b10_0) (lenC [iS r4.2.2.2.2.2.1]) b10_1 [iS r4.2.2.2.2.2.1],jV (jE decA b11_0) (lenC [iS r4.2.2.2.2.2.2.1]) b11_1 [iS r4.2.2.2.2.2.2.1],jV (jE decA b12_0) (lenC [iS r4.2.2.2.2.2.2.2.1]) b12_1 [iS r4.2.2.2.2.2.2.2.1],jV (jE decA b13_0) (lenC [iS r4.2.2.2.2.2.2.2.2.1]) b13_1 [iS r4.2.2.2.2.2.2.2.2.1],jV (jE decA b14_0) (lenC [iS r4.2.2.2.2.2.2.2.2.2.1]) b14_1 [iS r4.2.2.2.2.2.2.2.2.2.1],jA b15_0 40 [(iH (jE decA b6_0) (lenC [iS r4.2.1]) b6_1,jW 14 jF),(iH (jE decA b7_0) (lenC [iS r4.2.2.1]) b7_1,jW 15 jF),(iH (jE decA b8_0) (lenC [iS r4.2.2.2.1]) b8_1,jW 16 jF),(iH (jE decA b9_0) (lenC [iS r4.2.2.2.2.1]) b9_1,jW 17 jF),(iH (jE decA b10_0) (lenC [iS r4.2.2.2.2.2.1]) b10_1,jW 18 jF),(iH (jE decA b11_0) (lenC [iS r4.2.2.2.2.2.2.1]) b11_1,jW 19 jF),(iH (jE decA b12_0) (lenC [iS r4.2.2.2.2.2.2.2.1]) b12_1,jW 20 jF),(iH (jE decA b13_0) (lenC [iS r4.2.2.2.2.2.2.2.2.1]) b13_1,jW 21 jF),(iH (jE decA b14_0) (lenC [iS r4.2.2.2.2.2.2.2.2.2.1]) b14_1,jW 22 jF)]]))))))))))))))))))):=by
 kernel_rfl
def handA (pv:Addr) (hb:Nat) (s:VS) (t p h:Int):LL→Asn:= λst Y k=>∃ad:Ad9,Sl.star ((hK pv hb s t p h st ad).map (den Dg λ_=>none)) Y k
def isA (hb:Nat) (q:Addr):Prop:=q=⟨hb,0,none⟩
def e_fill (pv:Addr) (hb:Nat) (s:VS) (t p h:Int):Entry Sg:= λargs=>match args with
 |[(.pointer (some q), .obj (.any A st)),(.int .i64 k,_)]=>some ⟨fillR s t p h k st, λr=>⟨[isA hb q,A=handA pv hb s t p h,pkO st,p≤1024],some (.any (handA pv hb r.1 t p h) r.2.1),[], λ_=> .tuple #[.int .i64 r.2.2.1, .int .i64 r.2.2.2.1, .bool r.2.2.2.2], λ_=> .no⟩⟩
 |_=>none
def nil9:List (Value×Pr):=[(.slice none 0 0, .no),(.slice none 0 0, .no),(.slice none 0 0, .no),(.slice none 0 0, .no),(.slice none 0 0, .no),(.slice none 0 0, .no),(.slice none 0 0, .no),(.slice none 0 0, .no),(.slice none 0 0, .no)]
def aK (hb bc bp br:Nat) (t p h:Int) (A:LL→Asn) (st pk:LL) (ax:Ad9):List (Chunk Sg):=[.obj ⟨hb,0,none⟩ (.any A st), .cells bc 23 [(.int .i64 t, .no),(.int .i64 p, .no),(.int .i64 h, .no)], .cells bp 40 (sl9 4 pk ax), .cells br 40 nil9]++ro9 pk ax
def aL (hb bc bp br:Nat) (k:Int):List Ent:=[⟨3,none, .int .i64 k, .no⟩,ptE 5 bc 1,ptE 6 bp 2,ptE 9 br 3,⟨11,none, .pointer (some ⟨hb,0,none⟩), .pt 0 .obj⟩]
abbrev pC:List Nat:=[0,1,1,1,0,1,1,1,1]
theorem alloc_fill (R':Value→Pr→List (Chunk Sg)→Prop) (S0:List Ab→Option Ent→Option Ent→Option Ent→Option Ent→Option Ent→Option Ent→Option Ent→Option Ent→List (Chunk Sg)→Prop) (p0:Addr) (hb bc bp br:Nat) (s:VS) (t p h k:Int) (pk:LL) (ax:Ad9):
 (run Tryz.prog ((31,e_fill p0 hb s t p h)::T_r18_Slot) [2999998,stopC pC 0] 400 (bodyOf Tryz.f9) Tryz.f9.results.toList Tryz.f9.ntmps [.ops pELSE 0, .code [1,1,1,0,1,1,1,1], .code [1,1,1,1,1]] (aL hb bc bp br k) (aK hb bc bp br t p h (handA p0 hb s t p h) pk pk ax)).holds R' (λtd L K=>S0 td (Sl.look L 3) (Sl.look L 5) (Sl.look L 6) (Sl.look L 9) (Sl.look L 11) (Sl.look L 12) (Sl.look L 13) (Sl.look L 16) K)=
 (∀r0:VS×List (LI)×Int×Int×Bool,r0=(fillR s t p h k pk)→(aw_ (isA hb ⟨hb,0,none⟩) (aw_ (handA p0 hb s t p h=handA p0 hb s t p h) (aw_ (pkO pk) (aw_ (p≤(1024:Int)) (S0 ([Ab.ops [0,1,1,1,0,1,1,1,1] 0,Ab.code [1,1,1,1,0,1,1,1,1],Ab.code [1,1,1,1,1]]) (some ⟨3,none,jT iB k,kI⟩) (some ⟨5,none,jB (some ⟨bc,0,none⟩),jW 1 (mF 0)⟩) (some ⟨6,none,jB (some ⟨bp,0,none⟩),jW 2 (mF 0)⟩) (some ⟨9,none,jB (some ⟨br,0,none⟩),jW 3 (mF 0)⟩) (some ⟨11,none,jB (some ⟨hb,0,none⟩),jW 0 PK.obj⟩) (some ⟨12,none,jT iB r0.2.2.1,kI⟩) (some ⟨13,none,jT iB r0.2.2.2.1,kI⟩) (some ⟨16,none,Value.bool r0.2.2.2.2,kI⟩) (([kQ ⟨hb,0,none⟩ (kS (some (Sg.any (handA p0 hb r0.1 t p h) r0.2.1)) (Sg.any (handA p0 hb s t p h) pk)),jA bc 23 [(jT iB t,kI),(jT iB p,kI),(jT iB h,kI)],jA bp 40 (sl9 4 pk ax),jA br 40 [(iH none 0 0,kI),(iH none 0 0,kI),(iH none 0 0,kI),(iH none 0 0,kI),(iH none 0 0,kI),(iH none 0 0,kI),(iH none 0 0,kI),(iH none 0 0,kI),(iH none 0 0,kI)]]++ro9 pk ax)))))))):=by
 kernel_rfl
def bK (p0:Addr) (hb bc bp br:Nat) (s:VS) (t p h:Int) (q:LL) (aq:Ad9) (pk:LL) (ax:Ad9):List (Chunk Sg):=[.obj p0 (.view s), .cells hb 78 (hC p0 0 5 t p h q aq), .cells bc 23 [(.int .i64 t, .no),(.int .i64 p, .no),(.int .i64 h, .no)], .cells bp 40 (sl9 14 pk ax), .cells br 40 nil9]++ro9 q aq++ro9 pk ax
def bL (hb bc bp br:Nat) (k pg sl:Int) (ok:Bool):List Ent:=[⟨3,none, .int .i64 k, .no⟩,ptE 5 bc 2,ptE 6 bp 3,ptE 9 br 4,ptE 11 hb 1,⟨12,none, .int .i64 pg, .no⟩,⟨13,none, .int .i64 sl, .no⟩,⟨16,none, .bool ok, .no⟩]
theorem alloc_c (R':Value→Pr→List (Chunk Sg)→Prop) (S0:List Ab→Option Ent→Option Ent→Option Ent→Option Ent→Option Ent→Option Ent→List (Chunk Sg)→Prop) (p0:Addr) (hb bc bp br:Nat) (s:VS) (t p h k pg sl:Int) (ok:Bool) (q:LL) (aq:Ad9) (pk:LL) (ax:Ad9):
 (run Tryz.prog T_r18_Slot [2999998,stopC pEND 0] 400 (bodyOf Tryz.f9) Tryz.f9.results.toList Tryz.f9.ntmps [.ops pC 0, .code [1,1,1,1,0,1,1,1,1], .code [1,1,1,1,1]] (bL hb bc bp br k pg sl ok) (bK p0 hb bc bp br s t p h q aq pk ax)).holds R' (λtd L K=>S0 td (Sl.look L 3) (Sl.look L 5) (Sl.look L 9) (Sl.look L 11) (Sl.look L 12) (Sl.look L 13) K)=
 (bw_ (!ok) (R' (Value.tuple ⟨[jT iB (0:Int),Value.agg (v9 pk ax).toArray,Value.bool false]⟩) (Pr.many [kI,Pr.many [jW 14 jF,jW 15 jF,jW 16 jF,jW 17 jF,jW 18 jF,jW 19 jF,jW 20 jF,jW 21 jF,jW 22 jF],kI]) (([kQ p0 (Sg.view s),jA hb 78 (hC p0 0 5 t p h q aq),jA bc 23 [(jT iB t,kI),(jT iB p,kI),(jT iB h,kI)],jA bp 40 (sl9 14 pk ax),jA br 40 (sl9 14 pk ax)]++ro9 q aq++ro9 pk ax))) (S0 ([Ab.ops [0,1,1,1,1,1] 0,Ab.code [1,1,1,1,1,1]]) (some ⟨3,none,jT iB k,kI⟩) (some ⟨5,none,jB (some ⟨bc,0,none⟩),jW 2 (mF 0)⟩) (some ⟨9,none,jB (some ⟨br,0,none⟩),jW 4 (mF 0)⟩) (some ⟨11,none,jB (some ⟨hb,0,none⟩),jW 1 (mF 0)⟩) (some ⟨12,none,jT iB pg,kI⟩) (some ⟨13,none,jT iB sl,kI⟩) (([kQ p0 (Sg.view s),jA hb 78 (hC p0 0 5 t p h q aq),jA bc 23 [(jT iB t,kI),(jT iB p,kI),(jT iB h,kI)],jA bp 40 (sl9 14 pk ax),jA br 40 [(iH none 0 0,kI),(iH none 0 0,kI),(iH none 0 0,kI),(iH none 0 0,kI),(iH none 0 0,kI),(iH none 0 0,kI),(iH none 0 0,kI),(iH none 0 0,kI),(iH none 0 0,kI)]]++ro9 q aq++ro9 pk ax)))):=by
 kernel_rfl
def eK (p0:Addr) (hb bc br:Nat) (s:VS) (t p h:Int) (q:LL) (aq:Ad9):List (Chunk Sg):=[.obj p0 (.view s), .cells hb 78 (hC p0 0 4 t p h q aq), .cells bc 23 [(.int .i64 t, .no),(.int .i64 p, .no),(.int .i64 h, .no)], .cells br 40 nil9]++ro9 q aq
def eL (hb bc br:Nat) (k pg sl:Int):List Ent:=[⟨3,none, .int .i64 k, .no⟩,ptE 5 bc 2,ptE 9 br 3,ptE 11 hb 1,⟨12,none, .int .i64 pg, .no⟩,⟨13,none, .int .i64 sl, .no⟩]
abbrev Ph (r2:VS×Int) (sl:Int):=(iA iW (↑(kN (iP 32 r2.2 ||| iP 32 (iA iW ((1:Int)*(2:Int)^min (iL sl) 32)))):Int))
abbrev Pi (r4:VS) (t p h k pg sl:Int) (R':Value→Pr→List (Chunk Sg)→Prop) (q:LL) (aq:Ad9) (p0:Addr) (r2:VS×Int) (s:VS) (hb bc br b0_0:Nat):Prop:=(∀r6:VS×Int,r6=((VS.read r4 (1:Int),VS.get r4 (1:Int)))→(∀r7:VS,r7=(VS.set r6.1 (1:Int) (iA iW (r6.2+(1:Int))))→(aw_ (bd32 (iA iW (r6.2+(1:Int)))) (∀r9:Int×Bool,r9=(addr_At t p h k pg sl)→(R' (Value.tuple ⟨[jT iB r9.1,Value.agg (v9 q aq).toArray,Value.bool true]⟩) (Pr.many [kI,Pr.many [jW 4 jF,jW 5 jF,jW 6 jF,jW 7 jF,jW 8 jF,jW 9 jF,jW 10 jF,jW 11 jF,jW 12 jF],kI]) (([kQ p0 (kS (some (Wr.inj wView r7)) (kS (some (Wr.inj wView r6.1)) (kS (some (Wr.inj wView r4)) (kS (some (Wr.inj wView r2.1)) (Sg.view s))))),jA hb 78 (hC p0 0 4 t p h q aq),jA bc 23 [(jT iB t,kI),(jT iB p,kI),(jT iB h,kI)],jA br 40 (sl9 4 q aq)]++ro9 q aq++[jA b0_0 3 [(jT iB sl,kI)]])))))))
abbrev OB (sl:Int) (r2:VS×Int) (r1 t p h k pg:Int) (R':Value→Pr→List (Chunk Sg)→Prop) (q:LL) (aq:Ad9) (p0:Addr) (s:VS) (hb bc br b0_0:Nat):Prop:=(aw_ ((0:Int)≤sl) (∀r4:VS,r4=(VS.set r2.1 r1 (Ph r2 sl))→(aw_ (bd32 (Ph r2 sl)) ((Pi r4 t p h k pg sl R' q aq p0 r2 s hb bc br b0_0)∧(Pi r4 t p h k pg sl R' q aq p0 r2 s hb bc br b0_0)))))
theorem alloc_end (R':Value→Pr→List (Chunk Sg)→Prop) (S0:List Ab→List (Chunk Sg)→Prop) (p0:Addr) (hb bc br:Nat) (s:VS) (t p h k pg sl:Int) (q:LL) (aq:Ad9):
 (run Tryz.prog T_r18_Slot [2999998,32,59,60] 400 (bodyOf Tryz.f9) Tryz.f9.results.toList Tryz.f9.ntmps [.ops pEND 0, .code [1,1,1,1,1,1]] (eL hb bc br k pg sl) (eK p0 hb bc br s t p h q aq)).holds R' (λtd L K=>S0 td K)=
 (∀b0_0:Nat,(∀r1:Int,r1=(place_Slots t p h pg)→((∀r2:VS×Int,r2=((VS.read s r1,VS.get s r1))→(OB sl r2 r1 t p h k pg R' q aq p0 s hb bc br b0_0))∧(∀r2:VS×Int,r2=((VS.read s r1,VS.get s r1))→((OB sl r2 r1 t p h k pg R' q aq p0 s hb bc br b0_0)∧(OB sl r2 r1 t p h k pg R' q aq p0 s hb bc br b0_0)))))):=by
 kernel_rfl
section
variable {E:Ev} {G:Hp} {p0:Addr} {hb:Nat} {s:VS} {t p h:Int}
theorem e_fill_ok:EntryOk Dg Tryz.prog 31 (e_fill p0 hb s t p h):=by
 intro args c r he hr
 unfold e_fill at he
 split at he
 ·rename_i q A st k i
  injection he with he;subst he;subst hr
  refine ⟨λK acs _=>pOk_no, λhpre E G w _ hS=>?_⟩
  have q1:q=⟨hb,0,none⟩:=hpre _ (.head _)
  have q2:A=handA p0 hb s t p h:=hpre _ (.tail _ (.head _))
  have q3:pkO st:=hpre _ (.tail _ (.tail _ (.head _)))
  have q4:p≤1024:=hpre _ (.tail _ (.tail _ (.tail _ (.head _))))
  subst q1;subst q2
  have hS1:SatK Dg E G w [.obj ⟨hb,0,none⟩ (.any (handA p0 hb s t p h) st)]:=hS
  obtain ⟨ad,hS2⟩:=SatK.unpackEx Dg (k:=0) (k0:= λ_:Ad9=> .obj p0 (.view s)) (ks:= λad=> .cells hb 78 (hC p0 0 2 t p h st ad)::ro9 st ad) hS1 rfl (by kernel_rfl)
  have hP:fillP s t p h k:= λho=>by have:=pick_ok (c:=⟨t,p,h⟩) (s:=s) (k:=k) ho;exact ⟨this.1,mE this.2.1 (by decide)⟩
  refine fill_calls (ad:=ad) q3 q4 hP hS2 λw' ad' hS3=>⟨[],trivial,rfl,?_⟩
  have hc:∀Y y,Sl.star ((hK p0 hb (fillR s t p h k st).1 t p h (fillR s t p h k st).2.1 ad').map (den Dg G)) Y y→handA p0 hb (fillR s t p h k st).1 t p h (fillR s t p h k st).2.1 Y y:= λY y hx=>⟨ad',hx⟩
  exact SatK.packEx Dg (G:=G) (Ks:=hK p0 hb (fillR s t p h k st).1 t p h (fillR s t p h k st).2.1 ad') (K1:=[]) (c:= .obj ⟨hb,0,none⟩ (.any (handA p0 hb (fillR s t p h k st).1 t p h) (fillR s t p h k st).2.1)) (by rw [lF];exact hS3) hc
 ·cases he
end
abbrev allF:FuncId:=9
noncomputable abbrev allB:Code:=bodyOf Tryz.f9
noncomputable abbrev allN:Nat:=Tryz.f9.ntmps
abbrev RT:=VS×Int×LI×LI×LI×LI×LI×LI×LI×LI×LI×Bool
def AP (E:Ev) (G:Hp) (p0:Addr) (cs:List (Cm Sg)) (r:RT):Ending→World→Prop:=Post Dg E G (c_small_Alloc.outC r) (c_small_Alloc.nwC p0 cs r) (c_small_Alloc.mksC r)
def AR (p0:Addr) (cs:List (Cm Sg)) (r:RT):Value→Pr→List (Chunk Sg)→Prop:=RetOk (c_small_Alloc.outC r) (c_small_Alloc.nwC p0 cs r) (c_small_Alloc.mksC r)
def p9 (o:Nat):List Pr:=[.pt o .slice, .pt (o+1) .slice, .pt (o+2) .slice, .pt (o+3) .slice, .pt (o+4) .slice, .pt (o+5) .slice, .pt (o+6) .slice, .pt (o+7) .slice, .pt (o+8) .slice]
def zK (p0:Addr) (hb bc br b0:Nat) (s:VS) (t p h sl:Int) (q:LL) (aq:Ad9):List (Chunk Sg):=[.obj p0 (.view s), .cells hb 78 (hC p0 0 4 t p h q aq), .cells bc 23 [(.int .i64 t, .no),(.int .i64 p, .no),(.int .i64 h, .no)], .cells br 40 (sl9 4 q aq)]++ro9 q aq++[.cells b0 3 [(.int .i64 sl, .no)]]
theorem end_ret (p0:Addr) (cs:List (Cm Sg)) (hb bc br b0:Nat) (s:VS) (t p h sl a:Int) (q:LL) (aq:Ad9):AR p0 cs (tup9 true a s q) (.tuple #[.int .i64 a, .agg (v9 q aq).toArray, .bool true]) (.many [.no, .many (p9 4), .no]) (zK p0 hb bc br b0 s t p h sl q aq):=
 Ct.ret_ok (c:=c_small_Alloc) (p0:=p0) (cs:=cs) (v:= .tuple #[.int .i64 a, .agg (v9 q aq).toArray, .bool true]) (p:= .many [.no, .many (p9 4), .no]) (K:=zK p0 hb bc br b0 s t p h sl q aq) (by kernel_rfl) (by kernel_rfl)
def yK (p0:Addr) (hb bc bp br:Nat) (s:VS) (t p h:Int) (q:LL) (aq:Ad9) (pk:LL) (ax:Ad9):List (Chunk Sg):=[.obj p0 (.view s), .cells hb 78 (hC p0 0 5 t p h q aq), .cells bc 23 [(.int .i64 t, .no),(.int .i64 p, .no),(.int .i64 h, .no)], .cells bp 40 (sl9 14 pk ax), .cells br 40 (sl9 14 pk ax)]++ro9 q aq++ro9 pk ax
theorem no_ret (p0:Addr) (cs:List (Cm Sg)) (hb bc bp br:Nat) (s:VS) (t p h:Int) (q:LL) (aq:Ad9) (pk:LL) (ax:Ad9):AR p0 cs (tup9 false 0 s pk) (.tuple #[.int .i64 0, .agg (v9 pk ax).toArray, .bool false]) (.many [.no, .many (p9 14), .no]) (yK p0 hb bc bp br s t p h q aq pk ax):=
 Ct.ret_ok (c:=c_small_Alloc) (p0:=p0) (cs:=cs) (v:= .tuple #[.int .i64 0, .agg (v9 pk ax).toArray, .bool false]) (p:= .many [.no, .many (p9 14), .no]) (K:=yK p0 hb bc bp br s t p h q aq pk ax) (by kernel_rfl) (by kernel_rfl)
end
section
open Go Go.Sl
def allocC (s:VS) (t p h:Int) (st:LL) (k:Int):RT:=
 bif (lastI (pkk st k)).2 then tup9 true (addr_At t p h k (pgA t p h (lastI (pkk st k)).1) (slA t p h k (lastI (pkk st k)).1)).1 (begS s t p h (pgA t p h (lastI (pkk st k)).1) (slA t p h k (lastI (pkk st k)).1)) (pkS st k (popL (pkk st k)))
 else bif (fillR s t p h k st).2.2.2.2 then tup9 true (addr_At t p h k (fillR s t p h k st).2.2.1 (fillR s t p h k st).2.2.2.1).1 (begS (fillR s t p h k st).1 t p h (fillR s t p h k st).2.2.1 (fillR s t p h k st).2.2.2.1) (fillR s t p h k st).2.1
  else tup9 false 0 (fillR s t p h k st).1 st
def small_Alloc (s:VS) (t p h:Int) (x0 x1 x2 x3 x4 x5 x6 x7 x8:LI) (k:Int):RT:=allocC s t p h [x0,x1,x2,x3,x4,x5,x6,x7,x8] k
def e_small_Alloc:Entry Sg:=entC c_small_Alloc small_Alloc (λs t p h x0 x1 x2 x3 x4 x5 x6 x7 x8 k=>[p≤1024,pkB x0 x1 x2 x3 x4 x5 x6 x7 x8])
section
variable {E:Ev} {G:Hp} {p0:Addr} {cs:List (Cm Sg)} {hb bc bp br:Nat} {s:VS} {t p h k pg sl:Int} {q pk:LL} {aq ax:Ad9}
set_option maxRecDepth 100000 in
theorem alloc_end_sw (hsl:0≤sl∧sl<32):SW Dg Tryz.prog allF (AP E G p0 cs (tup9 true (addr_At t p h k pg sl).1 (begS s t p h pg sl) q)) allB allN E G [.ops pEND 0, .code [1,1,1,1,1,1]] (eL hb bc br k pg sl) (eK p0 hb bc br s t p h q aq):=by
 refine pieceF (f:=allF) T_r18_Slot_ok Tryz.func9 (alloc_end (AR p0 cs (tup9 true (addr_At t p h k pg sl).1 (begS s t p h pg sl) q)) (λ_ _=>False) p0 hb bc br s t p h k pg sl q aq) (λv pr K w hz hS=>RetOk.post Dg hz hS) (λ_ _ _ hz=>hz.elim) ?_
 intro b0 r1 h1
 rw [place_Slots_eq] at h1
 subst h1
 have e1:=orOne_eq (VS.get_bd s (Cf.slots ⟨t,p,h⟩ pg)) hsl
 have g1:=(bitAt_setB (VS.get_bd s (Cf.slots ⟨t,p,h⟩ pg)) hsl).1
 have two:∀r4:VS,r4=(s.read (Cf.slots ⟨t,p,h⟩ pg)).set (Cf.slots ⟨t,p,h⟩ pg) (setB (s.get (Cf.slots ⟨t,p,h⟩ pg)) sl)→∀r6:VS×Int,r6=(r4.read 1,r4.get 1)→∀r7:VS,r7=r6.1.set 1 (iA iW (r6.2+1))→aw_ (bd32 (iA iW (r6.2+1))) (∀r9:Int×Bool,r9=addr_At t p h k pg sl→
  AR p0 cs (tup9 true (addr_At t p h k pg sl).1 (begS s t p h pg sl) q) (.tuple #[.int .i64 r9.1, .agg (v9 q aq).toArray, .bool true]) (.many [.no, .many (p9 4), .no]) (zK p0 hb bc br b0 r7 t p h sl q aq)):=by
  rintro r4 rfl r6 rfl r7 rfl
  refine ⟨wu32_bd _, λ_=>?_⟩
  rintro r9 rfl
  exact end_ret ..
 have g2:=g1
 rw [←e1] at g2
 have thr:∀r4:VS,r4=(s.read (Cf.slots ⟨t,p,h⟩ pg)).set (Cf.slots ⟨t,p,h⟩ pg) (iA iW (↑(kN (iP (32:Nat) (s.get (Cf.slots ⟨t,p,h⟩ pg)) ||| iP (32:Nat) (iA iW ((1:Int)*(2:Int)^min (iL sl) (32:Nat))))):Int))→_:= λr4 h4=>two r4 (h4.trans (congrArg (VS.set _ _) e1))
 refine ⟨?_,?_⟩
 ·rintro r2 rfl
  exact ⟨hsl.1, λ_ r4 h4=>⟨g2, λ_=>⟨thr r4 h4,thr r4 h4⟩⟩⟩
 ·rintro r2 rfl
  exact ⟨⟨hsl.1, λ_ r4 h4=>⟨g2, λ_=>⟨thr r4 h4,thr r4 h4⟩⟩⟩,⟨hsl.1, λ_ r4 h4=>⟨g2, λ_=>⟨thr r4 h4,thr r4 h4⟩⟩⟩⟩
theorem reN {L:List Ent} {K:List (Chunk Sg)} {a:Nat} {v:Value} {pr:Pr} (hm:(⟨a,none,v,pr⟩:Ent)∈L):reOk L K ⟨a,none,v, .no⟩:=⟨rfl,⟨_,hm⟩,pOk_no⟩
def atEnd (E:Ev) (G:Hp) (p0:Addr) (s:VS) (t p h k pg sl:Int) (q:LL) (td:List Ab) (e3 e5 e9 e11 e12 e13:Option Ent) (K:List (Chunk Sg)):Prop:=
 td=[.ops pEND 0, .code [1,1,1,1,1,1]]∧∃(hb bc br:Nat) (aq:Ad9) (q5 q9 q11:Pr),e3=some ⟨3,none, .int .i64 k, .no⟩∧e5=some ⟨5,none, .pointer (some ⟨bc,0,none⟩),q5⟩∧e9=some ⟨9,none, .pointer (some ⟨br,0,none⟩),q9⟩∧e11=some ⟨11,none, .pointer (some ⟨hb,0,none⟩),q11⟩∧e12=some ⟨12,none, .int .i64 pg, .no⟩∧e13=some ⟨13,none, .int .i64 sl, .no⟩∧
  ∀w,SatK Dg E G w K→SatK Dg E G w (eK p0 hb bc br s t p h q aq)
theorem atEnd_sw {td:List Ab} {L:List Ent} {K:List (Chunk Sg)} (hz:atEnd E G p0 s t p h k pg sl q td (Sl.look L 3) (Sl.look L 5) (Sl.look L 9) (Sl.look L 11) (Sl.look L 12) (Sl.look L 13) K) (hsl:0≤sl∧sl<32):
 SW Dg Tryz.prog allF (AP E G p0 cs (tup9 true (addr_At t p h k pg sl).1 (begS s t p h pg sl) q)) allB allN E G td L K:=by
 obtain ⟨rfl,hb,bc,br,aq,q5,q9,q11,e3,e5,e9,e11,e12,e13,hK⟩:=hz
 refine SW.re Dg (α:=Unit) (Kf:= λ_=>eK p0 hb bc br s t p h q aq) (L':=eL hb bc br k pg sl) (λw hS=>⟨(),hK w hS⟩) (λ_=>KOk_all (by simp [eK,hC,nil9,ro9,cellsAll,psOk,pOk,cOk])) (λ_ e he=>?_) λ_=>alloc_end_sw hsl
 simp only [eL,iG,kL,or_false] at he
 rcases he with rfl|rfl|rfl|rfl|rfl|rfl
 ·exact reN (look_mem e3).1
 ·exact ⟨rfl,⟨_,(look_mem e5).1⟩,(pOk_pt).2 ⟨_,rfl,rfl⟩⟩
 ·exact ⟨rfl,⟨_,(look_mem e9).1⟩,(pOk_pt).2 ⟨_,rfl,rfl⟩⟩
 ·exact ⟨rfl,⟨_,(look_mem e11).1⟩,(pOk_pt).2 ⟨_,rfl,rfl⟩⟩
 ·exact reN (look_mem e12).1
 ·exact reN (look_mem e13).1
set_option maxRecDepth 100000 in
theorem alloc_c_sw {r:RT} {ok:Bool} (hsl:ok=true→0≤sl∧sl<32) (hr:r=bif ok then tup9 true (addr_At t p h k pg sl).1 (begS s t p h pg sl) q else tup9 false 0 s pk):
 SW Dg Tryz.prog allF (AP E G p0 cs r) allB allN E G [.ops pC 0, .code [1,1,1,1,0,1,1,1,1], .code [1,1,1,1,1]] (bL hb bc bp br k pg sl ok) (bK p0 hb bc bp br s t p h q aq pk ax):=by
 cases ok with
 |false=>
  refine pieceF (f:=allF) T_r18_Slot_ok Tryz.func9 (alloc_c (AR p0 cs r) (λ_ _ _ _ _ _ _ _=>False) p0 hb bc bp br s t p h k pg sl false q aq pk ax) (λv pr K w hz hS=>RetOk.post Dg hz hS) (λ_ _ _ hz=>hz.elim) ⟨λ_=>?_, λhz=>by cases hz⟩
  rw [hr]
  exact no_ret ..
 |true=>
  rw [hr,cond_true]
  refine pieceF (f:=allF) T_r18_Slot_ok Tryz.func9 (alloc_c (λ_ _ _=>False) (λtd e3 e5 e9 e11 e12 e13 K=>atEnd E G p0 s t p h k pg sl q td e3 e5 e9 e11 e12 e13 K) p0 hb bc bp br s t p h k pg sl true q aq pk ax) (λ_ _ _ _ hz=>hz.elim) (λtd L K hz=>atEnd_sw hz (hsl rfl)) ⟨(λhz=>by cases hz), λ_=>?_⟩
  exact ⟨rfl,hb,bc,br,aq,_,_,_,rfl,rfl,rfl,rfl,rfl,rfl, λw hS=>hS.ord Dg [0,1,2,4,5,6,7,8,9,10,11,12,13] rfl (by kernel_rfl)⟩
def atC (p0:Addr) (hb bc bp br:Nat) (t p h k:Int) (r:VS×LL×Int×Int×Bool) (pk:LL) (ax:Ad9) (td:List Ab) (e3 e5 e6 e9 e11 e12 e13 e16:Option Ent) (K:List (Chunk Sg)):Prop:=
 td=[.ops pC 0, .code [1,1,1,1,0,1,1,1,1], .code [1,1,1,1,1]]∧e3=some ⟨3,none, .int .i64 k, .no⟩∧e5=some (ptE 5 bc 1)∧e6=some (ptE 6 bp 2)∧e9=some (ptE 9 br 3)∧e11=some ⟨11,none, .pointer (some ⟨hb,0,none⟩), .pt 0 .obj⟩∧e12=some ⟨12,none, .int .i64 r.2.2.1, .no⟩∧e13=some ⟨13,none, .int .i64 r.2.2.2.1, .no⟩∧e16=some ⟨16,none, .bool r.2.2.2.2, .no⟩∧
  K=aK hb bc bp br t p h (handA p0 hb r.1 t p h) r.2.1 pk ax
theorem fill_slot (ho:(fillR s t p h k pk).2.2.2.2=true):0≤(fillR s t p h k pk).2.2.2.1∧(fillR s t p h k pk).2.2.2.1<32:=by
 unfold fillR at ho ⊢
 cases hc:(slab_Pick s t p h k 4).2.2.2 with
 |false=>rw [hc] at ho;cases ho
 |true=>
  have h1:=pick_ok (c:=⟨t,p,h⟩) (s:=s) (k:=k) hc
  have h2:=h1.2.2 _ (getD_mem' (i:=0) h1.1)
  have h3:=kSlots_32 k
  exact ⟨h2.1,Int.lt_of_lt_of_le h2.2 h3⟩
set_option maxRecDepth 100000 in
theorem alloc_fill_sw {r:RT} (hO:pkO pk) (hp:p≤1024) (hr:r=bif (fillR s t p h k pk).2.2.2.2 then tup9 true (addr_At t p h k (fillR s t p h k pk).2.2.1 (fillR s t p h k pk).2.2.2.1).1 (begS (fillR s t p h k pk).1 t p h (fillR s t p h k pk).2.2.1 (fillR s t p h k pk).2.2.2.1) (fillR s t p h k pk).2.1 else tup9 false 0 (fillR s t p h k pk).1 pk):
 SW Dg Tryz.prog allF (AP E G p0 cs r) allB allN E G [.ops pELSE 0, .code [1,1,1,0,1,1,1,1], .code [1,1,1,1,1]] (aL hb bc bp br k) (aK hb bc bp br t p h (handA p0 hb s t p h) pk pk ax):=by
 refine pieceF (f:=allF) (TableOk.cons Dg (e_fill_ok (p0:=p0) (hb:=hb) (s:=s) (t:=t) (p:=p) (h:=h)) T_r18_Slot_ok) Tryz.func9 (alloc_fill (λ_ _ _=>False) (λtd e3 e5 e6 e9 e11 e12 e13 e16 K=>atC p0 hb bc bp br t p h k (fillR s t p h k pk) pk ax td e3 e5 e6 e9 e11 e12 e13 e16 K) p0 hb bc bp br s t p h k pk ax) (λ_ _ _ _ hz=>hz.elim) (λtd L K hz=>?_)
  (λr0 h0=>⟨rfl, λ_=>⟨rfl, λ_=>⟨hO, λ_=>⟨hp, λ_=>by subst h0;exact ⟨rfl,rfl,rfl,rfl,rfl,rfl,rfl,rfl,rfl,rfl⟩⟩⟩⟩⟩)
 obtain ⟨rfl,e3,e5,e6,e9,e11,e12,e13,e16,rfl⟩:=(hz:atC p0 hb bc bp br t p h k (fillR s t p h k pk) pk ax td (Sl.look L 3) (Sl.look L 5) (Sl.look L 6) (Sl.look L 9) (Sl.look L 11) (Sl.look L 12) (Sl.look L 13) (Sl.look L 16) K)
 have hsl:=fill_slot (s:=s) (t:=t) (p:=p) (h:=h) (k:=k) (pk:=pk)
 generalize fillR s t p h k pk=f at hr hsl e12 e13 e16 ⊢
 obtain ⟨s1,q,pg,sl,ok⟩:=f
 refine SW.re Dg (α:=Ad9) (Kf:= λaq=>bK p0 hb bc bp br s1 t p h q aq pk ax) (L':=bL hb bc bp br k pg sl ok) (λw hS=>?_) (λ_=>KOk_all (by simp [bK,hC,sl9,nil9,ro9,cellsAll,psOk,pOk,cOk])) (λaq e he=>?_) λaq=>alloc_c_sw hsl hr
 ·obtain ⟨aq,h1⟩:=SatK.unpackEx Dg (k:=0) (k0:= λ_:Ad9=> .obj p0 (.view s1)) (ks:= λad=> .cells hb 78 (hC p0 0 2 t p h q ad)::ro9 q ad) hS rfl (by kernel_rfl)
  exact ⟨aq,h1.ord Dg [0,13,1,2,3,14,15,16,17,18,19,20,21,22,4,5,6,7,8,9,10,11,12] rfl (by kernel_rfl)⟩
 ·simp only [bL,iG,kL,or_false] at he
  rcases he with rfl|rfl|rfl|rfl|rfl|rfl|rfl|rfl
  ·exact reN (look_mem e3).1
  ·exact ⟨rfl,⟨_,(look_mem e5).1⟩,(pOk_pt).2 ⟨_,rfl,rfl⟩⟩
  ·exact ⟨rfl,⟨_,(look_mem e6).1⟩,(pOk_pt).2 ⟨_,rfl,rfl⟩⟩
  ·exact ⟨rfl,⟨_,(look_mem e9).1⟩,(pOk_pt).2 ⟨_,rfl,rfl⟩⟩
  ·exact ⟨rfl,⟨_,(look_mem e11).1⟩,(pOk_pt).2 ⟨_,rfl,rfl⟩⟩
  ·exact reN (look_mem e12).1
  ·exact reN (look_mem e13).1
  ·exact reN (look_mem e16).1
def atElse (E:Ev) (G:Hp) (p0:Addr) (s:VS) (t p h k:Int) (pk:LL) (td:List Ab) (e3 e5 e6 e9 e11:Option Ent) (K:List (Chunk Sg)):Prop:=
 td=[.ops pELSE 0, .code [1,1,1,0,1,1,1,1], .code [1,1,1,1,1]]∧∃(hb bc bp br:Nat) (ax:Ad9) (q5 q6 q9 q11:Pr),e3=some ⟨3,none, .int .i64 k, .no⟩∧e5=some ⟨5,none, .pointer (some ⟨bc,0,none⟩),q5⟩∧e6=some ⟨6,none, .pointer (some ⟨bp,0,none⟩),q6⟩∧e9=some ⟨9,none, .pointer (some ⟨br,0,none⟩),q9⟩∧e11=some ⟨11,none, .pointer (some ⟨hb,0,none⟩),q11⟩∧
  ∀w,SatK Dg E G w K→SatK Dg E G w (aK hb bc bp br t p h (handA p0 hb s t p h) pk pk ax)
theorem atElse_sw {td:List Ab} {L:List Ent} {K:List (Chunk Sg)} {r:RT} (hz:atElse E G p0 s t p h k pk td (Sl.look L 3) (Sl.look L 5) (Sl.look L 6) (Sl.look L 9) (Sl.look L 11) K) (hO:pkO pk) (hp:p≤1024)
 (hr:r=bif (fillR s t p h k pk).2.2.2.2 then tup9 true (addr_At t p h k (fillR s t p h k pk).2.2.1 (fillR s t p h k pk).2.2.2.1).1 (begS (fillR s t p h k pk).1 t p h (fillR s t p h k pk).2.2.1 (fillR s t p h k pk).2.2.2.1) (fillR s t p h k pk).2.1 else tup9 false 0 (fillR s t p h k pk).1 pk):
 SW Dg Tryz.prog allF (AP E G p0 cs r) allB allN E G td L K:=by
 obtain ⟨rfl,hb,bc,bp,br,ax,q5,q6,q9,q11,e3,e5,e6,e9,e11,hK⟩:=hz
 refine SW.re Dg (α:=Unit) (Kf:= λ_=>aK hb bc bp br t p h (handA p0 hb s t p h) pk pk ax) (L':=aL hb bc bp br k) (λw hS=>⟨(),hK w hS⟩) (λ_=>KOk_all (by simp [aK,sl9,hC,nil9,ro9,cellsAll,psOk,pOk,cOk])) (λ_ e he=>?_) λ_=>alloc_fill_sw hO hp hr
 simp only [aL,iG,kL,or_false] at he
 rcases he with rfl|rfl|rfl|rfl|rfl
 ·exact reN (look_mem e3).1
 ·exact ⟨rfl,⟨_,(look_mem e5).1⟩,(pOk_pt).2 ⟨_,rfl,rfl⟩⟩
 ·exact ⟨rfl,⟨_,(look_mem e6).1⟩,(pOk_pt).2 ⟨_,rfl,rfl⟩⟩
 ·exact ⟨rfl,⟨_,(look_mem e9).1⟩,(pOk_pt).2 ⟨_,rfl,rfl⟩⟩
 ·exact ⟨rfl,⟨_,(look_mem e11).1⟩,(pOk_pt).2 ⟨_,rfl,rfl⟩⟩
end
abbrev adX (p0:Addr) (ad:Nat→Ad):Ad9:= λi=>((adP p0 ad (i+1)).a,(adP p0 ad (i+1)).c)
set_option maxRecDepth 100000 in
theorem small_Alloc_ok:EOk 9 e_small_Alloc:=by
 refine ent_of Dg (mk:=[]) T_r18_Slot_ok (I:=allI) Tryz.func9 mix (B:=allB) (by kernel_rfl) rfl (by kernel_rfl) 400 λp0 s t p h x0 x1 x2 x3 x4 x5 x6 x7 x8 k hbd hp ad E G=>?_
 have hp0:p≤1024:=hp _ (.head _)
 have hp1:pkB x0 x1 x2 x3 x4 x5 x6 x7 x8:=hp _ (.tail _ (.head _))
 refine holdsE (alloc_begin _ (λtd e3 e5 e6 e9 e11 e12 e13 K=>((lastI (pkk [x0,x1,x2,x3,x4,x5,x6,x7,x8] k)).2=true∧atEnd E G p0 s t p h k (pgA t p h (lastI (pkk [x0,x1,x2,x3,x4,x5,x6,x7,x8] k)).1) (slA t p h k (lastI (pkk [x0,x1,x2,x3,x4,x5,x6,x7,x8] k)).1) (pkS [x0,x1,x2,x3,x4,x5,x6,x7,x8] k (popL (pkk [x0,x1,x2,x3,x4,x5,x6,x7,x8] k))) td e3 e5 e9 e11 e12 e13 K)∨
  ((lastI (pkk [x0,x1,x2,x3,x4,x5,x6,x7,x8] k)).2=false∧atElse E G p0 s t p h k [x0,x1,x2,x3,x4,x5,x6,x7,x8] td e3 e5 e6 e9 e11 K)) p0 s t p h k x0 x1 x2 x3 x4 x5 x6 x7 x8 ad) (λtd L K hz=>?_) ?_
 ·show SW Dg Tryz.prog allF (AP E G p0 (al9 x0 x1 x2 x3 x4 x5 x6 x7 x8 s t p h k) (allocC s t p h [x0,x1,x2,x3,x4,x5,x6,x7,x8] k)) allB allN E G td L K
  rcases hz with ⟨h1,hz⟩|⟨h1,hz⟩
  ·have e:allocC s t p h [x0,x1,x2,x3,x4,x5,x6,x7,x8] k=tup9 true (addr_At t p h k (pgA t p h (lastI (pkk [x0,x1,x2,x3,x4,x5,x6,x7,x8] k)).1) (slA t p h k (lastI (pkk [x0,x1,x2,x3,x4,x5,x6,x7,x8] k)).1)).1 (begS s t p h (pgA t p h (lastI (pkk [x0,x1,x2,x3,x4,x5,x6,x7,x8] k)).1) (slA t p h k (lastI (pkk [x0,x1,x2,x3,x4,x5,x6,x7,x8] k)).1)) (pkS [x0,x1,x2,x3,x4,x5,x6,x7,x8] k (popL (pkk [x0,x1,x2,x3,x4,x5,x6,x7,x8] k))):=by unfold allocC;rw [h1];rfl
   rw [e]
   exact atEnd_sw hz (slot_rg ..)
  ·exact atElse_sw hz hp1 hp0 (by unfold allocC;rw [h1];rfl)
 ·intro bc bp br hb
  rintro ⟨a,q0,q1,q2,q3,q4,q5,q6,q7,q8,ok⟩ h4
  have hv:(a,q0,q1,q2,q3,q4,q5,q6,q7,q8,ok)=((lastI (pkk [x0,x1,x2,x3,x4,x5,x6,x7,x8] k)).1,pkSel k 0 (popL (pkk [x0,x1,x2,x3,x4,x5,x6,x7,x8] k)) x0,pkSel k 1 (popL (pkk [x0,x1,x2,x3,x4,x5,x6,x7,x8] k)) x1,pkSel k 2 (popL (pkk [x0,x1,x2,x3,x4,x5,x6,x7,x8] k)) x2,pkSel k 3 (popL (pkk [x0,x1,x2,x3,x4,x5,x6,x7,x8] k)) x3,pkSel k 4 (popL (pkk [x0,x1,x2,x3,x4,x5,x6,x7,x8] k)) x4,pkSel k 5 (popL (pkk [x0,x1,x2,x3,x4,x5,x6,x7,x8] k)) x5,pkSel k 6 (popL (pkk [x0,x1,x2,x3,x4,x5,x6,x7,x8] k)) x6,pkSel k 7 (popL (pkk [x0,x1,x2,x3,x4,x5,x6,x7,x8] k)) x7,pkSel k 8 (popL (pkk [x0,x1,x2,x3,x4,x5,x6,x7,x8] k)) x8,(lastI (pkk [x0,x1,x2,x3,x4,x5,x6,x7,x8] k)).2):=h4
  simp only [iV] at hv
  obtain ⟨ha,hq0,hq1,hq2,hq3,hq4,hq5,hq6,hq7,hq8,hok⟩:=hv
  refine ⟨hp1, λ_ a0 c0 a1 c1 a2 c2 a3 c3 a4 c4 a5 c5 a6 c6 a7 c7 a8 c8 b15=>⟨λho=>?_, λho=>?_⟩⟩
  ·have ho:ok=true:=ho
   rintro r17 rfl r18 rfl
   have hi:i64R (lastI (pkk [x0,x1,x2,x3,x4,x5,x6,x7,x8] k)).1:=lastI_i64 (pkB_get hp1 k)
   refine .inl ⟨by rw [←hok];exact ho,rfl,hb,bc,br, λn=>match n with
    |0=>(a0.map decA,c0)|1=>(a1.map decA,c1)|2=>(a2.map decA,c2)|3=>(a3.map decA,c3)|4=>(a4.map decA,c4)|5=>(a5.map decA,c5)|6=>(a6.map decA,c6)|7=>(a7.map decA,c7)|_=>(a8.map decA,c8),_,_,_,rfl,rfl,rfl,rfl,?_,?_, λw hS=>?_⟩
   ·dsimp only
    rw [ha,Page_eq hi];rfl
   ·dsimp only
    rw [ha,Page_eq hi,Slot_eq];rfl
   ·have e:pkS [x0,x1,x2,x3,x4,x5,x6,x7,x8] k (popL (pkk [x0,x1,x2,x3,x4,x5,x6,x7,x8] k))=[q0,q1,q2,q3,q4,q5,q6,q7,q8]:=by rw [hq0,hq1,hq2,hq3,hq4,hq5,hq6,hq7,hq8];rfl
    rw [e]
    exact hS.ord Dg [0,13,10,12,14,15,16,17,18,19,20,21,22] rfl (by kernel_rfl)
  ·have ho:ok=false:=ho
   refine .inr ⟨by rw [←hok];exact ho,rfl,hb,bc,bp,br,adX p0 ad,_,_,_,_,rfl,rfl,rfl,rfl,rfl, λw hS=>?_⟩
   have hS2:=((((((((hS.dup Dg (j:=1) rfl).dup Dg (j:=2) rfl).dup Dg (j:=3) rfl).dup Dg (j:=4) rfl).dup Dg (j:=5) rfl).dup Dg (j:=6) rfl).dup Dg (j:=7) rfl).dup Dg (j:=8) rfl).dup Dg (j:=9) rfl
   refine SatK.packEx Dg (G:=G) (Ks:=hK p0 hb s t p h [x0,x1,x2,x3,x4,x5,x6,x7,x8] (adX p0 ad)) (K1:=[.cells bc 23 [(.int .i64 t, .no),(.int .i64 p, .no),(.int .i64 h, .no)], .cells bp 40 (sl9 4 [x0,x1,x2,x3,x4,x5,x6,x7,x8] (adX p0 ad)), .cells br 40 nil9]++ro9 [x0,x1,x2,x3,x4,x5,x6,x7,x8] (adX p0 ad)) (c:= .obj ⟨hb,0,none⟩ (.any (handA p0 hb s t p h) [x0,x1,x2,x3,x4,x5,x6,x7,x8]))
    (hS2.ord Dg [0,13,1,2,3,4,5,6,7,8,9,10,11,12,24,25,26,27,28,29,30,31,32] rfl (by kernel_rfl)) λY y hx=>⟨adX p0 ad,hx⟩
def T_small_Alloc:Tb:=(9,e_small_Alloc)::T_r18_Slot
theorem T_small_Alloc_ok:TOk T_small_Alloc:=tc_ small_Alloc_ok T_r18_Slot_ok
end
section
open Go Go.Sl
def allL (c:LI):Nat→LI
 |0=>[]
 |n+1=>allL c n++slR (c.getD n 0)
def lenB (c:LI):Nat→Bool
 |0=>true
 |n+1=>lenB c n&&decide ((slR (c.getD n 0)).length≤4)
def oft (l:LI) (a:Int):Int:=((l.filter (· ==a)).length:Int)
def idP (sz:Int) (x:Pt):Bool:=x.k==4&&x.s==sz
def fitIn (sz:Int) (H:LI):List Pt→Int→Option Int
 |[],n=>some n
 |x::r,n=>bif idP sz x then (bif oft H x.a==1 then fitIn sz H r (iA .i64 (n-1)) else none) else fitIn sz H r n
def fitOut (h:Int) (L:List Pt) (C:Int→LI) (N:Nat):Nat→Int→Bool
 |0,n=>n==0
 |j+1,n=>bif lenB (C (8-j)) N then (match fitIn (r05_Size h (8-j)) (allL (C (8-j)) N) L (iA .i64 (n+(allL (C (8-j)) N).length)) with
  |some n'=>fitOut h L C N j n'
  |none=>false) else false
def fitTl (h:Int) (L:List Pt) (C:Int→LI) (N:Nat) (k:Int) (H:LI) (M:List Pt) (n:Int):Bool:=match fitIn (r05_Size h k) H M n with
 |some n'=>fitOut h L C N (8-k).toNat n'
 |none=>false
theorem fitOut_step {h:Int} {L:List Pt} {C:Int→LI} {N:Nat} {k n:Int} (hk:0≤k∧k≤8):fitOut h L C N (9-k).toNat n=bif lenB (C k) N then fitTl h L C N k (allL (C k) N) L (iA .i64 (n+(allL (C k) N).length)) else false:=by
 have e1:(9-k).toNat=(8-k).toNat+1:=by omega
 have e2:(8:Int)-((8-k).toNat:Nat)=k:=by omega
 rw [e1,fitOut,e2]
 rfl
theorem lenB_le {c:LI}:∀{N m:Nat},m≤N→lenB c N=true→lenB c m=true
 |0,m,h,_=>by rw [show m=0 by omega];rfl
 |n+1,m,h,hb=>by
  by_cases e:m=n+1
  ·rw [e];exact hb
  ·simp only [lenB,iE] at hb
   exact lenB_le (by omega) hb.1
theorem fitTl_cons {h:Int} {L:List Pt} {C:Int→LI} {N:Nat} {k n:Int} {H:LI} {x:Pt} {M:List Pt}:fitTl h L C N k H (x::M) n=bif idP (r05_Size h k) x then (bif oft H x.a==1 then fitTl h L C N k H M (iA .i64 (n-1)) else false) else fitTl h L C N k H M n:=by
 unfold fitTl
 rw [fitIn]
 cases idP (r05_Size h k) x with
 |false=>rfl
 |true=>cases oft H x.a==1<;>rfl
theorem pt_drop {L:List Pt} {i:Nat} (h:i<L.length):∃x:Pt,L.drop i=x::L.drop (i+1)∧(L.map (·.k)).getD i 0=x.k∧(L.map (·.a)).getD i 0=x.a∧(L.map (·.s)).getD i 0=x.s:=by
 have e:∀f:Pt→Int,(L.map f).getD i 0=f L[i]:= λf=>by
  rw [iD,iR,iN h];rfl
 exact ⟨L[i],oJ h,e _,e _,e _⟩
theorem nodup_cnt:∀(S:LI),S.Nodup→∀H:LI,(∀a∈S,a∈H)→S.length≤H.length∧(S.length=H.length→∀a∈H,a∈S)
 |[],_,H,_=>⟨oM _, λe a ha=>by rw [List.length_eq_zero_iff.mp e.symm] at ha;exact ha⟩
 |s::S,hn,H,hs=>by
  obtain ⟨h1,h2⟩:=lK.mp hn
  have hm:=hs s (by simp)
  have hl:=List.length_erase_of_mem hm
  have hp:0<H.length:=List.length_pos_of_mem hm
  obtain ⟨h3,h4⟩:=nodup_cnt S h2 (H.erase s) λa ha=>(List.mem_erase_of_ne (λe:a=s=>h1 (by rw [←e];exact ha))).mpr (hs a (by simp [ha]))
  refine ⟨by rw [jR];omega, λe a ha=>?_⟩
  rw [jR] at e
  by_cases he:a=s
  ·rw [he];simp
  ·exact List.mem_cons_of_mem _ (h4 (by omega) a ((List.mem_erase_of_ne he).mpr ha))
theorem oft_mem {l:LI} {a:Int} (h:oft l a=1):a∈l:=by
 unfold oft at h
 have:0<(l.filter (· ==a)).length:=by omega
 obtain ⟨b,hb⟩:=List.exists_mem_of_length_pos this
 rw [lS] at hb
 have e:b=a:=by simpa using hb.2
 rw [←e];exact hb.1
theorem fitIn_some {sz:Int} {H:LI}:∀{L:List Pt} {n n':Int}, -1000000000≤n-L.length→n≤1000000000→fitIn sz H L n=some n'→n'=n-((L.filter (idP sz)).length:Int)∧∀x∈L.filter (idP sz),oft H x.a=1
 |[],n,n',_,_,h=>by injection h with h;subst h;exact ⟨by simp, λx hx=>by cases hx⟩
 |x::r,n,n',h1,h2,h=>by
  rw [jR] at h1
  rw [fitIn] at h
  cases hp:idP sz x with
  |false=>
   rw [hp] at h
   obtain ⟨g1,g2⟩:=fitIn_some (L:=r) (by push_cast at h1;omega) h2 h
   rw [mT,hp]
   exact ⟨g1,g2⟩
  |true=>
   rw [hp] at h
   cases ho:oft H x.a==1 with
   |false=>rw [ho] at h;cases h
   |true=>
    rw [ho,cond_true,cond_true,w64 (n:=n-1) (by push_cast at h1;omega)] at h
    obtain ⟨g1,g2⟩:=fitIn_some (L:=r) (by push_cast at h1;omega) (by omega) h
    rw [mT,hp]
    refine ⟨by rw [g1];simp only [if_true,jR];push_cast;omega, λy hy=>?_⟩
    simp only [if_true,iG] at hy
    rcases hy with rfl|hy
    ·exact eq_of_beq ho
    ·exact g2 y hy
theorem lenB_all {c:LI}:∀{N:Nat},lenB c N=true→∀τ,τ<N→(slR (c.getD τ 0)).length≤4
 |0,_,τ,h=>by omega
 |n+1,h,τ,ht=>by
  simp only [lenB,iE,decide_eq_true_eq] at h
  by_cases e:τ=n
  ·rw [e];exact h.2
  ·exact lenB_all h.1 τ (by omega)
theorem allL_len {c:LI}:∀{N:Nat},lenB c N=true→(allL c N).length≤4*N
 |0,_=>kF _
 |n+1,h=>by
  simp only [lenB,iE,decide_eq_true_eq] at h
  have:=allL_len h.1
  rw [allL,jM];omega
def dfS (h:Int) (L:List Pt) (C:Int→LI) (N:Nat):Nat→Int
 |0=>0
 |j+1=>(((allL (C (8-j)) N).length:Int)-((L.filter (idP (r05_Size h (8-j)))).length:Int))+dfS h L C N j
theorem fitOut_true {h:Int} {L:List Pt} {C:Int→LI} {N:Nat} (hL:L.length≤100000) (hN:N≤100000):∀(j:Nat) (n:Int),j≤9→ -10000000-1000000*(9-j:Int)≤n→n≤10000000+1000000*(9-j:Int)→fitOut h L C N j n=true→
 n+dfS h L C N j=0∧∀i:Nat,i<j→lenB (C (8-i)) N=true∧∀x∈L.filter (idP (r05_Size h (8-i))),oft (allL (C (8-i)) N) x.a=1
 |0,n,_,_,_,ht=>⟨by have:n=0:=eq_of_beq ht;rw [this];rfl, λi hi=>by omega⟩
 |j+1,n,hj,h1,h2,ht=>by
  rw [fitOut] at ht
  cases hb:lenB (C (8-j)) N with
  |false=>rw [hb] at ht;cases ht
  |true=>
   rw [hb,cond_true] at ht
   have hl:=allL_len hb
   push_cast at h1 h2
   rw [w64 (n:=n+((allL (C (8-j)) N).length:Int)) (by omega)] at ht
   cases hf:fitIn (r05_Size h (8-j)) (allL (C (8-j)) N) L (n+((allL (C (8-j)) N).length:Int)) with
   |none=>rw [hf] at ht;cases ht
   |some n'=>
    rw [hf] at ht
    dsimp only at ht
    obtain ⟨g1,g2⟩:=fitIn_some (by omega) (by omega) hf
    have g3:=mB (idP (r05_Size h (8-j))) L
    obtain ⟨k1,k2⟩:=fitOut_true hL hN j n' (by omega) (by omega) (by omega) ht
    refine ⟨by rw [dfS];omega, λi hi=>?_⟩
    by_cases e:i=j
    ·subst e;exact ⟨hb,g2⟩
    ·exact k2 i (by omega)
end
section
open Go Go.Sl
theorem szB_inj:∀(s:Fin 11) (k l:Fin 9),szB ((s.val:Int)+10) (k.val:Int)=szB ((s.val:Int)+10) (l.val:Int)→k=l:=by decide+kernel
theorem szB_in {s k l:Int} (hs:10≤s∧s≤20) (hk:0≤k∧k≤8) (hl:0≤l∧l≤8) (h:szB s k=szB s l):k=l:=by
 have:=szB_inj ⟨(s-10).toNat,by omega⟩ ⟨k.toNat,by omega⟩ ⟨l.toNat,by omega⟩ (by
  dsimp only
  rw [show (((s-10).toNat:Nat):Int)+10=s by omega,show ((k.toNat:Nat):Int)=k by omega,show ((l.toNat:Nat):Int)=l by omega];exact h)
 have e:=congrArg Fin.val this
 dsimp only at e
 omega
theorem cls_of {k j:Int} (h0:0≤j) (h:j<kSlots k):0≤k∧k≤8:=by
 apply Classical.byContradiction
 intro hk
 have:=slots_out (k:=k) (by omega)
 omega
section
variable {c:Cf} {xs:LI}
theorem slabF_in {g k:Int} {x:Pt}:∀{n:Nat},x∈slabF c xs g k n→∃j:Nat,j<n∧x=slabPt c xs g k j
 |0,h=>by cases h
 |n+1,h=>by
  rw [slabF,kC,iY] at h
  rcases h with h|h
  ·obtain ⟨j,h1,h2⟩:=slabF_in h
   exact ⟨j,by omega,h2⟩
  ·exact ⟨n,by omega,h⟩
theorem slabF_sorted {g k:Int} (hz:0<szB c.s k):∀n:Nat,(slabF c xs g k n).Pairwise λx y=>x.a<y.a
 |0=>pH
 |n+1=>by
  rw [slabF,List.pairwise_append]
  refine ⟨slabF_sorted hz n,List.pairwise_singleton _ _, λx hx y hy=>?_⟩
  obtain ⟨j,h1,rfl⟩:=slabF_in hx
  rw [iY] at hy
  subst hy
  show (g+1)*pgB c.s+(j:Int)*szB c.s k<(g+1)*pgB c.s+(n:Int)*szB c.s k
  have:(j:Int)*szB c.s k<(n:Int)*szB c.s k:=Int.mul_lt_mul_of_pos_right (by omega) hz
  omega
def idl (x:Pt):Bool:=x.k==4
theorem slabL_idl (g k:Int):(slabL c xs g k).filter idl=(slabF c xs g k (kSlots k).toNat).filter idl:=by
 unfold slabL
 cases decide (0<slabRest c k) with
 |false=>rfl
 |true=>rw [cond_true,kX];simp [idl]
theorem partsOf_idl (g:Int):(partsOf c xs g).filter idl=[]∨∃k,(partsOf c xs g).filter idl=(slabF c xs g k (kSlots k).toNat).filter idl:=by
 cases h12:((aInfo c xs g).k==1||(aInfo c xs g).k==2) with
 |true=>
  rw [partsOf_one c xs h12]
  refine .inl ?_
  simp only [lG,beq_iff_eq] at h12
  rw [mT]
  have:idl ⟨(aInfo c xs g).k,(g+1)*pgB c.s,(aInfo c xs g).l*pgB c.s⟩=false:=by
   unfold idl
   rcases h12 with h|h<;>(dsimp only;rw [h];rfl)
  rw [this];rfl
 |false=>
  cases h3:((aInfo c xs g).k==3) with
  |true=>rw [partsOf_slab c xs h3];exact .inr ⟨_,slabL_idl _ _⟩
  |false=>
   simp only [jH] at h12
   rw [partsOf_none c xs h12.1 h12.2 h3];exact .inl rfl
theorem partsOf_at {g:Int} {x:Pt} (h:x∈(partsOf c xs g).filter idl):∃(k:Int) (j:Nat),(j:Int)<kSlots k∧x=slabPt c xs g k j:=by
 rcases partsOf_idl (c:=c) (xs:=xs) g with e|⟨k,e⟩
 ·rw [e] at h;cases h
 ·rw [e] at h
  obtain ⟨j,h1,h2⟩:=slabF_in (lS.mp h).1
  exact ⟨k,j,by omega,h2⟩
theorem partsOf_sorted (hs:10≤c.s∧c.s≤20) (g:Int):((partsOf c xs g).filter idl).Pairwise λx y=>x.a<y.a:=by
 rcases partsOf_idl (c:=c) (xs:=xs) g with e|⟨k,e⟩
 ·rw [e];exact pH
 ·rw [e]
  by_cases hk:0≤k∧k≤8
  ·have:=(szB_ok hs hk).2.1
   exact (slabF_sorted (by omega) _).filter _
  ·rw [slots_out (k:=k) (by omega)];exact pH
theorem slot_rng (hs:10≤c.s∧c.s≤20) {g k:Int} {j:Nat} (h:(j:Int)<kSlots k):(g+1)*pgB c.s≤(slabPt c xs g k j).a∧(slabPt c xs g k j).a<(g+2)*pgB c.s:=by
 have hk:=cls_of (by omega) h
 obtain ⟨_,e2,e3,_⟩:=szB_ok hs hk
 have f1:0≤(j:Int)*szB c.s k:=nH (by omega) (by omega)
 have f2:((j:Int)+1)*szB c.s k≤kSlots k*szB c.s k:=kJ (by omega) (by omega)
 have f3:((j:Int)+1)*szB c.s k=(j:Int)*szB c.s k+szB c.s k:=by rw [nM,nV]
 have f4:kSlots k*szB c.s k=szB c.s k*kSlots k:=oP _ _
 have f5:(g+2)*pgB c.s=(g+1)*pgB c.s+pgB c.s:=by rw [show g+2=(g+1)+1 by omega,nM,nV]
 show _≤(g+1)*pgB c.s+(j:Int)*szB c.s k∧(g+1)*pgB c.s+(j:Int)*szB c.s k<_
 omega
theorem partsF_at:∀{n:Nat} {x:Pt},x∈(partsF c xs n).filter idl→∃(g:Nat) (k:Int) (j:Nat),g<n∧(j:Int)<kSlots k∧x=slabPt c xs g k j
 |0,_,h=>by cases h
 |n+1,x,h=>by
  rw [partsF,kX,kC] at h
  rcases h with h|h
  ·obtain ⟨g,k,j,h1,h2,h3⟩:=partsF_at h
   exact ⟨g,k,j,by omega,h2,h3⟩
  ·obtain ⟨k,j,h2,h3⟩:=partsOf_at h
   exact ⟨n,k,j,by omega,h2,h3⟩
theorem partsF_sorted (hs:10≤c.s∧c.s≤20):∀n:Nat,((partsF c xs n).filter idl).Pairwise λx y=>x.a<y.a
 |0=>pH
 |n+1=>by
  rw [partsF,kX,List.pairwise_append]
  refine ⟨partsF_sorted hs n,partsOf_sorted hs n, λx hx y hy=>?_⟩
  obtain ⟨g,k,j,h1,h2,rfl⟩:=partsF_at hx
  obtain ⟨k',j',h3,rfl⟩:=partsOf_at hy
  have a1:=(slot_rng (xs:=xs) hs (g:=g) h2).2
  have a2:=(slot_rng (xs:=xs) hs (g:=n) h3).1
  have hp:1024≤pgB c.s:=(szB_ok hs (k:=0) (by omega)).2.2.2.2.1
  have:((g:Int)+2)*pgB c.s≤((n:Int)+1)*pgB c.s:=kJ (by omega) (by omega)
  omega
theorem idP_idl {sz:Int} (L:List Pt):(L.filter (idP sz)).Pairwise (λx y=>x.a<y.a)↔((L.filter idl).filter λx=>x.s==sz).Pairwise λx y=>x.a<y.a:=by
 rw [List.filter_filter]
 have:(λx:Pt=>(x.s==sz)&&idl x)=idP sz:=by funext x;unfold idP idl;exact Bool.and_comm _ _
 rw [this]
theorem dfS_zero {h:Int} {L:List Pt} {C:Int→LI} {N:Nat}:∀{j:Nat},(∀i:Nat,i<j→(L.filter (idP (r05_Size h (8-i)))).length≤(allL (C (8-i)) N).length)→dfS h L C N j≤0→∀i:Nat,i<j→(L.filter (idP (r05_Size h (8-i)))).length=(allL (C (8-i)) N).length
 |0,_,_,i,hi=>by omega
 |j+1,hle,h0,i,hi=>by
  have h1:=hle j (by omega)
  have nn:∀m:Nat,(∀i:Nat,i<m→(L.filter (idP (r05_Size h (8-i)))).length≤(allL (C (8-i)) N).length)→0≤dfS h L C N m:=by
   intro m
   induction m with
   |zero=>intro _;exact mC _
   |succ m ih=>intro hm;have:=hm m (by omega);have:=ih λi hi=>hm i (by omega);rw [dfS];omega
  have h2:=nn j λi hi=>hle i (by omega)
  rw [dfS] at h0
  by_cases e:i=j
  ·subst e;omega
  ·exact dfS_zero (j:=j) (λi hi=>hle i (by omega)) (by omega) i (by omega)
end
end
section
open Go.Sl
theorem good_len {c:Cf} {xs:LI} (h:AGood c xs):xs.length≤1000000:=by
 have h1:=Cf.ok_iff.1 h.ok
 have h2:=h.len
 rw [show c.cells=30+4*c.t+6*c.p by unfold Cf.cells;rw [h.ok];rfl] at h2
 omega
def r12_Parts (t p h:Int) (xs:LI):LI×LI×LI:=bif soundA ⟨t,p,h⟩ xs then ((partsL ⟨t,p,h⟩ xs).map (·.k),(partsL ⟨t,p,h⟩ xs).map (·.a),(partsL ⟨t,p,h⟩ xs).map (·.s)) else ([],[],[])
abbrev c_r12_Parts:Ct Sg:=⟨none,false,[.agg [.i .i64, .i .i64, .i .i64], .ro [some .u32]], .new 94 [some .i64,some .i64,some .i64]⟩
def e_r12_Parts:Entry Sg:=entC c_r12_Parts r12_Parts (λt p h xs=>[bdAll xs])
def r12_Parts_w (t p h:Int) (xs:LI) (R_:LI×LI×LI→Prop):Prop:=(∀r1:Bool,r1=(r12_Sound t p h xs)→(aw_ (bdAll xs) (bw_ (!r1) (R_ (([],[],[]))) (∀r5:LI×LI×LI,r5=(x_parts t p h xs)→(aw_ (AGood {t:=t,p:=p,s:=h} xs) (R_ ((r5.1,r5.2.1,r5.2.2))))))))
theorem r12_Parts_begin (t p h:Int) (xs:LI) (hp0:bdAll xs) (hl0:xs.length≤9223372036854775807):r12_Parts_w t p h xs (λr__=>r__=(r12_Parts t p h xs)):=by
 unfold r12_Parts_w
 have hS:soundA ⟨t,p,h⟩ xs=r12_Sound t p h xs:=rfl
 rintro r rfl
 refine ⟨hp0, λ_=>⟨λh1=>?_, λh1=>?_⟩⟩
 ·show _=r12_Parts t p h xs
  rw [←hS] at h1
  rw [r12_Parts,(jO _).mp h1];rfl
 ·rintro r rfl
  rw [←hS] at h1
  have hs:=(jY _).mp h1
  refine ⟨sound_good hs hp0, λ_=>?_⟩
  show _=r12_Parts t p h xs
  rw [r12_Parts,hs];rfl
theorem r12_Parts_ok:EOk 36 e_r12_Parts:=
 ent_w0 Dg T_small_Alloc_ok (I:=[2999998]) Tryz.func36 mix (B:=bodyOf Tryz.f36) (by kernel_rfl) rfl (by kernel_rfl) 400
  λ_ t p h xs hb hp=>⟨_, λ_ _ _=>by kernel_rfl,r12_Parts_begin t p h xs (hp _ (.head _)) (hb.2.1)⟩
def T_r12_Parts:Tb:=(36,e_r12_Parts)::T_small_Alloc
theorem T_r12_Parts_ok:TOk T_r12_Parts:=tc_ r12_Parts_ok T_small_Alloc_ok
abbrev Qb (a0 a1 a2 a3 a4 a5 a6 a7 a8:LI) (kk:Int) (n1:Nat) (ys:LI) (i:Int) (Q:Int→Nat→LI→Int→Prop) (R:LI→Prop):Prop:=
 bw_ (decide (i<(a0.length:Int))) (aw_ (0≤i∧i<(a0.length:Int)) (aw_ (0≤kk∧kk<9) (aw_ ((n1+(slR ((pkGet kk a0 a1 a2 a3 a4 a5 a6 a7 a8).getD i.toNat 0)).length)*8≤140737488355328) (Q kk (n1+(slR ((pkGet kk a0 a1 a2 a3 a4 a5 a6 a7 a8).getD i.toNat 0)).length) (ys++slR ((pkGet kk a0 a1 a2 a3 a4 a5 a6 a7 a8).getD i.toNat 0)) (iA .i64 (i+1)))))) (R ys)
def r17_All (a0 a1 a2 a3 a4 a5 a6 a7 a8:LI) (k:Int):LI:=allL (pkGet k a0 a1 a2 a3 a4 a5 a6 a7 a8) a0.length
abbrev c_r17_All:Ct Sg:=⟨none,false,[.ro [some .i16,some .i16,some .i16,some .i16,some .i16,some .i16,some .i16,some .i16,some .i16], .i .i64], .new 2 [some .i64]⟩
def e_r17_All:Entry Sg:=entC c_r17_All r17_All (λa0 a1 a2 a3 a4 a5 a6 a7 a8 k=>[(0≤k∧k≤8)∧a0.length≤1000∧lenB (pkGet k a0 a1 a2 a3 a4 a5 a6 a7 a8) a0.length=true])
def r17_All_w (a0 a1 a2 a3 a4 a5 a6 a7 a8:LI) (k:Int) (Q0:Int→Nat→LI→Int→Prop) (R_:LI→Prop):Prop:=(Q0 (k) (0) ([]) (0))
def r17_All_I0 (a0 a1 a2 a3 a4 a5 a6 a7 a8:LI) (k kk:Int) (n1:Nat) (ys:LI) (i:Int) (r_:LI):Prop:=kk=k∧0≤kk∧kk≤8∧0≤i∧i≤a0.length∧(a0.length≤1000∧lenB (pkGet kk a0 a1 a2 a3 a4 a5 a6 a7 a8) a0.length=true)∧n1=ys.length∧ys=allL (pkGet kk a0 a1 a2 a3 a4 a5 a6 a7 a8) i.toNat∧r_=allL (pkGet k a0 a1 a2 a3 a4 a5 a6 a7 a8) a0.length
abbrev r17_All_h0 (p0:Addr) (a0 a1 a2 a3 a4 a5 a6 a7 a8:LI) (k:Int):Hd Sg:=⟨none,[0,1,0,1,1],[.blk 0, .code [1,1,1]],[0,1,5,6],[.roc [.sls (a0), .sls (a1), .sls (a2), .sls (a3), .sls (a4), .sls (a5), .sls (a6), .sls (a7), .sls (a8)], .i .i64, .own 2 [some .i64], .i .i64]⟩
theorem r17_All_begin (a0 a1 a2 a3 a4 a5 a6 a7 a8:LI) (k:Int) (hp0:(0≤k∧k≤8)∧a0.length≤1000∧lenB (pkGet k a0 a1 a2 a3 a4 a5 a6 a7 a8) a0.length=true):r17_All_w a0 a1 a2 a3 a4 a5 a6 a7 a8 k (λkk' n1' ys' i'=>r17_All_I0 a0 a1 a2 a3 a4 a5 a6 a7 a8 k kk' n1' ys' i' (r17_All a0 a1 a2 a3 a4 a5 a6 a7 a8 k)) (λr__=>r__=(r17_All a0 a1 a2 a3 a4 a5 a6 a7 a8 k)):=by
 unfold r17_All_w
 try unfold r17_All_I0
 exact ⟨rfl,hp0.1.1,hp0.1.2,by omega,by omega,hp0.2,rfl,rfl,rfl⟩
theorem r17_All_cs0 (a0 a1 a2 a3 a4 a5 a6 a7 a8:LI) (k:Int) (hp0:(0≤k∧k≤8)∧a0.length≤1000∧lenB (pkGet k a0 a1 a2 a3 a4 a5 a6 a7 a8) a0.length=true) (kk:Int) (n1:Nat) (ys:LI) (i:Int) {r_:LI} (hI:r17_All_I0 a0 a1 a2 a3 a4 a5 a6 a7 a8 k kk n1 ys i r_):kk=0∨kk=1∨kk=2∨kk=3∨kk=4∨kk=5∨kk=6∨kk=7∨kk=8:=by
 unfold r17_All_I0 at hI
 obtain ⟨_,h1,h2,_⟩:=hI
 omega
theorem LW (a0 a1 a2 a3 a4 a5 a6 a7 a8:LI) (k:Int) (hp0:(0≤k∧k≤8)∧a0.length≤1000∧lenB (pkGet k a0 a1 a2 a3 a4 a5 a6 a7 a8) a0.length=true) (kk:Int) (n1:Nat) (ys:LI) (i:Int) {r_:LI} (hI:r17_All_I0 a0 a1 a2 a3 a4 a5 a6 a7 a8 k kk n1 ys i r_):Qb a0 a1 a2 a3 a4 a5 a6 a7 a8 kk n1 ys i (λkk' n1' ys' i'=>r17_All_I0 a0 a1 a2 a3 a4 a5 a6 a7 a8 k kk' n1' ys' i' r_∧lx (((a0.length:Int)-i').toNat,0,0) (((a0.length:Int)-i).toNat,0,0)) (λr__=>r__=r_):=by
 unfold r17_All_I0 at hI
 obtain ⟨hk,hk0,hk8,h0,h1,hb,hn,hx,hr⟩:=hI
 subst hk
 refine ⟨λhc=>?_, λhc=>?_⟩
 ·have hc:i<(a0.length:Int):=of_decide_eq_true hc
  have hlt:i.toNat<a0.length:=by omega
  have g1:=allL_len (lenB_le (Nat.le_of_lt hlt) hb.2)
  have g2:(slR ((pkGet kk a0 a1 a2 a3 a4 a5 a6 a7 a8).getD i.toNat 0)).length≤4:=lenB_all hb.2 _ hlt
  rw [w64 (n:=i+1) (by omega)]
  refine ⟨⟨h0,hc⟩, λ_=>⟨⟨by omega,by omega⟩, λ_=>⟨?_, λ_=>⟨⟨rfl,by omega,by omega,by omega,by omega,hb,?_,?_,hr⟩,lxo_⟩⟩⟩⟩
  ·rw [hn,hx];omega
  ·rw [hn,jM]
  ·rw [hx,show (i+1).toNat=i.toNat+1 by omega];rfl
 ·have hc:¬i<(a0.length:Int):=of_decide_eq_false hc
  show ys=r_
  rw [hr,hx,show i.toNat=a0.length by omega]
theorem r17_All_ok:EOk 37 e_r17_All:=
 ent_wp Dg T_r12_Parts_ok (I:=[2999998,411000000000,411000000001,411000000005,411000000006]) Tryz.func37 mix (B:=bodyOf Tryz.f37) (by kernel_rfl) rfl (by kernel_rfl) 400
  λp0 a0 a1 a2 a3 a4 a5 a6 a7 a8 k hb hp=>have hp0:(0≤k∧k≤8)∧a0.length≤1000∧lenB (pkGet k a0 a1 a2 a3 a4 a5 a6 a7 a8) a0.length=true:=hp _ (.head _);⟨[r17_All_h0 p0 a0 a1 a2 a3 a4 a5 a6 a7 a8 k], λj=>iI [appC (Hd.kd (r17_All_h0 p0 a0 a1 a2 a3 a4 a5 a6 a7 a8 k)) (λkk' n1' ys' i'=>r17_All_I0 a0 a1 a2 a3 a4 a5 a6 a7 a8 k kk' n1' ys' i' (r17_All a0 a1 a2 a3 a4 a5 a6 a7 a8 k))] j (λ_=>False), λj=>iI [appC (Hd.kd (r17_All_h0 p0 a0 a1 a2 a3 a4 a5 a6 a7 a8 k)) (λkk' n1' ys' i'=>(((a0.length:Int)-i').toNat,0,0))] j (λ_=>(0,0,0)),by kernel_rfl,⟨_, λ_ _ _=>by kernel_rfl,r17_All_begin a0 a1 a2 a3 a4 a5 a6 a7 a8 k hp0⟩,⟨λkk n1 ys i hI=>(by
   rcases r17_All_cs0 a0 a1 a2 a3 a4 a5 a6 a7 a8 k hp0 kk n1 ys i hI with rfl|rfl|rfl|rfl|rfl|rfl|rfl|rfl|rfl
   ·exact ⟨_, λ_ _ _=>by kernel_rfl,LW a0 a1 a2 a3 a4 a5 a6 a7 a8 k hp0 0 n1 ys i hI⟩
   ·exact ⟨_, λ_ _ _=>by kernel_rfl,LW a0 a1 a2 a3 a4 a5 a6 a7 a8 k hp0 1 n1 ys i hI⟩
   ·exact ⟨_, λ_ _ _=>by kernel_rfl,LW a0 a1 a2 a3 a4 a5 a6 a7 a8 k hp0 2 n1 ys i hI⟩
   ·exact ⟨_, λ_ _ _=>by kernel_rfl,LW a0 a1 a2 a3 a4 a5 a6 a7 a8 k hp0 3 n1 ys i hI⟩
   ·exact ⟨_, λ_ _ _=>by kernel_rfl,LW a0 a1 a2 a3 a4 a5 a6 a7 a8 k hp0 4 n1 ys i hI⟩
   ·exact ⟨_, λ_ _ _=>by kernel_rfl,LW a0 a1 a2 a3 a4 a5 a6 a7 a8 k hp0 5 n1 ys i hI⟩
   ·exact ⟨_, λ_ _ _=>by kernel_rfl,LW a0 a1 a2 a3 a4 a5 a6 a7 a8 k hp0 6 n1 ys i hI⟩
   ·exact ⟨_, λ_ _ _=>by kernel_rfl,LW a0 a1 a2 a3 a4 a5 a6 a7 a8 k hp0 7 n1 ys i hI⟩
   ·exact ⟨_, λ_ _ _=>by kernel_rfl,LW a0 a1 a2 a3 a4 a5 a6 a7 a8 k hp0 8 n1 ys i hI⟩),trivial⟩⟩
def T_r17_All:Tb:=(37,e_r17_All)::T_r12_Parts
theorem T_r17_All_ok:TOk T_r17_All:=tc_ r17_All_ok T_r12_Parts_ok
def r17_often (l:LI) (a:Int):Int:=oft l a
abbrev c_r17_often:Ct Sg:=⟨none,false,[.ro [some .i64], .i .i64], .i .i64⟩
def e_r17_often:Entry Sg:=entC c_r17_often r17_often (λ_ _=>[])
def r17_often_w (l:LI) (a:Int) (Q0:Int→Int→Prop) (R_:Int→Prop):Prop:=(Q0 (0) (0))
def r17_often_w0 (l:LI) (a n i:Int) (Q0:Int→Int→Prop) (R_:Int→Prop):Prop:=(bw_ (decide (i<(↑(iF l):Int))) (aw_ (0≤i∧i<(↑(iF l):Int)) (bw_ (iI l (iL i) 0==a) (Q0 (iA iB (n+1)) (iA iB (i+1))) (Q0 (n) (iA iB (i+1))))) (R_ (n)))
def r17_often_I0 (l:LI) (a n i r_:Int):Prop:=0≤i∧i≤l.length∧n=oft (l.take i.toNat) a∧r_=oft l a
abbrev r17_often_h0 (p0:Addr) (l:LI) (a:Int):Hd Sg:=⟨none,[0,1,0,1,1],[.blk 0, .code [1,1,1]],[0,1,5,6],[.roc [.ints .i64 (l)], .ic .i64 (a), .i .i64, .i .i64]⟩
theorem r17_often_begin (l:LI) (a:Int) (hl0:l.length≤9223372036854775807):r17_often_w l a (λn' i'=>r17_often_I0 l a n' i' (r17_often l a)) (λr__=>r__=(r17_often l a)):=by
 unfold r17_often_w
 try unfold r17_often_I0
 exact ⟨by omega,by omega,rfl,rfl⟩
theorem r17_often_step0 (l:LI) (a:Int) (hl0:l.length≤9223372036854775807) (n i:Int) {r_:Int} (hI:r17_often_I0 l a n i r_):r17_often_w0 l a n i (λn' i'=>r17_often_I0 l a n' i' r_∧lx ((l.length-i').toNat,0,0) ((l.length-i).toNat,0,0)) (λr__=>r__=r_):=by
 unfold r17_often_I0 at hI
 unfold r17_often_w0
 try unfold r17_often_I0
 obtain ⟨h0,h1,hn,hr⟩:=hI
 refine ⟨λhc=>?_, λhc=>?_⟩
 ·have hc:i<(l.length:Int):=of_decide_eq_true hc
  have hlt:i.toNat<l.length:=by omega
  have hle:oft (l.take i.toNat) a≤i:=by
   unfold oft
   have g1:=mB (· ==a) (l.take i.toNat)
   rw [mL] at g1;omega
  have hge:0≤oft (l.take i.toNat) a:=by unfold oft;omega
  have ht:oft (l.take (i+1).toNat) a=oft (l.take i.toNat) a+(bif l.getD i.toNat 0==a then 1 else 0):=by
   rw [toNat_succ h0,take_snocB hlt]
   unfold oft
   rw [kX,jM,mT]
   cases l.getD i.toNat 0==a<;>simp
  rw [w64 (n:=i+1) (by omega)]
  refine ⟨⟨h0,hc⟩, λ_=>⟨λhe=>?_, λhe=>?_⟩⟩
  ·rw [he,cond_true] at ht
   rw [w64 (n:=n+1) (by omega)]
   exact ⟨⟨by omega,by omega,by rw [ht,hn],hr⟩,lxo_⟩
  ·rw [he,cond_false] at ht
   exact ⟨⟨by omega,by omega,by rw [ht,hn,Int.add_zero],hr⟩,lxo_⟩
 ·have hc:¬i<(l.length:Int):=of_decide_eq_false hc
  rw [lI (by omega)] at hn
  show n=r_
  rw [hr,hn]
theorem r17_often_ok:EOk 38 e_r17_often:=
 ent_wp Dg T_r17_All_ok (I:=[411000000000,411000000001,411000000005,411000000006]) Tryz.func38 mix (B:=bodyOf Tryz.f38) (by kernel_rfl) rfl (by kernel_rfl) 400
  λp0 l a hb hp=>have hl0:l.length≤9223372036854775807:=hb.1;⟨[r17_often_h0 p0 l a], λj=>iI [appC (Hd.kd (r17_often_h0 p0 l a)) (λn' i'=>r17_often_I0 l a n' i' (r17_often l a))] j (λ_=>False), λj=>iI [appC (Hd.kd (r17_often_h0 p0 l a)) (λn' i'=>((l.length-i').toNat,0,0))] j (λ_=>(0,0,0)),by kernel_rfl,⟨_, λ_ _ _=>by kernel_rfl,r17_often_begin l a hl0⟩,⟨λn i hI=>⟨_, λ_ _ _=>by kernel_rfl,r17_often_step0 l a hl0 n i hI⟩,trivial⟩⟩
def T_r17_often:Tb:=(38,e_r17_often)::T_r17_All
theorem T_r17_often_ok:TOk T_r17_often:=tc_ r17_often_ok T_r17_All_ok
abbrev Qc (a0 a1 a2 a3 a4 a5 a6 a7 a8:LI) (kk:Int) (n1:Nat) (ks zs ss:LI) (n i:Int) (Q0:Nat→LI→LI→LI→Int→Int→Prop) (Q1:Nat→LI→LI→LI→Int→Int→Int→Prop) (Q2:Nat→LI→LI→LI→Int→Int→Nat→LI→Int→Prop) (R:Bool→Prop):Prop:=
 bw_ (decide (i<(a0.length:Int))) (aw_ (0≤i∧i<(a0.length:Int)) (aw_ (0≤kk∧kk<9) (bw_ (decide (((slR ((pkGet kk a0 a1 a2 a3 a4 a5 a6 a7 a8).getD i.toNat 0)).length:Int)>4)) (R false) (Q1 n1 ks zs ss n kk (iA .i64 (i+1))))))
  (∀r1:LI,r1=r17_All a0 a1 a2 a3 a4 a5 a6 a7 a8 kk→aw_ ((0≤kk∧kk≤8)∧a0.length≤1000∧lenB (pkGet kk a0 a1 a2 a3 a4 a5 a6 a7 a8) a0.length=true) (Q2 n1 ks zs ss (iA .i64 (n+(r1.length:Int))) kk r1.length r1 0))
def r17_Fits (t p h:Int) (xs a0 a1 a2 a3 a4 a5 a6 a7 a8:LI):Bool:=bif !soundA ⟨t,p,h⟩ xs||(a0.length:Int) !=t then false else fitOut h (partsL ⟨t,p,h⟩ xs) (λk=>pkGet k a0 a1 a2 a3 a4 a5 a6 a7 a8) a0.length 9 0
abbrev c_r17_Fits:Ct Sg:=⟨none,false,[.agg [.i .i64, .i .i64, .i .i64], .ro [some .u32], .ro [some .i16,some .i16,some .i16,some .i16,some .i16,some .i16,some .i16,some .i16,some .i16]], .b⟩
def e_r17_Fits:Entry Sg:=entC c_r17_Fits r17_Fits (λt p h xs a0 a1 a2 a3 a4 a5 a6 a7 a8=>[bdAll xs,a0.length≤1000])
def r17_Fits_w (t p h:Int) (xs a0 a1 a2 a3 a4 a5 a6 a7 a8:LI) (Q0:Nat→LI→LI→LI→Int→Int→Prop) (Q1:Nat→LI→LI→LI→Int→Int→Int→Prop) (Q2:Nat→LI→LI→LI→Int→Int→Nat→LI→Int→Prop) (R_:Bool→Prop):Prop:=(∀r1:Bool,r1=(r12_Sound t p h xs)→(aw_ (bdAll xs) (bw_ (!r1||(↑(lenC [kG a0,kG a1,kG a2,kG a3,kG a4,kG a5,kG a6,kG a7,kG a8]):Int) !=t) (R_ (false)) (∀r4:LI×LI×LI,r4=(r12_Parts t p h xs)→(aw_ (bdAll xs) (Q0 (iF r4.1) r4.1 r4.2.1 r4.2.2 (0) (0)))))))
def r17_Fits_w0 (t p h:Int) (xs a0 a1 a2 a3 a4 a5 a6 a7 a8:LI) (n1:Nat) (ks zs ss:LI) (n k:Int) (Q0:Nat→LI→LI→LI→Int→Int→Prop) (Q1:Nat→LI→LI→LI→Int→Int→Int→Prop) (Q2:Nat→LI→LI→LI→Int→Int→Nat→LI→Int→Prop) (R_:Bool→Prop):Prop:=(bw_ (decide (k<9)) (Q1 (n1) (ks) (zs) (ss) (n) (k) (0)) (R_ (n==0)))
def r17_Fits_I0 (t p h:Int) (xs a0 a1 a2 a3 a4 a5 a6 a7 a8:LI) (n1:Nat) (ks zs ss:LI) (n k:Int) (r_:Bool):Prop:=(n1=ks.length∧ks=(partsL ⟨t,p,h⟩ xs).map (·.k)∧zs=(partsL ⟨t,p,h⟩ xs).map (·.a)∧ss=(partsL ⟨t,p,h⟩ xs).map (·.s)∧(partsL ⟨t,p,h⟩ xs).length≤100000∧a0.length≤1000)∧0≤k∧k≤9∧r_=fitOut h (partsL ⟨t,p,h⟩ xs) (λk=>pkGet k a0 a1 a2 a3 a4 a5 a6 a7 a8) a0.length (9-k).toNat n
def r17_Fits_I1 (t p h:Int) (xs a0 a1 a2 a3 a4 a5 a6 a7 a8:LI) (n1:Nat) (ks zs ss:LI) (n k i:Int) (r_:Bool):Prop:=(n1=ks.length∧ks=(partsL ⟨t,p,h⟩ xs).map (·.k)∧zs=(partsL ⟨t,p,h⟩ xs).map (·.a)∧ss=(partsL ⟨t,p,h⟩ xs).map (·.s)∧(partsL ⟨t,p,h⟩ xs).length≤100000∧a0.length≤1000)∧0≤k∧k≤8∧0≤i∧i≤a0.length∧lenB ((λk=>pkGet k a0 a1 a2 a3 a4 a5 a6 a7 a8) k) i.toNat=true∧r_=fitOut h (partsL ⟨t,p,h⟩ xs) (λk=>pkGet k a0 a1 a2 a3 a4 a5 a6 a7 a8) a0.length (9-k).toNat n
def r17_Fits_w2 (t p h:Int) (xs a0 a1 a2 a3 a4 a5 a6 a7 a8:LI) (n1:Nat) (ks zs ss:LI) (n k:Int) (n2:Nat) (ys:LI) (i:Int) (Q0:Nat→LI→LI→LI→Int→Int→Prop) (Q1:Nat→LI→LI→LI→Int→Int→Int→Prop) (Q2:Nat→LI→LI→LI→Int→Int→Nat→LI→Int→Prop) (R_:Bool→Prop):Prop:=(bw_ (decide (i<(↑n1:Int))) (aw_ (0≤i∧i<(↑n1:Int)) (aw_ ((iI ks (iL i) (0:Int)==4)=true→0≤i∧i<(↑n1:Int)) (bw_ (iI ks (iL i) (0:Int)==4&&iI ss (iL i) 0==r05_Size h k) (aw_ (0≤i∧i<(↑n1:Int)) (∀r5:Int,r5=(r17_often ys (iI zs (iL i) 0))→(bw_ (r5 !=1) (R_ (false)) (Q2 (n1) (ks) (zs) (ss) (iA iB (n-1)) (k) (n2) (ys) (iA iB (i+1)))))) (Q2 (n1) (ks) (zs) (ss) (n) (k) (n2) (ys) (iA iB (i+1)))))) (Q0 (n1) (ks) (zs) (ss) (n) (iA iB (k+1))))
def r17_Fits_I2 (t p h:Int) (xs a0 a1 a2 a3 a4 a5 a6 a7 a8:LI) (n1:Nat) (ks zs ss:LI) (n k:Int) (n2:Nat) (ys:LI) (i:Int) (r_:Bool):Prop:=(n1=ks.length∧ks=(partsL ⟨t,p,h⟩ xs).map (·.k)∧zs=(partsL ⟨t,p,h⟩ xs).map (·.a)∧ss=(partsL ⟨t,p,h⟩ xs).map (·.s)∧(partsL ⟨t,p,h⟩ xs).length≤100000∧a0.length≤1000)∧0≤k∧k≤8∧n2=ys.length∧0≤i∧i≤n1∧r_=fitTl h (partsL ⟨t,p,h⟩ xs) (λk=>pkGet k a0 a1 a2 a3 a4 a5 a6 a7 a8) a0.length k ys ((partsL ⟨t,p,h⟩ xs).drop i.toNat) n
abbrev r17_Fits_h0 (p0:Addr) (t p h:Int) (xs a0 a1 a2 a3 a4 a5 a6 a7 a8:LI):Hd Sg:=⟨none,[0,1,0,1,1,1,1],[.blk 0, .code [1,1,1,1,1]],[2,3,7,8,9],[.roc [.sls (a0), .sls (a1), .sls (a2), .sls (a3), .sls (a4), .sls (a5), .sls (a6), .sls (a7), .sls (a8)], .box 23 [.ic .i64 (t), .ic .i64 (p), .ic .i64 (h)], .own 94 [some .i64,some .i64,some .i64], .i .i64, .i .i64]⟩
abbrev r17_Fits_h1 (p0:Addr) (t p h:Int) (xs a0 a1 a2 a3 a4 a5 a6 a7 a8:LI):Hd Sg:=⟨none,[0,1,0,0,0,1,0,0,1,0,1,1,1,1],[.blk 2, .code [1,0,0,1,0,0,1,0,1,1,1,1], .blk 1, .code [1,1,0,0,1,0,1,1,1,1], .again [0,1,0,1,1,1,1], .blk 0, .code [1,1,1,1,1]],[2,3,7,8,9,10],[.roc [.sls (a0), .sls (a1), .sls (a2), .sls (a3), .sls (a4), .sls (a5), .sls (a6), .sls (a7), .sls (a8)], .box 23 [.ic .i64 (t), .ic .i64 (p), .ic .i64 (h)], .own 94 [some .i64,some .i64,some .i64], .i .i64, .i .i64, .i .i64]⟩
abbrev r17_Fits_h2 (p0:Addr) (t p h:Int) (xs a0 a1 a2 a3 a4 a5 a6 a7 a8:LI):Hd Sg:=⟨none,[0,1,1,1,1,0,0,1,0,0,1,0,1,1,1,1],[.blk 4, .blk 1, .code [1,1,0,0,1,0,1,1,1,1], .again [0,1,0,1,1,1,1], .blk 0, .code [1,1,1,1,1]],[2,3,7,8,9,11,12],[.roc [.sls (a0), .sls (a1), .sls (a2), .sls (a3), .sls (a4), .sls (a5), .sls (a6), .sls (a7), .sls (a8)], .box 23 [.ic .i64 (t), .ic .i64 (p), .ic .i64 (h)], .own 94 [some .i64,some .i64,some .i64], .i .i64, .i .i64, .own 2 [some .i64], .i .i64]⟩
theorem r17_Fits_begin (t p h:Int) (xs a0 a1 a2 a3 a4 a5 a6 a7 a8:LI) (hp0:bdAll xs) (hp1:a0.length≤1000):r17_Fits_w t p h xs a0 a1 a2 a3 a4 a5 a6 a7 a8 (λn1' ks' zs' ss' n' k'=>r17_Fits_I0 t p h xs a0 a1 a2 a3 a4 a5 a6 a7 a8 n1' ks' zs' ss' n' k' (r17_Fits t p h xs a0 a1 a2 a3 a4 a5 a6 a7 a8)) (λn1' ks' zs' ss' n' k' i'=>r17_Fits_I1 t p h xs a0 a1 a2 a3 a4 a5 a6 a7 a8 n1' ks' zs' ss' n' k' i' (r17_Fits t p h xs a0 a1 a2 a3 a4 a5 a6 a7 a8)) (λn1' ks' zs' ss' n' k' n2' ys' i'=>r17_Fits_I2 t p h xs a0 a1 a2 a3 a4 a5 a6 a7 a8 n1' ks' zs' ss' n' k' n2' ys' i' (r17_Fits t p h xs a0 a1 a2 a3 a4 a5 a6 a7 a8)) (λr__=>r__=(r17_Fits t p h xs a0 a1 a2 a3 a4 a5 a6 a7 a8)):=by
 unfold r17_Fits_w
 try unfold r17_Fits_I0
 try unfold r17_Fits_I1
 try unfold r17_Fits_I2
 rintro r1 rfl
 refine ⟨hp0, λ_=>⟨λhc=>?_, λhc=>?_⟩⟩
 ·show false=r17_Fits t p h xs a0 a1 a2 a3 a4 a5 a6 a7 a8
  have hc:(!soundA ⟨t,p,h⟩ xs||(a0.length:Int) !=t)=true:=hc
  unfold r17_Fits
  rw [hc];rfl
 ·have hc:(!soundA ⟨t,p,h⟩ xs||(a0.length:Int) !=t)=false:=hc
  have hs:soundA ⟨t,p,h⟩ xs=true:=by
   simp only [jH,jY] at hc;exact hc.1
  have hok:=(sound_good hs hp0).ok
  have hl:=partsL_len ⟨t,p,h⟩ xs
  have hp4:=(Cf.ok_iff.1 hok).2.1.2
  have e:r12_Parts t p h xs=((partsL ⟨t,p,h⟩ xs).map (·.k),(partsL ⟨t,p,h⟩ xs).map (·.a),(partsL ⟨t,p,h⟩ xs).map (·.s)):=by
   unfold r12_Parts;rw [hs];rfl
  rw [e]
  rintro r4 rfl
  refine ⟨hp0, λ_=>⟨⟨rfl,rfl,rfl,rfl,?_,hp1⟩,by omega,by omega,?_⟩⟩
  ·dsimp only at hl hp4;omega
  ·show r17_Fits t p h xs a0 a1 a2 a3 a4 a5 a6 a7 a8=_
   unfold r17_Fits
   rw [hc];rfl
theorem r17_Fits_step0 (t p h:Int) (xs a0 a1 a2 a3 a4 a5 a6 a7 a8:LI) (hp0:bdAll xs) (hp1:a0.length≤1000) (n1:Nat) (ks zs ss:LI) (n k:Int) {r_:Bool} (hI:r17_Fits_I0 t p h xs a0 a1 a2 a3 a4 a5 a6 a7 a8 n1 ks zs ss n k r_):r17_Fits_w0 t p h xs a0 a1 a2 a3 a4 a5 a6 a7 a8 n1 ks zs ss n k (λn1' ks' zs' ss' n' k'=>r17_Fits_I0 t p h xs a0 a1 a2 a3 a4 a5 a6 a7 a8 n1' ks' zs' ss' n' k' r_∧lx ((9-k').toNat,3,0) ((9-k).toNat,3,0)) (λn1' ks' zs' ss' n' k' i'=>r17_Fits_I1 t p h xs a0 a1 a2 a3 a4 a5 a6 a7 a8 n1' ks' zs' ss' n' k' i' r_∧lx ((9-k').toNat,2,(a0.length-i').toNat) ((9-k).toNat,3,0)) (λn1' ks' zs' ss' n' k' n2' ys' i'=>r17_Fits_I2 t p h xs a0 a1 a2 a3 a4 a5 a6 a7 a8 n1' ks' zs' ss' n' k' n2' ys' i' r_∧lx ((9-k').toNat,1,(n1'-i').toNat) ((9-k).toNat,3,0)) (λr__=>r__=r_):=by
 unfold r17_Fits_I0 at hI
 unfold r17_Fits_w0
 try unfold r17_Fits_I0
 try unfold r17_Fits_I1
 try unfold r17_Fits_I2
 obtain ⟨hb,h0,h1,hr⟩:=hI
 refine ⟨λhc=>?_, λhc=>?_⟩
 ·have hc:=of_decide_eq_true hc
  exact ⟨⟨hb,h0,by omega,by omega,by omega,rfl,hr⟩,lxo_⟩
 ·have hc:=of_decide_eq_false hc
  show (n==0)=r_
  rw [hr,show (9-k).toNat=0 by omega];rfl
theorem r17_Fits_cs1 (t p h:Int) (xs a0 a1 a2 a3 a4 a5 a6 a7 a8:LI) (hp0:bdAll xs) (hp1:a0.length≤1000) (n1:Nat) (ks zs ss:LI) (n k i:Int) {r_:Bool} (hI:r17_Fits_I1 t p h xs a0 a1 a2 a3 a4 a5 a6 a7 a8 n1 ks zs ss n k i r_):k=0∨k=1∨k=2∨k=3∨k=4∨k=5∨k=6∨k=7∨k=8:=by
 unfold r17_Fits_I1 at hI
 obtain ⟨_,h1,h2,_⟩:=hI
 omega
theorem LQ (t p h:Int) (xs a0 a1 a2 a3 a4 a5 a6 a7 a8:LI) (hp0:bdAll xs) (hp1:a0.length≤1000) (n1:Nat) (ks zs ss:LI) (n k i:Int) {r_:Bool} (hI:r17_Fits_I1 t p h xs a0 a1 a2 a3 a4 a5 a6 a7 a8 n1 ks zs ss n k i r_):Qc a0 a1 a2 a3 a4 a5 a6 a7 a8 k n1 ks zs ss n i (λn1' ks' zs' ss' n' k'=>r17_Fits_I0 t p h xs a0 a1 a2 a3 a4 a5 a6 a7 a8 n1' ks' zs' ss' n' k' r_∧lx ((9-k').toNat,3,0) ((9-k).toNat,2,(a0.length-i).toNat)) (λn1' ks' zs' ss' n' k' i'=>r17_Fits_I1 t p h xs a0 a1 a2 a3 a4 a5 a6 a7 a8 n1' ks' zs' ss' n' k' i' r_∧lx ((9-k').toNat,2,(a0.length-i').toNat) ((9-k).toNat,2,(a0.length-i).toNat)) (λn1' ks' zs' ss' n' k' n2' ys' i'=>r17_Fits_I2 t p h xs a0 a1 a2 a3 a4 a5 a6 a7 a8 n1' ks' zs' ss' n' k' n2' ys' i' r_∧lx ((9-k').toNat,1,(n1'-i').toNat) ((9-k).toNat,2,(a0.length-i).toNat)) (λr__=>r__=r_):=by
 unfold r17_Fits_I1 at hI
 obtain ⟨hb,hk0,hk8,h0,h1,hl,hr⟩:=hI
 refine ⟨λhc=>?_, λhc=>?_⟩
 ·have hc:i<(a0.length:Int):=of_decide_eq_true hc
  have hlt:i.toNat<a0.length:=by omega
  have hb6:=hb.2.2.2.2.2
  rw [w64 (n:=i+1) (by omega)]
  refine ⟨⟨h0,hc⟩, λ_=>⟨⟨by omega,by omega⟩, λ_=>⟨λhg=>?_, λhg=>?_⟩⟩⟩
  ·have hg:((slR ((pkGet k a0 a1 a2 a3 a4 a5 a6 a7 a8).getD i.toNat 0)).length:Int)>4:=of_decide_eq_true hg
   show false=r_
   rw [hr,fitOut_step ⟨hk0,hk8⟩]
   cases hq:lenB ((λk=>pkGet k a0 a1 a2 a3 a4 a5 a6 a7 a8) k) a0.length with
   |false=>rfl
   |true=>
    have:(slR ((pkGet k a0 a1 a2 a3 a4 a5 a6 a7 a8).getD i.toNat 0)).length≤4:=lenB_all hq _ hlt
    omega
  ·have hg:¬((slR ((pkGet k a0 a1 a2 a3 a4 a5 a6 a7 a8).getD i.toNat 0)).length:Int)>4:=of_decide_eq_false hg
   refine ⟨⟨hb,hk0,hk8,by omega,by omega,?_,hr⟩,lxo_⟩
   rw [show (i+1).toNat=i.toNat+1 by omega]
   show (lenB ((λk=>pkGet k a0 a1 a2 a3 a4 a5 a6 a7 a8) k) i.toNat&&decide ((slR ((pkGet k a0 a1 a2 a3 a4 a5 a6 a7 a8).getD i.toNat 0)).length≤4))=true
   rw [hl,nR,decide_eq_true_eq];omega
 ·have hc:¬i<(a0.length:Int):=of_decide_eq_false hc
  rw [show i.toNat=a0.length by omega] at hl
  rintro r1 rfl
  refine ⟨⟨⟨hk0,hk8⟩,hb.2.2.2.2.2,hl⟩, λ_=>⟨⟨hb,hk0,hk8,rfl,by omega,by omega,?_⟩,lxo_⟩⟩
  rw [hr,fitOut_step ⟨hk0,hk8⟩,hl];rfl
theorem r17_Fits_step2 (t p h:Int) (xs a0 a1 a2 a3 a4 a5 a6 a7 a8:LI) (hp0:bdAll xs) (hp1:a0.length≤1000) (n1:Nat) (ks zs ss:LI) (n k:Int) (n2:Nat) (ys:LI) (i:Int) {r_:Bool} (hI:r17_Fits_I2 t p h xs a0 a1 a2 a3 a4 a5 a6 a7 a8 n1 ks zs ss n k n2 ys i r_):r17_Fits_w2 t p h xs a0 a1 a2 a3 a4 a5 a6 a7 a8 n1 ks zs ss n k n2 ys i (λn1' ks' zs' ss' n' k'=>r17_Fits_I0 t p h xs a0 a1 a2 a3 a4 a5 a6 a7 a8 n1' ks' zs' ss' n' k' r_∧lx ((9-k').toNat,3,0) ((9-k).toNat,1,(n1-i).toNat)) (λn1' ks' zs' ss' n' k' i'=>r17_Fits_I1 t p h xs a0 a1 a2 a3 a4 a5 a6 a7 a8 n1' ks' zs' ss' n' k' i' r_∧lx ((9-k').toNat,2,(a0.length-i').toNat) ((9-k).toNat,1,(n1-i).toNat)) (λn1' ks' zs' ss' n' k' n2' ys' i'=>r17_Fits_I2 t p h xs a0 a1 a2 a3 a4 a5 a6 a7 a8 n1' ks' zs' ss' n' k' n2' ys' i' r_∧lx ((9-k').toNat,1,(n1'-i').toNat) ((9-k).toNat,1,(n1-i).toNat)) (λr__=>r__=r_):=by
 unfold r17_Fits_I2 at hI
 unfold r17_Fits_w2
 try unfold r17_Fits_I0
 try unfold r17_Fits_I1
 try unfold r17_Fits_I2
 obtain ⟨hb,hk0,hk1,hn2,h0,h1,hr⟩:=hI
 obtain ⟨b1,b2,b3,b4,b5,b6⟩:=hb
 have bl:n1=(partsL ⟨t,p,h⟩ xs).length:=by rw [b1,b2,kK]
 refine ⟨λhc=>?_, λhc=>?_⟩
 ·have hc:=of_decide_eq_true hc
  have hi:0≤i∧i<(n1:Int):=⟨h0,hc⟩
  obtain ⟨x,e1,e2,e3,e4⟩:=pt_drop (L:=(partsL ⟨t,p,h⟩ xs)) (i:=i.toNat) (by omega)
  rw [e1,fitTl_cons] at hr
  have es:(i+1).toNat=i.toNat+1:=by omega
  rw [w64 (n:=i+1) (by omega)]
  rw [b2,b3,b4,e2,e3,e4]
  refine ⟨hi, λ_=>⟨λ_=>hi, λ_=>⟨λhg=>?_, λhg=>?_⟩⟩⟩
  ·rw [show idP (r05_Size h k) x=true from hg,cond_true] at hr
   refine ⟨hi, λ_=>?_⟩
   rintro r5 rfl
   refine ⟨λhq=>?_, λhq=>?_⟩
   ·have hq:(oft ys x.a==1)=false:=by
     have hq:(oft ys x.a !=1)=true:=hq
     simpa [bne] using hq
    rw [hq] at hr
    exact hr.symm
   ·have hq:(oft ys x.a==1)=true:=by
     have hq:(oft ys x.a !=1)=false:=hq
     simpa [bne] using hq
    rw [hq,cond_true] at hr
    exact ⟨⟨⟨by rw [bl,kK],rfl,rfl,rfl,b5,b6⟩,hk0,hk1,hn2,by omega,by omega,by rw [es];exact hr⟩,lxo_⟩
  ·rw [show idP (r05_Size h k) x=false from hg,cond_false] at hr
   exact ⟨⟨⟨by rw [bl,kK],rfl,rfl,rfl,b5,b6⟩,hk0,hk1,hn2,by omega,by omega,by rw [es];exact hr⟩,lxo_⟩
 ·have hc:=of_decide_eq_false hc
  rw [w64 (n:=k+1) (by omega)]
  rw [List.drop_eq_nil_of_le (by omega)] at hr
  refine ⟨⟨⟨b1,b2,b3,b4,b5,b6⟩,by omega,by omega,?_⟩,lxo_⟩
  rw [hr,show (9-(k+1)).toNat=(8-k).toNat by omega];rfl
theorem r17_Fits_ok:EOk 14 e_r17_Fits:=
 ent_wp Dg T_r17_often_ok (I:=[2999998,6571000000002,6571000000003,6571000000007,6571000000008,6571000000009,194000000002,194000000003,194000000007,194000000008,194000000009,194000000010,9540000000002,9540000000003,9540000000007,9540000000008,9540000000009,9540000000011,9540000000012]) Tryz.func14 mix (B:=bodyOf Tryz.f14) (by kernel_rfl) rfl (by kernel_rfl) 400
  λp0 t p h xs a0 a1 a2 a3 a4 a5 a6 a7 a8 hb hp=>have hp0:bdAll xs:=hp _ (.head _);have hp1:a0.length≤1000:=hp _ (.tail _ (.head _));⟨[r17_Fits_h0 p0 t p h xs a0 a1 a2 a3 a4 a5 a6 a7 a8,r17_Fits_h1 p0 t p h xs a0 a1 a2 a3 a4 a5 a6 a7 a8,r17_Fits_h2 p0 t p h xs a0 a1 a2 a3 a4 a5 a6 a7 a8], λj=>iI [appC (Hd.kd (r17_Fits_h0 p0 t p h xs a0 a1 a2 a3 a4 a5 a6 a7 a8)) (λn1' ks' zs' ss' n' k'=>r17_Fits_I0 t p h xs a0 a1 a2 a3 a4 a5 a6 a7 a8 n1' ks' zs' ss' n' k' (r17_Fits t p h xs a0 a1 a2 a3 a4 a5 a6 a7 a8)),appC (Hd.kd (r17_Fits_h1 p0 t p h xs a0 a1 a2 a3 a4 a5 a6 a7 a8)) (λn1' ks' zs' ss' n' k' i'=>r17_Fits_I1 t p h xs a0 a1 a2 a3 a4 a5 a6 a7 a8 n1' ks' zs' ss' n' k' i' (r17_Fits t p h xs a0 a1 a2 a3 a4 a5 a6 a7 a8)),appC (Hd.kd (r17_Fits_h2 p0 t p h xs a0 a1 a2 a3 a4 a5 a6 a7 a8)) (λn1' ks' zs' ss' n' k' n2' ys' i'=>r17_Fits_I2 t p h xs a0 a1 a2 a3 a4 a5 a6 a7 a8 n1' ks' zs' ss' n' k' n2' ys' i' (r17_Fits t p h xs a0 a1 a2 a3 a4 a5 a6 a7 a8))] j (λ_=>False), λj=>iI [appC (Hd.kd (r17_Fits_h0 p0 t p h xs a0 a1 a2 a3 a4 a5 a6 a7 a8)) (λn1' ks' zs' ss' n' k'=>((9-k').toNat,3,0)),appC (Hd.kd (r17_Fits_h1 p0 t p h xs a0 a1 a2 a3 a4 a5 a6 a7 a8)) (λn1' ks' zs' ss' n' k' i'=>((9-k').toNat,2,(a0.length-i').toNat)),appC (Hd.kd (r17_Fits_h2 p0 t p h xs a0 a1 a2 a3 a4 a5 a6 a7 a8)) (λn1' ks' zs' ss' n' k' n2' ys' i'=>((9-k').toNat,1,(n1'-i').toNat))] j (λ_=>(0,0,0)),by kernel_rfl,⟨_, λ_ _ _=>by kernel_rfl,r17_Fits_begin t p h xs a0 a1 a2 a3 a4 a5 a6 a7 a8 hp0 hp1⟩,⟨λn1 ks zs ss n k hI=>⟨_, λ_ _ _=>by kernel_rfl,r17_Fits_step0 t p h xs a0 a1 a2 a3 a4 a5 a6 a7 a8 hp0 hp1 n1 ks zs ss n k hI⟩,⟨λn1 ks zs ss n k i hI=>(by
   rcases r17_Fits_cs1 t p h xs a0 a1 a2 a3 a4 a5 a6 a7 a8 hp0 hp1 n1 ks zs ss n k i hI with rfl|rfl|rfl|rfl|rfl|rfl|rfl|rfl|rfl
   ·exact ⟨_, λ_ _ _=>by kernel_rfl,LQ t p h xs a0 a1 a2 a3 a4 a5 a6 a7 a8 hp0 hp1 n1 ks zs ss n 0 i hI⟩
   ·exact ⟨_, λ_ _ _=>by kernel_rfl,LQ t p h xs a0 a1 a2 a3 a4 a5 a6 a7 a8 hp0 hp1 n1 ks zs ss n 1 i hI⟩
   ·exact ⟨_, λ_ _ _=>by kernel_rfl,LQ t p h xs a0 a1 a2 a3 a4 a5 a6 a7 a8 hp0 hp1 n1 ks zs ss n 2 i hI⟩
   ·exact ⟨_, λ_ _ _=>by kernel_rfl,LQ t p h xs a0 a1 a2 a3 a4 a5 a6 a7 a8 hp0 hp1 n1 ks zs ss n 3 i hI⟩
   ·exact ⟨_, λ_ _ _=>by kernel_rfl,LQ t p h xs a0 a1 a2 a3 a4 a5 a6 a7 a8 hp0 hp1 n1 ks zs ss n 4 i hI⟩
   ·exact ⟨_, λ_ _ _=>by kernel_rfl,LQ t p h xs a0 a1 a2 a3 a4 a5 a6 a7 a8 hp0 hp1 n1 ks zs ss n 5 i hI⟩
   ·exact ⟨_, λ_ _ _=>by kernel_rfl,LQ t p h xs a0 a1 a2 a3 a4 a5 a6 a7 a8 hp0 hp1 n1 ks zs ss n 6 i hI⟩
   ·exact ⟨_, λ_ _ _=>by kernel_rfl,LQ t p h xs a0 a1 a2 a3 a4 a5 a6 a7 a8 hp0 hp1 n1 ks zs ss n 7 i hI⟩
   ·exact ⟨_, λ_ _ _=>by kernel_rfl,LQ t p h xs a0 a1 a2 a3 a4 a5 a6 a7 a8 hp0 hp1 n1 ks zs ss n 8 i hI⟩),⟨λn1 ks zs ss n k n2 ys i hI=>⟨_, λ_ _ _=>by kernel_rfl,r17_Fits_step2 t p h xs a0 a1 a2 a3 a4 a5 a6 a7 a8 hp0 hp1 n1 ks zs ss n k n2 ys i hI⟩,trivial⟩⟩⟩⟩
def T_r17_Fits:Tb:=(14,e_r17_Fits)::T_r17_often
theorem T_r17_Fits_ok:TOk T_r17_Fits:=tc_ r17_Fits_ok T_r17_often_ok
def r17_Same (x0 x1 x2 x3 x4 x5 x6 x7 x8 y0 y1 y2 y3 y4 y5 y6 y7 y8:LI):Bool:=(x0==y0)&&(x1==y1)&&(x2==y2)&&(x3==y3)&&(x4==y4)&&(x5==y5)&&(x6==y6)&&(x7==y7)&&(x8==y8)
abbrev c_r17_Same:Ct Sg:=⟨none,false,[.agg [.ro [some .i8], .ro [some .i8], .ro [some .i8], .ro [some .i8], .ro [some .i8], .ro [some .i8], .ro [some .i8], .ro [some .i8], .ro [some .i8]], .agg [.ro [some .i8], .ro [some .i8], .ro [some .i8], .ro [some .i8], .ro [some .i8], .ro [some .i8], .ro [some .i8], .ro [some .i8], .ro [some .i8]]], .b⟩
def e_r17_Same:Entry Sg:=entC c_r17_Same r17_Same (λ_ _ _ _ _ _ _ _ _ _ _ _ _ _ _ _ _ _=>[])
def r17_Same_w (x0 x1 x2 x3 x4 x5 x6 x7 x8 y0 y1 y2 y3 y4 y5 y6 y7 y8:LI) (R_:Bool→Prop):Prop:=(aw_ ((0:Int)≤0∧(0:Int)<9) (aw_ ((0:Int)≤0∧(0:Int)<9) (bw_ (!r01_Longs x0 y0) (R_ (false)) (aw_ ((0:Int)≤1∧(1:Int)<9) (aw_ ((0:Int)≤1∧(1:Int)<9) (bw_ (!r01_Longs x1 y1) (R_ (false)) (aw_ ((0:Int)≤2∧(2:Int)<9) (aw_ ((0:Int)≤2∧(2:Int)<9) (bw_ (!r01_Longs x2 y2) (R_ (false)) (aw_ ((0:Int)≤3∧(3:Int)<9) (aw_ ((0:Int)≤3∧(3:Int)<9) (bw_ (!r01_Longs x3 y3) (R_ (false)) (aw_ ((0:Int)≤4∧(4:Int)<9) (aw_ ((0:Int)≤4∧(4:Int)<9) (bw_ (!r01_Longs x4 y4) (R_ (false)) (aw_ ((0:Int)≤5∧(5:Int)<9) (aw_ ((0:Int)≤5∧(5:Int)<9) (bw_ (!r01_Longs x5 y5) (R_ (false)) (aw_ ((0:Int)≤6∧(6:Int)<9) (aw_ ((0:Int)≤6∧(6:Int)<9) (bw_ (!r01_Longs x6 y6) (R_ (false)) (aw_ ((0:Int)≤7∧(7:Int)<9) (aw_ ((0:Int)≤7∧(7:Int)<9) (bw_ (!r01_Longs x7 y7) (R_ (false)) (aw_ ((0:Int)≤8∧(8:Int)<9) (aw_ ((0:Int)≤8∧(8:Int)<9) (bw_ (!r01_Longs x8 y8) (R_ (false)) (R_ (true)))))))))))))))))))))))))))))
theorem r17_Same_begin (x0 x1 x2 x3 x4 x5 x6 x7 x8 y0 y1 y2 y3 y4 y5 y6 y7 y8:LI):r17_Same_w x0 x1 x2 x3 x4 x5 x6 x7 x8 y0 y1 y2 y3 y4 y5 y6 y7 y8 (λr__=>r__=(r17_Same x0 x1 x2 x3 x4 x5 x6 x7 x8 y0 y1 y2 y3 y4 y5 y6 y7 y8)):=by
 unfold r17_Same_w
 have L:∀x y:LI,r01_Longs x y=(x==y):= λ_ _=>rfl
 simp only [L]
 repeat' first
  |refine ⟨by decide, λ_=>?_⟩
  |refine ⟨λhc=>?_, λhc=>?_⟩
  |fail
 all_goals
  first
  |show false=r17_Same x0 x1 x2 x3 x4 x5 x6 x7 x8 y0 y1 y2 y3 y4 y5 y6 y7 y8
  |show true=r17_Same x0 x1 x2 x3 x4 x5 x6 x7 x8 y0 y1 y2 y3 y4 y5 y6 y7 y8
 all_goals
  unfold r17_Same
  simp only [jO,jY] at*
  simp [*]
theorem r17_Same_ok:EOk 11 e_r17_Same:=
 ent_w0 Dg T_r17_Fits_ok (I:=[2999999]) Tryz.func11 mix (B:=bodyOf Tryz.f11) (by kernel_rfl) rfl (by kernel_rfl) 400
  λ_ x0 x1 x2 x3 x4 x5 x6 x7 x8 y0 y1 y2 y3 y4 y5 y6 y7 y8 hb hp=>⟨_, λ_ _ _=>by kernel_rfl,r17_Same_begin x0 x1 x2 x3 x4 x5 x6 x7 x8 y0 y1 y2 y3 y4 y5 y6 y7 y8⟩
def T_r17_Same:Tb:=(11,e_r17_Same)::T_r17_Fits
theorem T_r17_Same_ok:TOk T_r17_Same:=tc_ r17_Same_ok T_r17_Fits_ok
def r01_LongsI (l m:LI):Bool:=l==m
abbrev c_r01_LongsI:Ct Sg:=⟨none,false,[.ro [some .i8], .ro [some .i64]], .b⟩
def e_r01_LongsI:Entry Sg:=entC c_r01_LongsI r01_LongsI (λ_ _=>[])
def r01_LongsI_w (l m:LI) (Q0:Int→Prop) (R_:Bool→Prop):Prop:=(bw_ ((↑(lenC [iS l]):Int) !=(↑(iF m):Int)) (R_ (false)) (Q0 (0)))
def r01_LongsI_w0 (l m:LI) (i:Int) (Q0:Int→Prop) (R_:Bool→Prop):Prop:=(bw_ (decide (i<(↑(lenC [iS l]):Int))) (aw_ (0≤i∧i<(↑(lenC [iS l]):Int)) (aw_ (0≤i∧i<(↑(iF m):Int)) (bw_ (iI l (iL i) 0 !=iI m (iL i) 0) (R_ (false)) (Q0 (iA iB (i+1)))))) (R_ (true)))
def r01_LongsI_I0 (l m:LI) (i:Int) (r_:Bool):Prop:=0≤i∧i≤l.length∧l.length=m.length∧l.take i.toNat=m.take i.toNat∧r_=r01_LongsI l m
abbrev r01_LongsI_h0 (p0:Addr) (l m:LI):Hd Sg:=⟨none,[0,1,0,1,1],[.blk 0, .code [1,1,1]],[5,0,1],[.i .i64, .roc [.fz (l)], .roc [.ints .i64 (m)]]⟩
theorem r01_LongsI_begin (l m:LI) (hl0:l.length≤9223372036854775807) (hl1:m.length≤9223372036854775807):r01_LongsI_w l m (λi'=>r01_LongsI_I0 l m i' (r01_LongsI l m)) (λr__=>r__=(r01_LongsI l m)):=by
 unfold r01_LongsI_w
 try unfold r01_LongsI_I0
 refine ⟨λhc=>?_, λhc=>?_⟩
 ·show false=r01_LongsI l m
  unfold r01_LongsI
  symm
  rw [beq_eq_false_iff_ne]
  rintro rfl
  simp at hc
  exact hc rfl
 ·have hc:((l.length:Nat):Int)=((m.length:Nat):Int):=bne_eq_false_iff_eq.1 hc
  exact ⟨by omega,by omega,by omega,rfl,rfl⟩
theorem r01_LongsI_step0 (l m:LI) (hl0:l.length≤9223372036854775807) (hl1:m.length≤9223372036854775807) (i:Int) {r_:Bool} (hI:r01_LongsI_I0 l m i r_):r01_LongsI_w0 l m i (λi'=>r01_LongsI_I0 l m i' r_∧lx ((l.length-i').toNat,0,0) ((l.length-i).toNat,0,0)) (λr__=>r__=r_):=by
 unfold r01_LongsI_I0 at hI
 unfold r01_LongsI_w0
 try unfold r01_LongsI_I0
 obtain ⟨h0,h1,h2,h3,hr⟩:=hI
 refine ⟨λhc=>?_, λhc=>?_⟩
 ·simp only [decide_eq_true_eq] at hc
  have hc:i<l.length:=hc
  have hm:i<m.length:=by omega
  rw [w64 (n:=i+1) (by omega)]
  refine ⟨⟨h0,hc⟩, λ_=>⟨⟨h0,hm⟩, λ_=>⟨λhq=>?_, λhq=>?_⟩⟩⟩
  ·show false=r_
   rw [hr]
   unfold r01_LongsI
   symm
   rw [beq_eq_false_iff_ne]
   rintro rfl
   simp at hq
  ·have hq:l.getD i.toNat 0=m.getD i.toNat 0:=by simpa using hq
   refine ⟨⟨by omega,by omega,h2,?_,hr⟩,lxo_⟩
   rw [toNat_succ h0,take_snocB (by omega),take_snocB (by omega),h3,hq]
 ·simp only [decide_eq_false_iff_not] at hc
  have hc:¬i<l.length:=hc
  show true=r_
  have e:i.toNat=l.length:=by omega
  rw [e] at h3
  have:=take_eq_all h2 h3
  subst this
  rw [hr];unfold r01_LongsI;simp
theorem r01_LongsI_ok:EOk 23 e_r01_LongsI:=
 ent_wp Dg T_r17_Same_ok (I:=[411000000005,411000000000,411000000001]) Tryz.func23 mix (B:=bodyOf Tryz.f23) (by kernel_rfl) rfl (by kernel_rfl) 400
  λp0 l m hb hp=>have hl0:l.length≤9223372036854775807:=hb.1;have hl1:m.length≤9223372036854775807:=hb.2.1;⟨[r01_LongsI_h0 p0 l m], λj=>iI [appC (Hd.kd (r01_LongsI_h0 p0 l m)) (λi'=>r01_LongsI_I0 l m i' (r01_LongsI l m))] j (λ_=>False), λj=>iI [appC (Hd.kd (r01_LongsI_h0 p0 l m)) (λi'=>((l.length-i').toNat,0,0))] j (λ_=>(0,0,0)),by kernel_rfl,⟨_, λ_ _ _=>by kernel_rfl,r01_LongsI_begin l m hl0 hl1⟩,⟨λi hI=>⟨_, λ_ _ _=>by kernel_rfl,r01_LongsI_step0 l m hl0 hl1 i hI⟩,trivial⟩⟩
def T_r01_LongsI:Tb:=(23,e_r01_LongsI)::T_r17_Same
theorem T_r01_LongsI_ok:TOk T_r01_LongsI:=tc_ r01_LongsI_ok T_r17_Same_ok
def e_lg:Entry Sg:= λargs=>match e_r01_LongsI args with
 |some d=>some d
 |none=>e_r01_Longs args
theorem e_lg_ok:EOk 23 e_lg:=by
 intro args c r h hr
 unfold e_lg at h
 split at h
 ·rename_i d hd
  exact r01_LongsI_ok args c r (by rw [hd];exact h) hr
 ·exact r01_Longs_ok args c r h hr
def e_al:Entry Sg:= λargs=>match args with
 |[v,c,(x,i),k]=>match i with
  | .none=>(match x with
    | .agg ⟨[.slice none 0 0, .slice none 0 0, .slice none 0 0, .slice none 0 0, .slice none 0 0, .slice none 0 0, .slice none 0 0, .slice none 0 0, .slice none 0 0]⟩=>e_small_Alloc [v,c,(.agg ⟨[.slice none 0 0, .slice none 0 0, .slice none 0 0, .slice none 0 0, .slice none 0 0, .slice none 0 0, .slice none 0 0, .slice none 0 0, .slice none 0 0]⟩, .many [.row 0 [.fz []], .row 0 [.fz []], .row 0 [.fz []], .row 0 [.fz []], .row 0 [.fz []], .row 0 [.fz []], .row 0 [.fz []], .row 0 [.fz []], .row 0 [.fz []]]),k]
    |_=>e_small_Alloc args)
  | .many is=>(match is with
    |[.none, .none, .none, .none, .none, .none, .none, .none, .none]=>(match x with
     | .agg ⟨[.slice none 0 0, .slice none 0 0, .slice none 0 0, .slice none 0 0, .slice none 0 0, .slice none 0 0, .slice none 0 0, .slice none 0 0, .slice none 0 0]⟩=>e_small_Alloc [v,c,(.agg ⟨[.slice none 0 0, .slice none 0 0, .slice none 0 0, .slice none 0 0, .slice none 0 0, .slice none 0 0, .slice none 0 0, .slice none 0 0, .slice none 0 0]⟩, .many [.row 0 [.fz []], .row 0 [.fz []], .row 0 [.fz []], .row 0 [.fz []], .row 0 [.fz []], .row 0 [.fz []], .row 0 [.fz []], .row 0 [.fz []], .row 0 [.fz []]]),k]
     |_=>e_small_Alloc args)
    |_=>e_small_Alloc args)
  |_=>e_small_Alloc args
 |_=>e_small_Alloc args
theorem nil_row (G Y:Hp):iOk G Y (.slice none 0 0) (.row 0 [.fz []]:Info Sg):=by
 have h:∀Z:Hp,RowAt Z none 0 [.fz []]:= λZ=>⟨λc hc=>by rw [iY] at hc;subst hc;rfl, λi hi=>by omega,oM _⟩
 exact ⟨none,0,rfl,h G,kF _, λ_=>⟨h Y, λc _ i hi=>by omega⟩⟩
theorem e_al_ok:EOk 9 e_al:=by
 intro args c r h hr
 unfold e_al at h
 repeat' split at h
 all_goals first
  |exact small_Alloc_ok _ c r h hr
  |(have h1:=small_Alloc_ok _ c r h hr
    refine ⟨h1.1, λhp E G w hi hS=>?_⟩
    have h2:=h1.2 hp E G w (λx hx=>?_) (by simpa [objAs,objOf,objsOf,objsV,objsV.go] using hS)
    ·simpa [newAs,objOf,objsOf,objsV,objsV.go] using h2
    ·simp only [iG,kL,or_false] at hx
     rcases hx with rfl|rfl|rfl|rfl
     ·exact hi _ (by simp)
     ·exact hi _ (by simp)
     ·exact ⟨nil_row _ _,nil_row _ _,nil_row _ _,nil_row _ _,nil_row _ _,nil_row _ _,nil_row _ _,nil_row _ _,nil_row _ _,trivial⟩
     ·exact hi _ (by simp))
def T_ad:Tb:=(23,e_lg)::(9,e_al)::T_r01_LongsI
theorem T_ad_ok:TOk T_ad:=tc_ e_lg_ok (tc_ e_al_ok T_r01_LongsI_ok)
end
end Go.Proofs.YtinpgnomkmmfdaaGreat
namespace Go.Sl
section
open Go.RowKit
variable {σ:Type} (D:Addr→σ→Asn)
theorem add_block (a:Addr) (n:Nat):(a.add n).block=a.block:=by unfold Addr.add;split<;>rfl
theorem cellOf_block {h h':Hp} {a:Addr} (e:h' a.block=h a.block):cellOf h' a=cellOf h a:=by unfold cellOf;rw [e]
theorem RowAt.block {h h':Hp} {b n:Nat} {cols:List Col} (H:RowAt h (some ⟨b,0,none⟩) n cols) (e:h' b=h b):RowAt h' (some ⟨b,0,none⟩) n cols:=by
 refine ⟨H.1, λi hi=>?_,H.2.2⟩
 obtain ⟨q,hq,hc⟩:=H.2.1 i hi
 injection hq with hq;subst hq
 exact ⟨_,rfl, λj c hj=>by rw [cellOf_block (h:=h) (h':=h') (by rw [add_block];exact e)];exact hc j c hj⟩
theorem RowAt.cols {h:Hp} {a:Option Addr} {n:Nat} {cols cols':List Col} (H:RowAt h a n cols) (hl:cols'.length=cols.length) (h1:∀c∈cols',c.len=n) (h2:∀(j:Nat) c c',cols[j]? =some c→cols'[j]? =some c'→∀r,r<n→c'.at r=c.at r):RowAt h a n cols':=by
 refine ⟨h1, λi hi=>?_,H.2.2⟩
 obtain ⟨q,hq,hc⟩:=H.2.1 i hi
 refine ⟨q,hq, λj c' hj=>?_⟩
 have hjl:j<cols.length:=by rw [←hl];exact lt_of_get hj
 rw [hl,hc j cols[j] (iN hjl),h2 j _ c' (iN hjl) hj i hi]
def frozenAt (Y:Hp) (K:List (Chunk σ)):Prop:=∀(j:Nat) a n cap cols,K[j]? =some (.ro a n cap cols)→fzB cols=true→RowAt Y a n cols∧n≤cap∧subs Y n cols
theorem SatK.frozen {E:Ev} {G:Hp} {w:World} {K:List (Chunk σ)} {Z:Hp} (h0:Sat0 E.w (G.or Z) w ((K.map (den D G)).map (upZ Z))):∀Y,Z.le Y→frozenAt Y K:= λY hY j a n cap cols hj hf=>by
 obtain ⟨_,_,o,_,h4⟩:=h0
 have h5:=h4 j _ (map_get (map_get hj)) Y hY
 have h6:RowAt (bif fzB cols then Y else G) a n cols∧n≤cap∧subs Y n cols:=h5
 rw [hf,cond_true] at h6
 exact h6
theorem SatK.freezeSl {E:Ev} {G:Hp} {w:World} {K:List (Chunk σ)} (h:SatK D E G w K) {i:Nat} {ra:Option Nat} {t:TypeId} {n cap:Nat} {cols cols':List Col} (hi:K[i]? =some (.row ra t n cap cols)) (hn:0<n) (hf:fzB cols'=true)
 (hl:cols'.length=cols.length) (h1:∀c∈cols',c.len=n) (h2:∀(j:Nat) c c',cols[j]? =some c→cols'[j]? =some c'→∀r,r<n→c'.at r=c.at r) (h3:∀Y,frozenAt Y K→subs Y n cols'):
 ∃b,ra=some b∧SatK D E G w (K.set i (.ro (some ⟨b,0,none⟩) n cap cols')):=by
 cases ra with
 |none=>
  obtain ⟨Z,_,_,_,_,o,_,h4⟩:=h
  have h5:den D G (.row none t n cap cols) Z _:=h4 i _ (map_get (map_get hi)) Z (Hp.le_refl Z)
  have:=h5.2.2.1
  omega
 |some b=>
  refine ⟨b,rfl,?_⟩
  have hK:∀Z,Sat0 E.w (G.or Z) w ((K.map (den D G)).map (upZ Z))→∀Y,Z.le Y→subs Y n cols':= λZ h0 Y hY=>h3 Y (SatK.frozen D h0 Y hY)
  have hs:∃S:Hp→Prop,(∀Y Y',Y.le Y'→S Y→S Y')∧(∀Y,S Y→subs Y n cols')∧∃Z,Zok E G Z∧Z.sub w∧Sat0 E.w (G.or Z) w ((K.map (den D G)).map (upZ Z))∧S Z:=by
   obtain ⟨Z,hz,hw,h0⟩:=h
   exact ⟨λY=>Z.le Y, λY Y' a b=>b.trans a, λY hY=>hK Z h0 Y hY,Z,hz,hw,h0,Hp.le_refl Z⟩
  obtain ⟨S,hS1,hS2,Z,hz,hw,h0,hSZ⟩:=hs
  have hA:Sat ⟨E.w,Z⟩ G w (K.map (den D G)):=⟨Z,⟨Hp.le_refl Z, λc hc=> .inr hc⟩,hw,h0⟩
  have hB:=Sat.freeze hA (i:=i) (b:=b) (A:=den D G (.row (some b) t n cap cols)) (A':= λY' _=>RowAt Y' (some ⟨b,0,none⟩) n cols∧n≤cap) (map_get hi) λY k hk=>by
   have hr:=den_row D hk
   have hc:=den_cap D hk
   obtain ⟨_,_,cs,h4,_⟩:=hk
   exact ⟨_,h4, λY' k' hy=>⟨RowAt.block hr (by rw [hy,h4]),hc⟩⟩
  obtain ⟨Z',hz',hw',h0'⟩:=hB
  refine ⟨Z',⟨hz.low.trans hz'.low, λc hc=>(hz'.new c hc).elim .inl λhq=>hz.new c hq⟩,hw',?_⟩
  refine h0'.imp λj B hj=>?_
  obtain ⟨C,h4,rfl⟩:=get_map hj
  rw [iR] at h4
  by_cases hij:i=j
  ·subst hij
   rw [iX (lt_of_get hi)] at h4
   injection h4 with h4;subst h4
   refine ⟨_,map_get (by rw [iX (by rw [kK];exact lt_of_get hi)]), λk hk Y hY=>?_⟩
   obtain ⟨h5,h6⟩:=hk Y hY
   show RowAt (bif fzB cols' then Y else G) _ n cols'∧n≤cap∧subs Y n cols'
   rw [hf,cond_true]
   exact ⟨h5.cols hl h1 h2,h6,hS2 Y (hS1 Z Y (hz'.low.trans hY) hSZ)⟩
  ·rw [jD hij] at h4
   refine ⟨_,map_get (by rw [jD hij,iR];exact h4), λk hk=>hk⟩
theorem PZ (a:Option Addr) (c:Nat) (x:LI):MJ (slE a c x)= .slice a x.length c:=by unfold MJ;rw [slA_E,slR_E,slC_E]
theorem MM {xs:LI} {T r:Nat} {a:Option Addr} {c:Nat} {x:LI} (h:r<xs.length):(kG (xs.set T (slE a c x))).at r=(qG (([]++xs.map MJ).set T (.slice a x.length c))).at r:=by
 show MJ ((xs.set T (slE a c x)).getD r 0)=(([]++xs.map MJ).set T (.slice a x.length c)).getD r undef
 rw [nL,←PZ a c x,←kW,iD,iD,iR,iN (by rw [mY];exact h)];rfl
theorem MN {Y:Hp} {xs:LI} {T i:Nat} {a:Option Addr} {c:Nat} {x:LI} (h1:(kG xs).sub Y i) (h2:RowAt Y a x.length [.fz x]∧x.length≤c) (hT:T<xs.length):(kG (xs.set T (slE a c x))).sub Y i:=by
 by_cases e:T=i
 ·subst e
  show RowAt Y (slA ((xs.set T (slE a c x)).getD T 0)) (slR ((xs.set T (slE a c x)).getD T 0)).length [.fz (slR ((xs.set T (slE a c x)).getD T 0))]∧(slR ((xs.set T (slE a c x)).getD T 0)).length≤slC ((xs.set T (slE a c x)).getD T 0)
  rw [show (xs.set T (slE a c x)).getD T 0=slE a c x by rw [iD,iX hT];rfl,slA_E,slR_E,slC_E]
  exact h2
 ·have:(xs.set T (slE a c x)).getD i 0=xs.getD i 0:=by rw [iD,jD e,←iD]
  show RowAt Y (slA ((xs.set T (slE a c x)).getD i 0)) (slR ((xs.set T (slE a c x)).getD i 0)).length [.fz (slR ((xs.set T (slE a c x)).getD i 0))]∧(slR ((xs.set T (slE a c x)).getD i 0)).length≤slC ((xs.set T (slE a c x)).getD i 0)
  rw [this];exact h1
end
end Go.Sl
namespace Go.Proofs.YtinpgnomkmmfdaaGreat
section
open Go Go.Sl
def wC (al:LL):List Col:=[.sls (gL al 0), .sls (gL al 1), .sls (gL al 2), .sls (gL al 3), .sls (gL al 4), .sls (gL al 5), .sls (gL al 6), .sls (gL al 7), .sls (gL al 8)]
def wK (av:Option Addr) (n cap:Nat) (al pk:LL) (ax:Ad9):List (Chunk Sg):= .ro av n cap (wC al)::ro9 pk ax
def PN (av:Option Addr) (n cap:Nat) (T k g b:Int) (pk:LL) (ax:Ad9):List Value:=[.agg #[.slice av n cap, .int .i64 T, .int .i64 k, .int .i64 g, .int .i64 b], .agg ((sl9 0 pk ax).map (·.1)).toArray]
def PS:List Pr:=[.many [.pt 0 .slice, .no, .no, .no, .no], .many [.pt 1 .slice, .pt 2 .slice, .pt 3 .slice, .pt 4 .slice, .pt 5 .slice, .pt 6 .slice, .pt 7 .slice, .pt 8 .slice, .pt 9 .slice]]
theorem Py (R':Value→Pr→List (Chunk Sg)→Prop) (S0:List Ab→List (Chunk Sg)→Prop) (av:Option Addr) (n cap:Nat) (T k g b:Int) (al pk:LL) (ax:Ad9):
 (run Tryz.prog [] [2999998] 400 (bodyOf Tryz.f15) Tryz.f15.results.toList Tryz.f15.ntmps [.code []] (argEnts 0 (mP (PN av n cap T k g b pk ax) PS)) (wK av n cap al pk ax)).holds R' (λtd L K=>S0 td K)=
 (∀b0_0:Nat,(∀b1_0:Nat,(∀b2_0:Nat,(aw_ ((0+n)*216≤140737488355328) (∀(b4_0:Option Nat) (b4_1:Nat),(aw_ ((0:Int)≤T∧T<(↑(0+n):Int)) (R' (iH (jE (λb=>⟨b,0,none⟩) b4_0) (0+n) b4_1) (jW 13 jF) (([jV av n cap [kG (gL al 0),kG (gL al 1),kG (gL al 2),kG (gL al 3),kG (gL al 4),kG (gL al 5),kG (gL al 6),kG (gL al 7),kG (gL al 8)]]++ro9 pk ax++[jA b0_0 27 [(iH av n cap,jW 0 jF),(jT iB T,kI),(jT iB k,kI),(jT iB g,kI),(jT iB b,kI)],jA b1_0 40 (sl9 1 pk ax),Chunk.dead,nI b4_0 40 (0+n) b4_1 [qG (mO ([]++oV MJ (gL al 0)) (iL T) (iH (jZ (ax 0)) (iF (gL pk 0)) (lD (ax 0)))),qG (mO ([]++oV MJ (gL al 1)) (iL T) (iH (jZ (ax 1)) (iF (gL pk 1)) (lD (ax 1)))),qG (mO ([]++oV MJ (gL al 2)) (iL T) (iH (jZ (ax 2)) (iF (gL pk 2)) (lD (ax 2)))),qG (mO ([]++oV MJ (gL al 3)) (iL T) (iH (jZ (ax 3)) (iF (gL pk 3)) (lD (ax 3)))),qG (mO ([]++oV MJ (gL al 4)) (iL T) (iH (jZ (ax 4)) (iF (gL pk 4)) (lD (ax 4)))),qG (mO ([]++oV MJ (gL al 5)) (iL T) (iH (jZ (ax 5)) (iF (gL pk 5)) (lD (ax 5)))),qG (mO ([]++oV MJ (gL al 6)) (iL T) (iH (jZ (ax 6)) (iF (gL pk 6)) (lD (ax 6)))),qG (mO ([]++oV MJ (gL al 7)) (iL T) (iH (jZ (ax 7)) (iF (gL pk 7)) (lD (ax 7)))),qG (mO ([]++oV MJ (gL al 8)) (iL T) (iH (jZ (ax 8)) (iF (gL pk 8)) (lD (ax 8))))]]))))))))):=by
 kernel_rfl
def wS (al pk:LL) (ax:Ad9) (T:Int):List Col:=[.sls ((gL al 0).set T.toNat (slE (ax 0).1 (ax 0).2 (gL pk 0))), .sls ((gL al 1).set T.toNat (slE (ax 1).1 (ax 1).2 (gL pk 1))), .sls ((gL al 2).set T.toNat (slE (ax 2).1 (ax 2).2 (gL pk 2))), .sls ((gL al 3).set T.toNat (slE (ax 3).1 (ax 3).2 (gL pk 3))), .sls ((gL al 4).set T.toNat (slE (ax 4).1 (ax 4).2 (gL pk 4))), .sls ((gL al 5).set T.toNat (slE (ax 5).1 (ax 5).2 (gL pk 5))), .sls ((gL al 6).set T.toNat (slE (ax 6).1 (ax 6).2 (gL pk 6))), .sls ((gL al 7).set T.toNat (slE (ax 7).1 (ax 7).2 (gL pk 7))), .sls ((gL al 8).set T.toNat (slE (ax 8).1 (ax 8).2 (gL pk 8)))]
def PO (al pk:LL) (ax:Ad9) (T:Int):List (Mk Sg):=[.row 40 (wS al pk ax T)]
def PT (vs:List Value):Value:=vs.headD undef
def wP (E:Ev) (G:Hp) (al pk:LL) (ax:Ad9) (T:Int):Ending→World→Prop:=Post Dg E G PT [] (PO al pk ax T)
def PG (av:Option Addr) (n cap:Nat) (T:Int) (al pk:LL) (ax:Ad9) (v:Value) (K:List (Chunk Sg)):Prop:=
 ∃(ra:Option Nat) (c':Nat),v=sliceVal ra n c'∧K[13]? =some (.row ra 40 n c' [.vals (([]++(gL al 0).map MJ).set T.toNat (.slice (ax 0).1 (gL pk 0).length (ax 0).2)), .vals (([]++(gL al 1).map MJ).set T.toNat (.slice (ax 1).1 (gL pk 1).length (ax 1).2)), .vals (([]++(gL al 2).map MJ).set T.toNat (.slice (ax 2).1 (gL pk 2).length (ax 2).2)), .vals (([]++(gL al 3).map MJ).set T.toNat (.slice (ax 3).1 (gL pk 3).length (ax 3).2)), .vals (([]++(gL al 4).map MJ).set T.toNat (.slice (ax 4).1 (gL pk 4).length (ax 4).2)), .vals (([]++(gL al 5).map MJ).set T.toNat (.slice (ax 5).1 (gL pk 5).length (ax 5).2)), .vals (([]++(gL al 6).map MJ).set T.toNat (.slice (ax 6).1 (gL pk 6).length (ax 6).2)), .vals (([]++(gL al 7).map MJ).set T.toNat (.slice (ax 7).1 (gL pk 7).length (ax 7).2)), .vals (([]++(gL al 8).map MJ).set T.toNat (.slice (ax 8).1 (gL pk 8).length (ax 8).2))])∧(wK av n cap al pk ax).map some=(jQ 10).map (λj=>K[j]?)
section
variable {E:Ev} {G:Hp} {w:World} {av:Option Addr} {n cap:Nat} {T k g b:Int} {al pk:LL} {ax:Ad9}
theorem Pz {v:Value} {K:List (Chunk Sg)} (hr:PG av n cap T al pk ax v K) (hT:0≤T∧T<(n:Int)) (hS:SatK Dg E G w K):wP E G al pk ax T (.returned v) w:=by
 obtain ⟨ra,c',rfl,hK,hp⟩:=hr
 have hk:∀(j:Nat) (c:Chunk Sg),(wK av n cap al pk ax)[j]? =some c→K[j]? =some c:= λj c hj=>by
  have e:=congrArg (λl:List (Option (Chunk Sg))=>l[j]?) hp
  simp only [iR,hj,iT] at e
  have hl:j<10:=lt_of_get hj
  rw [oR hl] at e
  simpa using e.symm
 have hlen:∀c∈wC al,c.len=n:=by
  obtain ⟨_,p,_,⟨g1,_⟩,_⟩:=hS.get Dg (hk 0 _ rfl)
  exact g1.1
 have hl:∀i,i<9→(gL al i).length=n:= λi hi=>by
  have:i=0∨i=1∨i=2∨i=3∨i=4∨i=5∨i=6∨i=7∨i=8:=by omega
  rcases this with rfl|rfl|rfl|rfl|rfl|rfl|rfl|rfl|rfl
  ·exact hlen (.sls (gL al 0)) (by simp [wC])
  ·exact hlen (.sls (gL al 1)) (by simp [wC])
  ·exact hlen (.sls (gL al 2)) (by simp [wC])
  ·exact hlen (.sls (gL al 3)) (by simp [wC])
  ·exact hlen (.sls (gL al 4)) (by simp [wC])
  ·exact hlen (.sls (gL al 5)) (by simp [wC])
  ·exact hlen (.sls (gL al 6)) (by simp [wC])
  ·exact hlen (.sls (gL al 7)) (by simp [wC])
  ·exact hlen (.sls (gL al 8)) (by simp [wC])
 have hTn:T.toNat<n:=by omega
 obtain ⟨bb,rfl,hS2⟩:=SatK.freezeSl Dg hS (cols':=wS al pk ax T) hK (by omega) rfl rfl
  (λc hc=>by
    simp only [wS,iG,kL,or_false] at hc
    rcases hc with rfl|rfl|rfl|rfl|rfl|rfl|rfl|rfl|rfl<;>(show (mO _ _ _).length=n;rw [mY];exact hl _ (by decide)))
  (λj c c2 h1 h2 r hr=>by
    match j,h1,h2 with
    |0,h1,h2=>simp only [wS,kD,jJ,iC] at h1 h2;subst h1;subst h2;exact MM (by rw [hl 0 (by decide)];exact hr)
    |1,h1,h2=>simp only [wS,kD,jJ,iC] at h1 h2;subst h1;subst h2;exact MM (by rw [hl 1 (by decide)];exact hr)
    |2,h1,h2=>simp only [wS,kD,jJ,iC] at h1 h2;subst h1;subst h2;exact MM (by rw [hl 2 (by decide)];exact hr)
    |3,h1,h2=>simp only [wS,kD,jJ,iC] at h1 h2;subst h1;subst h2;exact MM (by rw [hl 3 (by decide)];exact hr)
    |4,h1,h2=>simp only [wS,kD,jJ,iC] at h1 h2;subst h1;subst h2;exact MM (by rw [hl 4 (by decide)];exact hr)
    |5,h1,h2=>simp only [wS,kD,jJ,iC] at h1 h2;subst h1;subst h2;exact MM (by rw [hl 5 (by decide)];exact hr)
    |6,h1,h2=>simp only [wS,kD,jJ,iC] at h1 h2;subst h1;subst h2;exact MM (by rw [hl 6 (by decide)];exact hr)
    |7,h1,h2=>simp only [wS,kD,jJ,iC] at h1 h2;subst h1;subst h2;exact MM (by rw [hl 7 (by decide)];exact hr)
    |8,h1,h2=>simp only [wS,kD,jJ,iC] at h1 h2;subst h1;subst h2;exact MM (by rw [hl 8 (by decide)];exact hr)
    |_+9,h1,_=>simp at h1)
  (λY hf c hc i hi=>by
    have f0:=(hf 0 av n cap (wC al) (hk 0 _ rfl) rfl).2.2
    have f1:=hf 1 _ _ _ _ (hk 1 _ rfl) rfl
    have f2:=hf 2 _ _ _ _ (hk 2 _ rfl) rfl
    have f3:=hf 3 _ _ _ _ (hk 3 _ rfl) rfl
    have f4:=hf 4 _ _ _ _ (hk 4 _ rfl) rfl
    have f5:=hf 5 _ _ _ _ (hk 5 _ rfl) rfl
    have f6:=hf 6 _ _ _ _ (hk 6 _ rfl) rfl
    have f7:=hf 7 _ _ _ _ (hk 7 _ rfl) rfl
    have f8:=hf 8 _ _ _ _ (hk 8 _ rfl) rfl
    have f9:=hf 9 _ _ _ _ (hk 9 _ rfl) rfl
    simp only [wS,iG,kL,or_false] at hc
    rcases hc with rfl|rfl|rfl|rfl|rfl|rfl|rfl|rfl|rfl
    ·exact MN (f0 _ (by simp [wC]) i hi) ⟨f1.1,f1.2.1⟩ (by rw [hl 0 (by decide)];exact hTn)
    ·exact MN (f0 _ (by simp [wC]) i hi) ⟨f2.1,f2.2.1⟩ (by rw [hl 1 (by decide)];exact hTn)
    ·exact MN (f0 _ (by simp [wC]) i hi) ⟨f3.1,f3.2.1⟩ (by rw [hl 2 (by decide)];exact hTn)
    ·exact MN (f0 _ (by simp [wC]) i hi) ⟨f4.1,f4.2.1⟩ (by rw [hl 3 (by decide)];exact hTn)
    ·exact MN (f0 _ (by simp [wC]) i hi) ⟨f5.1,f5.2.1⟩ (by rw [hl 4 (by decide)];exact hTn)
    ·exact MN (f0 _ (by simp [wC]) i hi) ⟨f6.1,f6.2.1⟩ (by rw [hl 5 (by decide)];exact hTn)
    ·exact MN (f0 _ (by simp [wC]) i hi) ⟨f7.1,f7.2.1⟩ (by rw [hl 6 (by decide)];exact hTn)
    ·exact MN (f0 _ (by simp [wC]) i hi) ⟨f8.1,f8.2.1⟩ (by rw [hl 7 (by decide)];exact hTn)
    ·exact MN (f0 _ (by simp [wC]) i hi) ⟨f9.1,f9.2.1⟩ (by rw [hl 8 (by decide)];exact hTn))
 refine ⟨[(some (encA ⟨bb,0,none⟩),c')],⟨trivial,trivial⟩,?_,?_⟩
 ·show Ending.returned (.slice (some ⟨bb,0,none⟩) n c')= .returned (.slice ((some (encA ⟨bb,0,none⟩)).map decA) (mO _ _ _).length c')
  rw [iT,decA_enc,mY,hl 0 (by decide)]
 ·have h5:SatK Dg E G w [.ro (some ⟨bb,0,none⟩) n c' (wS al pk ax T)]:=hS2.ord Dg [13] rfl (by
   simp only [iK,mA]
   rw [iX (lt_of_get hK)];rfl)
  have e:jI sliceC (PO al pk ax T) [(some (encA ⟨bb,0,none⟩),c')]=[.ro (some ⟨bb,0,none⟩) n c' (wS al pk ax T)]:=by
   show [jV ((some (encA ⟨bb,0,none⟩)).map decA) (mO _ _ _).length c' (wS al pk ax T)]=_
   rw [iT,decA_enc,mY,hl 0 (by decide)]
  rw [e];exact h5
set_option maxRecDepth 100000 in
theorem Pv (hn:n≤1000) (hT:0≤T∧T<(n:Int)) (hr:rosOk G E.z (wK av n cap al pk ax)) (hS:Sat E G w []):Calls Tryz.prog 15 (PN av n cap T k g b pk ax).toArray w (wP E G al pk ax T):=by
 have hS0:SatK Dg E G w ([]:List (Chunk Sg)):=hS
 have:=calls_runM Dg (mk:=[]) (TableOk.nil Dg Tryz.prog) (f:=15) Tryz.func15 mix (B:=bodyOf Tryz.f15) (by kernel_rfl) rfl (mP (PN av n cap T k g b pk ax) PS) (by rfl) (K:=[]++wK av n cap al pk ax) (R:=wP E G al pk ax T)
  (λx hx=>by
    simp only [PN,PS,pD,List.zip_nil_right,iG,kL,or_false] at hx
    rcases hx with rfl|rfl<;>simp [pOk,psOk,wK,ro9,cOk,sl9,hC])
  (KOk_of (by rfl)) (hS0.ros Dg hr) (R':= λv _ K=>PG av n cap T al pk ax v K) (λv p K w' h h2=>Pz h hT h2) 400 rfl
  (holdsE (Py (λv _ K=>PG av n cap T al pk ax v K) (λ_ _=>False) av n cap T k g b al pk ax) (λ_ _ _ h=>h.elim) (λb0 b1 b2=>⟨by omega, λ_ b4 c4=>⟨by omega, λ_=>⟨b4,c4,by rw [lV];rfl,by rw [lV];rfl,rfl⟩⟩⟩))
 exact this
end
abbrev OI:=Option Addr×Nat×LI
def OJ:List Value→List (Info Sg)→Option (List OI)
 |[],[]=>some []
 | .slice a _ c::vs, .row _ [.fz x]::is=>match OJ vs is with
   |some r=>some ((a,c,x)::r)
   |none=>none
 |_,_=>none
def Oz:List Col→Option LL
 |[]=>some []
 | .sls a::cs=>match Oz cs with
   |some r=>some (a::r)
   |none=>none
 |_=>none
theorem OL:∀{cs:List Col} {al:LL},Oz cs=some al→cs=al.map .sls
 |[],al,h=>by injection h with h;subst h;rfl
 |c::cs,al,h=>by
  cases c with
  |sls a=>
   unfold Oz at h
   cases hr:Oz cs with
   |none=>rw [hr] at h;cases h
   |some r=>rw [hr] at h;injection h with h;subst h;rw [OL hr];rfl
  |_=>cases h
def LY (p:OI):Value:= .slice p.1 p.2.2.length p.2.1
def Qd (p:OI):Chunk Sg:= .ro p.1 p.2.2.length p.2.1 [.fz p.2.2]
theorem Pj {G Y:Hp}:∀{vs:List Value} {is:List (Info Sg)} {ps:List OI},OJ vs is=some ps→isOk G Y vs is→vs=ps.map LY∧∀c∈ps.map Qd,Chunk.roOk G Y c
 |[],[],ps,h,_=>by injection h with h;subst h;exact ⟨rfl, λc hc=>by cases hc⟩
 |[],_::_,_,h,_=>by cases h
 |v::vs,[],_,h,_=>by
  unfold OJ at h
  split at h<;>simp_all
 |v::vs,i::is,ps,h,hi=>by
  unfold OJ at h
  split at h
  ·simp_all
  ·rename_i h1 h2
   obtain ⟨e1,e2⟩:=qH h1
   obtain ⟨e3,e4⟩:=qH h2
   subst e1 e2 e3 e4
   split at h
   ·rename_i r hr
    injection h with h;subst h
    obtain ⟨⟨ua,va,ea,ra,da,za⟩,hi2⟩:=hi
    obtain ⟨g1,g2⟩:=Pj hr hi2
    cases ea
    have l:=ra.1 _ (.head _)
    change iF _=_ at l
    subst l
    refine ⟨by rw [iK,←g1];rfl, λc hc=>?_⟩
    rw [iK,iG] at hc
    rcases hc with rfl|hc
    ·exact ⟨(za rfl).1,da,(za rfl).2⟩
    ·exact g2 c hc
   ·cases h
  ·cases h
def pL (ps:List OI):LL:=ps.map (·.2.2)
def pA (ps:List OI):Ad9:= λi=>((ps.getD i (none,0,[])).1,(ps.getD i (none,0,[])).2.1)
def Pm (T:Int):LL→List OI→List Col
 |a::al,p::ps=> .sls (a.set T.toNat (slE p.1 p.2.1 p.2.2))::Pm T al ps
 |_,_=>[]
def OM:Entry Sg:= λargs=>match args with
 |[(.agg xa, .many (.row _ cols::_)),(.agg pa, .many is)]=>match xa.toList with
  |[.slice _ n _, .int .i64 T, .int .i64 _, .int .i64 _, .int .i64 _]=>match Oz cols,OJ pa.toList is with
   |some al,some ps=>bif iM al.length 9&&iM ps.length 9 then some ⟨(), λ_=>⟨[n≤1000,0≤T∧T<(n:Int)],none,[.row 40 (Pm T al ps)],PT, λk=> .pt k .slice⟩⟩ else none
   |_,_=>none
  |_=>none
 |_=>none
theorem nine {α:Type}:∀{l:List α},l.length=9→∃a b c d e f g h i,l=[a,b,c,d,e,f,g,h,i]
 |[a,b,c,d,e,f,g,h,i],_=>⟨a,b,c,d,e,f,g,h,i,rfl⟩
theorem OO {G Z:Hp}:∀{l:List (Chunk Sg)},(∀c∈l,Chunk.roOk G Z c)→rosOk G Z l
 |[],_=>trivial
 |c::l,h=>⟨h c (by simp),OO λd hd=>h d (by simp [hd])⟩
theorem Px:∀(vs:List Value) (is:List (Info Sg)),(∀v∈vs,∀p,v≠ .pointer (some p))→objsV.go vs is=[]
 |[],[],_=>rfl
 |[],_::_,_=>rfl
 |v::vs,[],_=>by unfold objsV.go;split<;>simp_all
 |v::vs,i::is,h=>by
  have ih:=Px vs is λx hx=>h x (by simp [hx])
  have hv:=h v (by simp)
  unfold objsV.go
  split
  ·rename_i e1 e2
   obtain ⟨rfl,rfl⟩:=qH e1
   exact absurd rfl (hv _)
  ·rename_i e1 e2
   obtain ⟨rfl,rfl⟩:=qH e1
   obtain ⟨rfl,rfl⟩:=qH e2
   exact ih
  ·rfl
theorem P9:EOk 15 OM:=by
 intro args c r h hr
 unfold OM at h
 split at h
 rotate_left
 ·cases h
 rename_i xa n0 cols ir pa is
 split at h
 rotate_left
 ·cases h
 rename_i sa n sc T k g b hxa
 split at h
 rotate_left
 ·cases h
 rename_i al ps hal hps
 cases hb:(iM al.length 9&&iM ps.length 9) with
 |false=>rw [hb] at h;cases h
 |true=>
  rw [hb,cond_true] at h
  injection h with h;subst h;subst hr
  rw [iE] at hb
  obtain ⟨a0,a1,a2,a3,a4,a5,a6,a7,a8,rfl⟩:=nine (iJ hb.1)
  obtain ⟨P0,P1,P2,P3,P4,P5,P6,P7,P8,rfl⟩:=nine (iJ hb.2)
  refine ⟨λK acs ha=>?_, λhp E G w hi hS=>?_⟩
  ·match acs,ha with
   |[ac],_=>
    exact pOk_pt.2 ⟨.ro (ac.1.map decA) (lenC (Pm T [a0,a1,a2,a3,a4,a5,a6,a7,a8] [P0,P1,P2,P3,P4,P5,P6,P7,P8])) ac.2 (Pm T [a0,a1,a2,a3,a4,a5,a6,a7,a8] [P0,P1,P2,P3,P4,P5,P6,P7,P8]),(by rw [iQ (kF _),pZ];rfl),(show iH (ac.1.map decA) (lenC (Pm T [a0,a1,a2,a3,a4,a5,a6,a7,a8] [P0,P1,P2,P3,P4,P5,P6,P7,P8])) ac.2=iH (ac.1.map decA) (lenC (Pm T [a0,a1,a2,a3,a4,a5,a6,a7,a8] [P0,P1,P2,P3,P4,P5,P6,P7,P8])) ac.2 from rfl)⟩
  ·have q1:=hp _ (.head _)
   have q2:=hp _ (.tail _ (.head _))
   have i1:isOk G E.z xa.toList _:=hi _ (.head _)
   have i2:isOk G E.z pa.toList is:=hi _ (.tail _ (.head _))
   have hpa:=Pj hps i2
   have hcol:=OL hal
   subst hcol
   rw [hxa] at i1
   obtain ⟨⟨ua,va,ea,ra,da,za⟩, -⟩:=i1
   cases ea
   have exa:xa=⟨[.slice sa n0 sc, .int .i64 T, .int .i64 k, .int .i64 g, .int .i64 b]⟩:=by rw [←hxa]
   have epa:pa=⟨[LY P0,LY P1,LY P2,LY P3,LY P4,LY P5,LY P6,LY P7,LY P8]⟩:=by
    have:=hpa.1
    cases pa;exact congrArg Array.mk this
   subst exa
   subst epa
   have n1:∀v∈[iH sa n0 sc, .int .i64 T, .int .i64 k, .int .i64 g, .int .i64 b],∀q,v≠ .pointer (some q):= λv hv q e=>by
    subst e
    simp at hv
   have n2:∀v∈[LY P0,LY P1,LY P2,LY P3,LY P4,LY P5,LY P6,LY P7,LY P8],∀q,v≠ .pointer (some q):= λv hv q e=>by
    subst e
    simp [LY] at hv
   have ho:objsOf [(Value.agg ⟨[.slice sa n0 sc, .int .i64 T, .int .i64 k, .int .i64 g, .int .i64 b]⟩,Info.many (Info.row n0 (oV kG [a0,a1,a2,a3,a4,a5,a6,a7,a8])::ir)),(Value.agg ⟨[LY P0,LY P1,LY P2,LY P3,LY P4,LY P5,LY P6,LY P7,LY P8]⟩,Info.many is)]=([]:List (Addr×Sg)):=by
    show objsV.go _ _++(objsV.go _ _++[])=[]
    rw [Px _ _ n1,Px _ _ n2];rfl
   unfold newAs objAs objOf at*
   rw [ho] at hS ⊢
   refine Pv (al:=[a0,a1,a2,a3,a4,a5,a6,a7,a8]) (pk:=pL [P0,P1,P2,P3,P4,P5,P6,P7,P8]) (ax:=pA [P0,P1,P2,P3,P4,P5,P6,P7,P8]) (T:=T) (k:=k) (g:=g) (b:=b) (av:=sa) (n:=n0) (cap:=sc) q1 q2 ?_ hS
   exact ⟨⟨(za rfl).1,da,(za rfl).2⟩,OO hpa.2⟩
def PU:Tb:=(15,OM)::T_ad
theorem Pn:TOk PU:=tc_ P9 T_ad_ok
end
section
open Go.Sl
def slO (n:Nat) (a:LI):Prop:=∀i,i<n→∀y∈slR (a.getD i 0),i64R y
def l18_fit (t p h:Int) (xs a0 a1 a2 a3 a4 a5 a6 a7 a8:LI) (T k g b:Int):Bool:=(((r12_Few t p h&&decide ((a0.length:Int)≤16))&&decide (T≥0))&&decide (T<(a0.length:Int)))&&r17_Fits t p h xs a0 a1 a2 a3 a4 a5 a6 a7 a8
abbrev c_l18_fit:Ct Sg:=⟨none,false,[.agg [.i .i64, .i .i64, .i .i64], .ro [some .u32], .agg [.ro [some .i16,some .i16,some .i16,some .i16,some .i16,some .i16,some .i16,some .i16,some .i16], .i .i64, .i .i64, .i .i64, .i .i64]], .b⟩
def e_l18_fit:Entry Sg:=entC c_l18_fit l18_fit (λt p h xs a0 a1 a2 a3 a4 a5 a6 a7 a8 T k g b=>[bdAll xs])
abbrev Nb (a0 a1 a2 a3 a4 a5 a6 a7 a8:LI):=(lenC [kG a0,kG a1,kG a2,kG a3,kG a4,kG a5,kG a6,kG a7,kG a8])
def l18_fit_w (t p h:Int) (xs a0 a1 a2 a3 a4 a5 a6 a7 a8:LI) (T k g b:Int) (R_:Bool→Prop):Prop:=(∀r2:Bool,r2=(r12_Few t p h)→(aw_ ((r2&&decide ((↑(Nb a0 a1 a2 a3 a4 a5 a6 a7 a8):Int)≤16)&&decide (T≥0)&&decide (T<(↑(Nb a0 a1 a2 a3 a4 a5 a6 a7 a8):Int)))=true→bdAll xs) (aw_ ((r2&&decide ((↑(Nb a0 a1 a2 a3 a4 a5 a6 a7 a8):Int)≤16)&&decide (T≥0)&&decide (T<(↑(Nb a0 a1 a2 a3 a4 a5 a6 a7 a8):Int)))=true→iF a0≤1000) (R_ (r2&&decide ((↑(Nb a0 a1 a2 a3 a4 a5 a6 a7 a8):Int)≤16)&&decide (T≥0)&&decide (T<(↑(Nb a0 a1 a2 a3 a4 a5 a6 a7 a8):Int))&&r17_Fits t p h xs a0 a1 a2 a3 a4 a5 a6 a7 a8)))))
theorem l18_fit_begin (t p h:Int) (xs a0 a1 a2 a3 a4 a5 a6 a7 a8:LI) (T k g b:Int) (hp0:bdAll xs) (hl0:xs.length≤9223372036854775807) (hl1:a0.length≤9223372036854775807):l18_fit_w t p h xs a0 a1 a2 a3 a4 a5 a6 a7 a8 T k g b (λr__=>r__=(l18_fit t p h xs a0 a1 a2 a3 a4 a5 a6 a7 a8 T k g b)):=by
 unfold l18_fit_w Nb
 rintro r2 rfl
 refine ⟨λ_=>hp0, λ_=>⟨λhc=>?_, λ_=>rfl⟩⟩
 simp only [iE,decide_eq_true_eq] at hc
 have:(a0.length:Int)≤16:=hc.1.1.2
 omega
theorem l18_fit_ok:EOk 5 e_l18_fit:=
 ent_w0 Dg Pn (I:=[2999998]) Tryz.func5 mix (B:=bodyOf Tryz.f5) (by kernel_rfl) rfl (by kernel_rfl) 400
  λ_ t p h xs a0 a1 a2 a3 a4 a5 a6 a7 a8 T k g b hb hp=>⟨_, λ_ _ _=>by kernel_rfl,l18_fit_begin t p h xs a0 a1 a2 a3 a4 a5 a6 a7 a8 T k g b (hp _ (.head _)) (hb.2.1) (hb.2.2.1.1)⟩
def T_l18_fit:Tb:=(5,e_l18_fit)::PU
theorem T_l18_fit_ok:TOk T_l18_fit:=tc_ l18_fit_ok Pn
theorem fit_all {t p h:Int} {xs a0 a1 a2 a3 a4 a5 a6 a7 a8:LI} {T k g b:Int} (hf:l18_fit t p h xs a0 a1 a2 a3 a4 a5 a6 a7 a8 T k g b=true) (hs:slO a0.length a0∧slO a0.length a1∧slO a0.length a2∧slO a0.length a3∧slO a0.length a4∧slO a0.length a5∧slO a0.length a6∧slO a0.length a7∧slO a0.length a8):
 (soundA ⟨t,p,h⟩ xs=true∧p≤64)∧(0≤T∧T<a0.length)∧pkB (slR (a0.getD T.toNat 0)) (slR (a1.getD T.toNat 0)) (slR (a2.getD T.toNat 0)) (slR (a3.getD T.toNat 0)) (slR (a4.getD T.toNat 0)) (slR (a5.getD T.toNat 0)) (slR (a6.getD T.toNat 0)) (slR (a7.getD T.toNat 0)) (slR (a8.getD T.toNat 0))∧a0.length≤16∧fitOut h (partsL ⟨t,p,h⟩ xs) (λk=>pkGet k a0 a1 a2 a3 a4 a5 a6 a7 a8) a0.length 9 0=true:=by
 unfold l18_fit at hf
 simp only [iE,decide_eq_true_eq,r12_Few] at hf
 obtain ⟨⟨⟨⟨h1,h2⟩,h3⟩,h4⟩,h5⟩:=hf
 unfold r17_Fits at h5
 cases hc:(!soundA ⟨t,p,h⟩ xs||(a0.length:Int) !=t) with
 |true=>rw [hc] at h5;cases h5
 |false=>
  rw [hc,cond_false] at h5
  simp only [jH,jY] at hc
  have hl:=partsL_len ⟨t,p,h⟩ xs
  dsimp only at hl
  have hlen:=(fitOut_true (by omega) (by omega) 9 0 (by omega) (by decide) (by decide) h5).2
  have hT:T.toNat<a0.length:=by omega
  refine ⟨⟨hc.1,h1⟩,⟨by omega,h4⟩,?_,by omega,h5⟩
  refine ⟨⟨mE (lenB_all (hlen 8 (by omega)).1 T.toNat hT) (by decide),hs.1 T.toNat hT⟩,⟨mE (lenB_all (hlen 7 (by omega)).1 T.toNat hT) (by decide),hs.2.1 T.toNat hT⟩,⟨mE (lenB_all (hlen 6 (by omega)).1 T.toNat hT) (by decide),hs.2.2.1 T.toNat hT⟩,⟨mE (lenB_all (hlen 5 (by omega)).1 T.toNat hT) (by decide),hs.2.2.2.1 T.toNat hT⟩,⟨mE (lenB_all (hlen 4 (by omega)).1 T.toNat hT) (by decide),hs.2.2.2.2.1 T.toNat hT⟩,⟨mE (lenB_all (hlen 3 (by omega)).1 T.toNat hT) (by decide),hs.2.2.2.2.2.1 T.toNat hT⟩,⟨mE (lenB_all (hlen 2 (by omega)).1 T.toNat hT) (by decide),hs.2.2.2.2.2.2.1 T.toNat hT⟩,⟨mE (lenB_all (hlen 1 (by omega)).1 T.toNat hT) (by decide),hs.2.2.2.2.2.2.2.1 T.toNat hT⟩,⟨mE (lenB_all (hlen 0 (by omega)).1 T.toNat hT) (by decide),hs.2.2.2.2.2.2.2.2 T.toNat hT⟩⟩
def l18_live:Bool:=true
abbrev c_l18_live:Ct Sg:=⟨none,false,[], .b⟩
def e_l18_live:Entry Sg:=entC c_l18_live l18_live ([])
def l18_live_w (R_:Bool→Prop):Prop:=(∀r0:Int×Int×Int×LI,r0=(l14_Eight)→(∀r3:VS,r3=(VS.whole r0.2.2.2)→(aw_ (iF r0.2.2.2≤1000000) (aw_ (bdL r0.2.2.2) (∀r7:VS×Int×LI×LI×LI×LI×LI×LI×LI×LI×LI×Bool,r7=(small_Alloc r3 r0.1 r0.2.1 r0.2.2.1 [] [] [] [] [] [] [] [] [] 0)→(aw_ (r0.2.1≤1024) (aw_ (pkB [] [] [] [] [] [] [] [] []) (∀r20:VS×Int×LI×LI×LI×LI×LI×LI×LI×LI×LI×Bool,r20=(small_Alloc r7.1 r0.1 r0.2.1 r0.2.2.1 r7.2.2.1 r7.2.2.2.1 r7.2.2.2.2.1 r7.2.2.2.2.2.1 r7.2.2.2.2.2.2.1 r7.2.2.2.2.2.2.2.1 r7.2.2.2.2.2.2.2.2.1 r7.2.2.2.2.2.2.2.2.2.1 r7.2.2.2.2.2.2.2.2.2.2.1 0)→(aw_ (r0.2.1≤1024) (aw_ (pkB r7.2.2.1 r7.2.2.2.1 r7.2.2.2.2.1 r7.2.2.2.2.2.1 r7.2.2.2.2.2.2.1 r7.2.2.2.2.2.2.2.1 r7.2.2.2.2.2.2.2.2.1 r7.2.2.2.2.2.2.2.2.2.1 r7.2.2.2.2.2.2.2.2.2.2.1) (bw_ (r7.2.2.2.2.2.2.2.2.2.2.2&&r7.2.1==1024) (R_ (r01_LongsI r7.2.2.1 [1120,1088,1056]&&r20.2.2.2.2.2.2.2.2.2.2.2&&r20.2.1==1056)) (R_ (false)))))))))))))
theorem l18_live_begin:l18_live_w (λr__=>r__=l18_live):=by
 unfold l18_live_w
 have h1:l14_Eight.2.2.2.length≤1000000:=by decide+kernel
 have h2:∀v∈l14_Eight.2.2.2,bd32 v:=by unfold bd32;decide+kernel
 have h3:l14_Eight.2.1≤1024:=by decide+kernel
 rintro r0 rfl r3 rfl
 refine ⟨h1, λ_=>⟨h2, λ_=>?_⟩⟩
 rintro r7 rfl
 refine ⟨h3, λ_=>⟨⟨lB_nil,lB_nil,lB_nil,lB_nil,lB_nil,lB_nil,lB_nil,lB_nil,lB_nil⟩, λ_=>?_⟩⟩
 rintro r20 rfl
 refine ⟨h3, λ_=>⟨by unfold pkB lB;decide+kernel, λ_=>⟨λhd=>?_, λhd=>?_⟩⟩⟩
 ·show _=l18_live
  unfold l18_live
  decide+kernel
 ·exfalso;revert hd;decide+kernel
theorem l18_live_ok:EOk 6 e_l18_live:=
 ent_w0 Dg T_l18_fit_ok (I:=[2999998]) Tryz.func6 mix (B:=bodyOf Tryz.f6) (by kernel_rfl) rfl (by kernel_rfl) 400
  λ_ hb hp=>⟨_, λ_ _ _=>by kernel_rfl,l18_live_begin⟩
def T_l18_live:Tb:=(6,e_l18_live)::T_l18_fit
theorem T_l18_live_ok:TOk T_l18_live:=tc_ l18_live_ok T_l18_fit_ok
end
end Go.Proofs.YtinpgnomkmmfdaaGreat
namespace Go.Sl
section
theorem VS.there_of {s:VS} {i:Int} (h:s.there i=true):0≤i∧i<s.n∧s.miss<0:=by
 simp only [VS.there,iE,decide_eq_true_eq] at h
 exact ⟨h.1.1,h.1.2,h.2⟩
theorem VS.there_stuck {s:VS} {i:Int} (h:0≤s.miss):s.there i=false:=by
 simp only [VS.there,mD,decide_eq_false_iff_not]
 exact .inr (by omega)
theorem Pg.run_stuck {α:Type} (p:Pg α):∀s:VS,0≤s.miss→(p.run s).1=s:=by
 induction p with
 |ret a=>intro s _;rfl
 |get i k ih=>
  intro s h
  have e:s.read i=s:=by simp only [VS.read,VS.there_stuck h,cond_false]
  rw [Pg.run_get,e];exact ih _ s h
 |put i x k ih=>
  intro s h
  have e:s.set i x=s:=by simp only [VS.set,VS.there_stuck h,cond_false]
  rw [Pg.run_put,e];exact ih s h
structure Full (s:VS):Prop where
 miss:s.miss= -1
 src:∀i:Int,0≤i→i<s.n→(s.src i).isSome=true
 rn:s.reads.Nodup
 ri:∀i∈s.reads,0≤i∧i<s.n
theorem VS.read_cases (s:VS) (i:Int):s.read i=s∨(s.there i=true∧s.put i=none∧s.src i=none∧s.read i={s with miss:=i})∨(s.there i=true∧s.put i=none∧(s.src i).isSome=true∧s.reads.contains i=false∧s.read i={s with reads:=s.reads++[i]}):=by
 unfold VS.read
 cases ht:s.there i with
 |false=>exact .inl rfl
 |true=>
  simp only [cond_true]
  cases hp:s.put i with
  |some v=>exact .inl rfl
  |none=>
   cases hs:s.src i with
   |none=>exact .inr (.inl ⟨by trivial,by trivial,by trivial,rfl⟩)
   |some v=>
    simp only
    cases hc:s.reads.contains i with
    |true=>exact .inl rfl
    |false=>exact .inr (.inr ⟨by trivial,by trivial,rfl,by trivial,rfl⟩)
theorem nodup_snoc' {xs:LI} {i:Int} (h:xs.Nodup) (hi:xs.contains i=false):(xs++[i]).Nodup:=by
 rw [qC]
 refine ⟨h,by simp, λa ha b hb=>?_⟩
 simp only [iY] at hb
 subst hb
 intro e
 subst e
 have:xs.contains a=true:=by simpa using ha
 rw [hi] at this;cases this
theorem Full.read {s:VS} (h:Full s) (i:Int):Full (s.read i):=by
 rcases s.read_cases i with e|⟨ht,_,hs,_⟩|⟨ht,_,_,hc,e⟩
 ·rw [e];exact h
 ·obtain ⟨h0,h1,_⟩:=VS.there_of ht
  have:=h.src i h0 h1
  rw [hs] at this;cases this
 ·rw [e]
  obtain ⟨h0,h1,_⟩:=VS.there_of ht
  refine {miss:=h.miss,src:=h.src,rn:=nodup_snoc' h.rn hc,ri:= λj hj=>?_}
  have hj':j∈s.reads++[i]:=hj
  simp only [kC,iY] at hj'
  rcases hj' with hj'|rfl
  ·exact h.ri j hj'
  ·exact ⟨h0,h1⟩
theorem VS.set_same (s:VS) (i x:Int):(s.set i x).n=s.n∧(s.set i x).src=s.src∧(s.set i x).reads=s.reads∧(s.set i x).miss=s.miss∧(s.set i x).all=s.all:=by
 unfold VS.set
 cases s.there i<;>exact ⟨rfl,rfl,rfl,rfl,rfl⟩
theorem VS.read_same (s:VS) (i:Int):(s.read i).n=s.n∧(s.read i).src=s.src∧(s.read i).put=s.put∧(s.read i).wrote=s.wrote∧(s.read i).all=s.all:=by
 rcases s.read_cases i with e|⟨_,_,_,e⟩|⟨_,_,_,_,e⟩<;>rw [e]<;>exact ⟨rfl,rfl,rfl,rfl,rfl⟩
theorem Full.set {s:VS} (h:Full s) (i x:Int):Full (s.set i x):=by
 obtain ⟨e1,e2,e3,e4,_⟩:=s.set_same i x
 exact {miss:=by rw [e4];exact h.miss,src:=by rw [e1,e2];exact h.src,rn:=by rw [e3];exact h.rn,ri:=by rw [e1,e3];exact h.ri}
theorem Full.run {α:Type} (p:Pg α):∀{s:VS},Full s→Full (p.run s).1:=by
 induction p with
 |ret a=>intro s h;exact h
 |get i k ih=>intro s h;exact ih _ (h.read i)
 |put i x k ih=>intro s h;exact ih (h.set i x)
theorem Pg.run_reads {α:Type} (p:Pg α):∀s:VS,∃r,(p.run s).1.reads=s.reads++r:=by
 induction p with
 |ret a=>intro s;exact ⟨[],by simp [Pg.run]⟩
 |get i k ih=>
  intro s
  obtain ⟨r,hr⟩:=ih (s.get i) (s.read i)
  rw [Pg.run_get,hr]
  rcases s.read_cases i with e|⟨_,_,_,e⟩|⟨_,_,_,_,e⟩<;>rw [e]
  ·exact ⟨r,rfl⟩
  ·exact ⟨r,rfl⟩
  ·exact ⟨i::r,by simp⟩
 |put i x k ih=>
  intro s
  obtain ⟨r,hr⟩:=ih (s.set i x)
  rw [Pg.run_put,hr,(s.set_same i x).2.2.1]
  exact ⟨r,rfl⟩
theorem VS.whole_full (xs:LI):Full (VS.whole xs) where
 miss:=rfl
 src:= λi h0 h1=>by
  have e1:decide (0≤i)=true:=by simpa using h0
  have e2:decide (i<(xs.length:Int))=true:=by simpa [VS.whole] using h1
  simp only [VS.whole,e1,e2,nG,cond_true,Option.isSome_some]
 rn:=List.nodup_nil
 ri:= λi h=>by cases h
structure Sim (kn:Int→Bool) (s k:VS):Prop where
 full:Full s
 n:k.n=s.n
 put:k.put=s.put
 reads:k.reads=s.reads
 wrote:k.wrote=s.wrote
 miss:k.miss= -1
 src:∀i:Int,0≤i→i<s.n→k.src i=bif kn i then s.src i else none
 rk:∀i∈s.reads,kn i=true
theorem Sim.there {kn:Int→Bool} {s k:VS} (h:Sim kn s k) (i:Int):k.there i=s.there i:=by
 simp only [VS.there,h.n,h.miss,h.full.miss]
theorem Sim.set {kn:Int→Bool} {s k:VS} (h:Sim kn s k) (i x:Int):Sim kn (s.set i x) (k.set i x):=by
 obtain ⟨e1,e2,e3,e4,_⟩:=s.set_same i x
 obtain ⟨f1,f2,f3,f4,_⟩:=k.set_same i x
 exact {full:=h.full.set i x
        n:=by rw [e1,f1];exact h.n
        put:=by unfold VS.set;rw [h.there i,h.put];cases s.there i<;>simp [h.put]
        reads:=by rw [e3,f3];exact h.reads
        wrote:=by unfold VS.set;rw [h.there i,h.put,h.wrote];cases s.there i<;>simp [h.wrote]
        miss:=by rw [f4];exact h.miss
        src:=by rw [e1,e2,f2];exact h.src
        rk:=by rw [e3];exact h.rk}
def Ends {α:Type} (kn:Int→Bool) (s:VS×α) (k:VS×α):Prop:=
 (Sim kn s.1 k.1∧s.2=k.2)∨∃pre i rest,s.1.reads=pre++i::rest∧(∀j∈pre,kn j=true)∧kn i=false∧k.1.miss=i∧k.1.reads=pre
theorem Sim.run {α:Type} (kn:Int→Bool) (p:Pg α):∀{s k:VS},Sim kn s k→Ends kn (p.run s) (p.run k):=by
 induction p with
 |ret a=>intro s k h;exact .inl ⟨h,rfl⟩
 |put i x q ih=>intro s k h;exact ih (h.set i x)
 |get i q ih=>
  intro s k h
  rw [Pg.run_get,Pg.run_get]
  have step:Sim kn (s.read i) (k.read i)→s.get i=k.get i→Ends kn ((q (s.get i)).run (s.read i)) ((q (k.get i)).run (k.read i)):= λh1 h2=>by
   rw [h2];exact ih _ h1
  cases ht:s.there i with
  |false=>
   have hk:k.there i=false:=by rw [h.there];exact ht
   refine step ?_ ?_
   ·simp only [VS.read,ht,hk,cond_false];exact h
   ·simp only [VS.get,ht,hk,cond_false]
  |true=>
   have hk:k.there i=true:=by rw [h.there];exact ht
   obtain ⟨h0,h1,_⟩:=VS.there_of ht
   cases hp:s.put i with
   |some v=>
    have hpk:k.put i=some v:=by rw [h.put];exact hp
    refine step ?_ ?_
    ·simp only [VS.read,ht,hk,cond_true,hp,hpk];exact h
    ·simp only [VS.get,ht,hk,cond_true,hp,hpk]
   |none=>
    have hpk:k.put i=none:=by rw [h.put];exact hp
    have hsome:=h.full.src i h0 h1
    have hsk:=h.src i h0 h1
    cases hs:s.src i with
    |none=>rw [hs] at hsome;cases hsome
    |some v=>
     cases hkn:kn i with
     |true=>
      have hks:k.src i=some v:=by rw [hsk,hkn,hs];rfl
      refine step ?_ ?_
      ·simp only [VS.read,ht,hk,cond_true,hp,hpk,hs,hks,h.reads]
       cases hc:s.reads.contains i with
       |true=>exact h
       |false=>
        exact {full:=by have:=h.full.read i;simpa only [VS.read,ht,cond_true,hp,hs,hc,cond_false] using this
               n:=h.n,put:=h.put,reads:=rfl,wrote:=h.wrote,miss:=h.miss,src:=h.src
               rk:= λj hj=>by
                simp only [cond_false,kC,iY] at hj
                rcases hj with hj|rfl
                ·exact h.rk j hj
                ·exact hkn}
      ·simp only [VS.get,ht,hk,cond_true,hp,hpk,hs,hks]
     |false=>
      have hks:k.src i=none:=by rw [hsk,hkn];rfl
      have hni:s.reads.contains i=false:=by
       cases hc:s.reads.contains i with
       |false=>rfl
       |true=>
        have:=h.rk i (by simpa using hc)
        rw [hkn] at this;cases this
      have er:k.read i={k with miss:=i}:=by simp only [VS.read,hk,cond_true,hpk,hks]
      have es:s.read i={s with reads:=s.reads++[i]}:=by simp only [VS.read,ht,cond_true,hp,hs,hni,cond_false]
      right
      obtain ⟨r,hr⟩:=Pg.run_reads (q (s.get i)) (s.read i)
      have hst:=Pg.run_stuck (q (k.get i)) (k.read i) (by rw [er];exact h0)
      refine ⟨s.reads,i,r,?_,h.rk,hkn,?_,?_⟩
      ·rw [hr,es];simp
      ·rw [hst,er]
      ·rw [hst,er];exact h.reads
end
section
structure Mm where
 info:Int→Int
 foot:Int→Int
 next:Int→Int
 prev:Int→Int
 slots:Int→Int
 taken:Int→Int
 bin:Int→Int
 rack:Int→Int
 root:Int→Int
 dn:Int→Int→Int
 fr:Int
 lv:Int
def fset (f:Int→Int) (i x:Int):Int→Int:= λj=>if j=i then x else f j
theorem fset_same (f:Int→Int) (i x:Int):fset f i x i=x:=by simp [fset]
theorem fset_ne {f:Int→Int} {i x j:Int} (h:j≠i):fset f i x j=f j:=by simp [fset,h]
theorem pc_val {c:Cf} (hc:c.ok=true) {g:Int} (hg:0≤g∧g<c.p) (k:Int):c.pc g k=30+4*c.t+6*g+k:=by
 unfold Cf.pc Cf.page
 have:(decide (0≤g)&&decide (g<c.p))=true:=by simp [hg.1,hg.2]
 rw [hc,this];rfl
theorem cells_val {c:Cf} (hc:c.ok=true):c.cells=30+4*c.t+6*c.p:=by unfold Cf.cells;rw [hc];rfl
theorem cBin_val {k:Int} (hk:0≤k∧k<11):cBin k=2+k:=by
 unfold cBin
 have:(decide (0≤k)&&decide (k<11))=true:=by simp [hk.1,hk.2]
 rw [this];rfl
theorem cRack_val {k:Int} (hk:0≤k∧k<9):cRack k=13+k:=by
 unfold cRack
 have:(decide (0≤k)&&decide (k<9))=true:=by simp [hk.1,hk.2]
 rw [this];rfl
structure At (c:Cf) (s:VS) (m:Mm):Prop where
 ok:c.ok=true
 full:Full s
 n:s.n=c.cells
 info:∀g,0≤g∧g<c.p→s.cur (30+4*c.t+6*g+0)=m.info g
 foot:∀g,0≤g∧g<c.p→s.cur (30+4*c.t+6*g+1)=m.foot g
 next:∀g,0≤g∧g<c.p→s.cur (30+4*c.t+6*g+2)=m.next g
 prev:∀g,0≤g∧g<c.p→s.cur (30+4*c.t+6*g+3)=m.prev g
 slots:∀g,0≤g∧g<c.p→s.cur (30+4*c.t+6*g+4)=m.slots g
 taken:∀g,0≤g∧g<c.p→s.cur (30+4*c.t+6*g+5)=m.taken g
 bin:∀k,0≤k∧k<11→s.cur (2+k)=m.bin k
 rack:∀k,0≤k∧k<9→s.cur (13+k)=m.rack k
 root:∀k,0≤k∧k<8→s.cur (22+k)=m.root k
 dn:∀t f,0≤t∧t<c.t→0≤f∧f<4→s.cur (30+4*t+f)=m.dn t f
 fr:s.cur 0=m.fr
 lv:s.cur 1=m.lv
theorem cur_read (s:VS) (i j:Int):(s.read i).cur j=s.cur j:=by
 obtain ⟨_,e1,e2,_,_⟩:=s.read_same i
 unfold VS.cur
 rw [e1,e2]
theorem cur_set {s:VS} {i:Int} (h:s.there i=true) (x j:Int):(s.set i x).cur j=if j=i then nv x else s.cur j:=by
 unfold VS.set
 rw [h,cond_true]
 unfold VS.cur
 by_cases e:j=i
 ·subst e;simp [mupd]
 ·have e':(j==i)=false:=by simpa using e
  simp [mupd,e,e']
theorem get_cur {s:VS} {i:Int} (h:s.there i=true):s.get i=s.cur i:=by
 unfold VS.get VS.cur
 rw [h,cond_true]
section
variable {c:Cf} {s:VS} {m:Mm}
theorem At.there (h:At c s m) {i:Int} (h0:0≤i) (h1:i<c.cells):s.there i=true:=by
 have:=h.full.miss
 have:=h.n
 simp only [VS.there,iE,decide_eq_true_eq]
 omega
theorem At.read (h:At c s m) (i:Int):At c (s.read i) m:=by
 have e:=cur_read s i
 exact {ok:=h.ok,full:=h.full.read i,n:=(s.read_same i).1.trans h.n,info:= λg hg=>(e _).trans (h.info g hg),foot:= λg hg=>(e _).trans (h.foot g hg),next:= λg hg=>(e _).trans (h.next g hg),prev:= λg hg=>(e _).trans (h.prev g hg),slots:= λg hg=>(e _).trans (h.slots g hg),taken:= λg hg=>(e _).trans (h.taken g hg),bin:= λk hk=>(e _).trans (h.bin k hk),rack:= λk hk=>(e _).trans (h.rack k hk),root:= λk hk=>(e _).trans (h.root k hk),dn:= λt f ht hf=>(e _).trans (h.dn t f ht hf),fr:=(e _).trans h.fr,lv:=(e _).trans h.lv}
theorem At.set_info (h:At c s m) {g:Int} (hg:0≤g∧g<c.p) (x:Int):At c (s.set (c.info g) x) {m with info:=fset m.info g (nv x)}:=by
 have ha:c.info g=30+4*c.t+6*g+0:=pc_val h.ok hg 0
 have h1:=Cf.ok_iff.1 h.ok
 have h2:=cells_val h.ok
 have ht:s.there (c.info g)=true:=h.there (by omega) (by omega)
 refine ⟨h.ok,h.full.set _ _,(s.set_same _ _).1.trans h.n,?_,?_,?_,?_,?_,?_,?_,?_,?_,?_,?_,?_⟩
 ·intro g' hg';rw [cur_set ht];by_cases e:g'=g
  ·subst e;rw [if_pos (by omega)];exact (fset_same _ _ _).symm
  ·rw [if_neg (by omega),h.info g' hg'];exact (fset_ne e).symm
 ·intro g' hg';rw [cur_set ht,if_neg (by omega)];exact h.foot g' hg'
 ·intro g' hg';rw [cur_set ht,if_neg (by omega)];exact h.next g' hg'
 ·intro g' hg';rw [cur_set ht,if_neg (by omega)];exact h.prev g' hg'
 ·intro g' hg';rw [cur_set ht,if_neg (by omega)];exact h.slots g' hg'
 ·intro g' hg';rw [cur_set ht,if_neg (by omega)];exact h.taken g' hg'
 ·intro g' hg';rw [cur_set ht,if_neg (by omega)];exact h.bin g' hg'
 ·intro g' hg';rw [cur_set ht,if_neg (by omega)];exact h.rack g' hg'
 ·intro g' hg';rw [cur_set ht,if_neg (by omega)];exact h.root g' hg'
 ·intro t' f' ht' hf';rw [cur_set ht,if_neg (by omega)];exact h.dn t' f' ht' hf'
 ·rw [cur_set ht,if_neg (by omega)];exact h.fr
 ·rw [cur_set ht,if_neg (by omega)];exact h.lv
theorem At.get_info (h:At c s m) {g:Int} (hg:0≤g∧g<c.p):s.get (c.info g)=m.info g:=by
 have ha:c.info g=30+4*c.t+6*g+0:=pc_val h.ok hg 0
 have h1:=Cf.ok_iff.1 h.ok
 have h2:=cells_val h.ok
 have ht:s.there (c.info g)=true:=h.there (by omega) (by omega)
 rw [get_cur ht,ha];exact h.info g hg
theorem At.set_foot (h:At c s m) {g:Int} (hg:0≤g∧g<c.p) (x:Int):At c (s.set (c.foot g) x) {m with foot:=fset m.foot g (nv x)}:=by
 have ha:c.foot g=30+4*c.t+6*g+1:=pc_val h.ok hg 1
 have h1:=Cf.ok_iff.1 h.ok
 have h2:=cells_val h.ok
 have ht:s.there (c.foot g)=true:=h.there (by omega) (by omega)
 refine ⟨h.ok,h.full.set _ _,(s.set_same _ _).1.trans h.n,?_,?_,?_,?_,?_,?_,?_,?_,?_,?_,?_,?_⟩
 ·intro g' hg';rw [cur_set ht,if_neg (by omega)];exact h.info g' hg'
 ·intro g' hg';rw [cur_set ht];by_cases e:g'=g
  ·subst e;rw [if_pos (by omega)];exact (fset_same _ _ _).symm
  ·rw [if_neg (by omega),h.foot g' hg'];exact (fset_ne e).symm
 ·intro g' hg';rw [cur_set ht,if_neg (by omega)];exact h.next g' hg'
 ·intro g' hg';rw [cur_set ht,if_neg (by omega)];exact h.prev g' hg'
 ·intro g' hg';rw [cur_set ht,if_neg (by omega)];exact h.slots g' hg'
 ·intro g' hg';rw [cur_set ht,if_neg (by omega)];exact h.taken g' hg'
 ·intro g' hg';rw [cur_set ht,if_neg (by omega)];exact h.bin g' hg'
 ·intro g' hg';rw [cur_set ht,if_neg (by omega)];exact h.rack g' hg'
 ·intro g' hg';rw [cur_set ht,if_neg (by omega)];exact h.root g' hg'
 ·intro t' f' ht' hf';rw [cur_set ht,if_neg (by omega)];exact h.dn t' f' ht' hf'
 ·rw [cur_set ht,if_neg (by omega)];exact h.fr
 ·rw [cur_set ht,if_neg (by omega)];exact h.lv
theorem At.get_foot (h:At c s m) {g:Int} (hg:0≤g∧g<c.p):s.get (c.foot g)=m.foot g:=by
 have ha:c.foot g=30+4*c.t+6*g+1:=pc_val h.ok hg 1
 have h1:=Cf.ok_iff.1 h.ok
 have h2:=cells_val h.ok
 have ht:s.there (c.foot g)=true:=h.there (by omega) (by omega)
 rw [get_cur ht,ha];exact h.foot g hg
theorem At.set_next (h:At c s m) {g:Int} (hg:0≤g∧g<c.p) (x:Int):At c (s.set (c.next g) x) {m with next:=fset m.next g (nv x)}:=by
 have ha:c.next g=30+4*c.t+6*g+2:=pc_val h.ok hg 2
 have h1:=Cf.ok_iff.1 h.ok
 have h2:=cells_val h.ok
 have ht:s.there (c.next g)=true:=h.there (by omega) (by omega)
 refine ⟨h.ok,h.full.set _ _,(s.set_same _ _).1.trans h.n,?_,?_,?_,?_,?_,?_,?_,?_,?_,?_,?_,?_⟩
 ·intro g' hg';rw [cur_set ht,if_neg (by omega)];exact h.info g' hg'
 ·intro g' hg';rw [cur_set ht,if_neg (by omega)];exact h.foot g' hg'
 ·intro g' hg';rw [cur_set ht];by_cases e:g'=g
  ·subst e;rw [if_pos (by omega)];exact (fset_same _ _ _).symm
  ·rw [if_neg (by omega),h.next g' hg'];exact (fset_ne e).symm
 ·intro g' hg';rw [cur_set ht,if_neg (by omega)];exact h.prev g' hg'
 ·intro g' hg';rw [cur_set ht,if_neg (by omega)];exact h.slots g' hg'
 ·intro g' hg';rw [cur_set ht,if_neg (by omega)];exact h.taken g' hg'
 ·intro g' hg';rw [cur_set ht,if_neg (by omega)];exact h.bin g' hg'
 ·intro g' hg';rw [cur_set ht,if_neg (by omega)];exact h.rack g' hg'
 ·intro g' hg';rw [cur_set ht,if_neg (by omega)];exact h.root g' hg'
 ·intro t' f' ht' hf';rw [cur_set ht,if_neg (by omega)];exact h.dn t' f' ht' hf'
 ·rw [cur_set ht,if_neg (by omega)];exact h.fr
 ·rw [cur_set ht,if_neg (by omega)];exact h.lv
theorem At.get_next (h:At c s m) {g:Int} (hg:0≤g∧g<c.p):s.get (c.next g)=m.next g:=by
 have ha:c.next g=30+4*c.t+6*g+2:=pc_val h.ok hg 2
 have h1:=Cf.ok_iff.1 h.ok
 have h2:=cells_val h.ok
 have ht:s.there (c.next g)=true:=h.there (by omega) (by omega)
 rw [get_cur ht,ha];exact h.next g hg
theorem At.set_prev (h:At c s m) {g:Int} (hg:0≤g∧g<c.p) (x:Int):At c (s.set (c.prev g) x) {m with prev:=fset m.prev g (nv x)}:=by
 have ha:c.prev g=30+4*c.t+6*g+3:=pc_val h.ok hg 3
 have h1:=Cf.ok_iff.1 h.ok
 have h2:=cells_val h.ok
 have ht:s.there (c.prev g)=true:=h.there (by omega) (by omega)
 refine ⟨h.ok,h.full.set _ _,(s.set_same _ _).1.trans h.n,?_,?_,?_,?_,?_,?_,?_,?_,?_,?_,?_,?_⟩
 ·intro g' hg';rw [cur_set ht,if_neg (by omega)];exact h.info g' hg'
 ·intro g' hg';rw [cur_set ht,if_neg (by omega)];exact h.foot g' hg'
 ·intro g' hg';rw [cur_set ht,if_neg (by omega)];exact h.next g' hg'
 ·intro g' hg';rw [cur_set ht];by_cases e:g'=g
  ·subst e;rw [if_pos (by omega)];exact (fset_same _ _ _).symm
  ·rw [if_neg (by omega),h.prev g' hg'];exact (fset_ne e).symm
 ·intro g' hg';rw [cur_set ht,if_neg (by omega)];exact h.slots g' hg'
 ·intro g' hg';rw [cur_set ht,if_neg (by omega)];exact h.taken g' hg'
 ·intro g' hg';rw [cur_set ht,if_neg (by omega)];exact h.bin g' hg'
 ·intro g' hg';rw [cur_set ht,if_neg (by omega)];exact h.rack g' hg'
 ·intro g' hg';rw [cur_set ht,if_neg (by omega)];exact h.root g' hg'
 ·intro t' f' ht' hf';rw [cur_set ht,if_neg (by omega)];exact h.dn t' f' ht' hf'
 ·rw [cur_set ht,if_neg (by omega)];exact h.fr
 ·rw [cur_set ht,if_neg (by omega)];exact h.lv
theorem At.get_prev (h:At c s m) {g:Int} (hg:0≤g∧g<c.p):s.get (c.prev g)=m.prev g:=by
 have ha:c.prev g=30+4*c.t+6*g+3:=pc_val h.ok hg 3
 have h1:=Cf.ok_iff.1 h.ok
 have h2:=cells_val h.ok
 have ht:s.there (c.prev g)=true:=h.there (by omega) (by omega)
 rw [get_cur ht,ha];exact h.prev g hg
theorem At.set_slots (h:At c s m) {g:Int} (hg:0≤g∧g<c.p) (x:Int):At c (s.set (c.slots g) x) {m with slots:=fset m.slots g (nv x)}:=by
 have ha:c.slots g=30+4*c.t+6*g+4:=pc_val h.ok hg 4
 have h1:=Cf.ok_iff.1 h.ok
 have h2:=cells_val h.ok
 have ht:s.there (c.slots g)=true:=h.there (by omega) (by omega)
 refine ⟨h.ok,h.full.set _ _,(s.set_same _ _).1.trans h.n,?_,?_,?_,?_,?_,?_,?_,?_,?_,?_,?_,?_⟩
 ·intro g' hg';rw [cur_set ht,if_neg (by omega)];exact h.info g' hg'
 ·intro g' hg';rw [cur_set ht,if_neg (by omega)];exact h.foot g' hg'
 ·intro g' hg';rw [cur_set ht,if_neg (by omega)];exact h.next g' hg'
 ·intro g' hg';rw [cur_set ht,if_neg (by omega)];exact h.prev g' hg'
 ·intro g' hg';rw [cur_set ht];by_cases e:g'=g
  ·subst e;rw [if_pos (by omega)];exact (fset_same _ _ _).symm
  ·rw [if_neg (by omega),h.slots g' hg'];exact (fset_ne e).symm
 ·intro g' hg';rw [cur_set ht,if_neg (by omega)];exact h.taken g' hg'
 ·intro g' hg';rw [cur_set ht,if_neg (by omega)];exact h.bin g' hg'
 ·intro g' hg';rw [cur_set ht,if_neg (by omega)];exact h.rack g' hg'
 ·intro g' hg';rw [cur_set ht,if_neg (by omega)];exact h.root g' hg'
 ·intro t' f' ht' hf';rw [cur_set ht,if_neg (by omega)];exact h.dn t' f' ht' hf'
 ·rw [cur_set ht,if_neg (by omega)];exact h.fr
 ·rw [cur_set ht,if_neg (by omega)];exact h.lv
theorem At.get_slots (h:At c s m) {g:Int} (hg:0≤g∧g<c.p):s.get (c.slots g)=m.slots g:=by
 have ha:c.slots g=30+4*c.t+6*g+4:=pc_val h.ok hg 4
 have h1:=Cf.ok_iff.1 h.ok
 have h2:=cells_val h.ok
 have ht:s.there (c.slots g)=true:=h.there (by omega) (by omega)
 rw [get_cur ht,ha];exact h.slots g hg
theorem At.set_taken (h:At c s m) {g:Int} (hg:0≤g∧g<c.p) (x:Int):At c (s.set (c.taken g) x) {m with taken:=fset m.taken g (nv x)}:=by
 have ha:c.taken g=30+4*c.t+6*g+5:=pc_val h.ok hg 5
 have h1:=Cf.ok_iff.1 h.ok
 have h2:=cells_val h.ok
 have ht:s.there (c.taken g)=true:=h.there (by omega) (by omega)
 refine ⟨h.ok,h.full.set _ _,(s.set_same _ _).1.trans h.n,?_,?_,?_,?_,?_,?_,?_,?_,?_,?_,?_,?_⟩
 ·intro g' hg';rw [cur_set ht,if_neg (by omega)];exact h.info g' hg'
 ·intro g' hg';rw [cur_set ht,if_neg (by omega)];exact h.foot g' hg'
 ·intro g' hg';rw [cur_set ht,if_neg (by omega)];exact h.next g' hg'
 ·intro g' hg';rw [cur_set ht,if_neg (by omega)];exact h.prev g' hg'
 ·intro g' hg';rw [cur_set ht,if_neg (by omega)];exact h.slots g' hg'
 ·intro g' hg';rw [cur_set ht];by_cases e:g'=g
  ·subst e;rw [if_pos (by omega)];exact (fset_same _ _ _).symm
  ·rw [if_neg (by omega),h.taken g' hg'];exact (fset_ne e).symm
 ·intro g' hg';rw [cur_set ht,if_neg (by omega)];exact h.bin g' hg'
 ·intro g' hg';rw [cur_set ht,if_neg (by omega)];exact h.rack g' hg'
 ·intro g' hg';rw [cur_set ht,if_neg (by omega)];exact h.root g' hg'
 ·intro t' f' ht' hf';rw [cur_set ht,if_neg (by omega)];exact h.dn t' f' ht' hf'
 ·rw [cur_set ht,if_neg (by omega)];exact h.fr
 ·rw [cur_set ht,if_neg (by omega)];exact h.lv
theorem At.get_taken (h:At c s m) {g:Int} (hg:0≤g∧g<c.p):s.get (c.taken g)=m.taken g:=by
 have ha:c.taken g=30+4*c.t+6*g+5:=pc_val h.ok hg 5
 have h1:=Cf.ok_iff.1 h.ok
 have h2:=cells_val h.ok
 have ht:s.there (c.taken g)=true:=h.there (by omega) (by omega)
 rw [get_cur ht,ha];exact h.taken g hg
theorem At.set_bin (h:At c s m) {k:Int} (hg:0≤k∧k<11) (x:Int):At c (s.set (cBin k) x) {m with bin:=fset m.bin k (nv x)}:=by
 have ha:cBin k=2+k:=cBin_val hg
 have h1:=Cf.ok_iff.1 h.ok
 have h2:=cells_val h.ok
 have ht:s.there (cBin k)=true:=h.there (by omega) (by omega)
 refine ⟨h.ok,h.full.set _ _,(s.set_same _ _).1.trans h.n,?_,?_,?_,?_,?_,?_,?_,?_,?_,?_,?_,?_⟩
 ·intro g' hg';rw [cur_set ht,if_neg (by omega)];exact h.info g' hg'
 ·intro g' hg';rw [cur_set ht,if_neg (by omega)];exact h.foot g' hg'
 ·intro g' hg';rw [cur_set ht,if_neg (by omega)];exact h.next g' hg'
 ·intro g' hg';rw [cur_set ht,if_neg (by omega)];exact h.prev g' hg'
 ·intro g' hg';rw [cur_set ht,if_neg (by omega)];exact h.slots g' hg'
 ·intro g' hg';rw [cur_set ht,if_neg (by omega)];exact h.taken g' hg'
 ·intro g' hg';rw [cur_set ht];by_cases e:g'=k
  ·subst e;rw [if_pos (by omega)];exact (fset_same _ _ _).symm
  ·rw [if_neg (by omega),h.bin g' hg'];exact (fset_ne e).symm
 ·intro g' hg';rw [cur_set ht,if_neg (by omega)];exact h.rack g' hg'
 ·intro g' hg';rw [cur_set ht,if_neg (by omega)];exact h.root g' hg'
 ·intro t' f' ht' hf';rw [cur_set ht,if_neg (by omega)];exact h.dn t' f' ht' hf'
 ·rw [cur_set ht,if_neg (by omega)];exact h.fr
 ·rw [cur_set ht,if_neg (by omega)];exact h.lv
theorem At.get_bin (h:At c s m) {k:Int} (hg:0≤k∧k<11):s.get (cBin k)=m.bin k:=by
 have ha:cBin k=2+k:=cBin_val hg
 have h1:=Cf.ok_iff.1 h.ok
 have h2:=cells_val h.ok
 have ht:s.there (cBin k)=true:=h.there (by omega) (by omega)
 rw [get_cur ht,ha];exact h.bin k hg
theorem At.set_rack (h:At c s m) {k:Int} (hg:0≤k∧k<9) (x:Int):At c (s.set (cRack k) x) {m with rack:=fset m.rack k (nv x)}:=by
 have ha:cRack k=13+k:=cRack_val hg
 have h1:=Cf.ok_iff.1 h.ok
 have h2:=cells_val h.ok
 have ht:s.there (cRack k)=true:=h.there (by omega) (by omega)
 refine ⟨h.ok,h.full.set _ _,(s.set_same _ _).1.trans h.n,?_,?_,?_,?_,?_,?_,?_,?_,?_,?_,?_,?_⟩
 ·intro g' hg';rw [cur_set ht,if_neg (by omega)];exact h.info g' hg'
 ·intro g' hg';rw [cur_set ht,if_neg (by omega)];exact h.foot g' hg'
 ·intro g' hg';rw [cur_set ht,if_neg (by omega)];exact h.next g' hg'
 ·intro g' hg';rw [cur_set ht,if_neg (by omega)];exact h.prev g' hg'
 ·intro g' hg';rw [cur_set ht,if_neg (by omega)];exact h.slots g' hg'
 ·intro g' hg';rw [cur_set ht,if_neg (by omega)];exact h.taken g' hg'
 ·intro g' hg';rw [cur_set ht,if_neg (by omega)];exact h.bin g' hg'
 ·intro g' hg';rw [cur_set ht];by_cases e:g'=k
  ·subst e;rw [if_pos (by omega)];exact (fset_same _ _ _).symm
  ·rw [if_neg (by omega),h.rack g' hg'];exact (fset_ne e).symm
 ·intro g' hg';rw [cur_set ht,if_neg (by omega)];exact h.root g' hg'
 ·intro t' f' ht' hf';rw [cur_set ht,if_neg (by omega)];exact h.dn t' f' ht' hf'
 ·rw [cur_set ht,if_neg (by omega)];exact h.fr
 ·rw [cur_set ht,if_neg (by omega)];exact h.lv
theorem At.get_rack (h:At c s m) {k:Int} (hg:0≤k∧k<9):s.get (cRack k)=m.rack k:=by
 have ha:cRack k=13+k:=cRack_val hg
 have h1:=Cf.ok_iff.1 h.ok
 have h2:=cells_val h.ok
 have ht:s.there (cRack k)=true:=h.there (by omega) (by omega)
 rw [get_cur ht,ha];exact h.rack k hg
theorem At.set_fr (h:At c s m) (x:Int):At c (s.set (0) x) {m with fr:=nv x}:=by
 have ha:(0:Int)=0:=rfl
 have h1:=Cf.ok_iff.1 h.ok
 have h2:=cells_val h.ok
 have ht:s.there (0)=true:=h.there (by omega) (by omega)
 refine ⟨h.ok,h.full.set _ _,(s.set_same _ _).1.trans h.n,?_,?_,?_,?_,?_,?_,?_,?_,?_,?_,?_,?_⟩
 ·intro g' hg';rw [cur_set ht,if_neg (by omega)];exact h.info g' hg'
 ·intro g' hg';rw [cur_set ht,if_neg (by omega)];exact h.foot g' hg'
 ·intro g' hg';rw [cur_set ht,if_neg (by omega)];exact h.next g' hg'
 ·intro g' hg';rw [cur_set ht,if_neg (by omega)];exact h.prev g' hg'
 ·intro g' hg';rw [cur_set ht,if_neg (by omega)];exact h.slots g' hg'
 ·intro g' hg';rw [cur_set ht,if_neg (by omega)];exact h.taken g' hg'
 ·intro g' hg';rw [cur_set ht,if_neg (by omega)];exact h.bin g' hg'
 ·intro g' hg';rw [cur_set ht,if_neg (by omega)];exact h.rack g' hg'
 ·intro g' hg';rw [cur_set ht,if_neg (by omega)];exact h.root g' hg'
 ·intro t' f' ht' hf';rw [cur_set ht,if_neg (by omega)];exact h.dn t' f' ht' hf'
 ·rw [cur_set ht,if_pos rfl]
 ·rw [cur_set ht,if_neg (by omega)];exact h.lv
theorem At.get_fr (h:At c s m):s.get (0)=m.fr:=by
 have ha:(0:Int)=0:=rfl
 have h1:=Cf.ok_iff.1 h.ok
 have h2:=cells_val h.ok
 have ht:s.there (0)=true:=h.there (by omega) (by omega)
 rw [get_cur ht];exact h.fr
theorem At.set_lv (h:At c s m) (x:Int):At c (s.set (1) x) {m with lv:=nv x}:=by
 have ha:(1:Int)=1:=rfl
 have h1:=Cf.ok_iff.1 h.ok
 have h2:=cells_val h.ok
 have ht:s.there (1)=true:=h.there (by omega) (by omega)
 refine ⟨h.ok,h.full.set _ _,(s.set_same _ _).1.trans h.n,?_,?_,?_,?_,?_,?_,?_,?_,?_,?_,?_,?_⟩
 ·intro g' hg';rw [cur_set ht,if_neg (by omega)];exact h.info g' hg'
 ·intro g' hg';rw [cur_set ht,if_neg (by omega)];exact h.foot g' hg'
 ·intro g' hg';rw [cur_set ht,if_neg (by omega)];exact h.next g' hg'
 ·intro g' hg';rw [cur_set ht,if_neg (by omega)];exact h.prev g' hg'
 ·intro g' hg';rw [cur_set ht,if_neg (by omega)];exact h.slots g' hg'
 ·intro g' hg';rw [cur_set ht,if_neg (by omega)];exact h.taken g' hg'
 ·intro g' hg';rw [cur_set ht,if_neg (by omega)];exact h.bin g' hg'
 ·intro g' hg';rw [cur_set ht,if_neg (by omega)];exact h.rack g' hg'
 ·intro g' hg';rw [cur_set ht,if_neg (by omega)];exact h.root g' hg'
 ·intro t' f' ht' hf';rw [cur_set ht,if_neg (by omega)];exact h.dn t' f' ht' hf'
 ·rw [cur_set ht,if_neg (by omega)];exact h.fr
 ·rw [cur_set ht,if_pos rfl]
theorem At.get_lv (h:At c s m):s.get (1)=m.lv:=by
 have ha:(1:Int)=1:=rfl
 have h1:=Cf.ok_iff.1 h.ok
 have h2:=cells_val h.ok
 have ht:s.there (1)=true:=h.there (by omega) (by omega)
 rw [get_cur ht];exact h.lv
end
end
section
def Mm.of (c:Cf) (xs:LI):Mm:=
 {info:= λg=>cel xs (c.info g),foot:= λg=>cel xs (c.foot g),next:= λg=>cel xs (c.next g),prev:= λg=>cel xs (c.prev g),slots:= λg=>cel xs (c.slots g),taken:= λg=>cel xs (c.taken g),
  bin:= λk=>cel xs (cBin k),rack:= λk=>cel xs (cRack k),root:= λk=>cel xs (cRoot k),dn:= λt f=>cel xs (c.done t f),fr:=cel xs 0,lv:=cel xs 1}
structure Sp where
 k:Int
 l:Int
 c:Int
structure Spn (m:Mm) (a:Int) (x:Sp):Prop where
 l1:1≤x.l
 rt:iRight x.k x.l x.c=true
 k0:x.k≠0
 inf:iGet (m.info a)=⟨x.k,x.l,x.c⟩
 iok:infoOk (m.info a)=true
 in0:∀q,a<q→q<a+x.l→m.info q=0
 ft0:∀q,a≤q→q<a+x.l-1→m.foot q=0
 ft:m.foot (a+x.l-1)=nv (a+1)
def Tl (m:Mm):Int→List Sp→Int→Prop
 |a,[],b=>a=b
 |a,x::L,b=>Spn m a x∧Tl m (a+x.l) L b
def begs:Int→List Sp→LI
 |_,[]=>[]
 |a,x::L=>a::begs (a+x.l) L
theorem Tl.app {m:Mm}:∀{L1 L2:List Sp} {a b:Int},Tl m a (L1++L2) b↔∃d,Tl m a L1 d∧Tl m d L2 b
 |[],L2,a,b=>⟨λh=>⟨a,rfl,h⟩, λ⟨d,h1,h2⟩=>by have h1:a=d:=h1;subst h1;exact h2⟩
 |x::L1,L2,a,b=>by
  constructor
  ·rintro ⟨h1,h2⟩
   obtain ⟨d,h3,h4⟩:=Tl.app.1 h2
   exact ⟨d,⟨h1,h3⟩,h4⟩
  ·rintro ⟨d,⟨h1,h3⟩,h4⟩
   exact ⟨h1,Tl.app.2 ⟨d,h3,h4⟩⟩
theorem Tl.le {m:Mm}:∀{L:List Sp} {a b:Int},Tl m a L b→a≤b
 |[],a,b,h=>by have h:a=b:=h;omega
 |x::L,a,b,h=>by have:=h.1.l1;have:=Tl.le h.2;omega
theorem Spn.of_eq {m m':Mm} {a:Int} {x:Sp} (h:Spn m a x) (h1:∀q,a≤q→q<a+x.l→m'.info q=m.info q) (h2:∀q,a≤q→q<a+x.l→m'.foot q=m.foot q):Spn m' a x:=by
 have hl:=h.l1
 exact {l1:=hl,rt:=h.rt,k0:=h.k0,inf:=by rw [h1 a (by omega) (by omega)];exact h.inf,iok:=by rw [h1 a (by omega) (by omega)];exact h.iok,in0:= λq a b=>by rw [h1 q (by omega) b];exact h.in0 q a b,ft0:= λq a b=>by rw [h2 q a (by omega)];exact h.ft0 q a b,ft:=by rw [h2 _ (by omega) (by omega)];exact h.ft}
theorem Tl.of_eq {m m':Mm}:∀{L:List Sp} {a b:Int},Tl m a L b→(∀q,a≤q→q<b→m'.info q=m.info q)→(∀q,a≤q→q<b→m'.foot q=m.foot q)→Tl m' a L b
 |[],_,_,h,_,_=>h
 |x::L,a,b,h,h1,h2=>by
  have:=h.1.l1
  have:=Tl.le h.2
  exact ⟨h.1.of_eq (λq a b=>h1 q a (by omega)) (λq a b=>h2 q a (by omega)),Tl.of_eq h.2 (λq a b=>h1 q (by omega) b) λq a b=>h2 q (by omega) b⟩
end
section
inductive Hq where
 |bin (k:Int)
 |rack (k:Int)
deriving DecidableEq
def Mm.hd (m:Mm):Hq→Int
 | .bin k=>m.bin k
 | .rack k=>m.rack k
def Mm.setHd (m:Mm) (h:Hq) (x:Int):Mm:=
 match h with
 | .bin k=>{m with bin:=fset m.bin k x}
 | .rack k=>{m with rack:=fset m.rack k x}
def Sg' (m:Mm) (p:Int):Int→Int→LI→Int→Int→Prop
 |q,b,[],q',b'=>q=q'∧b=b'
 |q,b,g::r,q',b'=>q=g+1∧(0≤g∧g<p)∧m.prev g=b∧Sg' m p (m.next g) q r q' b'
theorem Sg'.app {m:Mm} {p:Int}:∀{l1 l2:LI} {q b q' b':Int},Sg' m p q b (l1++l2) q' b'↔∃q1 b1,Sg' m p q b l1 q1 b1∧Sg' m p q1 b1 l2 q' b'
 |[],l2,q,b,q',b'=>⟨λh=>⟨q,b,⟨rfl,rfl⟩,h⟩, λ⟨q1,b1,⟨h1,h2⟩,h3⟩=>by subst h1;subst h2;exact h3⟩
 |g::l1,l2,q,b,q',b'=>by
  constructor
  ·rintro ⟨h1,h2,h3,h4⟩
   obtain ⟨q1,b1,h5,h6⟩:=Sg'.app.1 h4
   exact ⟨q1,b1,⟨h1,h2,h3,h5⟩,h6⟩
  ·rintro ⟨q1,b1,⟨h1,h2,h3,h5⟩,h6⟩
   exact ⟨h1,h2,h3,Sg'.app.2 ⟨q1,b1,h5,h6⟩⟩
theorem Sg'.of_eq {m m':Mm} {p:Int}:∀{l:LI} {q b q' b':Int},Sg' m p q b l q' b'→(∀g∈l,m'.next g=m.next g)→(∀g∈l,m'.prev g=m.prev g)→Sg' m' p q b l q' b'
 |[],_,_,_,_,h,_,_=>h
 |g::l,q,b,q',b',⟨h1,h2,h3,h4⟩,hn,hp=>by
  refine ⟨h1,h2,(hp g (by simp)).trans h3,?_⟩
  rw [hn g (by simp)]
  exact Sg'.of_eq h4 (λx hx=>hn x (by simp [hx])) λx hx=>hp x (by simp [hx])
abbrev DL (m:Mm) (p:Int) (h:Hq) (l:LI):Prop:=∃b',Sg' m p (m.hd h) 0 l 0 b'
def mPush (m:Mm) (h:Hq) (g:Int):Mm:=
 let q:=m.hd h
 {m with next:=fset m.next g q,prev:=bif q==0 then fset m.prev g 0 else fset (fset m.prev g 0) (q-1) (g+1)}.setHd h (g+1)
def mPull (m:Mm) (h:Hq) (g:Int):Mm:=
 let n:=m.next g
 let b:=m.prev g
 let m1:=bif b==0 then m.setHd h n else {m with next:=fset m.next (b-1) n}
 let m2:=bif n==0 then m1 else {m1 with prev:=fset m1.prev (n-1) b}
 {m2 with next:=fset m2.next g 0,prev:=fset m2.prev g 0}
def Hq.ok:Hq→Prop
 | .bin k=>0≤k∧k<11
 | .rack k=>0≤k∧k<9
def Hq.ad:Hq→Int
 | .bin k=>cBin k
 | .rack k=>cRack k
theorem nv0:nv 0=0:=rfl
theorem cur_bd (s:VS) (i:Int):0≤s.cur i∧s.cur i<4294967296:=by
 unfold VS.cur
 split
 ·exact nv_bd _
 ·split
  ·exact nv_bd _
  ·exact ⟨by decide,by decide⟩
section
variable {c:Cf} {s:VS} {m:Mm}
theorem At.next_bd (h:At c s m) {g:Int} (hg:0≤g∧g<c.p):0≤m.next g∧m.next g<4294967296:=by rw [←h.next g hg];exact cur_bd _ _
theorem At.prev_bd (h:At c s m) {g:Int} (hg:0≤g∧g<c.p):0≤m.prev g∧m.prev g<4294967296:=by rw [←h.prev g hg];exact cur_bd _ _
theorem At.hd_bd (h:At c s m) {q:Hq} (hq:q.ok):0≤m.hd q∧m.hd q<4294967296:=by
 cases q with
 |bin k=>show 0≤m.bin k∧m.bin k<4294967296;rw [←h.bin k hq];exact cur_bd _ _
 |rack k=>show 0≤m.rack k∧m.rack k<4294967296;rw [←h.rack k hq];exact cur_bd _ _
theorem At.get_hd (h:At c s m) {q:Hq} (hq:q.ok):s.get q.ad=m.hd q:=by
 cases q with
 |bin k=>exact h.get_bin hq
 |rack k=>exact h.get_rack hq
theorem At.set_hd (h:At c s m) {q:Hq} (hq:q.ok) (x:Int):At c (s.set q.ad x) (m.setHd q (nv x)):=by
 cases q with
 |bin k=>exact h.set_bin hq x
 |rack k=>exact h.set_rack hq x
theorem Cf.page_iff {c:Cf} {g:Int}:c.page g=true↔0≤g∧g<c.p:=by simp [Cf.page]
theorem push_at (h:At c s m) {q:Hq} (hq:q.ok) {g:Int} (hg:0≤g∧g<c.p) (hh:m.hd q=0∨(0≤m.hd q-1∧m.hd q-1<c.p)):At c ((pPush c q.ad g).run s).1 (mPush m q g):=by
 have hp:=Cf.ok_iff.1 h.ok
 have hb:=h.hd_bd hq
 have e1:nv (g+1)=g+1:=nv_id (by omega)
 have e2:nv (m.hd q)=m.hd q:=nv_id hb
 unfold pPush
 rw [Cf.page_iff.2 hg,cond_true]
 simp only [Pg.run_get,Pg.run_put,Pg.run_bind]
 rw [h.get_hd hq]
 have h1:=((h.read q.ad).set_next hg (m.hd q)).set_prev hg 0
 rw [e2,nv0] at h1
 unfold mPush
 dsimp only
 cases hz:m.hd q==0 with
 |true=>
  simp only [cond_true,Pg.run_ret]
  have h2:=h1.set_hd hq (nv (g+1))
  rw [show nv (nv (g+1))=g+1 by rw [e1,e1]] at h2
  exact h2
 |false=>
  simp only [cond_false,Pg.run_put,Pg.run_ret]
  have hz':m.hd q≠0:=by simpa using hz
  have hv:0≤m.hd q-1∧m.hd q-1<c.p:=by omega
  have h2:=(h1.set_prev hv (nv (g+1))).set_hd hq (nv (g+1))
  rw [show nv (nv (g+1))=g+1 by rw [e1,e1]] at h2
  exact h2
theorem pull_at (h:At c s m) {q:Hq} (hq:q.ok) {g:Int} (hg:0≤g∧g<c.p) (hn:m.next g=0∨(0≤m.next g-1∧m.next g-1<c.p)) (hb:m.prev g=0∨(0≤m.prev g-1∧m.prev g-1<c.p)):At c ((pPull c q.ad g).run s).1 (mPull m q g):=by
 have e1:nv (m.next g)=m.next g:=nv_id (h.next_bd hg)
 have e2:nv (m.prev g)=m.prev g:=nv_id (h.prev_bd hg)
 unfold pPull
 rw [Cf.page_iff.2 hg,cond_true]
 simp only [Pg.run_get,Pg.run_put,Pg.run_bind]
 have h0:=h.read (c.next g)
 rw [h.get_next hg,h0.get_prev hg]
 have h1:=h0.read (c.prev g)
 have key:∀(s1:VS) (m1:Mm),At c s1 m1→At c (((((bif m.next g==0 then Pg.ret () else Pg.put (c.prev (m.next g-1)) (m.prev g) (.ret ())).run s1).1.set (c.next g) 0).set (c.prev g) 0)) (let m2:=bif m.next g==0 then m1 else {m1 with prev:=fset m1.prev (m.next g-1) (m.prev g)};{m2 with next:=fset m2.next g 0,prev:=fset m2.prev g 0}):=by
  intro s1 m1 h2
  cases hz:m.next g==0 with
  |true=>
   have h3:=(h2.set_next hg 0).set_prev hg 0
   rw [nv0] at h3
   exact h3
  |false=>
   have hz':m.next g≠0:=by simpa using hz
   have h3:=((h2.set_prev (show 0≤m.next g-1∧m.next g-1<c.p by omega) (m.prev g)).set_next hg 0).set_prev hg 0
   rw [e2,nv0] at h3
   exact h3
 unfold mPull
 dsimp only at key ⊢
 cases hz:m.prev g==0 with
 |true=>
  have h2:=h1.set_hd hq (m.next g)
  rw [e1] at h2
  exact key _ _ h2
 |false=>
  have hz':m.prev g≠0:=by simpa using hz
  have h2:=h1.set_next (show 0≤m.prev g-1∧m.prev g-1<c.p by omega) (m.next g)
  rw [e1] at h2
  exact key _ _ h2
end
end
section
section
variable (m:Mm) (h:Hq) (x:Int)
theorem setHd_next:(m.setHd h x).next=m.next:=by cases h<;>rfl
theorem setHd_prev:(m.setHd h x).prev=m.prev:=by cases h<;>rfl
theorem setHd_hd (h':Hq):(m.setHd h x).hd h'=if h'=h then x else m.hd h':=by
 cases h<;>cases h'<;>simp [Mm.setHd,Mm.hd,fset]
end
section
variable {m:Mm} {p:Int} {q:Hq} {g:Int}
theorem push_next (y:Int):(mPush m q g).next y=if y=g then m.hd q else m.next y:=by
 unfold mPush;dsimp only;rw [setHd_next];rfl
theorem push_prev (y:Int):(mPush m q g).prev y=if m.hd q≠0∧y=m.hd q-1 then g+1 else if y=g then 0 else m.prev y:=by
 unfold mPush;dsimp only;rw [setHd_prev];dsimp only
 cases hz:m.hd q==0 with
 |true=>
  have:m.hd q=0:=by simpa using hz
  simp [this,fset]
 |false=>
  have:m.hd q≠0:=by simpa using hz
  simp [this,fset]
theorem push_hd (q':Hq):(mPush m q g).hd q'=if q'=q then g+1 else m.hd q':=by
 unfold mPush;dsimp only;rw [setHd_hd];cases q'<;>rfl
theorem push_list {l:LI} (hl:DL m p q l) (hg:0≤g∧g<p) (hn:g ∉ l) (hd:l.Nodup):DL (mPush m q g) p q (g::l):=by
 obtain ⟨b',hl⟩:=hl
 have eh:(mPush m q g).hd q=g+1:=by rw [push_hd,if_pos rfl]
 have en:(mPush m q g).next g=m.hd q:=by rw [push_next,if_pos rfl]
 cases l with
 |nil=>
  obtain ⟨h1,h2⟩:=hl
  refine ⟨g+1,eh,hg,?_,?_⟩
  ·rw [push_prev,if_neg (by omega),if_pos rfl]
  ·rw [en];exact ⟨h1,eh⟩
 |cons x r=>
  obtain ⟨h1,h2,h3,h4⟩:=hl
  have hx:x≠g:= λe=>hn (by simp [e])
  have hxr:g ∉ r:= λe=>hn (by simp [e])
  have hd':=(lK.1 hd).1
  refine ⟨b',eh,hg,?_,?_,h2,?_,?_⟩
  ·rw [push_prev,if_neg (by omega),if_pos rfl]
  ·rw [en,h1]
  ·rw [push_prev,if_pos (by omega),eh]
  ·rw [push_next,if_neg hx,en]
   refine Sg'.of_eq h4 (λy hy=>?_) λy hy=>?_
   ·rw [push_next,if_neg (λ(e:y=g)=>hxr (e▸hy))]
   ·rw [push_prev,if_neg (λe=>hd' (by have:y=x:=by omega
                                      exact this▸hy)),if_neg (λ(e:y=g)=>hxr (e▸hy))]
theorem push_other {q':Hq} {l l':LI} (hl:DL m p q l) (hl':DL m p q' l') (hq:q'≠q) (hn:g ∉ l') (hd:∀y∈l,y ∉ l'):DL (mPush m q g) p q' l':=by
 obtain ⟨b1,hl⟩:=hl
 obtain ⟨b',hl'⟩:=hl'
 refine ⟨b',?_⟩
 rw [push_hd,if_neg hq]
 refine Sg'.of_eq hl' (λy hy=>?_) λy hy=>?_
 ·rw [push_next,if_neg (λ(e:y=g)=>hn (e▸hy))]
 ·rw [push_prev,if_neg (λe=>?_),if_neg (λ(e:y=g)=>hn (e▸hy))]
  cases l with
  |nil=>exact e.1 hl.1
  |cons x r=>
   have:=hl.1
   exact hd x (by simp) (by have:y=x:=by omega
                            exact this▸hy)
theorem pull_next (y:Int):(mPull m q g).next y=if y=g then 0 else if m.prev g≠0∧y=m.prev g-1 then m.next g else m.next y:=by
 unfold mPull;dsimp only
 cases hz:m.prev g==0<;>cases hw:m.next g==0<;>simp only [cond_true,cond_false,setHd_next,fset]<;>simp only [beq_iff_eq,beq_eq_false_iff_ne,ne_eq] at hz hw<;>simp [hz]
theorem pull_prev (y:Int):(mPull m q g).prev y=if y=g then 0 else if m.next g≠0∧y=m.next g-1 then m.prev g else m.prev y:=by
 unfold mPull;dsimp only
 cases hz:m.prev g==0<;>cases hw:m.next g==0<;>simp only [cond_true,cond_false,setHd_prev,fset]<;>simp only [beq_iff_eq,beq_eq_false_iff_ne,ne_eq] at hz hw<;>simp [hw]
theorem pull_hd (q':Hq):(mPull m q g).hd q'=if q'=q∧m.prev g=0 then m.next g else m.hd q':=by
 unfold mPull;dsimp only
 cases hz:m.prev g==0<;>cases hw:m.next g==0<;>simp only [cond_true,cond_false]<;>simp only [beq_iff_eq,beq_eq_false_iff_ne,ne_eq] at hz hw<;>cases q'<;>simp [hz,Mm.hd,Mm.setHd]<;>cases q<;>simp [fset]
theorem Sg'.last:∀{l:LI} {a b q1 b1:Int},Sg' m p a b l q1 b1→l≠[]→∃y∈l,b1=y+1
 |[],_,_,_,_,_,h=>absurd rfl h
 |[y],_,_,_,_,⟨h1,_,_,_,h5⟩,_=>⟨y,by simp,by omega⟩
 |y::z::r,_,_,_,_,⟨_,_,_,h4⟩,_=>by
  obtain ⟨w,hw,e⟩:=Sg'.last h4 (by simp)
  exact ⟨w,by simp only [iG] at hw ⊢;exact .inr hw,e⟩
theorem Sg'.pages:∀{l:LI} {a b q1 b1:Int},Sg' m p a b l q1 b1→∀y∈l,0≤y∧y<p
 |[],_,_,_,_,_,_,h=>by cases h
 |y::r,_,_,_,_,⟨_,h2,_,h4⟩,z,hz=>by
  rcases iG.1 hz with rfl|hz
  ·exact h2
  ·exact Sg'.pages h4 z hz
theorem Sg'.relink {m':Mm} {q1':Int}:∀{l:LI} {a b q1 b1:Int},Sg' m p a b l q1 b1→(∀y∈l,m'.prev y=m.prev y)→(∀y∈l,y+1≠b1→m'.next y=m.next y)→(∀y∈l,y+1=b1→m'.next y=q1')→l.Nodup→l≠[]→Sg' m' p a b l q1' b1
 |[],_,_,_,_,_,_,_,_,_,h=>absurd rfl h
 |[y],a,b,q1,b1,⟨h1,h2,h3,h4,h5⟩,hp,_,hq,_,_=>⟨h1,h2,(hp y (by simp)).trans h3,hq y (by simp) (by omega),h5⟩
 |y::z::r,a,b,q1,b1,⟨h1,h2,h3,h4⟩,hp,hn,hq,hd,_=>by
  obtain ⟨w,hw,e⟩:=Sg'.last h4 (by simp)
  have hd':=lK.1 hd
  have hy:y+1≠b1:= λe'=>hd'.1 (by have:y=w:=by omega
                                  exact this▸hw)
  refine ⟨h1,h2,(hp y (by simp)).trans h3,?_⟩
  rw [hn y (by simp) hy]
  exact Sg'.relink h4 (λx hx=>hp x (by simp only [iG] at hx ⊢;exact .inr hx)) (λx hx=>hn x (by simp only [iG] at hx ⊢;exact .inr hx)) (λx hx=>hq x (by simp only [iG] at hx ⊢;exact .inr hx)) hd'.2 (by simp)
theorem pull_list {l1 l2:LI} (hl:DL m p q (l1++g::l2)) (hd:(l1++g::l2).Nodup):DL (mPull m q g) p q (l1++l2):=by
 obtain ⟨b',hl⟩:=hl
 obtain ⟨q1,b1,hA,h1,h2,h3,hB⟩:=Sg'.app.1 hl
 have hd1:=qC.1 hd
 have hg1:g ∉ l1:= λe=>hd1.2.2 g e g (by simp) rfl
 have hg2:g ∉ l2:=(lK.1 hd1.2.1).1
 have hdis:∀y∈l1,y ∉ l2:= λy hy hy2=>hd1.2.2 y hy y (by simp [hy2]) rfl
 have hpg:=Sg'.pages hA
 have hb1:l1≠[]→∃y∈l1,b1=y+1:=Sg'.last hA
 have hB':∃b'',Sg' (mPull m q g) p (m.next g) b1 l2 0 b'':=by
  cases l2 with
  |nil=>exact ⟨b1,hB.1,rfl⟩
  |cons z r=>
   obtain ⟨e1,e2,e3,e4⟩:=hB
   have hz:z≠g:= λe=>hg2 (by simp [e])
   have hgr:g ∉ r:= λe=>hg2 (by simp [e])
   have hzr:=(lK.1 (lK.1 hd1.2.1).2).1
   have hzb:∀y∈z::r,¬(m.prev g≠0∧y=m.prev g-1):= λy hy ⟨n1,n2⟩=>by
    cases hc:l1 with
    |nil=>rw [hc] at hA;have:=hA.2;omega
    |cons u v=>
     obtain ⟨w,hw,ew⟩:=hb1 (by rw [hc];simp)
     have:y=w:=by omega
     exact hdis w hw (this▸hy)
   refine ⟨b',e1,e2,?_,?_⟩
   ·rw [pull_prev,if_neg hz,if_pos ⟨by omega,by omega⟩,h3]
   ·rw [pull_next,if_neg hz,if_neg (hzb z (by simp))]
    refine Sg'.of_eq e4 (λy hy=>?_) λy hy=>?_
    ·rw [pull_next,if_neg (λ(e:y=g)=>hgr (e▸hy)),if_neg (hzb y (by simp [hy]))]
    ·rw [pull_prev,if_neg (λ(e:y=g)=>hgr (e▸hy)),if_neg (λ⟨_,e⟩=>hzr ((show y=z by omega)▸hy))]
 obtain ⟨b'',hB'⟩:=hB'
 have hnl:∀y∈l1,¬(m.next g≠0∧y=m.next g-1):= λy hy ⟨n1,n2⟩=>by
  cases l2 with
  |nil=>exact n1 hB.1
  |cons z r=>
   have:=hB.1
   exact hdis y hy (by have:y=z:=by omega
                       rw [this];simp)
 refine ⟨b'',Sg'.app.2 ⟨m.next g,b1,?_,hB'⟩⟩
 by_cases hc:l1=[]
 ·subst hc
  obtain ⟨e1,e2⟩:=hA
  rw [pull_hd,if_pos ⟨rfl,by omega⟩]
  exact ⟨rfl,e2⟩
 ·obtain ⟨w,hw,ew⟩:=hb1 hc
  have:=hpg w hw
  rw [pull_hd,if_neg (λ⟨_,e⟩=>by omega)]
  refine Sg'.relink hA (λy hy=>?_) (λy hy hne=>?_) (λy hy he=>?_) hd1.1 hc
  ·rw [pull_prev,if_neg (λ(e:y=g)=>hg1 (e▸hy)),if_neg (hnl y hy)]
  ·rw [pull_next,if_neg (λ(e:y=g)=>hg1 (e▸hy)),if_neg (λ⟨_,e⟩=>by omega)]
  ·rw [pull_next,if_neg (λ(e:y=g)=>hg1 (e▸hy)),if_pos ⟨by omega,by omega⟩]
theorem pull_other {q':Hq} {l l':LI} (hl:DL m p q l) (hg:g∈l) (hl':DL m p q' l') (hq:q'≠q) (hd:∀y∈l,y ∉ l'):DL (mPull m q g) p q' l':=by
 obtain ⟨l1,l2,rfl⟩:=List.append_of_mem hg
 obtain ⟨b',hl⟩:=hl
 obtain ⟨q1,b1,hA,h1,h2,h3,hB⟩:=Sg'.app.1 hl
 obtain ⟨b2,hl'⟩:=hl'
 have hgl:g ∉ l':=hd g (by simp)
 have hp1:∀y∈l',¬(m.prev g≠0∧y=m.prev g-1):= λy hy ⟨n1,n2⟩=>by
  by_cases hc:l1=[]
  ·subst hc;have:=hA.2;omega
  ·obtain ⟨w,hw,ew⟩:=Sg'.last hA hc
   exact hd w (by simp [hw]) (by have:y=w:=by omega
                                 exact this▸hy)
 have hp2:∀y∈l',¬(m.next g≠0∧y=m.next g-1):= λy hy ⟨n1,n2⟩=>by
  cases l2 with
  |nil=>exact n1 hB.1
  |cons z r=>
   have:=hB.1
   exact hd z (by simp) (by have:y=z:=by omega
                            exact this▸hy)
 refine ⟨b2,?_⟩
 rw [pull_hd,if_neg (λ⟨e,_⟩=>hq e)]
 refine Sg'.of_eq hl' (λy hy=>?_) λy hy=>?_
 ·rw [pull_next,if_neg (λ(e:y=g)=>hgl (e▸hy)),if_neg (hp1 y hy)]
 ·rw [pull_prev,if_neg (λ(e:y=g)=>hgl (e▸hy)),if_neg (hp2 y hy)]
end
end
end Go.Sl
namespace Go.Proofs.YtinpgnomkmmfdaaGreat
section
open Go.Sl
section
variable {c:Cf} {xs:LI}
theorem listF_dl (hx:AGood c xs):∀(f:Nat) (q ahead:Int) (out:LI),0≤q→(listF c xs f q ahead out).2=true→∃l b',(listF c xs f q ahead out).1=out++l∧Sg' (Mm.of c xs) c.p q ahead l 0 b'∧out.length+l.length≤c.p.toNat+(if l=[] then out.length else 0)
 |0,_,_,_,_,h=>by simp [listF] at h
 |f+1,q,ahead,out,hq,h=>by
  simp only [listF] at h ⊢
  cases h0:q==0 with
  |true=>
   simp only [cond_true]
   exact ⟨[],ahead,by simp,⟨by simpa using h0,rfl⟩,by simp⟩
  |false=>
   rw [h0,cond_false] at h
   simp only [cond_false]
   have hq0:q≠0:=by simpa using h0
   cases h1:(decide (q>c.p)||decide ((out.length:Int)≥c.p)) with
   |true=>rw [h1] at h;cases h
   |false=>
    rw [h1,cond_false] at h
    simp only [cond_false]
    simp only [jH,decide_eq_false_iff_not] at h1
    cases h2:cel xs (c.prev (q-1)) !=ahead with
    |true=>rw [h2] at h;cases h
    |false=>
     rw [h2,cond_false] at h
     simp only [cond_false]
     have hb:=cel_bd hx (c.next (q-1))
     obtain ⟨l,b',e1,e2,e3⟩:=listF_dl hx f _ _ _ hb.1 h
     refine ⟨(q-1)::l,b',by rw [e1];simp,⟨by omega,by omega,(show cel xs (c.prev (q-1))=ahead by simpa using h2),e2⟩,?_⟩
     simp only [jM,jR,oK,reduceCtorEq,if_false] at e3 ⊢
     by_cases hl:l=[]
     ·subst hl;simp at e3 ⊢;omega
     ·rw [if_neg hl] at e3;omega
theorem dl_listF (hx:AGood c xs):∀(l:LI) (f:Nat) (q ahead b':Int) (out:LI),Sg' (Mm.of c xs) c.p q ahead l 0 b'→l.length<f→(out.length+l.length:Int)≤c.p→listF c xs f q ahead out=(out++l,true)
 |_,0,_,_,_,_,_,h,_=>by omega
 |[],f+1,q,ahead,b',out,h,_,_=>by
  have:q=0:=h.1
  simp [listF,this]
 |g::l,f+1,q,ahead,b',out,⟨h1,h2,h3,h4⟩,hf,hl=>by
  simp only [jR] at hf hl
  have e0:(q==0)=false:=by simp;omega
  have e1:(decide (q>c.p)||decide ((out.length:Int)≥c.p))=false:=by
   simp only [jH,decide_eq_false_iff_not];push_cast at hl;omega
  have eg:q-1=g:=by omega
  have e2:(cel xs (c.prev (q-1)) !=ahead)=false:=by
   rw [eg]
   have:cel xs (c.prev g)=ahead:=h3
   simp [this]
  simp only [listF,e0,e1,e2,cond_false]
  have:=dl_listF hx l f _ _ b' (out++[g]) h4 (by omega) (by simp only [jM,jR,oK];push_cast at hl ⊢;omega)
  rw [eg]
  exact this.trans (by simp)
def Ch (c:Cf) (xs:LI):Int→LI→Prop
 |a,[]=>a=c.p
 |a,x::l=>a=x∧a<c.p∧infoOk (cel xs (c.info a))=true∧(aInfo c xs a).k≠0∧1≤(aInfo c xs a).l∧Ch c xs (a+(aInfo c xs a).l) l
theorem startsF_ch:∀(f:Nat) (a:Int) (out:LI),(startsF c xs f a out).2=true→∃l,(startsF c xs f a out).1=out++l∧Ch c xs a l
 |0,a,out,h=>⟨[],by simp [startsF],(show a=c.p by simpa [startsF] using h)⟩
 |f+1,a,out,h=>by
  simp only [startsF] at h ⊢
  cases hd:decide (a<c.p) with
  |false=>
   rw [hd] at h
   simp only [cond_false] at h ⊢
   exact ⟨[],by simp,(show a=c.p by simpa using h)⟩
  |true=>
   rw [hd,cond_true] at h
   simp only [cond_true]
   cases hc:(!infoOk (cel xs (c.info a))||(aInfo c xs a).k==0) with
   |true=>rw [hc] at h;cases h
   |false=>
    rw [hc,cond_false] at h
    simp only [cond_false]
    obtain ⟨l,e1,e2⟩:=startsF_ch f _ _ h
    simp only [jH,jY] at hc
    exact ⟨a::l,by rw [e1];simp,rfl,by simpa using hd,hc.1,by simpa using hc.2,iGet_len hc.1 hc.2,e2⟩
theorem ch_startsF:∀(l:LI) (f:Nat) (a:Int) (out:LI),Ch c xs a l→l.length<f→startsF c xs f a out=(out++l,true)
 |_,0,_,_,_,h=>by omega
 |[],f+1,a,out,h,_=>by
  have h:a=c.p:=h
  simp [startsF,h]
 |x::l,f+1,a,out,⟨h1,h2,h3,h4,h5,h6⟩,hf=>by
  have e1:decide (a<c.p)=true:=by simpa using h2
  have e2:(!infoOk (cel xs (c.info a))||(aInfo c xs a).k==0)=false:=by simp [h3,h4]
  simp only [startsF,e1,e2,cond_true,cond_false]
  rw [ch_startsF l f _ _ h6 (by simp at hf;omega)]
  subst h1;simp
theorem Ch.le:∀{l:LI} {a:Int},Ch c xs a l→a+l.length≤c.p
 |[],a,h=>by have h:a=c.p:=h;simp;omega
 |x::l,a,⟨_,_,_,_,h5,h6⟩=>by have:=Ch.le h6;simp only [jR];push_cast;omega
theorem Ch.ge:∀{l:LI} {a:Int},Ch c xs a l→∀x∈l,a≤x
 |[],_,_,_,h=>by cases h
 |y::l,a,⟨h1,_,_,_,h5,h6⟩,x,hx=>by
  rcases iG.1 hx with rfl|hx
  ·omega
  ·have:=Ch.ge h6 x hx;omega
theorem starts_iff (hp:0≤c.p) {l:LI}:starts c xs=(l,true)↔Ch c xs 0 l:=by
 constructor
 ·intro h
  have h2:(startsF c xs (c.p.toNat+1) 0 []).2=true:=by unfold starts at h;rw [h]
  obtain ⟨l',e1,e2⟩:=startsF_ch _ _ _ h2
  have:l=l':=by
   have e3:(startsF c xs (c.p.toNat+1) 0 []).1=l:=by unfold starts at h;rw [h]
   rw [←e3,e1];simp
  rw [this];exact e2
 ·intro h
  have:=h.le
  unfold starts
  rw [ch_startsF l _ 0 [] h (by omega)];simp
theorem drop_at {l:LI} {n:Nat} (h:n<l.length):l.drop n=l.getD n 0::l.drop (n+1):=by
 rw [oJ h,iD,iN h];rfl
theorem tilesF_iff (l:LI):∀(k n:Nat),(l.drop n).Pairwise (· < ·)→(∀x∈l.drop n,c.p-k≤x∧x<c.p)→(tilesF c xs l k n=true↔∀q:Int,c.p-k≤q→q<c.p→q∈l.drop n∨cel xs (c.info q)=0)
 |0,n,_,_=>by
  simp only [tilesF,true_iff]
  intro q h1 h2;omega
 |k+1,n,hs,hb=>by
  simp only [tilesF]
  cases hc:(decide (n<l.length)&&l.getD n 0==c.p-(k+1:Nat)) with
  |true=>
   simp only [iE,decide_eq_true_eq,beq_iff_eq] at hc
   have hd:=drop_at hc.1
   rw [hc.2] at hd
   rw [hd] at hs hb ⊢
   have hs':=List.pairwise_cons.1 hs
   simp only [cond_true]
   rw [tilesF_iff l k (n+1) hs'.2 (λx hx=>⟨by have:=hs'.1 x hx;push_cast at this;omega,(hb x (by simp [hx])).2⟩)]
   constructor
   ·intro h q h1 h2
    by_cases hq:q=c.p-(k+1:Nat)
    ·left;rw [hq];simp
    ·rcases h q (by push_cast at hq h1;omega) h2 with h3|h3
     ·left;simp [h3]
     ·exact .inr h3
   ·intro h q h1 h2
    rcases h q (by push_cast;omega) h2 with h3|h3
    ·rcases iG.1 h3 with h4|h4
     ·exfalso;push_cast at h4;omega
     ·exact .inl h4
    ·exact .inr h3
  |false=>
   simp only [cond_false]
   have hn:∀x∈l.drop n,x≠c.p-(k+1:Nat):= λx hx e=>by
    have hlt:n<l.length:=by
     rcases jN n l.length with h|h
     ·exact h
     ·rw [List.drop_of_length_le h] at hx;cases hx
    have hd:=drop_at hlt
    rw [hd] at hx hs hb
    have h1:l.getD n 0≠c.p-(k+1:Nat):= λe'=>by
     have:(decide (n<l.length)&&l.getD n 0==c.p-(k+1:Nat))=true:=by
      simp only [iE,decide_eq_true_eq,beq_iff_eq];exact ⟨hlt,e'⟩
     rw [hc] at this;cases this
    rcases iG.1 hx with h2|h2
    ·exact h1 (h2▸e)
    ·have h3:=(List.pairwise_cons.1 hs).1 x h2
     have h4:=(hb _ (List.mem_cons_self)).1
     omega
   have hb':∀x∈l.drop n,c.p-k≤x∧x<c.p:= λx hx=>by
    have h1:=hb x hx
    have h2:=hn x hx
    push_cast at h1 h2
    omega
   cases hz:cel xs (c.info (c.p-(k+1:Nat))) !=0 with
   |true=>
    simp only [cond_true,reduceCtorEq,false_iff]
    intro h
    rcases h (c.p-(k+1:Nat)) (mC _) (by push_cast;omega) with h3|h3
    ·exact hn _ h3 rfl
    ·rw [h3] at hz;cases hz
   |false=>
    simp only [cond_false]
    rw [tilesF_iff l k n hs hb']
    constructor
    ·intro h q h1 h2
     by_cases hq:q=c.p-(k+1:Nat)
     ·right;rw [hq];simpa using hz
     ·exact h q (by push_cast at hq h1;omega) h2
    ·intro h q h1 h2
     exact h q (by push_cast;omega) h2
theorem Ch.sorted:∀{l:LI} {a:Int},Ch c xs a l→l.Pairwise (· < ·)
 |[],_,_=>pH
 |y::l,a,⟨h1,_,_,_,h5,h6⟩=>List.pairwise_cons.2 ⟨λx hx=>by have:=Ch.ge h6 x hx;omega,Ch.sorted h6⟩
theorem Ch.lt:∀{l:LI} {a:Int},Ch c xs a l→∀x∈l,x<c.p
 |[],_,_,_,h=>by cases h
 |y::l,a,⟨h1,h2,_,_,_,h6⟩,x,hx=>by
  rcases iG.1 hx with rfl|hx
  ·omega
  ·exact Ch.lt h6 x hx
theorem tiles_iff (hp:0≤c.p):tiles c xs=true↔∃l,starts c xs=(l,true)∧Ch c xs 0 l∧∀q:Int,0≤q→q<c.p→q∈l∨cel xs (c.info q)=0:=by
 unfold tiles
 cases h2:(starts c xs).2 with
 |false=>
  simp only [cond_false,reduceCtorEq,false_iff]
  rintro ⟨l,h,_⟩
  rw [h] at h2;cases h2
 |true=>
  have hs:starts c xs=((starts c xs).1,true):=by rw [←h2]
  have hc:=(starts_iff hp).1 hs
  have e:(c.p.toNat:Int)=c.p:=by omega
  simp only [cond_true]
  rw [tilesF_iff _ _ 0 (by simpa using hc.sorted) (λx hx=>⟨by rw [e];have:=hc.ge x (by simpa using hx);omega,hc.lt x (by simpa using hx)⟩)]
  simp only [oH]
  constructor
  ·intro h
   exact ⟨_,hs,hc, λq h1 h3=>h q (by omega) h3⟩
  ·rintro ⟨l,h,_,h4⟩ q h1 h3
   rw [h];exact h4 q (by omega) h3
def wantF (c:Cf) (xs:LI) (x q:Int):Int:=bif q==x+(aInfo c xs x).l-1 then nv (x+1) else 0
theorem feetF_iff (l:LI):∀(k n:Nat) (a:Int) (r:LI),l.drop n=a::r→Ch c xs a (a::r)→a≤c.p-k→c.p-k≤a+(aInfo c xs a).l→
 (feetF c xs l k n=true↔∀q:Int,c.p-k≤q→q<c.p→∀x∈a::r,x≤q→q<x+(aInfo c xs x).l→cel xs (c.foot q)=wantF c xs x q)
 |0,n,a,r,_,_,_,_=>by
  simp only [feetF,true_iff]
  intro q h1 h2;omega
 |k+1,n,a,r,hd,hc,h1,h2=>by
  have hlt:n<l.length:=by
   rcases jN n l.length with h|h
   ·exact h
   ·rw [List.drop_of_length_le h] at hd;cases hd
  have hda:=drop_at hlt
  rw [hd] at hda
  have ha:l.getD n 0=a:=by injection hda with h _;exact h.symm
  have hr:l.drop (n+1)=r:=by injection hda with _ h;exact h.symm
  obtain ⟨_,c2,c3,c4,c5,c6⟩:=hc
  have hw:∀x q,(bif q==x+(aInfo c xs x).l-1 then nv (x+1) else 0)=wantF c xs x q:= λ_ _=>rfl
  simp only [feetF]
  cases r with
  |nil=>
   have e6:a+(aInfo c xs a).l=c.p:=c6
   have hlen:¬(n+1<l.length):= λh=>by
    have:=drop_at h;rw [hr] at this;cases this
   have e1:(decide (n+1<l.length)&&l.getD (n+1) 0==c.p-(k+1:Nat))=false:=by simp [hlen]
   rw [e1]
   simp only [cond_false]
   rw [ha,hw]
   have ih:=feetF_iff l k n a [] hd ⟨rfl,c2,c3,c4,c5,c6⟩ (by push_cast at h1;omega) (by omega)
   cases hz:cel xs (c.foot (c.p-(k+1:Nat))) !=wantF c xs a (c.p-(k+1:Nat)) with
   |true=>
    simp only [cond_true,reduceCtorEq,false_iff]
    intro h
    have:=h (c.p-(k+1:Nat)) (mC _) (by push_cast;omega) a (by simp) h1 (by push_cast at h2 ⊢;omega)
    rw [this] at hz;simp at hz
   |false=>
    simp only [cond_false]
    rw [ih]
    constructor
    ·intro h q g1 g2 x hx g3 g4
     by_cases hq:q=c.p-(k+1:Nat)
     ·simp only [iY] at hx
      subst hx;rw [hq];simpa using hz
     ·exact h q (by push_cast at hq g1;omega) g2 x hx g3 g4
    ·intro h q g1 g2 x hx g3 g4
     exact h q (by push_cast;omega) g2 x hx g3 g4
  |cons b r'=>
   obtain ⟨d1,d2,d3,d4,d5,d6⟩:=c6
   have hlt2:n+1<l.length:=by
    rcases jN (n+1) l.length with h|h
    ·exact h
    ·rw [List.drop_of_length_le h] at hr;cases hr
   have hdb:=drop_at hlt2
   rw [hr] at hdb
   have hb:l.getD (n+1) 0=b:=by injection hdb with h _;exact h.symm
   have hb2:Ch c xs b (b::r'):=by
    have e:Ch c xs (a+(aInfo c xs a).l) (b::r'):=⟨d1,d2,d3,d4,d5,d6⟩
    rw [d1] at e;exact e
   have hge:∀x∈b::r',b≤x:=hb2.ge
   by_cases hp:c.p-(k+1:Nat)=b
   ·have e1:(decide (n+1<l.length)&&l.getD (n+1) 0==c.p-(k+1:Nat))=true:=by rw [hb,hp];simp [hlt2]
    rw [e1]
    simp only [cond_true]
    rw [hb,hw]
    have d5':1≤(aInfo c xs b).l:=by rw [←d1];exact d5
    have ih:=feetF_iff l k (n+1) b r' hr hb2 (by push_cast at hp;omega) (by push_cast at hp;omega)
    have hb3:Ch c xs (b+(aInfo c xs b).l) r':=hb2.2.2.2.2.2
    have hge2:∀x∈r',b+(aInfo c xs b).l≤x:=hb3.ge
    cases hz:cel xs (c.foot (c.p-(k+1:Nat))) !=wantF c xs b (c.p-(k+1:Nat)) with
    |true=>
     simp only [cond_true,reduceCtorEq,false_iff]
     intro h
     have:=h (c.p-(k+1:Nat)) (mC _) (by push_cast;omega) b (by simp) (by omega) (by omega)
     rw [this] at hz;simp at hz
    |false=>
     simp only [cond_false]
     rw [ih]
     constructor
     ·intro h q g1 g2 x hx g3 g4
      have hxa:x≠a:= λe=>by subst e;push_cast at hp g1;omega
      have hx':x∈b::r':=by
       rcases iG.1 hx with h5|h5
       ·exact absurd h5 hxa
       ·exact h5
      by_cases hq:q=c.p-(k+1:Nat)
      ·have hxb:x=b:=by
        rcases iG.1 hx' with h5|h5
        ·exact h5
        ·have:=hge2 x h5;omega
       subst hxb;rw [hq];simpa using hz
      ·exact h q (by push_cast at hq g1;omega) g2 x hx' g3 g4
     ·intro h q g1 g2 x hx g3 g4
      exact h q (by push_cast;omega) g2 x (by simp only [iG] at hx ⊢;exact .inr hx) g3 g4
   ·have e1:(decide (n+1<l.length)&&l.getD (n+1) 0==c.p-(k+1:Nat))=false:=by
     simp only [hb,mD,beq_eq_false_iff_ne,ne_eq]
     right;omega
    rw [e1]
    simp only [cond_false]
    rw [ha,hw]
    have ih:=feetF_iff l k n a (b::r') hd ⟨rfl,c2,c3,c4,c5,d1,d2,d3,d4,d5,d6⟩ (by push_cast at h1;omega) (by push_cast at h2 hp;omega)
    cases hz:cel xs (c.foot (c.p-(k+1:Nat))) !=wantF c xs a (c.p-(k+1:Nat)) with
    |true=>
     simp only [cond_true,reduceCtorEq,false_iff]
     intro h
     have:=h (c.p-(k+1:Nat)) (mC _) (by push_cast;omega) a (by simp) h1 (by omega)
     rw [this] at hz;simp at hz
    |false=>
     simp only [cond_false]
     rw [ih]
     constructor
     ·intro h q g1 g2 x hx g3 g4
      by_cases hq:q=c.p-(k+1:Nat)
      ·have hxa:x=a:=by
        rcases iG.1 hx with h5|h5
        ·exact h5
        ·have:=hge x h5;omega
       subst hxa;rw [hq];simpa using hz
      ·exact h q (by push_cast at hq g1;omega) g2 x hx g3 g4
     ·intro h q g1 g2 x hx g3 g4
      exact h q (by push_cast;omega) g2 x hx g3 g4
theorem feet_iff (hp:1≤c.p) {l:LI} (h:starts c xs=(l,true)):feet c xs=true↔∀q:Int,0≤q→q<c.p→∀x∈l,x≤q→q<x+(aInfo c xs x).l→cel xs (c.foot q)=wantF c xs x q:=by
 have hc:=(starts_iff (by omega)).1 h
 have e:(c.p.toNat:Int)=c.p:=by omega
 unfold feet
 rw [h]
 cases l with
 |nil=>have:(0:Int)=c.p:=hc;omega
 |cons a r=>
  have ha:(0:Int)=a:=hc.1
  have hc':Ch c xs a (a::r):=by rw [←ha] at hc ⊢;exact hc
  have hl:=hc.2.2.2.2.1
  rw [feetF_iff (a::r) c.p.toNat 0 a r rfl hc' (by omega) (by rw [←ha];omega)]
  constructor
  ·intro g q g1 g2;exact g q (by omega) g2
  ·intro g q g1 g2;exact g q (by omega) g2
def spOf (c:Cf) (xs:LI) (x:Int):Sp:=⟨(aInfo c xs x).k,(aInfo c xs x).l,(aInfo c xs x).c⟩
theorem tl_of:∀(l:LI) (a:Int),Ch c xs a l→(∀q:Int,a≤q→q<c.p→q∈l∨cel xs (c.info q)=0)→(∀q:Int,a≤q→q<c.p→∀x∈l,x≤q→q<x+(aInfo c xs x).l→cel xs (c.foot q)=wantF c xs x q)→Tl (Mm.of c xs) a (l.map (spOf c xs)) c.p
 |[],a,h,_,_=>h
 |x::l,a,⟨h1,h2,h3,h4,h5,h6⟩,ht,hf=>by
  have hge:=Ch.ge h6
  have hle:=Ch.le h6
  subst h1
  have hle':a+(aInfo c xs a).l≤c.p:=by omega
  have hsp:(spOf c xs a).l=(aInfo c xs a).l:=rfl
  refine ⟨?_,?_⟩
  ·exact {l1:=h5,rt:=iGet_right (cel xs (c.info a)),k0:=h4,inf:=rfl,iok:=h3,
          in0:= λq g1 g2=>by
           rcases ht q (by omega) (by rw [hsp] at g2;omega) with h|h
           ·rcases iG.1 h with h|h
            ·omega
            ·have:=hge q h;rw [hsp] at g2;omega
           ·exact h,
          ft0:= λq g1 g2=>by
           rw [hsp] at g2
           have:=hf q g1 (by omega) a (by simp) g1 (by omega)
           unfold wantF at this
           rw [show (q==a+(aInfo c xs a).l-1)=false by simp;omega] at this
           exact this,
          ft:=by
           have:=hf (a+(aInfo c xs a).l-1) (by omega) (by omega) a (by simp) (by omega) (by omega)
           unfold wantF at this
           rw [show (a+(aInfo c xs a).l-1==a+(aInfo c xs a).l-1)=true by simp] at this
           exact this}
  ·refine tl_of l _ h6 (λq g1 g2=>?_) λq g1 g2 y hy=>hf q (by have:a+(spOf c xs a).l≤q:=g1;omega) g2 y (by simp [hy])
   have g1':a+(aInfo c xs a).l≤q:=g1
   rcases ht q (by omega) g2 with h|h
   ·rcases iG.1 h with h|h
    ·omega
    ·exact .inl h
   ·exact .inr h
theorem ch_of_tl:∀(L:List Sp) (a:Int),Tl (Mm.of c xs) a L c.p→Ch c xs a (begs a L)∧(∀q:Int,a≤q→q<c.p→q∈begs a L∨cel xs (c.info q)=0)∧(∀q:Int,a≤q→q<c.p→∀x∈begs a L,x≤q→q<x+(aInfo c xs x).l→cel xs (c.foot q)=wantF c xs x q)∧(begs a L).map (spOf c xs)=L
 |[],a,h=>⟨h, λq g1 g2=>(by have h:a=c.p:=h;omega), λq g1 g2 x hx=>(by cases hx),rfl⟩
 |x::L,a,⟨h,h2⟩=>by
  obtain ⟨i1,i2,i3,i4⟩:=ch_of_tl L _ h2
  have hl:=h.l1
  have hle:=Tl.le h2
  have hinf:aInfo c xs a=⟨x.k,x.l,x.c⟩:=h.inf
  have hal:(aInfo c xs a).l=x.l:=by rw [hinf]
  have hge:=Ch.ge i1
  refine ⟨⟨rfl,by omega,h.iok,by rw [hinf];exact h.k0,by omega,by rw [hal];exact i1⟩, λq g1 g2=>?_, λq g1 g2 y hy g3 g4=>?_,?_⟩
  ·by_cases hq:q=a
   ·left;rw [hq];simp [begs]
   ·by_cases hq2:q<a+x.l
    ·right;exact h.in0 q (by omega) hq2
    ·rcases i2 q (by omega) g2 with g|g
     ·left;simp only [begs,iG];exact .inr g
     ·exact .inr g
  ·simp only [begs,iG] at hy
   by_cases hya:y=a
   ·subst hya
    unfold wantF
    by_cases hq:q=y+(aInfo c xs y).l-1
    ·rw [show (q==y+(aInfo c xs y).l-1)=true by simpa using hq,cond_true,hq,hal]
     exact h.ft
    ·rw [show (q==y+(aInfo c xs y).l-1)=false by simpa using hq,cond_false]
     exact h.ft0 q g1 (by omega)
   ·rcases hy with hy|hy
    ·exact absurd hy hya
    ·have:=hge y hy
     exact i3 q (by omega) g2 y hy g3 g4
  ·simp only [begs,iK,i4,spOf,hinf]
theorem upto_iff {P:Int→Prop} {k:Nat} {b:Bool} {rest:Bool} (hb:b=true↔P (c.p-(k+1:Nat))) (hr:rest=true↔∀q:Int,c.p-k≤q→q<c.p→P q):(b&&rest)=true↔∀q:Int,c.p-(k+1:Nat)≤q→q<c.p→P q:=by
 rw [iE,hb,hr]
 constructor
 ·rintro ⟨h1,h2⟩ q g1 g2
  by_cases hq:q=c.p-(k+1:Nat)
  ·rw [hq];exact h1
  ·exact h2 q (by push_cast at hq g1;omega) g2
 ·intro h
  exact ⟨h _ (mC _) (by push_cast;omega), λq g1 g2=>h q (by push_cast;omega) g2⟩
def inL (c:Cf) (xs:LI) (q:Int):Bool:=(aInfo c xs q).k==1||((aInfo c xs q).k==3&&!full (cel xs (c.taken q)) (aInfo c xs q).c)
theorem looseF_iff:∀k:Nat,looseF c xs k=true↔∀q:Int,c.p-k≤q→q<c.p→(inL c xs q=true∨(cel xs (c.next q)=0∧cel xs (c.prev q)=0))
 |0=>by
  simp only [looseF,true_iff]
  intro q h1 h2;omega
 |k+1=>by
  have e:looseF c xs (k+1)=((inL c xs (c.p-(k+1:Nat))||(cel xs (c.next (c.p-(k+1:Nat)))==0&&cel xs (c.prev (c.p-(k+1:Nat)))==0))&&looseF c xs k):=by
   simp only [looseF,inL,bne]
   cases ((aInfo c xs (c.p-(k+1:Nat))).k==1||((aInfo c xs (c.p-(k+1:Nat))).k==3&&!full (cel xs (c.taken (c.p-(k+1:Nat)))) (aInfo c xs (c.p-(k+1:Nat))).c))<;>cases cel xs (c.next (c.p-(k+1:Nat)))==0<;>cases cel xs (c.prev (c.p-(k+1:Nat)))==0<;>simp
  rw [e]
  exact upto_iff (P:= λq=>inL c xs q=true∨(cel xs (c.next q)=0∧cel xs (c.prev q)=0)) (by simp only [lG,iE,beq_iff_eq]) (looseF_iff k)
theorem apartF_iff (l:LI):∀k:Nat,k<l.length→(apartF c xs l k=true↔∀i:Nat,l.length-k≤i→i<l.length→¬((aInfo c xs (l.getD i 0)).k=1∧(aInfo c xs (l.getD (i-1) 0)).k=1))
 |0,_=>by
  simp only [apartF,true_iff]
  intro i h1 h2;omega
 |k+1,hk=>by
  simp only [apartF]
  have ih:=apartF_iff l k (by omega)
  cases hc:(aInfo c xs (l.getD (l.length-(k+1)) 0)).k==1&&(aInfo c xs (l.getD (l.length-(k+1)-1) 0)).k==1 with
  |true=>
   simp only [cond_true,reduceCtorEq,false_iff]
   intro h
   simp only [iE,beq_iff_eq] at hc
   exact h (l.length-(k+1)) (kF _) (by omega) hc
  |false=>
   simp only [cond_false]
   rw [ih]
   constructor
   ·intro h i g1 g2
    by_cases hi:i=l.length-(k+1)
    ·subst hi
     rintro ⟨h1,h2⟩
     rw [h1,h2] at hc;cases hc
    ·exact h i (by omega) g2
   ·intro h i g1 g2
    exact h i (by omega) g2
theorem uptoN {P:Int→Prop} {N:Int} {k:Nat} {b:Bool} {rest:Bool} (hb:b=true↔P (N-(k+1:Nat))) (hr:rest=true↔∀q:Int,N-k≤q→q<N→P q):(b&&rest)=true↔∀q:Int,N-(k+1:Nat)≤q→q<N→P q:=by
 rw [iE,hb,hr]
 constructor
 ·rintro ⟨h1,h2⟩ q g1 g2
  by_cases hq:q=N-(k+1:Nat)
  ·rw [hq];exact h1
  ·exact h2 q (by push_cast at hq g1;omega) g2
 ·intro h
  exact ⟨h _ (mC _) (by push_cast;omega), λq g1 g2=>h q (by push_cast;omega) g2⟩
def badBit (c:Cf) (xs:LI) (p:Int) (i:If) (b:Int):Bool:=(bitAt (cel xs (c.slots p)) b&&!bitAt (cel xs (c.taken p)) b)||(bitAt (cel xs (c.taken p)) b&&((i.k !=3)||decide (b≥kSlots i.c)))
theorem slotsB_iff (p:Int) (i:If):∀k:Nat,slotsB c xs p i k=true↔∀b:Int,32-k≤b→b<32→badBit c xs p i b=false
 |0=>by
  simp only [slotsB,true_iff]
  intro b h1 h2;omega
 |k+1=>by
  have e:slotsB c xs p i (k+1)=(!badBit c xs p i (32-(k+1:Nat))&&slotsB c xs p i k):=by
   simp only [slotsB]
   show (bif badBit c xs p i (32-(k+1:Nat)) then false else slotsB c xs p i k)=_
   cases badBit c xs p i (32-(k+1:Nat))<;>simp
  rw [e]
  exact uptoN (P:= λb=>badBit c xs p i b=false) (by simp) (slotsB_iff p i k)
theorem slotsF_iff:∀k:Nat,slotsF c xs k=true↔∀q:Int,c.p-k≤q→q<c.p→(slotsB c xs q (aInfo c xs q) 32&&!((aInfo c xs q).k==3&&cel xs (c.taken q)==0))=true
 |0=>by
  simp only [slotsF,true_iff]
  intro q h1 h2;omega
 |k+1=>by
  have e:slotsF c xs (k+1)=((slotsB c xs (c.p-(k+1:Nat)) (aInfo c xs (c.p-(k+1:Nat))) 32&&!((aInfo c xs (c.p-(k+1:Nat))).k==3&&cel xs (c.taken (c.p-(k+1:Nat)))==0))&&slotsF c xs k):=by
   simp only [slotsF]
   cases slotsB c xs (c.p-(k+1:Nat)) (aInfo c xs (c.p-(k+1:Nat))) 32<;>cases ((aInfo c xs (c.p-(k+1:Nat))).k==3&&cel xs (c.taken (c.p-(k+1:Nat)))==0)<;>simp
  rw [e]
  exact uptoN (P:= λq=>(slotsB c xs q (aInfo c xs q) 32&&!((aInfo c xs q).k==3&&cel xs (c.taken q)==0))=true) Iff.rfl (slotsF_iff k)
theorem onceF_iff (l:LI) (g:Int→Bool):∀k:Nat,onceF c l g k=true↔∀q:Int,c.p-k≤q→q<c.p→inA l q=bif g q then 1 else 0
 |0=>by
  simp only [onceF,true_iff]
  intro q h1 h2;omega
 |k+1=>by
  have e:onceF c l g (k+1)=((inA l (c.p-(k+1:Nat))==(bif g (c.p-(k+1:Nat)) then 1 else 0))&&onceF c l g k):=by
   simp only [onceF,bne]
   cases inA l (c.p-(k+1:Nat))==(bif g (c.p-(k+1:Nat)) then 1 else 0)<;>simp
  rw [e]
  exact uptoN (P:= λq=>inA l q=bif g q then 1 else 0) (by simp only [beq_iff_eq]) (onceF_iff l g k)
def binOk (c:Cf) (xs:LI) (j:Int):Bool:=(listA c xs (cBin j)).2&&onceF c (listA c xs (cBin j)).1 (binned c xs · j) c.p.toNat
theorem binsF_iff:∀k:Nat,binsF c xs k=true↔∀j:Int,11-k≤j→j<11→binOk c xs j=true
 |0=>by
  simp only [binsF,true_iff]
  intro q h1 h2;omega
 |k+1=>by
  have e:binsF c xs (k+1)=(binOk c xs (11-(k+1:Nat))&&binsF c xs k):=by
   simp only [binsF,binOk]
   cases (listA c xs (cBin (11-(k+1:Nat)))).2<;>cases onceF c (listA c xs (cBin (11-(k+1:Nat)))).1 (binned c xs · (11-(k+1:Nat))) c.p.toNat<;>simp
  rw [e]
  exact uptoN (P:= λj=>binOk c xs j=true) Iff.rfl (binsF_iff k)
def rackOk (c:Cf) (xs:LI) (j:Int):Bool:=(listA c xs (cRack j)).2&&onceF c (listA c xs (cRack j)).1 (racked c xs · j) c.p.toNat
theorem racksF_iff:∀k:Nat,racksF c xs k=true↔∀j:Int,9-k≤j→j<9→rackOk c xs j=true
 |0=>by
  simp only [racksF,true_iff]
  intro q h1 h2;omega
 |k+1=>by
  have e:racksF c xs (k+1)=(rackOk c xs (9-(k+1:Nat))&&racksF c xs k):=by
   simp only [racksF,rackOk]
   cases (listA c xs (cRack (9-(k+1:Nat)))).2<;>cases onceF c (listA c xs (cRack (9-(k+1:Nat)))).1 (racked c xs · (9-(k+1:Nat))) c.p.toNat<;>simp
  rw [e]
  exact uptoN (P:= λj=>rackOk c xs j=true) Iff.rfl (racksF_iff k)
theorem inA_count (l:LI) (q:Int):inA l q=(l.count q:Int):=by
 unfold inA
 rw [List.count,List.countP_eq_length_filter]
theorem nodup_pages {p:Int} {l:LI} (hn:l.Nodup) (h:∀x∈l,0≤x∧x<p):l.length≤p.toNat:=nodup_len' hn h
def LsOk (c:Cf) (m:Mm) (h:Hq) (g:Int→Bool) (l:LI):Prop:=DL m c.p h l∧l.Nodup∧∀q:Int,q∈l↔(0≤q∧q<c.p)∧g q=true
theorem lst_iff (hx:AGood c xs) (hd:Int) (h:Hq) (hh:(Mm.of c xs).hd h=cel xs hd) (g:Int→Bool):((listA c xs hd).2&&onceF c (listA c xs hd).1 g c.p.toNat)=true↔∃l,LsOk c (Mm.of c xs) h g l:=by
 have hok:=Cf.ok_iff.1 hx.ok
 have hbd:=cel_bd hx hd
 rw [iE,onceF_iff]
 constructor
 ·rintro ⟨h1,h2⟩
  unfold listA at h1 h2
  obtain ⟨l,b',e1,e2,_⟩:=listF_dl hx _ _ _ _ hbd.1 h1
  rw [e1,nL] at h2
  have hpg:=Sg'.pages e2
  refine ⟨l,⟨b',by rw [hh];exact e2⟩,?_, λq=>?_⟩
  ·rw [List.nodup_iff_count]
   intro q
   by_cases hq:q∈l
   ·have:=h2 q (by have:=hpg q hq;omega) (hpg q hq).2
    rw [inA_count] at this
    cases hg:g q<;>rw [hg] at this<;>simp only [cond_true,cond_false] at this<;>omega
   ·rw [List.count_eq_zero.2 hq];omega
  ·constructor
   ·intro hq
    refine ⟨hpg q hq,?_⟩
    have:=h2 q (by have:=hpg q hq;omega) (hpg q hq).2
    rw [inA_count] at this
    have hc:=List.count_pos_iff.2 hq
    cases hg:g q with
    |true=>rfl
    |false=>rw [hg] at this;simp only [cond_false] at this;omega
   ·rintro ⟨h3,h4⟩
    have:=h2 q (by omega) h3.2
    rw [inA_count,h4] at this
    simp only [cond_true] at this
    exact List.count_pos_iff.1 (by omega)
 ·rintro ⟨l,⟨b',h1⟩,h2,h3⟩
  rw [hh] at h1
  have hpg:=Sg'.pages h1
  have hl:=nodup_pages h2 hpg
  have e:=dl_listF hx l (c.p.toNat+2) _ _ _ [] h1 (by omega) (by simp;omega)
  have e':listA c xs hd=(l,true):=by unfold listA;rw [e];simp
  rw [e']
  refine ⟨rfl, λq g1 g2=>?_⟩
  rw [inA_count]
  cases hg:g q with
  |true=>
   have hm:=(h3 q).2 ⟨⟨by omega,g2⟩,hg⟩
   have a1:=List.count_pos_iff.2 hm
   have a2:=(List.nodup_iff_count.1 h2) q
   simp only [cond_true];omega
  |false=>
   have hm:q ∉ l:= λhm=>by
    have:=((h3 q).1 hm).2
    rw [hg] at this;cases this
   rw [List.count_eq_zero.2 hm];rfl
def ifM (m:Mm) (q:Int):If:=iGet (m.info q)
def inM (m:Mm) (q:Int):Bool:=(ifM m q).k==1||((ifM m q).k==3&&!full (m.taken q) (ifM m q).c)
def binM (m:Mm) (k q:Int):Bool:=(ifM m q).k==1&&logI (ifM m q).l==k
def rackM (m:Mm) (k q:Int):Bool:=(ifM m q).k==3&&(ifM m q).c==k&&!full (m.taken q) k
def badM (m:Mm) (q b:Int):Bool:=(bitAt (m.slots q) b&&!bitAt (m.taken q) b)||(bitAt (m.taken q) b&&(((ifM m q).k !=3)||decide (b≥kSlots (ifM m q).c)))
structure SndM (c:Cf) (m:Mm) (L:List Sp):Prop where
 tl:Tl m 0 L c.p
 ap:∀i:Nat,i+1<L.length→¬((L.getD i ⟨0,0,0⟩).k=1∧(L.getD (i+1) ⟨0,0,0⟩).k=1)
 bits:∀q:Int,0≤q→q<c.p→∀b:Int,0≤b→b<32→badM m q b=false
 some:∀q:Int,0≤q→q<c.p→((ifM m q).k==3&&m.taken q==0)=false
 bins:∀k:Int,0≤k→k<11→∃l,LsOk c m (.bin k) (binM m k) l
 racks:∀k:Int,0≤k→k<9→∃l,LsOk c m (.rack k) (rackM m k) l
 loose:∀q:Int,0≤q→q<c.p→inM m q=true∨(m.next q=0∧m.prev q=0)
theorem snd_of (hb:bdAll xs) (h:soundA c xs=true):AGood c xs∧(∃L,SndM c (Mm.of c xs) L)∧counts c xs=true∧rootsOk c xs=true:=by
 rw [soundA_eq] at h
 unfold soundB at h
 simp only [iE,beq_iff_eq] at h
 obtain ⟨⟨⟨⟨⟨⟨⟨⟨⟨⟨h1,h2⟩,h3⟩,h4⟩,h5⟩,h6⟩,h7⟩,h8⟩,h9⟩,h10⟩,h11⟩:=h
 have hx:AGood c xs:={ok:=h1,len:=h2,bd:=hb}
 have hok:=Cf.ok_iff.1 h1
 have ep:(c.p.toNat:Int)=c.p:=by omega
 obtain ⟨l,e1,e2,e3⟩:=(tiles_iff (by omega)).1 h3
 refine ⟨hx,⟨l.map (spOf c xs),?_⟩,h10,h11⟩
 exact
  {tl:=tl_of l 0 e2 e3 ((feet_iff (by omega) e1).1 h4)
   ap:= λi hi=>by
    rw [kK] at hi
    have hl:1≤l.length:=by omega
    unfold apart at h5
    rw [e1] at h5
    have:=(apartF_iff l (l.length-1) (by omega)).1 h5 (i+1) (by omega) hi
    have g:∀j,j<l.length→(l.map (spOf c xs)).getD j ⟨0,0,0⟩=spOf c xs (l.getD j 0):= λj hj=>by
     rw [iD,iD,iR,iN hj];rfl
    rw [g i (by omega),g (i+1) hi]
    rintro ⟨a,b⟩
    exact this ⟨b,a⟩
   bits:= λq g1 g2 b g3 g4=>by
    have:=(slotsF_iff c.p.toNat).1 h6 q (by omega) g2
    simp only [iE] at this
    exact (slotsB_iff q _ 32).1 this.1 b (by omega) g4
   some:= λq g1 g2=>by
    have:=(slotsF_iff c.p.toNat).1 h6 q (by omega) g2
    simp only [iE,jO] at this
    exact this.2
   bins:= λk g1 g2=>by
    have:=(binsF_iff 11).1 h7 k (by omega) g2
    exact (lst_iff hx (cBin k) (.bin k) rfl _).1 this
   racks:= λk g1 g2=>by
    have:=(racksF_iff 9).1 h8 k (by omega) g2
    exact (lst_iff hx (cRack k) (.rack k) rfl _).1 this
   loose:= λq g1 g2=>(looseF_iff c.p.toNat).1 h9 q (by omega) g2}
theorem snd_to {L:List Sp} (hx:AGood c xs) (S:SndM c (Mm.of c xs) L) (h10:counts c xs=true) (h11:rootsOk c xs=true):soundA c xs=true:=by
 have hok:=Cf.ok_iff.1 hx.ok
 have ep:(c.p.toNat:Int)=c.p:=by omega
 obtain ⟨i1,i2,i3,i4⟩:=ch_of_tl L 0 S.tl
 have e:=(starts_iff (by omega)).2 i1
 have hll:(begs 0 L).length=L.length:=by rw [←congrArg iF i4];simp
 have h3:tiles c xs=true:=(tiles_iff (by omega)).2 ⟨_,e,i1,i2⟩
 have h4:feet c xs=true:=(feet_iff (by omega) e).2 i3
 have h5:apart c xs=true:=by
  unfold apart
  rw [e]
  simp only
  by_cases h0:(begs 0 L).length=0
  ·rw [h0];rfl
  ·refine (apartF_iff (begs 0 L) _ (by omega)).2 λi g1 g2=>?_
   have g:∀j,j<(begs 0 L).length→L.getD j ⟨0,0,0⟩=spOf c xs ((begs 0 L).getD j 0):= λj hj=>by
    have:((begs 0 L).map (spOf c xs)).getD j ⟨0,0,0⟩=spOf c xs ((begs 0 L).getD j 0):=by
     rw [iD,iD,iR,iN hj];rfl
    rw [i4] at this;exact this
   have:=S.ap (i-1) (by omega)
   rw [show i-1+1=i by omega,g i g2,g (i-1) (by omega)] at this
   rintro ⟨a,b⟩
   exact this ⟨b,a⟩
 have h6:slotsOk c xs=true:=(slotsF_iff c.p.toNat).2 λq g1 g2=>by
  have a:=S.some q (by omega) g2
  simp only [iE,jO]
  exact ⟨(slotsB_iff q _ 32).2 λb g3 g4=>S.bits q (by omega) g2 b (by omega) g4,a⟩
 have h7:bins c xs=true:=(binsF_iff 11).2 λk g1 g2=>(lst_iff hx (cBin k) (.bin k) rfl _).2 (S.bins k (by omega) g2)
 have h8:racks c xs=true:=(racksF_iff 9).2 λk g1 g2=>(lst_iff hx (cRack k) (.rack k) rfl _).2 (S.racks k (by omega) g2)
 have h9:loose c xs=true:=(looseF_iff c.p.toNat).2 λq g1 g2=>S.loose q (by omega) g2
 rw [soundA_eq]
 unfold soundB
 simp only [hx.ok,hx.len,h3,h4,h5,h6,h7,h8,h9,h10,h11,beq_self_eq_true,qJ]
def smF (f:Int→Int):Nat→Int
 |0=>0
 |k+1=>smF f k+f k
theorem smF_congr {f g:Int→Int}:∀{n:Nat},(∀q:Int,0≤q→q<n→f q=g q)→smF f n=smF g n
 |0,_=>rfl
 |n+1,h=>by
  simp only [smF]
  rw [smF_congr (n:=n) λq a b=>h q a (by push_cast;omega),h n (by omega) (by push_cast;omega)]
theorem smF_one {f g:Int→Int} {a:Int}:∀{n:Nat},0≤a→a<n→(∀q:Int,0≤q→q<n→q≠a→f q=g q)→smF f n=smF g n+(f a-g a)
 |0,h1,h2,_=>by omega
 |n+1,h1,h2,h=>by
  simp only [smF]
  by_cases e:a=n
  ·rw [smF_congr (f:=f) (g:=g) λq a b=>h q a (by push_cast;omega) (by omega),←e];omega
  ·have h3:f n=g n:=h n (by omega) (by push_cast;omega) (by omega)
   have:=smF_one (f:=f) (g:=g) (n:=n) h1 (by push_cast at h2;omega) λq a b d=>h q a (by push_cast;omega) d
   rw [this,h3];omega
def frP (m:Mm) (q:Int):Int:=bif (ifM m q).k==1 then (ifM m q).l else 0
def lvP (m:Mm) (q:Int):Int:=(bif (ifM m q).k==2 then 1 else 0)+ones (m.slots q)
def CntM (c:Cf) (m:Mm):Prop:=m.fr=nv (smF (frP m) c.p.toNat)∧m.lv=nv (smF (lvP m) c.p.toNat)
theorem countsF_sm:∀n:Nat,countsF c xs n=(smF (frP (Mm.of c xs)) n,smF (lvP (Mm.of c xs)) n)
 |0=>rfl
 |n+1=>by
  simp only [countsF,countsF_sm n,smF]
  refine Prod.ext rfl ?_
  show _+_+_=_+(_+_)
  rw [Int.add_assoc];rfl
theorem counts_iff:counts c xs=true↔CntM c (Mm.of c xs):=by
 unfold counts CntM
 rw [countsF_sm,iE,beq_iff_eq,beq_iff_eq]
 exact Iff.rfl
def slB (c:Cf) (m:Mm) (q k:Int):Nat→List Pt
 |0=>[]
 |n+1=>slB c m q k n++bif bitAt (m.slots q) n then [⟨2,(q+1)*pgB c.s+n*szB c.s k,szB c.s k⟩] else []
def blkP (c:Cf) (m:Mm) (q:Int):List Pt:=bif (ifM m q).k==2 then [⟨2,(q+1)*pgB c.s,(ifM m q).l*pgB c.s⟩] else bif (ifM m q).k==3 then slB c m q (ifM m q).c (kSlots (ifM m q).c).toNat else []
def blkF (c:Cf) (m:Mm):Nat→List Pt
 |0=>[]
 |n+1=>blkF c m n++blkP c m n
theorem slB_of (g k:Int):∀n:Nat,(slabF c xs g k n).filter (λx=>x.k==2)=slB c (Mm.of c xs) g k n
 |0=>rfl
 |n+1=>by
  have e:(slabKind c xs g n==2)=bitAt (cel xs (c.slots g)) n:=by
   unfold slabKind
   cases bitAt (cel xs (c.slots g)) n<;>cases bitAt (cel xs (c.taken g)) n<;>rfl
  simp only [slabF,slB,kX,slB_of g k n]
  congr 1
  simp only [slabPt,mT,List.filter_nil,e]
  show _=bif bitAt (cel xs (c.slots g)) n then _ else _
  cases h:bitAt (cel xs (c.slots g)) n with
  |true=>
   have:slabKind c xs g n=2:=by rw [h] at e;simpa using e
   simp [this]
  |false=>simp
theorem blkP_of (g:Int):(partsOf c xs g).filter (λx=>x.k==2)=blkP c (Mm.of c xs) g:=by
 unfold partsOf blkP
 have e:ifM (Mm.of c xs) g=aInfo c xs g:=rfl
 rw [e]
 simp only
 cases h2:(aInfo c xs g).k==2 with
 |true=>
  have h2':(aInfo c xs g).k=2:=by simpa using h2
  simp [h2']
 |false=>
  cases h1:(aInfo c xs g).k==1 with
  |true=>
   have h1':(aInfo c xs g).k=1:=by simpa using h1
   simp [h1']
  |false=>
   cases h3:(aInfo c xs g).k==3 with
   |false=>simp
   |true=>
    simp only [Bool.or_self,cond_false,cond_true]
    unfold slabL
    cases decide (0<slabRest c (aInfo c xs g).c) with
    |false=>simp only [cond_false];exact slB_of _ _ _
    |true=>
     simp only [cond_true,kX,slB_of]
     simp
theorem blkF_of:∀n:Nat,(partsF c xs n).filter (λx=>x.k==2)=blkF c (Mm.of c xs) n
 |0=>rfl
 |n+1=>by rw [partsF,kX,blkF_of n,blkP_of];rfl
theorem blocks_eq:blocksL c xs=blkF c (Mm.of c xs) c.p.toNat:=blkF_of _
theorem blkF_congr {m m':Mm}:∀{n:Nat},(∀q:Int,0≤q→q<n→blkP c m' q=blkP c m q)→blkF c m' n=blkF c m n
 |0,_=>rfl
 |n+1,h=>by
  simp only [blkF]
  rw [blkF_congr (n:=n) λq a b=>h q a (by push_cast;omega),h n (by omega) (by push_cast;omega)]
theorem blkP_congr {m m':Mm} {q:Int} (h1:m'.info q=m.info q) (h2:m'.slots q=m.slots q):blkP c m' q=blkP c m q:=by
 have e:ifM m' q=ifM m q:=by unfold ifM;rw [h1]
 have e2:∀k n,slB c m' q k n=slB c m q k n:= λk n=>by
  induction n with
  |zero=>rfl
  |succ n ih=>simp only [slB,ih,h2]
 unfold blkP
 rw [e,e2]
theorem mem_blkF {m:Mm} {x:Pt}:∀{n:Nat},x∈blkF c m n↔∃q:Int,0≤q∧q<n∧x∈blkP c m q
 |0=>by
  constructor
  ·intro h;cases h
  ·rintro ⟨q,h1,h2,_⟩;omega
 |n+1=>by
  rw [blkF,kC,mem_blkF (n:=n)]
  constructor
  ·rintro (⟨q,h1,h2,h3⟩|h)
   ·exact ⟨q,h1,by push_cast;omega,h3⟩
   ·exact ⟨n,by omega,by push_cast;omega,h⟩
  ·rintro ⟨q,h1,h2,h3⟩
   by_cases e:q=n
   ·subst e;exact .inr h3
   ·exact .inl ⟨q,h1,by push_cast at h2;omega,h3⟩
def RootM (c:Cf) (m:Mm):Prop:=∀k:Int,0≤k→k<8→m.root k=0∨∃x∈blkF c m c.p.toNat,x.a=m.root k
theorem rootsF_iff (l:LI):∀k:Nat,rootsF xs l k=true↔∀q:Int,8-k≤q→q<8→(cel xs (cRoot q)=0∨cel xs (cRoot q)∈l)
 |0=>by
  simp only [rootsF,true_iff]
  intro q h1 h2;omega
 |k+1=>by
  have e:rootsF xs l (k+1)=((cel xs (cRoot (8-(k+1:Nat)))==0||l.contains (cel xs (cRoot (8-(k+1:Nat)))))&&rootsF xs l k):=by
   simp only [rootsF,bne]
   cases cel xs (cRoot (8-(k+1:Nat)))==0<;>cases l.contains (cel xs (cRoot (8-(k+1:Nat))))<;>simp
  rw [e]
  exact uptoN (P:= λq=>cel xs (cRoot q)=0∨cel xs (cRoot q)∈l) (by simp) (rootsF_iff l k)
theorem roots_iff:rootsOk c xs=true↔RootM c (Mm.of c xs):=by
 unfold rootsOk RootM
 rw [rootsF_iff,blocks_eq]
 constructor
 ·intro h k g1 g2
  rcases h k (by omega) g2 with h|h
  ·exact .inl h
  ·obtain ⟨x,h1,h2⟩:=kZ.1 h
   exact .inr ⟨x,h1,h2⟩
 ·intro h k g1 g2
  rcases h k (by omega) g2 with h|⟨x,h1,h2⟩
  ·exact .inl h
  ·exact .inr (kZ.2 ⟨x,h1,h2⟩)
structure SoundM (c:Cf) (m:Mm) (L:List Sp):Prop where
 snd:SndM c m L
 cnt:CntM c m
 rts:RootM c m
theorem sound_iff (hb:bdAll xs):soundA c xs=true↔AGood c xs∧∃L,SoundM c (Mm.of c xs) L:=by
 constructor
 ·intro h
  obtain ⟨h1,⟨L,h2⟩,h3,h4⟩:=snd_of hb h
  exact ⟨h1,L,h2,counts_iff.1 h3,roots_iff.1 h4⟩
 ·rintro ⟨h1,L,h2⟩
  exact snd_to h1 h2.snd (counts_iff.2 h2.cnt) (roots_iff.2 h2.rts)
end
end
section
open Go.Sl
structure MEq (c:Cf) (m m':Mm):Prop where
 info:∀q:Int,0≤q→q<c.p→m'.info q=m.info q
 foot:∀q:Int,0≤q→q<c.p→m'.foot q=m.foot q
 next:∀q:Int,0≤q→q<c.p→m'.next q=m.next q
 prev:∀q:Int,0≤q→q<c.p→m'.prev q=m.prev q
 slots:∀q:Int,0≤q→q<c.p→m'.slots q=m.slots q
 taken:∀q:Int,0≤q→q<c.p→m'.taken q=m.taken q
 bin:∀k:Int,0≤k→k<11→m'.bin k=m.bin k
 rack:∀k:Int,0≤k→k<9→m'.rack k=m.rack k
 root:∀k:Int,0≤k→k<8→m'.root k=m.root k
 fr:m'.fr=m.fr
 lv:m'.lv=m.lv
section
variable {c:Cf} {m m':Mm}
theorem ifM_eq {q:Int} (h:m'.info q=m.info q):ifM m' q=ifM m q:=by unfold ifM;rw [h]
theorem inM_eq {q:Int} (h:m'.info q=m.info q) (h2:m'.taken q=m.taken q):inM m' q=inM m q:=by unfold inM;rw [ifM_eq h,h2]
theorem binM_eq {q:Int} (h:m'.info q=m.info q) (k:Int):binM m' k q=binM m k q:=by unfold binM;rw [ifM_eq h]
theorem rackM_eq {q:Int} (h:m'.info q=m.info q) (h2:m'.taken q=m.taken q) (k:Int):rackM m' k q=rackM m k q:=by unfold rackM;rw [ifM_eq h,h2]
theorem badM_eq {q:Int} (h:m'.info q=m.info q) (h1:m'.slots q=m.slots q) (h2:m'.taken q=m.taken q) (b:Int):badM m' q b=badM m q b:=by unfold badM;rw [ifM_eq h,h1,h2]
theorem LsOk.of_eq {h:Hq} {g g':Int→Bool} {l:LI} (H:LsOk c m h g l) (e0:m'.hd h=m.hd h) (e1:∀q∈l,m'.next q=m.next q) (e2:∀q∈l,m'.prev q=m.prev q) (e3:∀q:Int,0≤q→q<c.p→g' q=g q):LsOk c m' h g' l:=by
 obtain ⟨⟨b',h1⟩,h2,h3⟩:=H
 refine ⟨⟨b',?_⟩,h2, λq=>?_⟩
 ·rw [e0];exact Sg'.of_eq h1 e1 e2
 ·rw [h3 q]
  constructor
  ·rintro ⟨a,b⟩;exact ⟨a,by rw [e3 q a.1 a.2];exact b⟩
  ·rintro ⟨a,b⟩;exact ⟨a,by rw [←e3 q a.1 a.2];exact b⟩
theorem LsOk.pg {h:Hq} {g:Int→Bool} {l:LI} (H:LsOk c m h g l) {q:Int} (hq:q∈l):0≤q∧q<c.p:=((H.2.2 q).1 hq).1
theorem SndM.congr {L:List Sp} (S:SndM c m L) (e:MEq c m m'):SndM c m' L:=
 {tl:=Tl.of_eq S.tl (λq a b=>e.info q a b) λq a b=>e.foot q a b
  ap:=S.ap
  bits:= λq a b k g1 g2=>by rw [badM_eq (e.info q a b) (e.slots q a b) (e.taken q a b)];exact S.bits q a b k g1 g2
  some:= λq a b=>by rw [ifM_eq (e.info q a b),e.taken q a b];exact S.some q a b
  bins:= λk a b=>by
   obtain ⟨l,h⟩:=S.bins k a b
   exact ⟨l,h.of_eq (e.bin k a b) (λq hq=>e.next q (h.pg hq).1 (h.pg hq).2) (λq hq=>e.prev q (h.pg hq).1 (h.pg hq).2) λq g1 g2=>binM_eq (e.info q g1 g2) k⟩
  racks:= λk a b=>by
   obtain ⟨l,h⟩:=S.racks k a b
   exact ⟨l,h.of_eq (e.rack k a b) (λq hq=>e.next q (h.pg hq).1 (h.pg hq).2) (λq hq=>e.prev q (h.pg hq).1 (h.pg hq).2) λq g1 g2=>rackM_eq (e.info q g1 g2) (e.taken q g1 g2) k⟩
  loose:= λq a b=>by rw [inM_eq (e.info q a b) (e.taken q a b),e.next q a b,e.prev q a b];exact S.loose q a b}
theorem frP_eq {q:Int} (h:m'.info q=m.info q):frP m' q=frP m q:=by unfold frP;rw [ifM_eq h]
theorem lvP_eq {q:Int} (h:m'.info q=m.info q) (h1:m'.slots q=m.slots q):lvP m' q=lvP m q:=by unfold lvP;rw [ifM_eq h,h1]
theorem blkF_eq (h:∀q:Int,0≤q→q<c.p→m'.info q=m.info q) (h1:∀q:Int,0≤q→q<c.p→m'.slots q=m.slots q):blkF c m' c.p.toNat=blkF c m c.p.toNat:=blkF_congr λq a b=>blkP_congr (h q a (by omega)) (h1 q a (by omega))
theorem CntM.congr (S:CntM c m) (e:MEq c m m'):CntM c m':=by
 unfold CntM at*
 rw [e.fr,e.lv,smF_congr (f:=frP m') (g:=frP m) λq a b=>frP_eq (e.info q a (by omega)),smF_congr (f:=lvP m') (g:=lvP m) λq a b=>lvP_eq (e.info q a (by omega)) (e.slots q a (by omega))]
 exact S
theorem RootM.congr (S:RootM c m) (e:MEq c m m'):RootM c m':= λk a b=>by
 rw [e.root k a b,blkF_eq e.info e.slots];exact S k a b
theorem SoundM.congr {L:List Sp} (S:SoundM c m L) (e:MEq c m m'):SoundM c m' L:=⟨S.snd.congr e,S.cnt.congr e,S.rts.congr e⟩
end
end
section
open Go.Sl
structure ListsM (c:Cf) (m:Mm) (G:Hq→Int→Bool):Prop where
 ls:∀h:Hq,h.ok→∃l,LsOk c m h (G h) l
 lo:∀q:Int,0≤q→q<c.p→(∃h:Hq,h.ok∧G h q=true)∨(m.next q=0∧m.prev q=0)
 one:∀h h':Hq,h.ok→h'.ok→h≠h'→∀q:Int,0≤q→q<c.p→G h q=true→G h' q=true→False
def gAdd (G:Hq→Int→Bool) (h:Hq) (a:Int):Hq→Int→Bool:= λh' q=>G h' q||(decide (h'=h)&&decide (q=a))
def gDel (G:Hq→Int→Bool) (h:Hq) (a:Int):Hq→Int→Bool:= λh' q=>G h' q&&!(decide (h'=h)&&decide (q=a))
section
variable {c:Cf} {m:Mm} {G:Hq→Int→Bool} {h:Hq} {a:Int}
theorem DL.hd_in {l:LI} (H:DL m c.p h l) (h0:m.hd h≠0):m.hd h-1∈l:=by
 obtain ⟨b',H⟩:=H
 cases l with
 |nil=>exact absurd H.1 h0
 |cons x r=>have:=H.1;simp only [iG];left;omega
theorem ListsM.hd_ok (S:ListsM c m G) (hh:h.ok):m.hd h=0∨(0≤m.hd h-1∧m.hd h-1<c.p):=by
 obtain ⟨l,H⟩:=S.ls h hh
 by_cases h0:m.hd h=0
 ·exact .inl h0
 ·exact .inr (H.pg (DL.hd_in (c:=c) H.1 h0))
theorem ListsM.push (S:ListsM c m G) (hh:h.ok) (ha:0≤a∧a<c.p) (hn:∀h':Hq,h'.ok→G h' a=false):ListsM c (mPush m h a) (gAdd G h a):=by
 obtain ⟨l,H⟩:=S.ls h hh
 have hal:a ∉ l:= λe=>by have:=((H.2.2 a).1 e).2;rw [hn h hh] at this;cases this
 refine ⟨λh' hh'=>?_, λq g1 g2=>?_, λh1 h2 k1 k2 hne q g1 g2 e1 e2=>?_⟩
 ·by_cases e:h'=h
  ·subst e
   refine ⟨a::l,push_list H.1 ha hal H.2.1,lK.2 ⟨hal,H.2.1⟩, λq=>?_⟩
   simp only [iG,gAdd,decide_true,nR,lG,decide_eq_true_eq]
   rw [H.2.2 q]
   constructor
   ·rintro (rfl|⟨b1,b2⟩)
    ·exact ⟨ha, .inr rfl⟩
    ·exact ⟨b1, .inl b2⟩
   ·rintro ⟨b1,b2|b2⟩
    ·exact .inr ⟨b1,b2⟩
    ·exact .inl b2
  ·obtain ⟨l',H'⟩:=S.ls h' hh'
   have hal':a ∉ l':= λe=>by have:=((H'.2.2 a).1 e).2;rw [hn h' hh'] at this;cases this
   refine ⟨l',push_other H.1 H'.1 e hal' (λy b1 b2=>?_),H'.2.1, λq=>?_⟩
   ·have c1:=(H.2.2 y).1 b1
    have c2:=(H'.2.2 y).1 b2
    exact S.one h' h hh' hh e y c1.1.1 c1.1.2 c2.2 c1.2
   ·rw [H'.2.2 q]
    have:decide (h'=h)=false:=by simpa using e
    simp only [gAdd,this,oW,pG]
 ·by_cases e:q=a
  ·left;exact ⟨h,hh,by simp [gAdd,e]⟩
  ·rcases S.lo q g1 g2 with ⟨h',k1,k2⟩|⟨k1,k2⟩
   ·left;exact ⟨h',k1,by simp [gAdd,k2]⟩
   ·by_cases e2:m.hd h≠0∧q=m.hd h-1
    ·left
     have:=(H.2.2 q).1 (by rw [e2.2];exact DL.hd_in (c:=c) H.1 e2.1)
     exact ⟨h,hh,by simp [gAdd,this.2]⟩
    ·right
     rw [push_next,push_prev,if_neg e,if_neg e2,if_neg e]
     exact ⟨k1,k2⟩
 ·simp only [gAdd,lG,iE,decide_eq_true_eq] at e1 e2
  rcases e1 with e1|⟨e1,f1⟩<;>rcases e2 with e2|⟨e2,f2⟩
  ·exact S.one h1 h2 k1 k2 hne q g1 g2 e1 e2
  ·rw [f2,hn h1 k1] at e1;cases e1
  ·rw [f1,hn h2 k2] at e2;cases e2
  ·exact hne (e1.trans e2.symm)
theorem nb_in {l1 l2:LI} (H:DL m c.p h (l1++a::l2)):(m.next a≠0→m.next a-1∈l2)∧(m.prev a≠0→m.prev a-1∈l1):=by
 obtain ⟨b',H⟩:=H
 obtain ⟨q1,b1,H1,H2⟩:=Sg'.app.1 H
 obtain ⟨e1,e2,e3,e4⟩:=H2
 constructor
 ·intro h0
  cases l2 with
  |nil=>exact absurd e4.1 h0
  |cons x r=>have:=e4.1;simp only [iG];left;omega
 ·intro h0
  cases l1 with
  |nil=>have h2:=H1.2;exact absurd (e3.trans h2.symm) h0
  |cons x r=>
   obtain ⟨y,hy,e⟩:=Sg'.last H1 (by simp)
   rw [e3,e];simpa using hy
theorem ListsM.nb_ok (S:ListsM c m G) (hh:h.ok) (ha:0≤a∧a<c.p) (hg:G h a=true):(m.next a=0∨(0≤m.next a-1∧m.next a-1<c.p))∧(m.prev a=0∨(0≤m.prev a-1∧m.prev a-1<c.p)):=by
 obtain ⟨l,H⟩:=S.ls h hh
 obtain ⟨l1,l2,e⟩:=List.append_of_mem ((H.2.2 a).2 ⟨ha,hg⟩)
 subst e
 have hn:=nb_in (c:=c) H.1
 constructor
 ·by_cases h0:m.next a=0
  ·exact .inl h0
  ·exact .inr (H.pg (by simp [hn.1 h0]))
 ·by_cases h0:m.prev a=0
  ·exact .inl h0
  ·exact .inr (H.pg (by simp [hn.2 h0]))
theorem ListsM.pull (S:ListsM c m G) (hh:h.ok) (ha:0≤a∧a<c.p) (hg:G h a=true):ListsM c (mPull m h a) (gDel G h a):=by
 obtain ⟨l,H⟩:=S.ls h hh
 have hal:=(H.2.2 a).2 ⟨ha,hg⟩
 obtain ⟨l1,l2,e⟩:=List.append_of_mem hal
 subst e
 have hnd:=H.2.1
 have hnb:=nb_in (c:=c) H.1
 have hna:a ∉ l1++l2:=by
  have:=hnd
  rw [qC] at this
  obtain ⟨n1,n2,n3⟩:=this
  have n4:=lK.1 n2
  rw [kC]
  rintro (e|e)
  ·exact n3 a e a (by simp) rfl
  ·exact n4.1 e
 refine ⟨λh' hh'=>?_, λq g1 g2=>?_, λh1 h2 k1 k2 hne q g1 g2 e1 e2=>?_⟩
 ·by_cases e:h'=h
  ·subst e
   refine ⟨l1++l2,pull_list H.1 hnd,?_, λq=>?_⟩
   ·exact hnd.sublist (List.Sublist.append (List.Sublist.refl l1) (List.sublist_cons_self a l2))
   ·simp only [gDel,decide_true,nR,iE,jO,decide_eq_false_iff_not]
    have hq:=H.2.2 q
    constructor
    ·intro hm
     have h5:=hq.1 (by simp only [kC,iG] at hm ⊢;rcases hm with hm|hm;exact .inl hm;exact .inr (.inr hm))
     exact ⟨h5.1,h5.2, λe=>hna (e▸hm)⟩
    ·rintro ⟨b1,b2,b3⟩
     have:=hq.2 ⟨b1,b2⟩
     simp only [kC,iG] at this ⊢
     rcases this with h5|h5|h5
     ·exact .inl h5
     ·exact absurd h5 b3
     ·exact .inr h5
  ·obtain ⟨l',H'⟩:=S.ls h' hh'
   refine ⟨l',pull_other H.1 hal H'.1 e (λy b1 b2=>?_),H'.2.1, λq=>?_⟩
   ·have c1:=(H.2.2 y).1 b1
    have c2:=(H'.2.2 y).1 b2
    exact S.one h' h hh' hh e y c1.1.1 c1.1.2 c2.2 c1.2
   ·rw [H'.2.2 q]
    have:decide (h'=h)=false:=by simpa using e
    simp only [gDel,this,oW,Bool.not_false,qJ]
 ·by_cases e:q=a
  ·right;rw [pull_next,pull_prev,if_pos e,if_pos e];exact ⟨rfl,rfl⟩
  ·rcases S.lo q g1 g2 with ⟨h',k1,k2⟩|⟨k1,k2⟩
   ·left;exact ⟨h',k1,by simp [gDel,k2,e]⟩
   ·by_cases e1:m.prev a≠0∧q=m.prev a-1
    ·left
     have:=(H.2.2 q).1 (by rw [e1.2];simp [hnb.2 e1.1])
     exact ⟨h,hh,by simp [gDel,this.2,e]⟩
    ·by_cases e2:m.next a≠0∧q=m.next a-1
     ·left
      have:=(H.2.2 q).1 (by rw [e2.2];simp [hnb.1 e2.1])
      exact ⟨h,hh,by simp [gDel,this.2,e]⟩
     ·right
      rw [pull_next,pull_prev,if_neg e,if_neg e,if_neg e1,if_neg e2]
      exact ⟨k1,k2⟩
 ·simp only [gDel,iE] at e1 e2
  exact S.one h1 h2 k1 k2 hne q g1 g2 e1.1 e2.1
def gM (m:Mm):Hq→Int→Bool
 | .bin k=>binM m k
 | .rack k=>rackM m k
structure ShapeM (c:Cf) (m:Mm) (L:List Sp):Prop where
 tl:Tl m 0 L c.p
 ap:∀i:Nat,i+1<L.length→¬((L.getD i ⟨0,0,0⟩).k=1∧(L.getD (i+1) ⟨0,0,0⟩).k=1)
 bits:∀q:Int,0≤q→q<c.p→∀b:Int,0≤b→b<32→badM m q b=false
 some:∀q:Int,0≤q→q<c.p→((ifM m q).k==3&&m.taken q==0)=false
theorem logI_bd {n:Int} (h:1≤n∧n≤1024):0≤logI n∧logI n<11:=by
 unfold logI
 rw [if_neg (by omega)]
 have:Nat.log2 n.toNat<11:=(Nat.log2_lt (by omega)).2 (by omega)
 omega
theorem iGet_one {v:Int} (h:(iGet v).k=1):1≤(iGet v).l∧(iGet v).l≤1024:=by
 have:=iGet_right v
 rw [h] at this
 have e:(decide (1≤(iGet v).l)&&decide ((iGet v).l≤1024)&&((iGet v).c==0))=true:=this
 simp only [iE,decide_eq_true_eq] at e
 exact e.1
theorem iGet_three {v:Int} (h:(iGet v).k=3):0≤(iGet v).c∧(iGet v).c≤8∧(iGet v).l=1:=by
 have:=iGet_right v
 rw [h] at this
 have e:((iGet v).l==1&&(decide (0≤(iGet v).c)&&decide ((iGet v).c≤8)))=true:=this
 simp only [iE,decide_eq_true_eq,beq_iff_eq] at e
 exact ⟨e.2.1,e.2.2,e.1⟩
theorem snd_iff {L:List Sp}:SndM c m L↔ShapeM c m L∧ListsM c m (gM m):=by
 constructor
 ·intro S
  refine ⟨⟨S.tl,S.ap,S.bits,S.some⟩, λh hh=>?_, λq g1 g2=>?_, λh h' k1 k2 hne q g1 g2 e1 e2=>?_⟩
  ·cases h with
   |bin k=>exact S.bins k hh.1 hh.2
   |rack k=>exact S.racks k hh.1 hh.2
  ·rcases S.loose q g1 g2 with h|h
   ·left
    unfold inM at h
    simp only [lG,beq_iff_eq,iE] at h
    rcases h with h|⟨h,h2⟩
    ·refine ⟨.bin (logI (ifM m q).l),logI_bd (iGet_one h),?_⟩
     simp [gM,binM,h]
    ·refine ⟨.rack (ifM m q).c,(by have:=iGet_three h;exact ⟨this.1,(by have:=this.2.1;show (iGet (m.info q)).c<9;omega)⟩),?_⟩
     simp only [gM,rackM,h,h2,beq_self_eq_true,qJ]
   ·exact .inr h
  ·cases h with
   |bin k=>
    cases h' with
    |bin k'=>
     simp only [gM,binM,iE,beq_iff_eq] at e1 e2
     exact hne (by rw [←e1.2,e2.2])
    |rack k'=>
     simp only [gM,binM,rackM,iE,beq_iff_eq] at e1 e2
     rw [e1.1] at e2;exact absurd e2.1.1 (by decide)
   |rack k=>
    cases h' with
    |bin k'=>
     simp only [gM,binM,rackM,iE,beq_iff_eq] at e1 e2
     rw [e2.1] at e1;exact absurd e1.1.1 (by decide)
    |rack k'=>
     simp only [gM,rackM,iE,beq_iff_eq] at e1 e2
     exact hne (by rw [←e1.1.2,e2.1.2])
 ·rintro ⟨S,T⟩
  exact
   {tl:=S.tl,ap:=S.ap,bits:=S.bits,some:=S.some
    bins:= λk a b=>T.ls (.bin k) ⟨a,b⟩
    racks:= λk a b=>T.ls (.rack k) ⟨a,b⟩
    loose:= λq a b=>by
     rcases T.lo q a b with ⟨h,h1,h2⟩|h
     ·left
      cases h with
      |bin k=>
       simp only [gM,binM,iE] at h2
       simp only [inM,h2.1,pQ]
      |rack k=>
       simp only [gM,rackM,iE] at h2
       have e:(ifM m q).c=k:=by simpa using h2.1.2
       simp only [inM,h2.1.1,e,h2.2,qJ,Bool.or_true]
     ·exact .inr h}
theorem ListsM.of_eq {m':Mm} {G':Hq→Int→Bool} (S:ListsM c m G) (e0:∀h:Hq,m'.hd h=m.hd h) (e1:m'.next=m.next) (e2:m'.prev=m.prev) (e3:∀h:Hq,h.ok→∀q:Int,0≤q→q<c.p→G' h q=G h q):ListsM c m' G' where
 ls:= λh hh=>by
  obtain ⟨l,H⟩:=S.ls h hh
  exact ⟨l,H.of_eq (e0 h) (λq _=>by rw [e1]) (λq _=>by rw [e2]) (e3 h hh)⟩
 lo:= λq g1 g2=>by
  rw [e1,e2]
  rcases S.lo q g1 g2 with ⟨h,k1,k2⟩|k
  ·exact .inl ⟨h,k1,by rw [e3 h k1 q g1 g2];exact k2⟩
  ·exact .inr k
 one:= λh h' k1 k2 hne q g1 g2 a b=>S.one h h' k1 k2 hne q g1 g2 (by rw [←e3 h k1 q g1 g2];exact a) (by rw [←e3 h' k2 q g1 g2];exact b)
end
end
section
open Go.Sl
theorem iRight_bd {k l x:Int} (h:iRight k l x=true):(0≤k∧k≤3)∧(0≤l∧l≤1024)∧0≤x∧x≤8:=by
 unfold iRight at h
 cases h0:k==0 with
 |true=>
  rw [h0] at h
  simp only [cond_true,iE,beq_iff_eq] at h h0
  omega
 |false=>
  rw [h0] at h
  simp only [cond_false] at h
  cases h1:(k==1||k==2) with
  |true=>
   rw [h1] at h
   simp only [cond_true,iE,decide_eq_true_eq,beq_iff_eq,lG] at h h1
   omega
  |false=>
   rw [h1] at h
   simp only [cond_false] at h
   cases h3:k==3 with
   |false=>rw [h3] at h;cases h
   |true=>
    rw [h3] at h
    simp only [cond_true,iE,decide_eq_true_eq,beq_iff_eq] at h h3
    omega
theorem iVal_get {k l x:Int} (h:iRight k l x=true):iGet (iVal k l x)=⟨k,l,x⟩∧infoOk (iVal k l x)=true∧nv (iVal k l x)=iVal k l x:=by
 have hb:=iRight_bd h
 have e:iVal k l x=k+16*l+65536*x:=by unfold iVal;rw [h];rfl
 have e1:(k+16*l+65536*x)%16=k:=by omega
 have e2:(k+16*l+65536*x)/16%4096=l:=by omega
 have e3:(k+16*l+65536*x)/65536=x:=by omega
 rw [e]
 unfold iGet infoOk
 rw [e1,e2,e3,h]
 exact ⟨rfl,rfl,by unfold nv;omega⟩
section
variable {c:Cf} {m:Mm} {s:VS} {a n:Int}
def mSpan (m:Mm) (k a n:Int):Mm:={m with info:=fset m.info a (iVal k n 0),foot:=fset m.foot (a+n-1) (nv (a+1))}
def mAdd (m:Mm) (a n:Int):Mm:=mPush (mSpan m 1 a n) (.bin (logI n)) a
theorem span_right {k:Int} (hk:k=1∨k=2) (hn:1≤n∧n≤1024):iRight k n 0=true:=by
 rcases hk with rfl|rfl<;>simp [iRight,hn]
theorem nvnv (x:Int):nv (nv x)=nv x:=by unfold nv;omega
theorem add_at (h:At c s m) (ha:0≤a∧a<c.p) (hn:1≤n∧n≤c.p-a) (hh:m.bin (logI n)=0∨(0≤m.bin (logI n)-1∧m.bin (logI n)-1<c.p)):At c ((pAdd c a n).run s).1 (mAdd m a n):=by
 have hp:=Cf.ok_iff.1 h.ok
 have hb:=logI_bd (n:=n) (by omega)
 have hr:=iVal_get (span_right (n:=n) (.inl rfl) (by omega))
 have eb:binOf n=logI n:=by
  unfold binOf
  have:decide (n>1024)=false:=by simp;omega
  rw [this];rfl
 unfold pAdd
 have e:(c.page a&&(decide (1≤n)&&decide (n≤c.p-a)))=true:=by
  rw [Cf.page_iff.2 ha];simp [hn]
 rw [e,cond_true]
 simp only [Pg.run_put]
 have h1:=(h.set_info ha (iVal 1 n 0)).set_foot (g:=a+n-1) (by omega) (nv (a+1))
 rw [hr.2.2,nvnv] at h1
 rw [eb]
 exact push_at (q:= .bin (logI n)) h1 hb ha hh
def mDrop (m:Mm) (a:Int):Mm:=mPull m (.bin (logI (ifM m a).l)) a
theorem free_at (h:At c s m) (ha:0≤a∧a<c.p):At c ((pFree c a).run s).1 m∧((pFree c a).run s).2=bif (ifM m a).k==1 then (ifM m a).l else 0:=by
 unfold pFree
 simp only [Pg.run_get,Pg.run_ret]
 rw [h.get_info ha]
 exact ⟨h.read _,rfl⟩
theorem drop_at' {G:Hq→Int→Bool} (h:At c s m) (ha:0≤a∧a<c.p) (hk:(ifM m a).k=1) (S:ListsM c m G) (hG:G (.bin (logI (ifM m a).l)) a=true):At c ((pDrop c a).run s).1 (mDrop m a)∧((pDrop c a).run s).2=(ifM m a).l:=by
 have hl:=iGet_one hk
 have hb:=logI_bd hl
 have hl':1≤(ifM m a).l∧(ifM m a).l≤1024:=hl
 have eb:binOf (ifM m a).l=logI (ifM m a).l:=by
  unfold binOf
  have:decide ((ifM m a).l>1024)=false:=by simp;omega
  rw [this];rfl
 obtain ⟨f1,f2⟩:=free_at h ha
 rw [hk] at f2
 unfold pDrop
 rw [Cf.page_iff.2 ha,cond_true]
 simp only [Pg.run_bind,Pg.run_ret,f2,beq_self_eq_true,cond_true]
 have e:decide (0<(ifM m a).l)=true:=by simp;omega
 rw [e,cond_true,eb]
 have hn:=S.nb_ok (h:= .bin (logI (ifM m a).l)) hb ha hG
 exact ⟨pull_at (q:= .bin (logI (ifM m a).l)) f1 hb ha hn.1 hn.2,trivial⟩
theorem iGet_zero:iGet 0=⟨0,0,0⟩:=rfl
theorem Tl.at {b q:Int}:∀{L:List Sp} {a:Int},Tl m a L b→a≤q→q<b→(ifM m q).k≠0→∃L1 x L2,L=L1++x::L2∧Tl m a L1 q∧Spn m q x∧Tl m (q+x.l) L2 b
 |[],a,h,h1,h2,_=>by have h:a=b:=h;omega
 |x::L,a,⟨h,hr⟩,h1,h2,h3=>by
  by_cases e:q=a
  ·subst e;exact ⟨[],x,L,rfl,rfl,h,hr⟩
  ·by_cases e2:q<a+x.l
   ·exfalso
    apply h3
    unfold ifM
    rw [h.in0 q (by omega) e2,iGet_zero]
   ·obtain ⟨L1,y,L2,g1,g2,g3,g4⟩:=Tl.at hr (by omega) h2 h3
    exact ⟨x::L1,y,L2,by rw [g1];rfl,⟨h,g2⟩,g3,g4⟩
theorem pull_same (h:Hq):(mPull m h a).info=m.info∧(mPull m h a).foot=m.foot∧(mPull m h a).slots=m.slots∧(mPull m h a).taken=m.taken∧(mPull m h a).root=m.root∧(mPull m h a).fr=m.fr∧(mPull m h a).lv=m.lv∧(mPull m h a).dn=m.dn:=by
 unfold mPull
 dsimp only
 cases m.prev a==0<;>cases m.next a==0<;>cases h<;>exact ⟨rfl,rfl,rfl,rfl,rfl,rfl,rfl,rfl⟩
theorem push_same (h:Hq):(mPush m h a).info=m.info∧(mPush m h a).foot=m.foot∧(mPush m h a).slots=m.slots∧(mPush m h a).taken=m.taken∧(mPush m h a).root=m.root∧(mPush m h a).fr=m.fr∧(mPush m h a).lv=m.lv∧(mPush m h a).dn=m.dn:=by
 unfold mPush
 dsimp only
 cases m.hd h==0<;>cases h<;>exact ⟨rfl,rfl,rfl,rfl,rfl,rfl,rfl,rfl⟩
end
end
section
open Go.Sl
section
variable {c:Cf} {xs:LI} {m:Mm} {s:VS}
theorem whole_cur (hx:AGood c xs) {i:Int} (h:0≤i∧i<c.cells):(VS.whole xs).cur i=cel xs i:=by
 have hl:=hx.len
 have e:(decide (0≤i)&&decide (i<(xs.length:Int)))=true:=by
  simp only [iE,decide_eq_true_eq];omega
 have hb:=cel_bd hx i
 have:(VS.whole xs).cur i=nv (cel xs i):=by
  unfold VS.cur VS.whole
  simp only [mnil,e,cond_true];rfl
 rw [this,nv_id hb]
theorem at_whole (hx:AGood c xs):At c (VS.whole xs) (Mm.of c xs):=by
 have hok:=Cf.ok_iff.1 hx.ok
 have hl:=hx.len
 have hc:c.cells=30+4*c.t+6*c.p:=by unfold Cf.cells;rw [hx.ok];rfl
 have pc:∀g k:Int,0≤g∧g<c.p→c.pc g k=30+4*c.t+6*g+k:= λg k hg=>by
  unfold Cf.pc;rw [hx.ok,Cf.page_iff.2 hg];rfl
 have P:∀g k:Int,(0≤g∧g<c.p)→0≤k∧k≤5→(VS.whole xs).cur (30+4*c.t+6*g+k)=cel xs (c.pc g k):= λg k hg hk=>by
  rw [pc g k hg];exact whole_cur hx (by omega)
 exact
  {ok:=hx.ok,full:=VS.whole_full xs,n:=hl
   info:= λg hg=>P g 0 hg (by omega),foot:= λg hg=>P g 1 hg (by omega),next:= λg hg=>P g 2 hg (by omega),prev:= λg hg=>P g 3 hg (by omega),slots:= λg hg=>P g 4 hg (by omega),taken:= λg hg=>P g 5 hg (by omega)
   bin:= λk hk=>by
    have e:(decide (0≤k)&&decide (k<11))=true:=by simpa using hk
    show _=cel xs (cBin k)
    unfold cBin;rw [e];exact whole_cur hx (by omega)
   rack:= λk hk=>by
    have e:(decide (0≤k)&&decide (k<9))=true:=by simpa using hk
    show _=cel xs (cRack k)
    unfold cRack;rw [e];exact whole_cur hx (by omega)
   root:= λk hk=>by
    have e:(decide (0≤k)&&decide (k<8))=true:=by simpa using hk
    show _=cel xs (cRoot k)
    unfold cRoot;rw [e];exact whole_cur hx (by omega)
   dn:= λt f ht hf=>by
    show _=cel xs (c.done t f)
    have e:(c.ok&&(decide (0≤t)&&decide (t<c.t))&&(decide (0≤f)&&decide (f<4)))=true:=by
     rw [hx.ok];simp [ht,hf]
    unfold Cf.done;rw [e];exact whole_cur hx (by omega)
   fr:=whole_cur hx (by omega),lv:=whole_cur hx (by omega)}
theorem cel_vals (h:At c s m) (ha:s.all=true) {i:Int} (hi:0≤i∧i<c.cells):cel s.vals i=s.cur i:=by
 have hn:=h.n
 unfold cel VS.vals
 rw [ha]
 simp only [cond_true]
 rw [iD,iR,oR (by omega)]
 simp only [iT,lA]
 congr 1;omega
theorem good_vals (h:At c s m) (ha:s.all=true):AGood c s.vals:=by
 have hok:=Cf.ok_iff.1 h.ok
 have hc:c.cells=30+4*c.t+6*c.p:=by unfold Cf.cells;rw [h.ok];rfl
 have hn:=h.n
 exact
  {ok:=h.ok
   len:=by
    unfold VS.vals;rw [ha];simp only [cond_true,kK,List.length_range];omega
   bd:= λv hv=>by
    unfold VS.vals at hv;rw [ha] at hv
    simp only [cond_true,kZ] at hv
    obtain ⟨j,_,rfl⟩:=hv
    exact cur_bd _ _}
theorem meq_vals (h:At c s m) (ha:s.all=true):MEq c m (Mm.of c s.vals):=by
 have hok:=Cf.ok_iff.1 h.ok
 have hc:c.cells=30+4*c.t+6*c.p:=by unfold Cf.cells;rw [h.ok];rfl
 have P:∀g k:Int,(0≤g∧g<c.p)→0≤k∧k≤5→cel s.vals (c.pc g k)=s.cur (30+4*c.t+6*g+k):= λg k hg hk=>by
  have:c.pc g k=30+4*c.t+6*g+k:=by unfold Cf.pc;rw [h.ok,Cf.page_iff.2 hg];rfl
  rw [this];exact cel_vals h ha (by omega)
 exact
  {info:= λq a b=>(P q 0 ⟨a,b⟩ (by omega)).trans (h.info q ⟨a,b⟩),foot:= λq a b=>(P q 1 ⟨a,b⟩ (by omega)).trans (h.foot q ⟨a,b⟩),next:= λq a b=>(P q 2 ⟨a,b⟩ (by omega)).trans (h.next q ⟨a,b⟩),prev:= λq a b=>(P q 3 ⟨a,b⟩ (by omega)).trans (h.prev q ⟨a,b⟩),slots:= λq a b=>(P q 4 ⟨a,b⟩ (by omega)).trans (h.slots q ⟨a,b⟩),taken:= λq a b=>(P q 5 ⟨a,b⟩ (by omega)).trans (h.taken q ⟨a,b⟩)
   bin:= λk a b=>by
    have e:(decide (0≤k)&&decide (k<11))=true:=by simp [a,b]
    show cel s.vals (cBin k)=_
    rw [←h.bin k ⟨a,b⟩]
    unfold cBin;rw [e,cond_true];exact cel_vals h ha (by omega)
   rack:= λk a b=>by
    have e:(decide (0≤k)&&decide (k<9))=true:=by simp [a,b]
    show cel s.vals (cRack k)=_
    rw [←h.rack k ⟨a,b⟩]
    unfold cRack;rw [e,cond_true];exact cel_vals h ha (by omega)
   root:= λk a b=>by
    have e:(decide (0≤k)&&decide (k<8))=true:=by simp [a,b]
    show cel s.vals (cRoot k)=_
    rw [←h.root k ⟨a,b⟩]
    unfold cRoot;rw [e,cond_true];exact cel_vals h ha (by omega)
   fr:=(cel_vals h ha (by omega)).trans h.fr,lv:=(cel_vals h ha (by omega)).trans h.lv}
theorem read_all (s:VS) (i:Int):(s.read i).all=s.all:=by
 rcases VS.read_cases s i with h|⟨_,_,_,h⟩|⟨_,_,_,_,h⟩<;>rw [h]
theorem set_all (s:VS) (i x:Int):(s.set i x).all=s.all:=by
 unfold VS.set
 cases s.there i<;>rfl
theorem run_all {α:Type} (p:Pg α):∀s:VS,(p.run s).1.all=s.all:=by
 induction p with
 |ret a=>intro s;rfl
 |get i k ih=>intro s;exact (ih _ _).trans (read_all s i)
 |put i x k ih=>intro s;exact (ih _).trans (set_all s i x)
end
end
section
open Go.Sl
def apF:Bool→List Sp→Bool
 |_,[]=>true
 |b,x::L=>!(b&&x.k==1)&&apF (x.k==1) L
def apE:Bool→List Sp→Bool
 |b,[]=>b
 |_,x::L=>apE (x.k==1) L
theorem apF_app:∀(L1 L2:List Sp) (b:Bool),apF b (L1++L2)=(apF b L1&&apF (apE b L1) L2)
 |[],_,_=>by simp [apF,apE]
 |x::L1,L2,b=>by simp only [kA,apF,apE,apF_app L1 L2,Bool.and_assoc]
theorem apE_app:∀(L1 L2:List Sp) (b:Bool),apE b (L1++L2)=apE (apE b L1) L2
 |[],_,_=>rfl
 |x::L1,L2,b=>by simp only [kA,apE,apE_app L1 L2]
theorem apF_weak {L:List Sp} {b:Bool} (h:apF b L=true):apF false L=true:=by
 cases L with
 |nil=>rfl
 |cons x L=>simp only [apF,iE] at h ⊢;exact ⟨rfl,h.2⟩
theorem apF_iff:∀{L:List Sp},apF false L=true↔∀i:Nat,i+1<L.length→¬((L.getD i ⟨0,0,0⟩).k=1∧(L.getD (i+1) ⟨0,0,0⟩).k=1)
 |[]=>by simp [apF]
 |[x]=>by simp [apF]
 |x::y::L=>by
  have ih:=apF_iff (L:=y::L)
  simp only [apF,oW,Bool.not_false,nR,iE] at ih ⊢
  rw [ih]
  constructor
  ·rintro ⟨h1,h2⟩ i hi
   cases i with
   |zero=>
    simp only [List.getD_cons_zero,pU]
    rintro ⟨a,b⟩
    rw [a,b] at h1;simp at h1
   |succ i=>
    simp only [pU]
    exact h2 i (by simp only [jR] at hi ⊢;omega)
  ·intro h
   refine ⟨?_, λi hi=>?_⟩
   ·have:=h 0 (by simp)
    simp only [List.getD_cons_zero,pU] at this
    cases h1:x.k==1<;>cases h2:y.k==1<;>simp_all
   ·have:=h (i+1) (by simp only [jR] at hi ⊢;omega)
    simpa only [pU] using this
def fS:List Sp→Int
 |[]=>0
 |x::L=>(bif x.k==1 then x.l else 0)+fS L
theorem fS_app:∀L1 L2:List Sp,fS (L1++L2)=fS L1+fS L2
 |[],L2=>by simp [fS]
 |x::L1,L2=>by simp only [kA,fS,fS_app L1 L2];omega
theorem smF_zero (f:Int→Int) (n:Nat):∀k:Nat,(∀q:Int,n≤q→q<n+k→f q=0)→smF f (n+k)=smF f n
 |0,_=>rfl
 |k+1,h=>by
  rw [←nF,smF,smF_zero f n k λq a b=>h q a (by push_cast;omega),h _ (by push_cast;omega) (by push_cast;omega)];omega
section
variable {c:Cf} {m:Mm} {s:VS} {a n:Int}
theorem sm_tl:∀{L:List Sp} {a b:Int},0≤a→Tl m a L b→smF (frP m) b.toNat=smF (frP m) a.toNat+fS L
 |[],a,b,_,h=>by have h:a=b:=h;subst h;simp [fS]
 |x::L,a,b,ha,⟨h,hr⟩=>by
  have hl:=h.l1
  rw [sm_tl (by omega) hr]
  have e:(a+x.l).toNat=(a.toNat+1)+(x.l-1).toNat:=by omega
  rw [e,smF_zero (frP m) (a.toNat+1) _ λq g1 g2=>?_,smF,fS]
  ·have e2:((a.toNat:Nat):Int)=a:=by omega
   have e3:frP m a=bif x.k==1 then x.l else 0:=by
    have:ifM m a=⟨x.k,x.l,x.c⟩:=h.inf
    unfold frP;rw [this]
   rw [e2,e3];omega
  ·have:ifM m q=⟨0,0,0⟩:=by unfold ifM;rw [h.in0 q (by push_cast at g1;omega) (by push_cast at g2;omega),iGet_zero]
   unfold frP;rw [this];rfl
def exG (m:Mm) (X:LI):Hq→Int→Bool:= λh q=>gM m h q&&!X.contains q
structure Hol (c:Cf) (m:Mm) (L1:List Sp) (a n:Int) (L2:List Sp):Prop where
 t1:Tl m 0 L1 a
 t2:Tl m (a+n) L2 c.p
 n1:1≤n
 i0:∀q,a<q→q<a+n→m.info q=0
 f0:∀q,a≤q→q<a+n-1→m.foot q=0
 p1:apF false L1=true
 p2:apF false L2=true
 bits:∀q:Int,0≤q→q<c.p→q≠a→∀b:Int,0≤b→b<32→badM m q b=false
 z:∀b:Int,0≤b→b<32→bitAt (m.taken a) b=false∧bitAt (m.slots a) b=false
 some:∀q:Int,0≤q→q<c.p→q≠a→((ifM m q).k==3&&m.taken q==0)=false
 ls:ListsM c m (exG m [a])
theorem Hol.pos {L1 L2:List Sp} (H:Hol c m L1 a n L2):0≤a∧a+n≤c.p:=⟨H.t1.le,H.t2.le⟩
theorem gM_eq {m m':Mm} {q:Int} (h:m'.info q=m.info q) (h2:m'.taken q=m.taken q) (g:Hq):gM m' g q=gM m g q:=by
 cases g with
 |bin k=>exact binM_eq h k
 |rack k=>exact rackM_eq h h2 k
theorem gM_none {q:Int} (h:(ifM m q).k≠1) (h2:(ifM m q).k≠3) (g:Hq):gM m g q=false:=by
 cases g with
 |bin k=>simp [gM,binM,h]
 |rack k=>simp [gM,rackM,h2]
theorem exG_eq {m m':Mm} {X:LI} {q:Int} (h:X.contains q=false→m'.info q=m.info q) (h2:X.contains q=false→m'.taken q=m.taken q) (g:Hq):exG m' X g q=exG m X g q:=by
 unfold exG
 cases e:X.contains q with
 |true=>simp
 |false=>rw [gM_eq (h e) (h2 e)]
theorem notin {X:LI} {q:Int}:X.contains q=false↔q ∉ X:=by
 rw [←Bool.not_eq_true,List.contains_iff_mem]
theorem Tl.kind {b q:Int}:∀{L:List Sp} {a:Int},Tl m a L b→a≤q→q<b→infoOk (m.info q)=true
 |[],a,h,h1,h2=>by have h:a=b:=h;omega
 |x::L,a,⟨h,hr⟩,h1,h2=>by
  by_cases e:q=a
  ·subst e;exact h.iok
  ·by_cases e2:q<a+x.l
   ·rw [h.in0 q (by omega) e2];rfl
   ·exact Tl.kind hr (by omega) h2
theorem ShapeM.apF {L:List Sp} (S:ShapeM c m L):apF false L=true:=apF_iff.2 S.ap
theorem ap_split {L1 L2:List Sp} {x:Sp} (h:apF false (L1++x::L2)=true):apF false L1=true∧apF false L2=true∧apF (x.k==1) L2=true∧(x.k=1→apE false L1=false):=by
 rw [apF_app] at h
 simp only [apF,iE,jO,mD] at h
 refine ⟨h.1,apF_weak h.2.2,h.2.2, λe=>?_⟩
 rcases h.2.1 with h1|h1
 ·exact h1
 ·rw [e] at h1;cases h1
theorem ap_join {L1 L2:List Sp} {x:Sp} (h1:apF false L1=true) (h2:apF (x.k==1) L2=true) (h3:x.k=1→apE false L1=false):apF false (L1++x::L2)=true:=by
 rw [apF_app]
 simp only [apF,iE,jO,mD]
 refine ⟨h1,?_,h2⟩
 by_cases e:x.k=1
 ·exact .inl (h3 e)
 ·right;simpa using e
theorem bad_zero {q b:Int} (h:badM m q b=false) (hk:(ifM m q).k≠3):bitAt (m.taken q) b=false∧bitAt (m.slots q) b=false:=by
 have e:((ifM m q).k !=3)=true:=by simpa using hk
 unfold badM at h
 rw [e] at h
 cases h1:bitAt (m.taken q) b<;>cases h2:bitAt (m.slots q) b<;>rw [h1,h2] at h<;>first|exact ⟨rfl,rfl⟩|cases h
theorem zero_bad {q b:Int} (h:bitAt (m.taken q) b=false∧bitAt (m.slots q) b=false):badM m q b=false:=by
 unfold badM;rw [h.1,h.2];rfl
theorem gDel_ex {h:Hq} {X:LI} (hh:h.ok) (ha:0≤a∧a<c.p) (hX:a ∉ X) (S:ListsM c m (exG m X)) (hg:gM m h a=true) (h':Hq) (hh':h'.ok) (q:Int):gDel (exG m X) h a h' q=exG m (a::X) h' q:=by
 have hxa:exG m X h a=true:=by unfold exG;rw [hg,notin.2 hX];rfl
 by_cases e:q=a
 ·subst e
  have e2:exG m (q::X) h' q=false:=by unfold exG;simp
  rw [e2]
  unfold gDel
  by_cases e3:h'=h
  ·subst e3;simp
  ·cases e4:exG m X h' q with
   |false=>rfl
   |true=>exact (S.one h' h hh' hh e3 q ha.1 ha.2 e4 hxa).elim
 ·unfold gDel exG
  have e2:decide (q=a)=false:=by simpa using e
  have e3:(a::X).contains q=X.contains q:=by
   rw [pF]
   have:(q==a)=false:=by simpa using e
   rw [this,lY]
  rw [e2,e3];simp
theorem pull_ex {h:Hq} {X:LI} (hh:h.ok) (ha:0≤a∧a<c.p) (hX:a ∉ X) (S:ListsM c m (exG m X)) (hg:gM m h a=true):ListsM c (mPull m h a) (exG (mPull m h a) (a::X)):=by
 have hxa:exG m X h a=true:=by unfold exG;rw [hg,notin.2 hX];rfl
 have ep:=pull_same (m:=m) (a:=a) h
 refine (S.pull hh ha hxa).of_eq (λ_=>rfl) rfl rfl λh' hh' q a1 a2=>?_
 rw [gDel_ex hh ha hX S hg h' hh' q]
 exact exG_eq (λ_=>by rw [ep.1]) (λ_=>by rw [ep.2.2.2.1]) h'
theorem push_ex {h:Hq} {X:LI} (hh:h.ok) (ha:0≤a∧a<c.p) (hX:a ∉ X) (S:ListsM c m (exG m (a::X))) (hg:gM m h a=true) (ho:∀h':Hq,h'.ok→h'≠h→gM m h' a=false):ListsM c (mPush m h a) (exG (mPush m h a) X):=by
 have hno:∀h':Hq,h'.ok→exG m (a::X) h' a=false:= λh' _=>by unfold exG;simp
 have ep:=push_same (m:=m) (a:=a) h
 refine (S.push hh ha hno).of_eq (λ_=>rfl) rfl rfl λh' hh' q a1 a2=>?_
 rw [exG_eq (m:=m) (λ_=>by rw [ep.1]) (λ_=>by rw [ep.2.2.2.1]) h']
 unfold gAdd
 by_cases e:q=a
 ·subst e
  rw [hno h' hh']
  unfold exG
  rw [notin.2 hX]
  by_cases e2:h'=h
  ·subst e2;rw [hg];simp
  ·rw [ho h' hh' e2];simp [e2]
 ·have e2:decide (q=a)=false:=by simpa using e
  have e3:(a::X).contains q=X.contains q:=by
   rw [pF]
   have:(q==a)=false:=by simpa using e
   rw [this,lY]
  unfold exG
  rw [e2,e3];simp
theorem ex_more {X:LI} (S:ListsM c m (exG m X)) (hn:∀h:Hq,gM m h a=false):ListsM c m (exG m (a::X)):=by
 refine S.of_eq (λ_=>rfl) rfl rfl λh hh q a1 a2=>?_
 unfold exG
 by_cases e:q=a
 ·subst e;rw [hn h];rfl
 ·rw [pF]
  have:(q==a)=false:=by simpa using e
  rw [this,lY]
theorem ex_set {X:LI} {m':Mm} (S:ListsM c m (exG m X)) (e0:∀h:Hq,m'.hd h=m.hd h) (e1:m'.next=m.next) (e2:m'.prev=m.prev) (e3:∀q,q ∉ X→m'.info q=m.info q) (e4:∀q,q ∉ X→m'.taken q=m.taken q):ListsM c m' (exG m' X):=
 S.of_eq e0 e1 e2 λh _ q _ _=>exG_eq (λe=>e3 q (notin.1 e)) (λe=>e4 q (notin.1 e)) h
end
end
section
open Go.Sl
structure Kp (m m':Mm):Prop where
 slots:m'.slots=m.slots
 taken:m'.taken=m.taken
 root:m'.root=m.root
 dn:m'.dn=m.dn
 fr:m'.fr=m.fr
 lv:m'.lv=m.lv
theorem Kp.rfl {m:Mm}:Kp m m:=⟨_root_.rfl,_root_.rfl,_root_.rfl,_root_.rfl,_root_.rfl,_root_.rfl⟩
theorem Kp.trans {m m1 m2:Mm} (h:Kp m m1) (k:Kp m1 m2):Kp m m2:=⟨k.slots.trans h.slots,k.taken.trans h.taken,k.root.trans h.root,k.dn.trans h.dn,k.fr.trans h.fr,k.lv.trans h.lv⟩
def mJoin (m:Mm) (b:Int):Mm:={m with info:=fset m.info b 0,foot:=fset m.foot (b-1) 0}
theorem Kp.span (m:Mm) (k a n:Int):Kp m (mSpan m k a n):=⟨_root_.rfl,_root_.rfl,_root_.rfl,_root_.rfl,_root_.rfl,_root_.rfl⟩
theorem Kp.join (m:Mm) (b:Int):Kp m (mJoin m b):=⟨_root_.rfl,_root_.rfl,_root_.rfl,_root_.rfl,_root_.rfl,_root_.rfl⟩
theorem Kp.pull (m:Mm) (h:Hq) (a:Int):Kp m (mPull m h a):=by
 obtain ⟨_,_,e1,e2,e3,e4,e5,e6⟩:=pull_same (m:=m) (a:=a) h
 exact ⟨e1,e2,e3,e6,e4,e5⟩
theorem Kp.push (m:Mm) (h:Hq) (a:Int):Kp m (mPush m h a):=by
 obtain ⟨_,_,e1,e2,e3,e4,e5,e6⟩:=push_same (m:=m) (a:=a) h
 exact ⟨e1,e2,e3,e6,e4,e5⟩
theorem Kp.drop (m:Mm) (a:Int):Kp m (mDrop m a):=Kp.pull _ _ _
theorem Kp.add (m:Mm) (a n:Int):Kp m (mAdd m a n):=(Kp.span m 1 a n).trans (Kp.push _ _ _)
def uI (i:If):If:=bif i.k==2||i.k==3 then i else ⟨0,0,0⟩
def uM (m:Mm) (q:Int):If:=uI (ifM m q)
theorem uM_eq {m m':Mm} {q:Int} (h:m'.info q=m.info q):uM m' q=uM m q:=by unfold uM;rw [ifM_eq h]
section
variable {c:Cf} {m:Mm} {s:VS} {a n:Int}
theorem ex_any {X Y:LI} (S:ListsM c m (exG m X)) (hx:∀q∈X,q ∉ Y→∀h:Hq,gM m h q=false) (hy:∀q∈Y,q ∉ X→∀h:Hq,gM m h q=false):ListsM c m (exG m Y):=by
 refine S.of_eq (λ_=>rfl) rfl rfl λh hh q a1 a2=>?_
 unfold exG
 by_cases e1:q∈X
 ·by_cases e2:q∈Y
  ·rw [List.contains_iff_mem.2 e1,List.contains_iff_mem.2 e2]
  ·rw [hx q e1 e2 h];rfl
 ·by_cases e2:q∈Y
  ·rw [hy q e2 e1 h];rfl
  ·rw [notin.2 e1,notin.2 e2]
theorem ex_nil:exG m []=gM m:=by funext h q;simp [exG]
theorem mSpan_info {k:Int} (q:Int):(mSpan m k a n).info q=if q=a then iVal k n 0 else m.info q:=rfl
theorem mSpan_foot {k:Int} (q:Int):(mSpan m k a n).foot q=if q=a+n-1 then nv (a+1) else m.foot q:=rfl
theorem mJoin_info {b:Int} (q:Int):(mJoin m b).info q=if q=b then 0 else m.info q:=rfl
theorem mJoin_foot {b:Int} (q:Int):(mJoin m b).foot q=if q=b-1 then 0 else m.foot q:=rfl
theorem mSpan_if {k:Int} (hk:k=1∨k=2) (hn:1≤n∧n≤1024):ifM (mSpan m k a n) a=⟨k,n,0⟩:=by
 unfold ifM;rw [mSpan_info,if_pos rfl];exact (iVal_get (span_right hk hn)).1
theorem mJoin_if {b:Int}:ifM (mJoin m b) b=⟨0,0,0⟩:=by
 unfold ifM;rw [mJoin_info,if_pos rfl];exact iGet_zero
theorem span_spn {k:Int} (hk:k=1∨k=2) (hn:1≤n∧n≤1024) (i0:∀q,a<q→q<a+n→m.info q=0) (f0:∀q,a≤q→q<a+n-1→m.foot q=0):Spn (mSpan m k a n) a ⟨k,n,0⟩ where
 l1:=hn.1
 rt:=span_right hk hn
 k0:=by show k≠0;omega
 inf:=by rw [mSpan_info,if_pos rfl];exact (iVal_get (span_right hk hn)).1
 iok:=by rw [mSpan_info,if_pos rfl];exact (iVal_get (span_right hk hn)).2.1
 in0:= λq g1 g2=>by rw [mSpan_info,if_neg (by omega)];exact i0 q g1 g2
 ft0:= λq g1 g2=>by
  have g2:q<a+n-1:=g2
  rw [mSpan_foot,if_neg (by omega)];exact f0 q g1 g2
 ft:=by
  show (mSpan m k a n).foot (a+n-1)=_
  rw [mSpan_foot,if_pos rfl]
theorem fill_free {L1 L2:List Sp} (H:Hol c m L1 a n L2) (hn:n≤1024) (h1:apE false L1=false) (h2:apF true L2=true):SndM c (mAdd m a n) (L1++⟨1,n,0⟩::L2):=by
 have hp:=H.pos
 have hn1:=H.n1
 have ha:0≤a∧a<c.p:=by omega
 have hif:=mSpan_if (m:=m) (a:=a) (.inl rfl) ⟨hn1,hn⟩
 obtain ⟨e1,e2,e3,e4,_⟩:=push_same (m:=mSpan m 1 a n) (a:=a) (.bin (logI n))
 have e1:(mAdd m a n).info=(mSpan m 1 a n).info:=e1
 have e2:(mAdd m a n).foot=(mSpan m 1 a n).foot:=e2
 have e3:(mAdd m a n).slots=m.slots:=e3
 have e4:(mAdd m a n).taken=m.taken:=e4
 refine snd_iff.2 ⟨⟨Tl.app.2 ⟨a,H.t1.of_eq (λq _ g=>?_) (λq _ g=>?_),(span_spn (.inl rfl) ⟨hn1,hn⟩ H.i0 H.f0).of_eq (λq _ _=>by rw [e1]) (λq _ _=>by rw [e2]),H.t2.of_eq (λq g _=>?_) (λq g _=>?_)⟩,apF_iff.1 (ap_join H.p1 h2 (λ_=>h1)), λq a1 a2 b b1 b2=>?_, λq a1 a2=>?_⟩,?_⟩
 ·rw [e1,mSpan_info,if_neg (by omega)]
 ·rw [e2,mSpan_foot,if_neg (by omega)]
 ·rw [e1,mSpan_info,if_neg (by have g:a+n≤q:=g;omega)]
 ·rw [e2,mSpan_foot,if_neg (by have g:a+n≤q:=g;omega)]
 ·by_cases e:q=a
  ·subst e;exact zero_bad (by rw [e3,e4];exact H.z b b1 b2)
  ·rw [badM_eq (m:=m) (by rw [e1,mSpan_info,if_neg e]) (by rw [e3]) (by rw [e4])];exact H.bits q a1 a2 e b b1 b2
 ·by_cases e:q=a
  ·subst e;rw [ifM_eq (m:=mSpan m 1 q n) (by rw [e1]),hif];rfl
  ·rw [ifM_eq (m:=m) (by rw [e1,mSpan_info,if_neg e]),e4];exact H.some q a1 a2 e
 ·rw [←ex_nil]
  have hb:=logI_bd (n:=n) (by omega)
  refine push_ex (X:=[]) (h:= .bin (logI n)) hb ha (by simp) (ex_set H.ls (λ_=>rfl) rfl rfl (λq hq=>?_) λq _=>rfl) (by simp [gM,binM,hif]) λh' hh' hne=>?_
  ·rw [mSpan_info,if_neg (by simpa using hq)]
  ·cases h' with
   |bin k=>
    cases e:gM (mSpan m 1 a n) (.bin k) a with
    |false=>rfl
    |true=>
     simp only [gM,binM,hif,iE,beq_iff_eq] at e
     exact absurd (by rw [e.2]) hne
   |rack k=>simp [gM,rackM,hif]
theorem joinl_hol {L1 L2:List Sp} {x:Sp} {f:Int} (H:Hol c m (L1++[x]) a n L2) (h1:Tl m 0 L1 f) (h2:Spn m f x) (hf:f+x.l=a) (hk:x.k=1):Hol c (mJoin (mDrop m f) a) L1 f (x.l+n) L2∧apE false L1=false:=by
 have hp:=H.pos
 have hn1:=H.n1
 have hl:=h2.l1
 have hf0:=h1.le
 have hfp:0≤f∧f<c.p:=by omega
 have hif:ifM m f=⟨x.k,x.l,x.c⟩:=h2.inf
 have hka:(ifM m f).k=1:=by rw [hif];exact hk
 have hap:=ap_split H.p1
 obtain ⟨e1,e2,e3,e4,_⟩:=pull_same (m:=m) (a:=f) (.bin (logI (ifM m f).l))
 have e1:(mDrop m f).info=m.info:=e1
 have e2:(mDrop m f).foot=m.foot:=e2
 have e3:(mDrop m f).slots=m.slots:=e3
 have e4:(mDrop m f).taken=m.taken:=e4
 have i1:∀q,q≠a→(mJoin (mDrop m f) a).info q=m.info q:= λq hq=>by rw [mJoin_info,if_neg hq,e1]
 have i2:∀q,q≠a-1→(mJoin (mDrop m f) a).foot q=m.foot q:= λq hq=>by rw [mJoin_foot,if_neg hq,e2]
 have i3:(mJoin (mDrop m f) a).slots=m.slots:=e3
 have i4:(mJoin (mDrop m f) a).taken=m.taken:=e4
 refine ⟨⟨h1.of_eq (λq _ _=>i1 q (by omega)) (λq _ _=>i2 q (by omega)),?_,by omega, λq g1 g2=>?_, λq g1 g2=>?_,hap.1,H.p2, λq a1 a2 hq b b1 b2=>?_, λb b1 b2=>?_, λq a1 a2 hq=>?_,?_⟩,hap.2.2.2 hk⟩
 ·rw [show f+(x.l+n)=a+n by omega]
  exact H.t2.of_eq (λq _ _=>i1 q (by omega)) (λq _ _=>i2 q (by omega))
 ·by_cases e:q=a
  ·rw [mJoin_info,if_pos e]
  ·rw [i1 q e]
   by_cases e':q<a
   ·exact h2.in0 q g1 (by omega)
   ·exact H.i0 q (by omega) (by omega)
 ·by_cases e:q=a-1
  ·rw [mJoin_foot,if_pos e]
  ·rw [i2 q e]
   by_cases e':q<a
   ·exact h2.ft0 q g1 (by omega)
   ·exact H.f0 q (by omega) (by omega)
 ·by_cases e:q=a
  ·subst e;exact zero_bad (by rw [i3,i4];exact H.z b b1 b2)
  ·rw [badM_eq (m:=m) (i1 q e) (by rw [i3]) (by rw [i4])];exact H.bits q a1 a2 e b b1 b2
 ·rw [i3,i4];exact bad_zero (H.bits f (by omega) (by omega) (by omega) b b1 b2) (by omega)
 ·by_cases e:q=a
  ·subst e;rw [mJoin_if];rfl
  ·rw [ifM_eq (m:=m) (i1 q e),i4];exact H.some q a1 a2 e
 ·have hb:=logI_bd (iGet_one hka)
  have T:=pull_ex (X:=[a]) (h:= .bin (logI (ifM m f).l)) hb hfp (by simp;omega) H.ls (by simp [gM,binM,hka])
  have T2:=ex_set (m':=mJoin (mDrop m f) a) T (λ_=>rfl) rfl rfl (λq hq=>by
   rw [mJoin_info,if_neg (λe=>hq (by simp [e]))];rfl) λq _=>rfl
  refine ex_any T2 (λq hq hq2 h=>?_) λq hq hq2=>absurd (by simp only [iY] at hq;simp [hq]) hq2
  have:q=a:=by simp at hq hq2;omega
  subst this
  exact gM_none (by rw [mJoin_if];decide) (by rw [mJoin_if];decide) h
theorem joinr_hol {L1 L2:List Sp} {x:Sp} (H:Hol c m L1 a n (x::L2)) (hk:x.k=1):Hol c (mJoin (mDrop m (a+n)) (a+n)) L1 a (n+x.l) L2∧apF true L2=true:=by
 obtain ⟨h2,h3⟩:=H.t2
 have hp:=H.pos
 have hn1:=H.n1
 have hl:=h2.l1
 have hle:=h3.le
 have hfp:0≤a+n∧a+n<c.p:=by omega
 have hif:ifM m (a+n)=⟨x.k,x.l,x.c⟩:=h2.inf
 have hka:(ifM m (a+n)).k=1:=by rw [hif];exact hk
 have hap:=ap_split (L1:=[]) H.p2
 have hap2:apF (x.k==1) L2=true:=hap.2.2.1
 rw [hk] at hap2
 obtain ⟨e1,e2,e3,e4,_⟩:=pull_same (m:=m) (a:=a+n) (.bin (logI (ifM m (a+n)).l))
 have e1:(mDrop m (a+n)).info=m.info:=e1
 have e2:(mDrop m (a+n)).foot=m.foot:=e2
 have e3:(mDrop m (a+n)).slots=m.slots:=e3
 have e4:(mDrop m (a+n)).taken=m.taken:=e4
 have i1:∀q,q≠a+n→(mJoin (mDrop m (a+n)) (a+n)).info q=m.info q:= λq hq=>by rw [mJoin_info,if_neg hq,e1]
 have i2:∀q,q≠a+n-1→(mJoin (mDrop m (a+n)) (a+n)).foot q=m.foot q:= λq hq=>by rw [mJoin_foot,if_neg hq,e2]
 have i3:(mJoin (mDrop m (a+n)) (a+n)).slots=m.slots:=e3
 have i4:(mJoin (mDrop m (a+n)) (a+n)).taken=m.taken:=e4
 refine ⟨⟨H.t1.of_eq (λq _ _=>i1 q (by omega)) (λq _ _=>i2 q (by omega)),?_,by omega, λq g1 g2=>?_, λq g1 g2=>?_,H.p1,hap.2.1, λq a1 a2 hq b b1 b2=>?_, λb b1 b2=>?_, λq a1 a2 hq=>?_,?_⟩,hap2⟩
 ·rw [show a+(n+x.l)=a+n+x.l by omega]
  exact h3.of_eq (λq _ _=>i1 q (by omega)) (λq _ _=>i2 q (by omega))
 ·by_cases e:q=a+n
  ·rw [mJoin_info,if_pos e]
  ·rw [i1 q e]
   by_cases e':q<a+n
   ·exact H.i0 q g1 e'
   ·exact h2.in0 q (by omega) (by omega)
 ·by_cases e:q=a+n-1
  ·rw [mJoin_foot,if_pos e]
  ·rw [i2 q e]
   by_cases e':q<a+n
   ·exact H.f0 q g1 (by omega)
   ·exact h2.ft0 q (by omega) (by omega)
 ·by_cases e:q=a+n
  ·subst e
   exact zero_bad (by rw [i3,i4];exact bad_zero (H.bits (a+n) (by omega) (by omega) (by omega) b b1 b2) (by omega))
  ·rw [badM_eq (m:=m) (i1 q e) (by rw [i3]) (by rw [i4])];exact H.bits q a1 a2 hq b b1 b2
 ·rw [i3,i4];exact H.z b b1 b2
 ·by_cases e:q=a+n
  ·subst e;rw [mJoin_if];rfl
  ·rw [ifM_eq (m:=m) (i1 q e),i4];exact H.some q a1 a2 hq
 ·have hb:=logI_bd (iGet_one hka)
  have T:=pull_ex (X:=[a]) (h:= .bin (logI (ifM m (a+n)).l)) hb hfp (by simp;omega) H.ls (by simp [gM,binM,hka])
  have T2:=ex_set (m':=mJoin (mDrop m (a+n)) (a+n)) T (λ_=>rfl) rfl rfl (λq hq=>by
   rw [mJoin_info,if_neg (λe=>hq (by simp [e]))];rfl) λq _=>rfl
  refine ex_any T2 (λq hq hq2 h=>?_) λq hq hq2=>absurd (by simp only [iY] at hq;simp [hq]) hq2
  have:q=a+n:=by
   simp only [iG,kL,or_false] at hq hq2
   rcases hq with h|h
   ·exact h
   ·exact absurd h hq2
  subst this
  exact gM_none (by rw [mJoin_if];decide) (by rw [mJoin_if];decide) h
end
end
section
open Go.Sl
theorem wI_id {x:Int} (h: -9223372036854775808≤x∧x<9223372036854775808):wI x=x:=w64 h
section
variable {c:Cf} {m:Mm} {s:VS} {a n:Int}
theorem join_at {p b:Int} {G:Hq→Int→Bool} (h:At c s m) (hp:0≤p∧p<c.p) (hk:(ifM m p).k=1) (S:ListsM c m G) (hG:G (.bin (logI (ifM m p).l)) p=true) (hb:1≤b∧b<c.p):At c ((qJoin c p b).run s).1 (mJoin (mDrop m p) b)∧((qJoin c p b).run s).2=(ifM m p).l:=by
 have hok:=Cf.ok_iff.1 h.ok
 obtain ⟨h1,h2⟩:=drop_at' h hp hk S hG
 unfold qJoin
 simp only [Pg.run_bind,Pg.run_put,Pg.run_ret]
 refine ⟨?_,h2⟩
 have h3:=(h1.set_info (g:=b) (by omega) 0).set_foot (g:=b-1) (by omega) 0
 rw [wI_id (x:=b-1) (by omega)]
 exact h3
theorem free_no (h:At c s m) (ha:0≤a∧a<c.p) (hk:(ifM m a).k≠1):((pFree c a).run s).2=0:=by
 rw [(free_at h ha).2]
 have:((ifM m a).k==1)=false:=by simpa using hk
 rw [this];rfl
theorem exG_self {X:LI} {k:Int} (hk:(ifM m k).k=1) (hX:k ∉ X):exG m X (.bin (logI (ifM m k).l)) k=true:=by
 unfold exG
 rw [notin.2 hX]
 simp [gM,binM,hk]
theorem ahead_at {L1 L2:List Sp} (h:At c s m) (H:Hol c m L1 a n L2):∃m' L1' f,At c ((qAhead c a n).run s).1 m'∧((qAhead c a n).run s).2=(f,a+n-f)∧Hol c m' L1' f (a+n-f) L2∧apE false L1'=false∧Kp m m'∧fS L1'+(a+n-f)=fS L1+n∧(∀q,q≠f→uM m' q=if q=a then ⟨0,0,0⟩ else uM m q)∧(f≠a→uM m f=⟨0,0,0⟩)∧f≤a∧(apE false L1=false→f=a):=by
 have hok:=Cf.ok_iff.1 h.ok
 have hp:=H.pos
 have hn1:=H.n1
 have same:((qAhead c a n).run s).2=(a,n)→At c ((qAhead c a n).run s).1 m→apE false L1=false→∃m' L1' f,At c ((qAhead c a n).run s).1 m'∧((qAhead c a n).run s).2=(f,a+n-f)∧Hol c m' L1' f (a+n-f) L2∧apE false L1'=false∧Kp m m'∧fS L1'+(a+n-f)=fS L1+n∧(∀q,q≠f→uM m' q=if q=a then ⟨0,0,0⟩ else uM m q)∧(f≠a→uM m f=⟨0,0,0⟩)∧f≤a∧(apE false L1=false→f=a):= λe1 e2 e3=>by
  have e4:a+n-a=n:=by omega
  refine ⟨m,L1,a,e2,by rw [e1,e4],by rw [e4];exact H,e3,Kp.rfl,by rw [e4], λq hq=>by rw [if_neg hq], λe=>absurd rfl e,mC _, λ_=>rfl⟩
 by_cases h0:a=0
 ·have e:L1=[]:=by
   cases L1 with
   |nil=>rfl
   |cons x L=>
    have h1:=H.t1.1.l1
    have h2:=H.t1.2.le
    omega
  subst e
  have e2:(a==0)=true:=by simpa using h0
  refine same ?_ ?_ rfl<;>unfold qAhead<;>rw [e2]
  ·rfl
  ·exact h
 ·have hL:∃L x,L1=L++[x]:=by
   cases e:L1 with
   |nil=>rw [e] at H;have h1:(0:Int)=a:=H.t1;omega
   |cons y L=>exact ⟨_,_,(List.dropLast_concat_getLast (l:=y::L) (by simp)).symm⟩
  obtain ⟨L,x,e⟩:=hL
  subst e
  obtain ⟨f,t1,t2,t3⟩:=Tl.app.1 H.t1
  have t3:f+x.l=a:=t3
  have hl:=t2.l1
  have hf:=t1.le
  have hft:m.foot (a-1)=f+1:=by
   have:=t2.ft
   rw [t3,nv_id (by omega)] at this
   exact this
  have e2:(a==0)=false:=by simpa using h0
  have hfp:0≤f∧f<c.p:=by omega
  have h1:=h.read (c.foot (wI (a-1)))
  have hrun:(qAhead c a n).run s=((pFree c f).bind λl=>bif decide (0<l) then (qJoin c f a).bind λm=> .ret (f,wI (n+m)) else .ret (a,n)).run (s.read (c.foot (wI (a-1)))):=by
   unfold qAhead
   rw [e2,cond_false,Pg.run_get,wI_id (x:=a-1) (by omega),h.get_foot (g:=a-1) (by omega),hft,show f+1-1=f by omega]
  have hif:ifM m f=⟨x.k,x.l,x.c⟩:=t2.inf
  by_cases hk:x.k=1
  ·have hka:(ifM m f).k=1:=by rw [hif];exact hk
   have hfr:((pFree c f).run (s.read (c.foot (wI (a-1))))).2=x.l:=by
    rw [(free_at h1 hfp).2,hif,hk];rfl
   obtain ⟨j1,j2⟩:=join_at (b:=a) (free_at h1 hfp).1 hfp hka H.ls (exG_self hka (by simp;omega)) (by omega)
   obtain ⟨k1,k2⟩:=joinl_hol H t1 t2 t3 hk
   have e3:decide (0<x.l)=true:=by simp;omega
   have hrun2:(qAhead c a n).run s=(((qJoin c f a).run ((pFree c f).run (s.read (c.foot (wI (a-1))))).1).1,(f,wI (n+x.l))):=by
    rw [hrun]
    simp only [Pg.run_bind,Pg.run_ret,hfr,e3,cond_true,j2,hif]
   have e4:a+n-f=x.l+n:=by omega
   refine ⟨_,L,f,by rw [hrun2];exact j1,by rw [hrun2,wI_id (x:=n+x.l) (by omega),e4,Int.add_comm],by rw [e4];exact k1,k2,(Kp.drop m f).trans (Kp.join _ a),?_, λq hq=>?_, λ_=>?_,by omega, λhx=>?_⟩
   ·rw [e4,fS_app]
    simp only [fS,hk,beq_self_eq_true,cond_true];omega
   ·by_cases e:q=a
    ·subst e;rw [if_pos rfl];unfold uM;rw [mJoin_if];rfl
    ·rw [if_neg e]
     refine uM_eq ?_
     rw [mJoin_info,if_neg e]
     exact congrFun (pull_same (m:=m) (a:=f) (.bin (logI (ifM m f).l))).1 q
   ·unfold uM;rw [hif,uI,hk];rfl
   ·rw [apE_app] at hx
    have hx:(x.k==1)=false:=hx
    rw [hk] at hx;cases hx
  ·have hka:(ifM m f).k≠1:=by rw [hif];exact hk
   have hfr:=free_no h1 hfp hka
   have hrun2:(qAhead c a n).run s=(((pFree c f).run (s.read (c.foot (wI (a-1))))).1,(a,n)):=by
    rw [hrun]
    simp only [Pg.run_bind,hfr,Int.lt_irrefl,decide_false,cond_false,Pg.run_ret]
   refine same (by rw [hrun2]) (by rw [hrun2];exact (free_at h1 hfp).1) ?_
   rw [apE_app]
   show (x.k==1)=false
   simpa using hk
theorem next_at {L1 L2:List Sp} (h:At c s m) (H:Hol c m L1 a n L2):∃m' L2' n',At c ((qNext c (a+n) (a,n)).run s).1 m'∧((qNext c (a+n) (a,n)).run s).2=(a,n')∧Hol c m' L1 a n' L2'∧apF true L2'=true∧Kp m m'∧n'+fS L2'=n+fS L2∧(∀q,q≠a→uM m' q=uM m q)∧n≤n':=by
 have hok:=Cf.ok_iff.1 h.ok
 have hp:=H.pos
 have hn1:=H.n1
 cases e:L2 with
 |nil=>
  subst e
  have h1:a+n=c.p:=H.t2
  have e2:decide (a+n<c.p)=false:=by simp;omega
  refine ⟨m,[],n,?_,?_,H,rfl,Kp.rfl,rfl, λq _=>rfl,mC _⟩<;>unfold qNext<;>rw [e2]
  ·exact h
  ·rfl
 |cons x L=>
  subst e
  obtain ⟨t1,t2⟩:=H.t2
  have hl:=t1.l1
  have hle:=t2.le
  have hfp:0≤a+n∧a+n<c.p:=by omega
  have e2:decide (a+n<c.p)=true:=by simpa using hfp.2
  have hif:ifM m (a+n)=⟨x.k,x.l,x.c⟩:=t1.inf
  by_cases hk:x.k=1
  ·have hka:(ifM m (a+n)).k=1:=by rw [hif];exact hk
   have hfr:((pFree c (a+n)).run s).2=x.l:=by
    rw [(free_at h hfp).2,hif,hk];rfl
   obtain ⟨j1,j2⟩:=join_at (b:=a+n) (free_at h hfp).1 hfp hka H.ls (exG_self hka (by simp;omega)) (by omega)
   obtain ⟨k1,k2⟩:=joinr_hol H hk
   have e3:decide (0<x.l)=true:=by simp;omega
   have hrun:(qNext c (a+n) (a,n)).run s=(((qJoin c (a+n) (a+n)).run ((pFree c (a+n)).run s).1).1,(a,wI (n+x.l))):=by
    unfold qNext
    simp only [e2,cond_true,Pg.run_bind,Pg.run_ret,hfr,e3,j2,hif]
   refine ⟨_,L,n+x.l,by rw [hrun];exact j1,by rw [hrun,wI_id (x:=n+x.l) (by omega)],k1,k2,(Kp.drop m (a+n)).trans (Kp.join _ _),?_, λq hq=>?_,by omega⟩
   ·simp only [fS,hk,beq_self_eq_true,cond_true];omega
   ·by_cases e:q=a+n
    ·subst e
     unfold uM;rw [mJoin_if,hif,uI,uI,hk];rfl
    ·refine uM_eq ?_
     rw [mJoin_info,if_neg e]
     exact congrFun (pull_same (m:=m) (a:=a+n) (.bin (logI (ifM m (a+n)).l))).1 q
  ·have hka:(ifM m (a+n)).k≠1:=by rw [hif];exact hk
   have hfr:=free_no h hfp hka
   have hrun:(qNext c (a+n) (a,n)).run s=(((pFree c (a+n)).run s).1,(a,n)):=by
    unfold qNext
    simp only [e2,cond_true,Pg.run_bind,hfr,Int.lt_irrefl,decide_false,cond_false,Pg.run_ret]
   refine ⟨m,x::L,n,by rw [hrun];exact (free_at h hfp).1,by rw [hrun],H,?_,Kp.rfl,rfl, λq _=>rfl,mC _⟩
   have:=H.p2
   simp only [apF,iE] at this ⊢
   have e5:(x.k==1)=false:=by simpa using hk
   rw [e5]
   rw [e5] at this
   exact ⟨rfl,this.2⟩
theorem count_at (h:At c s m) (k:Int):At c ((pCount k).run s).1 {m with fr:=nv (m.fr+k)}:=by
 unfold pCount
 simp only [Pg.run_get,Pg.run_put,Pg.run_ret]
 have h1:=(h.read 0).set_fr (nv (s.get 0+k))
 rw [nvnv,h.get_fr] at h1
 rw [h.get_fr]
 exact h1
theorem SndM.same {L:List Sp} {m':Mm} (S:SndM c m L) (e1:m'.info=m.info) (e2:m'.foot=m.foot) (e3:m'.slots=m.slots) (e4:m'.taken=m.taken) (e5:m'.next=m.next) (e6:m'.prev=m.prev) (e7:∀h:Hq,m'.hd h=m.hd h):SndM c m' L:=by
 obtain ⟨S1,S2⟩:=snd_iff.1 S
 refine snd_iff.2 ⟨⟨S1.tl.of_eq (λq _ _=>by rw [e1]) (λq _ _=>by rw [e2]),S1.ap, λq a1 a2 b b1 b2=>?_, λq a1 a2=>?_⟩,S2.of_eq e7 e5 e6 λh hh q a1 a2=>gM_eq (by rw [e1]) (by rw [e4]) h⟩
 ·rw [badM_eq (m:=m) (by rw [e1]) (by rw [e3]) (by rw [e4])];exact S1.bits q a1 a2 b b1 b2
 ·rw [ifM_eq (m:=m) (by rw [e1]),e4];exact S1.some q a1 a2
structure Ch1 (c:Cf) (m m':Mm) (a:Int) (u:If) (d:Int):Prop where
 u:∀q,0≤q→q<c.p→uM m' q=if q=a then u else uM m q
 slots:m'.slots=m.slots
 taken:m'.taken=m.taken
 root:m'.root=m.root
 dn:m'.dn=m.dn
 lv:m'.lv=m.lv
 fr:m'.fr=nv (m.fr+d)
theorem add_info (q:Int):(mAdd m a n).info q=if q=a then iVal 1 n 0 else m.info q:=by
 have e:(mAdd m a n).info=(mSpan m 1 a n).info:=(push_same (m:=mSpan m 1 a n) (a:=a) (.bin (logI n))).1
 rw [e,mSpan_info]
theorem add_uM (hn:1≤n∧n≤1024) (q:Int):uM (mAdd m a n) q=if q=a then ⟨0,0,0⟩ else uM m q:=by
 by_cases e:q=a
 ·subst e
  rw [if_pos rfl]
  unfold uM ifM
  rw [add_info,if_pos rfl,(iVal_get (span_right (.inl rfl) hn)).1];rfl
 ·rw [if_neg e];exact uM_eq (by rw [add_info,if_neg e])
theorem rel_at {L1 L2:List Sp} (h:At c s m) (H:Hol c m L1 a n L2):∃m' L',At c ((qRelease c a n).run s).1 m'∧SndM c m' L'∧Ch1 c m m' a ⟨0,0,0⟩ n∧fS L'=fS L1+n+fS L2∧(apE false L1=false→(ifM m' a).k=1∧n≤(ifM m' a).l):=by
 have hok:=Cf.ok_iff.1 h.ok
 have hp:=H.pos
 have hn1:=H.n1
 obtain ⟨m1,L1',f,g1,g2,g3,g4,g5,g6,g7,g8,g9,g10⟩:=ahead_at h H
 obtain ⟨m2,L2',n',k1,k2,k3,k4,k5,k6,k7,k8⟩:=next_at g1 g3
 have hp2:=k3.pos
 have hn2:=k3.n1
 have hA:=add_at (a:=f) (n:=n') k1 (by omega) (by omega) (k3.ls.hd_ok (h:= .bin (logI n')) (logI_bd (by omega)))
 have hS:=fill_free k3 (by omega) g4 k4
 have hC:=count_at hA n
 have hrun:((qRelease c a n).run s).1=((pCount n).run ((pAdd c f n').run ((qNext c (f+(a+n-f)) (f,a+n-f)).run ((qAhead c a n).run s).1).1).1).1:=by
  unfold qRelease
  simp only [Pg.run_bind,g2]
  rw [wI_id (x:=a+n) (by omega),show f+(a+n-f)=a+n by omega] at*
  rw [k2]
 refine ⟨{mAdd m2 f n' with fr:=nv ((mAdd m2 f n').fr+n)},_,by rw [hrun];exact hC,hS.same rfl rfl rfl rfl rfl rfl (λh=>by cases h<;>rfl),⟨λq a1 a2=>?_,?_,?_,?_,?_,?_,?_⟩,?_, λhx=>?_⟩
 ·show uM (mAdd m2 f n') q=_
  rw [add_uM (by omega)]
  by_cases e:q=f
  ·rw [if_pos e]
   by_cases e2:q=a
   ·rw [if_pos e2]
   ·rw [if_neg e2,e,g8 (λe3=>e2 (e.trans e3))]
  ·rw [if_neg e,k7 q e,g7 q e]
 ·exact (g5.trans (k5.trans (Kp.add m2 f n'))).slots
 ·exact (g5.trans (k5.trans (Kp.add m2 f n'))).taken
 ·exact (g5.trans (k5.trans (Kp.add m2 f n'))).root
 ·exact (g5.trans (k5.trans (Kp.add m2 f n'))).dn
 ·exact (g5.trans (k5.trans (Kp.add m2 f n'))).lv
 ·show nv ((mAdd m2 f n').fr+n)=_
  rw [(g5.trans (k5.trans (Kp.add m2 f n'))).fr]
 ·rw [fS_app]
  simp only [fS,beq_self_eq_true,cond_true];omega
 ·have e:=g10 hx
  subst e
  have e2:ifM {mAdd m2 f n' with fr:=nv ((mAdd m2 f n').fr+n)} f=⟨1,n',0⟩:=by
   show iGet ((mAdd m2 f n').info f)=_
   rw [add_info,if_pos rfl,(iVal_get (span_right (.inl rfl) ⟨by omega,by omega⟩)).1]
  rw [e2]
  exact ⟨rfl,by show n≤n';omega⟩
end
end
section
open Go.Sl
section
variable {c:Cf} {m m':Mm}
def blkU (c:Cf) (u:If) (sl q:Int):List Pt:=bif u.k==2 then [⟨2,(q+1)*pgB c.s,u.l*pgB c.s⟩] else bif u.k==3 then slF c sl q u.c (kSlots u.c).toNat else []
where slF (c:Cf) (sl q k:Int):Nat→List Pt
 |0=>[]
 |n+1=>slF c sl q k n++bif bitAt sl n then [⟨2,(q+1)*pgB c.s+n*szB c.s k,szB c.s k⟩] else []
theorem slF_eq (q k:Int):∀n:Nat,slB c m q k n=blkU.slF c (m.slots q) q k n
 |0=>rfl
 |n+1=>by rw [slB,blkU.slF,slF_eq q k n]
theorem blkP_u (q:Int):blkP c m q=blkU c (uM m q) (m.slots q) q:=by
 unfold blkP blkU uM uI
 cases h2:(ifM m q).k==2 with
 |true=>simp only [pQ,cond_true,h2]
 |false=>
  cases h3:(ifM m q).k==3 with
  |true=>simp only [Bool.or_true,cond_true,h2,h3,cond_false,slF_eq]
  |false=>
   simp only [Bool.or_self,cond_false]
   have e1:((0:Int)==2)=false:=by decide
   have e2:((0:Int)==3)=false:=by decide
   rw [e1,e2,cond_false,cond_false]
theorem lvP_u (q:Int):lvP m q=(bif (uM m q).k==2 then 1 else 0)+ones (m.slots q):=by
 unfold lvP uM uI
 cases h2:(ifM m q).k==2 with
 |true=>simp only [pQ,cond_true,h2]
 |false=>
  cases h3:(ifM m q).k==3 with
  |true=>simp only [Bool.or_true,cond_true,h2]
  |false=>rfl
def blkT (c:Cf) (m:Mm) (a:Int):Nat→List Pt
 |0=>[]
 |k+1=>blkT c m a k++blkP c m (a+k)
theorem blkF_add (n:Nat):∀k:Nat,blkF c m (n+k)=blkF c m n++blkT c m n k
 |0=>by simp [blkT]
 |k+1=>by rw [←nF,blkF,blkF_add n k,blkT,jX];rfl
theorem blkT_congr {a:Int}:∀{k:Nat},(∀q:Int,a≤q→q<a+k→blkP c m' q=blkP c m q)→blkT c m' a k=blkT c m a k
 |0,_=>rfl
 |k+1,h=>by
  rw [blkT,blkT,blkT_congr (k:=k) λq g1 g2=>h q g1 (by push_cast;omega),h _ (by omega) (by push_cast;omega)]
theorem blkF_split {p:Int} (h0:0≤p) (h1:p<c.p):blkF c m c.p.toNat=blkF c m p.toNat++(blkP c m p++blkT c m (p+1) (c.p-p-1).toNat):=by
 have e:c.p.toNat=(p.toNat+1)+(c.p-p-1).toNat:=by omega
 have e2:((p.toNat:Nat):Int)=p:=by omega
 have e3:((p.toNat+1:Nat):Int)=p+1:=by omega
 rw [e,blkF_add,blkF,jX,e2,e3]
theorem pg_pos (h:c.ok=true):1024≤pgB c.s:=(szB_ok (Cf.ok_iff.1 h).2.2 (k:=0) (by omega)).2.2.2.2.1
theorem slB_bd (h:c.ok=true) {q k:Int} (hk:0≤k∧k≤8) {x:Pt}:∀n:Nat,n≤(kSlots k).toNat→x∈slB c m q k n→∃j:Nat,j<n∧bitAt (m.slots q) j=true∧x=⟨2,(q+1)*pgB c.s+j*szB c.s k,szB c.s k⟩
 |0,_,hx=>by cases hx
 |n+1,hn,hx=>by
  rw [slB,kC] at hx
  rcases hx with hx|hx
  ·obtain ⟨j,h1,h2⟩:=slB_bd h hk n (by omega) hx
   exact ⟨j,by omega,h2⟩
  ·cases hb:bitAt (m.slots q) n with
   |false=>rw [hb] at hx;cases hx
   |true=>
    rw [hb,cond_true,iY] at hx
    exact ⟨n,by omega,hb,hx⟩
theorem sl_in (h:c.ok=true) {k:Int} (hk:0≤k∧k≤8) {j:Nat} (hj:j<(kSlots k).toNat):0≤(j:Int)*szB c.s k∧(j:Int)*szB c.s k+szB c.s k≤pgB c.s:=by
 obtain ⟨e,e2,e3,e4,e5,e6,_⟩:=szB_ok (Cf.ok_iff.1 h).2.2 hk
 have f1:0≤(j:Int)*szB c.s k:=nH (by omega) (by omega)
 have f2:((j:Int)+1)*szB c.s k≤kSlots k*szB c.s k:=kJ (by omega) (by omega)
 have f3:((j:Int)+1)*szB c.s k=j*szB c.s k+szB c.s k:=by rw [nM,nV]
 have f4:kSlots k*szB c.s k=szB c.s k*kSlots k:=oP _ _
 omega
theorem blkP_bd (h:c.ok=true) {q:Int} {x:Pt} (hx:x∈blkP c m q):x.k=2∧(q+1)*pgB c.s≤x.a∧x.a<(q+1)*pgB c.s+pgB c.s:=by
 have hp:=pg_pos h
 unfold blkP at hx
 cases h2:(ifM m q).k==2 with
 |true=>
  rw [h2,cond_true,iY] at hx
  subst hx;exact ⟨rfl,mC _,by show (q+1)*pgB c.s<(q+1)*pgB c.s+pgB c.s;omega⟩
 |false=>
  cases h3:(ifM m q).k==3 with
  |false=>rw [h2,h3] at hx;cases hx
  |true=>
   rw [h2,h3,cond_false,cond_true] at hx
   have hb:=iGet_bd (m.info q)
   have hk:0≤(ifM m q).c∧(ifM m q).c≤8:=⟨hb.2.2.2.2.1,hb.2.2.2.2.2⟩
   obtain ⟨j,h4,_,rfl⟩:=slB_bd h hk _ (kF _) hx
   have:=sl_in h hk h4
   have e2:=(szB_ok (Cf.ok_iff.1 h).2.2 hk).2.1
   exact ⟨rfl,by show _≤_+_;omega,by show _+_<_;omega⟩
theorem pg_mono (h:c.ok=true) {q r:Int} (hq:q+1≤r):(q+1)*pgB c.s+pgB c.s≤(r+1)*pgB c.s:=by
 have hp:=pg_pos h
 have e:(q+1)*pgB c.s+pgB c.s=(q+2)*pgB c.s:=by
  rw [show q+2=(q+1)+1 by omega,nM (q+1) 1,nV]
 rw [e]
 exact kJ (by omega) (by omega)
theorem blkF_lt (h:c.ok=true) {p:Int} (hp:0≤p) {x:Pt} (hx:x∈blkF c m p.toNat):x.a<(p+1)*pgB c.s:=by
 obtain ⟨q,h1,h2,h3⟩:=mem_blkF.1 hx
 have:=blkP_bd h h3
 have:=pg_mono h (q:=q) (r:=p) (by omega)
 omega
theorem mem_blkT {a:Int} {x:Pt}:∀{k:Nat},x∈blkT c m a k→∃q:Int,a≤q∧q<a+k∧x∈blkP c m q
 |0,h=>by cases h
 |k+1,h=>by
  rw [blkT,kC] at h
  rcases h with h|h
  ·obtain ⟨q,h1,h2,h3⟩:=mem_blkT h
   exact ⟨q,h1,by push_cast;omega,h3⟩
  ·exact ⟨_,by omega,by push_cast;omega,h⟩
theorem blkT_ge (h:c.ok=true) {p:Int} {k:Nat} {x:Pt} (hx:x∈blkT c m (p+1) k):(p+1)*pgB c.s+pgB c.s≤x.a:=by
 obtain ⟨q,h1,h2,h3⟩:=mem_blkT hx
 have:=blkP_bd h h3
 have:=pg_mono h (q:=p) (r:=q) (by omega)
 omega
def addB (b:Pt):List Pt→List Pt
 |[]=>[b]
 |x::l=>bif decide (x.a>b.a) then b::x::l else x::addB b l
theorem addB_app {b:Pt}:∀{l1 l2:List Pt},(∀x∈l1,x.a≤b.a)→(∀x∈l2,b.a<x.a)→addB b (l1++l2)=l1++b::l2
 |[],[],_,_=>rfl
 |[],y::l2,_,h=>by
  have:decide (y.a>b.a)=true:=by simpa using h y (by simp)
  simp only [nL,addB,this,cond_true]
 |x::l1,l2,h1,h2=>by
  have e:decide (x.a>b.a)=false:=by have:=h1 x (by simp);simpa using this
  have ih:=addB_app (l1:=l1) (l2:=l2) (λy hy=>h1 y (by simp [hy])) h2
  simp only [kA,addB,e,cond_false,ih]
section
variable {a:Int} {u:If} {d:Int}
theorem Ch1.blkP (C:Ch1 c m m' a u d) {q:Int} (h0:0≤q) (h1:q<c.p) (hq:q≠a):blkP c m' q=blkP c m q:=by
 rw [blkP_u,blkP_u,C.u q h0 h1,if_neg hq,C.slots]
theorem Ch1.pre (C:Ch1 c m m' a u d) (h1:a<c.p):blkF c m' a.toNat=blkF c m a.toNat:=blkF_congr λq g1 g2=>C.blkP g1 (by omega) (by omega)
theorem Ch1.post (C:Ch1 c m m' a u d) (h0:0≤a) (h1:a<c.p):blkT c m' (a+1) (c.p-a-1).toNat=blkT c m (a+1) (c.p-a-1).toNat:=blkT_congr λq g1 g2=>C.blkP (by omega) (by omega) (by omega)
end
end
end
section
open Go.Sl
def stM (c:Cf) (m:Mm):LI×LI×Int×Int×Int×Int×Int×Int×Int×Int×Bool:=((blkF c m c.p.toNat).map (·.a),(blkF c m c.p.toNat).map (·.s),m.root 0,m.root 1,m.root 2,m.root 3,m.root 4,m.root 5,m.root 6,m.root 7,true)
section
variable {c:Cf} {m m':Mm} {s:VS} {xs:LI} {L:List Sp}
theorem state_xs (h:soundA c xs=true):stateA c xs=stM c (Mm.of c xs):=by
 unfold stateA
 rw [h,cond_true,blocks_eq];rfl
theorem sound_xs (h:soundA c xs=true) (hb:bdAll xs):∃L,SoundM c (Mm.of c xs) L:=((sound_iff hb).1 h).2
theorem sound_of (h:At c s m) (ha:s.all=true) (S:SoundM c m L):soundA c s.vals=true:=(sound_iff (good_vals h ha).bd).2 ⟨good_vals h ha,L,S.congr (meq_vals h ha)⟩
theorem state_of (h:At c s m) (ha:s.all=true) (S:SoundM c m L):stateA c s.vals=stM c m:=by
 have e:=meq_vals h ha
 rw [state_xs (sound_of h ha S)]
 unfold stM
 rw [blkF_eq e.info e.slots,e.root 0 (by decide) (by decide),e.root 1 (by decide) (by decide),e.root 2 (by decide) (by decide),e.root 3 (by decide) (by decide),e.root 4 (by decide) (by decide),e.root 5 (by decide) (by decide),e.root 6 (by decide) (by decide),e.root 7 (by decide) (by decide)]
theorem stM_eq (h1:blkF c m' c.p.toNat=blkF c m c.p.toNat) (h2:m'.root=m.root):stM c m'=stM c m:=by unfold stM;rw [h1,h2]
end
end
section
open Go.Sl
theorem mem_addB {b x:Pt}:∀{l:List Pt},x∈addB b l↔x=b∨x∈l
 |[]=>by simp [addB]
 |y::l=>by
  unfold addB
  cases decide (y.a>b.a) with
  |true=>simp
  |false=>
   simp only [cond_false,iG,mem_addB (l:=l)]
   constructor
   ·rintro (h|h|h)
    ·exact .inr (.inl h)
    ·exact .inl h
    ·exact .inr (.inr h)
   ·rintro (h|h|h)
    ·exact .inr (.inl h)
    ·exact .inl h
    ·exact .inr (.inr h)
section
variable {c:Cf} {m m':Mm} {s:VS} {L L':List Sp} {a d:Int} {u:If}
theorem uM_kind {q:Int} (h:uM m q=⟨0,0,0⟩):(ifM m q).k≠2∧(ifM m q).k≠3:=by
 unfold uM uI at h
 constructor
 ·intro e
  rw [e] at h
  have e2:((2:Int)==2||(2:Int)==3)=true:=rfl
  rw [e2,cond_true] at h
  rw [h] at e;cases e
 ·intro e
  rw [e] at h
  have e2:((3:Int)==2||(3:Int)==3)=true:=rfl
  rw [e2,cond_true] at h
  rw [h] at e;cases e
end
end
section
open Go.Sl
def insA (b:Int):LI→LI
 |[]=>[b]
 |x::l=>bif decide (x>b) then b::x::l else x::insA b l
def insZ (b z:Int):LI→LI→LI
 |x::l,y::k=>bif decide (x>b) then z::y::k else y::insZ b z l k
 |_,_=>[z]
theorem insA_map (b:Pt):∀l:List Pt,insA b.a (l.map (·.a))=(addB b l).map (·.a)
 |[]=>rfl
 |x::l=>by
  simp only [iK,insA,addB,insA_map b l]
  cases decide (x.a>b.a)<;>rfl
theorem insZ_map (b:Pt):∀l:List Pt,insZ b.a b.s (l.map (·.a)) (l.map (·.s))=(addB b l).map (·.s)
 |[]=>rfl
 |x::l=>by
  simp only [iK,insZ,addB,insZ_map b l]
  cases decide (x.a>b.a)<;>rfl
end
section
open Go.Sl
abbrev StT:=LI×LI×Int×Int×Int×Int×Int×Int×Int×Int×Bool
def stWith (t:StT) (a z:LI):StT:=(a,z,t.2.2)
section
variable {c:Cf} {m m':Mm} {s:VS} {xs:LI} {L L':List Sp}
theorem stM_add {b:Pt} (h:blkF c m' c.p.toNat=addB b (blkF c m c.p.toNat)) (hr:m'.root=m.root):stM c m'=stWith (stM c m) (insA b.a (stM c m).1) (insZ b.a b.s (stM c m).1 (stM c m).2.1):=by
 unfold stM stWith
 simp only [h,hr,insA_map,insZ_map]
end
end
section
open Go.Sl
theorem onesF_fr (t:Int):∀n:Nat,onesF t n+(frN (λi=>!bitAt t (i:Int)) n).length=n
 |0=>rfl
 |n+1=>by
  have ih:=onesF_fr t n
  rw [onesF,frN_succ,jM]
  cases bitAt t (n:Int)<;>simp<;>omega
theorem onesF_top {t:Int} {n:Nat}:∀{k:Nat},(∀b:Int,n≤b→b<n+k→bitAt t b=false)→onesF t (n+k)=onesF t n
 |0,_=>rfl
 |k+1,h=>by
  rw [←nF,onesF,onesF_top (k:=k) λb h1 h2=>h b h1 (by push_cast;omega),h _ (by push_cast;omega) (by push_cast;omega)];simp
theorem ones_fr {t k:Int} (h:∀b:Int,kSlots k≤b→b<32→bitAt t b=false):ones t+(frL t (kSlots k)).length=kSlots k:=by
 have hk:=kSlots_bd k
 have h1:=onesF_top (t:=t) (n:=(kSlots k).toNat) (k:=32-(kSlots k).toNat) λb g1 g2=>h b (by omega) (by omega)
 rw [show (kSlots k).toNat+(32-(kSlots k).toNat)=32 by omega] at h1
 have h2:=onesF_fr t (kSlots k).toNat
 unfold ones frL
 rw [h1];omega
theorem full_fr {t k:Int} (h:∀b:Int,kSlots k≤b→b<32→bitAt t b=false):full t k=(frL t (kSlots k)).isEmpty:=by
 have:=ones_fr h
 unfold full
 cases hl:frL t (kSlots k) with
 |nil=>rw [hl] at this;simp at this ⊢;omega
 |cons x l=>
  rw [hl] at this
  simp only [jR] at this
  simp only [List.isEmpty_cons,beq_eq_false_iff_ne,ne_eq]
  omega
theorem frL_in {t n s:Int} (h0:0≤s) (h1:s<n) (h:bitAt t s=false):s∈frL t n:=by
 unfold frL
 exact frN_mem.2 ⟨h0,by omega,by rw [show ((s.toNat:Nat):Int)=s by omega,h];rfl⟩
def idN (t s:Int):Nat→Int
 |0=>0
 |n+1=>idN t s n+bif bitAt t n&&!bitAt s n then 1 else 0
theorem idN_one {t t' s x:Int} (h:∀b,bitAt t' b=(bitAt t b||decide (b=x))) (ht:bitAt t x=false) (hs:bitAt s x=false) (h0:0≤x):∀n:Nat,idN t' s n=idN t s n+bif decide (x<n) then 1 else 0
 |0=>by
  have:decide (x<((0:Nat):Int))=false:=by simp;omega
  rw [this];rfl
 |n+1=>by
  rw [idN,idN,idN_one h ht hs h0 n,h]
  by_cases e:(n:Int)=x
  ·have e1:decide (x<(n:Int))=false:=by simp;omega
   have e2:decide (x<((n+1:Nat):Int))=true:=by simp;omega
   rw [e1,e2,e,ht,hs];simp
  ·have e1:decide ((n:Int)=x)=false:=by simpa using e
   have e2:decide (x<((n+1:Nat):Int))=decide (x<(n:Int)):=decide_eq_decide.2 (by push_cast;omega)
   rw [e1,e2,pG];omega
theorem idN_sub {t t' s x:Int} (h:∀b,bitAt t' b=(bitAt t b&&!decide (b=x))) (ht:bitAt t x=true) (hs:bitAt s x=false) (h0:0≤x) {n:Nat} (hn:x<n):idN t s n=idN t' s n+1:=by
 have:=idN_one (t:=t') (t':=t) (s:=s) (x:=x) (λb=>by
  rw [h]
  by_cases e:b=x
  ·subst e;rw [ht];simp
  ·simp [e]) (by rw [h];simp) hs h0 n
 have e:decide (x<(n:Int))=true:=by simpa using hn
 rw [e] at this;exact this
section
variable {c:Cf} {m m':Mm} {s:VS} {L:List Sp} {a k:Int} {xs:LI}
def mTak (m:Mm) (a t:Int):Mm:={m with taken:=fset m.taken a t}
structure SndX (c:Cf) (m:Mm) (L:List Sp) (a:Int):Prop where
 tl:Tl m 0 L c.p
 ap:∀i:Nat,i+1<L.length→¬((L.getD i ⟨0,0,0⟩).k=1∧(L.getD (i+1) ⟨0,0,0⟩).k=1)
 bits:∀q:Int,0≤q→q<c.p→∀b:Int,0≤b→b<32→badM m q b=false
 some:∀q:Int,0≤q→q<c.p→q≠a→((ifM m q).k==3&&m.taken q==0)=false
 ls:ListsM c m (gM m)
theorem SndM.x (S:SndM c m L) (a:Int):SndX c m L a:=by
 obtain ⟨S1,S2⟩:=snd_iff.1 S
 exact ⟨S1.tl,S1.ap,S1.bits, λq h0 h1 _=>S1.some q h0 h1,S2⟩
theorem rackM_iff {q:Int}:rackM m k q=true↔(ifM m q).k=3∧(ifM m q).c=k∧full (m.taken q) k=false:=by
 simp only [rackM,iE,beq_iff_eq,jO,and_assoc]
theorem bad_live {q b:Int} (h:badM m q b=false) (hs:bitAt (m.slots q) b=true):bitAt (m.taken q) b=true:=by
 cases ht:bitAt (m.taken q) b with
 |true=>rfl
 |false=>unfold badM at h;rw [hs,ht] at h;cases h
theorem bad_slot {q b:Int} (h:badM m q b=false) (ht:bitAt (m.taken q) b=true):(ifM m q).k=3∧b<kSlots (ifM m q).c:=by
 unfold badM at h
 rw [ht] at h
 simp only [kU,oX,lY,nR,jH,bne_eq_false_iff_eq,decide_eq_false_iff_not] at h
 omega
theorem bits_in (hb:∀b:Int,0≤b→b<32→badM m a b=false):∀b:Int,kSlots (ifM m a).c≤b→b<32→bitAt (m.taken a) b=false:= λb h1 h2=>by
 have hk:=kSlots_bd (ifM m a).c
 cases ht:bitAt (m.taken a) b with
 |false=>rfl
 |true=>have:=bad_slot (hb b (by omega) h2) ht;omega
end
end
section
open Go.Sl
section
variable {c:Cf} {m m':Mm} {s:VS} {L L':List Sp} {a k b:Int} {xs:LI}
theorem give_some (S:SndM c m L) (ha:0≤a∧a<c.p) (h3:(ifM m a).k=3) (ht:bd32 (m.taken a)) (hb:0≤b∧b<32) (hT:bitAt (m.taken a) b=true) (hS:bitAt (m.slots a) b=false) (hu:clrB (m.taken a) b≠0):
 SndM c (bif full (m.taken a) (ifM m a).c then mPush (mTak m a (clrB (m.taken a) b)) (.rack (ifM m a).c) a else mTak m a (clrB (m.taken a) b)) L:=by
 obtain ⟨S1,S2⟩:=snd_iff.1 S
 obtain ⟨c0,c1,hl⟩:=iGet_three h3
 have hk:(Hq.rack (ifM m a).c).ok:=⟨c0,by show (iGet (m.info a)).c<9;omega⟩
 obtain ⟨t1,t2⟩:=bitAt_clrB ht hb
 have hin:=bits_in (S1.bits a ha.1 ha.2)
 have hbs:=bad_slot (S1.bits a ha.1 ha.2 b hb.1 hb.2) hT
 generalize hte:clrB (m.taken a) b=t at t1 t2 hu ⊢
 have hta:(mTak m a t).taken a=t:=fset_same _ _ _
 have htk:∀q,q≠a→(mTak m a t).taken q=m.taken q:= λq hq=>fset_ne hq
 have hnf:full t (ifM m a).c=false:=by
  rw [full_fr λx h1 h2=>by rw [t2,hin x h1 h2];rfl]
  have:b∈frL t (kSlots (ifM m a).c):=frL_in hb.1 hbs.2 (by rw [t2];simp)
  cases hl2:frL t (kSlots (ifM m a).c) with
  |nil=>rw [hl2] at this;cases this
  |cons _ _=>rfl
 have hif:ifM (mTak m a t) a=ifM m a:=rfl
 have hbits:∀q:Int,0≤q→q<c.p→∀x:Int,0≤x→x<32→badM (mTak m a t) q x=false:= λq h0 h1 x x0 x1=>by
  by_cases e:q=a
  ·subst e
   have hx:=S1.bits q h0 h1 x x0 x1
   unfold badM at hx ⊢
   rw [hta,hif,t2]
   have hs:(mTak m q t).slots q=m.slots q:=rfl
   rw [hs]
   by_cases ex:x=b
   ·subst ex;rw [hS];simp
   ·simpa [ex] using hx
  ·rw [badM_eq (m:=m) (m':=mTak m a t) rfl rfl (htk q e)];exact S1.bits q h0 h1 x x0 x1
 have hsome:∀q:Int,0≤q→q<c.p→((ifM (mTak m a t) q).k==3&&(mTak m a t).taken q==0)=false:= λq h0 h1=>by
  by_cases e:q=a
  ·subst e
   rw [hta]
   have:(t==0)=false:=by simpa using hu
   rw [this,oX]
  ·rw [htk q e];exact S1.some q h0 h1
 have hT':Tl (mTak m a t) 0 L c.p:=S1.tl.of_eq (λ_ _ _=>rfl) λ_ _ _=>rfl
 have hls:ListsM c (mTak m a t) (gM m):=S2.of_eq (λh=>by cases h<;>rfl) rfl rfl λ_ _ _ _ _=>rfl
 have hne:∀q,q≠a→∀h:Hq,gM (mTak m a t) h q=gM m h q:= λq hq h=>gM_eq (m:=m) (m':=mTak m a t) (q:=q) rfl (htk q hq) h
 have hgt:gM (mTak m a t) (.rack (ifM m a).c) a=true:=rackM_iff.2 ⟨h3,rfl,by rw [hta];exact hnf⟩
 have hoth:∀h:Hq,h≠ .rack (ifM m a).c→gM (mTak m a t) h a=false:= λh eh=>by
  cases h with
  |bin j=>show binM (mTak m a t) j a=false;unfold binM;rw [hif,h3];rfl
  |rack j=>
   have hj:(ifM m a).c≠j:= λe=>eh (by rw [e])
   show rackM (mTak m a t) j a=false
   unfold rackM
   rw [hif]
   have:((ifM m a).c==j)=false:=by simpa using hj
   rw [this];simp
 cases hf:full (m.taken a) (ifM m a).c with
 |false=>
  rw [cond_false]
  refine snd_iff.2 ⟨⟨hT',S1.ap,hbits,hsome⟩,hls.of_eq (λ_=>rfl) rfl rfl λh hh q h0 h1=>?_⟩
  by_cases e:q=a
  ·subst e
   by_cases eh:h= .rack (ifM m q).c
   ·subst eh
    rw [hgt]
    exact (rackM_iff.2 ⟨h3,rfl,hf⟩).symm
   ·rw [hoth h eh]
    have hr:gM m (.rack (ifM m q).c) q=true:=rackM_iff.2 ⟨h3,rfl,hf⟩
    cases hx:gM m h q with
    |false=>rfl
    |true=>exact (S2.one h _ hh hk eh q h0 h1 hx hr).elim
  ·exact hne q e h
 |true=>
  rw [cond_true]
  have hno:∀h:Hq,gM m h a=false:= λh=>by
   cases h with
   |bin j=>show binM m j a=false;unfold binM;rw [h3];rfl
   |rack j=>
    show rackM m j a=false
    unfold rackM
    by_cases ej:(ifM m a).c=j
    ·rw [←ej,hf];simp
    ·have:((ifM m a).c==j)=false:=by simpa using ej
     rw [this];simp
  obtain ⟨p1,p2,p3,p4,_,_,_,_⟩:=push_same (m:=mTak m a t) (a:=a) (.rack (ifM m a).c)
  have hpush:=hls.push (h:= .rack (ifM m a).c) hk ha λh _=>hno h
  refine snd_iff.2 ⟨⟨hT'.of_eq (λ_ _ _=>by rw [p1]) λ_ _ _=>by rw [p2],S1.ap, λq h0 h1 x x0 x1=>?_, λq h0 h1=>?_⟩,hpush.of_eq (λ_=>rfl) rfl rfl λh hh q h0 h1=>?_⟩
  ·rw [badM_eq (m:=mTak m a t) (by rw [p1]) (by rw [p3]) (by rw [p4])];exact hbits q h0 h1 x x0 x1
  ·rw [ifM_eq (m:=mTak m a t) (by rw [p1]),p4];exact hsome q h0 h1
  ·rw [gM_eq (m:=mTak m a t) (by rw [p1]) (by rw [p4]) h]
   unfold gAdd
   by_cases e:q=a
   ·subst e
    rw [hno h,lY]
    by_cases eh:h= .rack (ifM m q).c
    ·subst eh;rw [hgt];simp
    ·have:decide (h= .rack (ifM m q).c)=false:=by simpa using eh
     rw [this,oW,hoth h eh]
   ·have:decide (q=a)=false:=by simpa using e
    rw [this,hne q e h];simp
theorem give_all (S:SndM c m L) (ha:0≤a∧a<c.p) (h3:(ifM m a).k=3) (ht:bd32 (m.taken a)) (hsl:bd32 (m.slots a)) (hb:0≤b∧b<32) (hS:bitAt (m.slots a) b=false) (hu:clrB (m.taken a) b=0):
 ∃L1 x L2,L=L1++x::L2∧x.k=3∧x.l=1∧m.slots a=0∧Hol c (mTak (bif full (m.taken a) (ifM m a).c then m else mPull m (.rack (ifM m a).c) a) a 0) L1 a 1 L2:=by
 obtain ⟨S1,S2⟩:=snd_iff.1 S
 obtain ⟨c0,c1,hl⟩:=iGet_three h3
 have hk:(Hq.rack (ifM m a).c).ok:=⟨c0,by show (iGet (m.info a)).c<9;omega⟩
 obtain ⟨t1,t2⟩:=bitAt_clrB ht hb
 have hs0:m.slots a=0:=bits_ext hsl (by unfold bd32;decide) λx=>by
  rw [bitAt_zero]
  by_cases hx:0≤x∧x<32
  ·cases hq:bitAt (m.slots a) x with
   |false=>rfl
   |true=>
    have h1:=bad_live (S1.bits a ha.1 ha.2 x hx.1 hx.2) hq
    have h2:=t2 x
    rw [hu,bitAt_zero,h1] at h2
    have:x=b:=by simpa using h2.symm
    subst this
    rw [hS] at hq;cases hq
  ·exact bitAt_out hx
 obtain ⟨L1,x,L2,e,ta,tx,tb⟩:=Tl.at S1.tl ha.1 ha.2 (by rw [h3];decide)
 subst e
 have hxi:(⟨x.k,x.l,x.c⟩:If)=ifM m a:=tx.inf.symm
 have hxk:x.k=3:=by rw [←h3,←hxi]
 have hxl:x.l=1:=by
  have:(ifM m a).l=1:=hl
  rw [←this,←hxi]
 have hap:=ap_split S1.apF
 refine ⟨L1,x,L2,rfl,hxk,hxl,hs0,?_⟩
 rw [hxl] at tb
 have hls:ListsM c m (exG m []):=by rw [ex_nil];exact S2
 have build:∀m0:Mm,m0.info=m.info→m0.foot=m.foot→m0.slots=m.slots→m0.taken=m.taken→ListsM c m0 (exG m0 [a])→Hol c (mTak m0 a 0) L1 a 1 L2:= λm0 e1 e2 e3 e4 hl0=>by
  have i5:(mTak m0 a 0).info=m.info:=e1
  have f5:(mTak m0 a 0).foot=m.foot:=e2
  have s5:(mTak m0 a 0).slots=m.slots:=e3
  have t5:∀q,q≠a→(mTak m0 a 0).taken q=m.taken q:= λq hq=>by show fset m0.taken a 0 q=_;rw [fset_ne hq,e4]
  refine ⟨ta.of_eq (λ_ _ _=>by rw [i5]) λ_ _ _=>by rw [f5],tb.of_eq (λ_ _ _=>by rw [i5]) λ_ _ _=>by rw [f5],mC _, λq h1 h2=>by omega, λq h1 h2=>by omega,hap.1,hap.2.1, λq h0 h1 hq x x0 x1=>?_, λx x0 x1=>⟨?_,?_⟩, λq h0 h1 hq=>?_,?_⟩
  ·rw [badM_eq (m:=m) (by rw [i5]) (by rw [s5]) (t5 q hq)];exact S1.bits q h0 h1 x x0 x1
  ·show bitAt (fset m0.taken a 0 a) x=false
   rw [fset_same,bitAt_zero]
  ·rw [s5,hs0,bitAt_zero]
  ·rw [ifM_eq (m:=m) (by rw [i5]),t5 q hq];exact S1.some q h0 h1
  ·exact ex_set hl0 (λh=>by cases h<;>rfl) rfl rfl (λ_ _=>rfl) λq hq=>fset_ne λe=>hq (by simp [e])
 cases hf:full (m.taken a) (ifM m a).c with
 |true=>
  rw [cond_true]
  refine build m rfl rfl rfl rfl (ex_more hls λh=>?_)
  cases h with
  |bin j=>show binM m j a=false;unfold binM;rw [h3];rfl
  |rack j=>
   show rackM m j a=false
   unfold rackM
   by_cases ej:(ifM m a).c=j
   ·rw [←ej,hf];simp
   ·have:((ifM m a).c==j)=false:=by simpa using ej
    rw [this];simp
 |false=>
  rw [cond_false]
  obtain ⟨p1,p2,p3,p4,_,_,_,_⟩:=pull_same (m:=m) (a:=a) (.rack (ifM m a).c)
  exact build _ p1 p2 p3 p4 (pull_ex hk ha (by simp) hls (rackM_iff.2 ⟨h3,rfl,hf⟩))
structure Slc (c:Cf) (m m':Mm) (a d:Int):Prop where
 u:∀q,0≤q→q<c.p→q≠a→uM m' q=uM m q
 ua:uM m' a=uM m a∨(m.slots a=0∧(uM m' a).k≠2∧(uM m a).k≠2)
 slots:m'.slots=m.slots
 tk:∀q,q≠a→m'.taken q=m.taken q
 root:m'.root=m.root
 dn:m'.dn=m.dn
 lv:m'.lv=m.lv
 fr:m'.fr=nv (m.fr+d)
theorem slF_zero (c:Cf) (q k:Int):∀n:Nat,blkU.slF c 0 q k n=[]
 |0=>rfl
 |n+1=>by rw [blkU.slF,slF_zero c q k n,bitAt_zero];rfl
theorem blkU_zero {u:If} (h:u.k≠2) (q:Int):blkU c u 0 q=[]:=by
 unfold blkU
 have:(u.k==2)=false:=by simpa using h
 rw [this,cond_false]
 cases u.k==3 with
 |true=>exact slF_zero _ _ _ _
 |false=>rfl
theorem Slc.blkP {d:Int} (C:Slc c m m' a d) {q:Int} (h0:0≤q) (h1:q<c.p):Go.Proofs.YtinpgnomkmmfdaaGreat.blkP c m' q=Go.Proofs.YtinpgnomkmmfdaaGreat.blkP c m q:=by
 rw [blkP_u,blkP_u,C.slots]
 by_cases e:q=a
 ·subst e
  rcases C.ua with h|⟨h1,h2,h3⟩
  ·rw [h]
  ·rw [h1,blkU_zero h2,blkU_zero h3]
 ·rw [C.u q h0 h1 e]
theorem Slc.blk {d:Int} (C:Slc c m m' a d):blkF c m' c.p.toNat=blkF c m c.p.toNat:=blkF_congr λq h0 h1=>C.blkP h0 (by omega)
theorem Slc.lvP {d:Int} (C:Slc c m m' a d) {q:Int} (h0:0≤q) (h1:q<c.p):Go.Proofs.YtinpgnomkmmfdaaGreat.lvP m' q=Go.Proofs.YtinpgnomkmmfdaaGreat.lvP m q:=by
 rw [lvP_u,lvP_u,C.slots]
 by_cases e:q=a
 ·subst e
  rcases C.ua with h|⟨h1,h2,h3⟩
  ·rw [h]
  ·have e2:((uM m' q).k==2)=false:=by simpa using h2
   have e3:((uM m q).k==2)=false:=by simpa using h3
   rw [e2,e3]
 ·rw [C.u q h0 h1 e]
theorem Slc.sound {d:Int} (C:Slc c m m' a d) (S:SoundM c m L) (S':SndM c m' L') (hf:fS L'=fS L+d):SoundM c m' L':=by
 refine ⟨S',⟨?_,?_⟩, λk k0 k1=>?_⟩
 ·have t1:=sm_tl (m:=m) (L:=L) (a:=0) (b:=c.p) (mC _) S.snd.tl
  have t2:=sm_tl (m:=m') (L:=L') (a:=0) (b:=c.p) (mC _) S'.tl
  have e0:smF (frP m) (iL 0)=0:=rfl
  have e1:smF (frP m') (iL 0)=0:=rfl
  rw [t2,e1,C.fr,S.cnt.1,t1,e0,hf]
  unfold nv;omega
 ·rw [C.lv,S.cnt.2]
  rw [smF_congr (f:=Go.Proofs.YtinpgnomkmmfdaaGreat.lvP m') (g:=Go.Proofs.YtinpgnomkmmfdaaGreat.lvP m) λq h0 h1=>C.lvP h0 (by omega)]
 ·rw [C.root,C.blk];exact S.rts k k0 k1
def cntP (m:Mm) (q:Int):Int:=bif (ifM m q).k==3 then idN (m.taken q) (m.slots q) (kSlots (ifM m q).c).toNat else 0
def cntM (c:Cf) (m:Mm):Int:=smF (cntP m) c.p.toNat
theorem cntP_u (q:Int):cntP m q=bif (uM m q).k==3 then idN (m.taken q) (m.slots q) (kSlots (uM m q).c).toNat else 0:=by
 unfold cntP uM uI
 cases h3:(ifM m q).k==3 with
 |true=>simp only [Bool.or_true,cond_true,h3]
 |false=>
  cases h2:(ifM m q).k==2 with
  |true=>simp only [pQ,cond_true,h3]
  |false=>rfl
theorem Slc.cnt {d:Int} (C:Slc c m m' a d) (ha:0≤a∧a<c.p):cntM c m'=cntM c m+(cntP m' a-cntP m a):=by
 unfold cntM
 refine smF_one ha.1 (by omega) λq h0 h1 h2=>?_
 rw [cntP_u,cntP_u,C.slots,C.tk q h2,C.u q h0 (by omega) h2]
end
end
section
open Go.Sl
section
variable {c:Cf} {m m':Mm} {s:VS} {L L':List Sp} {a k b want:Int} {xs:LI}
theorem tkn_bd (h:At c s m) (ha:0≤a∧a<c.p):bd32 (m.taken a):=by rw [←h.get_taken ha];exact VS.get_bd _ _
theorem slt_bd (h:At c s m) (ha:0≤a∧a<c.p):bd32 (m.slots a):=by rw [←h.get_slots ha];exact VS.get_bd _ _
theorem tak_at (h:At c s m) (ha:0≤a∧a<c.p) {t:Int} (ht:bd32 t):At c (s.set (c.taken a) t) (mTak m a t):=by
 have:=h.set_taken ha t
 rw [nv_id ht] at this
 exact this
end
end
section
open Go.Sl
section
variable {c:Cf} {m m':Mm} {s:VS} {L L':List Sp} {a k b want:Int} {xs:LI}
theorem give_at (h:At c s m) (S:SndM c m L) (ha:0≤a∧a<c.p) (h3:(ifM m a).k=3) (hb:0≤b∧b<32) (hT:bitAt (m.taken a) b=true) (hS:bitAt (m.slots a) b=false):
 ∃m' L' d,At c ((pGive c a b).run s).1 m'∧SndM c m' L'∧fS L'=fS L+d∧Slc c m m' a d∧m'.taken=fset m.taken a (clrB (m.taken a) b)∧((clrB (m.taken a) b=0∧d=1∧uM m' a=⟨0,0,0⟩)∨(clrB (m.taken a) b≠0∧d=0∧uM m' a=uM m a)):=by
 obtain ⟨S1,S2⟩:=snd_iff.1 S
 obtain ⟨c0,c1,hl⟩:=iGet_three h3
 have hk:(Hq.rack (ifM m a).c).ok:=⟨c0,by show (iGet (m.info a)).c<9;omega⟩
 have ht:=tkn_bd h ha
 have hsl:=slt_bd h ha
 have hc:(decide (b<0)||decide (32≤b))=false:=by
  simp only [jH,decide_eq_false_iff_not];omega
 have hfr:nv (m.fr+0)=m.fr:=by
  rw [Int.add_zero,←h.get_fr];exact nv_id (VS.get_bd _ _)
 have hu3:uM m a=ifM m a:=by unfold uM uI;rw [h3];rfl
 unfold pGive
 rw [hc,cond_false,Pg.run_bind]
 simp only [pInfo,Pg.run_get,Pg.run_ret]
 rw [h.get_info ha,(h.read (c.info a)).get_taken ha]
 have h1:At c ((s.read (c.info a)).read (c.taken a)) m:=(h.read _).read _
 generalize (s.read (c.info a)).read (c.taken a)=u at h1 ⊢
 have hcc:(iGet (m.info a)).c=(ifM m a).c:=rfl
 rw [hcc]
 have hnb:full (m.taken a) (ifM m a).c=false→At c ((pPull c (cRack (ifM m a).c) a).run u).1 (mPull m (.rack (ifM m a).c) a):= λhf=>by
  have hg:gM m (.rack (ifM m a).c) a=true:=rackM_iff.2 ⟨h3,rfl,hf⟩
  obtain ⟨n1,n2⟩:=S2.nb_ok (h:= .rack (ifM m a).c) hk ha hg
  exact pull_at h1 (q:= .rack (ifM m a).c) hk ha n1 n2
 cases hz:clrB (m.taken a) b==0 with
 |true=>
  have hz0:clrB (m.taken a) b=0:=by simpa using hz
  obtain ⟨L1,x,L2,e,hxk,hxl,hs0,H⟩:=give_all S ha h3 ht hsl hb hS hz0
  rw [cond_true,Pg.run_bind,Pg.run_put]
  have z0:bd32 0:=by unfold bd32;decide
  have key:∀(u1:VS) (m0:Mm),At c u1 m0→m0.info=m.info→m0.slots=m.slots→m0.taken=m.taken→m0.root=m.root→m0.dn=m.dn→m0.lv=m.lv→m0.fr=m.fr→Hol c (mTak m0 a 0) L1 a 1 L2→
   ∃m' L' d,At c ((qRelease c a 1).run (u1.set (c.taken a) 0)).1 m'∧SndM c m' L'∧fS L'=fS L+d∧Slc c m m' a d∧m'.taken=fset m.taken a (clrB (m.taken a) b)∧((clrB (m.taken a) b=0∧d=1∧uM m' a=⟨0,0,0⟩)∨(clrB (m.taken a) b≠0∧d=0∧uM m' a=uM m a)):= λu1 m0 h0 e1 e2 e3 e4 e5 e6 e7 H=>by
   obtain ⟨m',L',r1,r2,C,r4,_⟩:=rel_at (tak_at h0 ha z0) H
   have ua:uM m' a=⟨0,0,0⟩:=by rw [C.u a ha.1 ha.2,if_pos rfl]
   have tk:m'.taken=fset m.taken a 0:=by rw [C.taken];show fset m0.taken a 0=_;rw [e3]
   refine ⟨m',L',1,r1,r2,?_,⟨λq g0 g1 hq=>?_, .inr ⟨hs0,by rw [ua];decide,by rw [hu3,h3];decide⟩,C.slots.trans e2, λq hq=>by rw [tk,fset_ne hq],C.root.trans e4,C.dn.trans e5,C.lv.trans e6,?_⟩,by rw [tk,hz0], .inl ⟨hz0,rfl,ua⟩⟩
   ·rw [r4,e,fS_app,fS,hxk]
    have:(bif (3:Int)==1 then x.l else 0)=0:=rfl
    rw [this];omega
   ·rw [C.u q g0 g1,if_neg hq];exact uM_eq (by show m0.info q=_;rw [e1])
   ·rw [C.fr];show nv (m0.fr+1)=_;rw [e7]
  cases hf:full (m.taken a) (ifM m a).c with
  |true=>
   rw [hf,cond_true] at H
   exact key u m h1 rfl rfl rfl rfl rfl rfl rfl H
  |false=>
   rw [hf,cond_false] at H
   obtain ⟨p1,_,p3,p4,p5,p6,p7,p8⟩:=pull_same (m:=m) (a:=a) (.rack (ifM m a).c)
   exact key _ _ (hnb hf) p1 p3 p4 p5 p8 p7 p6 H
 |false=>
  have hz0:clrB (m.taken a) b≠0:=by simpa using hz
  have hG:=give_some S ha h3 ht hb hT hS hz0
  have hb2:=(bitAt_clrB ht hb).1
  have h2:=tak_at h1 ha hb2
  rw [cond_false,Pg.run_put]
  have fin:∀(v:VS) (m':Mm),At c v m'→SndM c m' L→m'.info=m.info→m'.slots=m.slots→m'.taken=fset m.taken a (clrB (m.taken a) b)→m'.root=m.root→m'.dn=m.dn→m'.lv=m.lv→m'.fr=m.fr→
   ∃m' L' d,At c v m'∧SndM c m' L'∧fS L'=fS L+d∧Slc c m m' a d∧m'.taken=fset m.taken a (clrB (m.taken a) b)∧((clrB (m.taken a) b=0∧d=1∧uM m' a=⟨0,0,0⟩)∨(clrB (m.taken a) b≠0∧d=0∧uM m' a=uM m a)):= λv m' r1 r2 e1 e2 e3 e4 e5 e6 e7=>
   ⟨m',L,0,r1,r2,by omega,⟨λq _ _ _=>uM_eq (by rw [e1]), .inl (uM_eq (by rw [e1])),e2, λq hq=>by rw [e3,fset_ne hq],e4,e5,e6,by rw [e7,hfr]⟩,e3, .inr ⟨hz0,rfl,uM_eq (by rw [e1])⟩⟩
  cases hf:full (m.taken a) (ifM m a).c with
  |false=>
   rw [hf,cond_false] at hG
   exact fin _ _ h2 hG rfl rfl rfl rfl rfl rfl rfl
  |true=>
   rw [hf,cond_true] at hG
   have hls:ListsM c (mTak m a (clrB (m.taken a) b)) (gM m):=S2.of_eq (λh=>by cases h<;>rfl) rfl rfl λ_ _ _ _ _=>rfl
   have h4:=push_at h2 (q:= .rack (ifM m a).c) hk ha (hls.hd_ok hk)
   obtain ⟨p1,_,p3,p4,p5,p6,p7,p8⟩:=push_same (m:=mTak m a (clrB (m.taken a) b)) (a:=a) (.rack (ifM m a).c)
   exact fin _ _ h4 hG p1 p3 p4 p5 p8 p7 p6
theorem onesF_id (t:Int):∀n:Nat,idN t 0 n=onesF t n
 |0=>rfl
 |n+1=>by rw [idN,onesF,onesF_id t n,bitAt_zero];simp
theorem onesF_pos (t:Int):∀n:Nat,0≤onesF t n∧(onesF t n=0→∀x:Int,0≤x→x<n→bitAt t x=false)
 |0=>⟨mC _, λ_ x h0 h1=>by omega⟩
 |n+1=>by
  obtain ⟨h1,h2⟩:=onesF_pos t n
  rw [onesF]
  cases hb:bitAt t (n:Int) with
  |true=>simp only [cond_true];exact ⟨by omega, λh=>by omega⟩
  |false=>
   simp only [cond_false]
   refine ⟨by omega, λh x x0 x1=>?_⟩
   by_cases e:x=n
   ·rw [e];exact hb
   ·exact h2 (by omega) x x0 (by omega)
theorem clr_ones {t:Int} (ht:bd32 t) (hb:0≤b∧b<32) (hT:bitAt t b=true):ones t=ones (clrB t b)+1∧(ones t=1↔clrB t b=0):=by
 obtain ⟨g1,g2⟩:=bitAt_clrB ht hb
 have e:=idN_sub (n:=32) g2 hT (bitAt_zero b) hb.1 (by omega)
 rw [onesF_id,onesF_id] at e
 have e1:ones t=ones (clrB t b)+1:=e
 refine ⟨e1, λh=>?_, λh=>?_⟩
 ·refine bits_ext g1 (by unfold bd32;decide) λx=>?_
  rw [bitAt_zero]
  by_cases hx:0≤x∧x<32
  ·exact (onesF_pos (clrB t b) 32).2 (by show ones (clrB t b)=0;omega) x hx.1 (by omega)
  ·exact bitAt_out hx
 ·rw [e1,h];rfl
end
end
end Go.Proofs.YtinpgnomkmmfdaaGreat
