/-
  DERIVED. Part 5 of the texts of this claim.
-/
import Derived.Test.YtjfabjhlkpgckaaGreatJSmallFrees4
import Derived.RangeFuncMany
import Derived.RangeFuncLeaves
set_option linter.unusedSimpArgs false
set_option linter.unusedVariables false
open Go.IntKind renaming wrap → iA, i64 → iB, u32 → iO
open List renaming length → iC, getD → iE, getD_eq_getElem?_getD → iI, map_cons → iM, mem_cons → iN, getElem?_append_left → iQ, getElem?_eq_getElem → iR, getElem?_append_right → iS, getElem?_map → iV, length_append → jA, getElem?_set_self → jC, map_append → jD, getElem?_set_ne → jE, getElem?_eq_none → jG, append_assoc → jJ, length_cons → jK, mem_singleton → jL, cons_append → jM, length_map → jR, length_take → jT, replicate → jU, length_singleton → jW, mem_append → jX
open Go.Value renaming slice → iD, pointer → iT, int → iZ
open Prod renaming fst → iF, snd → iH
open Option.some renaming injEq → iG
open Int renaming toNat → iJ, toNat_natCast → jP, mul_le_mul_of_nonneg_right → jZ
open Bool renaming and_eq_true → iK, not_eq_true' → jB, not_eq_false' → jF, or_eq_false_iff → jI, not_true → jO, true_and → jV, false_or → jY
open Nat renaming eq_of_beq_eq_true → iL, le_of_ble_eq_true → iW, lt_or_ge → jH, zero_add → jS
open BitVec renaming ofInt → iP, toNat → jN
open Prod.mk renaming injEq → iU
open Option renaming map_some → iX, map → iY
open List.cons renaming injEq → jQ
namespace Go.Proofs.YtjfabjhlkpgckaaGreat
section
open Go.Sl
def p_Pop (x0 x1 x2 x3 x4 x5 x6 x7 x8:LI) (k:Int):Int×LI×LI×LI×LI×LI×LI×LI×LI×LI×Bool:=((lastI (pkGet k x0 x1 x2 x3 x4 x5 x6 x7 x8)).1,pkSel k 0 (popL (pkGet k x0 x1 x2 x3 x4 x5 x6 x7 x8)) x0,pkSel k 1 (popL (pkGet k x0 x1 x2 x3 x4 x5 x6 x7 x8)) x1,pkSel k 2 (popL (pkGet k x0 x1 x2 x3 x4 x5 x6 x7 x8)) x2,pkSel k 3 (popL (pkGet k x0 x1 x2 x3 x4 x5 x6 x7 x8)) x3,pkSel k 4 (popL (pkGet k x0 x1 x2 x3 x4 x5 x6 x7 x8)) x4,pkSel k 5 (popL (pkGet k x0 x1 x2 x3 x4 x5 x6 x7 x8)) x5,pkSel k 6 (popL (pkGet k x0 x1 x2 x3 x4 x5 x6 x7 x8)) x6,pkSel k 7 (popL (pkGet k x0 x1 x2 x3 x4 x5 x6 x7 x8)) x7,pkSel k 8 (popL (pkGet k x0 x1 x2 x3 x4 x5 x6 x7 x8)) x8,(lastI (pkGet k x0 x1 x2 x3 x4 x5 x6 x7 x8)).2)
abbrev c_p_Pop:Ct Sg:=⟨none,false,[.agg [.ro [some .i8], .ro [some .i8], .ro [some .i8], .ro [some .i8], .ro [some .i8], .ro [some .i8], .ro [some .i8], .ro [some .i8], .ro [some .i8]], .i .i64], .tup [.i .i64, .agg [.new 2 [some .i8], .new 2 [some .i8], .new 2 [some .i8], .new 2 [some .i8], .new 2 [some .i8], .new 2 [some .i8], .new 2 [some .i8], .new 2 [some .i8], .new 2 [some .i8]], .b]⟩
def e_p_Pop:Entry Sg:=entC c_p_Pop p_Pop (λx0 x1 x2 x3 x4 x5 x6 x7 x8 k=>[pkB x0 x1 x2 x3 x4 x5 x6 x7 x8])
abbrev Ig (x0:LI):=(iJ (iA iB ((↑(lenC [Col.fz x0]):Int)-1)))
def p_Pop_w9 (x0 x1 x2 x3 x4 x5 x6 x7 x8:LI) (m_:Nat) (R_:Int×LI×LI×LI×LI×LI×LI×LI×LI×LI×Bool→Prop):Prop:=(aw_ (pkB x0 x1 x2 x3 x4 x5 x6 x7 x8) (bw_ (iH (p_Last x0 x1 x2 x3 x4 x5 x6 x7 x8 (Int.negSucc m_))) (aw_ (0≤Int.negSucc m_∧Int.negSucc m_<9) (aw_ (0≤Int.negSucc m_∧Int.negSucc m_<9) (aw_ (0≤iA iB ((↑(lenC [Col.fz x0]):Int)-1)∧iA iB ((↑(lenC [Col.fz x0]):Int)-1)≤(↑(lenC [Col.fz x0]):Int)) (∀r7:LI,r7=(clone64 (List.take (Ig x0) x0))→(aw_ (iC (List.take (Ig x0) x0)*16≤140737488355328) (aw_ (0≤Int.negSucc m_∧Int.negSucc m_<9) (tw_ (R_ ((iF (0,false),r7,x1,x2,x3,x4,x5,x6,x7,x8,iH (0,false))))))))))) (tw_ (R_ ((iF (0,false),x0,x1,x2,x3,x4,x5,x6,x7,x8,iH (0,false)))))))
theorem p_Pop_begin9 (x0 x1 x2 x3 x4 x5 x6 x7 x8:LI) (m_:Nat) (hp0:pkB x0 x1 x2 x3 x4 x5 x6 x7 x8):p_Pop_w9 x0 x1 x2 x3 x4 x5 x6 x7 x8 m_ (λr__=>r__=(p_Pop x0 x1 x2 x3 x4 x5 x6 x7 x8 (Int.negSucc m_))):=by
 unfold p_Pop_w9 Ig
 refine ⟨hp0, λ_=>⟨λhc=>absurd (show false=true from hc) Bool.false_ne_true, λ_=>⟨rfl,rfl⟩⟩⟩
def p_Pop_w10 (x0 x1 x2 x3 x4 x5 x6 x7 x8:LI) (m_:Nat) (R_:Int×LI×LI×LI×LI×LI×LI×LI×LI×LI×Bool→Prop):Prop:=(aw_ (pkB x0 x1 x2 x3 x4 x5 x6 x7 x8) (bw_ (iH (p_Last x0 x1 x2 x3 x4 x5 x6 x7 x8 (Int.ofNat (m_+9)))) (aw_ (0≤Int.ofNat (m_+9)∧Int.ofNat (m_+9)<9) (aw_ (0≤Int.ofNat (m_+9)∧Int.ofNat (m_+9)<9) (tw_ (aw_ (False) False)))) (tw_ (R_ ((iF (0,false),x0,x1,x2,x3,x4,x5,x6,x7,x8,iH (0,false)))))))
theorem p_Pop_begin10 (x0 x1 x2 x3 x4 x5 x6 x7 x8:LI) (m_:Nat) (hp0:pkB x0 x1 x2 x3 x4 x5 x6 x7 x8):p_Pop_w10 x0 x1 x2 x3 x4 x5 x6 x7 x8 m_ (λr__=>r__=(p_Pop x0 x1 x2 x3 x4 x5 x6 x7 x8 (Int.ofNat (m_+9)))):=by
 unfold p_Pop_w10
 refine ⟨hp0, λ_=>⟨λhc=>absurd (show false=true from hc) Bool.false_ne_true, λ_=>⟨rfl,rfl⟩⟩⟩
theorem p_Pop_ok:EOk 28 e_p_Pop:=
 ent_wm Dg [1] Ea (I:=[]) Tryz.func28 mix (B:=bodyOf Tryz.f28) (by kernel_rfl) rfl (by kernel_rfl) 400
  λ_ x0 x1 x2 x3 x4 x5 x6 x7 x8 k hb hp=>(by
   have hp0:pkB x0 x1 x2 x3 x4 x5 x6 x7 x8:=hp _ (.head _)
   rcases int_cases9 k with rfl|rfl|rfl|rfl|rfl|rfl|rfl|rfl|rfl|⟨m_,rfl⟩|⟨m_,rfl⟩
   ·exact ⟨_, λ_ _ _=>by kernel_rfl,popW_all 0 (by decide) hp0⟩
   ·exact ⟨_, λ_ _ _=>by kernel_rfl,popW_all 1 (by decide) hp0⟩
   ·exact ⟨_, λ_ _ _=>by kernel_rfl,popW_all 2 (by decide) hp0⟩
   ·exact ⟨_, λ_ _ _=>by kernel_rfl,popW_all 3 (by decide) hp0⟩
   ·exact ⟨_, λ_ _ _=>by kernel_rfl,popW_all 4 (by decide) hp0⟩
   ·exact ⟨_, λ_ _ _=>by kernel_rfl,popW_all 5 (by decide) hp0⟩
   ·exact ⟨_, λ_ _ _=>by kernel_rfl,popW_all 6 (by decide) hp0⟩
   ·exact ⟨_, λ_ _ _=>by kernel_rfl,popW_all 7 (by decide) hp0⟩
   ·exact ⟨_, λ_ _ _=>by kernel_rfl,popW_all 8 (by decide) hp0⟩
   ·exact ⟨_, λ_ _ _=>by kernel_rfl,p_Pop_begin9 x0 x1 x2 x3 x4 x5 x6 x7 x8 m_ (hp _ (.head _))⟩
   ·exact ⟨_, λ_ _ _=>by kernel_rfl,p_Pop_begin10 x0 x1 x2 x3 x4 x5 x6 x7 x8 m_ (hp _ (.head _))⟩)
def T_p_Pop:Tb:=(28,e_p_Pop)::GR
theorem T_p_Pop_ok:TOk T_p_Pop:=tc_ p_Pop_ok Ea
def II:Tb:=T_p_Pop
theorem EI:TOk II:=T_p_Pop_ok
def p_Push (x0 x1 x2 x3 x4 x5 x6 x7 x8:LI) (k a:Int):LI×LI×LI×LI×LI×LI×LI×LI×LI×Bool:=(pkSel k 0 (pushL (pkGet k x0 x1 x2 x3 x4 x5 x6 x7 x8) a) x0,pkSel k 1 (pushL (pkGet k x0 x1 x2 x3 x4 x5 x6 x7 x8) a) x1,pkSel k 2 (pushL (pkGet k x0 x1 x2 x3 x4 x5 x6 x7 x8) a) x2,pkSel k 3 (pushL (pkGet k x0 x1 x2 x3 x4 x5 x6 x7 x8) a) x3,pkSel k 4 (pushL (pkGet k x0 x1 x2 x3 x4 x5 x6 x7 x8) a) x4,pkSel k 5 (pushL (pkGet k x0 x1 x2 x3 x4 x5 x6 x7 x8) a) x5,pkSel k 6 (pushL (pkGet k x0 x1 x2 x3 x4 x5 x6 x7 x8) a) x6,pkSel k 7 (pushL (pkGet k x0 x1 x2 x3 x4 x5 x6 x7 x8) a) x7,pkSel k 8 (pushL (pkGet k x0 x1 x2 x3 x4 x5 x6 x7 x8) a) x8,kIn k&&decide ((pkGet k x0 x1 x2 x3 x4 x5 x6 x7 x8).length<4))
abbrev c_p_Push:Ct Sg:=⟨none,false,[.agg [.ro [some .i8], .ro [some .i8], .ro [some .i8], .ro [some .i8], .ro [some .i8], .ro [some .i8], .ro [some .i8], .ro [some .i8], .ro [some .i8]], .i .i64, .i .i64], .tup [.agg [.new 2 [some .i8], .new 2 [some .i8], .new 2 [some .i8], .new 2 [some .i8], .new 2 [some .i8], .new 2 [some .i8], .new 2 [some .i8], .new 2 [some .i8], .new 2 [some .i8]], .b]⟩
def e_p_Push:Entry Sg:=entC c_p_Push p_Push (λx0 x1 x2 x3 x4 x5 x6 x7 x8 k a=>[pkB x0 x1 x2 x3 x4 x5 x6 x7 x8])
def p_Push_w9 (x0 x1 x2 x3 x4 x5 x6 x7 x8:LI) (a:Int) (m_:Nat) (R_:LI×LI×LI×LI×LI×LI×LI×LI×LI×Bool→Prop):Prop:=(aw_ ((!p_there (Int.negSucc m_))=false→0≤Int.negSucc m_∧Int.negSucc m_<9) (R_ ((x0,x1,x2,x3,x4,x5,x6,x7,x8,false))))
theorem p_Push_begin9 (x0 x1 x2 x3 x4 x5 x6 x7 x8:LI) (a:Int) (m_:Nat) (hp0:pkB x0 x1 x2 x3 x4 x5 x6 x7 x8):p_Push_w9 x0 x1 x2 x3 x4 x5 x6 x7 x8 a m_ (λr__=>r__=(p_Push x0 x1 x2 x3 x4 x5 x6 x7 x8 (Int.negSucc m_) a)):=by
 unfold p_Push_w9
 have hth:p_there (Int.negSucc m_)=false:=rfl
 refine ⟨λh=>(by rw [hth] at h;cases h), λ_=>?_⟩
 rfl
def p_Push_w10 (x0 x1 x2 x3 x4 x5 x6 x7 x8:LI) (a:Int) (m_:Nat) (R_:LI×LI×LI×LI×LI×LI×LI×LI×LI×Bool→Prop):Prop:=(aw_ ((!p_there (Int.ofNat (m_+9)))=false→0≤Int.ofNat (m_+9)∧Int.ofNat (m_+9)<9) (R_ ((x0,x1,x2,x3,x4,x5,x6,x7,x8,false))))
theorem p_Push_begin10 (x0 x1 x2 x3 x4 x5 x6 x7 x8:LI) (a:Int) (m_:Nat) (hp0:pkB x0 x1 x2 x3 x4 x5 x6 x7 x8):p_Push_w10 x0 x1 x2 x3 x4 x5 x6 x7 x8 a m_ (λr__=>r__=(p_Push x0 x1 x2 x3 x4 x5 x6 x7 x8 (Int.ofNat (m_+9)) a)):=by
 unfold p_Push_w10
 have hth:p_there (Int.ofNat (m_+9))=false:=rfl
 refine ⟨λh=>(by rw [hth] at h;cases h), λ_=>?_⟩
 rfl
theorem p_Push_ok:EOk 108 e_p_Push:=
 ent_wm Dg [1] EI (I:=[]) Tryz.func108 mix (B:=bodyOf Tryz.f108) (by kernel_rfl) rfl (by kernel_rfl) 400
  λ_ x0 x1 x2 x3 x4 x5 x6 x7 x8 k a hb hp=>(by
   have hp0:pkB x0 x1 x2 x3 x4 x5 x6 x7 x8:=hp _ (.head _)
   rcases int_cases9 k with rfl|rfl|rfl|rfl|rfl|rfl|rfl|rfl|rfl|⟨m_,rfl⟩|⟨m_,rfl⟩
   ·exact ⟨_, λ_ _ _=>by kernel_rfl,pushW_all 0 a x0 x1 x2 x3 x4 x5 x6 x7 x8 (by decide) rfl⟩
   ·exact ⟨_, λ_ _ _=>by kernel_rfl,pushW_all 1 a x0 x1 x2 x3 x4 x5 x6 x7 x8 (by decide) rfl⟩
   ·exact ⟨_, λ_ _ _=>by kernel_rfl,pushW_all 2 a x0 x1 x2 x3 x4 x5 x6 x7 x8 (by decide) rfl⟩
   ·exact ⟨_, λ_ _ _=>by kernel_rfl,pushW_all 3 a x0 x1 x2 x3 x4 x5 x6 x7 x8 (by decide) rfl⟩
   ·exact ⟨_, λ_ _ _=>by kernel_rfl,pushW_all 4 a x0 x1 x2 x3 x4 x5 x6 x7 x8 (by decide) rfl⟩
   ·exact ⟨_, λ_ _ _=>by kernel_rfl,pushW_all 5 a x0 x1 x2 x3 x4 x5 x6 x7 x8 (by decide) rfl⟩
   ·exact ⟨_, λ_ _ _=>by kernel_rfl,pushW_all 6 a x0 x1 x2 x3 x4 x5 x6 x7 x8 (by decide) rfl⟩
   ·exact ⟨_, λ_ _ _=>by kernel_rfl,pushW_all 7 a x0 x1 x2 x3 x4 x5 x6 x7 x8 (by decide) rfl⟩
   ·exact ⟨_, λ_ _ _=>by kernel_rfl,pushW_all 8 a x0 x1 x2 x3 x4 x5 x6 x7 x8 (by decide) rfl⟩
   ·exact ⟨_, λ_ _ _=>by kernel_rfl,p_Push_begin9 x0 x1 x2 x3 x4 x5 x6 x7 x8 a m_ (hp _ (.head _))⟩
   ·exact ⟨_, λ_ _ _=>by kernel_rfl,p_Push_begin10 x0 x1 x2 x3 x4 x5 x6 x7 x8 a m_ (hp _ (.head _))⟩)
def T_p_Push:Tb:=(108,e_p_Push)::II
theorem T_p_Push_ok:TOk T_p_Push:=tc_ p_Push_ok EI
def BR (x0 x1 x2 x3 x4 x5 x6 x7 x8:LI) (k a:Int):LI×LI×LI×LI×LI×LI×LI×LI×LI×Bool:=(pkSel k 0 (pushL (pkGet k x0 x1 x2 x3 x4 x5 x6 x7 x8) a) x0,pkSel k 1 (pushL (pkGet k x0 x1 x2 x3 x4 x5 x6 x7 x8) a) x1,pkSel k 2 (pushL (pkGet k x0 x1 x2 x3 x4 x5 x6 x7 x8) a) x2,pkSel k 3 (pushL (pkGet k x0 x1 x2 x3 x4 x5 x6 x7 x8) a) x3,pkSel k 4 (pushL (pkGet k x0 x1 x2 x3 x4 x5 x6 x7 x8) a) x4,pkSel k 5 (pushL (pkGet k x0 x1 x2 x3 x4 x5 x6 x7 x8) a) x5,pkSel k 6 (pushL (pkGet k x0 x1 x2 x3 x4 x5 x6 x7 x8) a) x6,pkSel k 7 (pushL (pkGet k x0 x1 x2 x3 x4 x5 x6 x7 x8) a) x7,pkSel k 8 (pushL (pkGet k x0 x1 x2 x3 x4 x5 x6 x7 x8) a) x8,kIn k&&decide ((pkGet k x0 x1 x2 x3 x4 x5 x6 x7 x8).length<4))
abbrev KG:Ct Sg:=⟨none,false,[.agg [.ro [some .i8], .ro [some .i8], .ro [some .i8], .ro [some .i8], .ro [some .i8], .ro [some .i8], .ro [some .i8], .ro [some .i8], .ro [some .i8]], .i .i64, .i .i64], .tup [.agg [.new 2 [some .i8], .new 2 [some .i8], .new 2 [some .i8], .new 2 [some .i8], .new 2 [some .i8], .new 2 [some .i8], .new 2 [some .i8], .new 2 [some .i8], .new 2 [some .i8]], .b]⟩
def GU:Entry Sg:=entC KG BR (λx0 x1 x2 x3 x4 x5 x6 x7 x8 k a=>[pkB x0 x1 x2 x3 x4 x5 x6 x7 x8])
def Fj (x0 x1 x2 x3 x4 x5 x6 x7 x8:LI) (a:Int) (m_:Nat) (R_:LI×LI×LI×LI×LI×LI×LI×LI×LI×Bool→Prop):Prop:=(aw_ ((decide (Int.negSucc m_<0)||decide (Int.negSucc m_>8))=false→0≤Int.negSucc m_∧Int.negSucc m_<9) (bw_ (decide (Int.negSucc m_<0)||decide (Int.negSucc m_>8)||decide ((↑(lenC [Col.fz x0]):Int)>3)) (R_ ((x0,x1,x2,x3,x4,x5,x6,x7,x8,false))) (aw_ (0≤Int.negSucc m_∧Int.negSucc m_<9) (aw_ ((0+lenC [Col.fz x0])*8≤140737488355328) (aw_ ((0+lenC [Col.fz x0]+1)*8≤140737488355328) (aw_ (0≤Int.negSucc m_∧Int.negSucc m_<9) (R_ (([]++x0++[a],x1,x2,x3,x4,x5,x6,x7,x8,true)))))))))
theorem GX (x0 x1 x2 x3 x4 x5 x6 x7 x8:LI) (a:Int) (m_:Nat) (hp0:pkB x0 x1 x2 x3 x4 x5 x6 x7 x8):Fj x0 x1 x2 x3 x4 x5 x6 x7 x8 a m_ (λr__=>r__=(BR x0 x1 x2 x3 x4 x5 x6 x7 x8 (Int.negSucc m_) a)):=by
 unfold Fj
 have e9:decide (Int.negSucc m_<0)=true:=decide_eq_true (Int.negSucc_lt_zero m_)
 simp only [e9,Bool.true_or]
 exact ⟨λh=>(by cases h), λ_=>⟨λ_=>rfl, λh=>(by cases h)⟩⟩
def EJ (x0 x1 x2 x3 x4 x5 x6 x7 x8:LI) (a:Int) (m_:Nat) (R_:LI×LI×LI×LI×LI×LI×LI×LI×LI×Bool→Prop):Prop:=(aw_ (decide (Int.ofNat (m_+9)>8)=false→0≤Int.ofNat (m_+9)∧Int.ofNat (m_+9)<9) (bw_ (decide (Int.ofNat (m_+9)>8)) (R_ ((x0,x1,x2,x3,x4,x5,x6,x7,x8,false))) False))
theorem FM (x0 x1 x2 x3 x4 x5 x6 x7 x8:LI) (a:Int) (m_:Nat) (hp0:pkB x0 x1 x2 x3 x4 x5 x6 x7 x8):EJ x0 x1 x2 x3 x4 x5 x6 x7 x8 a m_ (λr__=>r__=(BR x0 x1 x2 x3 x4 x5 x6 x7 x8 (Int.ofNat (m_+9)) a)):=by
 unfold EJ
 have e10:decide (Int.ofNat (m_+9)>8)=true:=decide_eq_true (show (8:Int)<((m_+9:Nat):Int) by omega)
 simp only [e10]
 exact ⟨λh=>(by cases h), λ_=>⟨λ_=>rfl, λh=>(by cases h)⟩⟩
theorem JC:EOk 41 GU:=
 ent_wmF Dg (kMk 9 [1] []) T_p_Push_ok (I:=[]) Tryz.func41 mix (B:=bodyOf Tryz.f41) (by kernel_rfl) rfl (by kernel_rfl) 400
  λ_ x0 x1 x2 x3 x4 x5 x6 x7 x8 k a hb hp=>(by
   have hp0:pkB x0 x1 x2 x3 x4 x5 x6 x7 x8:=hp _ (.head _)
   rcases int_cases9 k with rfl|rfl|rfl|rfl|rfl|rfl|rfl|rfl|rfl|⟨m_,rfl⟩|⟨m_,rfl⟩
   ·exact ⟨_, λ_ _ _=>by kernel_rfl,pushV_all 0 a x0 x1 x2 x3 x4 x5 x6 x7 x8 (by decide) rfl⟩
   ·exact ⟨_, λ_ _ _=>by kernel_rfl,pushV_all 1 a x0 x1 x2 x3 x4 x5 x6 x7 x8 (by decide) rfl⟩
   ·exact ⟨_, λ_ _ _=>by kernel_rfl,pushV_all 2 a x0 x1 x2 x3 x4 x5 x6 x7 x8 (by decide) rfl⟩
   ·exact ⟨_, λ_ _ _=>by kernel_rfl,pushV_all 3 a x0 x1 x2 x3 x4 x5 x6 x7 x8 (by decide) rfl⟩
   ·exact ⟨_, λ_ _ _=>by kernel_rfl,pushV_all 4 a x0 x1 x2 x3 x4 x5 x6 x7 x8 (by decide) rfl⟩
   ·exact ⟨_, λ_ _ _=>by kernel_rfl,pushV_all 5 a x0 x1 x2 x3 x4 x5 x6 x7 x8 (by decide) rfl⟩
   ·exact ⟨_, λ_ _ _=>by kernel_rfl,pushV_all 6 a x0 x1 x2 x3 x4 x5 x6 x7 x8 (by decide) rfl⟩
   ·exact ⟨_, λ_ _ _=>by kernel_rfl,pushV_all 7 a x0 x1 x2 x3 x4 x5 x6 x7 x8 (by decide) rfl⟩
   ·exact ⟨_, λ_ _ _=>by kernel_rfl,pushV_all 8 a x0 x1 x2 x3 x4 x5 x6 x7 x8 (by decide) rfl⟩
   ·exact ⟨_, λ_ _ _=>by kernel_rfl,GX x0 x1 x2 x3 x4 x5 x6 x7 x8 a m_ (hp _ (.head _))⟩
   ·exact ⟨_, λ_ _ _=>by kernel_rfl,FM x0 x1 x2 x3 x4 x5 x6 x7 x8 a m_ (hp _ (.head _))⟩)
def GY:Tb:=(41,GU)::T_p_Push
theorem Eb:TOk GY:=tc_ JC T_p_Push_ok
end
section
open Go.Sl
theorem ofInt_toNat {w:Nat} {x:Int} (h0:0≤x) (h1:x<2^w):(iP w x).toNat=x.toNat:=by
 rw [BitVec.toNat_ofInt]
 congr 1
 exact Int.emod_eq_of_lt h0 (by simpa using h1)
theorem or_addA {m y:Int} {s:Nat} (hm:0≤m) (h0:0≤y) (h1:y<2^s) (hlt:m*2^s+y<9223372036854775808):
 iA iB (↑(jN (iP 64 (m*2^s) ||| iP 64 y)):Int)=m*2^s+y:=by
 have hp:=pow2_pos s
 have hms:0≤m*2^s:=Int.mul_nonneg hm (by omega)
 rw [BitVec.toNat_or,ofInt_toNat hms (by omega),ofInt_toNat h0 (by omega)]
 have e:(m*2^s).toNat=2^s*m.toNat:=by
  rw [Int.toNat_mul hm (by omega),Nat.mul_comm]
  congr 1
 have hy:y.toNat<2^s:=by
  have:((2^s:Nat):Int)=2^s:=by simp
  omega
 rw [e,←Nat.two_pow_add_eq_or_of_lt hy,←e]
 rw [w64 (by omega)]
 omega
theorem and_modA {a:Int} {s:Nat} (h0:0≤a) (hlt:a<9223372036854775808) (hs:s≤20):iA iB (↑(jN (iP 64 a &&& iP 64 (2^s-1))):Int)=a%2^s:=by
 have hp:=pow2_pos s
 have hp2:=pow2_le hs
 rw [BitVec.toNat_and,ofInt_toNat h0 (by omega),ofInt_toNat (by omega) (by omega)]
 have e:((2:Int)^s-1).toNat=2^s-1:=by
  have:((2^s:Nat):Int)=2^s:=by simp
  omega
 rw [e,Nat.and_two_pow_sub_one_eq_mod]
 have e2:((a.toNat%2^s:Nat):Int)=a%2^s:=by
  rw [Int.natCast_emod]
  simp [Int.toNat_of_nonneg h0]
 rw [e2]
 have h3:=Int.emod_lt_of_pos a hp
 have h4:=Int.emod_nonneg a (show (2:Int)^s≠0 by omega)
 exact w64 (by omega)
structure Rt (t p s P:Int):Prop where
 r:r04_Right t p s=true
 tp:1≤t∧t≤16
 pp:4≤p∧p≤1024
 ss:10≤s∧s≤20
 eP:P=2^s.toNat
 P0:1024≤P∧P≤1048576
 pg:r04_Page t p s=P
theorem rt_of {t p s:Int} (h:r04_Right t p s=true):Rt t p s (2^s.toNat):=by
 have h':=right_iff.1 h
 refine ⟨h,h'.1,h'.2.1,h'.2.2,rfl,⟨?_,?_⟩,pgIn h⟩
 ·have:=pow2_le (show 10≤s.toNat by omega);omega
 ·have:=pow2_le (show s.toNat≤20 by omega);omega
theorem mul_le_pages {p P:Int} (hp:4≤p∧p≤1024) (hP:1024≤P∧P≤1048576):4096≤P*p∧P*p≤1073741824:=by
 constructor
 ·have:=Int.mul_le_mul hP.1 hp.1 (by decide) (by omega);omega
 ·have:=Int.mul_le_mul hP.2 hp.2 (by omega) (by decide);omega
theorem bytes_in {t p s P:Int} (h:Rt t p s P):conf_Bytes t p s=P*p∧True:=by
 have:=mul_le_pages h.pp h.P0
 unfold conf_Bytes
 rw [conf_Page_eq,h.pg,w64 (by omega)]
 exact ⟨rfl,trivial⟩
theorem there_iff {pg off t p s:Int}:spot_there pg off t p s=true↔r04_Right t p s=true∧0≤pg∧pg<p∧0≤off∧off<r04_Page t p s:=by
 unfold spot_there
 rw [conf_Check_eq,conf_Page_eq]
 cases hr:r04_Right t p s with
 |true=>simp;omega
 |false=>simp
theorem there_in {pg off t p s P:Int} (h:Rt t p s P) (h1:0≤pg∧pg<p) (h2:0≤off∧off<P):spot_there pg off t p s=true:=there_iff.2 ⟨h.r,h1.1,h1.2,h2.1,by rw [h.pg];exact h2.2⟩
theorem spot_le {pg p P off:Int} (hp:4≤p∧p≤1024) (hP:1024≤P∧P≤1048576) (h1:0≤pg∧pg<p) (h2:0≤off∧off<P):P≤(pg+1)*P+off∧(pg+1)*P+off<(pg+2)*P∧(pg+2)*P≤1075838976:=by
 refine ⟨?_,?_,?_⟩
 ·have:=jZ (show (1:Int)≤pg+1 by omega) (show 0≤P by omega);omega
 ·rw [Int.add_mul,Int.add_mul];omega
 ·have:=Int.mul_le_mul (show pg+2≤1025 by omega) hP.2 (by omega) (by decide);omega
theorem of_in {t p s P pg off:Int} (h:Rt t p s P) (h1:0≤pg∧pg<p) (h2:0≤off∧off<P):addr_Of t p s pg off=((pg+1)*P+off,true)∧r06_Of t p s pg off=((pg+1)*P+off,true):=by
 have hb:=spot_le h.pp h.P0 h1 h2
 have hpp:=h.pp
 have hss:=h.ss
 have hP0:=h.P0
 constructor
 ·unfold addr_Of
  rw [there_in h h1 h2]
  simp only [jO,cond_false]
  rw [w64 (n:=pg+1) (by omega),show min s.toNat 64=s.toNat by omega,←h.eP,w64 (n:=(pg+1)*P) (by omega),h.eP,or_addA (by omega) h2.1 (by rw [←h.eP];exact h2.2) (by rw [←h.eP];omega)]
 ·have hc:(!r04_Right t p s||decide (pg<0)||decide (pg≥p)||decide (off<0)||decide (off≥r04_Page t p s))=false:=by
   rw [h.pg,h.r];simp;omega
  unfold r06_Of
  rw [hc]
  simp only [cond_false]
  rw [w64 (n:=pg+1) (by omega),h.pg,w64 (n:=(pg+1)*P) (by omega),w64 (by omega)]
theorem of_out {t p s pg off:Int} (h:¬(r04_Right t p s=true∧0≤pg∧pg<p∧0≤off∧off<r04_Page t p s)):addr_Of t p s pg off=(0,false)∧r06_Of t p s pg off=(0,false):=by
 constructor
 ·have:spot_there pg off t p s=false:=by
   cases hs:spot_there pg off t p s with
   |false=>rfl
   |true=>exact absurd (there_iff.1 hs) h
  simp [addr_Of,this]
 ·have hc:(!r04_Right t p s||decide (pg<0)||decide (pg≥p)||decide (off<0)||decide (off≥r04_Page t p s))=true:=by
   cases hr:r04_Right t p s with
   |false=>simp
   |true=>
    rw [hr] at h
    have h':¬(0≤pg∧pg<p∧0≤off∧off<r04_Page t p s):= λh'=>h ⟨rfl,h'⟩
    simp only [jO,jY,Bool.or_eq_true,decide_eq_true_eq];omega
  unfold r06_Of
  rw [hc];rfl
theorem Of_eq (t p s pg off:Int):addr_Of t p s pg off=r06_Of t p s pg off:=by
 by_cases h:r04_Right t p s=true∧0≤pg∧pg<p∧0≤off∧off<r04_Page t p s
 ·have hr:=rt_of h.1
  rw [hr.pg] at h
  obtain ⟨a,b⟩:=of_in hr ⟨h.2.1,h.2.2.1⟩ ⟨h.2.2.2.1,h.2.2.2.2⟩
  rw [a,b]
 ·obtain ⟨a,b⟩:=of_out h
  rw [a,b]
theorem pageIn {t p s P a:Int} (h:Rt t p s P) (ha:P≤a∧a<P*p+P):addr_Page t p s a=(a/P-1,a%P,true)∧r06_Page t p s a=(a/P-1,a%P,true):=by
 have hm:=mul_le_pages h.pp h.P0
 have hP0:=h.P0
 have hd1:1≤a/P:=by rw [Int.le_ediv_iff_mul_le (by omega)];omega
 have hd2:a/P≤p:=by
  have:a/P<p+1:=by rw [Int.ediv_lt_iff_lt_mul (by omega),Int.add_mul,Int.mul_comm p P];omega
  omega
 have hpp:=h.pp
 have hss:=h.ss
 have e1:Int.fdiv a P=a/P:=Int.fdiv_eq_ediv_of_nonneg _ (by omega)
 have e2:Int.tdiv a P=a/P:=Int.tdiv_eq_ediv_of_nonneg (by omega)
 have e3:Int.tmod a P=a%P:=Int.tmod_eq_emod_of_nonneg (by omega)
 have h4:=Int.emod_nonneg a (show P≠0 by omega)
 constructor
 ·have hc:(conf_Page t p s==0||decide (a<conf_Page t p s)||decide (a>iA iB (iA iB (conf_Bytes t p s+conf_Page t p s)-1)))=false:=by
   rw [conf_Page_eq,h.pg,(bytes_in h).1,w64 (n:=P*p+P) (by omega),w64 (n:=P*p+P-1) (by omega)]
   simp;omega
  unfold addr_Page
  rw [hc]
  simp only [cond_false]
  rw [show min s.toNat 64=s.toNat by omega,←h.eP,e1,w64 (n:=a/P-1) (by omega),conf_Page_eq,h.pg,w64 (n:=P-1) (by omega),h.eP,and_modA (by omega) (by omega) (by omega)]
 ·have hc:(!r04_Right t p s||decide (a<0)||decide (iA iB (Int.tdiv a (r04_Page t p s))<1)||decide (iA iB (Int.tdiv a (r04_Page t p s))>p))=false:=by
   rw [h.r,h.pg,e2,w64 (by omega)]
   simp;omega
  unfold r06_Page
  rw [hc]
  simp only [cond_false]
  rw [h.pg,e2,e3,w64 (n:=a/P) (by omega),w64 (by omega)]
theorem page_out' {t p s a:Int} (ha64: -9223372036854775808≤a∧a<9223372036854775808) (h:¬(r04_Right t p s=true∧r04_Page t p s≤a∧a<r04_Page t p s*p+r04_Page t p s)):addr_Page t p s a=(0,0,false)∧r06_Page t p s a=(0,0,false):=by
 cases hr:r04_Right t p s with
 |false=>
  have hz:=page_zero hr
  constructor
  ·have hc:(conf_Page t p s==0||decide (a<conf_Page t p s)||decide (a>iA iB (iA iB (conf_Bytes t p s+conf_Page t p s)-1)))=true:=by
    rw [conf_Page_eq,hz];simp
   unfold addr_Page
   rw [hc];rfl
  ·unfold r06_Page
   rw [hr];rfl
 |true=>
  have hR:=rt_of hr
  generalize (2:Int)^s.toNat=P at hR
  rw [hr,hR.pg] at h
  have h:a<P∨P*p+P≤a:=by
   rcases Int.lt_or_le a P with h1|h1
   ·exact .inl h1
   ·rcases Int.lt_or_le a (P*p+P) with h2|h2
    ·exact absurd ⟨rfl,h1,h2⟩ h
    ·exact .inr h2
  have hm:=mul_le_pages hR.pp hR.P0
  have hP0:=hR.P0
  constructor
  ·have hc:(conf_Page t p s==0||decide (a<conf_Page t p s)||decide (a>iA iB (iA iB (conf_Bytes t p s+conf_Page t p s)-1)))=true:=by
    rw [conf_Page_eq,hR.pg,(bytes_in hR).1,w64 (n:=P*p+P) (by omega),w64 (n:=P*p+P-1) (by omega)]
    simp;omega
   unfold addr_Page
   rw [hc];rfl
  ·have hc:(!r04_Right t p s||decide (a<0)||decide (iA iB (Int.tdiv a (r04_Page t p s))<1)||decide (iA iB (Int.tdiv a (r04_Page t p s))>p))=true:=by
    rw [hr,hR.pg]
    rcases Int.lt_or_le a 0 with h0|h0
    ·simp [h0]
    ·have e2:Int.tdiv a P=a/P:=Int.tdiv_eq_ediv_of_nonneg (by omega)
     have h5:0≤a/P:=Int.ediv_nonneg h0 (by omega)
     have h6:a/P≤a:=Int.ediv_le_self _ h0
     rw [e2,w64 (by omega)]
     rcases h with h|h
     ·have:a/P=0:=Int.ediv_eq_zero_of_lt h0 h
      simp [this]
     ·have:p+1≤a/P:=by rw [Int.le_ediv_iff_mul_le (by omega),Int.add_mul,Int.mul_comm p P];omega
      simp;omega
   unfold r06_Page
   rw [hc];rfl
theorem Page_eq {t p s a:Int} (ha64: -9223372036854775808≤a∧a<9223372036854775808):addr_Page t p s a=r06_Page t p s a:=by
 by_cases h:r04_Right t p s=true∧r04_Page t p s≤a∧a<r04_Page t p s*p+r04_Page t p s
 ·have hr:=rt_of h.1
  rw [hr.pg] at h
  obtain ⟨a,b⟩:=pageIn hr ⟨h.2.1,h.2.2⟩
  rw [a,b]
 ·obtain ⟨a,b⟩:=page_out' ha64 h
  rw [a,b]
theorem At_eq (t p s k pg x:Int):addr_At t p s k pg x=r06_At t p s k pg x:=by
 unfold addr_At r06_At addr_first
 rw [slots_same,size_same]
 cases hc:(decide (x<0)||decide (x≥r05_Slots k)) with
 |true=>rfl
 |false=>simp only [cond_false,jO,Of_eq]
theorem cls {t p s P k:Int} (h:Rt t p s P) (hk:0≤k∧k<9):16≤class_Size s k∧class_Size s k*kSlots k≤P∧2≤kSlots k∧kSlots k≤32∧class_Size s k≤1048576:=by
 have hP:=h.P0
 obtain ⟨h1,h2,h3,_⟩:=szB_ok h.ss (k:=k) (by omega)
 have h4:2≤kSlots k:=by
  rcases (by omega:k=0∨k=1∨k=2∨k=3∨k=4∨k=5∨k=6∨k=7∨k=8) with rfl|rfl|rfl|rfl|rfl|rfl|rfl|rfl|rfl<;>decide
 rw [size_same,h1]
 have h5:pgB s=P:=h.eP.symm
 rw [h5] at h3
 refine ⟨h2,h3,h4,(kSlots_bd k).2,?_⟩
 have:=Int.mul_le_mul_of_nonneg_left h4 (show 0≤szB s k by omega)
 omega
theorem slots_out {k:Int} (h:¬(0≤k∧k<9)):kSlots k=0:=by
 have:=kSlots_zero (k:=k)
 rw [show decide (k<0∨9≤k)=true by simp;omega] at this
 simpa using this
theorem slot_in {t p s P k i:Int} (h:Rt t p s P) (hk:0≤k∧k<9) (hi:0≤i∧i<kSlots k):addr_Slot t p s k (i*class_Size s k)=(i,true)∧r06_Slot t p s k (i*class_Size s k)=(i,true):=by
 obtain ⟨h2,h3,h4,h5,h6⟩:=cls h hk
 have hp0:=h.P0
 have hpp:=h.pp
 have hle:∀j:Int,0≤j∧j<kSlots k→0≤j*class_Size s k∧j*class_Size s k+class_Size s k≤P:= λj hj=>by
  refine ⟨Int.mul_nonneg hj.1 (by omega),?_⟩
  have:(j+1)*class_Size s k≤kSlots k*class_Size s k:=jZ (by omega) (by omega)
  rw [Int.add_mul,Int.one_mul,Int.mul_comm (kSlots k)] at this;omega
 have hi':=hle i hi
 have e:Int.tdiv (i*class_Size s k) (class_Size s k)=i:=by
  rw [Int.tdiv_eq_ediv_of_nonneg hi'.1,Int.mul_ediv_cancel _ (by omega)]
 have ef:addr_first t p s k i=(0,i*class_Size s k,true):=by
  have hc:(decide (i<0)||decide (i≥kSlots k))=false:=by simp;omega
  unfold addr_first
  rw [hc]
  simp only [cond_false]
  rw [w64 (by omega)]
 constructor
 ·have hc:(class_Size s k==0||!spot_there 0 (i*class_Size s k) t p s)=false:=by
   rw [there_in h (by omega) (by omega)];simp;omega
  unfold addr_Slot
  rw [hc]
  simp only [cond_false]
  rw [e,w64 (n:=i) (by omega),ef]
  simp
 ·have hf:firstP (r05_Slots k).toNat (λj=>(i*class_Size s k)==iA iB ((j:Int)*r05_Size s k))=some i.toNat:=by
   rw [←slots_same,←size_same]
   refine firstP_some.2 ⟨?_,by omega, λj hj=>?_⟩
   ·rw [Int.toNat_of_nonneg hi.1,w64 (by omega)];simp
   ·have:=hle j (by omega)
    rw [w64 (by omega)]
    simp only [beq_eq_false_iff_ne,ne_eq]
    intro heq
    have:=Int.eq_of_mul_eq_mul_right (by omega) heq
    omega
  unfold r06_Slot
  rw [hf,h.r]
  simp only [jO,cond_false,ofOpt]
  rw [Int.toNat_of_nonneg hi.1]
theorem slot_out {t p s k off:Int} (h:¬(r04_Right t p s=true∧(0≤k∧k<9)∧∃i,(0≤i∧i<kSlots k)∧off=i*class_Size s k)):addr_Slot t p s k off=(0,false)∧r06_Slot t p s k off=(0,false):=by
 cases hr:r04_Right t p s with
 |false=>
  constructor
  ·have:spot_there 0 off t p s=false:=by
    cases hs:spot_there 0 off t p s with
    |false=>rfl
    |true=>rw [(there_iff.1 hs).1] at hr;cases hr
   simp [addr_Slot,this]
  ·simp [r06_Slot,hr]
 |true=>
  have hR:=rt_of hr
  generalize (2:Int)^s.toNat=P at hR
  by_cases hk:0≤k∧k<9
  ·obtain ⟨h2,h3,h4,h5,h6⟩:=cls hR hk
   have hp0:=hR.P0
   have hle:∀j:Int,0≤j∧j<kSlots k→0≤j*class_Size s k∧j*class_Size s k+class_Size s k≤P:= λj hj=>by
    refine ⟨Int.mul_nonneg hj.1 (by omega),?_⟩
    have:(j+1)*class_Size s k≤kSlots k*class_Size s k:=jZ (by omega) (by omega)
    rw [Int.add_mul,Int.one_mul,Int.mul_comm (kSlots k)] at this;omega
   constructor
   ·unfold addr_Slot
    cases hc:(class_Size s k==0||!spot_there 0 off t p s) with
    |true=>rfl
    |false=>
     simp only [jI,jF] at hc
     have ht:=(there_iff.1 hc.2)
     simp only [cond_false]
     have hd:0≤Int.tdiv off (class_Size s k):=Int.tdiv_nonneg ht.2.2.2.1 (by omega)
     rw [Int.tdiv_eq_ediv_of_nonneg ht.2.2.2.1] at hd ⊢
     have hd2:=Int.ediv_le_self (class_Size s k) ht.2.2.2.1
     have ht3:=ht.2.2.2
     rw [hR.pg] at ht3
     rw [w64 (by omega)]
     unfold addr_first
     cases hc2:(decide (off/class_Size s k<0)||decide (off/class_Size s k≥kSlots k)) with
     |true=>rfl
     |false=>
      simp only [jI,decide_eq_false_iff_not] at hc2
      have:=hle (off/class_Size s k) (by omega)
      simp only [cond_false]
      rw [w64 (by omega)]
      have hne:(off/class_Size s k*class_Size s k==off)=false:=by
       simp only [beq_eq_false_iff_ne,ne_eq]
       intro he
       exact h ⟨hr,hk,_,by omega,he.symm⟩
      simp [hne]
   ·have hf:firstP (r05_Slots k).toNat (λj=>off==iA iB ((j:Int)*r05_Size s k))=none:=by
     rw [←slots_same,←size_same]
     refine firstP_none.2 λj hj=>?_
     have:=hle j (by omega)
     rw [w64 (by omega)]
     simp only [beq_eq_false_iff_ne,ne_eq]
     intro he
     exact h ⟨hr,hk,j,by omega,he⟩
    unfold r06_Slot
    rw [hf,hr]
    rfl
  ·have hz:=(class_Size_zero (s:=s) (k:=k) (by omega)).1
   have hs:=slots_out hk
   constructor
   ·simp [addr_Slot,hz]
   ·have hf:firstP (r05_Slots k).toNat (λj=>off==iA iB ((j:Int)*r05_Size s k))=none:=by
     rw [←slots_same,hs];rfl
    unfold r06_Slot
    rw [hf,hr]
    rfl
theorem Slot_eq (t p s k off:Int):addr_Slot t p s k off=r06_Slot t p s k off:=by
 by_cases h:r04_Right t p s=true∧(0≤k∧k<9)∧∃i,(0≤i∧i<kSlots k)∧off=i*class_Size s k
 ·obtain ⟨h1,h2,i,h3,rfl⟩:=h
  obtain ⟨a,b⟩:=slot_in (rt_of h1) h2 h3
  rw [a,b]
 ·obtain ⟨a,b⟩:=slot_out h
  rw [a,b]
end
section
open Go.Sl
def p_part (t p h:Int) (l:LI) (pg:Int):LI×LI:=(l.filter (onP t p h pg),l.filter λa=>!onP t p h pg a)
abbrev c_p_part:Ct Sg:=⟨none,false,[.agg [.i .i64, .i .i64, .i .i64], .ro [some .i8], .i .i64], .tup [.new 2 [some .i64], .new 2 [some .i64]]⟩
def e_p_part:Entry Sg:=entC c_p_part p_part (λt p h l pg=>[lB l])
def p_part_w (t p h:Int) (l:LI) (pg:Int) (Q0:Int→Nat→LI→Nat→LI→Prop) (R_:LI×LI→Prop):Prop:=(Q0 (0) (0) ([]) (0) ([]))
def p_part_w0 (t p h:Int) (l:LI) (pg i:Int) (n1:Nat) (xs:LI) (n2:Nat) (ys:LI) (Q0:Int→Nat→LI→Nat→LI→Prop) (R_:LI×LI→Prop):Prop:=(bw_ (decide (i<(↑(iC l):Int))) (aw_ (0≤i∧i<(↑(lenC [Col.fz l]):Int)) (bw_ (iH (iH (addr_Page t p h (iE l (iJ i) 0)))&&iF (addr_Page t p h (iE l (iJ i) 0))==pg) (aw_ ((n1+1)*8≤140737488355328) (Q0 (iA iB (i+1)) (n1+1) (xs++[iE l (iJ i) 0]) (n2) (ys))) (aw_ ((n2+1)*8≤140737488355328) (Q0 (iA iB (i+1)) (n1) (xs) (n2+1) (ys++[iE l (iJ i) 0]))))) (R_ ((xs,ys))))
def p_part_I0 (t p h:Int) (l:LI) (pg i:Int) (n1:Nat) (xs:LI) (n2:Nat) (ys:LI) (r_:LI×LI):Prop:=0≤i∧i≤l.length∧n1=xs.length∧n2=ys.length∧xs=(l.take i.toNat).filter (onP t p h pg)∧ys=((l.take i.toNat).filter λa=>!onP t p h pg a)∧r_=p_part t p h l pg
abbrev p_part_h0 (p0:Addr) (t p h:Int) (l:LI) (pg:Int):Hd Sg:=⟨none,[0,1,0,1],[.blk 0, .code [1,1]],[15,14,13,6,7,3,2],[.i .i64, .ic .i64 (l.length), .roc [.fz (l)], .own 2 [some .i64], .own 2 [some .i64], .box 23 [.ic .i64 (t), .ic .i64 (p), .ic .i64 (h)], .ic .i64 (pg)]⟩
theorem p_part_begin (t p h:Int) (l:LI) (pg:Int) (hp0:lB l) (hl0:l.length≤9223372036854775807):p_part_w t p h l pg (λi' n1' xs' n2' ys'=>p_part_I0 t p h l pg i' n1' xs' n2' ys' (p_part t p h l pg)) (λr__=>r__=(p_part t p h l pg)):=by
 unfold p_part_w
 try unfold p_part_I0
 exact ⟨by omega,by omega,rfl,rfl,rfl,rfl,rfl⟩
theorem p_part_step0 (t p h:Int) (l:LI) (pg:Int) (hp0:lB l) (hl0:l.length≤9223372036854775807) (i:Int) (n1:Nat) (xs:LI) (n2:Nat) (ys:LI) {r_:LI×LI} (hI:p_part_I0 t p h l pg i n1 xs n2 ys r_):p_part_w0 t p h l pg i n1 xs n2 ys (λi' n1' xs' n2' ys'=>p_part_I0 t p h l pg i' n1' xs' n2' ys' r_∧lx ((l.length-i').toNat,0,0) ((l.length-i).toNat,0,0)) (λr__=>r__=r_):=by
 unfold p_part_I0 at hI
 unfold p_part_w0
 try unfold p_part_I0
 obtain ⟨h0,h1,h2,h3,h4,h5,hr⟩:=hI
 refine ⟨λhc=>?_, λhc=>?_⟩
 ·simp only [decide_eq_true_eq] at hc
  have hlt:i.toNat<l.length:=by omega
  have hm:=getD_memA hlt
  have ha:i64R (l.getD i.toNat 0):=hp0.2 _ hm
  have hon:((addr_Page t p h (l.getD i.toNat 0)).2.2&&((addr_Page t p h (l.getD i.toNat 0)).1==pg))=onP t p h pg (l.getD i.toNat 0):=by rw [Page_eq ha];rfl
  have ht:l.take (i+1).toNat=l.take i.toNat++[l.getD i.toNat 0]:=by rw [toNat_succ h0,take_snocB hlt]
  have hl1:xs.length≤1000000:=by
   have e1:=List.length_filter_le (onP t p h pg) (l.take i.toNat)
   have e2:(l.take i.toNat).length≤l.length:=by rw [jT];omega
   have e3:=hp0.1
   rw [h4];omega
  have hl2:ys.length≤1000000:=by
   have e1:=List.length_filter_le (λa=>!onP t p h pg a) (l.take i.toNat)
   have e2:(l.take i.toNat).length≤l.length:=by rw [jT];omega
   have e3:=hp0.1
   rw [h5];omega
  have hb:=hp0.1
  refine ⟨⟨h0,hc⟩, λ_=>?_⟩
  rw [hon,w64 (n:=i+1) (by omega)]
  refine ⟨λhq=>⟨by omega, λ_=>⟨⟨by omega,by omega,by simp [h2],h3,?_,?_,hr⟩,lxo_⟩⟩, λhq=>⟨by omega, λ_=>⟨⟨by omega,by omega,h2,by simp [h3],?_,?_,hr⟩,lxo_⟩⟩⟩
  ·rw [ht,List.filter_append,←h4,List.filter_cons_of_pos hq];rfl
  ·rw [ht,List.filter_append,←h5,List.filter_cons_of_neg (by rw [hq];simp)];simp
  ·rw [ht,List.filter_append,←h4,List.filter_cons_of_neg (by rw [hq];simp)];simp
  ·rw [ht,List.filter_append,←h5,List.filter_cons_of_pos (by rw [hq];rfl)];rfl
 ·simp only [decide_eq_false_iff_not] at hc
  show (xs,ys)=r_
  rw [hr,h4,h5,List.take_of_length_le (by omega)]
  rfl
theorem p_part_ok:EOk 92 e_p_part:=
 ent_wp Dg Eb (I:=[103000000015,103000000014,103000000013,103000000006,103000000007,103000000003,103000000002]) Tryz.func92 mix (B:=bodyOf Tryz.f92) (by kernel_rfl) rfl (by kernel_rfl) 400
  λp0 t p h l pg hb hp=>have hl0:l.length≤9223372036854775807:=hb.2.1;have hp0:lB l:=hp _ (.head _);⟨[p_part_h0 p0 t p h l pg], λj=>iE [appC (Hd.kd (p_part_h0 p0 t p h l pg)) (λi' n1' xs' n2' ys'=>p_part_I0 t p h l pg i' n1' xs' n2' ys' (p_part t p h l pg))] j (λ_=>False), λj=>iE [appC (Hd.kd (p_part_h0 p0 t p h l pg)) (λi' n1' xs' n2' ys'=>((l.length-i').toNat,0,0))] j (λ_=>(0,0,0)),by kernel_rfl,⟨_, λ_ _ _=>by kernel_rfl,p_part_begin t p h l pg hp0 hl0⟩,⟨λi n1 xs n2 ys hI=>⟨_, λ_ _ _=>by kernel_rfl,p_part_step0 t p h l pg hp0 hl0 i n1 xs n2 ys hI⟩,trivial⟩⟩
def T_p_part:Tb:=(92,e_p_part)::GY
theorem T_p_part_ok:TOk T_p_part:=tc_ p_part_ok Eb
def Ld (t p h a pg:Int):Bool:=iH (iH (r06_Page t p h a))&&iF (r06_Page t p h a)==pg
abbrev Lr:Ct Sg:=⟨none,false,[.agg [.i .i64, .i .i64, .i .i64], .i .i64, .i .i64], .b⟩
def Jq:Entry Sg:=entC Lr Ld (λ_ _ _ _ _=>[])
theorem Le:EOk 101 Jq:=
 ent_ok Dg T_p_part_ok (I:=[]) Tryz.func101 mix (B:=bodyOf Tryz.f101) (by kernel_rfl) rfl (by kernel_rfl) 400
  λ_ t p h a pg hb hp=>⟨(Ld t p h a pg), .t, λ_ _ _=>by kernel_rfl,trivial,rfl⟩
def Jr:Tb:=(101,Jq)::T_p_part
theorem Fp:TOk Jr:=tc_ Le T_p_part_ok
end
section
open Go.Sl
def p_On (t p h:Int) (x0 x1 x2 x3 x4 x5 x6 x7 x8:LI) (k pg:Int):LI:=(pkGet k x0 x1 x2 x3 x4 x5 x6 x7 x8).filter (onP t p h pg)
abbrev c_p_On:Ct Sg:=⟨none,false,[.agg [.i .i64, .i .i64, .i .i64], .agg [.ro [some .i8], .ro [some .i8], .ro [some .i8], .ro [some .i8], .ro [some .i8], .ro [some .i8], .ro [some .i8], .ro [some .i8], .ro [some .i8]], .i .i64, .i .i64], .new 2 [some .i8]⟩
def e_p_On:Entry Sg:=entC c_p_On p_On (λt p h x0 x1 x2 x3 x4 x5 x6 x7 x8 k pg=>[pkB x0 x1 x2 x3 x4 x5 x6 x7 x8])
def p_On_w0 (t p h:Int) (x0 x1 x2 x3 x4 x5 x6 x7 x8:LI) (pg:Int) (R_:LI→Prop):Prop:=(aw_ ((0:Int)≤0∧(0:Int)<9) (∀r3:LI×LI,r3=(p_part t p h x0 pg)→(aw_ (lB x0) (R_ r3.1))))
theorem p_On_begin0 (t p h:Int) (x0 x1 x2 x3 x4 x5 x6 x7 x8:LI) (pg:Int) (hp0:pkB x0 x1 x2 x3 x4 x5 x6 x7 x8):p_On_w0 t p h x0 x1 x2 x3 x4 x5 x6 x7 x8 pg (λr__=>r__=(p_On t p h x0 x1 x2 x3 x4 x5 x6 x7 x8 (0:Int) pg)):=by
 unfold p_On_w0
 have hb:lB x0:=pkB_get hp0 0
 exact ⟨(by decide), λ_ r3 hr=>⟨hb, λ_=>(by subst hr;rfl)⟩⟩
def p_On_w1 (t p h:Int) (x0 x1 x2 x3 x4 x5 x6 x7 x8:LI) (pg:Int) (R_:LI→Prop):Prop:=(aw_ ((0:Int)≤1∧(1:Int)<9) (∀r3:LI×LI,r3=(p_part t p h x1 pg)→(aw_ (lB x1) (R_ r3.1))))
theorem p_On_begin1 (t p h:Int) (x0 x1 x2 x3 x4 x5 x6 x7 x8:LI) (pg:Int) (hp0:pkB x0 x1 x2 x3 x4 x5 x6 x7 x8):p_On_w1 t p h x0 x1 x2 x3 x4 x5 x6 x7 x8 pg (λr__=>r__=(p_On t p h x0 x1 x2 x3 x4 x5 x6 x7 x8 (1:Int) pg)):=by
 unfold p_On_w1
 have hb:lB x1:=pkB_get hp0 1
 exact ⟨(by decide), λ_ r3 hr=>⟨hb, λ_=>(by subst hr;rfl)⟩⟩
def p_On_w2 (t p h:Int) (x0 x1 x2 x3 x4 x5 x6 x7 x8:LI) (pg:Int) (R_:LI→Prop):Prop:=(aw_ ((0:Int)≤2∧(2:Int)<9) (∀r3:LI×LI,r3=(p_part t p h x2 pg)→(aw_ (lB x2) (R_ r3.1))))
theorem p_On_begin2 (t p h:Int) (x0 x1 x2 x3 x4 x5 x6 x7 x8:LI) (pg:Int) (hp0:pkB x0 x1 x2 x3 x4 x5 x6 x7 x8):p_On_w2 t p h x0 x1 x2 x3 x4 x5 x6 x7 x8 pg (λr__=>r__=(p_On t p h x0 x1 x2 x3 x4 x5 x6 x7 x8 (2:Int) pg)):=by
 unfold p_On_w2
 have hb:lB x2:=pkB_get hp0 2
 exact ⟨(by decide), λ_ r3 hr=>⟨hb, λ_=>(by subst hr;rfl)⟩⟩
def p_On_w3 (t p h:Int) (x0 x1 x2 x3 x4 x5 x6 x7 x8:LI) (pg:Int) (R_:LI→Prop):Prop:=(aw_ ((0:Int)≤3∧(3:Int)<9) (∀r3:LI×LI,r3=(p_part t p h x3 pg)→(aw_ (lB x3) (R_ r3.1))))
theorem p_On_begin3 (t p h:Int) (x0 x1 x2 x3 x4 x5 x6 x7 x8:LI) (pg:Int) (hp0:pkB x0 x1 x2 x3 x4 x5 x6 x7 x8):p_On_w3 t p h x0 x1 x2 x3 x4 x5 x6 x7 x8 pg (λr__=>r__=(p_On t p h x0 x1 x2 x3 x4 x5 x6 x7 x8 (3:Int) pg)):=by
 unfold p_On_w3
 have hb:lB x3:=pkB_get hp0 3
 exact ⟨(by decide), λ_ r3 hr=>⟨hb, λ_=>(by subst hr;rfl)⟩⟩
def p_On_w4 (t p h:Int) (x0 x1 x2 x3 x4 x5 x6 x7 x8:LI) (pg:Int) (R_:LI→Prop):Prop:=(aw_ ((0:Int)≤4∧(4:Int)<9) (∀r3:LI×LI,r3=(p_part t p h x4 pg)→(aw_ (lB x4) (R_ r3.1))))
theorem p_On_begin4 (t p h:Int) (x0 x1 x2 x3 x4 x5 x6 x7 x8:LI) (pg:Int) (hp0:pkB x0 x1 x2 x3 x4 x5 x6 x7 x8):p_On_w4 t p h x0 x1 x2 x3 x4 x5 x6 x7 x8 pg (λr__=>r__=(p_On t p h x0 x1 x2 x3 x4 x5 x6 x7 x8 (4:Int) pg)):=by
 unfold p_On_w4
 have hb:lB x4:=pkB_get hp0 4
 exact ⟨(by decide), λ_ r3 hr=>⟨hb, λ_=>(by subst hr;rfl)⟩⟩
def p_On_w5 (t p h:Int) (x0 x1 x2 x3 x4 x5 x6 x7 x8:LI) (pg:Int) (R_:LI→Prop):Prop:=(aw_ ((0:Int)≤5∧(5:Int)<9) (∀r3:LI×LI,r3=(p_part t p h x5 pg)→(aw_ (lB x5) (R_ r3.1))))
theorem p_On_begin5 (t p h:Int) (x0 x1 x2 x3 x4 x5 x6 x7 x8:LI) (pg:Int) (hp0:pkB x0 x1 x2 x3 x4 x5 x6 x7 x8):p_On_w5 t p h x0 x1 x2 x3 x4 x5 x6 x7 x8 pg (λr__=>r__=(p_On t p h x0 x1 x2 x3 x4 x5 x6 x7 x8 (5:Int) pg)):=by
 unfold p_On_w5
 have hb:lB x5:=pkB_get hp0 5
 exact ⟨(by decide), λ_ r3 hr=>⟨hb, λ_=>(by subst hr;rfl)⟩⟩
def p_On_w6 (t p h:Int) (x0 x1 x2 x3 x4 x5 x6 x7 x8:LI) (pg:Int) (R_:LI→Prop):Prop:=(aw_ ((0:Int)≤6∧(6:Int)<9) (∀r3:LI×LI,r3=(p_part t p h x6 pg)→(aw_ (lB x6) (R_ r3.1))))
theorem p_On_begin6 (t p h:Int) (x0 x1 x2 x3 x4 x5 x6 x7 x8:LI) (pg:Int) (hp0:pkB x0 x1 x2 x3 x4 x5 x6 x7 x8):p_On_w6 t p h x0 x1 x2 x3 x4 x5 x6 x7 x8 pg (λr__=>r__=(p_On t p h x0 x1 x2 x3 x4 x5 x6 x7 x8 (6:Int) pg)):=by
 unfold p_On_w6
 have hb:lB x6:=pkB_get hp0 6
 exact ⟨(by decide), λ_ r3 hr=>⟨hb, λ_=>(by subst hr;rfl)⟩⟩
def p_On_w7 (t p h:Int) (x0 x1 x2 x3 x4 x5 x6 x7 x8:LI) (pg:Int) (R_:LI→Prop):Prop:=(aw_ ((0:Int)≤7∧(7:Int)<9) (∀r3:LI×LI,r3=(p_part t p h x7 pg)→(aw_ (lB x7) (R_ r3.1))))
theorem p_On_begin7 (t p h:Int) (x0 x1 x2 x3 x4 x5 x6 x7 x8:LI) (pg:Int) (hp0:pkB x0 x1 x2 x3 x4 x5 x6 x7 x8):p_On_w7 t p h x0 x1 x2 x3 x4 x5 x6 x7 x8 pg (λr__=>r__=(p_On t p h x0 x1 x2 x3 x4 x5 x6 x7 x8 (7:Int) pg)):=by
 unfold p_On_w7
 have hb:lB x7:=pkB_get hp0 7
 exact ⟨(by decide), λ_ r3 hr=>⟨hb, λ_=>(by subst hr;rfl)⟩⟩
def p_On_w8 (t p h:Int) (x0 x1 x2 x3 x4 x5 x6 x7 x8:LI) (pg:Int) (R_:LI→Prop):Prop:=(aw_ ((0:Int)≤8∧(8:Int)<9) (∀r3:LI×LI,r3=(p_part t p h x8 pg)→(aw_ (lB x8) (R_ r3.1))))
theorem p_On_begin8 (t p h:Int) (x0 x1 x2 x3 x4 x5 x6 x7 x8:LI) (pg:Int) (hp0:pkB x0 x1 x2 x3 x4 x5 x6 x7 x8):p_On_w8 t p h x0 x1 x2 x3 x4 x5 x6 x7 x8 pg (λr__=>r__=(p_On t p h x0 x1 x2 x3 x4 x5 x6 x7 x8 (8:Int) pg)):=by
 unfold p_On_w8
 have hb:lB x8:=pkB_get hp0 8
 exact ⟨(by decide), λ_ r3 hr=>⟨hb, λ_=>(by subst hr;rfl)⟩⟩
def p_On_w9 (t p h:Int) (x0 x1 x2 x3 x4 x5 x6 x7 x8:LI) (pg:Int) (m_:Nat) (R_:LI→Prop):Prop:=(R_ ([]))
theorem p_On_begin9 (t p h:Int) (x0 x1 x2 x3 x4 x5 x6 x7 x8:LI) (pg:Int) (m_:Nat) (hp0:pkB x0 x1 x2 x3 x4 x5 x6 x7 x8):p_On_w9 t p h x0 x1 x2 x3 x4 x5 x6 x7 x8 pg m_ (λr__=>r__=(p_On t p h x0 x1 x2 x3 x4 x5 x6 x7 x8 (Int.negSucc m_) pg)):=by
 unfold p_On_w9
 rfl
def p_On_w10 (t p h:Int) (x0 x1 x2 x3 x4 x5 x6 x7 x8:LI) (pg:Int) (m_:Nat) (R_:LI→Prop):Prop:=(R_ ([]))
theorem p_On_begin10 (t p h:Int) (x0 x1 x2 x3 x4 x5 x6 x7 x8:LI) (pg:Int) (m_:Nat) (hp0:pkB x0 x1 x2 x3 x4 x5 x6 x7 x8):p_On_w10 t p h x0 x1 x2 x3 x4 x5 x6 x7 x8 pg m_ (λr__=>r__=(p_On t p h x0 x1 x2 x3 x4 x5 x6 x7 x8 (Int.ofNat (m_+9)) pg)):=by
 unfold p_On_w10
 rfl
theorem p_On_ok:EOk 48 e_p_On:=
 ent_wm Dg [2] Fp (I:=[]) Tryz.func48 mix (B:=bodyOf Tryz.f48) (by kernel_rfl) rfl (by kernel_rfl) 400
  λ_ t p h x0 x1 x2 x3 x4 x5 x6 x7 x8 k pg hb hp=>(by
   rcases int_cases9 k with rfl|rfl|rfl|rfl|rfl|rfl|rfl|rfl|rfl|⟨m_,rfl⟩|⟨m_,rfl⟩
   ·exact ⟨_, λ_ _ _=>by kernel_rfl,p_On_begin0 t p h x0 x1 x2 x3 x4 x5 x6 x7 x8 pg (hp _ (.head _))⟩
   ·exact ⟨_, λ_ _ _=>by kernel_rfl,p_On_begin1 t p h x0 x1 x2 x3 x4 x5 x6 x7 x8 pg (hp _ (.head _))⟩
   ·exact ⟨_, λ_ _ _=>by kernel_rfl,p_On_begin2 t p h x0 x1 x2 x3 x4 x5 x6 x7 x8 pg (hp _ (.head _))⟩
   ·exact ⟨_, λ_ _ _=>by kernel_rfl,p_On_begin3 t p h x0 x1 x2 x3 x4 x5 x6 x7 x8 pg (hp _ (.head _))⟩
   ·exact ⟨_, λ_ _ _=>by kernel_rfl,p_On_begin4 t p h x0 x1 x2 x3 x4 x5 x6 x7 x8 pg (hp _ (.head _))⟩
   ·exact ⟨_, λ_ _ _=>by kernel_rfl,p_On_begin5 t p h x0 x1 x2 x3 x4 x5 x6 x7 x8 pg (hp _ (.head _))⟩
   ·exact ⟨_, λ_ _ _=>by kernel_rfl,p_On_begin6 t p h x0 x1 x2 x3 x4 x5 x6 x7 x8 pg (hp _ (.head _))⟩
   ·exact ⟨_, λ_ _ _=>by kernel_rfl,p_On_begin7 t p h x0 x1 x2 x3 x4 x5 x6 x7 x8 pg (hp _ (.head _))⟩
   ·exact ⟨_, λ_ _ _=>by kernel_rfl,p_On_begin8 t p h x0 x1 x2 x3 x4 x5 x6 x7 x8 pg (hp _ (.head _))⟩
   ·exact ⟨_, λ_ _ _=>by kernel_rfl,p_On_begin9 t p h x0 x1 x2 x3 x4 x5 x6 x7 x8 pg m_ (hp _ (.head _))⟩
   ·exact ⟨_, λ_ _ _=>by kernel_rfl,p_On_begin10 t p h x0 x1 x2 x3 x4 x5 x6 x7 x8 pg m_ (hp _ (.head _))⟩)
def T_p_On:Tb:=(48,e_p_On)::Jr
theorem T_p_On_ok:TOk T_p_On:=tc_ p_On_ok Fp
def p_Off (t p h:Int) (x0 x1 x2 x3 x4 x5 x6 x7 x8:LI) (k pg:Int):LI×LI×LI×LI×LI×LI×LI×LI×LI:=(pkSel k 0 ((pkGet k x0 x1 x2 x3 x4 x5 x6 x7 x8).filter λa=>!onP t p h pg a) x0,pkSel k 1 ((pkGet k x0 x1 x2 x3 x4 x5 x6 x7 x8).filter λa=>!onP t p h pg a) x1,pkSel k 2 ((pkGet k x0 x1 x2 x3 x4 x5 x6 x7 x8).filter λa=>!onP t p h pg a) x2,pkSel k 3 ((pkGet k x0 x1 x2 x3 x4 x5 x6 x7 x8).filter λa=>!onP t p h pg a) x3,pkSel k 4 ((pkGet k x0 x1 x2 x3 x4 x5 x6 x7 x8).filter λa=>!onP t p h pg a) x4,pkSel k 5 ((pkGet k x0 x1 x2 x3 x4 x5 x6 x7 x8).filter λa=>!onP t p h pg a) x5,pkSel k 6 ((pkGet k x0 x1 x2 x3 x4 x5 x6 x7 x8).filter λa=>!onP t p h pg a) x6,pkSel k 7 ((pkGet k x0 x1 x2 x3 x4 x5 x6 x7 x8).filter λa=>!onP t p h pg a) x7,pkSel k 8 ((pkGet k x0 x1 x2 x3 x4 x5 x6 x7 x8).filter λa=>!onP t p h pg a) x8)
abbrev c_p_Off:Ct Sg:=⟨none,false,[.agg [.i .i64, .i .i64, .i .i64], .agg [.ro [some .i8], .ro [some .i8], .ro [some .i8], .ro [some .i8], .ro [some .i8], .ro [some .i8], .ro [some .i8], .ro [some .i8], .ro [some .i8]], .i .i64, .i .i64], .agg [.new 2 [some .i8], .new 2 [some .i8], .new 2 [some .i8], .new 2 [some .i8], .new 2 [some .i8], .new 2 [some .i8], .new 2 [some .i8], .new 2 [some .i8], .new 2 [some .i8]]⟩
def e_p_Off:Entry Sg:=entC c_p_Off p_Off (λt p h x0 x1 x2 x3 x4 x5 x6 x7 x8 k pg=>[pkB x0 x1 x2 x3 x4 x5 x6 x7 x8])
def p_Off_w0 (t p h:Int) (x0 x1 x2 x3 x4 x5 x6 x7 x8:LI) (pg:Int) (R_:LI×LI×LI×LI×LI×LI×LI×LI×LI→Prop):Prop:=(aw_ ((0:Int)≤0∧(0:Int)<9) (∀r4:LI×LI,r4=(p_part t p h x0 pg)→(aw_ (lB x0) (aw_ ((0:Int)≤0∧(0:Int)<9) (R_ ((r4.2,x1,x2,x3,x4,x5,x6,x7,x8)))))))
theorem p_Off_begin0 (t p h:Int) (x0 x1 x2 x3 x4 x5 x6 x7 x8:LI) (pg:Int) (hp0:pkB x0 x1 x2 x3 x4 x5 x6 x7 x8):p_Off_w0 t p h x0 x1 x2 x3 x4 x5 x6 x7 x8 pg (λr__=>r__=(p_Off t p h x0 x1 x2 x3 x4 x5 x6 x7 x8 (0:Int) pg)):=by
 unfold p_Off_w0
 have hb:lB x0:=pkB_get hp0 0
 exact ⟨(by decide), λ_ r4 hr=>⟨hb, λ_=>⟨(by decide), λ_=>(by subst hr;rfl)⟩⟩⟩
def p_Off_w1 (t p h:Int) (x0 x1 x2 x3 x4 x5 x6 x7 x8:LI) (pg:Int) (R_:LI×LI×LI×LI×LI×LI×LI×LI×LI→Prop):Prop:=(aw_ ((0:Int)≤1∧(1:Int)<9) (∀r4:LI×LI,r4=(p_part t p h x1 pg)→(aw_ (lB x1) (aw_ ((0:Int)≤1∧(1:Int)<9) (R_ ((x0,r4.2,x2,x3,x4,x5,x6,x7,x8)))))))
theorem p_Off_begin1 (t p h:Int) (x0 x1 x2 x3 x4 x5 x6 x7 x8:LI) (pg:Int) (hp0:pkB x0 x1 x2 x3 x4 x5 x6 x7 x8):p_Off_w1 t p h x0 x1 x2 x3 x4 x5 x6 x7 x8 pg (λr__=>r__=(p_Off t p h x0 x1 x2 x3 x4 x5 x6 x7 x8 (1:Int) pg)):=by
 unfold p_Off_w1
 have hb:lB x1:=pkB_get hp0 1
 exact ⟨(by decide), λ_ r4 hr=>⟨hb, λ_=>⟨(by decide), λ_=>(by subst hr;rfl)⟩⟩⟩
def p_Off_w2 (t p h:Int) (x0 x1 x2 x3 x4 x5 x6 x7 x8:LI) (pg:Int) (R_:LI×LI×LI×LI×LI×LI×LI×LI×LI→Prop):Prop:=(aw_ ((0:Int)≤2∧(2:Int)<9) (∀r4:LI×LI,r4=(p_part t p h x2 pg)→(aw_ (lB x2) (aw_ ((0:Int)≤2∧(2:Int)<9) (R_ ((x0,x1,r4.2,x3,x4,x5,x6,x7,x8)))))))
theorem p_Off_begin2 (t p h:Int) (x0 x1 x2 x3 x4 x5 x6 x7 x8:LI) (pg:Int) (hp0:pkB x0 x1 x2 x3 x4 x5 x6 x7 x8):p_Off_w2 t p h x0 x1 x2 x3 x4 x5 x6 x7 x8 pg (λr__=>r__=(p_Off t p h x0 x1 x2 x3 x4 x5 x6 x7 x8 (2:Int) pg)):=by
 unfold p_Off_w2
 have hb:lB x2:=pkB_get hp0 2
 exact ⟨(by decide), λ_ r4 hr=>⟨hb, λ_=>⟨(by decide), λ_=>(by subst hr;rfl)⟩⟩⟩
def p_Off_w3 (t p h:Int) (x0 x1 x2 x3 x4 x5 x6 x7 x8:LI) (pg:Int) (R_:LI×LI×LI×LI×LI×LI×LI×LI×LI→Prop):Prop:=(aw_ ((0:Int)≤3∧(3:Int)<9) (∀r4:LI×LI,r4=(p_part t p h x3 pg)→(aw_ (lB x3) (aw_ ((0:Int)≤3∧(3:Int)<9) (R_ ((x0,x1,x2,r4.2,x4,x5,x6,x7,x8)))))))
theorem p_Off_begin3 (t p h:Int) (x0 x1 x2 x3 x4 x5 x6 x7 x8:LI) (pg:Int) (hp0:pkB x0 x1 x2 x3 x4 x5 x6 x7 x8):p_Off_w3 t p h x0 x1 x2 x3 x4 x5 x6 x7 x8 pg (λr__=>r__=(p_Off t p h x0 x1 x2 x3 x4 x5 x6 x7 x8 (3:Int) pg)):=by
 unfold p_Off_w3
 have hb:lB x3:=pkB_get hp0 3
 exact ⟨(by decide), λ_ r4 hr=>⟨hb, λ_=>⟨(by decide), λ_=>(by subst hr;rfl)⟩⟩⟩
def p_Off_w4 (t p h:Int) (x0 x1 x2 x3 x4 x5 x6 x7 x8:LI) (pg:Int) (R_:LI×LI×LI×LI×LI×LI×LI×LI×LI→Prop):Prop:=(aw_ ((0:Int)≤4∧(4:Int)<9) (∀r4:LI×LI,r4=(p_part t p h x4 pg)→(aw_ (lB x4) (aw_ ((0:Int)≤4∧(4:Int)<9) (R_ ((x0,x1,x2,x3,r4.2,x5,x6,x7,x8)))))))
theorem p_Off_begin4 (t p h:Int) (x0 x1 x2 x3 x4 x5 x6 x7 x8:LI) (pg:Int) (hp0:pkB x0 x1 x2 x3 x4 x5 x6 x7 x8):p_Off_w4 t p h x0 x1 x2 x3 x4 x5 x6 x7 x8 pg (λr__=>r__=(p_Off t p h x0 x1 x2 x3 x4 x5 x6 x7 x8 (4:Int) pg)):=by
 unfold p_Off_w4
 have hb:lB x4:=pkB_get hp0 4
 exact ⟨(by decide), λ_ r4 hr=>⟨hb, λ_=>⟨(by decide), λ_=>(by subst hr;rfl)⟩⟩⟩
def p_Off_w5 (t p h:Int) (x0 x1 x2 x3 x4 x5 x6 x7 x8:LI) (pg:Int) (R_:LI×LI×LI×LI×LI×LI×LI×LI×LI→Prop):Prop:=(aw_ ((0:Int)≤5∧(5:Int)<9) (∀r4:LI×LI,r4=(p_part t p h x5 pg)→(aw_ (lB x5) (aw_ ((0:Int)≤5∧(5:Int)<9) (R_ ((x0,x1,x2,x3,x4,r4.2,x6,x7,x8)))))))
theorem p_Off_begin5 (t p h:Int) (x0 x1 x2 x3 x4 x5 x6 x7 x8:LI) (pg:Int) (hp0:pkB x0 x1 x2 x3 x4 x5 x6 x7 x8):p_Off_w5 t p h x0 x1 x2 x3 x4 x5 x6 x7 x8 pg (λr__=>r__=(p_Off t p h x0 x1 x2 x3 x4 x5 x6 x7 x8 (5:Int) pg)):=by
 unfold p_Off_w5
 have hb:lB x5:=pkB_get hp0 5
 exact ⟨(by decide), λ_ r4 hr=>⟨hb, λ_=>⟨(by decide), λ_=>(by subst hr;rfl)⟩⟩⟩
def p_Off_w6 (t p h:Int) (x0 x1 x2 x3 x4 x5 x6 x7 x8:LI) (pg:Int) (R_:LI×LI×LI×LI×LI×LI×LI×LI×LI→Prop):Prop:=(aw_ ((0:Int)≤6∧(6:Int)<9) (∀r4:LI×LI,r4=(p_part t p h x6 pg)→(aw_ (lB x6) (aw_ ((0:Int)≤6∧(6:Int)<9) (R_ ((x0,x1,x2,x3,x4,x5,r4.2,x7,x8)))))))
theorem p_Off_begin6 (t p h:Int) (x0 x1 x2 x3 x4 x5 x6 x7 x8:LI) (pg:Int) (hp0:pkB x0 x1 x2 x3 x4 x5 x6 x7 x8):p_Off_w6 t p h x0 x1 x2 x3 x4 x5 x6 x7 x8 pg (λr__=>r__=(p_Off t p h x0 x1 x2 x3 x4 x5 x6 x7 x8 (6:Int) pg)):=by
 unfold p_Off_w6
 have hb:lB x6:=pkB_get hp0 6
 exact ⟨(by decide), λ_ r4 hr=>⟨hb, λ_=>⟨(by decide), λ_=>(by subst hr;rfl)⟩⟩⟩
def p_Off_w7 (t p h:Int) (x0 x1 x2 x3 x4 x5 x6 x7 x8:LI) (pg:Int) (R_:LI×LI×LI×LI×LI×LI×LI×LI×LI→Prop):Prop:=(aw_ ((0:Int)≤7∧(7:Int)<9) (∀r4:LI×LI,r4=(p_part t p h x7 pg)→(aw_ (lB x7) (aw_ ((0:Int)≤7∧(7:Int)<9) (R_ ((x0,x1,x2,x3,x4,x5,x6,r4.2,x8)))))))
theorem p_Off_begin7 (t p h:Int) (x0 x1 x2 x3 x4 x5 x6 x7 x8:LI) (pg:Int) (hp0:pkB x0 x1 x2 x3 x4 x5 x6 x7 x8):p_Off_w7 t p h x0 x1 x2 x3 x4 x5 x6 x7 x8 pg (λr__=>r__=(p_Off t p h x0 x1 x2 x3 x4 x5 x6 x7 x8 (7:Int) pg)):=by
 unfold p_Off_w7
 have hb:lB x7:=pkB_get hp0 7
 exact ⟨(by decide), λ_ r4 hr=>⟨hb, λ_=>⟨(by decide), λ_=>(by subst hr;rfl)⟩⟩⟩
def p_Off_w8 (t p h:Int) (x0 x1 x2 x3 x4 x5 x6 x7 x8:LI) (pg:Int) (R_:LI×LI×LI×LI×LI×LI×LI×LI×LI→Prop):Prop:=(aw_ ((0:Int)≤8∧(8:Int)<9) (∀r4:LI×LI,r4=(p_part t p h x8 pg)→(aw_ (lB x8) (aw_ ((0:Int)≤8∧(8:Int)<9) (R_ ((x0,x1,x2,x3,x4,x5,x6,x7,r4.2)))))))
theorem p_Off_begin8 (t p h:Int) (x0 x1 x2 x3 x4 x5 x6 x7 x8:LI) (pg:Int) (hp0:pkB x0 x1 x2 x3 x4 x5 x6 x7 x8):p_Off_w8 t p h x0 x1 x2 x3 x4 x5 x6 x7 x8 pg (λr__=>r__=(p_Off t p h x0 x1 x2 x3 x4 x5 x6 x7 x8 (8:Int) pg)):=by
 unfold p_Off_w8
 have hb:lB x8:=pkB_get hp0 8
 exact ⟨(by decide), λ_ r4 hr=>⟨hb, λ_=>⟨(by decide), λ_=>(by subst hr;rfl)⟩⟩⟩
def p_Off_w9 (t p h:Int) (x0 x1 x2 x3 x4 x5 x6 x7 x8:LI) (pg:Int) (m_:Nat) (R_:LI×LI×LI×LI×LI×LI×LI×LI×LI→Prop):Prop:=(R_ ((x0,x1,x2,x3,x4,x5,x6,x7,x8)))
theorem p_Off_begin9 (t p h:Int) (x0 x1 x2 x3 x4 x5 x6 x7 x8:LI) (pg:Int) (m_:Nat) (hp0:pkB x0 x1 x2 x3 x4 x5 x6 x7 x8):p_Off_w9 t p h x0 x1 x2 x3 x4 x5 x6 x7 x8 pg m_ (λr__=>r__=(p_Off t p h x0 x1 x2 x3 x4 x5 x6 x7 x8 (Int.negSucc m_) pg)):=by
 unfold p_Off_w9
 rfl
def p_Off_w10 (t p h:Int) (x0 x1 x2 x3 x4 x5 x6 x7 x8:LI) (pg:Int) (m_:Nat) (R_:LI×LI×LI×LI×LI×LI×LI×LI×LI→Prop):Prop:=(R_ ((x0,x1,x2,x3,x4,x5,x6,x7,x8)))
theorem p_Off_begin10 (t p h:Int) (x0 x1 x2 x3 x4 x5 x6 x7 x8:LI) (pg:Int) (m_:Nat) (hp0:pkB x0 x1 x2 x3 x4 x5 x6 x7 x8):p_Off_w10 t p h x0 x1 x2 x3 x4 x5 x6 x7 x8 pg m_ (λr__=>r__=(p_Off t p h x0 x1 x2 x3 x4 x5 x6 x7 x8 (Int.ofNat (m_+9)) pg)):=by
 unfold p_Off_w10
 rfl
theorem p_Off_ok:EOk 50 e_p_Off:=
 ent_wm Dg [2] T_p_On_ok (I:=[]) Tryz.func50 mix (B:=bodyOf Tryz.f50) (by kernel_rfl) rfl (by kernel_rfl) 400
  λ_ t p h x0 x1 x2 x3 x4 x5 x6 x7 x8 k pg hb hp=>(by
   rcases int_cases9 k with rfl|rfl|rfl|rfl|rfl|rfl|rfl|rfl|rfl|⟨m_,rfl⟩|⟨m_,rfl⟩
   ·exact ⟨_, λ_ _ _=>by kernel_rfl,p_Off_begin0 t p h x0 x1 x2 x3 x4 x5 x6 x7 x8 pg (hp _ (.head _))⟩
   ·exact ⟨_, λ_ _ _=>by kernel_rfl,p_Off_begin1 t p h x0 x1 x2 x3 x4 x5 x6 x7 x8 pg (hp _ (.head _))⟩
   ·exact ⟨_, λ_ _ _=>by kernel_rfl,p_Off_begin2 t p h x0 x1 x2 x3 x4 x5 x6 x7 x8 pg (hp _ (.head _))⟩
   ·exact ⟨_, λ_ _ _=>by kernel_rfl,p_Off_begin3 t p h x0 x1 x2 x3 x4 x5 x6 x7 x8 pg (hp _ (.head _))⟩
   ·exact ⟨_, λ_ _ _=>by kernel_rfl,p_Off_begin4 t p h x0 x1 x2 x3 x4 x5 x6 x7 x8 pg (hp _ (.head _))⟩
   ·exact ⟨_, λ_ _ _=>by kernel_rfl,p_Off_begin5 t p h x0 x1 x2 x3 x4 x5 x6 x7 x8 pg (hp _ (.head _))⟩
   ·exact ⟨_, λ_ _ _=>by kernel_rfl,p_Off_begin6 t p h x0 x1 x2 x3 x4 x5 x6 x7 x8 pg (hp _ (.head _))⟩
   ·exact ⟨_, λ_ _ _=>by kernel_rfl,p_Off_begin7 t p h x0 x1 x2 x3 x4 x5 x6 x7 x8 pg (hp _ (.head _))⟩
   ·exact ⟨_, λ_ _ _=>by kernel_rfl,p_Off_begin8 t p h x0 x1 x2 x3 x4 x5 x6 x7 x8 pg (hp _ (.head _))⟩
   ·exact ⟨_, λ_ _ _=>by kernel_rfl,p_Off_begin9 t p h x0 x1 x2 x3 x4 x5 x6 x7 x8 pg m_ (hp _ (.head _))⟩
   ·exact ⟨_, λ_ _ _=>by kernel_rfl,p_Off_begin10 t p h x0 x1 x2 x3 x4 x5 x6 x7 x8 pg m_ (hp _ (.head _))⟩)
def T_p_Off:Tb:=(50,e_p_Off)::T_p_On
theorem T_p_Off_ok:TOk T_p_Off:=tc_ p_Off_ok T_p_On_ok
end
section
open Go.Sl
def CU (t p h:Int) (x0 x1 x2 x3 x4 x5 x6 x7 x8:LI) (k pg:Int):LI:=(pkGet k x0 x1 x2 x3 x4 x5 x6 x7 x8).filter (onP t p h pg)
abbrev Ls:Ct Sg:=⟨none,false,[.agg [.i .i64, .i .i64, .i .i64], .agg [.ro [some .i8], .ro [some .i8], .ro [some .i8], .ro [some .i8], .ro [some .i8], .ro [some .i8], .ro [some .i8], .ro [some .i8], .ro [some .i8]], .i .i64, .i .i64], .new 2 [some .i8]⟩
def Js:Entry Sg:=entC Ls CU (λt p h x0 x1 x2 x3 x4 x5 x6 x7 x8 k pg=>[pkB x0 x1 x2 x3 x4 x5 x6 x7 x8])
def Jt (t p h:Int) (x0 x1 x2 x3 x4 x5 x6 x7 x8:LI) (k pg:Int) (Q0:Int→Int→Nat→LI→Prop) (R_:LI→Prop):Prop:=(bw_ (decide (k<0)||decide (k>8)) (R_ ([])) (Q0 (k) (0) (0) ([])))
def Bh (t p h:Int) (x0 x1 x2 x3 x4 x5 x6 x7 x8:LI) (k pg kk i:Int) (n1:Nat) (xs r_:LI):Prop:=kk=k∧0≤kk∧kk≤8∧0≤i∧i≤(pkGet k x0 x1 x2 x3 x4 x5 x6 x7 x8).length∧n1=xs.length∧xs=((pkGet k x0 x1 x2 x3 x4 x5 x6 x7 x8).take i.toNat).filter (onP t p h pg)∧r_=CU t p h x0 x1 x2 x3 x4 x5 x6 x7 x8 k pg
abbrev EK (p0:Addr) (t p h:Int) (x0 x1 x2 x3 x4 x5 x6 x7 x8:LI) (k pg:Int):Hd Sg:=⟨none,[0,1,0,1,1,1],[.blk 0, .code [1,1,1,1]],[2,10,9,5,4,3],[.i .i64, .i .i64, .own 2 [some .i64], .box 36 [.roc [.fz (x0)], .roc [.fz (x1)], .roc [.fz (x2)], .roc [.fz (x3)], .roc [.fz (x4)], .roc [.fz (x5)], .roc [.fz (x6)], .roc [.fz (x7)], .roc [.fz (x8)]], .box 23 [.ic .i64 (t), .ic .i64 (p), .ic .i64 (h)], .ic .i64 (pg)]⟩
theorem Ju (t p h:Int) (x0 x1 x2 x3 x4 x5 x6 x7 x8:LI) (k pg:Int) (hp0:pkB x0 x1 x2 x3 x4 x5 x6 x7 x8) (hl0:x0.length≤9223372036854775807) (hl1:x1.length≤9223372036854775807) (hl2:x2.length≤9223372036854775807) (hl3:x3.length≤9223372036854775807) (hl4:x4.length≤9223372036854775807) (hl5:x5.length≤9223372036854775807) (hl6:x6.length≤9223372036854775807) (hl7:x7.length≤9223372036854775807) (hl8:x8.length≤9223372036854775807):Jt t p h x0 x1 x2 x3 x4 x5 x6 x7 x8 k pg (λkk' i' n1' xs'=>Bh t p h x0 x1 x2 x3 x4 x5 x6 x7 x8 k pg kk' i' n1' xs' (CU t p h x0 x1 x2 x3 x4 x5 x6 x7 x8 k pg)) (λr__=>r__=(CU t p h x0 x1 x2 x3 x4 x5 x6 x7 x8 k pg)):=by
 unfold Jt
 try unfold Bh
 refine ⟨λhc=>?_, λhc=>?_⟩
 ·simp only [Bool.or_eq_true,decide_eq_true_eq] at hc
  show []=(pkGet k x0 x1 x2 x3 x4 x5 x6 x7 x8).filter _
  rw [pkGet_out hc];rfl
 ·simp only [jI,decide_eq_false_iff_not] at hc
  exact ⟨rfl,by omega,by omega,by omega,by omega,rfl,rfl,rfl⟩
theorem KH (t p h:Int) (x0 x1 x2 x3 x4 x5 x6 x7 x8:LI) (k pg:Int) (hp0:pkB x0 x1 x2 x3 x4 x5 x6 x7 x8) (hl0:x0.length≤9223372036854775807) (hl1:x1.length≤9223372036854775807) (hl2:x2.length≤9223372036854775807) (hl3:x3.length≤9223372036854775807) (hl4:x4.length≤9223372036854775807) (hl5:x5.length≤9223372036854775807) (hl6:x6.length≤9223372036854775807) (hl7:x7.length≤9223372036854775807) (hl8:x8.length≤9223372036854775807) (kk i:Int) (n1:Nat) (xs:LI) {r_:LI} (hI:Bh t p h x0 x1 x2 x3 x4 x5 x6 x7 x8 k pg kk i n1 xs r_):kk=0∨kk=1∨kk=2∨kk=3∨kk=4∨kk=5∨kk=6∨kk=7∨kk=8:=by
 unfold Bh at hI
 obtain ⟨_,h1,h2,_⟩:=hI
 omega
theorem AA (t p h:Int) (x0 x1 x2 x3 x4 x5 x6 x7 x8:LI) (k pg:Int) (hp0:pkB x0 x1 x2 x3 x4 x5 x6 x7 x8) (hl0:x0.length≤9223372036854775807) (hl1:x1.length≤9223372036854775807) (hl2:x2.length≤9223372036854775807) (hl3:x3.length≤9223372036854775807) (hl4:x4.length≤9223372036854775807) (hl5:x5.length≤9223372036854775807) (hl6:x6.length≤9223372036854775807) (hl7:x7.length≤9223372036854775807) (hl8:x8.length≤9223372036854775807) (kk i:Int) (n1:Nat) (xs:LI) {r_:LI} (hI:Bh t p h x0 x1 x2 x3 x4 x5 x6 x7 x8 k pg kk i n1 xs r_):onW kk (pkGet kk x0 x1 x2 x3 x4 x5 x6 x7 x8) (onP t p h pg) i n1 xs (λi' n1' xs'=>((λkk' i' n1' xs'=>Bh t p h x0 x1 x2 x3 x4 x5 x6 x7 x8 k pg kk' i' n1' xs' r_∧lx (((pkGet k x0 x1 x2 x3 x4 x5 x6 x7 x8).length-i').toNat,0,0) (((pkGet k x0 x1 x2 x3 x4 x5 x6 x7 x8).length-i).toNat,0,0)) kk i' n1' xs')) (xs=r_):=by
 unfold Bh at hI
 obtain ⟨rfl,hk0,hk8,h0,h1,h2,h3,hr⟩:=hI
 have hk:qI kk:=⟨hk0,by omega⟩
 refine onW_ok hk (pkB_get hp0 kk) h0 h1 h2 h3 (λn' xs' hc e1 e2=>⟨⟨rfl,hk0,hk8,by omega,by omega,e1,e2,hr⟩,lxo_⟩) (λe=>?_)
 rw [hr,e];rfl
theorem Lh:EOk 52 Js:=
 ent_wp Dg T_p_Off_ok (I:=[1643000000002,1643000000010,1643000000009,1643000000005,1643000000004,1643000000003]) Tryz.func52 mix (B:=bodyOf Tryz.f52) (by kernel_rfl) rfl (by kernel_rfl) 400
  λp0 t p h x0 x1 x2 x3 x4 x5 x6 x7 x8 k pg hb hp=>have hl0:x0.length≤9223372036854775807:=hb.2.1.1;have hl1:x1.length≤9223372036854775807:=hb.2.1.2.1;have hl2:x2.length≤9223372036854775807:=hb.2.1.2.2.1;have hl3:x3.length≤9223372036854775807:=hb.2.1.2.2.2.1;have hl4:x4.length≤9223372036854775807:=hb.2.1.2.2.2.2.1;have hl5:x5.length≤9223372036854775807:=hb.2.1.2.2.2.2.2.1;have hl6:x6.length≤9223372036854775807:=hb.2.1.2.2.2.2.2.2.1;have hl7:x7.length≤9223372036854775807:=hb.2.1.2.2.2.2.2.2.2.1;have hl8:x8.length≤9223372036854775807:=hb.2.1.2.2.2.2.2.2.2.2.1;have hp0:pkB x0 x1 x2 x3 x4 x5 x6 x7 x8:=hp _ (.head _);⟨[EK p0 t p h x0 x1 x2 x3 x4 x5 x6 x7 x8 k pg], λj=>iE [appC (Hd.kd (EK p0 t p h x0 x1 x2 x3 x4 x5 x6 x7 x8 k pg)) (λkk' i' n1' xs'=>Bh t p h x0 x1 x2 x3 x4 x5 x6 x7 x8 k pg kk' i' n1' xs' (CU t p h x0 x1 x2 x3 x4 x5 x6 x7 x8 k pg))] j (λ_=>False), λj=>iE [appC (Hd.kd (EK p0 t p h x0 x1 x2 x3 x4 x5 x6 x7 x8 k pg)) (λkk' i' n1' xs'=>(((pkGet k x0 x1 x2 x3 x4 x5 x6 x7 x8).length-i').toNat,0,0))] j (λ_=>(0,0,0)),by kernel_rfl,⟨_, λ_ _ _=>by kernel_rfl,Ju t p h x0 x1 x2 x3 x4 x5 x6 x7 x8 k pg hp0 hl0 hl1 hl2 hl3 hl4 hl5 hl6 hl7 hl8⟩,⟨λkk i n1 xs hI=>(by
   rcases KH t p h x0 x1 x2 x3 x4 x5 x6 x7 x8 k pg hp0 hl0 hl1 hl2 hl3 hl4 hl5 hl6 hl7 hl8 kk i n1 xs hI with rfl|rfl|rfl|rfl|rfl|rfl|rfl|rfl|rfl
   ·exact ⟨_, λ_ _ _=>by kernel_rfl,AA t p h x0 x1 x2 x3 x4 x5 x6 x7 x8 k pg hp0 hl0 hl1 hl2 hl3 hl4 hl5 hl6 hl7 hl8 0 i n1 xs hI⟩
   ·exact ⟨_, λ_ _ _=>by kernel_rfl,AA t p h x0 x1 x2 x3 x4 x5 x6 x7 x8 k pg hp0 hl0 hl1 hl2 hl3 hl4 hl5 hl6 hl7 hl8 1 i n1 xs hI⟩
   ·exact ⟨_, λ_ _ _=>by kernel_rfl,AA t p h x0 x1 x2 x3 x4 x5 x6 x7 x8 k pg hp0 hl0 hl1 hl2 hl3 hl4 hl5 hl6 hl7 hl8 2 i n1 xs hI⟩
   ·exact ⟨_, λ_ _ _=>by kernel_rfl,AA t p h x0 x1 x2 x3 x4 x5 x6 x7 x8 k pg hp0 hl0 hl1 hl2 hl3 hl4 hl5 hl6 hl7 hl8 3 i n1 xs hI⟩
   ·exact ⟨_, λ_ _ _=>by kernel_rfl,AA t p h x0 x1 x2 x3 x4 x5 x6 x7 x8 k pg hp0 hl0 hl1 hl2 hl3 hl4 hl5 hl6 hl7 hl8 4 i n1 xs hI⟩
   ·exact ⟨_, λ_ _ _=>by kernel_rfl,AA t p h x0 x1 x2 x3 x4 x5 x6 x7 x8 k pg hp0 hl0 hl1 hl2 hl3 hl4 hl5 hl6 hl7 hl8 5 i n1 xs hI⟩
   ·exact ⟨_, λ_ _ _=>by kernel_rfl,AA t p h x0 x1 x2 x3 x4 x5 x6 x7 x8 k pg hp0 hl0 hl1 hl2 hl3 hl4 hl5 hl6 hl7 hl8 6 i n1 xs hI⟩
   ·exact ⟨_, λ_ _ _=>by kernel_rfl,AA t p h x0 x1 x2 x3 x4 x5 x6 x7 x8 k pg hp0 hl0 hl1 hl2 hl3 hl4 hl5 hl6 hl7 hl8 7 i n1 xs hI⟩
   ·exact ⟨_, λ_ _ _=>by kernel_rfl,AA t p h x0 x1 x2 x3 x4 x5 x6 x7 x8 k pg hp0 hl0 hl1 hl2 hl3 hl4 hl5 hl6 hl7 hl8 8 i n1 xs hI⟩),trivial⟩⟩
def Jv:Tb:=(52,Js)::T_p_Off
theorem Fv:TOk Jv:=tc_ Lh T_p_Off_ok
def CJ (t p h:Int) (x0 x1 x2 x3 x4 x5 x6 x7 x8:LI) (k pg:Int):LI×LI×LI×LI×LI×LI×LI×LI×LI:=(pkSel k 0 ((pkGet k x0 x1 x2 x3 x4 x5 x6 x7 x8).filter λa=>!onP t p h pg a) x0,pkSel k 1 ((pkGet k x0 x1 x2 x3 x4 x5 x6 x7 x8).filter λa=>!onP t p h pg a) x1,pkSel k 2 ((pkGet k x0 x1 x2 x3 x4 x5 x6 x7 x8).filter λa=>!onP t p h pg a) x2,pkSel k 3 ((pkGet k x0 x1 x2 x3 x4 x5 x6 x7 x8).filter λa=>!onP t p h pg a) x3,pkSel k 4 ((pkGet k x0 x1 x2 x3 x4 x5 x6 x7 x8).filter λa=>!onP t p h pg a) x4,pkSel k 5 ((pkGet k x0 x1 x2 x3 x4 x5 x6 x7 x8).filter λa=>!onP t p h pg a) x5,pkSel k 6 ((pkGet k x0 x1 x2 x3 x4 x5 x6 x7 x8).filter λa=>!onP t p h pg a) x6,pkSel k 7 ((pkGet k x0 x1 x2 x3 x4 x5 x6 x7 x8).filter λa=>!onP t p h pg a) x7,pkSel k 8 ((pkGet k x0 x1 x2 x3 x4 x5 x6 x7 x8).filter λa=>!onP t p h pg a) x8)
abbrev Lj:Ct Sg:=⟨none,false,[.agg [.i .i64, .i .i64, .i .i64], .agg [.ro [some .i8], .ro [some .i8], .ro [some .i8], .ro [some .i8], .ro [some .i8], .ro [some .i8], .ro [some .i8], .ro [some .i8], .ro [some .i8]], .i .i64, .i .i64], .agg [.new 2 [some .i8], .new 2 [some .i8], .new 2 [some .i8], .new 2 [some .i8], .new 2 [some .i8], .new 2 [some .i8], .new 2 [some .i8], .new 2 [some .i8], .new 2 [some .i8]]⟩
def IJ:Entry Sg:=entC Lj CJ (λt p h x0 x1 x2 x3 x4 x5 x6 x7 x8 k pg=>[pkB x0 x1 x2 x3 x4 x5 x6 x7 x8])
def IK (t p h:Int) (x0 x1 x2 x3 x4 x5 x6 x7 x8:LI) (k pg:Int) (Q0:Int→Int→Nat→LI→LI→LI→LI→LI→LI→LI→LI→LI→LI→Prop) (R_:LI×LI×LI×LI×LI×LI×LI×LI×LI→Prop):Prop:=(bw_ (decide (k<0)||decide (k>8)) (R_ ((x0,x1,x2,x3,x4,x5,x6,x7,x8))) (Q0 (k) (0) (0) ([]) ([]) ([]) ([]) ([]) ([]) ([]) ([]) ([]) ([])))
def Bd (t p h:Int) (x0 x1 x2 x3 x4 x5 x6 x7 x8:LI) (k pg kk i:Int) (n1:Nat) (xs z0 z1 z2 z3 z4 z5 z6 z7 z8:LI) (r_:LI×LI×LI×LI×LI×LI×LI×LI×LI):Prop:=kk=k∧0≤kk∧kk≤8∧0≤i∧i≤(pkGet k x0 x1 x2 x3 x4 x5 x6 x7 x8).length∧n1=xs.length∧xs=((pkGet k x0 x1 x2 x3 x4 x5 x6 x7 x8).take i.toNat).filter (λa=>!onP t p h pg a)∧r_=CJ t p h x0 x1 x2 x3 x4 x5 x6 x7 x8 k pg
abbrev DC (p0:Addr) (t p h:Int) (x0 x1 x2 x3 x4 x5 x6 x7 x8:LI) (k pg:Int):Hd Sg:=⟨none,[0,1,0,1,1,1],[.blk 0, .code [1,1,1,1]],[2,10,9,8,5,4,3],[.i .i64, .i .i64, .own 2 [some .i64], .box 36 [.ro [some .i8], .ro [some .i8], .ro [some .i8], .ro [some .i8], .ro [some .i8], .ro [some .i8], .ro [some .i8], .ro [some .i8], .ro [some .i8]], .box 36 [.roc [.fz (x0)], .roc [.fz (x1)], .roc [.fz (x2)], .roc [.fz (x3)], .roc [.fz (x4)], .roc [.fz (x5)], .roc [.fz (x6)], .roc [.fz (x7)], .roc [.fz (x8)]], .box 23 [.ic .i64 (t), .ic .i64 (p), .ic .i64 (h)], .ic .i64 (pg)]⟩
theorem IZ (t p h:Int) (x0 x1 x2 x3 x4 x5 x6 x7 x8:LI) (k pg:Int) (hp0:pkB x0 x1 x2 x3 x4 x5 x6 x7 x8) (hl0:x0.length≤9223372036854775807) (hl1:x1.length≤9223372036854775807) (hl2:x2.length≤9223372036854775807) (hl3:x3.length≤9223372036854775807) (hl4:x4.length≤9223372036854775807) (hl5:x5.length≤9223372036854775807) (hl6:x6.length≤9223372036854775807) (hl7:x7.length≤9223372036854775807) (hl8:x8.length≤9223372036854775807):IK t p h x0 x1 x2 x3 x4 x5 x6 x7 x8 k pg (λkk' i' n1' xs' z0' z1' z2' z3' z4' z5' z6' z7' z8'=>Bd t p h x0 x1 x2 x3 x4 x5 x6 x7 x8 k pg kk' i' n1' xs' z0' z1' z2' z3' z4' z5' z6' z7' z8' (CJ t p h x0 x1 x2 x3 x4 x5 x6 x7 x8 k pg)) (λr__=>r__=(CJ t p h x0 x1 x2 x3 x4 x5 x6 x7 x8 k pg)):=by
 unfold IK
 try unfold Bd
 refine ⟨λhc=>?_, λhc=>?_⟩
 ·simp only [Bool.or_eq_true,decide_eq_true_eq] at hc
  show (x0,x1,x2,x3,x4,x5,x6,x7,x8)=(pkSel k 0 ((pkGet k x0 x1 x2 x3 x4 x5 x6 x7 x8).filter λa=>!onP t p h pg a) x0,pkSel k 1 ((pkGet k x0 x1 x2 x3 x4 x5 x6 x7 x8).filter λa=>!onP t p h pg a) x1,pkSel k 2 ((pkGet k x0 x1 x2 x3 x4 x5 x6 x7 x8).filter λa=>!onP t p h pg a) x2,pkSel k 3 ((pkGet k x0 x1 x2 x3 x4 x5 x6 x7 x8).filter λa=>!onP t p h pg a) x3,pkSel k 4 ((pkGet k x0 x1 x2 x3 x4 x5 x6 x7 x8).filter λa=>!onP t p h pg a) x4,pkSel k 5 ((pkGet k x0 x1 x2 x3 x4 x5 x6 x7 x8).filter λa=>!onP t p h pg a) x5,pkSel k 6 ((pkGet k x0 x1 x2 x3 x4 x5 x6 x7 x8).filter λa=>!onP t p h pg a) x6,pkSel k 7 ((pkGet k x0 x1 x2 x3 x4 x5 x6 x7 x8).filter λa=>!onP t p h pg a) x7,pkSel k 8 ((pkGet k x0 x1 x2 x3 x4 x5 x6 x7 x8).filter λa=>!onP t p h pg a) x8)
  rw [pkSel_no (by omega),pkSel_no (by omega),pkSel_no (by omega),pkSel_no (by omega),pkSel_no (by omega),pkSel_no (by omega),pkSel_no (by omega),pkSel_no (by omega),pkSel_no (by omega)]
 ·simp only [jI,decide_eq_false_iff_not] at hc
  exact ⟨rfl,by omega,by omega,by omega,by omega,rfl,rfl,rfl⟩
theorem JD (t p h:Int) (x0 x1 x2 x3 x4 x5 x6 x7 x8:LI) (k pg:Int) (hp0:pkB x0 x1 x2 x3 x4 x5 x6 x7 x8) (hl0:x0.length≤9223372036854775807) (hl1:x1.length≤9223372036854775807) (hl2:x2.length≤9223372036854775807) (hl3:x3.length≤9223372036854775807) (hl4:x4.length≤9223372036854775807) (hl5:x5.length≤9223372036854775807) (hl6:x6.length≤9223372036854775807) (hl7:x7.length≤9223372036854775807) (hl8:x8.length≤9223372036854775807) (kk i:Int) (n1:Nat) (xs z0 z1 z2 z3 z4 z5 z6 z7 z8:LI) {r_:LI×LI×LI×LI×LI×LI×LI×LI×LI} (hI:Bd t p h x0 x1 x2 x3 x4 x5 x6 x7 x8 k pg kk i n1 xs z0 z1 z2 z3 z4 z5 z6 z7 z8 r_):kk=0∨kk=1∨kk=2∨kk=3∨kk=4∨kk=5∨kk=6∨kk=7∨kk=8:=by
 unfold Bd at hI
 obtain ⟨_,h1,h2,_⟩:=hI
 omega
theorem Aw (t p h:Int) (x0 x1 x2 x3 x4 x5 x6 x7 x8:LI) (k pg:Int) (hp0:pkB x0 x1 x2 x3 x4 x5 x6 x7 x8) (hl0:x0.length≤9223372036854775807) (hl1:x1.length≤9223372036854775807) (hl2:x2.length≤9223372036854775807) (hl3:x3.length≤9223372036854775807) (hl4:x4.length≤9223372036854775807) (hl5:x5.length≤9223372036854775807) (hl6:x6.length≤9223372036854775807) (hl7:x7.length≤9223372036854775807) (hl8:x8.length≤9223372036854775807) (kk i:Int) (n1:Nat) (xs z0 z1 z2 z3 z4 z5 z6 z7 z8:LI) {r_:LI×LI×LI×LI×LI×LI×LI×LI×LI} (hI:Bd t p h x0 x1 x2 x3 x4 x5 x6 x7 x8 k pg kk i n1 xs z0 z1 z2 z3 z4 z5 z6 z7 z8 r_):onW kk (pkGet kk x0 x1 x2 x3 x4 x5 x6 x7 x8) (λa=>!onP t p h pg a) i n1 xs (λi' n1' xs'=>((λkk' i' n1' xs' z0' z1' z2' z3' z4' z5' z6' z7' z8'=>Bd t p h x0 x1 x2 x3 x4 x5 x6 x7 x8 k pg kk' i' n1' xs' z0' z1' z2' z3' z4' z5' z6' z7' z8' r_∧lx (((pkGet k x0 x1 x2 x3 x4 x5 x6 x7 x8).length-i').toNat,0,0) (((pkGet k x0 x1 x2 x3 x4 x5 x6 x7 x8).length-i).toNat,0,0)) kk i' n1' xs' z0 z1 z2 z3 z4 z5 z6 z7 z8)) (aw_ (qI kk) ((pkSel kk 0 xs x0,pkSel kk 1 xs x1,pkSel kk 2 xs x2,pkSel kk 3 xs x3,pkSel kk 4 xs x4,pkSel kk 5 xs x5,pkSel kk 6 xs x6,pkSel kk 7 xs x7,pkSel kk 8 xs x8)=r_)):=by
 unfold Bd at hI
 obtain ⟨rfl,hk0,hk8,h0,h1,h2,h3,hr⟩:=hI
 have hk:qI kk:=⟨hk0,by omega⟩
 refine onW_ok hk (pkB_get hp0 kk) h0 h1 h2 h3 (λn' xs' hc e1 e2=>⟨⟨rfl,hk0,hk8,by omega,by omega,e1,e2,hr⟩,lxo_⟩) (λe=>?_)
 exact ⟨hk, λ_=>by rw [hr,e];rfl⟩
theorem KI:EOk 54 IJ:=
 ent_wp Dg Fv (I:=[1643000000002,1643000000010,1643000000009,1643000000008,1643000000005,1643000000004,1643000000003]) Tryz.func54 mix (B:=bodyOf Tryz.f54) (by kernel_rfl) rfl (by kernel_rfl) 400
  λp0 t p h x0 x1 x2 x3 x4 x5 x6 x7 x8 k pg hb hp=>have hl0:x0.length≤9223372036854775807:=hb.2.1.1;have hl1:x1.length≤9223372036854775807:=hb.2.1.2.1;have hl2:x2.length≤9223372036854775807:=hb.2.1.2.2.1;have hl3:x3.length≤9223372036854775807:=hb.2.1.2.2.2.1;have hl4:x4.length≤9223372036854775807:=hb.2.1.2.2.2.2.1;have hl5:x5.length≤9223372036854775807:=hb.2.1.2.2.2.2.2.1;have hl6:x6.length≤9223372036854775807:=hb.2.1.2.2.2.2.2.2.1;have hl7:x7.length≤9223372036854775807:=hb.2.1.2.2.2.2.2.2.2.1;have hl8:x8.length≤9223372036854775807:=hb.2.1.2.2.2.2.2.2.2.2.1;have hp0:pkB x0 x1 x2 x3 x4 x5 x6 x7 x8:=hp _ (.head _);⟨[DC p0 t p h x0 x1 x2 x3 x4 x5 x6 x7 x8 k pg], λj=>iE [appC (Hd.kd (DC p0 t p h x0 x1 x2 x3 x4 x5 x6 x7 x8 k pg)) (λkk' i' n1' xs' z0' z1' z2' z3' z4' z5' z6' z7' z8'=>Bd t p h x0 x1 x2 x3 x4 x5 x6 x7 x8 k pg kk' i' n1' xs' z0' z1' z2' z3' z4' z5' z6' z7' z8' (CJ t p h x0 x1 x2 x3 x4 x5 x6 x7 x8 k pg))] j (λ_=>False), λj=>iE [appC (Hd.kd (DC p0 t p h x0 x1 x2 x3 x4 x5 x6 x7 x8 k pg)) (λkk' i' n1' xs' z0' z1' z2' z3' z4' z5' z6' z7' z8'=>(((pkGet k x0 x1 x2 x3 x4 x5 x6 x7 x8).length-i').toNat,0,0))] j (λ_=>(0,0,0)),by kernel_rfl,⟨_, λ_ _ _=>by kernel_rfl,IZ t p h x0 x1 x2 x3 x4 x5 x6 x7 x8 k pg hp0 hl0 hl1 hl2 hl3 hl4 hl5 hl6 hl7 hl8⟩,⟨λkk i n1 xs z0 z1 z2 z3 z4 z5 z6 z7 z8 hI=>(by
   rcases JD t p h x0 x1 x2 x3 x4 x5 x6 x7 x8 k pg hp0 hl0 hl1 hl2 hl3 hl4 hl5 hl6 hl7 hl8 kk i n1 xs z0 z1 z2 z3 z4 z5 z6 z7 z8 hI with rfl|rfl|rfl|rfl|rfl|rfl|rfl|rfl|rfl
   ·exact ⟨_, λ_ _ _=>by kernel_rfl,Aw t p h x0 x1 x2 x3 x4 x5 x6 x7 x8 k pg hp0 hl0 hl1 hl2 hl3 hl4 hl5 hl6 hl7 hl8 0 i n1 xs z0 z1 z2 z3 z4 z5 z6 z7 z8 hI⟩
   ·exact ⟨_, λ_ _ _=>by kernel_rfl,Aw t p h x0 x1 x2 x3 x4 x5 x6 x7 x8 k pg hp0 hl0 hl1 hl2 hl3 hl4 hl5 hl6 hl7 hl8 1 i n1 xs z0 z1 z2 z3 z4 z5 z6 z7 z8 hI⟩
   ·exact ⟨_, λ_ _ _=>by kernel_rfl,Aw t p h x0 x1 x2 x3 x4 x5 x6 x7 x8 k pg hp0 hl0 hl1 hl2 hl3 hl4 hl5 hl6 hl7 hl8 2 i n1 xs z0 z1 z2 z3 z4 z5 z6 z7 z8 hI⟩
   ·exact ⟨_, λ_ _ _=>by kernel_rfl,Aw t p h x0 x1 x2 x3 x4 x5 x6 x7 x8 k pg hp0 hl0 hl1 hl2 hl3 hl4 hl5 hl6 hl7 hl8 3 i n1 xs z0 z1 z2 z3 z4 z5 z6 z7 z8 hI⟩
   ·exact ⟨_, λ_ _ _=>by kernel_rfl,Aw t p h x0 x1 x2 x3 x4 x5 x6 x7 x8 k pg hp0 hl0 hl1 hl2 hl3 hl4 hl5 hl6 hl7 hl8 4 i n1 xs z0 z1 z2 z3 z4 z5 z6 z7 z8 hI⟩
   ·exact ⟨_, λ_ _ _=>by kernel_rfl,Aw t p h x0 x1 x2 x3 x4 x5 x6 x7 x8 k pg hp0 hl0 hl1 hl2 hl3 hl4 hl5 hl6 hl7 hl8 5 i n1 xs z0 z1 z2 z3 z4 z5 z6 z7 z8 hI⟩
   ·exact ⟨_, λ_ _ _=>by kernel_rfl,Aw t p h x0 x1 x2 x3 x4 x5 x6 x7 x8 k pg hp0 hl0 hl1 hl2 hl3 hl4 hl5 hl6 hl7 hl8 6 i n1 xs z0 z1 z2 z3 z4 z5 z6 z7 z8 hI⟩
   ·exact ⟨_, λ_ _ _=>by kernel_rfl,Aw t p h x0 x1 x2 x3 x4 x5 x6 x7 x8 k pg hp0 hl0 hl1 hl2 hl3 hl4 hl5 hl6 hl7 hl8 7 i n1 xs z0 z1 z2 z3 z4 z5 z6 z7 z8 hI⟩
   ·exact ⟨_, λ_ _ _=>by kernel_rfl,Aw t p h x0 x1 x2 x3 x4 x5 x6 x7 x8 k pg hp0 hl0 hl1 hl2 hl3 hl4 hl5 hl6 hl7 hl8 8 i n1 xs z0 z1 z2 z3 z4 z5 z6 z7 z8 hI⟩),trivial⟩⟩
def IL:Tb:=(54,IJ)::Jv
theorem EL:TOk IL:=tc_ KI Fv
def r01_Longs (l m:LI):Bool:=l==m
abbrev c_r01_Longs:Ct Sg:=⟨none,false,[.ro [some .i8], .ro [some .i8]], .b⟩
def e_r01_Longs:Entry Sg:=entC c_r01_Longs r01_Longs (λ_ _=>[])
def r01_Longs_w (l m:LI) (Q0:Int→Prop) (R_:Bool→Prop):Prop:=(bw_ ((↑(lenC [Col.fz l]):Int) !=(↑(lenC [Col.fz m]):Int)) (R_ (false)) (Q0 (0)))
def r01_Longs_w0 (l m:LI) (i:Int) (Q0:Int→Prop) (R_:Bool→Prop):Prop:=(bw_ (decide (i<(↑(lenC [Col.fz l]):Int))) (aw_ (0≤i∧i<(↑(lenC [Col.fz l]):Int)) (aw_ (0≤i∧i<(↑(lenC [Col.fz m]):Int)) (bw_ (iE l (iJ i) 0 !=iE m (iJ i) 0) (R_ (false)) (Q0 (iA iB (i+1)))))) (R_ (true)))
def r01_Longs_I0 (l m:LI) (i:Int) (r_:Bool):Prop:=0≤i∧i≤l.length∧l.length=m.length∧l.take i.toNat=m.take i.toNat∧r_=r01_Longs l m
abbrev r01_Longs_h0 (p0:Addr) (l m:LI):Hd Sg:=⟨none,[0,1,0,1,1],[.blk 0, .code [1,1,1]],[5,0,1],[.i .i64, .roc [.fz (l)], .roc [.fz (m)]]⟩
theorem r01_Longs_begin (l m:LI) (hl0:l.length≤9223372036854775807) (hl1:m.length≤9223372036854775807):r01_Longs_w l m (λi'=>r01_Longs_I0 l m i' (r01_Longs l m)) (λr__=>r__=(r01_Longs l m)):=by
 unfold r01_Longs_w
 try unfold r01_Longs_I0
 refine ⟨λhc=>?_, λhc=>?_⟩
 ·show false=r01_Longs l m
  unfold r01_Longs
  symm
  rw [beq_eq_false_iff_ne]
  rintro rfl
  simp at hc
 ·have hc:((l.length:Nat):Int)=((m.length:Nat):Int):=bne_eq_false_iff_eq.1 hc
  exact ⟨by omega,by omega,by omega,rfl,rfl⟩
theorem r01_Longs_step0 (l m:LI) (hl0:l.length≤9223372036854775807) (hl1:m.length≤9223372036854775807) (i:Int) {r_:Bool} (hI:r01_Longs_I0 l m i r_):r01_Longs_w0 l m i (λi'=>r01_Longs_I0 l m i' r_∧lx ((l.length-i').toNat,0,0) ((l.length-i).toNat,0,0)) (λr__=>r__=r_):=by
 unfold r01_Longs_I0 at hI
 unfold r01_Longs_w0
 try unfold r01_Longs_I0
 obtain ⟨h0,h1,h2,h3,hr⟩:=hI
 refine ⟨λhc=>?_, λhc=>?_⟩
 ·simp only [decide_eq_true_eq] at hc
  have hc:i<l.length:=hc
  have hm:i<m.length:=by omega
  rw [w64 (n:=i+1) (by omega)]
  refine ⟨⟨h0,hc⟩, λ_=>⟨⟨h0,hm⟩, λ_=>⟨λhq=>?_, λhq=>?_⟩⟩⟩
  ·show false=r_
   rw [hr]
   unfold r01_Longs
   symm
   rw [beq_eq_false_iff_ne]
   rintro rfl
   simp at hq
  ·have hq:l.getD i.toNat 0=m.getD i.toNat 0:=by simpa using hq
   refine ⟨⟨by omega,by omega,h2,?_,hr⟩,lxo_⟩
   rw [toNat_succ h0,take_snocB (by omega),take_snocB (by omega),h3,hq]
 ·simp only [decide_eq_false_iff_not] at hc
  have hc:¬i<l.length:=hc
  show true=r_
  have e:i.toNat=l.length:=by omega
  rw [e] at h3
  have:=take_eq_all h2 h3
  subst this
  rw [hr];unfold r01_Longs;simp
theorem r01_Longs_ok:EOk 24 e_r01_Longs:=
 ent_wp Dg EL (I:=[411000000005,411000000000,411000000001]) Tryz.func24 mix (B:=bodyOf Tryz.f24) (by kernel_rfl) rfl (by kernel_rfl) 400
  λp0 l m hb hp=>have hl0:l.length≤9223372036854775807:=hb.1;have hl1:m.length≤9223372036854775807:=hb.2.1;⟨[r01_Longs_h0 p0 l m], λj=>iE [appC (Hd.kd (r01_Longs_h0 p0 l m)) (λi'=>r01_Longs_I0 l m i' (r01_Longs l m))] j (λ_=>False), λj=>iE [appC (Hd.kd (r01_Longs_h0 p0 l m)) (λi'=>((l.length-i').toNat,0,0))] j (λ_=>(0,0,0)),by kernel_rfl,⟨_, λ_ _ _=>by kernel_rfl,r01_Longs_begin l m hl0 hl1⟩,⟨λi hI=>⟨_, λ_ _ _=>by kernel_rfl,r01_Longs_step0 l m hl0 hl1 i hI⟩,trivial⟩⟩
def T_r01_Longs:Tb:=(24,e_r01_Longs)::IL
theorem T_r01_Longs_ok:TOk T_r01_Longs:=tc_ r01_Longs_ok EL
end
section
open Go Go.Sl
theorem oneB {b:Int} (hb:0≤b∧b<32):iA iO ((1:Int)*(2:Int)^min (iJ b) (32:Nat))=setB 0 b:=by
 have hp:(2:Int)^b.toNat≤2^31:=pow2_le (by omega)
 have h0:=pow2_pos b.toNat
 unfold setB
 rw [bitAt_zero,cond_false,Int.one_mul,show min b.toNat 32=b.toNat by omega,wu32 (by omega)];omega
theorem andNot_eq {v b:Int} (hv:bd32 v) (hb:0≤b∧b<32):iA iO (↑(jN (iP (32:Nat) v &&& ~~~iP (32:Nat) (iA iO ((1:Int)*(2:Int)^min (iJ b) (32:Nat))))):Int)=clrB v b:=by
 rw [oneB hb]
 have z0:bd32 0:=⟨by decide,by decide⟩
 obtain ⟨h1,h2⟩:=bitAt_setB z0 hb
 obtain ⟨g1,g2⟩:=wrapAndNot hv h1
 obtain ⟨k1,k2⟩:=bitAt_clrB hv hb
 refine bits_ext g1 k1 λi=>?_
 rw [g2,h2,k2,bitAt_zero,jY]
theorem orOne_eq {v b:Int} (hv:bd32 v) (hb:0≤b∧b<32):iA iO (↑(jN (iP (32:Nat) v ||| iP (32:Nat) (iA iO ((1:Int)*(2:Int)^min (iJ b) (32:Nat))))):Int)=setB v b:=orB_eq hv hb
theorem wrapDec (n:Int):iA iO (n+4294967295)=iA iO (n-1):=by
 unfold iA
 have:(n+4294967295)%4294967296=(n-1)%4294967296:=by omega
 simp [IntKind.bits,IntKind.signed,this]
section
variable (c:Cf)
def pBeg (g s:Int):Pg Unit:= .get (c.slots g) λv=> .put (c.slots g) (setB v s) (.get 1 λn=> .put 1 (iA .u32 (n+1)) (.ret ()))
def pEnd (g s:Int):Pg Unit:= .get (c.slots g) λv=> .put (c.slots g) (clrB v s) (.get 1 λn=> .put 1 (iA .u32 (n-1)) (.ret ()))
end
def begS (u:VS) (t p h g s:Int):VS:=((pBeg ⟨t,p,h⟩ g s).run u).1
def endS (u:VS) (t p h g s:Int):VS:=((pEnd ⟨t,p,h⟩ g s).run u).1
theorem page_nn (t p h a:Int) (ha:i64R a):0≤(r06_Page t p h a).1:=by
 by_cases hc:r04_Right t p h=true∧r04_Page t p h≤a∧a<r04_Page t p h*p+r04_Page t p h
 ·have hr:=rt_of hc.1
  rw [hr.pg] at hc
  rw [(pageIn hr hc.2).2]
  have:=hr.P0
  have h1:1≤a/2^h.toNat:=by rw [Int.le_ediv_iff_mul_le (by omega)];omega
  dsimp only;omega
 ·rw [(page_out' ha hc).2];decide
theorem slot_rg (t p h k o:Int):0≤(r06_Slot t p h k o).1∧(r06_Slot t p h k o).1<32:=by
 by_cases hc:r04_Right t p h=true∧(0≤k∧k<9)∧∃i,(0≤i∧i<kSlots k)∧o=i*class_Size h k
 ·obtain ⟨h1,h2,i,h3,rfl⟩:=hc
  have hr:=rt_of h1
  rw [(slot_in hr h2 h3).2]
  have:=(cls hr h2).2.2.2.1
  dsimp only;omega
 ·rw [(slot_out hc).2];decide
theorem pick_ok {c:Cf} {s:VS} {k:Int} (h:((pPick c k 4).run s).2.2.2=true):1≤((pPick c k 4).run s).2.2.1.length∧((pPick c k 4).run s).2.2.1.length≤4∧∀x∈((pPick c k 4).run s).2.2.1,0≤x∧x<kSlots k:=by
 unfold pPick at h ⊢
 cases hc:(decide (k<0)||decide (9≤k)||decide ((4:Int)<1)||decide ((4:Int)<4)) with
 |true=>rw [hc] at h;cases h
 |false=>
  rw [hc] at h
  simp only [cond_false,Pg.run_bind] at h ⊢
  generalize (pOpen c k).run s=r at h ⊢
  obtain ⟨s1,g,ok⟩:=r
  cases ok with
  |false=>cases h
  |true=>
   simp only [cond_true,Pg.run_get] at h ⊢
   generalize s1.get (c.taken g)=T at h ⊢
   generalize s1.read (c.taken g)=u at h ⊢
   unfold pTakeS at h ⊢
   cases hz:(((frL T (kSlots k)).length:Int)==0) with
   |true=>rw [hz] at h;cases h
   |false=>
    simp only [cond_false,pPutS,Pg.run_put,Pg.run_bind,Pg.run_ret]
    have hz:(frL T (kSlots k)).length≠0:= λe=>by rw [e] at hz;cases hz
    refine ⟨?_,?_, λx hx=>?_⟩
    ·rw [jT];simp;omega
    ·rw [jT];simp;omega
    ·have:=frL_mem (List.mem_of_mem_take hx);exact ⟨this.1,this.2.1⟩
theorem kSlots_32 (k:Int):kSlots k≤32:=(kSlots_bd k).2
def pgA (t p h a:Int):Int:=(r06_Page t p h a).1
def slA (t p h k a:Int):Int:=(r06_Slot t p h k (r06_Page t p h a).2.1).1
end
section
open Go.Sl
theorem getD_mem' {l:LI} {i:Nat} (h:i<l.length):l.getD i 0∈l:=by
 rw [iI,iR h];exact List.getElem_mem h
theorem drop_getD {l:LI} {i:Nat} (h:i<l.length):l.drop i=l.getD i 0::l.drop (i+1):=by
 rw [List.drop_eq_getElem_cons h,iI,iR h];rfl
theorem lastI_i64 {l:LI} (h:lB l):i64R (lastI l).1:=by
 unfold lastI
 cases hc:Nat.beq l.length 0 with
 |true=>exact (show i64R 0 by decide)
 |false=>
  have:l.length≠0:= λe=>by rw [e] at hc;cases hc
  exact h.2 _ (getD_mem' (by omega))
def freeK (s:VS) (t p h pg:Int):Int:=(iGet (s.get (Cf.info ⟨t,p,h⟩ pg))).c
def freeU (s:VS) (t p h pg sl:Int):VS:=endS (s.read (Cf.info ⟨t,p,h⟩ pg)) t p h pg sl
def freeR (u:VS) (t p h pg sl k a:Int) (x0 x1 x2 x3 x4 x5 x6 x7 x8:LI):VS×LI×LI×LI×LI×LI×LI×LI×LI×LI:=
 match p_Push x0 x1 x2 x3 x4 x5 x6 x7 x8 k a with
 |(q0,q1,q2,q3,q4,q5,q6,q7,q8,ok)=>(bif ok then u else slab_Give u t p h pg sl,q0,q1,q2,q3,q4,q5,q6,q7,q8)
def flushF (u:VS) (t p h k pg:Int) (l:LI):VS:=l.foldl (λu a=>slab_Give u t p h pg (slA t p h k a)) u
def flushR (s:VS) (t p h:Int) (x0 x1 x2 x3 x4 x5 x6 x7 x8:LI) (k:Int):VS×Int×LI×LI×LI×LI×LI×LI×LI×LI×LI:=
 bif (lastI (pkGet k x0 x1 x2 x3 x4 x5 x6 x7 x8)).2 then (flushF s t p h k (pgA t p h (lastI (pkGet k x0 x1 x2 x3 x4 x5 x6 x7 x8)).1) ((pkGet k x0 x1 x2 x3 x4 x5 x6 x7 x8).filter (onP t p h (pgA t p h (lastI (pkGet k x0 x1 x2 x3 x4 x5 x6 x7 x8)).1))),(((pkGet k x0 x1 x2 x3 x4 x5 x6 x7 x8).filter (onP t p h (pgA t p h (lastI (pkGet k x0 x1 x2 x3 x4 x5 x6 x7 x8)).1))).length:Int),pkSel k 0 ((pkGet k x0 x1 x2 x3 x4 x5 x6 x7 x8).filter λa=>!onP t p h (pgA t p h (lastI (pkGet k x0 x1 x2 x3 x4 x5 x6 x7 x8)).1) a) x0,pkSel k 1 ((pkGet k x0 x1 x2 x3 x4 x5 x6 x7 x8).filter λa=>!onP t p h (pgA t p h (lastI (pkGet k x0 x1 x2 x3 x4 x5 x6 x7 x8)).1) a) x1,pkSel k 2 ((pkGet k x0 x1 x2 x3 x4 x5 x6 x7 x8).filter λa=>!onP t p h (pgA t p h (lastI (pkGet k x0 x1 x2 x3 x4 x5 x6 x7 x8)).1) a) x2,pkSel k 3 ((pkGet k x0 x1 x2 x3 x4 x5 x6 x7 x8).filter λa=>!onP t p h (pgA t p h (lastI (pkGet k x0 x1 x2 x3 x4 x5 x6 x7 x8)).1) a) x3,pkSel k 4 ((pkGet k x0 x1 x2 x3 x4 x5 x6 x7 x8).filter λa=>!onP t p h (pgA t p h (lastI (pkGet k x0 x1 x2 x3 x4 x5 x6 x7 x8)).1) a) x4,pkSel k 5 ((pkGet k x0 x1 x2 x3 x4 x5 x6 x7 x8).filter λa=>!onP t p h (pgA t p h (lastI (pkGet k x0 x1 x2 x3 x4 x5 x6 x7 x8)).1) a) x5,pkSel k 6 ((pkGet k x0 x1 x2 x3 x4 x5 x6 x7 x8).filter λa=>!onP t p h (pgA t p h (lastI (pkGet k x0 x1 x2 x3 x4 x5 x6 x7 x8)).1) a) x6,pkSel k 7 ((pkGet k x0 x1 x2 x3 x4 x5 x6 x7 x8).filter λa=>!onP t p h (pgA t p h (lastI (pkGet k x0 x1 x2 x3 x4 x5 x6 x7 x8)).1) a) x7,pkSel k 8 ((pkGet k x0 x1 x2 x3 x4 x5 x6 x7 x8).filter λa=>!onP t p h (pgA t p h (lastI (pkGet k x0 x1 x2 x3 x4 x5 x6 x7 x8)).1) a) x8) else (s,0,x0,x1,x2,x3,x4,x5,x6,x7,x8)
def small_Free (s:VS) (t p h:Int) (x0 x1 x2 x3 x4 x5 x6 x7 x8:LI) (pg sl:Int):VS×LI×LI×LI×LI×LI×LI×LI×LI×LI:=bif decide (sl<0)||decide (sl≥32) then (s,x0,x1,x2,x3,x4,x5,x6,x7,x8) else freeR (freeU s t p h pg sl) t p h pg sl (freeK s t p h pg) (addr_At t p h (freeK s t p h pg) pg sl).1 x0 x1 x2 x3 x4 x5 x6 x7 x8
abbrev c_small_Free:Ct Sg:=⟨some wView,false,[.agg [.i .i64, .i .i64, .i .i64], .agg [.ro [some .i8], .ro [some .i8], .ro [some .i8], .ro [some .i8], .ro [some .i8], .ro [some .i8], .ro [some .i8], .ro [some .i8], .ro [some .i8]], .i .i64, .i .i64], .agg [.new 2 [some .i8], .new 2 [some .i8], .new 2 [some .i8], .new 2 [some .i8], .new 2 [some .i8], .new 2 [some .i8], .new 2 [some .i8], .new 2 [some .i8], .new 2 [some .i8]]⟩
def e_small_Free:Entry Sg:=entC c_small_Free small_Free (λs t p h x0 x1 x2 x3 x4 x5 x6 x7 x8 pg sl=>[p≤1024,pkB x0 x1 x2 x3 x4 x5 x6 x7 x8,0≤pg])
abbrev Ih (r11:VS×Int) (sl:Int):=(iA iO (↑(jN (iP 32 r11.2 &&& ~~~iP 32 (iA iO ((1:Int)*2^min (iJ sl) 32)))):Int))
abbrev Ii (sl:Int) (r11:VS×Int) (r10:Int) (Q0:VS→LI→LI→LI→LI→LI→LI→LI→LI→LI→Int→Int→Int→Prop) (r7:Int×Int×Int×Bool):Prop:=(aw_ (0≤sl) (∀r13:VS,r13=(VS.set r11.1 r10 (Ih r11 sl))→(aw_ (bd32 (Ih r11 sl)) (tw_ (∀r15:VS×Int,r15=((VS.read r13 1,VS.get r13 1))→(∀r16:VS,r16=(VS.set r15.1 1 (iA iO (r15.2+4294967295)))→(aw_ (bd32 (iA iO (r15.2+4294967295))) (Q0 (r16) ([]) ([]) ([]) ([]) ([]) ([]) ([]) ([]) ([]) r7.1 r7.2.1 r7.2.2.1))))))))
def small_Free_w (s:VS) (t p h:Int) (x0 x1 x2 x3 x4 x5 x6 x7 x8:LI) (pg sl:Int) (Q0:VS→LI→LI→LI→LI→LI→LI→LI→LI→LI→Int→Int→Int→Prop) (R_:VS×LI×LI×LI×LI×LI×LI×LI×LI×LI→Prop):Prop:=(bw_ (decide (sl<0)||decide (sl≥32)) (R_ ((s,x0,x1,x2,x3,x4,x5,x6,x7,x8))) (∀r5:Int,r5=(place_Info t p h pg)→(∀r6:VS×Int,r6=((VS.read s r5,VS.get s r5))→(∀r7:Int×Int×Int×Bool,r7=(info_Get r6.2)→(∀r10:Int,r10=(place_Slots t p h pg)→((∀r11:VS×Int,r11=((VS.read r6.1 r10,VS.get r6.1 r10))→(Ii sl r11 r10 Q0 r7))∧(∀r11:VS×Int,r11=((VS.read r6.1 r10,VS.get r6.1 r10))→(tw_ (Ii sl r11 r10 Q0 r7)))))))))
def small_Free_w0 (s:VS) (t p h:Int) (x0 x1 x2 x3 x4 x5 x6 x7 x8:LI) (pg sl:Int) (u:VS) (z0 z1 z2 z3 z4 z5 z6 z7 z8:LI) (ik il ic:Int) (Q0:VS→LI→LI→LI→LI→LI→LI→LI→LI→LI→Int→Int→Int→Prop) (R_:VS×LI×LI×LI×LI×LI×LI×LI×LI×LI→Prop):Prop:=(∀r0:Int×Bool,r0=(addr_At t p h ic pg sl)→(∀r1:LI×LI×LI×LI×LI×LI×LI×LI×LI×Bool,r1=(p_Push x0 x1 x2 x3 x4 x5 x6 x7 x8 ic r0.1)→(aw_ (pkB x0 x1 x2 x3 x4 x5 x6 x7 x8) (bw_ (!r1.2.2.2.2.2.2.2.2.2) (∀r14:VS,r14=(slab_Give u t p h pg sl)→(aw_ (p≤1024) (aw_ (0≤pg) (R_ ((r14,r1.1,r1.2.1,r1.2.2.1,r1.2.2.2.1,r1.2.2.2.2.1,r1.2.2.2.2.2.1,r1.2.2.2.2.2.2.1,r1.2.2.2.2.2.2.2.1,r1.2.2.2.2.2.2.2.2.1)))))) (R_ ((u,r1.1,r1.2.1,r1.2.2.1,r1.2.2.2.1,r1.2.2.2.2.1,r1.2.2.2.2.2.1,r1.2.2.2.2.2.2.1,r1.2.2.2.2.2.2.2.1,r1.2.2.2.2.2.2.2.2.1)))))))
def small_Free_I0 (s:VS) (t p h:Int) (x0 x1 x2 x3 x4 x5 x6 x7 x8:LI) (pg sl:Int) (u:VS) (z0 z1 z2 z3 z4 z5 z6 z7 z8:LI) (ik il ic:Int) (r_:VS×LI×LI×LI×LI×LI×LI×LI×LI×LI):Prop:=True∧r_=freeR u t p h pg sl ic (addr_At t p h ic pg sl).1 x0 x1 x2 x3 x4 x5 x6 x7 x8
abbrev small_Free_h0 (p0:Addr) (s:VS) (t p h:Int) (x0 x1 x2 x3 x4 x5 x6 x7 x8:LI) (pg sl:Int):Hd Sg:=⟨some 0,[0,0,1,1,1,1,1],[.code [1,0,1,1,1,1,1], .code [1,1,1,1,1,1]],[0,11,3,4,6,10,12],[.objc wView p0, .box 73 [.ago 0, .ic .i64 (t), .ic .i64 (p), .ic .i64 (h), .roc [.fz (x0)], .roc [.fz (x1)], .roc [.fz (x2)], .roc [.fz (x3)], .roc [.fz (x4)], .roc [.fz (x5)], .roc [.fz (x6)], .roc [.fz (x7)], .roc [.fz (x8)]], .ic .i64 (pg), .ic .i64 (sl), .box 23 [.ic .i64 (t), .ic .i64 (p), .ic .i64 (h)], .box 36 [.ro [some .i8], .ro [some .i8], .ro [some .i8], .ro [some .i8], .ro [some .i8], .ro [some .i8], .ro [some .i8], .ro [some .i8], .ro [some .i8]], .box 105 [.i .i64, .i .i64, .i .i64]]⟩
theorem small_Free_begin (s:VS) (t p h:Int) (x0 x1 x2 x3 x4 x5 x6 x7 x8:LI) (pg sl:Int) (hp0:p≤1024) (hp1:pkB x0 x1 x2 x3 x4 x5 x6 x7 x8) (hp2:0≤pg) (hl0:x0.length≤9223372036854775807) (hl1:x1.length≤9223372036854775807) (hl2:x2.length≤9223372036854775807) (hl3:x3.length≤9223372036854775807) (hl4:x4.length≤9223372036854775807) (hl5:x5.length≤9223372036854775807) (hl6:x6.length≤9223372036854775807) (hl7:x7.length≤9223372036854775807) (hl8:x8.length≤9223372036854775807):small_Free_w s t p h x0 x1 x2 x3 x4 x5 x6 x7 x8 pg sl (λu' z0' z1' z2' z3' z4' z5' z6' z7' z8' ik' il' ic'=>small_Free_I0 s t p h x0 x1 x2 x3 x4 x5 x6 x7 x8 pg sl u' z0' z1' z2' z3' z4' z5' z6' z7' z8' ik' il' ic' (small_Free s t p h x0 x1 x2 x3 x4 x5 x6 x7 x8 pg sl)) (λr__=>r__=(small_Free s t p h x0 x1 x2 x3 x4 x5 x6 x7 x8 pg sl)):=by
 unfold small_Free_w Ii Ih
 try unfold small_Free_I0
 refine ⟨λhc=>?_, λhc=>?_⟩
 ·show _=small_Free s t p h x0 x1 x2 x3 x4 x5 x6 x7 x8 pg sl
  unfold small_Free
  rw [hc];rfl
 have hb:0≤sl∧sl<32:=by simp only [jI,decide_eq_false_iff_not] at hc;omega
 simp only [place_Info_eq,place_Slots_eq]
 rintro r5 rfl r6 rfl r7 rfl r10 rfl
 have fin:small_Free s t p h x0 x1 x2 x3 x4 x5 x6 x7 x8 pg sl=freeR (endS (s.read (Cf.info ⟨t,p,h⟩ pg)) t p h pg sl) t p h pg sl (info_Get (s.get (Cf.info ⟨t,p,h⟩ pg))).2.2.1 (addr_At t p h (info_Get (s.get (Cf.info ⟨t,p,h⟩ pg))).2.2.1 pg sl).1 x0 x1 x2 x3 x4 x5 x6 x7 x8:=by
  unfold small_Free
  rw [hc,cond_false,infoG3];rfl
 have g1:=(bitAt_clrB (VS.get_bd (s.read (Cf.info ⟨t,p,h⟩ pg)) (Cf.slots ⟨t,p,h⟩ pg)) hb).1
 have e1:=andNot_eq (VS.get_bd (s.read (Cf.info ⟨t,p,h⟩ pg)) (Cf.slots ⟨t,p,h⟩ pg)) hb
 simp only [e1,wrapDec]
 have one:∀r13:VS,r13=((s.read (Cf.info ⟨t,p,h⟩ pg)).read (Cf.slots ⟨t,p,h⟩ pg)).set (Cf.slots ⟨t,p,h⟩ pg) (clrB ((s.read (Cf.info ⟨t,p,h⟩ pg)).get (Cf.slots ⟨t,p,h⟩ pg)) sl)→∀r15:VS×Int,r15=(r13.read 1,r13.get 1)→∀r16:VS,r16=r15.1.set 1 (iA iO (r15.2-1))→r16=endS (s.read (Cf.info ⟨t,p,h⟩ pg)) t p h pg sl:=by
  rintro r13 rfl r15 rfl r16 rfl;rfl
 have two:∀r13:VS,r13=((s.read (Cf.info ⟨t,p,h⟩ pg)).read (Cf.slots ⟨t,p,h⟩ pg)).set (Cf.slots ⟨t,p,h⟩ pg) (clrB ((s.read (Cf.info ⟨t,p,h⟩ pg)).get (Cf.slots ⟨t,p,h⟩ pg)) sl)→(∀r15:VS×Int,r15=(r13.read 1,r13.get 1)→∀r16:VS,r16=r15.1.set 1 (iA iO (r15.2-1))→aw_ (bd32 (iA iO (r15.2-1))) (True∧small_Free s t p h x0 x1 x2 x3 x4 x5 x6 x7 x8 pg sl=freeR r16 t p h pg sl (info_Get (s.get (Cf.info ⟨t,p,h⟩ pg))).2.2.1 (addr_At t p h (info_Get (s.get (Cf.info ⟨t,p,h⟩ pg))).2.2.1 pg sl).1 x0 x1 x2 x3 x4 x5 x6 x7 x8)):= λr13 h13 r15 h15 r16 h16=>⟨wu32_bd _, λ_=>⟨trivial,by rw [one r13 h13 r15 h15 r16 h16];exact fin⟩⟩
 refine ⟨?_,?_⟩
 all_goals
  rintro r11 rfl
  simp only [e1,wrapDec]
 ·exact ⟨hb.1, λ_ r13 h13=>⟨g1, λ_=>⟨two r13 h13,two r13 h13⟩⟩⟩
 ·exact ⟨⟨hb.1, λ_ r13 h13=>⟨g1, λ_=>⟨two r13 h13,two r13 h13⟩⟩⟩,⟨hb.1, λ_ r13 h13=>⟨g1, λ_=>⟨two r13 h13,two r13 h13⟩⟩⟩⟩
theorem small_Free_step0 (s:VS) (t p h:Int) (x0 x1 x2 x3 x4 x5 x6 x7 x8:LI) (pg sl:Int) (hp0:p≤1024) (hp1:pkB x0 x1 x2 x3 x4 x5 x6 x7 x8) (hp2:0≤pg) (hl0:x0.length≤9223372036854775807) (hl1:x1.length≤9223372036854775807) (hl2:x2.length≤9223372036854775807) (hl3:x3.length≤9223372036854775807) (hl4:x4.length≤9223372036854775807) (hl5:x5.length≤9223372036854775807) (hl6:x6.length≤9223372036854775807) (hl7:x7.length≤9223372036854775807) (hl8:x8.length≤9223372036854775807) (u:VS) (z0 z1 z2 z3 z4 z5 z6 z7 z8:LI) (ik il ic:Int) {r_:VS×LI×LI×LI×LI×LI×LI×LI×LI×LI} (hI:small_Free_I0 s t p h x0 x1 x2 x3 x4 x5 x6 x7 x8 pg sl u z0 z1 z2 z3 z4 z5 z6 z7 z8 ik il ic r_):small_Free_w0 s t p h x0 x1 x2 x3 x4 x5 x6 x7 x8 pg sl u z0 z1 z2 z3 z4 z5 z6 z7 z8 ik il ic (λu' z0' z1' z2' z3' z4' z5' z6' z7' z8' ik' il' ic'=>small_Free_I0 s t p h x0 x1 x2 x3 x4 x5 x6 x7 x8 pg sl u' z0' z1' z2' z3' z4' z5' z6' z7' z8' ik' il' ic' r_∧lx (9,0,0) (9,0,0)) (λr__=>r__=r_):=by
 unfold small_Free_I0 at hI
 unfold small_Free_w0
 try unfold small_Free_I0
 obtain ⟨_,hr⟩:=hI
 rintro r0 h0 ⟨q0,q1,q2,q3,q4,q5,q6,q7,q8,ok⟩ h1
 rw [freeR,←h0,←h1] at hr
 refine ⟨hp1, λ_=>⟨λhc=>?_, λhc=>?_⟩⟩
 ·have hk:ok=false:=(jB _).mp hc
  subst hk
  rintro r14 rfl
  exact ⟨hp0, λ_=>⟨hp2, λ_=>hr.symm⟩⟩
 ·have hk:ok=true:=(jF _).mp hc
  subst hk
  exact hr.symm
theorem small_Free_ok:EOk 19 e_small_Free:=
 ent_wp Dg T_r01_Longs_ok (I:=[60,31,73,29,61,107,74,6802000,2999998]) Tryz.func19 mix (B:=bodyOf Tryz.f19) (by kernel_rfl) rfl (by kernel_rfl) 400
  λp0 s t p h x0 x1 x2 x3 x4 x5 x6 x7 x8 pg sl hb hp=>have hl0:x0.length≤9223372036854775807:=hb.2.2.1.1;have hl1:x1.length≤9223372036854775807:=hb.2.2.1.2.1;have hl2:x2.length≤9223372036854775807:=hb.2.2.1.2.2.1;have hl3:x3.length≤9223372036854775807:=hb.2.2.1.2.2.2.1;have hl4:x4.length≤9223372036854775807:=hb.2.2.1.2.2.2.2.1;have hl5:x5.length≤9223372036854775807:=hb.2.2.1.2.2.2.2.2.1;have hl6:x6.length≤9223372036854775807:=hb.2.2.1.2.2.2.2.2.2.1;have hl7:x7.length≤9223372036854775807:=hb.2.2.1.2.2.2.2.2.2.2.1;have hl8:x8.length≤9223372036854775807:=hb.2.2.1.2.2.2.2.2.2.2.2.1;have hp0:p≤1024:=hp _ (.head _);have hp1:pkB x0 x1 x2 x3 x4 x5 x6 x7 x8:=hp _ (.tail _ (.head _));have hp2:0≤pg:=hp _ (.tail _ (.tail _ (.head _)));⟨[small_Free_h0 p0 s t p h x0 x1 x2 x3 x4 x5 x6 x7 x8 pg sl], λj=>iE [appC (Hd.kd (small_Free_h0 p0 s t p h x0 x1 x2 x3 x4 x5 x6 x7 x8 pg sl)) (λu' z0' z1' z2' z3' z4' z5' z6' z7' z8' ik' il' ic'=>small_Free_I0 s t p h x0 x1 x2 x3 x4 x5 x6 x7 x8 pg sl u' z0' z1' z2' z3' z4' z5' z6' z7' z8' ik' il' ic' (small_Free s t p h x0 x1 x2 x3 x4 x5 x6 x7 x8 pg sl))] j (λ_=>False), λj=>iE [appC (Hd.kd (small_Free_h0 p0 s t p h x0 x1 x2 x3 x4 x5 x6 x7 x8 pg sl)) (λu' z0' z1' z2' z3' z4' z5' z6' z7' z8' ik' il' ic'=>(9,0,0))] j (λ_=>(0,0,0)),by kernel_rfl,⟨_, λ_ _ _=>by kernel_rfl,small_Free_begin s t p h x0 x1 x2 x3 x4 x5 x6 x7 x8 pg sl hp0 hp1 hp2 hl0 hl1 hl2 hl3 hl4 hl5 hl6 hl7 hl8⟩,⟨λu z0 z1 z2 z3 z4 z5 z6 z7 z8 ik il ic hI=>⟨_, λ_ _ _=>by kernel_rfl,small_Free_step0 s t p h x0 x1 x2 x3 x4 x5 x6 x7 x8 pg sl hp0 hp1 hp2 hl0 hl1 hl2 hl3 hl4 hl5 hl6 hl7 hl8 u z0 z1 z2 z3 z4 z5 z6 z7 z8 ik il ic hI⟩,trivial⟩⟩
def T_small_Free:Tb:=(19,e_small_Free)::T_r01_Longs
theorem T_small_Free_ok:TOk T_small_Free:=tc_ small_Free_ok T_r01_Longs_ok
def small_Flush (s:VS) (t p h:Int) (x0 x1 x2 x3 x4 x5 x6 x7 x8:LI) (k:Int):VS×Int×LI×LI×LI×LI×LI×LI×LI×LI×LI:=flushR s t p h x0 x1 x2 x3 x4 x5 x6 x7 x8 k
abbrev c_small_Flush:Ct Sg:=⟨some wView,false,[.agg [.i .i64, .i .i64, .i .i64], .agg [.ro [some .i8], .ro [some .i8], .ro [some .i8], .ro [some .i8], .ro [some .i8], .ro [some .i8], .ro [some .i8], .ro [some .i8], .ro [some .i8]], .i .i64], .tup [.i .i64, .agg [.new 2 [some .i8], .new 2 [some .i8], .new 2 [some .i8], .new 2 [some .i8], .new 2 [some .i8], .new 2 [some .i8], .new 2 [some .i8], .new 2 [some .i8], .new 2 [some .i8]]]⟩
def e_small_Flush:Entry Sg:=entC c_small_Flush small_Flush (λs t p h x0 x1 x2 x3 x4 x5 x6 x7 x8 k=>[p≤1024,pkB x0 x1 x2 x3 x4 x5 x6 x7 x8])
def small_Flush_w (s:VS) (t p h:Int) (x0 x1 x2 x3 x4 x5 x6 x7 x8:LI) (k:Int) (Q0:VS→LI→LI→LI→LI→LI→LI→LI→LI→LI→LI→Nat→Int→Int→Int→Prop) (R_:VS×Int×LI×LI×LI×LI×LI×LI×LI×LI×LI→Prop):Prop:=(∀r4:Int×Bool,r4=(p_Last x0 x1 x2 x3 x4 x5 x6 x7 x8 k)→(aw_ (pkB x0 x1 x2 x3 x4 x5 x6 x7 x8) (bw_ (!r4.2) (R_ ((s,0,x0,x1,x2,x3,x4,x5,x6,x7,x8))) (∀r7:Int×Int×Bool,r7=(addr_Page t p h r4.1)→(∀r8:Int×Bool,r8=(addr_Slot t p h k r7.2.1)→(∀r9:LI,r9=(p_On t p h x0 x1 x2 x3 x4 x5 x6 x7 x8 k r7.1)→(aw_ (pkB x0 x1 x2 x3 x4 x5 x6 x7 x8) (Q0 (s) ([]) ([]) ([]) ([]) ([]) ([]) ([]) ([]) ([]) (r9) (lenC [Col.fz r9]) r7.1 ((↑(lenC [Col.fz r9]):Int)) (0)))))))))
def small_Flush_w0 (s:VS) (t p h:Int) (x0 x1 x2 x3 x4 x5 x6 x7 x8:LI) (k:Int) (u:VS) (z0 z1 z2 z3 z4 z5 z6 z7 z8 l:LI) (mm:Nat) (pg n1 i:Int) (Q0:VS→LI→LI→LI→LI→LI→LI→LI→LI→LI→LI→Nat→Int→Int→Int→Prop) (R_:VS×Int×LI×LI×LI×LI×LI×LI×LI×LI×LI→Prop):Prop:=(bw_ (decide (i<n1)) (aw_ (0≤i∧i<(↑mm:Int)) (∀r2:Int×Int×Bool,r2=(addr_Page t p h (iE l (iJ i) 0))→(∀r3:Int×Bool,r3=(addr_Slot t p h k r2.2.1)→(∀r4:VS,r4=(slab_Give u t p h pg r3.1)→(aw_ (p≤1024) (aw_ (0≤pg) (Q0 (r4) (z0) (z1) (z2) (z3) (z4) (z5) (z6) (z7) (z8) (l) (mm) (pg) (n1) (iA iB (i+1))))))))) (∀r1:LI×LI×LI×LI×LI×LI×LI×LI×LI,r1=(p_Off t p h x0 x1 x2 x3 x4 x5 x6 x7 x8 k pg)→(aw_ (pkB x0 x1 x2 x3 x4 x5 x6 x7 x8) (R_ ((u,(↑(lenC [Col.fz l]):Int),r1.1,r1.2.1,r1.2.2.1,r1.2.2.2.1,r1.2.2.2.2.1,r1.2.2.2.2.2.1,r1.2.2.2.2.2.2.1,r1.2.2.2.2.2.2.2.1,r1.2.2.2.2.2.2.2.2))))))
def small_Flush_I0 (s:VS) (t p h:Int) (x0 x1 x2 x3 x4 x5 x6 x7 x8:LI) (k:Int) (u:VS) (z0 z1 z2 z3 z4 z5 z6 z7 z8 l:LI) (mm:Nat) (pg n1 i:Int) (r_:VS×Int×LI×LI×LI×LI×LI×LI×LI×LI×LI):Prop:=n1=l.length∧0≤i∧i≤l.length∧l.length≤1000000∧0≤pg∧(∀a∈l,i64R a)∧mm=l.length∧r_=(flushF u t p h k pg (l.drop i.toNat),(l.length:Int),pkSel k 0 ((pkGet k x0 x1 x2 x3 x4 x5 x6 x7 x8).filter λa=>!onP t p h pg a) x0,pkSel k 1 ((pkGet k x0 x1 x2 x3 x4 x5 x6 x7 x8).filter λa=>!onP t p h pg a) x1,pkSel k 2 ((pkGet k x0 x1 x2 x3 x4 x5 x6 x7 x8).filter λa=>!onP t p h pg a) x2,pkSel k 3 ((pkGet k x0 x1 x2 x3 x4 x5 x6 x7 x8).filter λa=>!onP t p h pg a) x3,pkSel k 4 ((pkGet k x0 x1 x2 x3 x4 x5 x6 x7 x8).filter λa=>!onP t p h pg a) x4,pkSel k 5 ((pkGet k x0 x1 x2 x3 x4 x5 x6 x7 x8).filter λa=>!onP t p h pg a) x5,pkSel k 6 ((pkGet k x0 x1 x2 x3 x4 x5 x6 x7 x8).filter λa=>!onP t p h pg a) x6,pkSel k 7 ((pkGet k x0 x1 x2 x3 x4 x5 x6 x7 x8).filter λa=>!onP t p h pg a) x7,pkSel k 8 ((pkGet k x0 x1 x2 x3 x4 x5 x6 x7 x8).filter λa=>!onP t p h pg a) x8)
abbrev small_Flush_h0 (p0:Addr) (s:VS) (t p h:Int) (x0 x1 x2 x3 x4 x5 x6 x7 x8:LI) (k:Int):Hd Sg:=⟨none,[0,1,0,1,1,1,1,1,1],[.blk 0, .code [1,1,1,1,1,1,1]],[0,6,10,5,9,3,15,46,13,47,48],[.objc wView p0, .box 36 [.roc [.fz (x0)], .roc [.fz (x1)], .roc [.fz (x2)], .roc [.fz (x3)], .roc [.fz (x4)], .roc [.fz (x5)], .roc [.fz (x6)], .roc [.fz (x7)], .roc [.fz (x8)]], .box 73 [.ago 0, .ic .i64 (t), .ic .i64 (p), .ic .i64 (h), .ags 2 (x0.length), .ags 3 (x1.length), .ags 4 (x2.length), .ags 5 (x3.length), .ags 6 (x4.length), .ags 7 (x5.length), .ags 8 (x6.length), .ags 9 (x7.length), .ags 10 (x8.length)], .box 23 [.ic .i64 (t), .ic .i64 (p), .ic .i64 (h)], .box 36 [.ro [some .i8], .ro [some .i8], .ro [some .i8], .ro [some .i8], .ro [some .i8], .ro [some .i8], .ro [some .i8], .ro [some .i8], .ro [some .i8]], .ic .i64 (k), .ro [some .i8], .agn 23, .i .i64, .i .i64, .i .i64]⟩
theorem small_Flush_begin (s:VS) (t p h:Int) (x0 x1 x2 x3 x4 x5 x6 x7 x8:LI) (k:Int) (hp0:p≤1024) (hp1:pkB x0 x1 x2 x3 x4 x5 x6 x7 x8) (hl0:x0.length≤9223372036854775807) (hl1:x1.length≤9223372036854775807) (hl2:x2.length≤9223372036854775807) (hl3:x3.length≤9223372036854775807) (hl4:x4.length≤9223372036854775807) (hl5:x5.length≤9223372036854775807) (hl6:x6.length≤9223372036854775807) (hl7:x7.length≤9223372036854775807) (hl8:x8.length≤9223372036854775807):small_Flush_w s t p h x0 x1 x2 x3 x4 x5 x6 x7 x8 k (λu' z0' z1' z2' z3' z4' z5' z6' z7' z8' l' mm' pg' n1' i'=>small_Flush_I0 s t p h x0 x1 x2 x3 x4 x5 x6 x7 x8 k u' z0' z1' z2' z3' z4' z5' z6' z7' z8' l' mm' pg' n1' i' (small_Flush s t p h x0 x1 x2 x3 x4 x5 x6 x7 x8 k)) (λr__=>r__=(small_Flush s t p h x0 x1 x2 x3 x4 x5 x6 x7 x8 k)):=by
 unfold small_Flush_w
 try unfold small_Flush_I0
 have hb:=pkB_get hp1 k
 have hP:addr_Page t p h (p_Last x0 x1 x2 x3 x4 x5 x6 x7 x8 k).1=r06_Page t p h (lastI (pkGet k x0 x1 x2 x3 x4 x5 x6 x7 x8)).1:=Page_eq (lastI_i64 hb)
 rintro r4 rfl
 refine ⟨hp1, λ_=>⟨λhc=>?_, λhc=>?_⟩⟩
 ·have hc:(lastI (pkGet k x0 x1 x2 x3 x4 x5 x6 x7 x8)).2=false:=(jB _).mp hc
  show _=small_Flush s t p h x0 x1 x2 x3 x4 x5 x6 x7 x8 k
  unfold small_Flush flushR
  rw [hc];rfl
 ·have hc:(lastI (pkGet k x0 x1 x2 x3 x4 x5 x6 x7 x8)).2=true:=(jF _).mp hc
  rw [hP]
  rintro r7 rfl r8 rfl r9 rfl
  have hlen:(p_On t p h x0 x1 x2 x3 x4 x5 x6 x7 x8 k (r06_Page t p h (lastI (pkGet k x0 x1 x2 x3 x4 x5 x6 x7 x8)).1).1).length≤1000000:=Nat.le_trans (List.length_filter_le _ _) hb.1
  refine ⟨hp1, λ_=>⟨rfl,by omega,?_,hlen,page_nn t p h _ (lastI_i64 hb), λa ha=>hb.2 a (List.mem_filter.mp ha).1,rfl,?_⟩⟩
  ·omega
  ·unfold small_Flush flushR
   rw [hc];rfl
theorem small_Flush_step0 (s:VS) (t p h:Int) (x0 x1 x2 x3 x4 x5 x6 x7 x8:LI) (k:Int) (hp0:p≤1024) (hp1:pkB x0 x1 x2 x3 x4 x5 x6 x7 x8) (hl0:x0.length≤9223372036854775807) (hl1:x1.length≤9223372036854775807) (hl2:x2.length≤9223372036854775807) (hl3:x3.length≤9223372036854775807) (hl4:x4.length≤9223372036854775807) (hl5:x5.length≤9223372036854775807) (hl6:x6.length≤9223372036854775807) (hl7:x7.length≤9223372036854775807) (hl8:x8.length≤9223372036854775807) (u:VS) (z0 z1 z2 z3 z4 z5 z6 z7 z8 l:LI) (mm:Nat) (pg n1 i:Int) {r_:VS×Int×LI×LI×LI×LI×LI×LI×LI×LI×LI} (hI:small_Flush_I0 s t p h x0 x1 x2 x3 x4 x5 x6 x7 x8 k u z0 z1 z2 z3 z4 z5 z6 z7 z8 l mm pg n1 i r_):small_Flush_w0 s t p h x0 x1 x2 x3 x4 x5 x6 x7 x8 k u z0 z1 z2 z3 z4 z5 z6 z7 z8 l mm pg n1 i (λu' z0' z1' z2' z3' z4' z5' z6' z7' z8' l' mm' pg' n1' i'=>small_Flush_I0 s t p h x0 x1 x2 x3 x4 x5 x6 x7 x8 k u' z0' z1' z2' z3' z4' z5' z6' z7' z8' l' mm' pg' n1' i' r_∧lx (((l'.length:Int)-i').toNat,0,0) (((l.length:Int)-i).toNat,0,0)) (λr__=>r__=r_):=by
 unfold small_Flush_I0 at hI
 unfold small_Flush_w0
 try unfold small_Flush_I0
 obtain ⟨hn,h0,h1,hl,hpg,ha,hmm,hr⟩:=hI
 refine ⟨λhc=>?_, λhc=>?_⟩
 ·simp only [decide_eq_true_eq] at hc
  have hlt:i.toNat<l.length:=by omega
  refine ⟨⟨h0,by omega⟩, λ_=>?_⟩
  rintro r2 rfl r3 rfl r4 rfl
  rw [w64 (n:=i+1) (by omega)]
  refine ⟨hp0, λ_=>⟨hpg, λ_=>⟨⟨hn,by omega,by omega,hl,hpg,ha,hmm,?_⟩,lxo_⟩⟩⟩
  rw [hr,drop_getD hlt,show (i+1).toNat=i.toNat+1 by omega,Page_eq (ha _ (getD_mem' hlt)),Slot_eq]
  rfl
 ·simp only [decide_eq_false_iff_not] at hc
  rintro r1 rfl
  refine ⟨hp1, λ_=>?_⟩
  show _=r_
  rw [hr,List.drop_eq_nil_of_le (by omega)]
  rfl
theorem small_Flush_ok:EOk 16 e_small_Flush:=
 ent_wp Dg T_small_Free_ok (I:=[60,31,73,29,61,107,74,2999998,5401000000000,5401000000006,5401000000010,5401000000005,5401000000009,5401000000003,5401000000015,5401000000046,5401000000013,5401000000047,5401000000048]) Tryz.func16 mix (B:=bodyOf Tryz.f16) (by kernel_rfl) rfl (by kernel_rfl) 400
  λp0 s t p h x0 x1 x2 x3 x4 x5 x6 x7 x8 k hb hp=>have hl0:x0.length≤9223372036854775807:=hb.2.2.1.1;have hl1:x1.length≤9223372036854775807:=hb.2.2.1.2.1;have hl2:x2.length≤9223372036854775807:=hb.2.2.1.2.2.1;have hl3:x3.length≤9223372036854775807:=hb.2.2.1.2.2.2.1;have hl4:x4.length≤9223372036854775807:=hb.2.2.1.2.2.2.2.1;have hl5:x5.length≤9223372036854775807:=hb.2.2.1.2.2.2.2.2.1;have hl6:x6.length≤9223372036854775807:=hb.2.2.1.2.2.2.2.2.2.1;have hl7:x7.length≤9223372036854775807:=hb.2.2.1.2.2.2.2.2.2.2.1;have hl8:x8.length≤9223372036854775807:=hb.2.2.1.2.2.2.2.2.2.2.2.1;have hp0:p≤1024:=hp _ (.head _);have hp1:pkB x0 x1 x2 x3 x4 x5 x6 x7 x8:=hp _ (.tail _ (.head _));⟨[small_Flush_h0 p0 s t p h x0 x1 x2 x3 x4 x5 x6 x7 x8 k], λj=>iE [appC (Hd.kd (small_Flush_h0 p0 s t p h x0 x1 x2 x3 x4 x5 x6 x7 x8 k)) (λu' z0' z1' z2' z3' z4' z5' z6' z7' z8' l' mm' pg' n1' i'=>small_Flush_I0 s t p h x0 x1 x2 x3 x4 x5 x6 x7 x8 k u' z0' z1' z2' z3' z4' z5' z6' z7' z8' l' mm' pg' n1' i' (small_Flush s t p h x0 x1 x2 x3 x4 x5 x6 x7 x8 k))] j (λ_=>False), λj=>iE [appC (Hd.kd (small_Flush_h0 p0 s t p h x0 x1 x2 x3 x4 x5 x6 x7 x8 k)) (λu' z0' z1' z2' z3' z4' z5' z6' z7' z8' l' mm' pg' n1' i'=>(((l'.length:Int)-i').toNat,0,0))] j (λ_=>(0,0,0)),by kernel_rfl,⟨_, λ_ _ _=>by kernel_rfl,small_Flush_begin s t p h x0 x1 x2 x3 x4 x5 x6 x7 x8 k hp0 hp1 hl0 hl1 hl2 hl3 hl4 hl5 hl6 hl7 hl8⟩,⟨λu z0 z1 z2 z3 z4 z5 z6 z7 z8 l mm pg n1 i hI=>⟨_, λ_ _ _=>by kernel_rfl,small_Flush_step0 s t p h x0 x1 x2 x3 x4 x5 x6 x7 x8 k hp0 hp1 hl0 hl1 hl2 hl3 hl4 hl5 hl6 hl7 hl8 u z0 z1 z2 z3 z4 z5 z6 z7 z8 l mm pg n1 i hI⟩,trivial⟩⟩
def T_small_Flush:Tb:=(16,e_small_Flush)::T_small_Free
theorem T_small_Flush_ok:TOk T_small_Flush:=tc_ small_Flush_ok T_small_Free_ok
end
end Go.Proofs.YtjfabjhlkpgckaaGreat
namespace Go.Sl
section
open Go.RowKit
def recOf (fn:FuncId) (tmps:Array Value) (ps:Array Tmp) (assign body:Code) (D:Nat) (st:LoopState) (pe:Option Code):Loop:=
 {state:=st,pending:=pe,fn,tmps,params:=ps,assign,body,defers:=D}
def mark (D:Nat):Deferred:={target:= .collected D,args:= #[]}
def rfWorld (w:World) (fn:FuncId) (tmps:Array Value) (ps:Array Tmp) (assign body:Code):World:=
 (w.alloc (.deferred (some []))).alloc (.loop (recOf fn tmps ps assign body w.heap.size .ready none))
section
variable {P:Program} {f:Fq} {R:Ending→World→Prop} {k:List Item} {a:Act} {w:World}
theorem WT.rangeFunc {g:Operand} {ps:Array Tmp} {assign body:Code} {gf:Nat} {lb:Array Value} (hro:f.ro=none) (hg:a.eval g= .func (.func gf) #[] lb) (eg:∀args w,(callFunc gf args).run P w= .ok (.enter gf args) w)
 (h:Calls P gf (#[.func (.yield (w.heap.size+1)) #[] #[]]++lb) (rfWorld w f.id a.tmps ps assign body) λe w3=>(∃v,e= .returned v)∧∃jump w4,(Instr.endLoop (w.heap.size+1)).run P w3= .ok jump w4∧
   WT P {f with df:=mark w.heap.size::f.df} R ((jump.map Item.code).toList++k) a w4):
 WT P f R (.code (.rangeFunc g ps assign body)::k) a w:= λcs hcs=>by
 have hb:(bfr f).roundOf=none:=hro
 have he:(Instr.enterLoop (bfr f).fn (f.act a).tmps ps assign body (bfr f).roundOf).run P w= .ok (w.heap.size+1,[mark w.heap.size]) (rfWorld w f.id a.tmps ps assign body):=by
  rw [hb];exact run_enterLoop_outer _ _ _ _ _
 have hres:(resolve (f.act a).eval (rangeCall g (w.heap.size+1)) 0).run P (rfWorld w f.id a.tmps ps assign body)= .ok {target:= .fn (.func gf) lb,args:= #[.func (.yield (w.heap.size+1)) #[] #[]]} (rfWorld w f.id a.tmps ps assign body):=by
  simp only [resolve,Fq.act_eval,hg]
  simp [go_sem]
 have hinv:(invoke (Target.fn (.func gf) lb) #[.func (.yield (w.heap.size+1)) #[] #[]]).run P (rfWorld w f.id a.tmps ps assign body)= .ok (.enter gf (#[.func (.yield (w.heap.size+1)) #[] #[]]++lb)) (rfWorld w f.id a.tmps ps assign body):=by
  simp [invoke,go_sem,eg]
 have henter:=stepR_rangeFunc (P:=P) (b:=bfr f) (a:=f.act a) (k:=k) (cs:=cs) (w:=w) he hres hinv
 obtain ⟨e,w3,fr,⟨⟨v,rfl⟩,jump,w4,hend,hW⟩,hsteps,_,hleave⟩:=h ((bfr f).atR {f.act a with defers:=[mark w.heap.size]++(f.act a).defers} (.inRangeFunc (w.heap.size+1)::k)::cs)
 have s1:=step_leave_returned (c:=(bfr f).atR {f.act a with defers:=[mark w.heap.size]++(f.act a).defers} (.inRangeFunc (w.heap.size+1)::k)) (cs:=cs) hleave
 rw [finish_atR_inRangeFunc] at s1
 have s2:=stepR_endRangeFunc (P:=P) (b:=bfr f) (a:={f.act a with defers:=[mark w.heap.size]++(f.act a).defers}) (k:=k) (cs:=cs) hend
 obtain ⟨e2,w5,S,h1,h2,h3⟩:=hW cs hcs
 exact ⟨e2,w5,S,h1,Comes.of_steps (.head henter (Steps.trans hsteps (.head s1 (.one s2)))) h2,h3⟩
theorem WT.round_begin {l:Nat} {w':World} (hro:f.ro=some l) (hr:(Instr.beginRound l).run P w= .ok () w') (H:WT P f R k a w'):WT P f R (.beginRound::k) a w:=
 WT.step (λ_=>stepR_beginRound (b:=bfr f) hro hr) H
theorem WT.round_of {l:Nat} {v:Value} {t:List Item} {w':World} (hro:f.ro=some l) (hs:∀c cs,Go.step P (lone ((bfr f).atR (f.act a) t) (c::cs) w)= .next (lone (c.finish v) cs w')) (hR:R (.returned v) w'):WT P f R t a w:= λcs hcs=>by
 cases cs with
 |nil=>rcases hcs with h|h
       ·rw [hro] at h;cases h
       ·exact absurd rfl h
 |cons c cs=>
  refine ⟨.returned v,w',_,hR,Steps.one (hs c cs),?_⟩
  unfold Fq.fin
  rw [hro]
  exact ⟨v,c,cs,rfl,rfl,rfl⟩
theorem WT.round_end {l:Nat} {v:Value} {w':World} (hro:f.ro=some l) (hr:(Instr.endRound l none).run P w= .ok v w') (hR:R (.returned v) w'):WT P f R [] a w:=
 WT.round_of hro (λ_ _=>stepR_round_end (b:=bfr f) hro rfl hr) hR
theorem WT.round_ret {l:Nat} {v:Value} {w':World} (hro:f.ro=some l) (hr:(Instr.endRound l (some .ret)).run P w= .ok v w') (hR:R (.returned v) w'):WT P f R (.code .ret::k) a w:=
 WT.round_of hro (λ_ _=>stepR_round_ret (b:=bfr f) hro rfl hr) hR
theorem ycalls_of {l:Nat} {fn:FuncId} {tmps:Array Value} {ps:Array Tmp} {assign body:Code} {D:Nat} {asv:Array Value} (h:w.heap[l]? =some (.loop (recOf fn tmps ps assign body D .ready none))) (hs:asv.size=ps.size)
 (H:WT P ⟨fn,some l,[]⟩ R [.code assign, .beginRound, .code body] {tmps:=(ps.zip asv).foldl (λt (p,v)=>t.setIfInBounds p v) tmps,defers:=[]} w):YCalls P l asv w R:=
 ⟨fn,_,assign,body,run_yield h hs,H⟩
theorem WT.round_busy {l:Nat} {r:Loop} (hro:f.ro=some l) (h:w.heap[l]? =some (.loop r)) (hr:r.state= .ready) (H:WT P f R k a (w.putObj l (.loop {r with state:= .busy}))):WT P f R (.beginRound::k) a w:=
 WT.round_begin hro (run_beginRound h hr) H
theorem WT.round_on {l:Nat} {r:Loop} (hro:f.ro=some l) (h:w.heap[l]? =some (.loop r)) (hR:R (.returned (.bool true)) (w.putObj l (.loop {r with state:= .ready,pending:=none}))):WT P f R [] a w:=
 WT.round_end hro (run_endRound none h) hR
theorem WT.round_off {l:Nat} {r:Loop} (hro:f.ro=some l) (h:w.heap[l]? =some (.loop r)) (hR:R (.returned (.bool false)) (w.putObj l (.loop {r with state:= .done,pending:=some .ret}))):WT P f R (.code .ret::k) a w:=
 WT.round_ret hro (run_endRound (some .ret) h) hR
theorem WT.finish_mark {fn:Func} {t:List Item} {v:Value} {D:Nat} {w':World} (hro:f.ro=none) (hdf:f.df=[mark D]) (hfn:P.funcs[f.id]? =some fn) (ht:t=[]∨∃k,t= .code .ret::k) (hd:a.defers=[])
 (hk:(Instr.takeDeferred D).run P w= .ok [] w') (hr:(results fn a.tmps).run P w'= .ok v w') (hR:R (.returned v) w'):WT P f R t a w:= λcs _=>by
 have hb:(bfr f).roundOf=none:=hro
 have hfin:∀fr,fr.fn=f.id→fr.leaving P w' (.returned v)→f.fin P cs (lone fr cs w') (.returned v) w':= λfr h1 h2=>by
  unfold Fq.fin;rw [hro];exact ⟨fr,rfl,h1,h2⟩
 have hc:∀t,Go.step P (lone {(bfr f).atR (f.act a) t with mode:= .returning} cs w)= .next (lone {(bfr f).atR (f.act a) t with mode:= .returning,defers:=[]} cs w'):= λt=>
  step_collected (fr:={(bfr f).atR (f.act a) t with mode:= .returning}) (by simp) (by show f.df++a.defers=_;rw [hdf,hd];rfl) rfl hk
 rcases ht with rfl|⟨k,rfl⟩
 ·exact ⟨.returned v,w',_,hR,Steps.head (stepR_end hb) (.one (hc _)),hfin _ rfl ⟨rfl,rfl,rfl,fn,hfn,hr⟩⟩
 ·exact ⟨.returned v,w',_,hR,Steps.head (stepR_ret hb) (.one (hc _)),hfin _ rfl ⟨rfl,rfl,rfl,fn,hfn,hr⟩⟩
end
end
section
open Go.RowKit
variable {σ:Type} (D:Addr→σ→Asn)
section
variable {P:Program} {R:Ending→World→Prop} {B:Code} {n:Nat} {E:Ev} {G:Hp} {td:List Ab} {L L':List Ent} {K K':List (Chunk σ)}
theorem SatK.putObj {w:World} {j l:Nat} {q:Addr} {s s':σ} {x y:Obj} (hS:SatK D E G w K) (hj:K[j]? =some (.obj q s)) (hd:D q s=pt l x) (hd':D q s'=pt l y):SatK D E G (w.putObj l y) (K.set j (.obj q s')):=by
 have hi:(K.map (den D G))[j]? =some (pt l x):=by rw [iV,hj];simp only [iX,den,hd]
 have hl:=Sat.pt hS hi
 have hlt:=lt_of_heap hl
 have:=Sat.write hS hi (w':=w.putObj l y) (A':=pt l y) ⟨rfl,rfl,rfl⟩ World.putObj_size (λc hc=>World.putObj_heap_other hc) (λY k hk=>by unfold Sl.pt;rw [hk];exact World.putObj_heap_same hlt)
 unfold SatK
 rw [List.map_set]
 simp only [den,hd']
 exact this
theorem KExt.setObj {j:Nat} {q:Addr} {s s':σ} (hj:K[j]? =some (.obj q s)):KExt K (K.set j (.obj q s')):=KExt.set hj λv pk h=>by cases pk<;>first|exact h|exact h.elim
theorem KOk.setObj {j:Nat} {q:Addr} {s s':σ} (hk:KOk K) (hj:K[j]? =some (.obj q s)):KOk (K.set j (.obj q s')):=hk.set hj (λv pk h=>by cases pk<;>first|exact h|exact h.elim) λ_ _ _ h=>by cases h
theorem SatK.objPt {w:World} {j l:Nat} {q:Addr} {s:σ} {x:Obj} (hS:SatK D E G w K) (hj:K[j]? =some (.obj q s)) (hd:D q s=pt l x):w.heap[l]? =some x:=
 Sat.pt hS (i:=j) (by rw [iV,hj];simp only [iX,den,hd])
theorem Fr.round2 {a:Act} {p1 p2:Nat} {v1 v2:Value} (hF:Fr n L K a) (hK:KExt K K') (hk:KOk K') (h1:p1<n) (h2:p2<n) (hne:p1≠p2) (hL:∀e∈L',e.g=none∧e.s≠p1∧e.s≠p2∧e∈L):
 Fr n (⟨p1,none,v1, .no⟩::⟨p2,none,v2, .no⟩::L') K' {tmps:=(a.tmps.setIfInBounds p1 v1).setIfInBounds p2 v2,defers:=[]}:=by
 refine ⟨hk,rfl,by simp [hF.size], λe he hg=>?_, λe he hg=>?_⟩
 ·simp only [iN] at he
  rcases he with rfl|rfl|he
  ·refine ⟨?_,pOk_no⟩
   rw [Array.getD_eq_getD_getElem?,Array.getElem?_setIfInBounds_ne (λh=>hne h.symm),Array.getElem?_setIfInBounds_self_of_lt (by rw [hF.size];exact h1)];rfl
  ·refine ⟨?_,pOk_no⟩
   rw [Array.getD_eq_getD_getElem?,Array.getElem?_setIfInBounds_self_of_lt (by simp only [Array.size_setIfInBounds];rw [hF.size];exact h2)];rfl
  ·obtain ⟨h3,h4,h5,h6⟩:=hL e he
   have:=(hF.ext hK hk).ents e h6 (by rw [h3];trivial)
   refine ⟨?_,this.2⟩
   rw [←this.1]
   rw [Array.getD_eq_getD_getElem?,Array.getD_eq_getD_getElem?,Array.getElem?_setIfInBounds_ne (λh=>h5 h.symm),Array.getElem?_setIfInBounds_ne (λh=>h4 h.symm)]
 ·exfalso
  apply hg
  simp only [iN] at he
  rcases he with rfl|rfl|he
  ·trivial
  ·trivial
  ·rw [(hL e he).1];trivial
theorem ycalls_sw {f:FuncId} {a:Act} {w:World} {p:List Nat} {p1 p2:Nat} {v1 v2:Value} {l Dm:Nat} (hF:Fr n L K a) (hK:KExt K K') (hk:KOk K') (h1:p1<n) (h2:p2<n) (hne:p1≠p2) (hL:∀e∈L',e.g=none∧e.s≠p1∧e.s≠p2∧e∈L)
 (hr:w.heap[l]? =some (.loop (recOf f a.tmps #[p1,p2] (Sl.sub B (0::p)) (Sl.sub B (1::p)) Dm .ready none))) (hS:SatK D E G w K')
 (H:SW D P ⟨f,some l,[]⟩ R B n E G [.code (0::p), .raw .beginRound, .code (1::p)] (⟨p1,none,v1, .no⟩::⟨p2,none,v2, .no⟩::L') K'):YCalls P l #[v1,v2] w R:=by
 refine ycalls_of hr rfl ?_
 have e:(#[p1,p2].zip #[v1,v2]).foldl (λ(t:Array Value) (p,v)=>t.setIfInBounds p v) a.tmps=(a.tmps.setIfInBounds p1 v1).setIfInBounds p2 v2:=by simp
 rw [e]
 exact H _ w (hF.round2 hK hk h1 h2 hne hL) hS
theorem SW.busy {f:Fq} {l j:Nat} {q:Addr} {s s':σ} {r:Loop} (hro:f.ro=some l) (hj:K[j]? =some (.obj q s)) (hd:D q s=pt l (.loop r)) (hr:r.state= .ready) (hd':D q s'=pt l (.loop {r with state:= .busy}))
 (H:SW D P f R B n E G td L (K.set j (.obj q s'))):SW D P f R B n E G (.raw .beginRound::td) L K:= λa w hF hS=>
 WT.round_busy hro (hS.objPt D hj hd) hr (H a _ (hF.ext (KExt.setObj hj) (hF.kok.setObj hj)) (hS.putObj D hj hd hd'))
theorem SW.on {f:Fq} {l j:Nat} {q:Addr} {s s':σ} {r:Loop} (hro:f.ro=some l) (hj:K[j]? =some (.obj q s)) (hd:D q s=pt l (.loop r)) (hd':D q s'=pt l (.loop {r with state:= .ready,pending:=none}))
 (H:∀w',KOk (K.set j (.obj q s'))→SatK D E G w' (K.set j (.obj q s'))→R (.returned (.bool true)) w'):SW D P f R B n E G [] L K:= λ_ _ hF hS=>
 WT.round_on hro (hS.objPt D hj hd) (H _ (hF.kok.setObj hj) (hS.putObj D hj hd hd'))
theorem SW.off {f:Fq} {l j:Nat} {q:Addr} {s s':σ} {r:Loop} {q0:List Nat} (hro:f.ro=some l) (hc:Sl.sub B q0= .ret) (hj:K[j]? =some (.obj q s)) (hd:D q s=pt l (.loop r)) (hd':D q s'=pt l (.loop {r with state:= .done,pending:=some .ret}))
 (H:∀w',KOk (K.set j (.obj q s'))→SatK D E G w' (K.set j (.obj q s'))→R (.returned (.bool false)) w'):SW D P f R B n E G (.code q0::td) L K:= λa w hF hS=>by
 show WT P f R (.code (Sl.sub B q0)::td.map (item B)) a w
 rw [hc]
 exact WT.round_off hro (hS.objPt D hj hd) (H _ (hF.kok.setObj hj) (hS.putObj D hj hd hd'))
theorem SW.rangeFunc {f:FuncId} {p:List Nat} {t gf:Nat} {ps:Array Tmp} {lb:Array Value} {pr:Pr} (hc:Sl.sub B p= .rangeFunc (.tmp t) ps (Sl.sub B (0::p)) (Sl.sub B (1::p))) (hL:(⟨t,none, .func (.func gf) #[] lb,pr⟩:Ent)∈L)
 (eg:∀args w,(callFunc gf args).run P w= .ok (.enter gf args) w)
 (H:∀a w,Fr n L K a→Sat E G (rfWorld w f a.tmps ps (Sl.sub B (0::p)) (Sl.sub B (1::p))) (K.map (den D G)++[pt w.heap.size (.deferred (some [])),pt (w.heap.size+1) (.loop (recOf f a.tmps ps (Sl.sub B (0::p)) (Sl.sub B (1::p)) w.heap.size .ready none))])→
   Calls P gf (#[.func (.yield (w.heap.size+1)) #[] #[]]++lb) (rfWorld w f a.tmps ps (Sl.sub B (0::p)) (Sl.sub B (1::p))) λe w3=>(∃v,e= .returned v)∧∃r w4,w3.heap[w.heap.size+1]? =some (.loop r)∧r.state≠ .busy∧w4=w3.putObj (w.heap.size+1) (.loop {r with state:= .exhausted})∧
    WT P ⟨f,none,[mark w.heap.size]⟩ R ((r.pending.map Item.code).toList++td.map (item B)) a w4):
 SW D P f R B n E G (.code p::td) L K:= λa w hF hS=>by
 show WT P (f:Fq) R (.code (Sl.sub B p)::td.map (item B)) a w
 rw [hc]
 have hv:=hF.ents _ hL trivial
 refine WT.rangeFunc (f:=(f:Fq)) rfl (lb:=lb) hv.1 eg ?_
 have h1:=Sat.alloc (Sat.alloc hS (.deferred (some []))) (.loop (recOf f a.tmps ps (Sl.sub B (0::p)) (Sl.sub B (1::p)) w.heap.size .ready none))
 rw [jJ] at h1
 have hsz:(w.alloc (.deferred (some []))).heap.size=w.heap.size+1:=by simp
 rw [hsz] at h1
 refine (H a w hF h1).mono λe w3 ⟨hv,r,w4,h2,h3,h4,h5⟩=>⟨hv,r.pending,w4,?_,h5⟩
 rw [h4]
 exact run_endLoop h2 h3
theorem SW.finish_mark {f:Fq} {fn:Func} {Dm j:Nat} {q:Addr} {s s':σ} {vs:List (Value×Pr)} (hro:f.ro=none) (hdf:f.df=[mark Dm]) (hfn:P.funcs[f.id]? =some fn) (ht:td.map (item B)=[]∨∃k,td.map (item B)= .code .ret::k)
 (hj:K[j]? =some (.obj q s)) (hd:D q s=pt Dm (.deferred (some []))) (hd':D q s'=pt Dm (.deferred none)) (hres:resVals P L (K.set j (.obj q s')) fn.results.toList=some vs)
 (H:∀w',SatK D E G w' (K.set j (.obj q s'))→R (.returned (match vs with|[v]=>v.1|vs=> .tuple (vs.map (·.1)).toArray)) w'):SW D P f R B n E G td L K:= λa w hF hS=>by
 have hS':=hS.putObj D hj hd hd'
 have hF':=hF.ext (KExt.setObj (s':=s') hj) (hF.kok.setObj hj)
 refine WT.finish_mark hro hdf hfn ht hF.defers (run_takeDeferred (hS.objPt D hj hd)) ?_ (H _ hS')
 ·have hrun:=(resVals_run D hF' hS' _ _ hres).1
  unfold results
  rw [Array.mapM_eq_mapM_toList]
  simp only [Sem.run_bind,Sem.run_map]
  erw [hrun]
  simp only [Result.andThen_ok,Sem.run_pure]
  match vs with
  |[]=>rfl
  |[v]=>rfl
  |_::_::_=>simp
theorem resVals_never {t:TypeId} (h:aggB P t=none) (L:List Ent) (K:List (Chunk σ)):resVals P L K [.cell 0 t]=none:=by
 have hc:∀cs off,cellsLoad P t cs off=none:= λcs off=>by unfold cellsLoad;rw [h]
 simp only [resVals]
 split
 ·split
  ·rw [hc]
  ·rfl
 ·rfl
theorem SatK.order {w:World} {Ks:List (Chunk σ)} (h:SatK D E G w K) (is:List Nat) (hn:nodupB is=true) (hg:Ks.map some=is.map (λj=>K[j]?)):SatK D E G w Ks:=by
 refine Sat.pick h is (nodupB_ok hn) λi B hi=> .inl ?_
 rw [iV] at hi
 cases hc:Ks[i]? with
 |none=>rw [hc] at hi;cases hi
 |some c=>
  rw [hc] at hi;injection hi with hi;subst hi
  have:=congrArg (λl=>l[i]?) hg
  simp only [iV,hc,iX] at this
  cases hj:is[i]? with
  |none=>rw [hj] at this;cases this
  |some j=>
   rw [hj] at this
   simp only [iX,iG] at this
   exact ⟨j,rfl,by rw [iV,←this];rfl⟩
theorem SatK.pack {w:World} {Ks K1:List (Chunk σ)} {c:Chunk σ} (h:SatK D E G w (Ks++K1)) (hc:den D G c=star (Ks.map (den D G))):SatK D E G w (c::K1):=by
 unfold SatK at h ⊢
 rw [jD] at h
 rw [iM,hc]
 exact Sat.star_append h
theorem SatK.unpack {w:World} {k:Nat} {k0:Chunk σ} {ks:List (Chunk σ)} {c:Chunk σ} (h:SatK D E G w K) (hk:K[k]? =some c) (hc:den D G c=star ((k0::ks).map (den D G))):SatK D E G w (K.set k k0++ks):=by
 unfold SatK at h ⊢
 obtain ⟨_,_,h1⟩:=Sat.openAt (α:=Unit) (p:= λ_=>True) (A0:= λ_=>den D G k0) (Bs:= λ_=>ks.map (den D G)) (k:=k) h (by
  rw [iV,hk]
  simp only [iX,iG,hc]
  funext Y h
  apply propext
  exact ⟨λx=>⟨(),trivial,x⟩, λ⟨_,_,x⟩=>x⟩)
 rw [jD,List.map_set]
 exact h1
end
end
section
open Go.RowKit
variable {σ:Type} (D:Addr→σ→Asn)
section
variable {P:Program} {R:Ending→World→Prop} {B:Code} {n:Nat} {E:Ev} {G:Hp} {td:List Ab} {L L':List Ent} {K K':List (Chunk σ)}
def reOk (L:List Ent) (K':List (Chunk σ)) (e:Ent):Prop:=e.g=none∧(∃p,(⟨e.s,none,e.v,p⟩:Ent)∈L)∧pOk K' e.v e.p
theorem Fr.re {a:Act} (hF:Fr n L K a) (hk:KOk K') (hL:∀e∈L',reOk L K' e):Fr n L' K' a:=by
 refine ⟨hk,hF.defers,hF.size, λe he _=>?_, λe he hg=>?_⟩
 ·obtain ⟨_,⟨p,hp⟩,h3⟩:=hL e he
  exact ⟨(hF.ents _ hp trivial).1,h3⟩
 ·exact absurd (by rw [(hL e he).1];trivial) hg
theorem SW.re {f:Fq} {α:Type} {Kf:α→List (Chunk σ)} (hS:∀w,SatK D E G w K→∃x,SatK D E G w (Kf x)) (hk:∀x,KOk (Kf x)) (hL:∀x,∀e∈L',reOk L (Kf x) e) (H:∀x,SW D P f R B n E G td L' (Kf x)):SW D P f R B n E G td L K:= λa w hF hw=>
 let ⟨x,hx⟩:=hS w hw
 H x a w (hF.re (hk x) (hL x)) hx
theorem SatK.ord {w:World} {Ks:List (Chunk σ)} (h:SatK D E G w K) (is:List Nat) (hn:nodupB is=true) (hg:Ks.map (λc=>some (den D G c))=is.map (λj=>K[j]?.map (den D G))):SatK D E G w Ks:=by
 refine Sat.pick h is (nodupB_ok hn) λi B hi=> .inl ?_
 have e:=congrArg (λl=>l[i]?) hg
 simp only [iV] at e hi
 cases hc:Ks[i]? with
 |none=>rw [hc] at hi;cases hi
 |some c=>
  rw [hc] at hi e
  simp only [iX,iG] at hi e
  subst hi
  cases hj:is[i]? with
  |none=>rw [hj] at e;cases e
  |some j=>
   rw [hj] at e
   simp only [iX,iG] at e
   exact ⟨j,rfl,by rw [iV];exact e.symm⟩
theorem SatK.packEx {w:World} {Ks K1:List (Chunk σ)} {c:Chunk σ} (h:SatK D E G w (Ks++K1)) (hc:∀Y k,Sl.star (Ks.map (den D G)) Y k→den D G c Y k):SatK D E G w (c::K1):=by
 unfold SatK at h ⊢
 rw [jD] at h
 have h1:=Sat.star_append h
 refine Sat.imp h1 λi B hi=>?_
 cases i with
 |zero=>simp only [iM,List.getElem?_cons_zero,iG] at hi;exact ⟨_,rfl, λY k hx=>by rw [←hi];exact hc Y k hx⟩
 |succ i=>exact ⟨B,by simpa using hi, λ_ _ hx=>hx⟩
theorem SatK.unpackEx {w:World} {α:Type} {k:Nat} {k0:α→Chunk σ} {ks:α→List (Chunk σ)} {c:Chunk σ} (h:SatK D E G w K) (hk:K[k]? =some c) (hc:den D G c= λY h=>∃x,Sl.star ((k0 x::ks x).map (den D G)) Y h):∃x,SatK D E G w (K.set k (k0 x)++ks x):=by
 unfold SatK at h
 obtain ⟨x,_,h1⟩:=Sat.openAt (α:=α) (p:= λ_=>True) (A0:= λx=>den D G (k0 x)) (Bs:= λx=>(ks x).map (den D G)) (k:=k) h (by
  rw [iV,hk]
  simp only [iX,iG,hc]
  funext Y h
  apply propext
  exact ⟨λ⟨x,hx⟩=>⟨x,trivial,hx⟩, λ⟨x,_,hx⟩=>⟨x,hx⟩⟩)
 refine ⟨x,?_⟩
 unfold SatK
 rw [jD,List.map_set]
 exact h1
theorem SatK.dup {w:World} {j:Nat} {a:Option Addr} {n cap:Nat} {xs:LI} (h:SatK D E G w K) (hj:K[j]? =some (.ro a n cap [.fz xs])):SatK D E G w (K++[.ro a n cap [.fz xs]]):=by
 obtain ⟨Z,hz,hw,h0⟩:=h
 refine ⟨Z,hz,hw,?_⟩
 have hA:∀k,upZ Z (den D G (.ro a n cap [.fz xs])) k:= λk Y hY=>by
  obtain ⟨_,_,o,_,h4⟩:=h0
  exact h4 j _ (map_get (map_get hj)) Y hY
 refine Sat0.pick h0 (List.range K.length) List.nodup_range λi B hi=>?_
 rw [jD,jD] at hi
 by_cases hl:i<K.length
 ·rw [iQ (by simpa using hl)] at hi
  exact .inl ⟨i,List.getElem?_range hl,hi⟩
 ·rw [iS (by simpa using hl)] at hi
  refine .inr λk=>?_
  cases hk:i-((K.map (den D G)).map (upZ Z)).length with
  |zero=>rw [hk] at hi;simp only [iM,List.map_nil,List.getElem?_cons_zero,iG] at hi;rw [←hi];exact hA k
  |succ m=>rw [hk] at hi;simp at hi
theorem holdsE {t:Tree σ} {R':Value→Pr→List (Chunk σ)→Prop} {S S':List Ab→List Ent→List (Chunk σ)→Prop} {X:Prop} (he:t.holds R' S'=X) (hS:∀td L K,S' td L K→S td L K) (hX:X):t.holds R' S:=
 Tree.holds_imp (λ_ _ _ h=>h) hS (he.mpr hX)
theorem ycalls_re {f:FuncId} {a:Act} {w:World} {p:List Nat} {p1 p2:Nat} {v1 v2:Value} {l Dm:Nat} (hF:Fr n L K a) (hk:KOk K') (h1:p1<n) (h2:p2<n) (hne:p1≠p2) (hL:∀e∈L',e.s≠p1∧e.s≠p2∧reOk L K' e)
 (hr:w.heap[l]? =some (.loop (recOf f a.tmps #[p1,p2] (Sl.sub B (0::p)) (Sl.sub B (1::p)) Dm .ready none))) (hS:SatK D E G w K')
 (H:SW D P ⟨f,some l,[]⟩ R B n E G [.code (0::p), .raw .beginRound, .code (1::p)] (⟨p1,none,v1, .no⟩::⟨p2,none,v2, .no⟩::L') K'):YCalls P l #[v1,v2] w R:=
 ycalls_sw D (hF.re hk λe he=>(hL e he).2.2) (KExt.refl K') hk h1 h2 hne (λe he=>⟨(hL e he).2.2.1,(hL e he).1,(hL e he).2.1,he⟩) hr hS H
end
end
end Go.Sl
namespace Go.Proofs.YtjfabjhlkpgckaaGreat
section
open Go Go.Sl
abbrev LL:=List (LI)
abbrev Bf:=LL→Int→Int→LL
def bwJ (xs:LI) (i x:Int):Prop:=0≤i∧i<xs.length∧x=xs.getD i.toNat 0
def bwK (A:LL→Asn) (ra:Option Addr) (rc:Nat) (xs:LI) (q2:Addr) (bb:Nat) (st:LL):List (Chunk Sg):=[.ro ra xs.length rc [.fz xs], .obj q2 (.any A st), .cells bb 42 [(.slice ra xs.length rc, .pt 0 .slice)]]
def bwN (A:LL→Asn) (ra:Option Addr) (rc:Nat) (xs:LI) (q2:Addr) (bb l:Nat) (I:LL→Prop) (v0 v1 v2:Value) (i x:Int) (K:List (Chunk Sg)) (st:LL):Prop:=
 v0= .func (.yield l) #[] #[]∧v1= .int .i64 i∧v2= .int .i64 x∧K=bwK A ra rc xs q2 bb st∧I st∧bwJ xs i x
def bHook (A:LL→Asn) (ra:Option Addr) (rc:Nat) (xs:LI) (q2:Addr) (bb l:Nat) (I:LL→Prop) (yf:Bf):List (Value×Pr)→List (Chunk Sg)→Option (Tree Sg)
 |[(v0,_),(.int k1 i,_),(.int k2 x,_)], .ro a' n' c' cs':: .obj q3 (.any A' st)::K=>some (.need (bwN A ra rc xs q2 bb l I v0 (.int k1 i) (.int k2 x) i x (.ro a' n' c' cs':: .obj q3 (.any A' st)::K) st) (.bind (yf st i x) λr=> .ret (.bool true) .no (.ro a' n' c' cs':: .obj q3 (.any A' r)::K)))
 |_,_=>none
def BOk (E:Ev) (G:Hp) (A:LL→Asn) (ra:Option Addr) (rc:Nat) (xs:LI) (q2:Addr) (bb l:Nat) (I:LL→Prop) (yf:Bf):Prop:=
 ∀st i x,I st→bwJ xs i x→∀w,SatK Dg E G w (bwK A ra rc xs q2 bb st)→YCalls Tryz.prog l #[.int .i64 i, .int .i64 x] w λen w'=>en= .returned (.bool true)∧SatK Dg E G w' (bwK A ra rc xs q2 bb (yf st i x))
theorem bw_kok {A:LL→Asn} {ra:Option Addr} {rc:Nat} {xs:LI} {q2:Addr} {bb:Nat} (st:LL):KOk (bwK A ra rc xs q2 bb st):=by
 intro k b t cs hk
 match k,hk with
 |2,hk=>
  simp only [bwK,List.getElem?_cons_succ,List.getElem?_cons_zero,iG,Chunk.cells.injEq] at hk
  obtain ⟨rfl,rfl,rfl⟩:=hk
  intro x hx
  simp only [iN,List.not_mem_nil,or_false] at hx
  subst hx
  exact (pOk_pt).2 ⟨_,rfl,rfl⟩
 |0,hk=>cases hk
 |1,hk=>cases hk
 |k+3,hk=>cases hk
theorem bHook_ok {E:Ev} {G:Hp} {A:LL→Asn} {ra:Option Addr} {rc:Nat} {xs:LI} {q2:Addr} {bb l:Nat} {I:LL→Prop} {yf:Bf} (h:BOk E G A ra rc xs q2 bb l I yf):HookOk Dg Tryz.prog (bHook A ra rc xs q2 bb l I yf) E G:=by
 intro args prs K t ht w hps hk hS Q hQ l' av hav
 have hz:=(zip_pOk hps).2
 generalize hzz:List.zip args prs=z at ht hz
 unfold bHook at ht
 split at ht
 ·rename_i v0 p0 k1 i p1 k2 x p2 a' n' c' cs' q3 A' st K0
  injection ht with ht;subst ht
  obtain ⟨⟨h0,h1,h2,h3,h4,h5⟩,hb⟩:=hQ
  have hq:=hb ⟨h0,h1,h2,h3,h4,h5⟩ _ rfl
  simp only [iM,List.map_nil] at hz
  subst hz
  injection h1 with h1;subst h1
  injection h2 with h2;subst h2
  subst h0
  rw [bwK,jQ,jQ] at h3
  obtain ⟨e1,e2,e3⟩:=h3
  injection e1 with e1 e5 e6 e7;subst e1;subst e5;subst e6;subst e7
  injection e2 with e2 e4;subst e2
  injection e4 with e4 _;subst e4
  subst e3
  have ha:l'=l∧av= #[.int .i64 i, .int .i64 x]:=by
   have:=congrArg Array.toList hav
   simp only [Array.toList_append,jM,List.nil_append,jQ] at this
   obtain ⟨e5,e6⟩:=this
   injection e5 with e5 _ _
   injection e5 with e5
   exact ⟨e5.symm,by apply Array.toList_inj.1;exact e6.symm⟩
  obtain ⟨rfl,rfl⟩:=ha
  obtain ⟨fn,tmps,assign,body,g1,g2⟩:=h st i x h4 h5 w hS
  refine ⟨fn,tmps,assign,body,g1, λcs hcs=>?_⟩
  obtain ⟨e,w',S,⟨g3,g4⟩,g5⟩:=g2 cs hcs
  refine ⟨e,w',S,⟨_,_,_,g3,hq,?_,bw_kok _,pOk_no,g4⟩,g5⟩
  exact KExt.setObj (K:=bwK A' a' c' xs q3 bb st) (j:=1) (q:=q3) (s:= .any A' st) (s':= .any A' (yf st i x)) rfl
 ·cases ht
def bwF (yf:Bf) (xs:LI):Nat→LL→LL
 |0,st=>st
 |k+1,st=>bwF yf xs k (yf st (k:Int) (xs.getD k 0))
def bwL (l bb:Nat) (i:Int):List Ent:=[⟨3,none, .int .i64 i, .no⟩,⟨0,none, .func (.yield l) #[] #[], .no⟩,⟨1,none, .pointer (some ⟨bb,0,none⟩), .pt 2 (.cell 0)⟩]
section
variable {yf:Bf} {A:LL→Asn} {ra:Option Addr} {rc:Nat} {xs:LI} {q2:Addr} {bb l:Nat} {E:Ev} {G:Hp} {I:LL→Prop}
abbrev bwFn:FuncId:=120
theorem bw_tree (R':Value→Pr→List (Chunk Sg)→Prop) (S0:List Ab→Option Ent→Option Ent→Option Ent→List (Chunk Sg)→Prop) (st:LL) (i:Int):
 (runY Tryz.prog T_nil (bHook A ra rc xs q2 bb l I yf) [2999998,2999996] 60 (bodyOf Tryz.f120) Tryz.f120.results.toList Tryz.f120.ntmps [.code [0,0,1], .again [0,1], .blk 0] (bwL l bb i) (bwK A ra rc xs q2 bb st)).holds R' (λtd L K=>S0 td (Sl.look L 3) (Sl.look L 0) (Sl.look L 1) K)=
 ((decide (i≥0)=true→aw_ (0≤i∧i<(xs.length:Int)) (aw_ (bwN A ra rc xs q2 bb l I (.func (.yield l) #[] #[]) (.int .i64 i) (.int .i64 (xs.getD i.toNat 0)) i (xs.getD i.toNat 0) (bwK A ra rc xs q2 bb st) st)
   (∀a2,a2=yf st i (xs.getD i.toNat 0)→((!true)=true→R' (.tuple #[]) .no (bwK A ra rc xs q2 bb a2))∧((!true)=false→S0 [.again [0,1], .blk 0] (some ⟨3,none, .int .i64 (IntKind.i64.wrap (i-1)), .no⟩) (some ⟨0,none, .func (.yield l) #[] #[], .no⟩) (some ⟨1,none, .pointer (some ⟨bb,0,none⟩), .pt 2 (.cell 0)⟩) (bwK A ra rc xs q2 bb a2)))))∧
  (decide (i≥0)=false→R' (.tuple #[]) .no (bwK A ra rc xs q2 bb st))):=by
 kernel_rfl
theorem bw_begin (R':Value→Pr→List (Chunk Sg)→Prop) (S0:List Ab→Option Ent→Option Ent→Option Ent→List (Chunk Sg)→Prop) (st:LL):
 (runY Tryz.prog T_nil (bHook A ra rc xs q2 bb l I yf) [2999998,2999996] 60 (bodyOf Tryz.f120) Tryz.f120.results.toList Tryz.f120.ntmps [.code []] (argEnts 0 [(.func (.yield l) #[] #[], .no),(.pointer (some ⟨bb,0,none⟩), .pt 2 (.cell 0))]) (bwK A ra rc xs q2 bb st)).holds R' (λtd L K=>S0 td (Sl.look L 3) (Sl.look L 0) (Sl.look L 1) K)=
 S0 [.code [0,1], .blk 0] (some ⟨3,none, .int .i64 (IntKind.i64.wrap ((xs.length:Int)-1)), .no⟩) (some ⟨0,none, .func (.yield l) #[] #[], .no⟩) (some ⟨1,none, .pointer (some ⟨bb,0,none⟩), .pt 2 (.cell 0)⟩) (bwK A ra rc xs q2 bb st):=by
 kernel_rfl
theorem bw_sw (hY:BOk E G A ra rc xs q2 bb l I yf) (hI:∀st i x,I st→bwJ xs i x→I (yf st i x)) (hn:xs.length≤9223372036854775807) {R:Ending→World→Prop}:∀(k:Nat) (i:Int) (st:LL),i=(k:Int)-1→k≤xs.length→I st→
 (∀v w',SatK Dg E G w' (bwK A ra rc xs q2 bb (bwF yf xs k st))→R (.returned v) w')→
 SW Dg Tryz.prog bwFn R (bodyOf Tryz.f120) Tryz.f120.ntmps E G [.code [0,0,1], .again [0,1], .blk 0] (bwL l bb i) (bwK A ra rc xs q2 bb st):=by
 intro k
 induction k with
 |zero=>
  intro i st hi hk hI0 hR
  have hi':decide (i≥0)=false:=by simp only [decide_eq_false_iff_not];omega
  refine runY_sound Dg T_nil_ok (Y:=bHook A ra rc xs q2 bb l I yf) (I:=[2999998,2999996]) mix 60 (f:=bwFn) (bHook_ok hY) (.inl ⟨rfl,Tryz.f120,Tryz.func120,rfl⟩) (Q:= λ_=>True) (λ_ _ _ _=>trivial)
   (R':= λv p K=>K=bwK A ra rc xs q2 bb st) (λv p K w h _ _ _ hS=>hR v w (by rw [h] at hS;exact hS)) _ _ _ trivial ?_
  refine Tree.holds_imp (λ_ _ _ h=>h) (λtd L K (h:False)=>h.elim) ((bw_tree (yf:=yf) (A:=A) (ra:=ra) (rc:=rc) (xs:=xs) (q2:=q2) (bb:=bb) (l:=l) (I:=I) (λv p K=>K=bwK A ra rc xs q2 bb st) (λ_ _ _ _ _=>False) st i).mpr ⟨λh=>?_, λ_=>rfl⟩)
  rw [hi'] at h;cases h
 |succ k ih=>
  intro i st hi hk hI0 hR
  have hi:i=(k:Int):=by omega
  subst hi
  refine runY_sound Dg T_nil_ok (Y:=bHook A ra rc xs q2 bb l I yf) (I:=[2999998,2999996]) mix 60 (f:=bwFn) (bHook_ok hY) (.inl ⟨rfl,Tryz.f120,Tryz.func120,rfl⟩) (Q:= λ_=>True) (λ_ _ _ _=>trivial)
   (R':= λv p K=>K=bwK A ra rc xs q2 bb (bwF yf xs (k+1) st)) (λv p K w h _ _ _ hS=>hR v w (by rw [h] at hS;exact hS)) _ _ _ trivial ?_
  refine Tree.holds_imp (λ_ _ _ h=>h) (λtd L K h=>?_) ((bw_tree (yf:=yf) (A:=A) (ra:=ra) (rc:=rc) (xs:=xs) (q2:=q2) (bb:=bb) (l:=l) (I:=I) (λv p K=>K=bwK A ra rc xs q2 bb (bwF yf xs (k+1) st))
   (λtd e3 e0 e1 K=>∃j st',td=[.again [0,1], .blk 0]∧e3=some ⟨3,none, .int .i64 j, .no⟩∧e0=some ⟨0,none, .func (.yield l) #[] #[], .no⟩∧e1=some ⟨1,none, .pointer (some ⟨bb,0,none⟩), .pt 2 (.cell 0)⟩∧K=bwK A ra rc xs q2 bb st'∧
     SW Dg Tryz.prog bwFn R (bodyOf Tryz.f120) Tryz.f120.ntmps E G [.code [0,0,1], .again [0,1], .blk 0] (bwL l bb j) (bwK A ra rc xs q2 bb st')) st (k:Int)).mpr ?_)
  ·obtain ⟨j,st',rfl,e3,e0,e1,rfl,hsw⟩:=h
   refine SW.sub Dg (SW.again Dg hsw) λe he=>?_
   simp only [bwL,iN,List.not_mem_nil,or_false] at he
   rcases he with rfl|rfl|rfl
   ·exact (look_mem e3).1
   ·exact (look_mem e0).1
   ·exact (look_mem e1).1
  ·have hJ:bwJ xs (k:Int) (xs.getD k 0):=⟨by omega,by omega,by rw [jP]⟩
   refine ⟨λ_=>⟨by omega, λ_=>⟨⟨rfl,rfl,rfl,rfl,hI0,by rw [jP];exact hJ⟩, λ_ a2 ha2=>?_⟩⟩, λh=>by simp only [decide_eq_false_iff_not] at h;omega⟩
   rw [jP] at ha2
   subst ha2
   rw [w64 (n:=(k:Int)-1) (by omega)]
   exact ⟨λh=>(by cases h), λ_=>⟨(k:Int)-1,_,rfl,rfl,rfl,rfl,rfl,ih ((k:Int)-1) _ (by omega) (by omega) (hI _ _ _ hI0 hJ) λv w' hS=>hR v w' hS⟩⟩
set_option maxRecDepth 100000 in
theorem bw_calls (hY:BOk E G A ra rc xs q2 bb l I yf) (hI:∀st i x,I st→bwJ xs i x→I (yf st i x)) (hn:xs.length≤9223372036854775807) {R:Ending→World→Prop} {w:World} {st:LL} (hS:SatK Dg E G w (bwK A ra rc xs q2 bb st)) (hI0:I st)
 (hR:∀v w',SatK Dg E G w' (bwK A ra rc xs q2 bb (bwF yf xs xs.length st))→R (.returned v) w'):
 Calls Tryz.prog 120 #[.func (.yield l) #[] #[], .pointer (some ⟨bb,0,none⟩)] w R:=by
 refine calls_of_WT Tryz.func120 (c:=bodyOf Tryz.f120) (by kernel_rfl) ?_
 have hgo:=runY_sound Dg T_nil_ok (Y:=bHook A ra rc xs q2 bb l I yf) (I:=[2999998,2999996]) mix 60 (f:=bwFn) (rs:=Tryz.f120.results.toList) (B:=bodyOf Tryz.f120) (R:=R) (n:=Tryz.f120.ntmps) (E:=E) (G:=G) (bHook_ok hY) (.inl ⟨rfl,Tryz.f120,Tryz.func120,rfl⟩) (Q:= λ_=>True) (λ_ _ _ _=>trivial)
  (R':= λ_ _ _=>False) (λ_ _ _ _ h=>h.elim) [.code []] (argEnts 0 [(.func (.yield l) #[] #[], .no),(.pointer (some ⟨bb,0,none⟩), .pt 2 (.cell 0))]) (bwK A ra rc xs q2 bb st) trivial ?_
 ·exact hgo _ w (Fr.start (n:=Tryz.f120.ntmps) [(.func (.yield l) #[] #[], .no),(.pointer (some ⟨bb,0,none⟩), .pt 2 (.cell 0))] (iW (by kernel_rfl)) (λx hx=>by
   simp only [iN,List.not_mem_nil,or_false] at hx
   rcases hx with rfl|rfl
   ·exact pOk_no
   ·exact (pOk_pt).2 ⟨_,rfl,rfl⟩) (bw_kok st)) hS
 ·refine Tree.holds_imp (λ_ _ _ h=>h) (λtd L K h=>?_) ((bw_begin (yf:=yf) (A:=A) (ra:=ra) (rc:=rc) (xs:=xs) (q2:=q2) (bb:=bb) (l:=l) (I:=I) (λ_ _ _=>False)
   (λtd e3 e0 e1 K=>td=[.code [0,1], .blk 0]∧e3=some ⟨3,none, .int .i64 (IntKind.i64.wrap ((xs.length:Int)-1)), .no⟩∧e0=some ⟨0,none, .func (.yield l) #[] #[], .no⟩∧e1=some ⟨1,none, .pointer (some ⟨bb,0,none⟩), .pt 2 (.cell 0)⟩∧K=bwK A ra rc xs q2 bb st) st).mpr ⟨rfl,rfl,rfl,rfl,rfl⟩)
  obtain ⟨rfl,e3,e0,e1,rfl⟩:=h
  rw [w64 (n:=(xs.length:Int)-1) (by omega)] at e3
  refine SW.sub Dg (L':=bwL l bb ((xs.length:Int)-1)) (SW.enter Dg (by kernel_rfl) ?_) λe he=>?_
  ·exact bw_sw hY hI hn xs.length _ st rfl (Nat.le_refl _) hI0 hR
  ·simp only [bwL,iN,List.not_mem_nil,or_false] at he
   rcases he with rfl|rfl|rfl
   ·exact (look_mem e3).1
   ·exact (look_mem e0).1
   ·exact (look_mem e1).1
end
end
section
open Go Go.Sl
def ptC (b:Nat) (x:Obj):Chunk Sg:= .obj ⟨0,0,none⟩ (.any (λ_=>pt b x) [])
abbrev kb (ra:Option Addr) (rc:Nat) (xs:LI) (bb Dm l:Nat) (o1 o2:Obj) (bs:List (Chunk Sg)):List (Chunk Sg):= .ro ra xs.length rc [.fz xs]:: .cells bb 42 [(.slice ra xs.length rc, .pt 0 .slice)]::ptC Dm o1::ptC l o2::bs
theorem bw_enters (args:Array Value) (w:World):(callFunc 120 args).run Tryz.prog w= .ok (.enter 120 args) w:=
 callable_run (by kernel_rfl) args w
theorem never:aggB Tryz.prog 1000000=none:=by kernel_rfl
theorem pieceE {T:Tb} (hT:TOk T) {I:List Nat} (hI:rounds I=true) {f:Fq} {R:Ending→World→Prop} {B:Code} {n:Nat} {E:Ev} {G:Hp} {td:List Ab} {L:List Ent} {K:List (Chunk Sg)} {fuel:Nat} {S':List Ab→List Ent→List (Chunk Sg)→Prop} {X:Prop}
 (he:(run Tryz.prog T I fuel B [.cell 0 1000000] n td L K).holds (λ_ _ _=>False) S'=X) (hS:∀td L K,S' td L K→SW Dg Tryz.prog f R B n E G td L K) (hX:X):SW Dg Tryz.prog f R B n E G td L K:=
 run_sound Dg hT mix fuel (.inr ⟨hI,resVals_never never⟩) (Q:= λ_=>True) (λ_ _ _ _=>trivial) (R':= λ_ _ _=>False) (λ_ _ _ _ h=>h.elim) _ _ _ trivial (Tree.holds_imp (λ_ _ _ h=>h) hS (he.mpr hX))
theorem pieceF {T:Tb} (hT:TOk T) {I:List Nat} {f:FuncId} {fn:Func} (hfn:Tryz.prog.funcs[f]? =some fn) {R:Ending→World→Prop} {B:Code} {E:Ev} {G:Hp} {td:List Ab} {L:List Ent} {K:List (Chunk Sg)} {fuel:Nat} {R':Value→Pr→List (Chunk Sg)→Prop} {S':List Ab→List Ent→List (Chunk Sg)→Prop} {X:Prop}
 (he:(run Tryz.prog T I fuel B fn.results.toList fn.ntmps td L K).holds R' S'=X) (hR:∀v p K w,R' v p K→SatK Dg E G w K→R (.returned v) w) (hS:∀td L K,S' td L K→SW Dg Tryz.prog f R B fn.ntmps E G td L K) (hX:X):SW Dg Tryz.prog f R B fn.ntmps E G td L K:=
 run_sound Dg hT mix fuel (f:=(f:Fq)) (.inl ⟨rfl,fn,hfn,rfl⟩) (Q:= λ_=>True) (λ_ _ _ _=>trivial) (R':=R') (λv p K w h _ _ _ hS=>hR v p K w h hS) _ _ _ trivial (Tree.holds_imp (λ_ _ _ h=>h) hS (he.mpr hX))
theorem bw_range {f:FuncId} {R:Ending→World→Prop} {B:Code} {n:Nat} {E:Ev} {G:Hp} {p:List Nat} {t p1 p2:Nat} {td:List Ab} {L L':List Ent} {pr:Pr} {ra:Option Addr} {rc:Nat} {xs:LI} {bb:Nat} {yf:Bf} {α:Type} {bx:LL→α→List (Chunk Sg)} {I:LL→Prop} {st0:LL} {x0:α} {bs:List (Chunk Sg)} {isP isU isB:List Nat}
 (hc:Sl.sub B p= .rangeFunc (.tmp t) #[p1,p2] (Sl.sub B (0::p)) (Sl.sub B (1::p))) (hL:(⟨t,none, .func (.func 120) #[] #[.pointer (some ⟨bb,0,none⟩)],pr⟩:Ent)∈L)
 (h1:p1<n) (h2:p2<n) (hne:p1≠p2) (hn:xs.length≤9223372036854775807) (hI0:I st0) (hI:∀st i x,I st→bwJ xs i x→I (yf st i x))
 (nB:nodupB isB=true) (hB:∀Dm l o1 o2,(kb ra rc xs bb Dm l o1 o2 (bx st0 x0)).map (λc=>some (den Dg G c))=isB.map λj=>(((Chunk.ro ra xs.length rc [.fz xs]:: .cells bb 42 [(.slice ra xs.length rc, .pt 0 .slice)]::bs)++[ptC Dm o1,ptC l o2])[j]?).map (den Dg G))
 (hL':∀st x Dm l o1 o2,∀e∈L',e.s≠p1∧e.s≠p2∧reOk L (kb ra rc xs bb Dm l o1 o2 (bx st x)) e) (hk:∀st x Dm l o1 o2,KOk (kb ra rc xs bb Dm l o1 o2 (bx st x)))
 (nP:nodupB isP=true) (hP:∀st x Dm l o1 o2,((ptC Dm o1::ptC l o2::bx st x)++[Chunk.ro ra xs.length rc [.fz xs], .cells bb 42 [(.slice ra xs.length rc, .pt 0 .slice)]]).map some=isP.map λj=>(kb ra rc xs bb Dm l o1 o2 (bx st x))[j]?)
 (nU:nodupB isU=true) (hU:∀st x Dm l o1 o2,(kb ra rc xs bb Dm l o1 o2 (bx st x)).map some=isU.map λj=>([Chunk.ro ra xs.length rc [.fz xs],ptC Dm o1, .cells bb 42 [(.slice ra xs.length rc, .pt 0 .slice)]]++(ptC l o2::bx st x))[j]?)
 (hround:∀(tmps:Array Value) Dm l st x i v,I st→bwJ xs i v→∀Rr:Ending→World→Prop,(∀w' x',SatK Dg E G w' (kb ra rc xs bb Dm l (.deferred (some [])) (.loop (recOf f tmps #[p1,p2] (Sl.sub B (0::p)) (Sl.sub B (1::p)) Dm .ready none)) (bx (yf st i v) x'))→Rr (.returned (.bool true)) w')→
   SW Dg Tryz.prog ⟨f,some l,[]⟩ Rr B n E G [.code (0::p), .raw .beginRound, .code (1::p)] (⟨p1,none, .int .i64 i, .no⟩::⟨p2,none, .int .i64 v, .no⟩::L') (kb ra rc xs bb Dm l (.deferred (some [])) (.loop (recOf f tmps #[p1,p2] (Sl.sub B (0::p)) (Sl.sub B (1::p)) Dm .ready none)) (bx st x)))
 (hafter:∀Dm l x o2,SW Dg Tryz.prog ⟨f,none,[Sl.mark Dm]⟩ R B n E G td L' (kb ra rc xs bb Dm l (.deferred (some [])) o2 (bx (bwF yf xs xs.length st0) x))):
 SW Dg Tryz.prog f R B n E G (.code p::td) L (.ro ra xs.length rc [.fz xs]:: .cells bb 42 [(.slice ra xs.length rc, .pt 0 .slice)]::bs):=by
 refine SW.rangeFunc Dg hc hL bw_enters λa w hF hS=>?_
 generalize hDm:w.heap.size=Dm at hS ⊢
 generalize hl:Dm+1=l at hS ⊢
 generalize rfWorld w f a.tmps #[p1,p2] (Sl.sub B (0::p)) (Sl.sub B (1::p))=w1 at hS ⊢
 let rc0:Obj:= .loop (recOf f a.tmps #[p1,p2] (Sl.sub B (0::p)) (Sl.sub B (1::p)) Dm .ready none)
 let A:LL→Asn:= λst Y h=>∃x,Sl.star ((ptC Dm (.deferred (some []))::ptC l rc0::bx st x).map (den Dg G)) Y h
 have pack:∀w st x,SatK Dg E G w (kb ra rc xs bb Dm l (.deferred (some [])) rc0 (bx st x))→SatK Dg E G w (bwK A ra rc xs ⟨0,0,none⟩ bb st):= λw st x h=>
  SatK.order Dg (SatK.packEx Dg (c:= .obj ⟨0,0,none⟩ (.any A st)) (h.order Dg isP nP (hP st x Dm l _ _)) λY k hx=>⟨x,hx⟩) [1,0,2] rfl rfl
 have unpack:∀w st,SatK Dg E G w (bwK A ra rc xs ⟨0,0,none⟩ bb st)→∃x,SatK Dg E G w (kb ra rc xs bb Dm l (.deferred (some [])) rc0 (bx st x)):= λw st h=>by
  obtain ⟨x,hx⟩:=SatK.unpackEx Dg (k0:= λ_=>ptC Dm (.deferred (some []))) (ks:= λx=>ptC l rc0::bx st x) h (k:=1) (c:= .obj ⟨0,0,none⟩ (.any A st)) rfl rfl
  exact ⟨x,SatK.order Dg hx isU nU (hU st x Dm l _ _)⟩
 have recAt:∀w st x,SatK Dg E G w (kb ra rc xs bb Dm l (.deferred (some [])) rc0 (bx st x))→w.heap[l]? =some rc0:= λw st x h=>
  SatK.objPt Dg (q:=⟨0,0,none⟩) (s:= .any (λ_=>pt l rc0) []) h (j:=3) rfl rfl
 have hY:BOk E G A ra rc xs ⟨0,0,none⟩ bb l I yf:=by
  intro st i v hst hJ w2 hS2
  obtain ⟨x,h3⟩:=unpack _ _ hS2
  have h4:=recAt _ _ _ h3
  refine ycalls_re Dg (L':=L') (p:=p) (Dm:=Dm) (f:=f) (v1:= .int .i64 i) (v2:= .int .i64 v) hF (hk st x Dm l _ _) h1 h2 hne (hL' st x Dm l _ _) h4 h3 ?_
  exact hround a.tmps Dm l st x i v hst hJ _ λw' x' h5=>⟨rfl,pack _ _ x' h5⟩
 have hS1:SatK Dg E G w1 (kb ra rc xs bb Dm l (.deferred (some [])) rc0 (bx st0 x0)):=by
  refine SatK.ord Dg (K:=(Chunk.ro ra xs.length rc [.fz xs]:: .cells bb 42 [(.slice ra xs.length rc, .pt 0 .slice)]::bs)++[ptC Dm (.deferred (some [])),ptC l rc0]) ?_ isB nB (hB Dm l _ _)
  unfold SatK
  rw [jD]
  exact hS
 have hq:=bw_calls (bb:=bb) hY hI hn (pack _ _ _ hS1) hI0 (R:= λe w3=>(∃v,e= .returned v)∧SatK Dg E G w3 (bwK A ra rc xs ⟨0,0,none⟩ bb (bwF yf xs xs.length st0))) λv w' h=>⟨⟨v,rfl⟩,h⟩
 refine hq.mono λe w3 ⟨hv,h6⟩=>⟨hv,?_⟩
 obtain ⟨x,h7⟩:=unpack _ _ h6
 have h8:=recAt _ _ _ h7
 refine ⟨_,_,h8,(λh=>by simp [recOf] at h),rfl,?_⟩
 have h9:=SatK.putObj Dg (q:=⟨0,0,none⟩) (s:= .any (λ_=>pt l rc0) []) (l:=l) (x:=rc0) (y:= .loop {recOf f a.tmps #[p1,p2] (Sl.sub B (0::p)) (Sl.sub B (1::p)) Dm .ready none with state:= .exhausted}) (s':= .any (λ_=>pt l (.loop {recOf f a.tmps #[p1,p2] (Sl.sub B (0::p)) (Sl.sub B (1::p)) Dm .ready none with state:= .exhausted})) []) h7 (j:=3) rfl rfl rfl
 exact hafter Dm l x (.loop {recOf f a.tmps #[p1,p2] (Sl.sub B (0::p)) (Sl.sub B (1::p)) Dm .ready none with state:= .exhausted}) a _ (hF.re (hk _ x Dm l _ _) λe he=>(hL' _ x Dm l _ _ e he).2.2) h9
end
section
open Go Go.Sl
abbrev Ad9:=Nat→Option Addr×Nat
def gL (pk:LL) (i:Nat):LI:=pk.getD i []
def hC (pv:Addr) (v o:Nat) (t p h:Int) (pk:LL) (ad:Ad9):List (Value×Pr):=[(.pointer (some pv), .pt v .obj),(.int .i64 t, .no),(.int .i64 p, .no),(.int .i64 h, .no),
 (.slice (ad 0).1 (gL pk 0).length (ad 0).2, .pt o .slice),(.slice (ad 1).1 (gL pk 1).length (ad 1).2, .pt (o+1) .slice),(.slice (ad 2).1 (gL pk 2).length (ad 2).2, .pt (o+2) .slice),
 (.slice (ad 3).1 (gL pk 3).length (ad 3).2, .pt (o+3) .slice),(.slice (ad 4).1 (gL pk 4).length (ad 4).2, .pt (o+4) .slice),(.slice (ad 5).1 (gL pk 5).length (ad 5).2, .pt (o+5) .slice),
 (.slice (ad 6).1 (gL pk 6).length (ad 6).2, .pt (o+6) .slice),(.slice (ad 7).1 (gL pk 7).length (ad 7).2, .pt (o+7) .slice),(.slice (ad 8).1 (gL pk 8).length (ad 8).2, .pt (o+8) .slice)]
def ro9 (pk:LL) (ad:Ad9):List (Chunk Sg):=[.ro (ad 0).1 (gL pk 0).length (ad 0).2 [.fz (gL pk 0)], .ro (ad 1).1 (gL pk 1).length (ad 1).2 [.fz (gL pk 1)], .ro (ad 2).1 (gL pk 2).length (ad 2).2 [.fz (gL pk 2)],
 .ro (ad 3).1 (gL pk 3).length (ad 3).2 [.fz (gL pk 3)], .ro (ad 4).1 (gL pk 4).length (ad 4).2 [.fz (gL pk 4)], .ro (ad 5).1 (gL pk 5).length (ad 5).2 [.fz (gL pk 5)],
 .ro (ad 6).1 (gL pk 6).length (ad 6).2 [.fz (gL pk 6)], .ro (ad 7).1 (gL pk 7).length (ad 7).2 [.fz (gL pk 7)], .ro (ad 8).1 (gL pk 8).length (ad 8).2 [.fz (gL pk 8)]]
def hK (pv:Addr) (hb:Nat) (s:VS) (t p h:Int) (pk:LL) (ad:Ad9):List (Chunk Sg):= .obj pv (.view s):: .cells hb 73 (hC pv 0 2 t p h pk ad)::ro9 pk ad
abbrev fillI:List Nat:=[2999998,stopC [0,0,1,1,1] 0]
abbrev JL:=(Value.tuple {toList:=[iZ iB (0:Int),iZ iB (0:Int),Value.bool false]})
abbrev JM (pv:Addr) (r3:VS×Int×LI×Bool) (s:VS) (hb:Nat) (t p h:Int) (ad:Ad9) (pk:LL) (b0_0 b1_0:Nat) (k:Int) (b2_0:Nat) (b5_0:Option Nat) (b5_1:Nat):List (Chunk Sg):=[Chunk.obj pv (Option.getD (some (Wr.inj wView r3.1)) (Sg.view s)),Chunk.cells hb (73:Nat) [(iT (some pv),Pr.pt (0:Nat) PK.obj),(iZ iB t,Pr.no),(iZ iB p,Pr.no),(iZ iB h,Pr.no),(iD (iF (ad (0:Nat))) (iC (gL pk (0:Nat))) (iH (ad (0:Nat))),Pr.pt (2:Nat) PK.slice),(iD (iF (ad (1:Nat))) (iC (gL pk (1:Nat))) (iH (ad (1:Nat))),Pr.pt (3:Nat) PK.slice),(iD (iF (ad (2:Nat))) (iC (gL pk (2:Nat))) (iH (ad (2:Nat))),Pr.pt (4:Nat) PK.slice),(iD (iF (ad (3:Nat))) (iC (gL pk (3:Nat))) (iH (ad (3:Nat))),Pr.pt (5:Nat) PK.slice),(iD (iF (ad (4:Nat))) (iC (gL pk (4:Nat))) (iH (ad (4:Nat))),Pr.pt (6:Nat) PK.slice),(iD (iF (ad (5:Nat))) (iC (gL pk (5:Nat))) (iH (ad (5:Nat))),Pr.pt (7:Nat) PK.slice),(iD (iF (ad (6:Nat))) (iC (gL pk (6:Nat))) (iH (ad (6:Nat))),Pr.pt (8:Nat) PK.slice),(iD (iF (ad (7:Nat))) (iC (gL pk (7:Nat))) (iH (ad (7:Nat))),Pr.pt (9:Nat) PK.slice),(iD (iF (ad (8:Nat))) (iC (gL pk (8:Nat))) (iH (ad (8:Nat))),Pr.pt (10:Nat) PK.slice)],Chunk.ro (iF (ad (0:Nat))) (iC (gL pk (0:Nat))) (iH (ad (0:Nat))) [Col.fz (gL pk (0:Nat))],Chunk.ro (iF (ad (1:Nat))) (iC (gL pk (1:Nat))) (iH (ad (1:Nat))) [Col.fz (gL pk (1:Nat))],Chunk.ro (iF (ad (2:Nat))) (iC (gL pk (2:Nat))) (iH (ad (2:Nat))) [Col.fz (gL pk (2:Nat))],Chunk.ro (iF (ad (3:Nat))) (iC (gL pk (3:Nat))) (iH (ad (3:Nat))) [Col.fz (gL pk (3:Nat))],Chunk.ro (iF (ad (4:Nat))) (iC (gL pk (4:Nat))) (iH (ad (4:Nat))) [Col.fz (gL pk (4:Nat))],Chunk.ro (iF (ad (5:Nat))) (iC (gL pk (5:Nat))) (iH (ad (5:Nat))) [Col.fz (gL pk (5:Nat))],Chunk.ro (iF (ad (6:Nat))) (iC (gL pk (6:Nat))) (iH (ad (6:Nat))) [Col.fz (gL pk (6:Nat))],Chunk.ro (iF (ad (7:Nat))) (iC (gL pk (7:Nat))) (iH (ad (7:Nat))) [Col.fz (gL pk (7:Nat))],Chunk.ro (iF (ad (8:Nat))) (iC (gL pk (8:Nat))) (iH (ad (8:Nat))) [Col.fz (gL pk (8:Nat))],Chunk.cells b0_0 (71:Nat) [(iT (some {block:=hb,off:=(0:Nat)}),Pr.pt (1:Nat) (PK.cell (0:Nat)))],Chunk.cells b1_0 (3:Nat) [(iZ iB k,Pr.no)],Chunk.cells b2_0 (3:Nat) [(iZ iB r3.2.1,Pr.no)],Chunk.row b5_0 (3:Nat) (iC r3.2.2.1) b5_1 [Col.ints iB r3.2.2.1]]
abbrev JO (pv:Addr) (r2:VS×Int×LI×Bool) (s:VS) (hb:Nat) (t p h:Int) (ad:Ad9) (pk:LL) (b0_0 b1_0:Nat) (k:Int) (b4_0:Option Nat) (b4_1 b5_0:Nat):List (Chunk Sg):=[Chunk.obj pv (Option.getD (some (Wr.inj wView r2.1)) (Sg.view s)),Chunk.cells hb (73:Nat) [(iT (some pv),Pr.pt (0:Nat) PK.obj),(iZ iB t,Pr.no),(iZ iB p,Pr.no),(iZ iB h,Pr.no),(iD (iF (ad (0:Nat))) (iC (gL pk (0:Nat))) (iH (ad (0:Nat))),Pr.pt (2:Nat) PK.slice),(iD (iF (ad (1:Nat))) (iC (gL pk (1:Nat))) (iH (ad (1:Nat))),Pr.pt (3:Nat) PK.slice),(iD (iF (ad (2:Nat))) (iC (gL pk (2:Nat))) (iH (ad (2:Nat))),Pr.pt (4:Nat) PK.slice),(iD (iF (ad (3:Nat))) (iC (gL pk (3:Nat))) (iH (ad (3:Nat))),Pr.pt (5:Nat) PK.slice),(iD (iF (ad (4:Nat))) (iC (gL pk (4:Nat))) (iH (ad (4:Nat))),Pr.pt (6:Nat) PK.slice),(iD (iF (ad (5:Nat))) (iC (gL pk (5:Nat))) (iH (ad (5:Nat))),Pr.pt (7:Nat) PK.slice),(iD (iF (ad (6:Nat))) (iC (gL pk (6:Nat))) (iH (ad (6:Nat))),Pr.pt (8:Nat) PK.slice),(iD (iF (ad (7:Nat))) (iC (gL pk (7:Nat))) (iH (ad (7:Nat))),Pr.pt (9:Nat) PK.slice),(iD (iF (ad (8:Nat))) (iC (gL pk (8:Nat))) (iH (ad (8:Nat))),Pr.pt (10:Nat) PK.slice)],Chunk.ro (iF (ad (0:Nat))) (iC (gL pk (0:Nat))) (iH (ad (0:Nat))) [Col.fz (gL pk (0:Nat))],Chunk.ro (iF (ad (1:Nat))) (iC (gL pk (1:Nat))) (iH (ad (1:Nat))) [Col.fz (gL pk (1:Nat))],Chunk.ro (iF (ad (2:Nat))) (iC (gL pk (2:Nat))) (iH (ad (2:Nat))) [Col.fz (gL pk (2:Nat))],Chunk.ro (iF (ad (3:Nat))) (iC (gL pk (3:Nat))) (iH (ad (3:Nat))) [Col.fz (gL pk (3:Nat))],Chunk.ro (iF (ad (4:Nat))) (iC (gL pk (4:Nat))) (iH (ad (4:Nat))) [Col.fz (gL pk (4:Nat))],Chunk.ro (iF (ad (5:Nat))) (iC (gL pk (5:Nat))) (iH (ad (5:Nat))) [Col.fz (gL pk (5:Nat))],Chunk.ro (iF (ad (6:Nat))) (iC (gL pk (6:Nat))) (iH (ad (6:Nat))) [Col.fz (gL pk (6:Nat))],Chunk.ro (iF (ad (7:Nat))) (iC (gL pk (7:Nat))) (iH (ad (7:Nat))) [Col.fz (gL pk (7:Nat))],Chunk.ro (iF (ad (8:Nat))) (iC (gL pk (8:Nat))) (iH (ad (8:Nat))) [Col.fz (gL pk (8:Nat))],Chunk.cells b0_0 (71:Nat) [(iT (some {block:=hb,off:=(0:Nat)}),Pr.pt (1:Nat) (PK.cell (0:Nat)))],Chunk.cells b1_0 (3:Nat) [(iZ iB k,Pr.no)],Chunk.row b4_0 (3:Nat) (iC r2.2.2.1) b4_1 [Col.ints iB r2.2.2.1],Chunk.cells b5_0 (3:Nat) [(iZ iB r2.2.1,Pr.no)]]
theorem fill_begin (R':Value→Pr→List (Chunk Sg)→Prop) (S0:List Ab→Option Ent→Option Ent→Option Ent→Option Ent→Option Ent→List (Chunk Sg)→Prop) (pv:Addr) (hb:Nat) (s:VS) (t p h k:Int) (pk:LL) (ad:Ad9):
 (run Tryz.prog T_r01_Longs fillI 60 (bodyOf Tryz.f30) Tryz.f30.results.toList Tryz.f30.ntmps [.code []] (argEnts 0 [(.pointer (some ⟨hb,0,none⟩), .pt 1 (.cell 0)),(.int .i64 k, .no)]) (hK pv hb s t p h pk ad)).holds R' (λtd L K=>S0 td (Sl.look L 2) (Sl.look L 3) (Sl.look L 7) (Sl.look L 8) (Sl.look L 30) K)=
 (∀b0_0:Nat,(∀b1_0:Nat,((∀r2:VS×Int×LI×Bool,r2=(slab_Pick s t p h k (4:Int))→(aw_ (p≤(1024:Int)) (∀(b4_0:Option Nat) (b4_1:Nat),(∀b5_0:Nat,(bw_ (!r2.2.2.2) (R' JL (Pr.no) ((JO pv r2 s hb t p h ad pk b0_0 b1_0 k b4_0 b4_1 b5_0))) (S0 ([Ab.ops [(0:Nat),(0:Nat),(1:Nat),(1:Nat),(1:Nat)] (0:Nat),Ab.code [(1:Nat),(0:Nat),(1:Nat),(1:Nat),(1:Nat)],Ab.code [(1:Nat),(1:Nat),(1:Nat),(1:Nat)]]) (some {s:=(2:Nat),g:=none,v:=iT (some {block:=b0_0,off:=(0:Nat)}),p:=Pr.pt (11:Nat) (PK.cell (0:Nat))}) (some {s:=(3:Nat),g:=none,v:=iT (some {block:=b1_0,off:=(0:Nat)}),p:=Pr.pt (12:Nat) (PK.cell (0:Nat))}) (some {s:=(7:Nat),g:=none,v:=iT (some {block:=b5_0,off:=(0:Nat)}),p:=Pr.pt (14:Nat) (PK.cell (0:Nat))}) (some {s:=(8:Nat),g:=none,v:=iD (iY (λb=>{block:=b,off:=(0:Nat)}) b4_0) (iC r2.2.2.1) b4_1,p:=Pr.pt (13:Nat) PK.slice}) (none) ((JO pv r2 s hb t p h ad pk b0_0 b1_0 k b4_0 b4_1 b5_0))))))))∧(∀b2_0:Nat,(∀r3:VS×Int×LI×Bool,r3=(slab_Pick s t p h k (4:Int))→(aw_ (p≤(1024:Int)) (∀(b5_0:Option Nat) (b5_1:Nat),(bw_ (!r3.2.2.2) (R' JL (Pr.no) ((JM pv r3 s hb t p h ad pk b0_0 b1_0 k b2_0 b5_0 b5_1))) (S0 ([Ab.ops [(0:Nat),(0:Nat),(1:Nat),(1:Nat),(1:Nat)] (0:Nat),Ab.code [(1:Nat),(0:Nat),(1:Nat),(1:Nat),(1:Nat)],Ab.code [(1:Nat),(1:Nat),(1:Nat),(1:Nat)]]) (some {s:=(2:Nat),g:=none,v:=iT (some {block:=b0_0,off:=(0:Nat)}),p:=Pr.pt (11:Nat) (PK.cell (0:Nat))}) (some {s:=(3:Nat),g:=none,v:=iT (some {block:=b1_0,off:=(0:Nat)}),p:=Pr.pt (12:Nat) (PK.cell (0:Nat))}) (some {s:=(7:Nat),g:=none,v:=iT (some {block:=b2_0,off:=(0:Nat)}),p:=Pr.pt (13:Nat) (PK.cell (0:Nat))}) (some {s:=(8:Nat),g:=none,v:=iD (iY (λb=>{block:=b,off:=(0:Nat)}) b5_0) (iC r3.2.2.1) b5_1,p:=Pr.pt (14:Nat) PK.slice}) (none) ((JM pv r3 s hb t p h ad pk b0_0 b1_0 k b2_0 b5_0 b5_1))))))))))):=by
 kernel_rfl
def fK1 (pv:Addr) (hb b0 b1 b2:Nat) (s:VS) (t p h k pg:Int) (pk:LL) (ad:Ad9) (la:Option Addr) (lc:Nat) (l:LI):List (Chunk Sg):=
 hK pv hb s t p h pk ad++[.cells b0 71 [(.pointer (some ⟨hb,0,none⟩), .pt 1 (.cell 0))], .cells b1 3 [(.int .i64 k, .no)], .cells b2 3 [(.int .i64 pg, .no)], .ro la l.length lc [.fz l]]
abbrev ptE (t b k:Nat):Ent:=⟨t,none, .pointer (some ⟨b,0,none⟩), .pt k (.cell 0)⟩
def fL1 (b0 b1 b2:Nat) (la:Option Addr) (lc:Nat) (l:LI):List Ent:=[ptE 2 b0 11,ptE 3 b1 12,ptE 7 b2 13,⟨8,none, .slice la l.length lc, .pt 14 .slice⟩]
theorem fill_on (R':Value→Pr→List (Chunk Sg)→Prop) (S0:List Ab→Option Ent→Option Ent→Option Ent→Option Ent→Option Ent→List (Chunk Sg)→Prop) (pv:Addr) (hb b0 b1 b2:Nat) (s:VS) (t p h k pg:Int) (pk:LL) (ad:Ad9) (la:Option Addr) (lc:Nat) (l:LI):
 (run Tryz.prog T_r01_Longs [2999998,72] 60 (bodyOf Tryz.f30) Tryz.f30.results.toList Tryz.f30.ntmps [.ops [0,0,1,1,1] 0, .code [1,0,1,1,1], .code [1,1,1,1]] (fL1 b0 b1 b2 la lc l) (fK1 pv hb b0 b1 b2 s t p h k pg pk ad la lc l)).holds R' (λtd L K=>S0 td (Sl.look L 2) (Sl.look L 3) (Sl.look L 7) (Sl.look L 8) (Sl.look L 30) K)=
 (aw_ ((0:Int)≤(1:Int)∧(1:Int)≤(↑(iC l):Int)) (∀b1_0:Nat,(S0 ([Ab.code [(0:Nat),(1:Nat),(0:Nat),(1:Nat),(1:Nat),(1:Nat)],Ab.blk (0:Nat),Ab.code [(1:Nat),(1:Nat),(1:Nat),(1:Nat)]]) (some {s:=(2:Nat),g:=none,v:=iT (some {block:=b0,off:=(0:Nat)}),p:=Pr.pt (11:Nat) (PK.cell (0:Nat))}) (some {s:=(3:Nat),g:=none,v:=iT (some {block:=b1,off:=(0:Nat)}),p:=Pr.pt (12:Nat) (PK.cell (0:Nat))}) (some {s:=(7:Nat),g:=none,v:=iT (some {block:=b2,off:=(0:Nat)}),p:=Pr.pt (13:Nat) (PK.cell (0:Nat))}) (some {s:=(8:Nat),g:=none,v:=iD la (iC l) lc,p:=Pr.pt (14:Nat) PK.slice}) (some {s:=(30:Nat),g:=none,v:=Value.func (Fn.func (120:Nat)) {toList:=[]} {toList:=[iT (some {block:=b1_0,off:=(0:Nat)})]},p:=Pr.many [Pr.pt (16:Nat) (PK.cell (0:Nat))]}) ([Chunk.obj pv (Sg.view s),Chunk.cells hb (73:Nat) [(iT (some pv),Pr.pt (0:Nat) PK.obj),(iZ iB t,Pr.no),(iZ iB p,Pr.no),(iZ iB h,Pr.no),(iD (iF (ad (0:Nat))) (iC (gL pk (0:Nat))) (iH (ad (0:Nat))),Pr.pt (2:Nat) PK.slice),(iD (iF (ad (1:Nat))) (iC (gL pk (1:Nat))) (iH (ad (1:Nat))),Pr.pt (3:Nat) PK.slice),(iD (iF (ad (2:Nat))) (iC (gL pk (2:Nat))) (iH (ad (2:Nat))),Pr.pt (4:Nat) PK.slice),(iD (iF (ad (3:Nat))) (iC (gL pk (3:Nat))) (iH (ad (3:Nat))),Pr.pt (5:Nat) PK.slice),(iD (iF (ad (4:Nat))) (iC (gL pk (4:Nat))) (iH (ad (4:Nat))),Pr.pt (6:Nat) PK.slice),(iD (iF (ad (5:Nat))) (iC (gL pk (5:Nat))) (iH (ad (5:Nat))),Pr.pt (7:Nat) PK.slice),(iD (iF (ad (6:Nat))) (iC (gL pk (6:Nat))) (iH (ad (6:Nat))),Pr.pt (8:Nat) PK.slice),(iD (iF (ad (7:Nat))) (iC (gL pk (7:Nat))) (iH (ad (7:Nat))),Pr.pt (9:Nat) PK.slice),(iD (iF (ad (8:Nat))) (iC (gL pk (8:Nat))) (iH (ad (8:Nat))),Pr.pt (10:Nat) PK.slice)],Chunk.ro (iF (ad (0:Nat))) (iC (gL pk (0:Nat))) (iH (ad (0:Nat))) [Col.fz (gL pk (0:Nat))],Chunk.ro (iF (ad (1:Nat))) (iC (gL pk (1:Nat))) (iH (ad (1:Nat))) [Col.fz (gL pk (1:Nat))],Chunk.ro (iF (ad (2:Nat))) (iC (gL pk (2:Nat))) (iH (ad (2:Nat))) [Col.fz (gL pk (2:Nat))],Chunk.ro (iF (ad (3:Nat))) (iC (gL pk (3:Nat))) (iH (ad (3:Nat))) [Col.fz (gL pk (3:Nat))],Chunk.ro (iF (ad (4:Nat))) (iC (gL pk (4:Nat))) (iH (ad (4:Nat))) [Col.fz (gL pk (4:Nat))],Chunk.ro (iF (ad (5:Nat))) (iC (gL pk (5:Nat))) (iH (ad (5:Nat))) [Col.fz (gL pk (5:Nat))],Chunk.ro (iF (ad (6:Nat))) (iC (gL pk (6:Nat))) (iH (ad (6:Nat))) [Col.fz (gL pk (6:Nat))],Chunk.ro (iF (ad (7:Nat))) (iC (gL pk (7:Nat))) (iH (ad (7:Nat))) [Col.fz (gL pk (7:Nat))],Chunk.ro (iF (ad (8:Nat))) (iC (gL pk (8:Nat))) (iH (ad (8:Nat))) [Col.fz (gL pk (8:Nat))],Chunk.cells b0 (71:Nat) [(iT (some {block:=hb,off:=(0:Nat)}),Pr.pt (1:Nat) (PK.cell (0:Nat)))],Chunk.cells b1 (3:Nat) [(iZ iB k,Pr.no)],Chunk.cells b2 (3:Nat) [(iZ iB pg,Pr.no)],Chunk.ro la (iC l) lc [Col.fz l],Chunk.ro (dropA la lc (1:Nat) (1:Nat)) (iC l-(1:Nat)) (lc-(1:Nat)) [Col.fz (List.drop (1:Nat) l)],Chunk.cells b1_0 (42:Nat) [(iD (dropA la lc (1:Nat) (1:Nat)) (iC l-(1:Nat)) (lc-(1:Nat)),Pr.pt (15:Nat) PK.slice)]])))):=by
 kernel_rfl
def fB (pv:Addr) (hb b0 b1 b2:Nat) (s:VS) (t p h k pg:Int) (la:Option Addr) (lc:Nat) (l:LI) (v:Nat) (pk:LL) (ad:Ad9):List (Chunk Sg):=
 .obj pv (.view s):: .cells hb 73 (hC pv v (v+6) t p h pk ad):: .cells b0 71 [(.pointer (some ⟨hb,0,none⟩), .pt (v+1) (.cell 0))]:: .cells b1 3 [(.int .i64 k, .no)]:: .cells b2 3 [(.int .i64 pg, .no)]:: .ro la l.length lc [.fz l]::ro9 pk ad
def fL2 (b0 b1 b2:Nat) (la:Option Addr) (lc:Nat) (l:LI) (v:Nat):List Ent:=[ptE 2 b0 (v+2),ptE 3 b1 (v+3),ptE 7 b2 (v+4),⟨8,none, .slice la l.length lc, .pt (v+5) .slice⟩]
abbrev fP:List Nat:=[0,1,0,1,1,1]
theorem fill_r1 (R':Value→Pr→List (Chunk Sg)→Prop) (S0:List Ab→Option Ent→Option Ent→Option Ent→Option Ent→Option Ent→List (Chunk Sg)→Prop) (pv:Addr) (hb b0 b1 b2 bb Dm lr:Nat) (s:VS) (t p h k pg i x:Int) (pk:LL) (ad:Ad9) (ra la:Option Addr) (rc lc:Nat) (xs l:LI) (o1 o2:Obj):
 (run Tryz.prog T_r01_Longs [2999998,2999997] 60 (bodyOf Tryz.f30) [.cell 0 1000000] Tryz.f30.ntmps [.code (0::fP), .raw .beginRound, .code (1::fP)] (⟨31,none, .int .i64 i, .no⟩::⟨32,none, .int .i64 x, .no⟩::fL2 b0 b1 b2 la lc l 4) (kb ra rc xs bb Dm lr o1 o2 (fB pv hb b0 b1 b2 s t p h k pg la lc l 4 pk ad))).holds R' (λtd L K=>S0 td (Sl.look L 2) (Sl.look L 3) (Sl.look L 7) (Sl.look L 8) (Sl.look L 11) K)=
 (S0 ([Ab.raw Item.beginRound,Ab.code [(1:Nat),(0:Nat),(1:Nat),(0:Nat),(1:Nat),(1:Nat),(1:Nat)]]) (some {s:=(2:Nat),g:=none,v:=iT (some {block:=b0,off:=(0:Nat)}),p:=Pr.pt (6:Nat) (PK.cell (0:Nat))}) (some {s:=(3:Nat),g:=none,v:=iT (some {block:=b1,off:=(0:Nat)}),p:=Pr.pt (7:Nat) (PK.cell (0:Nat))}) (some {s:=(7:Nat),g:=none,v:=iT (some {block:=b2,off:=(0:Nat)}),p:=Pr.pt (8:Nat) (PK.cell (0:Nat))}) (some {s:=(8:Nat),g:=none,v:=iD la (iC l) lc,p:=Pr.pt (9:Nat) PK.slice}) (some {s:=(11:Nat),g:=none,v:=iZ iB x,p:=Pr.no}) ([Chunk.ro ra (iC xs) rc [Col.fz xs],Chunk.cells bb (42:Nat) [(iD ra (iC xs) rc,Pr.pt (0:Nat) PK.slice)],Chunk.obj {block:=(0:Nat),off:=(0:Nat)} (Sg.any (λx=>pt Dm o1) []),Chunk.obj {block:=(0:Nat),off:=(0:Nat)} (Sg.any (λx=>pt lr o2) []),Chunk.obj pv (Sg.view s),Chunk.cells hb (73:Nat) [(iT (some pv),Pr.pt (4:Nat) PK.obj),(iZ iB t,Pr.no),(iZ iB p,Pr.no),(iZ iB h,Pr.no),(iD (iF (ad (0:Nat))) (iC (gL pk (0:Nat))) (iH (ad (0:Nat))),Pr.pt (10:Nat) PK.slice),(iD (iF (ad (1:Nat))) (iC (gL pk (1:Nat))) (iH (ad (1:Nat))),Pr.pt (11:Nat) PK.slice),(iD (iF (ad (2:Nat))) (iC (gL pk (2:Nat))) (iH (ad (2:Nat))),Pr.pt (12:Nat) PK.slice),(iD (iF (ad (3:Nat))) (iC (gL pk (3:Nat))) (iH (ad (3:Nat))),Pr.pt (13:Nat) PK.slice),(iD (iF (ad (4:Nat))) (iC (gL pk (4:Nat))) (iH (ad (4:Nat))),Pr.pt (14:Nat) PK.slice),(iD (iF (ad (5:Nat))) (iC (gL pk (5:Nat))) (iH (ad (5:Nat))),Pr.pt (15:Nat) PK.slice),(iD (iF (ad (6:Nat))) (iC (gL pk (6:Nat))) (iH (ad (6:Nat))),Pr.pt (16:Nat) PK.slice),(iD (iF (ad (7:Nat))) (iC (gL pk (7:Nat))) (iH (ad (7:Nat))),Pr.pt (17:Nat) PK.slice),(iD (iF (ad (8:Nat))) (iC (gL pk (8:Nat))) (iH (ad (8:Nat))),Pr.pt (18:Nat) PK.slice)],Chunk.cells b0 (71:Nat) [(iT (some {block:=hb,off:=(0:Nat)}),Pr.pt (5:Nat) (PK.cell (0:Nat)))],Chunk.cells b1 (3:Nat) [(iZ iB k,Pr.no)],Chunk.cells b2 (3:Nat) [(iZ iB pg,Pr.no)],Chunk.ro la (iC l) lc [Col.fz l],Chunk.ro (iF (ad (0:Nat))) (iC (gL pk (0:Nat))) (iH (ad (0:Nat))) [Col.fz (gL pk (0:Nat))],Chunk.ro (iF (ad (1:Nat))) (iC (gL pk (1:Nat))) (iH (ad (1:Nat))) [Col.fz (gL pk (1:Nat))],Chunk.ro (iF (ad (2:Nat))) (iC (gL pk (2:Nat))) (iH (ad (2:Nat))) [Col.fz (gL pk (2:Nat))],Chunk.ro (iF (ad (3:Nat))) (iC (gL pk (3:Nat))) (iH (ad (3:Nat))) [Col.fz (gL pk (3:Nat))],Chunk.ro (iF (ad (4:Nat))) (iC (gL pk (4:Nat))) (iH (ad (4:Nat))) [Col.fz (gL pk (4:Nat))],Chunk.ro (iF (ad (5:Nat))) (iC (gL pk (5:Nat))) (iH (ad (5:Nat))) [Col.fz (gL pk (5:Nat))],Chunk.ro (iF (ad (6:Nat))) (iC (gL pk (6:Nat))) (iH (ad (6:Nat))) [Col.fz (gL pk (6:Nat))],Chunk.ro (iF (ad (7:Nat))) (iC (gL pk (7:Nat))) (iH (ad (7:Nat))) [Col.fz (gL pk (7:Nat))],Chunk.ro (iF (ad (8:Nat))) (iC (gL pk (8:Nat))) (iH (ad (8:Nat))) [Col.fz (gL pk (8:Nat))]])):=by
 kernel_rfl
theorem fill_r2 (R':Value→Pr→List (Chunk Sg)→Prop) (S0:List Ab→Option Ent→List (Chunk Sg)→Prop) (pv:Addr) (hb b0 b1 b2 bb Dm lr:Nat) (s:VS) (t p h k pg x:Int) (pk:LL) (ad:Ad9) (ra la:Option Addr) (rc lc:Nat) (xs l:LI) (o1 o2:Obj):
 (run Tryz.prog T_r01_Longs [2999998,2999997,61] 60 (bodyOf Tryz.f30) [.cell 0 1000000] Tryz.f30.ntmps [.code (1::fP)] (⟨11,none, .int .i64 x, .no⟩::fL2 b0 b1 b2 la lc l 4) (kb ra rc xs bb Dm lr o1 o2 (fB pv hb b0 b1 b2 s t p h k pg la lc l 4 pk ad))).holds R' (λtd L K=>S0 td (Sl.look L 2) K)=
 (∀r0:Int×Bool,r0=(addr_At t p h k pg x)→(∀r1:LI×LI×LI×LI×LI×LI×LI×LI×LI×Bool,r1=(p_Push (gL pk (0:Nat)) (gL pk (1:Nat)) (gL pk (2:Nat)) (gL pk (3:Nat)) (gL pk (4:Nat)) (gL pk (5:Nat)) (gL pk (6:Nat)) (gL pk (7:Nat)) (gL pk (8:Nat)) k r0.1)→(aw_ (pkB (gL pk (0:Nat)) (gL pk (1:Nat)) (gL pk (2:Nat)) (gL pk (3:Nat)) (gL pk (4:Nat)) (gL pk (5:Nat)) (gL pk (6:Nat)) (gL pk (7:Nat)) (gL pk (8:Nat))) (∀(b3_0:Option Nat) (b3_1:Nat),(∀(b4_0:Option Nat) (b4_1:Nat),(∀(b5_0:Option Nat) (b5_1:Nat),(∀(b6_0:Option Nat) (b6_1:Nat),(∀(b7_0:Option Nat) (b7_1:Nat),(∀(b8_0:Option Nat) (b8_1:Nat),(∀(b9_0:Option Nat) (b9_1:Nat),(∀(b10_0:Option Nat) (b10_1:Nat),(∀(b11_0:Option Nat) (b11_1:Nat),(∀b12_0:Nat,(S0 ([]) (some {s:=(2:Nat),g:=none,v:=iT (some {block:=b0,off:=(0:Nat)}),p:=Pr.pt (6:Nat) (PK.cell (0:Nat))}) ([Chunk.ro ra (iC xs) rc [Col.fz xs],Chunk.cells bb (42:Nat) [(iD ra (iC xs) rc,Pr.pt (0:Nat) PK.slice)],Chunk.obj {block:=(0:Nat),off:=(0:Nat)} (Sg.any (λx=>pt Dm o1) []),Chunk.obj {block:=(0:Nat),off:=(0:Nat)} (Sg.any (λx=>pt lr o2) []),Chunk.obj pv (Sg.view s),Chunk.cells hb (73:Nat) [(iT (some pv),Pr.pt (4:Nat) PK.obj),(iZ iB t,Pr.no),(iZ iB p,Pr.no),(iZ iB h,Pr.no),(iD (iY decA b3_0) (lenC [Col.fz r1.1]) b3_1,Pr.pt (19:Nat) PK.slice),(iD (iY decA b4_0) (lenC [Col.fz r1.2.1]) b4_1,Pr.pt (20:Nat) PK.slice),(iD (iY decA b5_0) (lenC [Col.fz r1.2.2.1]) b5_1,Pr.pt (21:Nat) PK.slice),(iD (iY decA b6_0) (lenC [Col.fz r1.2.2.2.1]) b6_1,Pr.pt (22:Nat) PK.slice),(iD (iY decA b7_0) (lenC [Col.fz r1.2.2.2.2.1]) b7_1,Pr.pt (23:Nat) PK.slice),(iD (iY decA b8_0) (lenC [Col.fz r1.2.2.2.2.2.1]) b8_1,Pr.pt (24:Nat) PK.slice),(iD (iY decA b9_0) (lenC [Col.fz r1.2.2.2.2.2.2.1]) b9_1,Pr.pt (25:Nat) PK.slice),(iD (iY decA b10_0) (lenC [Col.fz r1.2.2.2.2.2.2.2.1]) b10_1,Pr.pt (26:Nat) PK.slice),(iD (iY decA b11_0) (lenC [Col.fz r1.2.2.2.2.2.2.2.2.1]) b11_1,Pr.pt (27:Nat) PK.slice)],Chunk.cells b0 (71:Nat) [(iT (some {block:=hb,off:=(0:Nat)}),Pr.pt (5:Nat) (PK.cell (0:Nat)))],Chunk.cells b1 (3:Nat) [(iZ iB k,Pr.no)],Chunk.cells b2 (3:Nat) [(iZ iB pg,Pr.no)],Chunk.ro la (iC l) lc [Col.fz l],Chunk.ro (iF (ad (0:Nat))) (iC (gL pk (0:Nat))) (iH (ad (0:Nat))) [Col.fz (gL pk (0:Nat))],Chunk.ro (iF (ad (1:Nat))) (iC (gL pk (1:Nat))) (iH (ad (1:Nat))) [Col.fz (gL pk (1:Nat))],Chunk.ro (iF (ad (2:Nat))) (iC (gL pk (2:Nat))) (iH (ad (2:Nat))) [Col.fz (gL pk (2:Nat))],Chunk.ro (iF (ad (3:Nat))) (iC (gL pk (3:Nat))) (iH (ad (3:Nat))) [Col.fz (gL pk (3:Nat))],Chunk.ro (iF (ad (4:Nat))) (iC (gL pk (4:Nat))) (iH (ad (4:Nat))) [Col.fz (gL pk (4:Nat))],Chunk.ro (iF (ad (5:Nat))) (iC (gL pk (5:Nat))) (iH (ad (5:Nat))) [Col.fz (gL pk (5:Nat))],Chunk.ro (iF (ad (6:Nat))) (iC (gL pk (6:Nat))) (iH (ad (6:Nat))) [Col.fz (gL pk (6:Nat))],Chunk.ro (iF (ad (7:Nat))) (iC (gL pk (7:Nat))) (iH (ad (7:Nat))) [Col.fz (gL pk (7:Nat))],Chunk.ro (iF (ad (8:Nat))) (iC (gL pk (8:Nat))) (iH (ad (8:Nat))) [Col.fz (gL pk (8:Nat))],Chunk.ro (iY decA b3_0) (lenC [Col.fz r1.1]) b3_1 [Col.fz r1.1],Chunk.ro (iY decA b4_0) (lenC [Col.fz r1.2.1]) b4_1 [Col.fz r1.2.1],Chunk.ro (iY decA b5_0) (lenC [Col.fz r1.2.2.1]) b5_1 [Col.fz r1.2.2.1],Chunk.ro (iY decA b6_0) (lenC [Col.fz r1.2.2.2.1]) b6_1 [Col.fz r1.2.2.2.1],Chunk.ro (iY decA b7_0) (lenC [Col.fz r1.2.2.2.2.1]) b7_1 [Col.fz r1.2.2.2.2.1],Chunk.ro (iY decA b8_0) (lenC [Col.fz r1.2.2.2.2.2.1]) b8_1 [Col.fz r1.2.2.2.2.2.1],Chunk.ro (iY decA b9_0) (lenC [Col.fz r1.2.2.2.2.2.2.1]) b9_1 [Col.fz r1.2.2.2.2.2.2.1],Chunk.ro (iY decA b10_0) (lenC [Col.fz r1.2.2.2.2.2.2.2.1]) b10_1 [Col.fz r1.2.2.2.2.2.2.2.1],Chunk.ro (iY decA b11_0) (lenC [Col.fz r1.2.2.2.2.2.2.2.2.1]) b11_1 [Col.fz r1.2.2.2.2.2.2.2.2.1],Chunk.cells b12_0 (36:Nat) [(iD (iY decA b3_0) (lenC [Col.fz r1.1]) b3_1,Pr.pt (19:Nat) PK.slice),(iD (iY decA b4_0) (lenC [Col.fz r1.2.1]) b4_1,Pr.pt (20:Nat) PK.slice),(iD (iY decA b5_0) (lenC [Col.fz r1.2.2.1]) b5_1,Pr.pt (21:Nat) PK.slice),(iD (iY decA b6_0) (lenC [Col.fz r1.2.2.2.1]) b6_1,Pr.pt (22:Nat) PK.slice),(iD (iY decA b7_0) (lenC [Col.fz r1.2.2.2.2.1]) b7_1,Pr.pt (23:Nat) PK.slice),(iD (iY decA b8_0) (lenC [Col.fz r1.2.2.2.2.2.1]) b8_1,Pr.pt (24:Nat) PK.slice),(iD (iY decA b9_0) (lenC [Col.fz r1.2.2.2.2.2.2.1]) b9_1,Pr.pt (25:Nat) PK.slice),(iD (iY decA b10_0) (lenC [Col.fz r1.2.2.2.2.2.2.2.1]) b10_1,Pr.pt (26:Nat) PK.slice),(iD (iY decA b11_0) (lenC [Col.fz r1.2.2.2.2.2.2.2.2.1]) b11_1,Pr.pt (27:Nat) PK.slice)]]))))))))))))))):=by
 kernel_rfl
theorem fill_end (R':Value→Pr→List (Chunk Sg)→Prop) (S0:List Ab→Option Ent→Option Ent→Option Ent→List (Chunk Sg)→Prop) (pv:Addr) (hb b0 b1 b2 bb Dm lr:Nat) (s:VS) (t p h k pg:Int) (pk:LL) (ad:Ad9) (ra la:Option Addr) (rc lc:Nat) (xs l:LI) (o1 o2:Obj):
 (run Tryz.prog T_r01_Longs [2999998,2999997] 60 (bodyOf Tryz.f30) [.cell 0 1000000] Tryz.f30.ntmps [.blk 0, .code [1,1,1,1]] (fL2 b0 b1 b2 la lc l 4) (kb ra rc xs bb Dm lr o1 o2 (fB pv hb b0 b1 b2 s t p h k pg la lc l 4 pk ad))).holds R' (λtd L K=>S0 td (Sl.look L 4) (Sl.look L 5) (Sl.look L 6) K)=
 (aw_ ((0:Int)≤(0:Int)∧(0:Int)<(↑(iC l):Int)) (S0 ([Ab.code [(1:Nat),(1:Nat),(1:Nat),(1:Nat),(1:Nat)]]) (some {s:=(4:Nat),g:=none,v:=iZ iB pg,p:=Pr.no}) (some {s:=(5:Nat),g:=none,v:=iZ iB (iE l (0:Nat) (0:Int)),p:=Pr.no}) (some {s:=(6:Nat),g:=none,v:=Value.bool true,p:=Pr.no}) ([Chunk.ro ra (iC xs) rc [Col.fz xs],Chunk.cells bb (42:Nat) [(iD ra (iC xs) rc,Pr.pt (0:Nat) PK.slice)],Chunk.obj {block:=(0:Nat),off:=(0:Nat)} (Sg.any (λx=>pt Dm o1) []),Chunk.obj {block:=(0:Nat),off:=(0:Nat)} (Sg.any (λx=>pt lr o2) []),Chunk.obj pv (Sg.view s),Chunk.cells hb (73:Nat) [(iT (some pv),Pr.pt (4:Nat) PK.obj),(iZ iB t,Pr.no),(iZ iB p,Pr.no),(iZ iB h,Pr.no),(iD (iF (ad (0:Nat))) (iC (gL pk (0:Nat))) (iH (ad (0:Nat))),Pr.pt (10:Nat) PK.slice),(iD (iF (ad (1:Nat))) (iC (gL pk (1:Nat))) (iH (ad (1:Nat))),Pr.pt (11:Nat) PK.slice),(iD (iF (ad (2:Nat))) (iC (gL pk (2:Nat))) (iH (ad (2:Nat))),Pr.pt (12:Nat) PK.slice),(iD (iF (ad (3:Nat))) (iC (gL pk (3:Nat))) (iH (ad (3:Nat))),Pr.pt (13:Nat) PK.slice),(iD (iF (ad (4:Nat))) (iC (gL pk (4:Nat))) (iH (ad (4:Nat))),Pr.pt (14:Nat) PK.slice),(iD (iF (ad (5:Nat))) (iC (gL pk (5:Nat))) (iH (ad (5:Nat))),Pr.pt (15:Nat) PK.slice),(iD (iF (ad (6:Nat))) (iC (gL pk (6:Nat))) (iH (ad (6:Nat))),Pr.pt (16:Nat) PK.slice),(iD (iF (ad (7:Nat))) (iC (gL pk (7:Nat))) (iH (ad (7:Nat))),Pr.pt (17:Nat) PK.slice),(iD (iF (ad (8:Nat))) (iC (gL pk (8:Nat))) (iH (ad (8:Nat))),Pr.pt (18:Nat) PK.slice)],Chunk.cells b0 (71:Nat) [(iT (some {block:=hb,off:=(0:Nat)}),Pr.pt (5:Nat) (PK.cell (0:Nat)))],Chunk.cells b1 (3:Nat) [(iZ iB k,Pr.no)],Chunk.cells b2 (3:Nat) [(iZ iB pg,Pr.no)],Chunk.ro la (iC l) lc [Col.fz l],Chunk.ro (iF (ad (0:Nat))) (iC (gL pk (0:Nat))) (iH (ad (0:Nat))) [Col.fz (gL pk (0:Nat))],Chunk.ro (iF (ad (1:Nat))) (iC (gL pk (1:Nat))) (iH (ad (1:Nat))) [Col.fz (gL pk (1:Nat))],Chunk.ro (iF (ad (2:Nat))) (iC (gL pk (2:Nat))) (iH (ad (2:Nat))) [Col.fz (gL pk (2:Nat))],Chunk.ro (iF (ad (3:Nat))) (iC (gL pk (3:Nat))) (iH (ad (3:Nat))) [Col.fz (gL pk (3:Nat))],Chunk.ro (iF (ad (4:Nat))) (iC (gL pk (4:Nat))) (iH (ad (4:Nat))) [Col.fz (gL pk (4:Nat))],Chunk.ro (iF (ad (5:Nat))) (iC (gL pk (5:Nat))) (iH (ad (5:Nat))) [Col.fz (gL pk (5:Nat))],Chunk.ro (iF (ad (6:Nat))) (iC (gL pk (6:Nat))) (iH (ad (6:Nat))) [Col.fz (gL pk (6:Nat))],Chunk.ro (iF (ad (7:Nat))) (iC (gL pk (7:Nat))) (iH (ad (7:Nat))) [Col.fz (gL pk (7:Nat))],Chunk.ro (iF (ad (8:Nat))) (iC (gL pk (8:Nat))) (iH (ad (8:Nat))) [Col.fz (gL pk (8:Nat))]]))):=by
 kernel_rfl
def pkk (pk:LL) (k:Int):LI:=pkGet k (gL pk 0) (gL pk 1) (gL pk 2) (gL pk 3) (gL pk 4) (gL pk 5) (gL pk 6) (gL pk 7) (gL pk 8)
def pkS (pk:LL) (k:Int) (l:LI):LL:=[pkSel k 0 l (gL pk 0),pkSel k 1 l (gL pk 1),pkSel k 2 l (gL pk 2),pkSel k 3 l (gL pk 3),pkSel k 4 l (gL pk 4),pkSel k 5 l (gL pk 5),pkSel k 6 l (gL pk 6),pkSel k 7 l (gL pk 7),pkSel k 8 l (gL pk 8)]
def pkO (pk:LL):Prop:=pkB (gL pk 0) (gL pk 1) (gL pk 2) (gL pk 3) (gL pk 4) (gL pk 5) (gL pk 6) (gL pk 7) (gL pk 8)
def fillY (t p h k pg:Int):Bf:= λst _ x=>pkS st k (pushL (pkk st k) (addr_At t p h k pg x).1)
def fillR (s:VS) (t p h k:Int) (pk:LL):VS×LL×Int×Int×Bool:=
 bif (slab_Pick s t p h k 4).2.2.2 then ((slab_Pick s t p h k 4).1,bwF (fillY t p h k (slab_Pick s t p h k 4).2.1) ((slab_Pick s t p h k 4).2.2.1.drop 1) ((slab_Pick s t p h k 4).2.2.1.drop 1).length pk,(slab_Pick s t p h k 4).2.1,(slab_Pick s t p h k 4).2.2.1.getD 0 0,true)
 else ((slab_Pick s t p h k 4).1,pk,0,0,false)
def fillP (s:VS) (t p h k:Int):Prop:=(slab_Pick s t p h k 4).2.2.2=true→1≤(slab_Pick s t p h k 4).2.2.1.length∧(slab_Pick s t p h k 4).2.2.1.length≤1000000
theorem of_i64 (t p h pg o:Int): -9223372036854775808≤(addr_Of t p h pg o).1∧(addr_Of t p h pg o).1<9223372036854775808:=by
 by_cases ho:r04_Right t p h=true∧0≤pg∧pg<p∧0≤o∧o<r04_Page t p h
 ·have hr:=rt_of ho.1
  rw [hr.pg] at ho
  have hP:=spot_le hr.pp hr.P0 ⟨ho.2.1,ho.2.2.1⟩ ⟨ho.2.2.2.1,ho.2.2.2.2⟩
  rw [(of_in hr ⟨ho.2.1,ho.2.2.1⟩ ⟨ho.2.2.2.1,ho.2.2.2.2⟩).1]
  have:=hr.P0
  dsimp only
  omega
 ·rw [(of_out ho).1];decide
theorem at_i64 (t p h k pg x:Int):i64R (addr_At t p h k pg x).1:=by
 unfold addr_At
 cases (addr_first t p h k x).2.2
 ·exact (show i64R 0 by decide)
 ·exact of_i64 ..
theorem push_lB {l:LI} {a:Int} (h:lB l) (ha:i64R a):lB (pushL l a):=by
 unfold pushL
 cases hc:decide (l.length<4) with
 |false=>exact h
 |true=>
  have:=of_decide_eq_true hc
  refine ⟨by rw [cond_true,jA,jW];omega, λx hx=>?_⟩
  rw [cond_true,jX,jL] at hx
  rcases hx with hx|rfl
  ·exact h.2 x hx
  ·exact ha
theorem sel_lB {k i:Int} {l x:LI} (hl:lB l) (hx:lB x):lB (pkSel k i l x):=by
 unfold pkSel
 cases k==i
 ·exact hx
 ·exact hl
theorem pkO_S {pk:LL} {k:Int} {l:LI} (h:pkO pk) (hl:lB l):pkO (pkS pk k l):=by
 obtain ⟨h0,h1,h2,h3,h4,h5,h6,h7,h8⟩:=h
 exact ⟨sel_lB hl h0,sel_lB hl h1,sel_lB hl h2,sel_lB hl h3,sel_lB hl h4,sel_lB hl h5,sel_lB hl h6,sel_lB hl h7,sel_lB hl h8⟩
theorem pkO_get {pk:LL} (h:pkO pk) (k:Int):lB (pkk pk k):=pkB_get h k
theorem fillY_O {t p h k pg:Int} {st:LL} {i x:Int} (hs:pkO st):pkO (fillY t p h k pg st i x):=pkO_S hs (push_lB (pkO_get hs k) (at_i64 ..))
abbrev fillF:FuncId:=30
noncomputable abbrev fillB:Code:=bodyOf Tryz.f30
noncomputable abbrev fillN:Nat:=Tryz.f30.ntmps
theorem fillLen (la:Option Addr) (lc:Nat) (l:LI) (bb:Nat) (K:List (Chunk Sg)):(Chunk.ro (dropA la lc 1 1) (l.length-1) (lc-1) [.fz (l.drop 1)]:: .cells bb 42 [(.slice (dropA la lc 1 1) (l.length-1) (lc-1), .pt 0 .slice)]::K:List (Chunk Sg))=(.ro (dropA la lc 1 1) (l.drop 1).length (lc-1) [.fz (l.drop 1)]:: .cells bb 42 [(.slice (dropA la lc 1 1) (l.drop 1).length (lc-1), .pt 0 .slice)]::K):=by
 rw [List.length_drop]
theorem fL2_re {L:List Ent} {K:List (Chunk Sg)} {b0 b1 b2 v:Nat} {la:Option Addr} {lc:Nat} {l:LI} {q2 q3 q7 q8:Pr} (h2:(⟨2,none, .pointer (some ⟨b0,0,none⟩),q2⟩:Ent)∈L) (h3:(⟨3,none, .pointer (some ⟨b1,0,none⟩),q3⟩:Ent)∈L) (h7:(⟨7,none, .pointer (some ⟨b2,0,none⟩),q7⟩:Ent)∈L) (h8:(⟨8,none, .slice la l.length lc,q8⟩:Ent)∈L)
 (k2:pOk K (.pointer (some ⟨b0,0,none⟩)) (.pt (v+2) (.cell 0))) (k3:pOk K (.pointer (some ⟨b1,0,none⟩)) (.pt (v+3) (.cell 0))) (k7:pOk K (.pointer (some ⟨b2,0,none⟩)) (.pt (v+4) (.cell 0))) (k8:pOk K (.slice la l.length lc) (.pt (v+5) .slice)):∀e∈fL2 b0 b1 b2 la lc l v,reOk L K e:= λe he=>by
 simp only [fL2,iN,List.not_mem_nil,or_false] at he
 rcases he with rfl|rfl|rfl|rfl
 ·exact ⟨rfl,⟨_,h2⟩,k2⟩
 ·exact ⟨rfl,⟨_,h3⟩,k3⟩
 ·exact ⟨rfl,⟨_,h7⟩,k7⟩
 ·exact ⟨rfl,⟨_,h8⟩,k8⟩
theorem fB_kok (ra:Option Addr) (rc:Nat) (xs:LI) (bb Dm lr:Nat) (o1 o2:Obj) (pv:Addr) (hb b0 b1 b2:Nat) (s:VS) (t p h k pg:Int) (la:Option Addr) (lc:Nat) (l:LI) (pk:LL) (ad:Ad9):KOk (kb ra rc xs bb Dm lr o1 o2 (fB pv hb b0 b1 b2 s t p h k pg la lc l 4 pk ad)):=
 KOk_all (by simp [kb,fB,hC,ro9,ptC,cellsAll,psOk,pOk,cOk])
variable {E:Ev} {G:Hp} {pv:Addr} {hb:Nat} {t p h k:Int}
theorem fillY_eq {t p h k pg i x:Int} {st:LL} {r0:Int×Bool} {q0 q1 q2 q3 q4 q5 q6 q7 q8:LI} {qb:Bool} (h0:r0=addr_At t p h k pg x) (h1:(q0,q1,q2,q3,q4,q5,q6,q7,q8,qb)=p_Push (gL st 0) (gL st 1) (gL st 2) (gL st 3) (gL st 4) (gL st 5) (gL st 6) (gL st 7) (gL st 8) k r0.1):
 fillY t p h k pg st i x=[q0,q1,q2,q3,q4,q5,q6,q7,q8]:=by
 unfold p_Push at h1
 simp only [iU] at h1
 obtain ⟨rfl,rfl,rfl,rfl,rfl,rfl,rfl,rfl,rfl,_⟩:=h1
 subst h0
 rfl
noncomputable abbrev fRec (tmps:Array Value) (Dm:Nat):Loop:=recOf fillF tmps #[31,32] (Sl.sub fillB (0::fP)) (Sl.sub fillB (1::fP)) Dm .ready none
def rdP (G:Hp) (ra:Option Addr) (rc:Nat) (xs:LI) (bb Dm lr:Nat) (tmps:Array Value) (pv:Addr) (hb b0 b1 b2:Nat) (s:VS) (t p h k pg:Int) (la:Option Addr) (lc:Nat) (l:LI) (st':LL) (td:List Ab) (K:List (Chunk Sg)):Prop:=
 td=[]∧K[3]? =some (ptC lr (.loop {fRec tmps Dm with state:= .busy}))∧∃(ad':Ad9) (is:List Nat),nodupB is=true∧
  (kb ra rc xs bb Dm lr (.deferred (some [])) (.loop (fRec tmps Dm)) (fB pv hb b0 b1 b2 s t p h k pg la lc l 4 st' ad')).map (λc=>some (den Dg G c))=is.map (λj=>(K.set 3 (ptC lr (.loop (fRec tmps Dm))))[j]?.map (den Dg G))
set_option maxRecDepth 100000 in
theorem fill_round {b0 b1 b2 bb Dm lr:Nat} {s:VS} {pg i x:Int} {st:LL} {ad:Ad9} {ra la:Option Addr} {rc lc:Nat} {xs l:LI} {tmps:Array Value} (hO:pkO st) (Rr:Ending→World→Prop)
 (H:∀w' ad',SatK Dg E G w' (kb ra rc xs bb Dm lr (.deferred (some [])) (.loop (recOf fillF tmps #[31,32] (Sl.sub fillB (0::fP)) (Sl.sub fillB (1::fP)) Dm .ready none)) (fB pv hb b0 b1 b2 s t p h k pg la lc l 4 (fillY t p h k pg st i x) ad'))→Rr (.returned (.bool true)) w'):
 SW Dg Tryz.prog ⟨fillF,some lr,[]⟩ Rr fillB fillN E G [.code (0::fP), .raw .beginRound, .code (1::fP)] (⟨31,none, .int .i64 i, .no⟩::⟨32,none, .int .i64 x, .no⟩::fL2 b0 b1 b2 la lc l 4)
  (kb ra rc xs bb Dm lr (.deferred (some [])) (.loop (recOf fillF tmps #[31,32] (Sl.sub fillB (0::fP)) (Sl.sub fillB (1::fP)) Dm .ready none)) (fB pv hb b0 b1 b2 s t p h k pg la lc l 4 st ad)):=by
 refine pieceE (I:=[2999998,2999997]) T_r01_Longs_ok rfl (fill_r1 (λ_ _ _=>False) (λtd e2 e3 e7 e8 e11 K=>td=[.raw .beginRound, .code (1::fP)]∧e2=some (ptE 2 b0 6)∧e3=some (ptE 3 b1 7)∧e7=some (ptE 7 b2 8)∧e8=some ⟨8,none, .slice la l.length lc, .pt 9 .slice⟩∧e11=some ⟨11,none, .int .i64 x, .no⟩∧
  K=kb ra rc xs bb Dm lr (.deferred (some [])) (.loop (recOf fillF tmps #[31,32] (Sl.sub fillB (0::fP)) (Sl.sub fillB (1::fP)) Dm .ready none)) (fB pv hb b0 b1 b2 s t p h k pg la lc l 4 st ad)) pv hb b0 b1 b2 bb Dm lr s t p h k pg i x st ad ra la rc lc xs l (.deferred (some [])) (.loop (fRec tmps Dm))) (λtd L K h=>?_) ⟨rfl,rfl,rfl,rfl,rfl,rfl,rfl⟩
 obtain ⟨rfl,e2,e3,e7,e8,e11,rfl⟩:=h
 refine SW.sub Dg (L':=⟨11,none, .int .i64 x, .no⟩::fL2 b0 b1 b2 la lc l 4) ?_ (λe he=>by
  simp only [fL2,iN,List.not_mem_nil,or_false] at he
  rcases he with rfl|rfl|rfl|rfl|rfl
  ·exact (look_mem e11).1
  ·exact (look_mem e2).1
  ·exact (look_mem e3).1
  ·exact (look_mem e7).1
  ·exact (look_mem e8).1)
 refine SW.busy Dg (f:=⟨fillF,some lr,[]⟩) (l:=lr) (j:=3) (s':= .any (λ_=>pt lr (.loop {recOf fillF tmps #[31,32] (Sl.sub fillB (0::fP)) (Sl.sub fillB (1::fP)) Dm .ready none with state:= .busy})) []) rfl rfl rfl rfl rfl ?_
 show SW Dg Tryz.prog ⟨fillF,some lr,[]⟩ Rr fillB fillN E G [.code (1::fP)] (⟨11,none, .int .i64 x, .no⟩::fL2 b0 b1 b2 la lc l 4) (kb ra rc xs bb Dm lr (.deferred (some [])) (.loop {fRec tmps Dm with state:= .busy}) (fB pv hb b0 b1 b2 s t p h k pg la lc l 4 st ad))
 refine pieceE (I:=[2999998,2999997,61]) T_r01_Longs_ok rfl (fill_r2 (λ_ _ _=>False) (λtd _ K=>rdP G ra rc xs bb Dm lr tmps pv hb b0 b1 b2 s t p h k pg la lc l (fillY t p h k pg st i x) td K)
  pv hb b0 b1 b2 bb Dm lr s t p h k pg x st ad ra la rc lc xs l (.deferred (some [])) (.loop {fRec tmps Dm with state:= .busy})) (λtd L K hz=>?_) ?_
 ·obtain ⟨rfl,h3,ad',is,hn,hg⟩:=(hz:rdP G ra rc xs bb Dm lr tmps pv hb b0 b1 b2 s t p h k pg la lc l (fillY t p h k pg st i x) td K)
  exact SW.on Dg (f:=⟨fillF,some lr,[]⟩) (l:=lr) (j:=3) (q:=⟨0,0,none⟩) (s:= .any (λ_=>pt lr (.loop {fRec tmps Dm with state:= .busy})) []) (s':= .any (λ_=>pt lr (.loop (fRec tmps Dm))) []) rfl h3 rfl rfl λw' _ hS=>H w' ad' (hS.ord Dg is hn hg)
 ·intro r0 h0 ⟨q0,q1,q2,q3,q4,q5,q6,q7,q8,qb⟩ h1
  refine ⟨hO, λ_ a0 c0 a1 c1 a2 c2 a3 c3 a4 c4 a5 c5 a6 c6 a7 c7 a8 c8 b12=>⟨rfl,rfl, λn=>match n with
   |0=>(a0.map decA,c0)|1=>(a1.map decA,c1)|2=>(a2.map decA,c2)|3=>(a3.map decA,c3)|4=>(a4.map decA,c4)|5=>(a5.map decA,c5)|6=>(a6.map decA,c6)|7=>(a7.map decA,c7)|_=>(a8.map decA,c8),
   [0,1,2,3,4,5,6,7,8,9,19,20,21,22,23,24,25,26,27],rfl,?_⟩⟩
  rw [fillY_eq h0 h1]
  kernel_rfl
theorem fill_on_sw {b0 b1 b2:Nat} {s:VS} {pg:Int} {pk:LL} {ad:Ad9} {la:Option Addr} {lc:Nat} {l:LI} {R:Ending→World→Prop} (hO:pkO pk) (hl:1≤l.length∧l.length≤1000000)
 (hR:∀w' ad',SatK Dg E G w' (hK pv hb s t p h (bwF (fillY t p h k pg) (l.drop 1) (l.drop 1).length pk) ad')→R (.returned (.tuple #[.int .i64 pg, .int .i64 (l.getD 0 0), .bool true])) w'):
 SW Dg Tryz.prog fillF R fillB fillN E G [.ops [0,0,1,1,1] 0, .code [1,0,1,1,1], .code [1,1,1,1]] (fL1 b0 b1 b2 la lc l) (fK1 pv hb b0 b1 b2 s t p h k pg pk ad la lc l):=by
 refine pieceF (f:=fillF) T_r01_Longs_ok Tryz.func30 (fill_on (λ_ _ _=>False) (λtd e2 e3 e7 e8 e30 K=>∃bb,td=[.code fP, .blk 0, .code [1,1,1,1]]∧e2=some (ptE 2 b0 11)∧e3=some (ptE 3 b1 12)∧e7=some (ptE 7 b2 13)∧e8=some ⟨8,none, .slice la l.length lc, .pt 14 .slice⟩∧
  e30=some ⟨30,none, .func (.func 120) #[] #[.pointer (some ⟨bb,0,none⟩)], .many [.pt 16 (.cell 0)]⟩∧
  K=fK1 pv hb b0 b1 b2 s t p h k pg pk ad la lc l++[.ro (dropA la lc 1 1) (l.length-1) (lc-1) [.fz (l.drop 1)], .cells bb 42 [(.slice (dropA la lc 1 1) (l.length-1) (lc-1), .pt 15 .slice)]])
  pv hb b0 b1 b2 s t p h k pg pk ad la lc l) (λ_ _ _ _ h=>h.elim) (λtd L K h=>?_) ⟨⟨by decide,by omega⟩, λ_ bb=>⟨bb,rfl,rfl,rfl,rfl,rfl,rfl,rfl⟩⟩
 obtain ⟨bb,rfl,e2,e3,e7,e8,e30,rfl⟩:=h
 refine SW.re Dg (α:=Unit) (Kf:= λ_=> .ro (dropA la lc 1 1) (l.drop 1).length (lc-1) [.fz (l.drop 1)]:: .cells bb 42 [(.slice (dropA la lc 1 1) (l.drop 1).length (lc-1), .pt 0 .slice)]::fB pv hb b0 b1 b2 s t p h k pg la lc l 2 pk ad)
  (L':=⟨30,none, .func (.func 120) #[] #[.pointer (some ⟨bb,0,none⟩)], .many [.pt 1 (.cell 0)]⟩::fL2 b0 b1 b2 la lc l 2)
  (λw hS=>⟨(),?_⟩) (λ_=>KOk_all (by simp [fB,hC,ro9,cellsAll,psOk,pOk,cOk])) (λ_ e he=>?_) λ_=>?_
 ·rw [←fillLen]
  exact hS.ord Dg [15,16,0,1,11,12,13,14,2,3,4,5,6,7,8,9,10] rfl rfl
 ·rcases List.mem_cons.1 he with rfl|he
  ·exact ⟨rfl,⟨_,(look_mem e30).1⟩,⟨(pOk_pt).2 ⟨_,rfl,rfl⟩,trivial⟩⟩
  ·refine fL2_re (look_mem e2).1 (look_mem e3).1 (look_mem e7).1 (look_mem e8).1 ?_ ?_ ?_ ?_ e he<;>exact (pOk_pt).2 ⟨_,rfl,rfl⟩
 refine bw_range (f:=fillF) (p:=fP) (t:=30) (p1:=31) (p2:=32) (yf:=fillY t p h k pg) (α:=Ad9) (bx:= λst ad=>fB pv hb b0 b1 b2 s t p h k pg la lc l 4 st ad) (I:=pkO) (st0:=pk) (x0:=ad) (L':=fL2 b0 b1 b2 la lc l 4) (pr:= .many [.pt 1 (.cell 0)])
  (isP:=[2,3,4,5,6,7,8,9,10,11,12,13,14,15,16,17,18,0,1]) (isU:=[0,2,1,3,4,5,6,7,8,9,10,11,12,13,14,15,16,17,18]) (isB:=[0,1,17,18,2,3,4,5,6,7,8,9,10,11,12,13,14,15,16])
  (by kernel_rfl) (by simp) (iW (by kernel_rfl)) (iW (by kernel_rfl)) (by decide) (by rw [List.length_drop];omega) hO (λst i x hst _=>fillY_O hst) rfl (λ_ _ _ _=>rfl)
  (λst ad Dm lr o1 o2 e he=>?_) (λ_ _ _ _ _ _=>fB_kok _ _ _ _ _ _ _ _ _ _ _ _ _ _ _ _ _ _ _ _ _ _ _ _) rfl (λ_ _ _ _ _ _=>rfl) rfl (λ_ _ _ _ _ _=>rfl) (λtmps Dm lr st ad i x hst _ Rr H=>fill_round hst Rr H) λDm lr ad o2=>?_
 ·have he':=he
  simp only [fL2,iN,List.not_mem_nil,or_false] at he'
  refine ⟨?_,?_,fL2_re (b0:=b0) (b1:=b1) (b2:=b2) (la:=la) (lc:=lc) (l:=l) (v:=4) (q2:= .pt 4 (.cell 0)) (q3:= .pt 5 (.cell 0)) (q7:= .pt 6 (.cell 0)) (q8:= .pt 7 .slice) (by simp [fL2]) (by simp [fL2]) (by simp [fL2]) (by simp [fL2]) ?_ ?_ ?_ ?_ e he⟩
  ·rcases he' with rfl|rfl|rfl|rfl<;>simp
  ·rcases he' with rfl|rfl|rfl|rfl<;>simp
  all_goals exact (pOk_pt).2 ⟨_,rfl,rfl⟩
 ·generalize bwF (fillY t p h k pg) (l.drop 1) (l.drop 1).length pk=st at hR ⊢
  refine pieceE (I:=[2999998,2999997]) T_r01_Longs_ok rfl (fill_end (λ_ _ _=>False) (λtd e4 e5 e6 K=>td=[.code [1,1,1,1,1]]∧e4=some ⟨4,none, .int .i64 pg, .no⟩∧e5=some ⟨5,none, .int .i64 (l.getD 0 0), .no⟩∧e6=some ⟨6,none, .bool true, .no⟩∧
   K=kb (dropA la lc 1 1) (lc-1) (l.drop 1) bb Dm lr (.deferred (some [])) o2 (fB pv hb b0 b1 b2 s t p h k pg la lc l 4 st ad)) pv hb b0 b1 b2 bb Dm lr s t p h k pg st ad (dropA la lc 1 1) la (lc-1) lc (l.drop 1) l (.deferred (some [])) o2) (λtd L K h=>?_) ⟨⟨by decide,by omega⟩, λ_=>⟨rfl,rfl,rfl,rfl,rfl⟩⟩
  obtain ⟨rfl,e4,e5,e6,rfl⟩:=h
  refine SW.sub Dg (L':=[⟨4,none, .int .i64 pg, .no⟩,⟨5,none, .int .i64 (l.getD 0 0), .no⟩,⟨6,none, .bool true, .no⟩]) ?_ (λe he=>by
   simp only [iN,List.not_mem_nil,or_false] at he
   rcases he with rfl|rfl|rfl
   ·exact (look_mem e4).1
   ·exact (look_mem e5).1
   ·exact (look_mem e6).1)
  exact SW.finish_mark Dg (f:=⟨fillF,none,[Sl.mark Dm]⟩) (Dm:=Dm) (j:=2) (q:=⟨0,0,none⟩) (s:= .any (λ_=>pt Dm (.deferred (some []))) []) (s':= .any (λ_=>pt Dm (.deferred none)) []) (vs:=[(.int .i64 pg, .no),(.int .i64 (l.getD 0 0), .no),(.bool true, .no)]) rfl rfl Tryz.func30 (.inr ⟨[],by kernel_rfl⟩) rfl rfl rfl (by kernel_rfl)
   λw' hS=>hR w' ad (hS.ord Dg [4,5,10,11,12,13,14,15,16,17,18] rfl rfl)
def stP (E:Ev) (G:Hp) (pv:Addr) (hb:Nat) (t p h k:Int) (pk:LL) (ad:Ad9) (r:VS×Int×LI×Bool) (td:List Ab) (e2 e3 e7 e8:Option Ent) (K:List (Chunk Sg)):Prop:=
 r.2.2.2=true∧td=[.ops [0,0,1,1,1] 0, .code [1,0,1,1,1], .code [1,1,1,1]]∧∃(b0 b1 b2:Nat) (la:Option Addr) (lc:Nat) (q7 q8:Pr),e2=some (ptE 2 b0 11)∧e3=some (ptE 3 b1 12)∧e7=some ⟨7,none, .pointer (some ⟨b2,0,none⟩),q7⟩∧e8=some ⟨8,none, .slice la r.2.2.1.length lc,q8⟩∧
  ∀w,SatK Dg E G w K→SatK Dg E G w (fK1 pv hb b0 b1 b2 r.1 t p h k r.2.1 pk ad la lc r.2.2.1)
theorem fill_calls {w:World} {s:VS} {pk:LL} {ad:Ad9} {R:Ending→World→Prop} (hO:pkO pk) (hp:p≤1024) (hP:fillP s t p h k) (hS:SatK Dg E G w (hK pv hb s t p h pk ad))
 (hR:∀w' ad',SatK Dg E G w' (hK pv hb (fillR s t p h k pk).1 t p h (fillR s t p h k pk).2.1 ad')→R (.returned (.tuple #[.int .i64 (fillR s t p h k pk).2.2.1, .int .i64 (fillR s t p h k pk).2.2.2.1, .bool (fillR s t p h k pk).2.2.2.2])) w'):
 Calls Tryz.prog 30 #[.pointer (some ⟨hb,0,none⟩), .int .i64 k] w R:=by
 refine calls_of_WT Tryz.func30 (c:=fillB) (by kernel_rfl) ?_
 have hk:KOk (hK pv hb s t p h pk ad):=KOk_all (by simp [hK,hC,ro9,cellsAll,psOk,pOk,cOk])
 have hgo:SW Dg Tryz.prog fillF R fillB fillN E G [.code []] (argEnts 0 [(.pointer (some ⟨hb,0,none⟩), .pt 1 (.cell 0)),(.int .i64 k, .no)]) (hK pv hb s t p h pk ad):=by
  refine pieceF (f:=fillF) T_r01_Longs_ok Tryz.func30 (fill_begin (λv _ K=>(slab_Pick s t p h k 4).2.2.2=false∧v= .tuple #[.int .i64 0, .int .i64 0, .bool false]∧∀w,SatK Dg E G w K→SatK Dg E G w (hK pv hb (slab_Pick s t p h k 4).1 t p h pk ad))
   (λtd e2 e3 e7 e8 _ K=>stP E G pv hb t p h k pk ad (slab_Pick s t p h k 4) td e2 e3 e7 e8 K) pv hb s t p h k pk ad) (λv _ K w hz hS=>?_) (λtd L K hz=>?_) ?_
  ·obtain ⟨h1,rfl,h2⟩:=hz
   have e:fillR s t p h k pk=((slab_Pick s t p h k 4).1,pk,0,0,false):=by unfold fillR;rw [h1];rfl
   rw [e] at hR
   exact hR w ad (h2 w hS)
  ·obtain ⟨h1,rfl,b0,b1,b2,la,lc,q7,q8,e2,e3,e7,e8,h2⟩:=(hz:stP E G pv hb t p h k pk ad (slab_Pick s t p h k 4) td (Sl.look L 2) (Sl.look L 3) (Sl.look L 7) (Sl.look L 8) K)
   have e:fillR s t p h k pk=((slab_Pick s t p h k 4).1,bwF (fillY t p h k (slab_Pick s t p h k 4).2.1) ((slab_Pick s t p h k 4).2.2.1.drop 1) ((slab_Pick s t p h k 4).2.2.1.drop 1).length pk,(slab_Pick s t p h k 4).2.1,(slab_Pick s t p h k 4).2.2.1.getD 0 0,true):=by unfold fillR;rw [h1];rfl
   rw [e] at hR
   have hl:=hP h1
   generalize slab_Pick s t p h k 4=r at hR h2 hl e8
   obtain ⟨s1,pg,l,ok⟩:=r
   refine SW.re Dg (α:=Unit) (Kf:= λ_=>fK1 pv hb b0 b1 b2 s1 t p h k pg pk ad la lc l) (L':=fL1 b0 b1 b2 la lc l) (λw hS=>⟨(),h2 w hS⟩) (λ_=>KOk_all (by simp [fK1,hK,hC,ro9,cellsAll,psOk,pOk,cOk])) (λ_ e he=>?_) λ_=>?_
   ·simp only [fL1,iN,List.not_mem_nil,or_false] at he
    rcases he with rfl|rfl|rfl|rfl
    ·exact ⟨rfl,⟨_,(look_mem e2).1⟩,(pOk_pt).2 ⟨_,rfl,rfl⟩⟩
    ·exact ⟨rfl,⟨_,(look_mem e3).1⟩,(pOk_pt).2 ⟨_,rfl,rfl⟩⟩
    ·exact ⟨rfl,⟨_,(look_mem e7).1⟩,(pOk_pt).2 ⟨_,rfl,rfl⟩⟩
    ·exact ⟨rfl,⟨_,(look_mem e8).1⟩,(pOk_pt).2 ⟨_,rfl,rfl⟩⟩
   ·exact fill_on_sw hO hl hR
  ·intro b0 b1
   refine ⟨λr2 hr=>⟨hp, λ_ b4 c4 b5=>⟨λhc=>?_, λhc=>?_⟩⟩, λb2 r2 hr=>⟨hp, λ_ b5 c5=>⟨λhc=>?_, λhc=>?_⟩⟩⟩
   ·rw [←hr]
    exact ⟨(jB _).mp hc,rfl, λw hS=>hS.ord Dg [0,1,2,3,4,5,6,7,8,9,10] rfl (by kernel_rfl)⟩
   ·rw [←hr]
    exact ⟨(jF _).mp hc,rfl,b0,b1,b5,_,_,_,_,rfl,rfl,rfl,rfl, λw hS=>(hS.fz Dg (i:=13) rfl).ord Dg [0,1,2,3,4,5,6,7,8,9,10,11,12,14,13] rfl (by kernel_rfl)⟩
   ·rw [←hr]
    exact ⟨(jB _).mp hc,rfl, λw hS=>hS.ord Dg [0,1,2,3,4,5,6,7,8,9,10] rfl (by kernel_rfl)⟩
   ·rw [←hr]
    exact ⟨(jF _).mp hc,rfl,b0,b1,b2,_,_,_,_,rfl,rfl,rfl,rfl, λw hS=>(hS.fz Dg (i:=14) rfl).ord Dg [0,1,2,3,4,5,6,7,8,9,10,11,12,13,14] rfl (by kernel_rfl)⟩
 exact hgo _ w (Fr.start (n:=fillN) [(.pointer (some ⟨hb,0,none⟩), .pt 1 (.cell 0)),(.int .i64 k, .no)] (iW (by kernel_rfl)) (λx hx=>by
  simp only [iN,List.not_mem_nil,or_false] at hx
  rcases hx with rfl|rfl
  ·exact (pOk_pt).2 ⟨_,rfl,rfl⟩
  ·exact pOk_no) hk) hS
end
section
open Go.Sl
def tup9 (b:Bool) (a:Int) (u:VS) (st:LL):VS×Int×LI×LI×LI×LI×LI×LI×LI×LI×LI×Bool:=(u,a,gL st 0,gL st 1,gL st 2,gL st 3,gL st 4,gL st 5,gL st 6,gL st 7,gL st 8,b)
def r18_Slot (t p h k a:Int):Int×Int:=(iF (r06_Page t p h a),iF (r06_Slot t p h k (iF (iH (r06_Page t p h a)))))
abbrev c_r18_Slot:Ct Sg:=⟨none,false,[.agg [.i .i64, .i .i64, .i .i64], .i .i64, .i .i64], .tup [.i .i64, .i .i64]⟩
def e_r18_Slot:Entry Sg:=entC c_r18_Slot r18_Slot (λ_ _ _ _ _=>[])
theorem r18_Slot_ok:EOk 34 e_r18_Slot:=
 ent_ok Dg T_small_Flush_ok (I:=[]) Tryz.func34 mix (B:=bodyOf Tryz.f34) (by kernel_rfl) rfl (by kernel_rfl) 400
  λ_ t p h k a hb hp=>⟨(r18_Slot t p h k a), .t, λ_ _ _=>by kernel_rfl,trivial,rfl⟩
def T_r18_Slot:Tb:=(34,e_r18_Slot)::T_small_Flush
theorem T_r18_Slot_ok:TOk T_r18_Slot:=tc_ r18_Slot_ok T_small_Flush_ok
def Bg (s:VS) (t p h:Int) (x0 x1 x2 x3 x4 x5 x6 x7 x8:LI) (pg sl:Int):VS×LI×LI×LI×LI×LI×LI×LI×LI×LI:=bif decide (sl<0)||decide (sl>31) then (s,x0,x1,x2,x3,x4,x5,x6,x7,x8) else freeR (freeU s t p h pg sl) t p h pg sl (freeK s t p h pg) (addr_At t p h (freeK s t p h pg) pg sl).1 x0 x1 x2 x3 x4 x5 x6 x7 x8
abbrev KJ:Ct Sg:=⟨some Ap,false,[.agg [.i .i64, .i .i64, .i .i64], .agg [.ro [some .i8], .ro [some .i8], .ro [some .i8], .ro [some .i8], .ro [some .i8], .ro [some .i8], .ro [some .i8], .ro [some .i8], .ro [some .i8]], .i .i64, .i .i64], .agg [.new 2 [some .i8], .new 2 [some .i8], .new 2 [some .i8], .new 2 [some .i8], .new 2 [some .i8], .new 2 [some .i8], .new 2 [some .i8], .new 2 [some .i8], .new 2 [some .i8]]⟩
def GZ:Entry Sg:=entC KJ Bg (λs t p h x0 x1 x2 x3 x4 x5 x6 x7 x8 pg sl=>[p≤1024,pkB x0 x1 x2 x3 x4 x5 x6 x7 x8,0≤pg])
abbrev D5 (R_:VS×LI×LI×LI×LI×LI×LI×LI×LI×LI→Prop) (r30:VS) (r17:LI×LI×LI×LI×LI×LI×LI×LI×LI×Bool):Prop:=(R_ ((r30,r17.1,r17.2.1,r17.2.2.1,r17.2.2.2.1,r17.2.2.2.2.1,r17.2.2.2.2.2.1,r17.2.2.2.2.2.2.1,r17.2.2.2.2.2.2.2.1,r17.2.2.2.2.2.2.2.2.1)))
def Ha (s:VS) (t p h:Int) (x0 x1 x2 x3 x4 x5 x6 x7 x8:LI) (pg sl:Int) (R_:VS×LI×LI×LI×LI×LI×LI×LI×LI×LI→Prop):Prop:=(bw_ (decide (sl<0)||decide (sl>31)) (R_ ((s,x0,x1,x2,x3,x4,x5,x6,x7,x8))) (∀r4:VS×Int×Int×Int,r4=(Az s t p h pg)→(∀r5:Int,r5=(r07_Slots t p h pg)→(∀r6:VS×Int,r6=((VS.read r4.1 r5,VS.get r4.1 r5))→(∀r7:Bool,r7=(r01_Bit r6.2 sl)→(bw_ (r7) (∀r9:Int,r9=(BQ sl)→(∀r10:Int,r10=(r07_Slots t p h pg)→(∀r11:VS,r11=(VS.set r6.1 r10 (iA iO (r6.2-r9)))→(aw_ (bd32 (iA iO (r6.2-r9))) (∀r13:VS×Int,r13=((VS.read r11 1,VS.get r11 1))→(∀r14:VS,r14=(VS.set r13.1 1 (iA iO (r13.2-1)))→(aw_ (bd32 (iA iO (r13.2-1))) (∀r16:Int×Bool,r16=(r06_At t p h r4.2.2.2 pg sl)→(∀r17:LI×LI×LI×LI×LI×LI×LI×LI×LI×Bool,r17=(BR x0 x1 x2 x3 x4 x5 x6 x7 x8 r4.2.2.2 r16.1)→(aw_ (pkB x0 x1 x2 x3 x4 x5 x6 x7 x8) (bw_ (!r17.2.2.2.2.2.2.2.2.2) (∀r30:VS,r30=(BC r14 t p h pg sl)→(aw_ (p≤1024) (aw_ (0≤pg) (D5 R_ r30 r17)))) (D5 R_ r14 r17)))))))))))) (∀r9:Int,r9=(r07_Slots t p h pg)→(∀r10:VS,r10=(VS.set r6.1 r9 r6.2)→(aw_ (bd32 r6.2) (∀r12:VS×Int,r12=((VS.read r10 1,VS.get r10 1))→(∀r13:VS,r13=(VS.set r12.1 1 (iA iO (r12.2-1)))→(aw_ (bd32 (iA iO (r12.2-1))) (∀r15:Int×Bool,r15=(r06_At t p h r4.2.2.2 pg sl)→(∀r16:LI×LI×LI×LI×LI×LI×LI×LI×LI×Bool,r16=(BR x0 x1 x2 x3 x4 x5 x6 x7 x8 r4.2.2.2 r15.1)→(aw_ (pkB x0 x1 x2 x3 x4 x5 x6 x7 x8) (bw_ (!r16.2.2.2.2.2.2.2.2.2) (∀r29:VS,r29=(BC r13 t p h pg sl)→(aw_ (p≤1024) (aw_ (0≤pg) (D5 R_ r29 r16)))) (D5 R_ r13 r16)))))))))))))))))
theorem Ij (s:VS) (t p h:Int) (x0 x1 x2 x3 x4 x5 x6 x7 x8:LI) (pg sl:Int) (hp0:p≤1024) (hp1:pkB x0 x1 x2 x3 x4 x5 x6 x7 x8) (hp2:0≤pg) (hl0:x0.length≤9223372036854775807) (hl1:x1.length≤9223372036854775807) (hl2:x2.length≤9223372036854775807) (hl3:x3.length≤9223372036854775807) (hl4:x4.length≤9223372036854775807) (hl5:x5.length≤9223372036854775807) (hl6:x6.length≤9223372036854775807) (hl7:x7.length≤9223372036854775807) (hl8:x8.length≤9223372036854775807):Ha s t p h x0 x1 x2 x3 x4 x5 x6 x7 x8 pg sl (λr__=>r__=(Bg s t p h x0 x1 x2 x3 x4 x5 x6 x7 x8 pg sl)):=by
 unfold Ha D5
 refine ⟨λhc=>?_, λhc=>?_⟩
 ·show _=Bg s t p h x0 x1 x2 x3 x4 x5 x6 x7 x8 pg sl
  unfold Bg
  rw [hc];rfl
 have hb:0≤sl∧sl<32:=by simp only [jI,decide_eq_false_iff_not] at hc;omega
 have fin:∀u2,u2=endS (s.read (Cf.info ⟨t,p,h⟩ pg)) t p h pg sl→∀r16:Int×Bool,r16=r06_At t p h (iGet (s.get (Cf.info ⟨t,p,h⟩ pg))).c pg sl→∀r17:LI×LI×LI×LI×LI×LI×LI×LI×LI×Bool,r17=BR x0 x1 x2 x3 x4 x5 x6 x7 x8 (iGet (s.get (Cf.info ⟨t,p,h⟩ pg))).c r16.1→
  Bg s t p h x0 x1 x2 x3 x4 x5 x6 x7 x8 pg sl=(bif r17.2.2.2.2.2.2.2.2.2 then u2 else slab_Give u2 t p h pg sl,r17.1,r17.2.1,r17.2.2.1,r17.2.2.2.1,r17.2.2.2.2.1,r17.2.2.2.2.2.1,r17.2.2.2.2.2.2.1,r17.2.2.2.2.2.2.2.1,r17.2.2.2.2.2.2.2.2.1):=by
  rintro u2 rfl r16 rfl r17 rfl
  unfold Bg
  rw [hc,cond_false,At_eq]
  rfl
 simp only [r07_Slots_eq,Az,pInfo,Pg.run_get,Pg.run_ret]
 have hT:=VS.get_bd (s.read (Cf.info ⟨t,p,h⟩ pg)) (Cf.slots ⟨t,p,h⟩ pg)
 rintro r4 rfl r5 rfl r6 rfl r7 rfl
 rw [bit_eq hT]
 refine ⟨λhbt=>?_, λhbt=>?_⟩
 ·rintro r9 rfl r10 rfl r11 rfl
  rw [JK hT hb hbt]
  refine ⟨(bitAt_clrB hT hb).1, λ_=>?_⟩
  rintro r13 rfl r14 rfl
  refine ⟨wu32_bd _, λ_ r16 h16 r17 h17=>⟨hp1, λ_=>?_⟩⟩
  have e:=fin _ rfl r16 h16 r17 h17
  refine ⟨λhz=>?_, λhz=>?_⟩
  ·rw [(jB _).mp hz] at e
   rintro r30 rfl
   exact ⟨hp0, λ_=>⟨hp2, λ_=>e.symm⟩⟩
  ·rw [(jF _).mp hz] at e
   exact e.symm
 ·rintro r9 rfl r10 rfl
  have hcl:clrB ((s.read (Cf.info ⟨t,p,h⟩ pg)).get (Cf.slots ⟨t,p,h⟩ pg)) sl=(s.read (Cf.info ⟨t,p,h⟩ pg)).get (Cf.slots ⟨t,p,h⟩ pg):=by unfold clrB;rw [hbt];rfl
  refine ⟨hT, λ_=>?_⟩
  rintro r12 rfl r13 rfl
  refine ⟨wu32_bd _, λ_ r16 h16 r17 h17=>⟨hp1, λ_=>?_⟩⟩
  have e9:endS (s.read (Cf.info ⟨t,p,h⟩ pg)) t p h pg sl=((((s.read (Cf.info ⟨t,p,h⟩ pg)).read (Cf.slots ⟨t,p,h⟩ pg)).set (Cf.slots ⟨t,p,h⟩ pg) (clrB ((s.read (Cf.info ⟨t,p,h⟩ pg)).get (Cf.slots ⟨t,p,h⟩ pg)) sl)).read 1).set 1 (iA .u32 (((((s.read (Cf.info ⟨t,p,h⟩ pg)).read (Cf.slots ⟨t,p,h⟩ pg)).set (Cf.slots ⟨t,p,h⟩ pg) (clrB ((s.read (Cf.info ⟨t,p,h⟩ pg)).get (Cf.slots ⟨t,p,h⟩ pg)) sl))).get 1-1)):=rfl
  rw [hcl] at e9
  have e:=fin _ e9.symm r16 h16 r17 h17
  refine ⟨λhz=>?_, λhz=>?_⟩
  ·rw [(jB _).mp hz] at e
   rintro r30 rfl
   exact ⟨hp0, λ_=>⟨hp2, λ_=>e.symm⟩⟩
  ·rw [(jF _).mp hz] at e
   exact e.symm
theorem JE:EOk 20 GZ:=
 ent_w0 Dg T_r18_Slot_ok (I:=[2999998]) Tryz.func20 mix (B:=bodyOf Tryz.f20) (by kernel_rfl) rfl (by kernel_rfl) 400
  λ_ s t p h x0 x1 x2 x3 x4 x5 x6 x7 x8 pg sl hb hp=>⟨_, λ_ _ _=>by kernel_rfl,Ij s t p h x0 x1 x2 x3 x4 x5 x6 x7 x8 pg sl (hp _ (.head _)) (hp _ (.tail _ (.head _))) (hp _ (.tail _ (.tail _ (.head _)))) (hb.2.2.1.1) (hb.2.2.1.2.1) (hb.2.2.1.2.2.1) (hb.2.2.1.2.2.2.1) (hb.2.2.1.2.2.2.2.1) (hb.2.2.1.2.2.2.2.2.1) (hb.2.2.1.2.2.2.2.2.2.1) (hb.2.2.1.2.2.2.2.2.2.2.1) (hb.2.2.1.2.2.2.2.2.2.2.2.1)⟩
def He:Tb:=(20,GZ)::T_r18_Slot
theorem Ed:TOk He:=tc_ JE T_r18_Slot_ok
def Be (s:VS) (t p h:Int) (x0 x1 x2 x3 x4 x5 x6 x7 x8:LI) (k:Int):VS×Int×LI×LI×LI×LI×LI×LI×LI×LI×LI:=flushR s t p h x0 x1 x2 x3 x4 x5 x6 x7 x8 k
abbrev JF:Ct Sg:=⟨some Ap,false,[.agg [.i .i64, .i .i64, .i .i64], .agg [.ro [some .i8], .ro [some .i8], .ro [some .i8], .ro [some .i8], .ro [some .i8], .ro [some .i8], .ro [some .i8], .ro [some .i8], .ro [some .i8]], .i .i64], .tup [.i .i64, .agg [.new 2 [some .i8], .new 2 [some .i8], .new 2 [some .i8], .new 2 [some .i8], .new 2 [some .i8], .new 2 [some .i8], .new 2 [some .i8], .new 2 [some .i8], .new 2 [some .i8]]]⟩
def Fz:Entry Sg:=entC JF Be (λs t p h x0 x1 x2 x3 x4 x5 x6 x7 x8 k=>[p≤1024,pkB x0 x1 x2 x3 x4 x5 x6 x7 x8])
def F5 (s:VS) (t p h:Int) (x0 x1 x2 x3 x4 x5 x6 x7 x8:LI) (k:Int) (Q0:VS→LI→LI→LI→LI→LI→LI→LI→LI→LI→LI→Int→Int→Prop) (R_:VS×Int×LI×LI×LI×LI×LI×LI×LI×LI×LI→Prop):Prop:=(∀r3:Int×Bool,r3=(CS x0 x1 x2 x3 x4 x5 x6 x7 x8 k)→(aw_ (pkB x0 x1 x2 x3 x4 x5 x6 x7 x8) (bw_ (!r3.2) (R_ ((s,0,x0,x1,x2,x3,x4,x5,x6,x7,x8))) (∀r6:Int×Int,r6=(r18_Slot t p h k r3.1)→(∀r7:LI,r7=(CU t p h x0 x1 x2 x3 x4 x5 x6 x7 x8 k r6.1)→(aw_ (pkB x0 x1 x2 x3 x4 x5 x6 x7 x8) (Q0 (s) ([]) ([]) ([]) ([]) ([]) ([]) ([]) ([]) ([]) (r7) r6.1 (0))))))))
def EM (s:VS) (t p h:Int) (x0 x1 x2 x3 x4 x5 x6 x7 x8:LI) (k:Int) (u:VS) (z0 z1 z2 z3 z4 z5 z6 z7 z8 l:LI) (pg i:Int) (Q0:VS→LI→LI→LI→LI→LI→LI→LI→LI→LI→LI→Int→Int→Prop) (R_:VS×Int×LI×LI×LI×LI×LI×LI×LI×LI×LI→Prop):Prop:=(bw_ (decide (i<(↑(lenC [Col.fz l]):Int))) (aw_ (0≤i∧i<(↑(lenC [Col.fz l]):Int)) (∀r2:VS,r2=(BC u t p h pg (iH (r18_Slot t p h k (iE l (iJ i) 0))))→(aw_ (p≤1024) (aw_ (0≤pg) (Q0 (r2) (z0) (z1) (z2) (z3) (z4) (z5) (z6) (z7) (z8) (l) (pg) (iA iB (i+1))))))) (∀r1:LI×LI×LI×LI×LI×LI×LI×LI×LI,r1=(CJ t p h x0 x1 x2 x3 x4 x5 x6 x7 x8 k pg)→(aw_ (pkB x0 x1 x2 x3 x4 x5 x6 x7 x8) (R_ ((u,(↑(lenC [Col.fz l]):Int),r1.1,r1.2.1,r1.2.2.1,r1.2.2.2.1,r1.2.2.2.2.1,r1.2.2.2.2.2.1,r1.2.2.2.2.2.2.1,r1.2.2.2.2.2.2.2.1,r1.2.2.2.2.2.2.2.2))))))
def AZ (s:VS) (t p h:Int) (x0 x1 x2 x3 x4 x5 x6 x7 x8:LI) (k:Int) (u:VS) (z0 z1 z2 z3 z4 z5 z6 z7 z8 l:LI) (pg i:Int) (r_:VS×Int×LI×LI×LI×LI×LI×LI×LI×LI×LI):Prop:=0≤i∧i≤l.length∧l.length≤1000000∧0≤pg∧(∀a∈l,i64R a)∧r_=(flushF u t p h k pg (l.drop i.toNat),(l.length:Int),pkSel k 0 ((pkGet k x0 x1 x2 x3 x4 x5 x6 x7 x8).filter λa=>!onP t p h pg a) x0,pkSel k 1 ((pkGet k x0 x1 x2 x3 x4 x5 x6 x7 x8).filter λa=>!onP t p h pg a) x1,pkSel k 2 ((pkGet k x0 x1 x2 x3 x4 x5 x6 x7 x8).filter λa=>!onP t p h pg a) x2,pkSel k 3 ((pkGet k x0 x1 x2 x3 x4 x5 x6 x7 x8).filter λa=>!onP t p h pg a) x3,pkSel k 4 ((pkGet k x0 x1 x2 x3 x4 x5 x6 x7 x8).filter λa=>!onP t p h pg a) x4,pkSel k 5 ((pkGet k x0 x1 x2 x3 x4 x5 x6 x7 x8).filter λa=>!onP t p h pg a) x5,pkSel k 6 ((pkGet k x0 x1 x2 x3 x4 x5 x6 x7 x8).filter λa=>!onP t p h pg a) x6,pkSel k 7 ((pkGet k x0 x1 x2 x3 x4 x5 x6 x7 x8).filter λa=>!onP t p h pg a) x7,pkSel k 8 ((pkGet k x0 x1 x2 x3 x4 x5 x6 x7 x8).filter λa=>!onP t p h pg a) x8)
abbrev CV (p0:Addr) (s:VS) (t p h:Int) (x0 x1 x2 x3 x4 x5 x6 x7 x8:LI) (k:Int):Hd Sg:=⟨none,[0,1,0,1,1,1,1,1],[.blk 0, .code [1,1,1,1,1,1]],[0,6,5,9,3,14,12,15],[.objc Ap p0, .box 36 [.roc [.fz (x0)], .roc [.fz (x1)], .roc [.fz (x2)], .roc [.fz (x3)], .roc [.fz (x4)], .roc [.fz (x5)], .roc [.fz (x6)], .roc [.fz (x7)], .roc [.fz (x8)]], .box 23 [.ic .i64 (t), .ic .i64 (p), .ic .i64 (h)], .box 36 [.ro [some .i8], .ro [some .i8], .ro [some .i8], .ro [some .i8], .ro [some .i8], .ro [some .i8], .ro [some .i8], .ro [some .i8], .ro [some .i8]], .ic .i64 (k), .ro [some .i8], .i .i64, .i .i64]⟩
theorem Hf (s:VS) (t p h:Int) (x0 x1 x2 x3 x4 x5 x6 x7 x8:LI) (k:Int) (hp0:p≤1024) (hp1:pkB x0 x1 x2 x3 x4 x5 x6 x7 x8) (hl0:x0.length≤9223372036854775807) (hl1:x1.length≤9223372036854775807) (hl2:x2.length≤9223372036854775807) (hl3:x3.length≤9223372036854775807) (hl4:x4.length≤9223372036854775807) (hl5:x5.length≤9223372036854775807) (hl6:x6.length≤9223372036854775807) (hl7:x7.length≤9223372036854775807) (hl8:x8.length≤9223372036854775807):F5 s t p h x0 x1 x2 x3 x4 x5 x6 x7 x8 k (λu' z0' z1' z2' z3' z4' z5' z6' z7' z8' l' pg' i'=>AZ s t p h x0 x1 x2 x3 x4 x5 x6 x7 x8 k u' z0' z1' z2' z3' z4' z5' z6' z7' z8' l' pg' i' (Be s t p h x0 x1 x2 x3 x4 x5 x6 x7 x8 k)) (λr__=>r__=(Be s t p h x0 x1 x2 x3 x4 x5 x6 x7 x8 k)):=by
 unfold F5
 try unfold AZ
 have hb:=pkB_get hp1 k
 rintro r3 rfl
 refine ⟨hp1, λ_=>⟨λhc=>?_, λhc=>?_⟩⟩
 ·have hc:(lastI (pkGet k x0 x1 x2 x3 x4 x5 x6 x7 x8)).2=false:=(jB _).mp hc
  show _=Be s t p h x0 x1 x2 x3 x4 x5 x6 x7 x8 k
  unfold Be flushR
  rw [hc];rfl
 ·have hc:(lastI (pkGet k x0 x1 x2 x3 x4 x5 x6 x7 x8)).2=true:=(jF _).mp hc
  rintro r6 rfl r7 rfl
  have hlen:(CU t p h x0 x1 x2 x3 x4 x5 x6 x7 x8 k (r18_Slot t p h k (CS x0 x1 x2 x3 x4 x5 x6 x7 x8 k).1).1).length≤1000000:=Nat.le_trans (List.length_filter_le _ _) hb.1
  refine ⟨hp1, λ_=>⟨by omega,?_,hlen,page_nn t p h _ (lastI_i64 hb), λa ha=>hb.2 a (List.mem_filter.mp ha).1,?_⟩⟩
  ·omega
  ·unfold Be flushR
   rw [hc];rfl
theorem Hg (s:VS) (t p h:Int) (x0 x1 x2 x3 x4 x5 x6 x7 x8:LI) (k:Int) (hp0:p≤1024) (hp1:pkB x0 x1 x2 x3 x4 x5 x6 x7 x8) (hl0:x0.length≤9223372036854775807) (hl1:x1.length≤9223372036854775807) (hl2:x2.length≤9223372036854775807) (hl3:x3.length≤9223372036854775807) (hl4:x4.length≤9223372036854775807) (hl5:x5.length≤9223372036854775807) (hl6:x6.length≤9223372036854775807) (hl7:x7.length≤9223372036854775807) (hl8:x8.length≤9223372036854775807) (u:VS) (z0 z1 z2 z3 z4 z5 z6 z7 z8 l:LI) (pg i:Int) {r_:VS×Int×LI×LI×LI×LI×LI×LI×LI×LI×LI} (hI:AZ s t p h x0 x1 x2 x3 x4 x5 x6 x7 x8 k u z0 z1 z2 z3 z4 z5 z6 z7 z8 l pg i r_):EM s t p h x0 x1 x2 x3 x4 x5 x6 x7 x8 k u z0 z1 z2 z3 z4 z5 z6 z7 z8 l pg i (λu' z0' z1' z2' z3' z4' z5' z6' z7' z8' l' pg' i'=>AZ s t p h x0 x1 x2 x3 x4 x5 x6 x7 x8 k u' z0' z1' z2' z3' z4' z5' z6' z7' z8' l' pg' i' r_∧lx (((l'.length:Int)-i').toNat,0,0) (((l.length:Int)-i).toNat,0,0)) (λr__=>r__=r_):=by
 unfold AZ at hI
 unfold EM
 try unfold AZ
 obtain ⟨h0,h1,hl,hpg,ha,hr⟩:=hI
 refine ⟨λhc=>?_, λhc=>?_⟩
 ·simp only [decide_eq_true_eq] at hc
  have hc:i<l.length:=hc
  have hlt:i.toNat<l.length:=by omega
  refine ⟨⟨h0,hc⟩, λ_=>?_⟩
  rintro r2 rfl
  rw [w64 (n:=i+1) (by omega)]
  refine ⟨hp0, λ_=>⟨hpg, λ_=>⟨⟨by omega,by omega,hl,hpg,ha,?_⟩,lxo_⟩⟩⟩
  rw [hr,drop_getD hlt,show (i+1).toNat=i.toNat+1 by omega]
  rfl
 ·simp only [decide_eq_false_iff_not] at hc
  have hc:¬i<l.length:=hc
  rintro r1 rfl
  refine ⟨hp1, λ_=>?_⟩
  show _=r_
  rw [hr,List.drop_eq_nil_of_le (by omega)]
  rfl
theorem Jw:EOk 17 Fz:=
 ent_wp Dg Ed (I:=[2999998,6337000000000,6337000000006,6337000000005,6337000000009,6337000000003,6337000000014,6337000000012,6337000000015]) Tryz.func17 mix (B:=bodyOf Tryz.f17) (by kernel_rfl) rfl (by kernel_rfl) 400
  λp0 s t p h x0 x1 x2 x3 x4 x5 x6 x7 x8 k hb hp=>have hl0:x0.length≤9223372036854775807:=hb.2.2.1.1;have hl1:x1.length≤9223372036854775807:=hb.2.2.1.2.1;have hl2:x2.length≤9223372036854775807:=hb.2.2.1.2.2.1;have hl3:x3.length≤9223372036854775807:=hb.2.2.1.2.2.2.1;have hl4:x4.length≤9223372036854775807:=hb.2.2.1.2.2.2.2.1;have hl5:x5.length≤9223372036854775807:=hb.2.2.1.2.2.2.2.2.1;have hl6:x6.length≤9223372036854775807:=hb.2.2.1.2.2.2.2.2.2.1;have hl7:x7.length≤9223372036854775807:=hb.2.2.1.2.2.2.2.2.2.2.1;have hl8:x8.length≤9223372036854775807:=hb.2.2.1.2.2.2.2.2.2.2.2.1;have hp0:p≤1024:=hp _ (.head _);have hp1:pkB x0 x1 x2 x3 x4 x5 x6 x7 x8:=hp _ (.tail _ (.head _));⟨[CV p0 s t p h x0 x1 x2 x3 x4 x5 x6 x7 x8 k], λj=>iE [appC (Hd.kd (CV p0 s t p h x0 x1 x2 x3 x4 x5 x6 x7 x8 k)) (λu' z0' z1' z2' z3' z4' z5' z6' z7' z8' l' pg' i'=>AZ s t p h x0 x1 x2 x3 x4 x5 x6 x7 x8 k u' z0' z1' z2' z3' z4' z5' z6' z7' z8' l' pg' i' (Be s t p h x0 x1 x2 x3 x4 x5 x6 x7 x8 k))] j (λ_=>False), λj=>iE [appC (Hd.kd (CV p0 s t p h x0 x1 x2 x3 x4 x5 x6 x7 x8 k)) (λu' z0' z1' z2' z3' z4' z5' z6' z7' z8' l' pg' i'=>(((l'.length:Int)-i').toNat,0,0))] j (λ_=>(0,0,0)),by kernel_rfl,⟨_, λ_ _ _=>by kernel_rfl,Hf s t p h x0 x1 x2 x3 x4 x5 x6 x7 x8 k hp0 hp1 hl0 hl1 hl2 hl3 hl4 hl5 hl6 hl7 hl8⟩,⟨λu z0 z1 z2 z3 z4 z5 z6 z7 z8 l pg i hI=>⟨_, λ_ _ _=>by kernel_rfl,Hg s t p h x0 x1 x2 x3 x4 x5 x6 x7 x8 k hp0 hp1 hl0 hl1 hl2 hl3 hl4 hl5 hl6 hl7 hl8 u z0 z1 z2 z3 z4 z5 z6 z7 z8 l pg i hI⟩,trivial⟩⟩
def F6:Tb:=(17,Fz)::He
theorem Ik:TOk F6:=tc_ Jw Ed
abbrev F7:Ct Sg:=⟨some Ap,false,[.agg [.i .i64, .i .i64, .i .i64], .agg [.ro [some .i8], .ro [some .i8], .ro [some .i8], .ro [some .i8], .ro [some .i8], .ro [some .i8], .ro [some .i8], .ro [some .i8], .ro [some .i8]], .i .i64], .tup [.i .i64, .agg [.new 2 [some .i8], .new 2 [some .i8], .new 2 [some .i8], .new 2 [some .i8], .new 2 [some .i8], .new 2 [some .i8], .new 2 [some .i8], .new 2 [some .i8], .new 2 [some .i8]], .b]⟩
def Bo:Tb:=F6
theorem AV:TOk Bo:=Ik
end
section
open Go Go.Sl
abbrev c_small_Alloc:Ct Sg:=⟨some wView,false,F7.ash,F7.rs⟩
abbrev pELSE:List Nat:=[0,1,1,0,1,1,1,1]
abbrev pEND:List Nat:=[0,1,1,1,1,1]
abbrev allI:List Nat:=[2999998,29,stopC pELSE 0,stopC pEND 0]
abbrev al9 (x0 x1 x2 x3 x4 x5 x6 x7 x8:LI) (s:VS) (t p h k:Int):List (Cm Sg):=[.st (.view s), .i t, .i p, .i h, .li x0, .li x1, .li x2, .li x3, .li x4, .li x5, .li x6, .li x7, .li x8, .i k]
theorem alloc_begin (R':Value→Pr→List (Chunk Sg)→Prop) (S0:List Ab→Option Ent→Option Ent→Option Ent→Option Ent→Option Ent→Option Ent→Option Ent→List (Chunk Sg)→Prop) (p0:Addr) (s:VS) (t p h k:Int) (x0 x1 x2 x3 x4 x5 x6 x7 x8:LI) (ad:Nat→Ad):
 (c_small_Alloc.tree Tryz.prog Bo allI 400 Tryz.f9 (bodyOf Tryz.f9) p0 (al9 x0 x1 x2 x3 x4 x5 x6 x7 x8 s t p h k) ad).holds R' (λtd L K=>S0 td (Sl.look L 3) (Sl.look L 5) (Sl.look L 6) (Sl.look L 9) (Sl.look L 11) (Sl.look L 12) (Sl.look L 13) K)=
 (∀b0_0:Nat,(∀b1_0:Nat,(∀b2_0:Nat,(∀b3_0:Nat,(∀r4:Int×LI×LI×LI×LI×LI×LI×LI×LI×LI×Bool,r4=(p_Pop x0 x1 x2 x3 x4 x5 x6 x7 x8 k)→(aw_ (pkB x0 x1 x2 x3 x4 x5 x6 x7 x8) (∀(b6_0:Option Nat) (b6_1:Nat),(∀(b7_0:Option Nat) (b7_1:Nat),(∀(b8_0:Option Nat) (b8_1:Nat),(∀(b9_0:Option Nat) (b9_1:Nat),(∀(b10_0:Option Nat) (b10_1:Nat),(∀(b11_0:Option Nat) (b11_1:Nat),(∀(b12_0:Option Nat) (b12_1:Nat),(∀(b13_0:Option Nat) (b13_1:Nat),(∀(b14_0:Option Nat) (b14_1:Nat),(∀b15_0:Nat,(bw_ r4.2.2.2.2.2.2.2.2.2.2 (∀r17:Int×Int×Bool,r17=(addr_Page t p h r4.1)→(∀r18:Int×Bool,r18=(addr_Slot t p h k r17.2.1)→(S0 ([Ab.ops [(0:Nat),(1:Nat),(1:Nat),(1:Nat),(1:Nat),(1:Nat)] (0:Nat),Ab.code [(1:Nat),(1:Nat),(1:Nat),(1:Nat),(1:Nat),(1:Nat)]]) (some {s:=(3:Nat),g:=none,v:=iZ iB k,p:=Pr.no}) (some {s:=(5:Nat),g:=none,v:=iT (some {block:=b0_0,off:=(0:Nat)}),p:=Pr.pt (10:Nat) (PK.cell (0:Nat))}) (some {s:=(6:Nat),g:=none,v:=iT (some {block:=b1_0,off:=(0:Nat)}),p:=Pr.pt (11:Nat) (PK.cell (0:Nat))}) (some {s:=(9:Nat),g:=none,v:=iT (some {block:=b2_0,off:=(0:Nat)}),p:=Pr.pt (12:Nat) (PK.cell (0:Nat))}) (some {s:=(11:Nat),g:=none,v:=iT (some {block:=b3_0,off:=(0:Nat)}),p:=Pr.pt (13:Nat) (PK.cell (0:Nat))}) (some {s:=(12:Nat),g:=none,v:=iZ iB r17.1,p:=Pr.no}) (some {s:=(13:Nat),g:=none,v:=iZ iB r18.1,p:=Pr.no}) ([Chunk.obj p0 (Wr.inj wView s),Chunk.ro (Ad.a (adP p0 ad (1:Nat))) (lenC [Col.fz x0]) (Ad.c (adP p0 ad (1:Nat))) [Col.fz x0],Chunk.ro (Ad.a (adP p0 ad (2:Nat))) (lenC [Col.fz x1]) (Ad.c (adP p0 ad (2:Nat))) [Col.fz x1],Chunk.ro (Ad.a (adP p0 ad (3:Nat))) (lenC [Col.fz x2]) (Ad.c (adP p0 ad (3:Nat))) [Col.fz x2],Chunk.ro (Ad.a (adP p0 ad (4:Nat))) (lenC [Col.fz x3]) (Ad.c (adP p0 ad (4:Nat))) [Col.fz x3],Chunk.ro (Ad.a (adP p0 ad (5:Nat))) (lenC [Col.fz x4]) (Ad.c (adP p0 ad (5:Nat))) [Col.fz x4],Chunk.ro (Ad.a (adP p0 ad (6:Nat))) (lenC [Col.fz x5]) (Ad.c (adP p0 ad (6:Nat))) [Col.fz x5],Chunk.ro (Ad.a (adP p0 ad (7:Nat))) (lenC [Col.fz x6]) (Ad.c (adP p0 ad (7:Nat))) [Col.fz x6],Chunk.ro (Ad.a (adP p0 ad (8:Nat))) (lenC [Col.fz x7]) (Ad.c (adP p0 ad (8:Nat))) [Col.fz x7],Chunk.ro (Ad.a (adP p0 ad (9:Nat))) (lenC [Col.fz x8]) (Ad.c (adP p0 ad (9:Nat))) [Col.fz x8],Chunk.cells b0_0 (23:Nat) [(iZ iB t,Pr.no),(iZ iB p,Pr.no),(iZ iB h,Pr.no)],Chunk.cells b1_0 (36:Nat) [(iD (Ad.a (adP p0 ad (1:Nat))) (lenC [Col.fz x0]) (Ad.c (adP p0 ad (1:Nat))),Pr.pt (1:Nat) PK.slice),(iD (Ad.a (adP p0 ad (2:Nat))) (lenC [Col.fz x1]) (Ad.c (adP p0 ad (2:Nat))),Pr.pt (2:Nat) PK.slice),(iD (Ad.a (adP p0 ad (3:Nat))) (lenC [Col.fz x2]) (Ad.c (adP p0 ad (3:Nat))),Pr.pt (3:Nat) PK.slice),(iD (Ad.a (adP p0 ad (4:Nat))) (lenC [Col.fz x3]) (Ad.c (adP p0 ad (4:Nat))),Pr.pt (4:Nat) PK.slice),(iD (Ad.a (adP p0 ad (5:Nat))) (lenC [Col.fz x4]) (Ad.c (adP p0 ad (5:Nat))),Pr.pt (5:Nat) PK.slice),(iD (Ad.a (adP p0 ad (6:Nat))) (lenC [Col.fz x5]) (Ad.c (adP p0 ad (6:Nat))),Pr.pt (6:Nat) PK.slice),(iD (Ad.a (adP p0 ad (7:Nat))) (lenC [Col.fz x6]) (Ad.c (adP p0 ad (7:Nat))),Pr.pt (7:Nat) PK.slice),(iD (Ad.a (adP p0 ad (8:Nat))) (lenC [Col.fz x7]) (Ad.c (adP p0 ad (8:Nat))),Pr.pt (8:Nat) PK.slice),(iD (Ad.a (adP p0 ad (9:Nat))) (lenC [Col.fz x8]) (Ad.c (adP p0 ad (9:Nat))),Pr.pt (9:Nat) PK.slice)],Chunk.cells b2_0 (36:Nat) [(iD none (0:Nat) (0:Nat),Pr.no),(iD none (0:Nat) (0:Nat),Pr.no),(iD none (0:Nat) (0:Nat),Pr.no),(iD none (0:Nat) (0:Nat),Pr.no),(iD none (0:Nat) (0:Nat),Pr.no),(iD none (0:Nat) (0:Nat),Pr.no),(iD none (0:Nat) (0:Nat),Pr.no),(iD none (0:Nat) (0:Nat),Pr.no),(iD none (0:Nat) (0:Nat),Pr.no)],Chunk.cells b3_0 (73:Nat) [(iT (some p0),Pr.pt (0:Nat) PK.obj),(iZ iB t,Pr.no),(iZ iB p,Pr.no),(iZ iB h,Pr.no),(iD (iY decA b6_0) (lenC [Col.fz r4.2.1]) b6_1,Pr.pt (14:Nat) PK.slice),(iD (iY decA b7_0) (lenC [Col.fz r4.2.2.1]) b7_1,Pr.pt (15:Nat) PK.slice),(iD (iY decA b8_0) (lenC [Col.fz r4.2.2.2.1]) b8_1,Pr.pt (16:Nat) PK.slice),(iD (iY decA b9_0) (lenC [Col.fz r4.2.2.2.2.1]) b9_1,Pr.pt (17:Nat) PK.slice),(iD (iY decA b10_0) (lenC [Col.fz r4.2.2.2.2.2.1]) b10_1,Pr.pt (18:Nat) PK.slice),(iD (iY decA b11_0) (lenC [Col.fz r4.2.2.2.2.2.2.1]) b11_1,Pr.pt (19:Nat) PK.slice),(iD (iY decA b12_0) (lenC [Col.fz r4.2.2.2.2.2.2.2.1]) b12_1,Pr.pt (20:Nat) PK.slice),(iD (iY decA b13_0) (lenC [Col.fz r4.2.2.2.2.2.2.2.2.1]) b13_1,Pr.pt (21:Nat) PK.slice),(iD (iY decA b14_0) (lenC [Col.fz r4.2.2.2.2.2.2.2.2.2.1]) b14_1,Pr.pt (22:Nat) PK.slice)],Chunk.ro (iY decA b6_0) (lenC [Col.fz r4.2.1]) b6_1 [Col.fz r4.2.1],Chunk.ro (iY decA b7_0) (lenC [Col.fz r4.2.2.1]) b7_1 [Col.fz r4.2.2.1],Chunk.ro (iY decA b8_0) (lenC [Col.fz r4.2.2.2.1]) b8_1 [Col.fz r4.2.2.2.1],Chunk.ro (iY decA b9_0) (lenC [Col.fz r4.2.2.2.2.1]) b9_1 [Col.fz r4.2.2.2.2.1],Chunk.ro (iY decA b10_0) (lenC [Col.fz r4.2.2.2.2.2.1]) b10_1 [Col.fz r4.2.2.2.2.2.1],Chunk.ro (iY decA b11_0) (lenC [Col.fz r4.2.2.2.2.2.2.1]) b11_1 [Col.fz r4.2.2.2.2.2.2.1],Chunk.ro (iY decA b12_0) (lenC [Col.fz r4.2.2.2.2.2.2.2.1]) b12_1 [Col.fz r4.2.2.2.2.2.2.2.1],Chunk.ro (iY decA b13_0) (lenC [Col.fz r4.2.2.2.2.2.2.2.2.1]) b13_1 [Col.fz r4.2.2.2.2.2.2.2.2.1],Chunk.ro (iY decA b14_0) (lenC [Col.fz r4.2.2.2.2.2.2.2.2.2.1]) b14_1 [Col.fz r4.2.2.2.2.2.2.2.2.2.1],Chunk.cells b15_0 (36:Nat) [(iD (iY decA b6_0) (lenC [Col.fz r4.2.1]) b6_1,Pr.pt (14:Nat) PK.slice),(iD (iY decA b7_0) (lenC [Col.fz r4.2.2.1]) b7_1,Pr.pt (15:Nat) PK.slice),(iD (iY decA b8_0) (lenC [Col.fz r4.2.2.2.1]) b8_1,Pr.pt (16:Nat) PK.slice),(iD (iY decA b9_0) (lenC [Col.fz r4.2.2.2.2.1]) b9_1,Pr.pt (17:Nat) PK.slice),(iD (iY decA b10_0) (lenC [Col.fz r4.2.2.2.2.2.1]) b10_1,Pr.pt (18:Nat) PK.slice),(iD (iY decA b11_0) (lenC [Col.fz r4.2.2.2.2.2.2.1]) b11_1,Pr.pt (19:Nat) PK.slice),(iD (iY decA b12_0) (lenC [Col.fz r4.2.2.2.2.2.2.2.1]) b12_1,Pr.pt (20:Nat) PK.slice),(iD (iY decA b13_0) (lenC [Col.fz r4.2.2.2.2.2.2.2.2.1]) b13_1,Pr.pt (21:Nat) PK.slice),(iD (iY decA b14_0) (lenC [Col.fz r4.2.2.2.2.2.2.2.2.2.1]) b14_1,Pr.pt (22:Nat) PK.slice)]])))) (S0 ([Ab.ops [(0:Nat),(1:Nat),(1:Nat),(0:Nat),(1:Nat),(1:Nat),(1:Nat),(1:Nat)] (0:Nat),Ab.code [(1:Nat),(1:Nat),(1:Nat),(0:Nat),(1:Nat),(1:Nat),(1:Nat),(1:Nat)],Ab.code [(1:Nat),(1:Nat),(1:Nat),(1:Nat),(1:Nat)]]) (some {s:=(3:Nat),g:=none,v:=iZ iB k,p:=Pr.no}) (some {s:=(5:Nat),g:=none,v:=iT (some {block:=b0_0,off:=(0:Nat)}),p:=Pr.pt (10:Nat) (PK.cell (0:Nat))}) (some {s:=(6:Nat),g:=none,v:=iT (some {block:=b1_0,off:=(0:Nat)}),p:=Pr.pt (11:Nat) (PK.cell (0:Nat))}) (some {s:=(9:Nat),g:=none,v:=iT (some {block:=b2_0,off:=(0:Nat)}),p:=Pr.pt (12:Nat) (PK.cell (0:Nat))}) (some {s:=(11:Nat),g:=none,v:=iT (some {block:=b3_0,off:=(0:Nat)}),p:=Pr.pt (13:Nat) (PK.cell (0:Nat))}) (some {s:=(12:Nat),g:=none,v:=iZ iB (0:Int),p:=Pr.no}) (some {s:=(13:Nat),g:=none,v:=iZ iB (0:Int),p:=Pr.no}) ([Chunk.obj p0 (Wr.inj wView s),Chunk.ro (Ad.a (adP p0 ad (1:Nat))) (lenC [Col.fz x0]) (Ad.c (adP p0 ad (1:Nat))) [Col.fz x0],Chunk.ro (Ad.a (adP p0 ad (2:Nat))) (lenC [Col.fz x1]) (Ad.c (adP p0 ad (2:Nat))) [Col.fz x1],Chunk.ro (Ad.a (adP p0 ad (3:Nat))) (lenC [Col.fz x2]) (Ad.c (adP p0 ad (3:Nat))) [Col.fz x2],Chunk.ro (Ad.a (adP p0 ad (4:Nat))) (lenC [Col.fz x3]) (Ad.c (adP p0 ad (4:Nat))) [Col.fz x3],Chunk.ro (Ad.a (adP p0 ad (5:Nat))) (lenC [Col.fz x4]) (Ad.c (adP p0 ad (5:Nat))) [Col.fz x4],Chunk.ro (Ad.a (adP p0 ad (6:Nat))) (lenC [Col.fz x5]) (Ad.c (adP p0 ad (6:Nat))) [Col.fz x5],Chunk.ro (Ad.a (adP p0 ad (7:Nat))) (lenC [Col.fz x6]) (Ad.c (adP p0 ad (7:Nat))) [Col.fz x6],Chunk.ro (Ad.a (adP p0 ad (8:Nat))) (lenC [Col.fz x7]) (Ad.c (adP p0 ad (8:Nat))) [Col.fz x7],Chunk.ro (Ad.a (adP p0 ad (9:Nat))) (lenC [Col.fz x8]) (Ad.c (adP p0 ad (9:Nat))) [Col.fz x8],Chunk.cells b0_0 (23:Nat) [(iZ iB t,Pr.no),(iZ iB p,Pr.no),(iZ iB h,Pr.no)],Chunk.cells b1_0 (36:Nat) [(iD (Ad.a (adP p0 ad (1:Nat))) (lenC [Col.fz x0]) (Ad.c (adP p0 ad (1:Nat))),Pr.pt (1:Nat) PK.slice),(iD (Ad.a (adP p0 ad (2:Nat))) (lenC [Col.fz x1]) (Ad.c (adP p0 ad (2:Nat))),Pr.pt (2:Nat) PK.slice),(iD (Ad.a (adP p0 ad (3:Nat))) (lenC [Col.fz x2]) (Ad.c (adP p0 ad (3:Nat))),Pr.pt (3:Nat) PK.slice),(iD (Ad.a (adP p0 ad (4:Nat))) (lenC [Col.fz x3]) (Ad.c (adP p0 ad (4:Nat))),Pr.pt (4:Nat) PK.slice),(iD (Ad.a (adP p0 ad (5:Nat))) (lenC [Col.fz x4]) (Ad.c (adP p0 ad (5:Nat))),Pr.pt (5:Nat) PK.slice),(iD (Ad.a (adP p0 ad (6:Nat))) (lenC [Col.fz x5]) (Ad.c (adP p0 ad (6:Nat))),Pr.pt (6:Nat) PK.slice),(iD (Ad.a (adP p0 ad (7:Nat))) (lenC [Col.fz x6]) (Ad.c (adP p0 ad (7:Nat))),Pr.pt (7:Nat) PK.slice),(iD (Ad.a (adP p0 ad (8:Nat))) (lenC [Col.fz x7]) (Ad.c (adP p0 ad (8:Nat))),Pr.pt (8:Nat) PK.slice),(iD (Ad.a (adP p0 ad (9:Nat))) (lenC [Col.fz x8]) (Ad.c (adP p0 ad (9:Nat))),Pr.pt (9:Nat) PK.slice)],Chunk.cells b2_0 (36:Nat) [(iD none (0:Nat) (0:Nat),Pr.no),(iD none (0:Nat) (0:Nat),Pr.no),(iD none (0:Nat) (0:Nat),Pr.no),(iD none (0:Nat) (0:Nat),Pr.no),(iD none (0:Nat) (0:Nat),Pr.no),(iD none (0:Nat) (0:Nat),Pr.no),(iD none (0:Nat) (0:Nat),Pr.no),(iD none (0:Nat) (0:Nat),Pr.no),(iD none (0:Nat) (0:Nat),Pr.no)],Chunk.cells b3_0 (73:Nat) [(iT (some p0),Pr.pt (0:Nat) PK.obj),(iZ iB t,Pr.no),(iZ iB p,Pr.no),(iZ iB h,Pr.no),(iD (Ad.a (adP p0 ad (1:Nat))) (lenC [Col.fz x0]) (Ad.c (adP p0 ad (1:Nat))),Pr.pt (1:Nat) PK.slice),(iD (Ad.a (adP p0 ad (2:Nat))) (lenC [Col.fz x1]) (Ad.c (adP p0 ad (2:Nat))),Pr.pt (2:Nat) PK.slice),(iD (Ad.a (adP p0 ad (3:Nat))) (lenC [Col.fz x2]) (Ad.c (adP p0 ad (3:Nat))),Pr.pt (3:Nat) PK.slice),(iD (Ad.a (adP p0 ad (4:Nat))) (lenC [Col.fz x3]) (Ad.c (adP p0 ad (4:Nat))),Pr.pt (4:Nat) PK.slice),(iD (Ad.a (adP p0 ad (5:Nat))) (lenC [Col.fz x4]) (Ad.c (adP p0 ad (5:Nat))),Pr.pt (5:Nat) PK.slice),(iD (Ad.a (adP p0 ad (6:Nat))) (lenC [Col.fz x5]) (Ad.c (adP p0 ad (6:Nat))),Pr.pt (6:Nat) PK.slice),(iD (Ad.a (adP p0 ad (7:Nat))) (lenC [Col.fz x6]) (Ad.c (adP p0 ad (7:Nat))),Pr.pt (7:Nat) PK.slice),(iD (Ad.a (adP p0 ad (8:Nat))) (lenC [Col.fz x7]) (Ad.c (adP p0 ad (8:Nat))),Pr.pt (8:Nat) PK.slice),(iD (Ad.a (adP p0 ad (9:Nat))) (lenC [Col.fz x8]) (Ad.c (adP p0 ad (9:Nat))),Pr.pt (9:Nat) PK.slice)],Chunk.ro (iY decA b6_0) (lenC [Col.fz r4.2.1]) b6_1 [Col.fz r4.2.1],Chunk.ro (iY decA b7_0) (lenC [Col.fz r4.2.2.1]) b7_1 [Col.fz r4.2.2.1],Chunk.ro (iY decA b8_0) (lenC [Col.fz r4.2.2.2.1]) b8_1 [Col.fz r4.2.2.2.1],Chunk.ro (iY decA b9_0) (lenC [Col.fz r4.2.2.2.2.1]) b9_1 [Col.fz r4.2.2.2.2.1],Chunk.ro (iY decA b10_0) (lenC [Col.fz r4.2.2.2.2.2.1]) b10_1 [Col.fz r4.2.2.2.2.2.1],Chunk.ro (iY decA b11_0) (lenC [Col.fz r4.2.2.2.2.2.2.1]) b11_1 [Col.fz r4.2.2.2.2.2.2.1],Chunk.ro (iY decA b12_0) (lenC [Col.fz r4.2.2.2.2.2.2.2.1]) b12_1 [Col.fz r4.2.2.2.2.2.2.2.1],Chunk.ro (iY decA b13_0) (lenC [Col.fz r4.2.2.2.2.2.2.2.2.1]) b13_1 [Col.fz r4.2.2.2.2.2.2.2.2.1],Chunk.ro (iY decA b14_0) (lenC [Col.fz r4.2.2.2.2.2.2.2.2.2.1]) b14_1 [Col.fz r4.2.2.2.2.2.2.2.2.2.1],Chunk.cells b15_0 (36:Nat) [(iD (iY decA b6_0) (lenC [Col.fz r4.2.1]) b6_1,Pr.pt (14:Nat) PK.slice),(iD (iY decA b7_0) (lenC [Col.fz r4.2.2.1]) b7_1,Pr.pt (15:Nat) PK.slice),(iD (iY decA b8_0) (lenC [Col.fz r4.2.2.2.1]) b8_1,Pr.pt (16:Nat) PK.slice),(iD (iY decA b9_0) (lenC [Col.fz r4.2.2.2.2.1]) b9_1,Pr.pt (17:Nat) PK.slice),(iD (iY decA b10_0) (lenC [Col.fz r4.2.2.2.2.2.1]) b10_1,Pr.pt (18:Nat) PK.slice),(iD (iY decA b11_0) (lenC [Col.fz r4.2.2.2.2.2.2.1]) b11_1,Pr.pt (19:Nat) PK.slice),(iD (iY decA b12_0) (lenC [Col.fz r4.2.2.2.2.2.2.2.1]) b12_1,Pr.pt (20:Nat) PK.slice),(iD (iY decA b13_0) (lenC [Col.fz r4.2.2.2.2.2.2.2.2.1]) b13_1,Pr.pt (21:Nat) PK.slice),(iD (iY decA b14_0) (lenC [Col.fz r4.2.2.2.2.2.2.2.2.2.1]) b14_1,Pr.pt (22:Nat) PK.slice)]]))))))))))))))))))):=by
 kernel_rfl
def handA (pv:Addr) (hb:Nat) (s:VS) (t p h:Int):LL→Asn:= λst Y k=>∃ad:Ad9,Sl.star ((hK pv hb s t p h st ad).map (den Dg λ_=>none)) Y k
def isA (hb:Nat) (q:Addr):Prop:=q=⟨hb,0,none⟩
def e_fill (pv:Addr) (hb:Nat) (s:VS) (t p h:Int):Entry Sg:= λargs=>match args with
 |[(.pointer (some q), .obj (.any A st)),(.int .i64 k,_)]=>some ⟨fillR s t p h k st, λr=>⟨[isA hb q,A=handA pv hb s t p h,pkO st,p≤1024],some (.any (handA pv hb r.1 t p h) r.2.1),[], λ_=> .tuple #[.int .i64 r.2.2.1, .int .i64 r.2.2.2.1, .bool r.2.2.2.2], λ_=> .no⟩⟩
 |_=>none
def nil9:List (Value×Pr):=[(.slice none 0 0, .no),(.slice none 0 0, .no),(.slice none 0 0, .no),(.slice none 0 0, .no),(.slice none 0 0, .no),(.slice none 0 0, .no),(.slice none 0 0, .no),(.slice none 0 0, .no),(.slice none 0 0, .no)]
def sl9 (o:Nat) (pk:LL) (ad:Ad9):List (Value×Pr):=(hC ⟨0,0,none⟩ 0 o 0 0 0 pk ad).drop 4
def aK (hb bc bp br:Nat) (t p h:Int) (A:LL→Asn) (st pk:LL) (ax:Ad9):List (Chunk Sg):=[.obj ⟨hb,0,none⟩ (.any A st), .cells bc 23 [(.int .i64 t, .no),(.int .i64 p, .no),(.int .i64 h, .no)], .cells bp 36 (sl9 4 pk ax), .cells br 36 nil9]++ro9 pk ax
def aL (hb bc bp br:Nat) (k:Int):List Ent:=[⟨3,none, .int .i64 k, .no⟩,ptE 5 bc 1,ptE 6 bp 2,ptE 9 br 3,⟨11,none, .pointer (some ⟨hb,0,none⟩), .pt 0 .obj⟩]
abbrev pC:List Nat:=[0,1,1,1,0,1,1,1,1]
theorem alloc_fill (R':Value→Pr→List (Chunk Sg)→Prop) (S0:List Ab→Option Ent→Option Ent→Option Ent→Option Ent→Option Ent→Option Ent→Option Ent→Option Ent→List (Chunk Sg)→Prop) (p0:Addr) (hb bc bp br:Nat) (s:VS) (t p h k:Int) (pk:LL) (ax:Ad9):
 (run Tryz.prog ((30,e_fill p0 hb s t p h)::Bo) [2999998,stopC pC 0] 400 (bodyOf Tryz.f9) Tryz.f9.results.toList Tryz.f9.ntmps [.ops pELSE 0, .code [1,1,1,0,1,1,1,1], .code [1,1,1,1,1]] (aL hb bc bp br k) (aK hb bc bp br t p h (handA p0 hb s t p h) pk pk ax)).holds R' (λtd L K=>S0 td (Sl.look L 3) (Sl.look L 5) (Sl.look L 6) (Sl.look L 9) (Sl.look L 11) (Sl.look L 12) (Sl.look L 13) (Sl.look L 16) K)=
 (∀r0:VS×List (LI)×Int×Int×Bool,r0=(fillR s t p h k pk)→(aw_ (isA hb {block:=hb,off:=(0:Nat)}) (aw_ (handA p0 hb s t p h=handA p0 hb s t p h) (aw_ (pkO pk) (aw_ (p≤(1024:Int)) (S0 ([Ab.ops [(0:Nat),(1:Nat),(1:Nat),(1:Nat),(0:Nat),(1:Nat),(1:Nat),(1:Nat),(1:Nat)] (0:Nat),Ab.code [(1:Nat),(1:Nat),(1:Nat),(1:Nat),(0:Nat),(1:Nat),(1:Nat),(1:Nat),(1:Nat)],Ab.code [(1:Nat),(1:Nat),(1:Nat),(1:Nat),(1:Nat)]]) (some {s:=(3:Nat),g:=none,v:=iZ iB k,p:=Pr.no}) (some {s:=(5:Nat),g:=none,v:=iT (some {block:=bc,off:=(0:Nat)}),p:=Pr.pt (1:Nat) (PK.cell (0:Nat))}) (some {s:=(6:Nat),g:=none,v:=iT (some {block:=bp,off:=(0:Nat)}),p:=Pr.pt (2:Nat) (PK.cell (0:Nat))}) (some {s:=(9:Nat),g:=none,v:=iT (some {block:=br,off:=(0:Nat)}),p:=Pr.pt (3:Nat) (PK.cell (0:Nat))}) (some {s:=(11:Nat),g:=none,v:=iT (some {block:=hb,off:=(0:Nat)}),p:=Pr.pt (0:Nat) PK.obj}) (some {s:=(12:Nat),g:=none,v:=iZ iB r0.2.2.1,p:=Pr.no}) (some {s:=(13:Nat),g:=none,v:=iZ iB r0.2.2.2.1,p:=Pr.no}) (some {s:=(16:Nat),g:=none,v:=Value.bool r0.2.2.2.2,p:=Pr.no}) ([Chunk.obj {block:=hb,off:=(0:Nat)} (Option.getD (some (Sg.any (handA p0 hb r0.1 t p h) r0.2.1)) (Sg.any (handA p0 hb s t p h) pk)),Chunk.cells bc (23:Nat) [(iZ iB t,Pr.no),(iZ iB p,Pr.no),(iZ iB h,Pr.no)],Chunk.cells bp (36:Nat) [(iD (iF (ax (0:Nat))) (iC (gL pk (0:Nat))) (iH (ax (0:Nat))),Pr.pt (4:Nat) PK.slice),(iD (iF (ax (1:Nat))) (iC (gL pk (1:Nat))) (iH (ax (1:Nat))),Pr.pt (5:Nat) PK.slice),(iD (iF (ax (2:Nat))) (iC (gL pk (2:Nat))) (iH (ax (2:Nat))),Pr.pt (6:Nat) PK.slice),(iD (iF (ax (3:Nat))) (iC (gL pk (3:Nat))) (iH (ax (3:Nat))),Pr.pt (7:Nat) PK.slice),(iD (iF (ax (4:Nat))) (iC (gL pk (4:Nat))) (iH (ax (4:Nat))),Pr.pt (8:Nat) PK.slice),(iD (iF (ax (5:Nat))) (iC (gL pk (5:Nat))) (iH (ax (5:Nat))),Pr.pt (9:Nat) PK.slice),(iD (iF (ax (6:Nat))) (iC (gL pk (6:Nat))) (iH (ax (6:Nat))),Pr.pt (10:Nat) PK.slice),(iD (iF (ax (7:Nat))) (iC (gL pk (7:Nat))) (iH (ax (7:Nat))),Pr.pt (11:Nat) PK.slice),(iD (iF (ax (8:Nat))) (iC (gL pk (8:Nat))) (iH (ax (8:Nat))),Pr.pt (12:Nat) PK.slice)],Chunk.cells br (36:Nat) [(iD none (0:Nat) (0:Nat),Pr.no),(iD none (0:Nat) (0:Nat),Pr.no),(iD none (0:Nat) (0:Nat),Pr.no),(iD none (0:Nat) (0:Nat),Pr.no),(iD none (0:Nat) (0:Nat),Pr.no),(iD none (0:Nat) (0:Nat),Pr.no),(iD none (0:Nat) (0:Nat),Pr.no),(iD none (0:Nat) (0:Nat),Pr.no),(iD none (0:Nat) (0:Nat),Pr.no)],Chunk.ro (iF (ax (0:Nat))) (iC (gL pk (0:Nat))) (iH (ax (0:Nat))) [Col.fz (gL pk (0:Nat))],Chunk.ro (iF (ax (1:Nat))) (iC (gL pk (1:Nat))) (iH (ax (1:Nat))) [Col.fz (gL pk (1:Nat))],Chunk.ro (iF (ax (2:Nat))) (iC (gL pk (2:Nat))) (iH (ax (2:Nat))) [Col.fz (gL pk (2:Nat))],Chunk.ro (iF (ax (3:Nat))) (iC (gL pk (3:Nat))) (iH (ax (3:Nat))) [Col.fz (gL pk (3:Nat))],Chunk.ro (iF (ax (4:Nat))) (iC (gL pk (4:Nat))) (iH (ax (4:Nat))) [Col.fz (gL pk (4:Nat))],Chunk.ro (iF (ax (5:Nat))) (iC (gL pk (5:Nat))) (iH (ax (5:Nat))) [Col.fz (gL pk (5:Nat))],Chunk.ro (iF (ax (6:Nat))) (iC (gL pk (6:Nat))) (iH (ax (6:Nat))) [Col.fz (gL pk (6:Nat))],Chunk.ro (iF (ax (7:Nat))) (iC (gL pk (7:Nat))) (iH (ax (7:Nat))) [Col.fz (gL pk (7:Nat))],Chunk.ro (iF (ax (8:Nat))) (iC (gL pk (8:Nat))) (iH (ax (8:Nat))) [Col.fz (gL pk (8:Nat))]]))))))):=by
 kernel_rfl
def bK (p0:Addr) (hb bc bp br:Nat) (s:VS) (t p h:Int) (q:LL) (aq:Ad9) (pk:LL) (ax:Ad9):List (Chunk Sg):=[.obj p0 (.view s), .cells hb 73 (hC p0 0 5 t p h q aq), .cells bc 23 [(.int .i64 t, .no),(.int .i64 p, .no),(.int .i64 h, .no)], .cells bp 36 (sl9 14 pk ax), .cells br 36 nil9]++ro9 q aq++ro9 pk ax
def bL (hb bc bp br:Nat) (k pg sl:Int) (ok:Bool):List Ent:=[⟨3,none, .int .i64 k, .no⟩,ptE 5 bc 2,ptE 6 bp 3,ptE 9 br 4,ptE 11 hb 1,⟨12,none, .int .i64 pg, .no⟩,⟨13,none, .int .i64 sl, .no⟩,⟨16,none, .bool ok, .no⟩]
theorem alloc_c (R':Value→Pr→List (Chunk Sg)→Prop) (S0:List Ab→Option Ent→Option Ent→Option Ent→Option Ent→Option Ent→Option Ent→List (Chunk Sg)→Prop) (p0:Addr) (hb bc bp br:Nat) (s:VS) (t p h k pg sl:Int) (ok:Bool) (q:LL) (aq:Ad9) (pk:LL) (ax:Ad9):
 (run Tryz.prog Bo [2999998,stopC pEND 0] 400 (bodyOf Tryz.f9) Tryz.f9.results.toList Tryz.f9.ntmps [.ops pC 0, .code [1,1,1,1,0,1,1,1,1], .code [1,1,1,1,1]] (bL hb bc bp br k pg sl ok) (bK p0 hb bc bp br s t p h q aq pk ax)).holds R' (λtd L K=>S0 td (Sl.look L 3) (Sl.look L 5) (Sl.look L 9) (Sl.look L 11) (Sl.look L 12) (Sl.look L 13) K)=
 (bw_ (!ok) (R' (Value.tuple {toList:=[iZ iB (0:Int),Value.agg {toList:=[iD (iF (ax (0:Nat))) (iC (gL pk (0:Nat))) (iH (ax (0:Nat))),iD (iF (ax (1:Nat))) (iC (gL pk (1:Nat))) (iH (ax (1:Nat))),iD (iF (ax (2:Nat))) (iC (gL pk (2:Nat))) (iH (ax (2:Nat))),iD (iF (ax (3:Nat))) (iC (gL pk (3:Nat))) (iH (ax (3:Nat))),iD (iF (ax (4:Nat))) (iC (gL pk (4:Nat))) (iH (ax (4:Nat))),iD (iF (ax (5:Nat))) (iC (gL pk (5:Nat))) (iH (ax (5:Nat))),iD (iF (ax (6:Nat))) (iC (gL pk (6:Nat))) (iH (ax (6:Nat))),iD (iF (ax (7:Nat))) (iC (gL pk (7:Nat))) (iH (ax (7:Nat))),iD (iF (ax (8:Nat))) (iC (gL pk (8:Nat))) (iH (ax (8:Nat)))]},Value.bool false]}) (Pr.many [Pr.no,Pr.many [Pr.pt (14:Nat) PK.slice,Pr.pt (15:Nat) PK.slice,Pr.pt (16:Nat) PK.slice,Pr.pt (17:Nat) PK.slice,Pr.pt (18:Nat) PK.slice,Pr.pt (19:Nat) PK.slice,Pr.pt (20:Nat) PK.slice,Pr.pt (21:Nat) PK.slice,Pr.pt (22:Nat) PK.slice],Pr.no]) ([Chunk.obj p0 (Sg.view s),Chunk.cells hb (73:Nat) [(iT (some p0),Pr.pt (0:Nat) PK.obj),(iZ iB t,Pr.no),(iZ iB p,Pr.no),(iZ iB h,Pr.no),(iD (iF (aq (0:Nat))) (iC (gL q (0:Nat))) (iH (aq (0:Nat))),Pr.pt (5:Nat) PK.slice),(iD (iF (aq (1:Nat))) (iC (gL q (1:Nat))) (iH (aq (1:Nat))),Pr.pt (6:Nat) PK.slice),(iD (iF (aq (2:Nat))) (iC (gL q (2:Nat))) (iH (aq (2:Nat))),Pr.pt (7:Nat) PK.slice),(iD (iF (aq (3:Nat))) (iC (gL q (3:Nat))) (iH (aq (3:Nat))),Pr.pt (8:Nat) PK.slice),(iD (iF (aq (4:Nat))) (iC (gL q (4:Nat))) (iH (aq (4:Nat))),Pr.pt (9:Nat) PK.slice),(iD (iF (aq (5:Nat))) (iC (gL q (5:Nat))) (iH (aq (5:Nat))),Pr.pt (10:Nat) PK.slice),(iD (iF (aq (6:Nat))) (iC (gL q (6:Nat))) (iH (aq (6:Nat))),Pr.pt (11:Nat) PK.slice),(iD (iF (aq (7:Nat))) (iC (gL q (7:Nat))) (iH (aq (7:Nat))),Pr.pt (12:Nat) PK.slice),(iD (iF (aq (8:Nat))) (iC (gL q (8:Nat))) (iH (aq (8:Nat))),Pr.pt (13:Nat) PK.slice)],Chunk.cells bc (23:Nat) [(iZ iB t,Pr.no),(iZ iB p,Pr.no),(iZ iB h,Pr.no)],Chunk.cells bp (36:Nat) [(iD (iF (ax (0:Nat))) (iC (gL pk (0:Nat))) (iH (ax (0:Nat))),Pr.pt (14:Nat) PK.slice),(iD (iF (ax (1:Nat))) (iC (gL pk (1:Nat))) (iH (ax (1:Nat))),Pr.pt (15:Nat) PK.slice),(iD (iF (ax (2:Nat))) (iC (gL pk (2:Nat))) (iH (ax (2:Nat))),Pr.pt (16:Nat) PK.slice),(iD (iF (ax (3:Nat))) (iC (gL pk (3:Nat))) (iH (ax (3:Nat))),Pr.pt (17:Nat) PK.slice),(iD (iF (ax (4:Nat))) (iC (gL pk (4:Nat))) (iH (ax (4:Nat))),Pr.pt (18:Nat) PK.slice),(iD (iF (ax (5:Nat))) (iC (gL pk (5:Nat))) (iH (ax (5:Nat))),Pr.pt (19:Nat) PK.slice),(iD (iF (ax (6:Nat))) (iC (gL pk (6:Nat))) (iH (ax (6:Nat))),Pr.pt (20:Nat) PK.slice),(iD (iF (ax (7:Nat))) (iC (gL pk (7:Nat))) (iH (ax (7:Nat))),Pr.pt (21:Nat) PK.slice),(iD (iF (ax (8:Nat))) (iC (gL pk (8:Nat))) (iH (ax (8:Nat))),Pr.pt (22:Nat) PK.slice)],Chunk.cells br (36:Nat) [(iD (iF (ax (0:Nat))) (iC (gL pk (0:Nat))) (iH (ax (0:Nat))),Pr.pt (14:Nat) PK.slice),(iD (iF (ax (1:Nat))) (iC (gL pk (1:Nat))) (iH (ax (1:Nat))),Pr.pt (15:Nat) PK.slice),(iD (iF (ax (2:Nat))) (iC (gL pk (2:Nat))) (iH (ax (2:Nat))),Pr.pt (16:Nat) PK.slice),(iD (iF (ax (3:Nat))) (iC (gL pk (3:Nat))) (iH (ax (3:Nat))),Pr.pt (17:Nat) PK.slice),(iD (iF (ax (4:Nat))) (iC (gL pk (4:Nat))) (iH (ax (4:Nat))),Pr.pt (18:Nat) PK.slice),(iD (iF (ax (5:Nat))) (iC (gL pk (5:Nat))) (iH (ax (5:Nat))),Pr.pt (19:Nat) PK.slice),(iD (iF (ax (6:Nat))) (iC (gL pk (6:Nat))) (iH (ax (6:Nat))),Pr.pt (20:Nat) PK.slice),(iD (iF (ax (7:Nat))) (iC (gL pk (7:Nat))) (iH (ax (7:Nat))),Pr.pt (21:Nat) PK.slice),(iD (iF (ax (8:Nat))) (iC (gL pk (8:Nat))) (iH (ax (8:Nat))),Pr.pt (22:Nat) PK.slice)],Chunk.ro (iF (aq (0:Nat))) (iC (gL q (0:Nat))) (iH (aq (0:Nat))) [Col.fz (gL q (0:Nat))],Chunk.ro (iF (aq (1:Nat))) (iC (gL q (1:Nat))) (iH (aq (1:Nat))) [Col.fz (gL q (1:Nat))],Chunk.ro (iF (aq (2:Nat))) (iC (gL q (2:Nat))) (iH (aq (2:Nat))) [Col.fz (gL q (2:Nat))],Chunk.ro (iF (aq (3:Nat))) (iC (gL q (3:Nat))) (iH (aq (3:Nat))) [Col.fz (gL q (3:Nat))],Chunk.ro (iF (aq (4:Nat))) (iC (gL q (4:Nat))) (iH (aq (4:Nat))) [Col.fz (gL q (4:Nat))],Chunk.ro (iF (aq (5:Nat))) (iC (gL q (5:Nat))) (iH (aq (5:Nat))) [Col.fz (gL q (5:Nat))],Chunk.ro (iF (aq (6:Nat))) (iC (gL q (6:Nat))) (iH (aq (6:Nat))) [Col.fz (gL q (6:Nat))],Chunk.ro (iF (aq (7:Nat))) (iC (gL q (7:Nat))) (iH (aq (7:Nat))) [Col.fz (gL q (7:Nat))],Chunk.ro (iF (aq (8:Nat))) (iC (gL q (8:Nat))) (iH (aq (8:Nat))) [Col.fz (gL q (8:Nat))],Chunk.ro (iF (ax (0:Nat))) (iC (gL pk (0:Nat))) (iH (ax (0:Nat))) [Col.fz (gL pk (0:Nat))],Chunk.ro (iF (ax (1:Nat))) (iC (gL pk (1:Nat))) (iH (ax (1:Nat))) [Col.fz (gL pk (1:Nat))],Chunk.ro (iF (ax (2:Nat))) (iC (gL pk (2:Nat))) (iH (ax (2:Nat))) [Col.fz (gL pk (2:Nat))],Chunk.ro (iF (ax (3:Nat))) (iC (gL pk (3:Nat))) (iH (ax (3:Nat))) [Col.fz (gL pk (3:Nat))],Chunk.ro (iF (ax (4:Nat))) (iC (gL pk (4:Nat))) (iH (ax (4:Nat))) [Col.fz (gL pk (4:Nat))],Chunk.ro (iF (ax (5:Nat))) (iC (gL pk (5:Nat))) (iH (ax (5:Nat))) [Col.fz (gL pk (5:Nat))],Chunk.ro (iF (ax (6:Nat))) (iC (gL pk (6:Nat))) (iH (ax (6:Nat))) [Col.fz (gL pk (6:Nat))],Chunk.ro (iF (ax (7:Nat))) (iC (gL pk (7:Nat))) (iH (ax (7:Nat))) [Col.fz (gL pk (7:Nat))],Chunk.ro (iF (ax (8:Nat))) (iC (gL pk (8:Nat))) (iH (ax (8:Nat))) [Col.fz (gL pk (8:Nat))]])) (S0 ([Ab.ops [(0:Nat),(1:Nat),(1:Nat),(1:Nat),(1:Nat),(1:Nat)] (0:Nat),Ab.code [(1:Nat),(1:Nat),(1:Nat),(1:Nat),(1:Nat),(1:Nat)]]) (some {s:=(3:Nat),g:=none,v:=iZ iB k,p:=Pr.no}) (some {s:=(5:Nat),g:=none,v:=iT (some {block:=bc,off:=(0:Nat)}),p:=Pr.pt (2:Nat) (PK.cell (0:Nat))}) (some {s:=(9:Nat),g:=none,v:=iT (some {block:=br,off:=(0:Nat)}),p:=Pr.pt (4:Nat) (PK.cell (0:Nat))}) (some {s:=(11:Nat),g:=none,v:=iT (some {block:=hb,off:=(0:Nat)}),p:=Pr.pt (1:Nat) (PK.cell (0:Nat))}) (some {s:=(12:Nat),g:=none,v:=iZ iB pg,p:=Pr.no}) (some {s:=(13:Nat),g:=none,v:=iZ iB sl,p:=Pr.no}) ([Chunk.obj p0 (Sg.view s),Chunk.cells hb (73:Nat) [(iT (some p0),Pr.pt (0:Nat) PK.obj),(iZ iB t,Pr.no),(iZ iB p,Pr.no),(iZ iB h,Pr.no),(iD (iF (aq (0:Nat))) (iC (gL q (0:Nat))) (iH (aq (0:Nat))),Pr.pt (5:Nat) PK.slice),(iD (iF (aq (1:Nat))) (iC (gL q (1:Nat))) (iH (aq (1:Nat))),Pr.pt (6:Nat) PK.slice),(iD (iF (aq (2:Nat))) (iC (gL q (2:Nat))) (iH (aq (2:Nat))),Pr.pt (7:Nat) PK.slice),(iD (iF (aq (3:Nat))) (iC (gL q (3:Nat))) (iH (aq (3:Nat))),Pr.pt (8:Nat) PK.slice),(iD (iF (aq (4:Nat))) (iC (gL q (4:Nat))) (iH (aq (4:Nat))),Pr.pt (9:Nat) PK.slice),(iD (iF (aq (5:Nat))) (iC (gL q (5:Nat))) (iH (aq (5:Nat))),Pr.pt (10:Nat) PK.slice),(iD (iF (aq (6:Nat))) (iC (gL q (6:Nat))) (iH (aq (6:Nat))),Pr.pt (11:Nat) PK.slice),(iD (iF (aq (7:Nat))) (iC (gL q (7:Nat))) (iH (aq (7:Nat))),Pr.pt (12:Nat) PK.slice),(iD (iF (aq (8:Nat))) (iC (gL q (8:Nat))) (iH (aq (8:Nat))),Pr.pt (13:Nat) PK.slice)],Chunk.cells bc (23:Nat) [(iZ iB t,Pr.no),(iZ iB p,Pr.no),(iZ iB h,Pr.no)],Chunk.cells bp (36:Nat) [(iD (iF (ax (0:Nat))) (iC (gL pk (0:Nat))) (iH (ax (0:Nat))),Pr.pt (14:Nat) PK.slice),(iD (iF (ax (1:Nat))) (iC (gL pk (1:Nat))) (iH (ax (1:Nat))),Pr.pt (15:Nat) PK.slice),(iD (iF (ax (2:Nat))) (iC (gL pk (2:Nat))) (iH (ax (2:Nat))),Pr.pt (16:Nat) PK.slice),(iD (iF (ax (3:Nat))) (iC (gL pk (3:Nat))) (iH (ax (3:Nat))),Pr.pt (17:Nat) PK.slice),(iD (iF (ax (4:Nat))) (iC (gL pk (4:Nat))) (iH (ax (4:Nat))),Pr.pt (18:Nat) PK.slice),(iD (iF (ax (5:Nat))) (iC (gL pk (5:Nat))) (iH (ax (5:Nat))),Pr.pt (19:Nat) PK.slice),(iD (iF (ax (6:Nat))) (iC (gL pk (6:Nat))) (iH (ax (6:Nat))),Pr.pt (20:Nat) PK.slice),(iD (iF (ax (7:Nat))) (iC (gL pk (7:Nat))) (iH (ax (7:Nat))),Pr.pt (21:Nat) PK.slice),(iD (iF (ax (8:Nat))) (iC (gL pk (8:Nat))) (iH (ax (8:Nat))),Pr.pt (22:Nat) PK.slice)],Chunk.cells br (36:Nat) [(iD none (0:Nat) (0:Nat),Pr.no),(iD none (0:Nat) (0:Nat),Pr.no),(iD none (0:Nat) (0:Nat),Pr.no),(iD none (0:Nat) (0:Nat),Pr.no),(iD none (0:Nat) (0:Nat),Pr.no),(iD none (0:Nat) (0:Nat),Pr.no),(iD none (0:Nat) (0:Nat),Pr.no),(iD none (0:Nat) (0:Nat),Pr.no),(iD none (0:Nat) (0:Nat),Pr.no)],Chunk.ro (iF (aq (0:Nat))) (iC (gL q (0:Nat))) (iH (aq (0:Nat))) [Col.fz (gL q (0:Nat))],Chunk.ro (iF (aq (1:Nat))) (iC (gL q (1:Nat))) (iH (aq (1:Nat))) [Col.fz (gL q (1:Nat))],Chunk.ro (iF (aq (2:Nat))) (iC (gL q (2:Nat))) (iH (aq (2:Nat))) [Col.fz (gL q (2:Nat))],Chunk.ro (iF (aq (3:Nat))) (iC (gL q (3:Nat))) (iH (aq (3:Nat))) [Col.fz (gL q (3:Nat))],Chunk.ro (iF (aq (4:Nat))) (iC (gL q (4:Nat))) (iH (aq (4:Nat))) [Col.fz (gL q (4:Nat))],Chunk.ro (iF (aq (5:Nat))) (iC (gL q (5:Nat))) (iH (aq (5:Nat))) [Col.fz (gL q (5:Nat))],Chunk.ro (iF (aq (6:Nat))) (iC (gL q (6:Nat))) (iH (aq (6:Nat))) [Col.fz (gL q (6:Nat))],Chunk.ro (iF (aq (7:Nat))) (iC (gL q (7:Nat))) (iH (aq (7:Nat))) [Col.fz (gL q (7:Nat))],Chunk.ro (iF (aq (8:Nat))) (iC (gL q (8:Nat))) (iH (aq (8:Nat))) [Col.fz (gL q (8:Nat))],Chunk.ro (iF (ax (0:Nat))) (iC (gL pk (0:Nat))) (iH (ax (0:Nat))) [Col.fz (gL pk (0:Nat))],Chunk.ro (iF (ax (1:Nat))) (iC (gL pk (1:Nat))) (iH (ax (1:Nat))) [Col.fz (gL pk (1:Nat))],Chunk.ro (iF (ax (2:Nat))) (iC (gL pk (2:Nat))) (iH (ax (2:Nat))) [Col.fz (gL pk (2:Nat))],Chunk.ro (iF (ax (3:Nat))) (iC (gL pk (3:Nat))) (iH (ax (3:Nat))) [Col.fz (gL pk (3:Nat))],Chunk.ro (iF (ax (4:Nat))) (iC (gL pk (4:Nat))) (iH (ax (4:Nat))) [Col.fz (gL pk (4:Nat))],Chunk.ro (iF (ax (5:Nat))) (iC (gL pk (5:Nat))) (iH (ax (5:Nat))) [Col.fz (gL pk (5:Nat))],Chunk.ro (iF (ax (6:Nat))) (iC (gL pk (6:Nat))) (iH (ax (6:Nat))) [Col.fz (gL pk (6:Nat))],Chunk.ro (iF (ax (7:Nat))) (iC (gL pk (7:Nat))) (iH (ax (7:Nat))) [Col.fz (gL pk (7:Nat))],Chunk.ro (iF (ax (8:Nat))) (iC (gL pk (8:Nat))) (iH (ax (8:Nat))) [Col.fz (gL pk (8:Nat))]]))):=by
 kernel_rfl
def eK (p0:Addr) (hb bc br:Nat) (s:VS) (t p h:Int) (q:LL) (aq:Ad9):List (Chunk Sg):=[.obj p0 (.view s), .cells hb 73 (hC p0 0 4 t p h q aq), .cells bc 23 [(.int .i64 t, .no),(.int .i64 p, .no),(.int .i64 h, .no)], .cells br 36 nil9]++ro9 q aq
def eL (hb bc br:Nat) (k pg sl:Int):List Ent:=[⟨3,none, .int .i64 k, .no⟩,ptE 5 bc 2,ptE 9 br 3,ptE 11 hb 1,⟨12,none, .int .i64 pg, .no⟩,⟨13,none, .int .i64 sl, .no⟩]
abbrev JP (r2:VS×Int) (sl:Int):=(iA iO (↑(jN (iP (32:Nat) r2.2 ||| iP (32:Nat) (iA iO ((1:Int)*(2:Int)^min (iJ sl) (32:Nat))))):Int))
abbrev JQ (r4:VS) (t p h k pg sl:Int) (R':Value→Pr→List (Chunk Sg)→Prop) (aq:Ad9) (q:LL) (p0:Addr) (r2:VS×Int) (s:VS) (hb bc br b0_0:Nat):Prop:=(∀r6:VS×Int,r6=((VS.read r4 (1:Int),VS.get r4 (1:Int)))→(∀r7:VS,r7=(VS.set r6.1 (1:Int) (iA iO (r6.2+(1:Int))))→(aw_ (bd32 (iA iO (r6.2+(1:Int)))) (∀r9:Int×Bool,r9=(addr_At t p h k pg sl)→(R' (Value.tuple {toList:=[iZ iB r9.1,Value.agg {toList:=[iD (iF (aq (0:Nat))) (iC (gL q (0:Nat))) (iH (aq (0:Nat))),iD (iF (aq (1:Nat))) (iC (gL q (1:Nat))) (iH (aq (1:Nat))),iD (iF (aq (2:Nat))) (iC (gL q (2:Nat))) (iH (aq (2:Nat))),iD (iF (aq (3:Nat))) (iC (gL q (3:Nat))) (iH (aq (3:Nat))),iD (iF (aq (4:Nat))) (iC (gL q (4:Nat))) (iH (aq (4:Nat))),iD (iF (aq (5:Nat))) (iC (gL q (5:Nat))) (iH (aq (5:Nat))),iD (iF (aq (6:Nat))) (iC (gL q (6:Nat))) (iH (aq (6:Nat))),iD (iF (aq (7:Nat))) (iC (gL q (7:Nat))) (iH (aq (7:Nat))),iD (iF (aq (8:Nat))) (iC (gL q (8:Nat))) (iH (aq (8:Nat)))]},Value.bool true]}) (Pr.many [Pr.no,Pr.many [Pr.pt (4:Nat) PK.slice,Pr.pt (5:Nat) PK.slice,Pr.pt (6:Nat) PK.slice,Pr.pt (7:Nat) PK.slice,Pr.pt (8:Nat) PK.slice,Pr.pt (9:Nat) PK.slice,Pr.pt (10:Nat) PK.slice,Pr.pt (11:Nat) PK.slice,Pr.pt (12:Nat) PK.slice],Pr.no]) ([Chunk.obj p0 (Option.getD (some (Wr.inj wView r7)) (Option.getD (some (Wr.inj wView r6.1)) (Option.getD (some (Wr.inj wView r4)) (Option.getD (some (Wr.inj wView r2.1)) (Sg.view s))))),Chunk.cells hb (73:Nat) [(iT (some p0),Pr.pt (0:Nat) PK.obj),(iZ iB t,Pr.no),(iZ iB p,Pr.no),(iZ iB h,Pr.no),(iD (iF (aq (0:Nat))) (iC (gL q (0:Nat))) (iH (aq (0:Nat))),Pr.pt (4:Nat) PK.slice),(iD (iF (aq (1:Nat))) (iC (gL q (1:Nat))) (iH (aq (1:Nat))),Pr.pt (5:Nat) PK.slice),(iD (iF (aq (2:Nat))) (iC (gL q (2:Nat))) (iH (aq (2:Nat))),Pr.pt (6:Nat) PK.slice),(iD (iF (aq (3:Nat))) (iC (gL q (3:Nat))) (iH (aq (3:Nat))),Pr.pt (7:Nat) PK.slice),(iD (iF (aq (4:Nat))) (iC (gL q (4:Nat))) (iH (aq (4:Nat))),Pr.pt (8:Nat) PK.slice),(iD (iF (aq (5:Nat))) (iC (gL q (5:Nat))) (iH (aq (5:Nat))),Pr.pt (9:Nat) PK.slice),(iD (iF (aq (6:Nat))) (iC (gL q (6:Nat))) (iH (aq (6:Nat))),Pr.pt (10:Nat) PK.slice),(iD (iF (aq (7:Nat))) (iC (gL q (7:Nat))) (iH (aq (7:Nat))),Pr.pt (11:Nat) PK.slice),(iD (iF (aq (8:Nat))) (iC (gL q (8:Nat))) (iH (aq (8:Nat))),Pr.pt (12:Nat) PK.slice)],Chunk.cells bc (23:Nat) [(iZ iB t,Pr.no),(iZ iB p,Pr.no),(iZ iB h,Pr.no)],Chunk.cells br (36:Nat) [(iD (iF (aq (0:Nat))) (iC (gL q (0:Nat))) (iH (aq (0:Nat))),Pr.pt (4:Nat) PK.slice),(iD (iF (aq (1:Nat))) (iC (gL q (1:Nat))) (iH (aq (1:Nat))),Pr.pt (5:Nat) PK.slice),(iD (iF (aq (2:Nat))) (iC (gL q (2:Nat))) (iH (aq (2:Nat))),Pr.pt (6:Nat) PK.slice),(iD (iF (aq (3:Nat))) (iC (gL q (3:Nat))) (iH (aq (3:Nat))),Pr.pt (7:Nat) PK.slice),(iD (iF (aq (4:Nat))) (iC (gL q (4:Nat))) (iH (aq (4:Nat))),Pr.pt (8:Nat) PK.slice),(iD (iF (aq (5:Nat))) (iC (gL q (5:Nat))) (iH (aq (5:Nat))),Pr.pt (9:Nat) PK.slice),(iD (iF (aq (6:Nat))) (iC (gL q (6:Nat))) (iH (aq (6:Nat))),Pr.pt (10:Nat) PK.slice),(iD (iF (aq (7:Nat))) (iC (gL q (7:Nat))) (iH (aq (7:Nat))),Pr.pt (11:Nat) PK.slice),(iD (iF (aq (8:Nat))) (iC (gL q (8:Nat))) (iH (aq (8:Nat))),Pr.pt (12:Nat) PK.slice)],Chunk.ro (iF (aq (0:Nat))) (iC (gL q (0:Nat))) (iH (aq (0:Nat))) [Col.fz (gL q (0:Nat))],Chunk.ro (iF (aq (1:Nat))) (iC (gL q (1:Nat))) (iH (aq (1:Nat))) [Col.fz (gL q (1:Nat))],Chunk.ro (iF (aq (2:Nat))) (iC (gL q (2:Nat))) (iH (aq (2:Nat))) [Col.fz (gL q (2:Nat))],Chunk.ro (iF (aq (3:Nat))) (iC (gL q (3:Nat))) (iH (aq (3:Nat))) [Col.fz (gL q (3:Nat))],Chunk.ro (iF (aq (4:Nat))) (iC (gL q (4:Nat))) (iH (aq (4:Nat))) [Col.fz (gL q (4:Nat))],Chunk.ro (iF (aq (5:Nat))) (iC (gL q (5:Nat))) (iH (aq (5:Nat))) [Col.fz (gL q (5:Nat))],Chunk.ro (iF (aq (6:Nat))) (iC (gL q (6:Nat))) (iH (aq (6:Nat))) [Col.fz (gL q (6:Nat))],Chunk.ro (iF (aq (7:Nat))) (iC (gL q (7:Nat))) (iH (aq (7:Nat))) [Col.fz (gL q (7:Nat))],Chunk.ro (iF (aq (8:Nat))) (iC (gL q (8:Nat))) (iH (aq (8:Nat))) [Col.fz (gL q (8:Nat))],Chunk.cells b0_0 (3:Nat) [(iZ iB sl,Pr.no)]]))))))
abbrev Il (sl:Int) (r2:VS×Int) (r1 t p h k pg:Int) (R':Value→Pr→List (Chunk Sg)→Prop) (aq:Ad9) (q:LL) (p0:Addr) (s:VS) (hb bc br b0_0:Nat):Prop:=(aw_ ((0:Int)≤sl) (∀r4:VS,r4=(VS.set r2.1 r1 (JP r2 sl))→(aw_ (bd32 (JP r2 sl)) ((JQ r4 t p h k pg sl R' aq q p0 r2 s hb bc br b0_0)∧(JQ r4 t p h k pg sl R' aq q p0 r2 s hb bc br b0_0)))))
theorem alloc_end (R':Value→Pr→List (Chunk Sg)→Prop) (S0:List Ab→List (Chunk Sg)→Prop) (p0:Addr) (hb bc br:Nat) (s:VS) (t p h k pg sl:Int) (q:LL) (aq:Ad9):
 (run Tryz.prog Bo [2999998,31,73,74] 400 (bodyOf Tryz.f9) Tryz.f9.results.toList Tryz.f9.ntmps [.ops pEND 0, .code [1,1,1,1,1,1]] (eL hb bc br k pg sl) (eK p0 hb bc br s t p h q aq)).holds R' (λtd L K=>S0 td K)=
 (∀b0_0:Nat,(∀r1:Int,r1=(place_Slots t p h pg)→((∀r2:VS×Int,r2=((VS.read s r1,VS.get s r1))→(Il sl r2 r1 t p h k pg R' aq q p0 s hb bc br b0_0))∧(∀r2:VS×Int,r2=((VS.read s r1,VS.get s r1))→((Il sl r2 r1 t p h k pg R' aq q p0 s hb bc br b0_0)∧(Il sl r2 r1 t p h k pg R' aq q p0 s hb bc br b0_0)))))):=by
 kernel_rfl
section
variable {E:Ev} {G:Hp} {p0:Addr} {hb:Nat} {s:VS} {t p h:Int}
theorem e_fill_ok:EntryOk Dg Tryz.prog 30 (e_fill p0 hb s t p h):=by
 intro args c r he hr
 unfold e_fill at he
 split at he
 ·rename_i q A st k i
  injection he with he;subst he;subst hr
  refine ⟨λK acs _=>pOk_no, λhpre E G w _ hS=>?_⟩
  have q1:q=⟨hb,0,none⟩:=hpre _ (.head _)
  have q2:A=handA p0 hb s t p h:=hpre _ (.tail _ (.head _))
  have q3:pkO st:=hpre _ (.tail _ (.tail _ (.head _)))
  have q4:p≤1024:=hpre _ (.tail _ (.tail _ (.tail _ (.head _))))
  subst q1;subst q2
  have hS1:SatK Dg E G w [.obj ⟨hb,0,none⟩ (.any (handA p0 hb s t p h) st)]:=hS
  obtain ⟨ad,hS2⟩:=SatK.unpackEx Dg (k:=0) (k0:= λ_:Ad9=> .obj p0 (.view s)) (ks:= λad=> .cells hb 73 (hC p0 0 2 t p h st ad)::ro9 st ad) hS1 rfl (by kernel_rfl)
  have hP:fillP s t p h k:= λho=>by have:=pick_ok (c:=⟨t,p,h⟩) (s:=s) (k:=k) ho;exact ⟨this.1,Nat.le_trans this.2.1 (by decide)⟩
  refine fill_calls (ad:=ad) q3 q4 hP hS2 λw' ad' hS3=>⟨[],trivial,rfl,?_⟩
  have hc:∀Y y,Sl.star ((hK p0 hb (fillR s t p h k st).1 t p h (fillR s t p h k st).2.1 ad').map (den Dg G)) Y y→handA p0 hb (fillR s t p h k st).1 t p h (fillR s t p h k st).2.1 Y y:= λY y hx=>⟨ad',hx⟩
  exact SatK.packEx Dg (G:=G) (Ks:=hK p0 hb (fillR s t p h k st).1 t p h (fillR s t p h k st).2.1 ad') (K1:=[]) (c:= .obj ⟨hb,0,none⟩ (.any (handA p0 hb (fillR s t p h k st).1 t p h) (fillR s t p h k st).2.1)) (by rw [List.append_nil];exact hS3) hc
 ·cases he
end
abbrev allF:FuncId:=9
noncomputable abbrev allB:Code:=bodyOf Tryz.f9
noncomputable abbrev allN:Nat:=Tryz.f9.ntmps
abbrev RT:=VS×Int×LI×LI×LI×LI×LI×LI×LI×LI×LI×Bool
def AP (E:Ev) (G:Hp) (p0:Addr) (cs:List (Cm Sg)) (r:RT):Ending→World→Prop:=Post Dg E G (c_small_Alloc.outC r) (c_small_Alloc.nwC p0 cs r) (c_small_Alloc.mksC r)
def AR (p0:Addr) (cs:List (Cm Sg)) (r:RT):Value→Pr→List (Chunk Sg)→Prop:=RetOk (c_small_Alloc.outC r) (c_small_Alloc.nwC p0 cs r) (c_small_Alloc.mksC r)
def v9 (q:LL) (aq:Ad9):List Value:=(sl9 0 q aq).map (·.1)
def p9 (o:Nat):List Pr:=[.pt o .slice, .pt (o+1) .slice, .pt (o+2) .slice, .pt (o+3) .slice, .pt (o+4) .slice, .pt (o+5) .slice, .pt (o+6) .slice, .pt (o+7) .slice, .pt (o+8) .slice]
def zK (p0:Addr) (hb bc br b0:Nat) (s:VS) (t p h sl:Int) (q:LL) (aq:Ad9):List (Chunk Sg):=[.obj p0 (.view s), .cells hb 73 (hC p0 0 4 t p h q aq), .cells bc 23 [(.int .i64 t, .no),(.int .i64 p, .no),(.int .i64 h, .no)], .cells br 36 (sl9 4 q aq)]++ro9 q aq++[.cells b0 3 [(.int .i64 sl, .no)]]
theorem end_ret (p0:Addr) (cs:List (Cm Sg)) (hb bc br b0:Nat) (s:VS) (t p h sl a:Int) (q:LL) (aq:Ad9):AR p0 cs (tup9 true a s q) (.tuple #[.int .i64 a, .agg (v9 q aq).toArray, .bool true]) (.many [.no, .many (p9 4), .no]) (zK p0 hb bc br b0 s t p h sl q aq):=
 Ct.ret_ok (c:=c_small_Alloc) (p0:=p0) (cs:=cs) (v:= .tuple #[.int .i64 a, .agg (v9 q aq).toArray, .bool true]) (p:= .many [.no, .many (p9 4), .no]) (K:=zK p0 hb bc br b0 s t p h sl q aq) (by kernel_rfl) (by kernel_rfl)
def yK (p0:Addr) (hb bc bp br:Nat) (s:VS) (t p h:Int) (q:LL) (aq:Ad9) (pk:LL) (ax:Ad9):List (Chunk Sg):=[.obj p0 (.view s), .cells hb 73 (hC p0 0 5 t p h q aq), .cells bc 23 [(.int .i64 t, .no),(.int .i64 p, .no),(.int .i64 h, .no)], .cells bp 36 (sl9 14 pk ax), .cells br 36 (sl9 14 pk ax)]++ro9 q aq++ro9 pk ax
theorem no_ret (p0:Addr) (cs:List (Cm Sg)) (hb bc bp br:Nat) (s:VS) (t p h:Int) (q:LL) (aq:Ad9) (pk:LL) (ax:Ad9):AR p0 cs (tup9 false 0 s pk) (.tuple #[.int .i64 0, .agg (v9 pk ax).toArray, .bool false]) (.many [.no, .many (p9 14), .no]) (yK p0 hb bc bp br s t p h q aq pk ax):=
 Ct.ret_ok (c:=c_small_Alloc) (p0:=p0) (cs:=cs) (v:= .tuple #[.int .i64 0, .agg (v9 pk ax).toArray, .bool false]) (p:= .many [.no, .many (p9 14), .no]) (K:=yK p0 hb bc bp br s t p h q aq pk ax) (by kernel_rfl) (by kernel_rfl)
end
section
open Go Go.Sl
def allocC (s:VS) (t p h:Int) (st:LL) (k:Int):RT:=
 bif (lastI (pkk st k)).2 then tup9 true (addr_At t p h k (pgA t p h (lastI (pkk st k)).1) (slA t p h k (lastI (pkk st k)).1)).1 (begS s t p h (pgA t p h (lastI (pkk st k)).1) (slA t p h k (lastI (pkk st k)).1)) (pkS st k (popL (pkk st k)))
 else bif (fillR s t p h k st).2.2.2.2 then tup9 true (addr_At t p h k (fillR s t p h k st).2.2.1 (fillR s t p h k st).2.2.2.1).1 (begS (fillR s t p h k st).1 t p h (fillR s t p h k st).2.2.1 (fillR s t p h k st).2.2.2.1) (fillR s t p h k st).2.1
  else tup9 false 0 (fillR s t p h k st).1 st
def small_Alloc (s:VS) (t p h:Int) (x0 x1 x2 x3 x4 x5 x6 x7 x8:LI) (k:Int):RT:=allocC s t p h [x0,x1,x2,x3,x4,x5,x6,x7,x8] k
def e_small_Alloc:Entry Sg:=entC c_small_Alloc small_Alloc (λs t p h x0 x1 x2 x3 x4 x5 x6 x7 x8 k=>[p≤1024,pkB x0 x1 x2 x3 x4 x5 x6 x7 x8])
section
variable {E:Ev} {G:Hp} {p0:Addr} {cs:List (Cm Sg)} {hb bc bp br:Nat} {s:VS} {t p h k pg sl:Int} {q pk:LL} {aq ax:Ad9}
set_option maxRecDepth 100000 in
theorem alloc_end_sw (hsl:0≤sl∧sl<32):SW Dg Tryz.prog allF (AP E G p0 cs (tup9 true (addr_At t p h k pg sl).1 (begS s t p h pg sl) q)) allB allN E G [.ops pEND 0, .code [1,1,1,1,1,1]] (eL hb bc br k pg sl) (eK p0 hb bc br s t p h q aq):=by
 refine pieceF (f:=allF) AV Tryz.func9 (alloc_end (AR p0 cs (tup9 true (addr_At t p h k pg sl).1 (begS s t p h pg sl) q)) (λ_ _=>False) p0 hb bc br s t p h k pg sl q aq) (λv pr K w hz hS=>RetOk.post Dg hz hS) (λ_ _ _ hz=>hz.elim) ?_
 intro b0 r1 h1
 rw [place_Slots_eq] at h1
 subst h1
 have e1:=orOne_eq (VS.get_bd s (Cf.slots ⟨t,p,h⟩ pg)) hsl
 have g1:=(bitAt_setB (VS.get_bd s (Cf.slots ⟨t,p,h⟩ pg)) hsl).1
 have two:∀r4:VS,r4=(s.read (Cf.slots ⟨t,p,h⟩ pg)).set (Cf.slots ⟨t,p,h⟩ pg) (setB (s.get (Cf.slots ⟨t,p,h⟩ pg)) sl)→∀r6:VS×Int,r6=(r4.read 1,r4.get 1)→∀r7:VS,r7=r6.1.set 1 (iA iO (r6.2+1))→aw_ (bd32 (iA iO (r6.2+1))) (∀r9:Int×Bool,r9=addr_At t p h k pg sl→
  AR p0 cs (tup9 true (addr_At t p h k pg sl).1 (begS s t p h pg sl) q) (.tuple #[.int .i64 r9.1, .agg (v9 q aq).toArray, .bool true]) (.many [.no, .many (p9 4), .no]) (zK p0 hb bc br b0 r7 t p h sl q aq)):=by
  rintro r4 rfl r6 rfl r7 rfl
  refine ⟨wu32_bd _, λ_=>?_⟩
  rintro r9 rfl
  exact end_ret ..
 have g2:=g1
 rw [←e1] at g2
 have thr:∀r4:VS,r4=(s.read (Cf.slots ⟨t,p,h⟩ pg)).set (Cf.slots ⟨t,p,h⟩ pg) (iA iO (↑(jN (iP (32:Nat) (s.get (Cf.slots ⟨t,p,h⟩ pg)) ||| iP (32:Nat) (iA iO ((1:Int)*(2:Int)^min (iJ sl) (32:Nat))))):Int))→_:= λr4 h4=>two r4 (h4.trans (congrArg (VS.set _ _) e1))
 refine ⟨?_,?_⟩
 ·rintro r2 rfl
  exact ⟨hsl.1, λ_ r4 h4=>⟨g2, λ_=>⟨thr r4 h4,thr r4 h4⟩⟩⟩
 ·rintro r2 rfl
  exact ⟨⟨hsl.1, λ_ r4 h4=>⟨g2, λ_=>⟨thr r4 h4,thr r4 h4⟩⟩⟩,⟨hsl.1, λ_ r4 h4=>⟨g2, λ_=>⟨thr r4 h4,thr r4 h4⟩⟩⟩⟩
theorem reN {L:List Ent} {K:List (Chunk Sg)} {a:Nat} {v:Value} {pr:Pr} (hm:(⟨a,none,v,pr⟩:Ent)∈L):reOk L K ⟨a,none,v, .no⟩:=⟨rfl,⟨_,hm⟩,pOk_no⟩
def atEnd (E:Ev) (G:Hp) (p0:Addr) (s:VS) (t p h k pg sl:Int) (q:LL) (td:List Ab) (e3 e5 e9 e11 e12 e13:Option Ent) (K:List (Chunk Sg)):Prop:=
 td=[.ops pEND 0, .code [1,1,1,1,1,1]]∧∃(hb bc br:Nat) (aq:Ad9) (q5 q9 q11:Pr),e3=some ⟨3,none, .int .i64 k, .no⟩∧e5=some ⟨5,none, .pointer (some ⟨bc,0,none⟩),q5⟩∧e9=some ⟨9,none, .pointer (some ⟨br,0,none⟩),q9⟩∧e11=some ⟨11,none, .pointer (some ⟨hb,0,none⟩),q11⟩∧e12=some ⟨12,none, .int .i64 pg, .no⟩∧e13=some ⟨13,none, .int .i64 sl, .no⟩∧
  ∀w,SatK Dg E G w K→SatK Dg E G w (eK p0 hb bc br s t p h q aq)
theorem atEnd_sw {td:List Ab} {L:List Ent} {K:List (Chunk Sg)} (hz:atEnd E G p0 s t p h k pg sl q td (Sl.look L 3) (Sl.look L 5) (Sl.look L 9) (Sl.look L 11) (Sl.look L 12) (Sl.look L 13) K) (hsl:0≤sl∧sl<32):
 SW Dg Tryz.prog allF (AP E G p0 cs (tup9 true (addr_At t p h k pg sl).1 (begS s t p h pg sl) q)) allB allN E G td L K:=by
 obtain ⟨rfl,hb,bc,br,aq,q5,q9,q11,e3,e5,e9,e11,e12,e13,hK⟩:=hz
 refine SW.re Dg (α:=Unit) (Kf:= λ_=>eK p0 hb bc br s t p h q aq) (L':=eL hb bc br k pg sl) (λw hS=>⟨(),hK w hS⟩) (λ_=>KOk_all (by simp [eK,hC,nil9,ro9,cellsAll,psOk,pOk,cOk])) (λ_ e he=>?_) λ_=>alloc_end_sw hsl
 simp only [eL,iN,List.not_mem_nil,or_false] at he
 rcases he with rfl|rfl|rfl|rfl|rfl|rfl
 ·exact reN (look_mem e3).1
 ·exact ⟨rfl,⟨_,(look_mem e5).1⟩,(pOk_pt).2 ⟨_,rfl,rfl⟩⟩
 ·exact ⟨rfl,⟨_,(look_mem e9).1⟩,(pOk_pt).2 ⟨_,rfl,rfl⟩⟩
 ·exact ⟨rfl,⟨_,(look_mem e11).1⟩,(pOk_pt).2 ⟨_,rfl,rfl⟩⟩
 ·exact reN (look_mem e12).1
 ·exact reN (look_mem e13).1
set_option maxRecDepth 100000 in
theorem alloc_c_sw {r:RT} {ok:Bool} (hsl:ok=true→0≤sl∧sl<32) (hr:r=bif ok then tup9 true (addr_At t p h k pg sl).1 (begS s t p h pg sl) q else tup9 false 0 s pk):
 SW Dg Tryz.prog allF (AP E G p0 cs r) allB allN E G [.ops pC 0, .code [1,1,1,1,0,1,1,1,1], .code [1,1,1,1,1]] (bL hb bc bp br k pg sl ok) (bK p0 hb bc bp br s t p h q aq pk ax):=by
 cases ok with
 |false=>
  refine pieceF (f:=allF) AV Tryz.func9 (alloc_c (AR p0 cs r) (λ_ _ _ _ _ _ _ _=>False) p0 hb bc bp br s t p h k pg sl false q aq pk ax) (λv pr K w hz hS=>RetOk.post Dg hz hS) (λ_ _ _ hz=>hz.elim) ⟨λ_=>?_, λhz=>by cases hz⟩
  rw [hr]
  exact no_ret ..
 |true=>
  rw [hr,cond_true]
  refine pieceF (f:=allF) AV Tryz.func9 (alloc_c (λ_ _ _=>False) (λtd e3 e5 e9 e11 e12 e13 K=>atEnd E G p0 s t p h k pg sl q td e3 e5 e9 e11 e12 e13 K) p0 hb bc bp br s t p h k pg sl true q aq pk ax) (λ_ _ _ _ hz=>hz.elim) (λtd L K hz=>atEnd_sw hz (hsl rfl)) ⟨(λhz=>by cases hz), λ_=>?_⟩
  exact ⟨rfl,hb,bc,br,aq,_,_,_,rfl,rfl,rfl,rfl,rfl,rfl, λw hS=>hS.ord Dg [0,1,2,4,5,6,7,8,9,10,11,12,13] rfl (by kernel_rfl)⟩
def atC (p0:Addr) (hb bc bp br:Nat) (t p h k:Int) (r:VS×LL×Int×Int×Bool) (pk:LL) (ax:Ad9) (td:List Ab) (e3 e5 e6 e9 e11 e12 e13 e16:Option Ent) (K:List (Chunk Sg)):Prop:=
 td=[.ops pC 0, .code [1,1,1,1,0,1,1,1,1], .code [1,1,1,1,1]]∧e3=some ⟨3,none, .int .i64 k, .no⟩∧e5=some (ptE 5 bc 1)∧e6=some (ptE 6 bp 2)∧e9=some (ptE 9 br 3)∧e11=some ⟨11,none, .pointer (some ⟨hb,0,none⟩), .pt 0 .obj⟩∧e12=some ⟨12,none, .int .i64 r.2.2.1, .no⟩∧e13=some ⟨13,none, .int .i64 r.2.2.2.1, .no⟩∧e16=some ⟨16,none, .bool r.2.2.2.2, .no⟩∧
  K=aK hb bc bp br t p h (handA p0 hb r.1 t p h) r.2.1 pk ax
theorem fill_slot (ho:(fillR s t p h k pk).2.2.2.2=true):0≤(fillR s t p h k pk).2.2.2.1∧(fillR s t p h k pk).2.2.2.1<32:=by
 unfold fillR at ho ⊢
 cases hc:(slab_Pick s t p h k 4).2.2.2 with
 |false=>rw [hc] at ho;cases ho
 |true=>
  have h1:=pick_ok (c:=⟨t,p,h⟩) (s:=s) (k:=k) hc
  have h2:=h1.2.2 _ (getD_mem' (i:=0) h1.1)
  have h3:=kSlots_32 k
  exact ⟨h2.1,Int.lt_of_lt_of_le h2.2 h3⟩
set_option maxRecDepth 100000 in
theorem alloc_fill_sw {r:RT} (hO:pkO pk) (hp:p≤1024) (hr:r=bif (fillR s t p h k pk).2.2.2.2 then tup9 true (addr_At t p h k (fillR s t p h k pk).2.2.1 (fillR s t p h k pk).2.2.2.1).1 (begS (fillR s t p h k pk).1 t p h (fillR s t p h k pk).2.2.1 (fillR s t p h k pk).2.2.2.1) (fillR s t p h k pk).2.1 else tup9 false 0 (fillR s t p h k pk).1 pk):
 SW Dg Tryz.prog allF (AP E G p0 cs r) allB allN E G [.ops pELSE 0, .code [1,1,1,0,1,1,1,1], .code [1,1,1,1,1]] (aL hb bc bp br k) (aK hb bc bp br t p h (handA p0 hb s t p h) pk pk ax):=by
 refine pieceF (f:=allF) (TableOk.cons Dg (e_fill_ok (p0:=p0) (hb:=hb) (s:=s) (t:=t) (p:=p) (h:=h)) AV) Tryz.func9 (alloc_fill (λ_ _ _=>False) (λtd e3 e5 e6 e9 e11 e12 e13 e16 K=>atC p0 hb bc bp br t p h k (fillR s t p h k pk) pk ax td e3 e5 e6 e9 e11 e12 e13 e16 K) p0 hb bc bp br s t p h k pk ax) (λ_ _ _ _ hz=>hz.elim) (λtd L K hz=>?_)
  (λr0 h0=>⟨rfl, λ_=>⟨rfl, λ_=>⟨hO, λ_=>⟨hp, λ_=>by subst h0;exact ⟨rfl,rfl,rfl,rfl,rfl,rfl,rfl,rfl,rfl,rfl⟩⟩⟩⟩⟩)
 obtain ⟨rfl,e3,e5,e6,e9,e11,e12,e13,e16,rfl⟩:=(hz:atC p0 hb bc bp br t p h k (fillR s t p h k pk) pk ax td (Sl.look L 3) (Sl.look L 5) (Sl.look L 6) (Sl.look L 9) (Sl.look L 11) (Sl.look L 12) (Sl.look L 13) (Sl.look L 16) K)
 have hsl:=fill_slot (s:=s) (t:=t) (p:=p) (h:=h) (k:=k) (pk:=pk)
 generalize fillR s t p h k pk=f at hr hsl e12 e13 e16 ⊢
 obtain ⟨s1,q,pg,sl,ok⟩:=f
 refine SW.re Dg (α:=Ad9) (Kf:= λaq=>bK p0 hb bc bp br s1 t p h q aq pk ax) (L':=bL hb bc bp br k pg sl ok) (λw hS=>?_) (λ_=>KOk_all (by simp [bK,hC,sl9,nil9,ro9,cellsAll,psOk,pOk,cOk])) (λaq e he=>?_) λaq=>alloc_c_sw hsl hr
 ·obtain ⟨aq,h1⟩:=SatK.unpackEx Dg (k:=0) (k0:= λ_:Ad9=> .obj p0 (.view s1)) (ks:= λad=> .cells hb 73 (hC p0 0 2 t p h q ad)::ro9 q ad) hS rfl (by kernel_rfl)
  exact ⟨aq,h1.ord Dg [0,13,1,2,3,14,15,16,17,18,19,20,21,22,4,5,6,7,8,9,10,11,12] rfl (by kernel_rfl)⟩
 ·simp only [bL,iN,List.not_mem_nil,or_false] at he
  rcases he with rfl|rfl|rfl|rfl|rfl|rfl|rfl|rfl
  ·exact reN (look_mem e3).1
  ·exact ⟨rfl,⟨_,(look_mem e5).1⟩,(pOk_pt).2 ⟨_,rfl,rfl⟩⟩
  ·exact ⟨rfl,⟨_,(look_mem e6).1⟩,(pOk_pt).2 ⟨_,rfl,rfl⟩⟩
  ·exact ⟨rfl,⟨_,(look_mem e9).1⟩,(pOk_pt).2 ⟨_,rfl,rfl⟩⟩
  ·exact ⟨rfl,⟨_,(look_mem e11).1⟩,(pOk_pt).2 ⟨_,rfl,rfl⟩⟩
  ·exact reN (look_mem e12).1
  ·exact reN (look_mem e13).1
  ·exact reN (look_mem e16).1
def atElse (E:Ev) (G:Hp) (p0:Addr) (s:VS) (t p h k:Int) (pk:LL) (td:List Ab) (e3 e5 e6 e9 e11:Option Ent) (K:List (Chunk Sg)):Prop:=
 td=[.ops pELSE 0, .code [1,1,1,0,1,1,1,1], .code [1,1,1,1,1]]∧∃(hb bc bp br:Nat) (ax:Ad9) (q5 q6 q9 q11:Pr),e3=some ⟨3,none, .int .i64 k, .no⟩∧e5=some ⟨5,none, .pointer (some ⟨bc,0,none⟩),q5⟩∧e6=some ⟨6,none, .pointer (some ⟨bp,0,none⟩),q6⟩∧e9=some ⟨9,none, .pointer (some ⟨br,0,none⟩),q9⟩∧e11=some ⟨11,none, .pointer (some ⟨hb,0,none⟩),q11⟩∧
  ∀w,SatK Dg E G w K→SatK Dg E G w (aK hb bc bp br t p h (handA p0 hb s t p h) pk pk ax)
theorem atElse_sw {td:List Ab} {L:List Ent} {K:List (Chunk Sg)} {r:RT} (hz:atElse E G p0 s t p h k pk td (Sl.look L 3) (Sl.look L 5) (Sl.look L 6) (Sl.look L 9) (Sl.look L 11) K) (hO:pkO pk) (hp:p≤1024)
 (hr:r=bif (fillR s t p h k pk).2.2.2.2 then tup9 true (addr_At t p h k (fillR s t p h k pk).2.2.1 (fillR s t p h k pk).2.2.2.1).1 (begS (fillR s t p h k pk).1 t p h (fillR s t p h k pk).2.2.1 (fillR s t p h k pk).2.2.2.1) (fillR s t p h k pk).2.1 else tup9 false 0 (fillR s t p h k pk).1 pk):
 SW Dg Tryz.prog allF (AP E G p0 cs r) allB allN E G td L K:=by
 obtain ⟨rfl,hb,bc,bp,br,ax,q5,q6,q9,q11,e3,e5,e6,e9,e11,hK⟩:=hz
 refine SW.re Dg (α:=Unit) (Kf:= λ_=>aK hb bc bp br t p h (handA p0 hb s t p h) pk pk ax) (L':=aL hb bc bp br k) (λw hS=>⟨(),hK w hS⟩) (λ_=>KOk_all (by simp [aK,sl9,hC,nil9,ro9,cellsAll,psOk,pOk,cOk])) (λ_ e he=>?_) λ_=>alloc_fill_sw hO hp hr
 simp only [aL,iN,List.not_mem_nil,or_false] at he
 rcases he with rfl|rfl|rfl|rfl|rfl
 ·exact reN (look_mem e3).1
 ·exact ⟨rfl,⟨_,(look_mem e5).1⟩,(pOk_pt).2 ⟨_,rfl,rfl⟩⟩
 ·exact ⟨rfl,⟨_,(look_mem e6).1⟩,(pOk_pt).2 ⟨_,rfl,rfl⟩⟩
 ·exact ⟨rfl,⟨_,(look_mem e9).1⟩,(pOk_pt).2 ⟨_,rfl,rfl⟩⟩
 ·exact ⟨rfl,⟨_,(look_mem e11).1⟩,(pOk_pt).2 ⟨_,rfl,rfl⟩⟩
end
abbrev adX (p0:Addr) (ad:Nat→Ad):Ad9:= λi=>((adP p0 ad (i+1)).a,(adP p0 ad (i+1)).c)
set_option maxRecDepth 100000 in
theorem small_Alloc_ok:EOk 9 e_small_Alloc:=by
 refine ent_of Dg (mk:=[]) AV (I:=allI) Tryz.func9 mix (B:=allB) (by kernel_rfl) rfl (by kernel_rfl) 400 λp0 s t p h x0 x1 x2 x3 x4 x5 x6 x7 x8 k hbd hp ad E G=>?_
 have hp0:p≤1024:=hp _ (.head _)
 have hp1:pkB x0 x1 x2 x3 x4 x5 x6 x7 x8:=hp _ (.tail _ (.head _))
 refine holdsE (alloc_begin _ (λtd e3 e5 e6 e9 e11 e12 e13 K=>((lastI (pkk [x0,x1,x2,x3,x4,x5,x6,x7,x8] k)).2=true∧atEnd E G p0 s t p h k (pgA t p h (lastI (pkk [x0,x1,x2,x3,x4,x5,x6,x7,x8] k)).1) (slA t p h k (lastI (pkk [x0,x1,x2,x3,x4,x5,x6,x7,x8] k)).1) (pkS [x0,x1,x2,x3,x4,x5,x6,x7,x8] k (popL (pkk [x0,x1,x2,x3,x4,x5,x6,x7,x8] k))) td e3 e5 e9 e11 e12 e13 K)∨
  ((lastI (pkk [x0,x1,x2,x3,x4,x5,x6,x7,x8] k)).2=false∧atElse E G p0 s t p h k [x0,x1,x2,x3,x4,x5,x6,x7,x8] td e3 e5 e6 e9 e11 K)) p0 s t p h k x0 x1 x2 x3 x4 x5 x6 x7 x8 ad) (λtd L K hz=>?_) ?_
 ·show SW Dg Tryz.prog allF (AP E G p0 (al9 x0 x1 x2 x3 x4 x5 x6 x7 x8 s t p h k) (allocC s t p h [x0,x1,x2,x3,x4,x5,x6,x7,x8] k)) allB allN E G td L K
  rcases hz with ⟨h1,hz⟩|⟨h1,hz⟩
  ·have e:allocC s t p h [x0,x1,x2,x3,x4,x5,x6,x7,x8] k=tup9 true (addr_At t p h k (pgA t p h (lastI (pkk [x0,x1,x2,x3,x4,x5,x6,x7,x8] k)).1) (slA t p h k (lastI (pkk [x0,x1,x2,x3,x4,x5,x6,x7,x8] k)).1)).1 (begS s t p h (pgA t p h (lastI (pkk [x0,x1,x2,x3,x4,x5,x6,x7,x8] k)).1) (slA t p h k (lastI (pkk [x0,x1,x2,x3,x4,x5,x6,x7,x8] k)).1)) (pkS [x0,x1,x2,x3,x4,x5,x6,x7,x8] k (popL (pkk [x0,x1,x2,x3,x4,x5,x6,x7,x8] k))):=by unfold allocC;rw [h1];rfl
   rw [e]
   exact atEnd_sw hz (slot_rg ..)
  ·exact atElse_sw hz hp1 hp0 (by unfold allocC;rw [h1];rfl)
 ·intro bc bp br hb
  rintro ⟨a,q0,q1,q2,q3,q4,q5,q6,q7,q8,ok⟩ h4
  have hv:(a,q0,q1,q2,q3,q4,q5,q6,q7,q8,ok)=((lastI (pkk [x0,x1,x2,x3,x4,x5,x6,x7,x8] k)).1,pkSel k 0 (popL (pkk [x0,x1,x2,x3,x4,x5,x6,x7,x8] k)) x0,pkSel k 1 (popL (pkk [x0,x1,x2,x3,x4,x5,x6,x7,x8] k)) x1,pkSel k 2 (popL (pkk [x0,x1,x2,x3,x4,x5,x6,x7,x8] k)) x2,pkSel k 3 (popL (pkk [x0,x1,x2,x3,x4,x5,x6,x7,x8] k)) x3,pkSel k 4 (popL (pkk [x0,x1,x2,x3,x4,x5,x6,x7,x8] k)) x4,pkSel k 5 (popL (pkk [x0,x1,x2,x3,x4,x5,x6,x7,x8] k)) x5,pkSel k 6 (popL (pkk [x0,x1,x2,x3,x4,x5,x6,x7,x8] k)) x6,pkSel k 7 (popL (pkk [x0,x1,x2,x3,x4,x5,x6,x7,x8] k)) x7,pkSel k 8 (popL (pkk [x0,x1,x2,x3,x4,x5,x6,x7,x8] k)) x8,(lastI (pkk [x0,x1,x2,x3,x4,x5,x6,x7,x8] k)).2):=h4
  simp only [iU] at hv
  obtain ⟨ha,hq0,hq1,hq2,hq3,hq4,hq5,hq6,hq7,hq8,hok⟩:=hv
  refine ⟨hp1, λ_ a0 c0 a1 c1 a2 c2 a3 c3 a4 c4 a5 c5 a6 c6 a7 c7 a8 c8 b15=>⟨λho=>?_, λho=>?_⟩⟩
  ·have ho:ok=true:=ho
   rintro r17 rfl r18 rfl
   have hi:i64R (lastI (pkk [x0,x1,x2,x3,x4,x5,x6,x7,x8] k)).1:=lastI_i64 (pkB_get hp1 k)
   refine .inl ⟨by rw [←hok];exact ho,rfl,hb,bc,br, λn=>match n with
    |0=>(a0.map decA,c0)|1=>(a1.map decA,c1)|2=>(a2.map decA,c2)|3=>(a3.map decA,c3)|4=>(a4.map decA,c4)|5=>(a5.map decA,c5)|6=>(a6.map decA,c6)|7=>(a7.map decA,c7)|_=>(a8.map decA,c8),_,_,_,rfl,rfl,rfl,rfl,?_,?_, λw hS=>?_⟩
   ·dsimp only
    rw [ha,Page_eq hi];rfl
   ·dsimp only
    rw [ha,Page_eq hi,Slot_eq];rfl
   ·have e:pkS [x0,x1,x2,x3,x4,x5,x6,x7,x8] k (popL (pkk [x0,x1,x2,x3,x4,x5,x6,x7,x8] k))=[q0,q1,q2,q3,q4,q5,q6,q7,q8]:=by rw [hq0,hq1,hq2,hq3,hq4,hq5,hq6,hq7,hq8];rfl
    rw [e]
    exact hS.ord Dg [0,13,10,12,14,15,16,17,18,19,20,21,22] rfl (by kernel_rfl)
  ·have ho:ok=false:=ho
   refine .inr ⟨by rw [←hok];exact ho,rfl,hb,bc,bp,br,adX p0 ad,_,_,_,_,rfl,rfl,rfl,rfl,rfl, λw hS=>?_⟩
   have hS2:=((((((((hS.dup Dg (j:=1) rfl).dup Dg (j:=2) rfl).dup Dg (j:=3) rfl).dup Dg (j:=4) rfl).dup Dg (j:=5) rfl).dup Dg (j:=6) rfl).dup Dg (j:=7) rfl).dup Dg (j:=8) rfl).dup Dg (j:=9) rfl
   refine SatK.packEx Dg (G:=G) (Ks:=hK p0 hb s t p h [x0,x1,x2,x3,x4,x5,x6,x7,x8] (adX p0 ad)) (K1:=[.cells bc 23 [(.int .i64 t, .no),(.int .i64 p, .no),(.int .i64 h, .no)], .cells bp 36 (sl9 4 [x0,x1,x2,x3,x4,x5,x6,x7,x8] (adX p0 ad)), .cells br 36 nil9]++ro9 [x0,x1,x2,x3,x4,x5,x6,x7,x8] (adX p0 ad)) (c:= .obj ⟨hb,0,none⟩ (.any (handA p0 hb s t p h) [x0,x1,x2,x3,x4,x5,x6,x7,x8]))
    (hS2.ord Dg [0,13,1,2,3,4,5,6,7,8,9,10,11,12,24,25,26,27,28,29,30,31,32] rfl (by kernel_rfl)) λY y hx=>⟨adX p0 ad,hx⟩
def T_small_Alloc:Tb:=(9,e_small_Alloc)::Bo
theorem T_small_Alloc_ok:TOk T_small_Alloc:=tc_ small_Alloc_ok AV
end
section
open Go.Sl
theorem sound_good {c:Cf} {xs:LI} (h:soundA c xs=true) (hb:bdAll xs):AGood c xs:=by
 rw [soundA_eq] at h
 unfold soundB at h
 simp only [iK,beq_iff_eq] at h
 exact {ok:=h.1.1.1.1.1.1.1.1.1.1,len:=h.1.1.1.1.1.1.1.1.1.2,bd:=hb}
end
section
open Go Go.Sl
def allL (c:LI):Nat→LI
 |0=>[]
 |n+1=>allL c n++slR (c.getD n 0)
def lenB (c:LI):Nat→Bool
 |0=>true
 |n+1=>lenB c n&&decide ((slR (c.getD n 0)).length≤4)
def oft (l:LI) (a:Int):Int:=((l.filter (· ==a)).length:Int)
def idP (sz:Int) (x:Pt):Bool:=x.k==4&&x.s==sz
def fitIn (sz:Int) (H:LI):List Pt→Int→Option Int
 |[],n=>some n
 |x::r,n=>bif idP sz x then (bif oft H x.a==1 then fitIn sz H r (iA .i64 (n-1)) else none) else fitIn sz H r n
def fitOut (h:Int) (L:List Pt) (C:Int→LI) (N:Nat):Nat→Int→Bool
 |0,n=>n==0
 |j+1,n=>bif lenB (C (8-j)) N then (match fitIn (r05_Size h (8-j)) (allL (C (8-j)) N) L (iA .i64 (n+(allL (C (8-j)) N).length)) with
  |some n'=>fitOut h L C N j n'
  |none=>false) else false
def fitTl (h:Int) (L:List Pt) (C:Int→LI) (N:Nat) (k:Int) (H:LI) (M:List Pt) (n:Int):Bool:=match fitIn (r05_Size h k) H M n with
 |some n'=>fitOut h L C N (8-k).toNat n'
 |none=>false
theorem fitOut_step {h:Int} {L:List Pt} {C:Int→LI} {N:Nat} {k n:Int} (hk:0≤k∧k≤8):fitOut h L C N (9-k).toNat n=bif lenB (C k) N then fitTl h L C N k (allL (C k) N) L (iA .i64 (n+(allL (C k) N).length)) else false:=by
 have e1:(9-k).toNat=(8-k).toNat+1:=by omega
 have e2:(8:Int)-((8-k).toNat:Nat)=k:=by omega
 rw [e1,fitOut,e2]
 rfl
theorem lenB_le {c:LI}:∀{N m:Nat},m≤N→lenB c N=true→lenB c m=true
 |0,m,h,_=>by rw [show m=0 by omega];rfl
 |n+1,m,h,hb=>by
  by_cases e:m=n+1
  ·rw [e];exact hb
  ·simp only [lenB,iK] at hb
   exact lenB_le (by omega) hb.1
theorem fitTl_cons {h:Int} {L:List Pt} {C:Int→LI} {N:Nat} {k n:Int} {H:LI} {x:Pt} {M:List Pt}:fitTl h L C N k H (x::M) n=bif idP (r05_Size h k) x then (bif oft H x.a==1 then fitTl h L C N k H M (iA .i64 (n-1)) else false) else fitTl h L C N k H M n:=by
 unfold fitTl
 rw [fitIn]
 cases idP (r05_Size h k) x with
 |false=>rfl
 |true=>cases oft H x.a==1<;>rfl
theorem pt_drop {L:List Pt} {i:Nat} (h:i<L.length):∃x:Pt,L.drop i=x::L.drop (i+1)∧(L.map (·.k)).getD i 0=x.k∧(L.map (·.a)).getD i 0=x.a∧(L.map (·.s)).getD i 0=x.s:=by
 have e:∀f:Pt→Int,(L.map f).getD i 0=f L[i]:= λf=>by
  rw [iI,iV,iR h];rfl
 exact ⟨L[i],List.drop_eq_getElem_cons h,e _,e _,e _⟩
theorem fitIn_some {sz:Int} {H:LI}:∀{L:List Pt} {n n':Int}, -1000000000≤n-L.length→n≤1000000000→fitIn sz H L n=some n'→n'=n-((L.filter (idP sz)).length:Int)∧∀x∈L.filter (idP sz),oft H x.a=1
 |[],n,n',_,_,h=>by injection h with h;subst h;exact ⟨by simp, λx hx=>by cases hx⟩
 |x::r,n,n',h1,h2,h=>by
  rw [jK] at h1
  rw [fitIn] at h
  cases hp:idP sz x with
  |false=>
   rw [hp] at h
   obtain ⟨g1,g2⟩:=fitIn_some (L:=r) (by push_cast at h1;omega) h2 h
   rw [List.filter_cons,hp]
   exact ⟨g1,g2⟩
  |true=>
   rw [hp] at h
   cases ho:oft H x.a==1 with
   |false=>rw [ho] at h;cases h
   |true=>
    rw [ho,cond_true,cond_true,w64 (n:=n-1) (by push_cast at h1;omega)] at h
    obtain ⟨g1,g2⟩:=fitIn_some (L:=r) (by push_cast at h1;omega) (by omega) h
    rw [List.filter_cons,hp]
    refine ⟨by rw [g1];simp only [if_true,jK];push_cast;omega, λy hy=>?_⟩
    simp only [if_true,iN] at hy
    rcases hy with rfl|hy
    ·exact eq_of_beq ho
    ·exact g2 y hy
theorem lenB_all {c:LI}:∀{N:Nat},lenB c N=true→∀τ,τ<N→(slR (c.getD τ 0)).length≤4
 |0,_,τ,h=>by omega
 |n+1,h,τ,ht=>by
  simp only [lenB,iK,decide_eq_true_eq] at h
  by_cases e:τ=n
  ·rw [e];exact h.2
  ·exact lenB_all h.1 τ (by omega)
theorem allL_len {c:LI}:∀{N:Nat},lenB c N=true→(allL c N).length≤4*N
 |0,_=>Nat.le_refl _
 |n+1,h=>by
  simp only [lenB,iK,decide_eq_true_eq] at h
  have:=allL_len h.1
  rw [allL,jA];omega
def dfS (h:Int) (L:List Pt) (C:Int→LI) (N:Nat):Nat→Int
 |0=>0
 |j+1=>(((allL (C (8-j)) N).length:Int)-((L.filter (idP (r05_Size h (8-j)))).length:Int))+dfS h L C N j
theorem fitOut_true {h:Int} {L:List Pt} {C:Int→LI} {N:Nat} (hL:L.length≤100000) (hN:N≤100000):∀(j:Nat) (n:Int),j≤9→ -10000000-1000000*(9-j:Int)≤n→n≤10000000+1000000*(9-j:Int)→fitOut h L C N j n=true→
 n+dfS h L C N j=0∧∀i:Nat,i<j→lenB (C (8-i)) N=true∧∀x∈L.filter (idP (r05_Size h (8-i))),oft (allL (C (8-i)) N) x.a=1
 |0,n,_,_,_,ht=>⟨by have:n=0:=eq_of_beq ht;rw [this];rfl, λi hi=>by omega⟩
 |j+1,n,hj,h1,h2,ht=>by
  rw [fitOut] at ht
  cases hb:lenB (C (8-j)) N with
  |false=>rw [hb] at ht;cases ht
  |true=>
   rw [hb,cond_true] at ht
   have hl:=allL_len hb
   push_cast at h1 h2
   rw [w64 (n:=n+((allL (C (8-j)) N).length:Int)) (by omega)] at ht
   cases hf:fitIn (r05_Size h (8-j)) (allL (C (8-j)) N) L (n+((allL (C (8-j)) N).length:Int)) with
   |none=>rw [hf] at ht;cases ht
   |some n'=>
    rw [hf] at ht
    dsimp only at ht
    obtain ⟨g1,g2⟩:=fitIn_some (by omega) (by omega) hf
    have g3:=List.length_filter_le (idP (r05_Size h (8-j))) L
    obtain ⟨k1,k2⟩:=fitOut_true hL hN j n' (by omega) (by omega) (by omega) ht
    refine ⟨by rw [dfS];omega, λi hi=>?_⟩
    by_cases e:i=j
    ·subst e;exact ⟨hb,g2⟩
    ·exact k2 i (by omega)
end
end Go.Proofs.YtjfabjhlkpgckaaGreat
