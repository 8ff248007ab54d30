/-
  DERIVED. Part 4 of the texts of this claim.
-/
import Derived.Test.YtjfabjhlkpgckaaGreatJSmallFrees3
set_option linter.unusedSimpArgs false
set_option linter.unusedVariables false
open Go.IntKind renaming wrap → iA, i64 → iB, u32 → iO
open List renaming length → iC, getD → iE, getD_eq_getElem?_getD → iI, map_cons → iM, mem_cons → iN, getElem?_append_left → iQ, getElem?_eq_getElem → iR, getElem?_append_right → iS, getElem?_map → iV, length_append → jA, getElem?_set_self → jC, map_append → jD, getElem?_set_ne → jE, getElem?_eq_none → jG, append_assoc → jJ, length_cons → jK, mem_singleton → jL, cons_append → jM, length_map → jR, length_take → jT, replicate → jU, length_singleton → jW, mem_append → jX
open Go.Value renaming slice → iD, pointer → iT, int → iZ
open Prod renaming fst → iF, snd → iH
open Option.some renaming injEq → iG
open Int renaming toNat → iJ, toNat_natCast → jP, mul_le_mul_of_nonneg_right → jZ
open Bool renaming and_eq_true → iK, not_eq_true' → jB, not_eq_false' → jF, or_eq_false_iff → jI, not_true → jO, true_and → jV, false_or → jY
open Nat renaming eq_of_beq_eq_true → iL, le_of_ble_eq_true → iW, lt_or_ge → jH, zero_add → jS
open BitVec renaming ofInt → iP, toNat → jN
open Prod.mk renaming injEq → iU
open Option renaming map_some → iX, map → iY
open List.cons renaming injEq → jQ
namespace Go.Proofs.YtjfabjhlkpgckaaGreat
section
open Go.Sl
structure AGood (c:Cf) (xs:LI):Prop where
 ok:c.ok=true
 len:(xs.length:Int)=c.cells
 bd:∀v∈xs,bd32 v
theorem cel_bd {c:Cf} {xs:LI} (h:AGood c xs) (i:Int):bd32 (cel xs i):=by
 unfold cel
 rw [iI]
 cases e:xs[i.toNat]? with
 |none=>exact ⟨by decide,by decide⟩
 |some v=>exact h.bd v (List.mem_of_getElem? e)
theorem pc_in {c:Cf} {xs:LI} (h:AGood c xs) {g k:Int} (hg:0≤g∧g<c.p) (hk:0≤k∧k≤5):0≤c.pc g k∧c.pc g k<(xs.length:Int):=by
 have h1:=Cf.ok_iff.1 h.ok
 have h2:=h.len
 have hp:c.page g=true:=by simp [Cf.page,hg.1,hg.2]
 unfold Cf.cells at h2
 rw [h.ok,cond_true] at h2
 unfold Cf.pc
 rw [h.ok,hp]
 simp only [Bool.and_self,cond_true]
 omega
theorem bin_in {c:Cf} {xs:LI} (h:AGood c xs) {k:Int} (hk:0≤k∧k<11):0≤cBin k∧cBin k<(xs.length:Int):=by
 have h1:=Cf.ok_iff.1 h.ok
 have h2:=h.len
 unfold Cf.cells at h2
 rw [h.ok,cond_true] at h2
 have e:(decide (0≤k)&&decide (k<11))=true:=by simp [hk.1,hk.2]
 unfold cBin
 rw [e,cond_true]
 omega
theorem rack_in {c:Cf} {xs:LI} (h:AGood c xs) {k:Int} (hk:0≤k∧k<9):0≤cRack k∧cRack k<(xs.length:Int):=by
 have h1:=Cf.ok_iff.1 h.ok
 have h2:=h.len
 unfold Cf.cells at h2
 rw [h.ok,cond_true] at h2
 have e:(decide (0≤k)&&decide (k<9))=true:=by simp [hk.1,hk.2]
 unfold cRack
 rw [e,cond_true]
 omega
def r01_Bit (w i:Int):Bool:=decide (i≥0)&&decide (i<32)&&Int.tmod (Int.fdiv w (2^min (iJ (iA IntKind.u64 i)) 32)) (2:Int)==1
abbrev c_r01_Bit:Ct Sg:=⟨none,false,[.i .u32, .i .i64], .b⟩
def e_r01_Bit:Entry Sg:=entC c_r01_Bit r01_Bit (λ_ _=>[])
theorem r01_Bit_ok:EOk 55 e_r01_Bit:=
 ent_ok Dg DR (I:=[]) Tryz.func55 mix (B:=bodyOf Tryz.f55) (by kernel_rfl) rfl (by kernel_rfl) 400
  λ_ w i hb hp=>⟨(r01_Bit w i),(.need ((decide (i≥0)&&decide (i<32))=true→0≤iA IntKind.u64 i) .t), λ_ _ _=>by kernel_rfl,⟨(by first|omega|(rw [IntKind.wrap_u64];omega)|(intro _;rw [IntKind.wrap_u64];omega)), λz0=>trivial⟩,rfl⟩
def T_r01_Bit:Tb:=(55,e_r01_Bit)::G9
theorem T_r01_Bit_ok:TOk T_r01_Bit:=tc_ r01_Bit_ok DR
def r07_Slots (t p sh g:Int):Int:=r07_Page t p sh g 4
abbrev c_r07_Slots:Ct Sg:=⟨none,false,[.agg [.i .i64, .i .i64, .i .i64], .i .i64], .i .i64⟩
def e_r07_Slots:Entry Sg:=entC c_r07_Slots r07_Slots (λ_ _ _ _=>[])
theorem r07_Slots_ok:EOk 36 e_r07_Slots:=
 ent_ok Dg T_r01_Bit_ok (I:=[]) Tryz.func36 mix (B:=bodyOf Tryz.f36) (by kernel_rfl) rfl (by kernel_rfl) 400
  λ_ t p sh g hb hp=>⟨(r07_Slots t p sh g), .t, λ_ _ _=>by kernel_rfl,trivial,rfl⟩
def T_r07_Slots:Tb:=(36,e_r07_Slots)::T_r01_Bit
theorem T_r07_Slots_ok:TOk T_r07_Slots:=tc_ r07_Slots_ok T_r01_Bit_ok
def r07_Taken (t p sh g:Int):Int:=r07_Page t p sh g 5
abbrev c_r07_Taken:Ct Sg:=⟨none,false,[.agg [.i .i64, .i .i64, .i .i64], .i .i64], .i .i64⟩
def e_r07_Taken:Entry Sg:=entC c_r07_Taken r07_Taken (λ_ _ _ _=>[])
theorem r07_Taken_ok:EOk 86 e_r07_Taken:=
 ent_ok Dg T_r07_Slots_ok (I:=[]) Tryz.func86 mix (B:=bodyOf Tryz.f86) (by kernel_rfl) rfl (by kernel_rfl) 400
  λ_ t p sh g hb hp=>⟨(r07_Taken t p sh g), .t, λ_ _ _=>by kernel_rfl,trivial,rfl⟩
def T_r07_Taken:Tb:=(86,e_r07_Taken)::T_r07_Slots
theorem T_r07_Taken_ok:TOk T_r07_Taken:=tc_ r07_Taken_ok T_r07_Slots_ok
def r07_Rack (k:Int):Int:=(bif decide (k<0)||decide (k>8) then (-1) else iA iB (13+k))
abbrev c_r07_Rack:Ct Sg:=⟨none,false,[.i .i64], .i .i64⟩
def e_r07_Rack:Entry Sg:=entC c_r07_Rack r07_Rack (λ_=>[])
theorem r07_Rack_ok:EOk 81 e_r07_Rack:=
 ent_ok Dg T_r07_Taken_ok (I:=[]) Tryz.func81 mix (B:=bodyOf Tryz.f81) (by kernel_rfl) rfl (by kernel_rfl) 400
  λ_ k hb hp=>⟨(r07_Rack k), .t, λ_ _ _=>by kernel_rfl,trivial,rfl⟩
def T_r07_Rack:Tb:=(81,e_r07_Rack)::T_r07_Taken
theorem T_r07_Rack_ok:TOk T_r07_Rack:=tc_ r07_Rack_ok T_r07_Taken_ok
def r07_Cells (t p sh:Int):Int:=(bif !r04_Right t p sh then 0 else iA iB (iA iB (30+iA iB (4*t))+iA iB (6*p)))
abbrev c_r07_Cells:Ct Sg:=⟨none,false,[.agg [.i .i64, .i .i64, .i .i64]], .i .i64⟩
def e_r07_Cells:Entry Sg:=entC c_r07_Cells r07_Cells (λ_ _ _=>[])
theorem r07_Cells_ok:EOk 146 e_r07_Cells:=
 ent_ok Dg T_r07_Rack_ok (I:=[]) Tryz.func146 mix (B:=bodyOf Tryz.f146) (by kernel_rfl) rfl (by kernel_rfl) 400
  λ_ t p sh hb hp=>⟨(r07_Cells t p sh), .t, λ_ _ _=>by kernel_rfl,trivial,rfl⟩
def T_r07_Cells:Tb:=(146,e_r07_Cells)::T_r07_Rack
theorem T_r07_Cells_ok:TOk T_r07_Cells:=tc_ r07_Cells_ok T_r07_Rack_ok
def r05_Slots (k:Int):Int:=(bif k==0 then 32 else (bif k==1 then 21 else (bif k==2 then 16 else (bif k==3 then 10 else (bif k==4 then 8 else (bif k==5 then 5 else (bif k==6 then 4 else (bif k==7 then 3 else (bif k==8 then 2 else 0)))))))))
abbrev c_r05_Slots:Ct Sg:=⟨none,false,[.i .i64], .i .i64⟩
def e_r05_Slots:Entry Sg:=entC c_r05_Slots r05_Slots (λ_=>[])
theorem r05_Slots_ok:EOk 87 e_r05_Slots:=
 ent_ok Dg T_r07_Cells_ok (I:=[]) Tryz.func87 mix (B:=bodyOf Tryz.f87) (by kernel_rfl) rfl (by kernel_rfl) 400
  λ_ k hb hp=>⟨(r05_Slots k), .t, λ_ _ _=>by kernel_rfl,trivial,rfl⟩
def T_r05_Slots:Tb:=(87,e_r05_Slots)::T_r07_Cells
theorem T_r05_Slots_ok:TOk T_r05_Slots:=tc_ r05_Slots_ok T_r07_Cells_ok
def x_Info (t p sh:Int) (xs:LI) (g:Int):Int×Int×Int:=((aInfo ⟨t,p,sh⟩ xs g).k,(aInfo ⟨t,p,sh⟩ xs g).l,(aInfo ⟨t,p,sh⟩ xs g).c)
abbrev c_x_Info:Ct Sg:=⟨none,false,[.agg [.i .i64, .i .i64, .i .i64, .ro [some .u32]], .i .i64], .agg [.i .i64, .i .i64, .i .i64]⟩
def e_x_Info:Entry Sg:=entC c_x_Info x_Info (λt p sh xs g=>[AGood ⟨t,p,sh⟩ xs,0≤g∧g<p])
abbrev EQ (xs:LI) (r2:Int) (R_:Int×Int×Int→Prop):Prop:=(∀r4:Int×Int×Int×Bool,r4=(r09_Get (iE xs (iJ r2) 0))→(R_ ((r4.1,r4.2.1,r4.2.2.1))))
def x_Info_w (t p sh:Int) (xs:LI) (g:Int) (R_:Int×Int×Int→Prop):Prop:=((∀r2:Int,r2=(r07_Info t p sh g)→(aw_ (0≤r2∧r2<(↑(iC xs):Int)) ((EQ xs r2 R_)∧(EQ xs r2 R_))))∧(∀r3:Int,r3=(r07_Info t p sh g)→(aw_ (0≤r3∧r3<(↑(iC xs):Int)) (EQ xs r3 R_))))
theorem x_Info_begin (t p sh:Int) (xs:LI) (g:Int) (hp0:AGood ⟨t,p,sh⟩ xs) (hp1:0≤g∧g<p) (hl0:xs.length≤9223372036854775807):x_Info_w t p sh xs g (λr__=>r__=(x_Info t p sh xs g)):=by
 unfold x_Info_w EQ
 have hin:=pc_in hp0 hp1 (k:=0) (by omega)
 obtain ⟨e1,e2,e3⟩:=r09_Get_i (cel_bd hp0 (Cf.info ⟨t,p,sh⟩ g))
 have key:∀r2,r2=r07_Info t p sh g→(0≤r2∧r2<(xs.length:Int))∧∀r4:Int×Int×Int×Bool,r4=r09_Get (xs.getD r2.toNat 0)→(r4.1,r4.2.1,r4.2.2.1)=x_Info t p sh xs g:=by
  rintro r2 rfl
  rw [r07_Info_eq]
  refine ⟨hin,?_⟩
  rintro r4 rfl
  exact Prod.ext e1 (Prod.ext e2 e3)
 exact ⟨λr2 h2=>⟨(key r2 h2).1, λ_=>⟨λr4 h4=>(key r2 h2).2 r4 h4, λr5 h5=>(key r2 h2).2 r5 h5⟩⟩, λr3 h3=>⟨(key r3 h3).1, λ_ r5 h5=>(key r3 h3).2 r5 h5⟩⟩
theorem x_Info_ok:EOk 156 e_x_Info:=
 ent_w0 Dg T_r05_Slots_ok (I:=[]) Tryz.func156 mix (B:=bodyOf Tryz.f156) (by kernel_rfl) rfl (by kernel_rfl) 400
  λ_ t p sh xs g hb hp=>⟨_, λ_ _ _=>by kernel_rfl,x_Info_begin t p sh xs g (hp _ (.head _)) (hp _ (.tail _ (.head _))) (hb.1.2.2.2.1)⟩
def T_x_Info:Tb:=(156,e_x_Info)::T_r05_Slots
theorem T_x_Info_ok:TOk T_x_Info:=tc_ x_Info_ok T_r05_Slots_ok
def x_Slots (t p sh:Int) (xs:LI) (g:Int):Int:=cel xs (Cf.slots ⟨t,p,sh⟩ g)
abbrev c_x_Slots:Ct Sg:=⟨none,false,[.agg [.i .i64, .i .i64, .i .i64, .ro [some .u32]], .i .i64], .i .u32⟩
def e_x_Slots:Entry Sg:=entC c_x_Slots x_Slots (λt p sh xs g=>[AGood ⟨t,p,sh⟩ xs,0≤g∧g<p])
def x_Slots_w (t p sh:Int) (xs:LI) (g:Int) (R_:Int→Prop):Prop:=(aw_ (0≤r07_Slots t p sh g∧r07_Slots t p sh g<(↑(iC xs):Int)) (R_ (iE xs (iJ (r07_Slots t p sh g)) 0)))
theorem x_Slots_begin (t p sh:Int) (xs:LI) (g:Int) (hp0:AGood ⟨t,p,sh⟩ xs) (hp1:0≤g∧g<p) (hl0:xs.length≤9223372036854775807):x_Slots_w t p sh xs g (λr__=>r__=(x_Slots t p sh xs g)):=by
 unfold x_Slots_w
 have e:r07_Slots t p sh g=Cf.slots ⟨t,p,sh⟩ g:=r07_Page_eq (by omega)
 have hin:=pc_in hp0 hp1 (k:=4) (by omega)
 rw [e]
 exact ⟨hin, λ_=>rfl⟩
theorem x_Slots_ok:EOk 56 e_x_Slots:=
 ent_w0 Dg T_x_Info_ok (I:=[]) Tryz.func56 mix (B:=bodyOf Tryz.f56) (by kernel_rfl) rfl (by kernel_rfl) 400
  λ_ t p sh xs g hb hp=>⟨_, λ_ _ _=>by kernel_rfl,x_Slots_begin t p sh xs g (hp _ (.head _)) (hp _ (.tail _ (.head _))) (hb.1.2.2.2.1)⟩
def T_x_Slots:Tb:=(56,e_x_Slots)::T_x_Info
theorem T_x_Slots_ok:TOk T_x_Slots:=tc_ x_Slots_ok T_x_Info_ok
def x_Taken (t p sh:Int) (xs:LI) (g:Int):Int:=cel xs (Cf.taken ⟨t,p,sh⟩ g)
abbrev c_x_Taken:Ct Sg:=⟨none,false,[.agg [.i .i64, .i .i64, .i .i64, .ro [some .u32]], .i .i64], .i .u32⟩
def e_x_Taken:Entry Sg:=entC c_x_Taken x_Taken (λt p sh xs g=>[AGood ⟨t,p,sh⟩ xs,0≤g∧g<p])
def x_Taken_w (t p sh:Int) (xs:LI) (g:Int) (R_:Int→Prop):Prop:=(aw_ (0≤r07_Taken t p sh g∧r07_Taken t p sh g<(↑(iC xs):Int)) (R_ (iE xs (iJ (r07_Taken t p sh g)) 0)))
theorem x_Taken_begin (t p sh:Int) (xs:LI) (g:Int) (hp0:AGood ⟨t,p,sh⟩ xs) (hp1:0≤g∧g<p) (hl0:xs.length≤9223372036854775807):x_Taken_w t p sh xs g (λr__=>r__=(x_Taken t p sh xs g)):=by
 unfold x_Taken_w
 have e:r07_Taken t p sh g=Cf.taken ⟨t,p,sh⟩ g:=r07_Page_eq (by omega)
 have hin:=pc_in hp0 hp1 (k:=5) (by omega)
 rw [e]
 exact ⟨hin, λ_=>rfl⟩
theorem x_Taken_ok:EOk 174 e_x_Taken:=
 ent_w0 Dg T_x_Slots_ok (I:=[]) Tryz.func174 mix (B:=bodyOf Tryz.f174) (by kernel_rfl) rfl (by kernel_rfl) 400
  λ_ t p sh xs g hb hp=>⟨_, λ_ _ _=>by kernel_rfl,x_Taken_begin t p sh xs g (hp _ (.head _)) (hp _ (.tail _ (.head _))) (hb.1.2.2.2.1)⟩
def T_x_Taken:Tb:=(174,e_x_Taken)::T_x_Slots
theorem T_x_Taken_ok:TOk T_x_Taken:=tc_ x_Taken_ok T_x_Slots_ok
end
section
open Go.Sl
theorem r09_ok {v:Int} (h:bd32 v):(r09_Get v).2.2.2=infoOk v:=by
 rw [r09_Get_eq h.1 h.2]
 unfold infoOk
 rw [←iRight_eq]
 cases info_right (v%16) (v/16%4096) (v/65536)<;>rfl
def x_starts (t p sh:Int) (xs:LI):LI×Bool:=starts ⟨t,p,sh⟩ xs
abbrev c_x_starts:Ct Sg:=⟨none,false,[.agg [.i .i64, .i .i64, .i .i64, .ro [some .u32]]], .tup [.new 3 [some .i64], .b]⟩
def e_x_starts:Entry Sg:=entC c_x_starts x_starts (λt p sh xs=>[AGood ⟨t,p,sh⟩ xs])
def x_starts_w (t p sh:Int) (xs:LI) (Q0:Int→Nat→LI→Prop) (R_:LI×Bool→Prop):Prop:=(Q0 (0) (0) ([]))
abbrev H8 (xs:LI) (r1:Int) (R_:LI×Bool→Prop) (n1:Nat) (Q0:Int→Nat→LI→Prop) (i:Int) (out:LI):Prop:=(∀r4:Int×Int×Int×Bool,r4=(r09_Get (iE xs (iJ r1) 0))→(bw_ (!r4.2.2.2||r4.1==0) (R_ (([],false))) (aw_ ((n1+1)*8≤140737488355328) (Q0 (iA iB (i+r4.2.1)) (n1+1) (out++[i])))))
def x_starts_w0 (t p sh:Int) (xs:LI) (i:Int) (n1:Nat) (out:LI) (Q0:Int→Nat→LI→Prop) (R_:LI×Bool→Prop):Prop:=(bw_ (decide (i<p)) ((∀r1:Int,r1=(r07_Info t p sh i)→(aw_ (0≤r1∧r1<(↑(iC xs):Int)) ((∀r3:Int×Int×Int×Bool,r3=(r09_Get (iE xs (iJ r1) 0))→(bw_ (!r3.2.2.2||r3.1==0) (R_ (([],false))) (aw_ ((n1+1)*8≤140737488355328) (Q0 (iA iB (i+r3.2.1)) (n1+1) (out++[i])))))∧(H8 xs r1 R_ n1 Q0 i out))))∧(∀r2:Int,r2=(r07_Info t p sh i)→(aw_ (0≤r2∧r2<(↑(iC xs):Int)) (H8 xs r2 R_ n1 Q0 i out)))) (R_ ((out,i==p))))
def x_starts_I0 (t p sh:Int) (xs:LI) (i:Int) (n1:Nat) (out:LI) (r_:LI×Bool):Prop:=0≤i∧n1=out.length∧(out.length:Int)≤i∧i≤p+1024∧∃f:Nat,p-i<f∧startsF ⟨t,p,sh⟩ xs f i out=r_
abbrev x_starts_h0 (p0:Addr) (t p sh:Int) (xs:LI):Hd Sg:=⟨none,[0,0,1,1,1],[.blk 0, .code [1,1,1,1]],[5,4,1],[.i .i64, .own 3 [some .i64], .box 102 [.ic .i64 (t), .ic .i64 (p), .ic .i64 (sh), .roc [.ints .u32 (xs)]]]⟩
theorem x_starts_begin (t p sh:Int) (xs:LI) (hp0:AGood ⟨t,p,sh⟩ xs) (hl0:xs.length≤9223372036854775807):x_starts_w t p sh xs (λi' n1' out'=>x_starts_I0 t p sh xs i' n1' out' (x_starts t p sh xs)) (λr__=>r__=(x_starts t p sh xs)):=by
 unfold x_starts_w
 try unfold x_starts_I0
 have hok:=Cf.ok_iff.1 hp0.ok
 simp only at hok
 exact ⟨by omega,rfl,by simp,by omega,p.toNat+1,by omega,rfl⟩
theorem x_starts_step0 (t p sh:Int) (xs:LI) (hp0:AGood ⟨t,p,sh⟩ xs) (hl0:xs.length≤9223372036854775807) (i:Int) (n1:Nat) (out:LI) {r_:LI×Bool} (hI:x_starts_I0 t p sh xs i n1 out r_):x_starts_w0 t p sh xs i n1 out (λi' n1' out'=>x_starts_I0 t p sh xs i' n1' out' r_∧lx ((p+1025-i').toNat,0,0) ((p+1025-i).toNat,0,0)) (λr__=>r__=r_):=by
 unfold x_starts_I0 at hI
 unfold x_starts_w0 H8
 try unfold x_starts_I0
 obtain ⟨h0,h1,h2,h3,f,hf,hr⟩:=hI
 have hok:=Cf.ok_iff.1 hp0.ok
 simp only at hok
 refine ⟨λh=>?_, λh=>?_⟩
 ·simp only [decide_eq_true_eq] at h
  obtain ⟨f',rfl⟩:∃f',f=f'+1:=⟨f-1,by omega⟩
  have hin:=pc_in hp0 (g:=i) (k:=0) ⟨h0,h⟩ (by omega)
  have hb:=cel_bd hp0 (Cf.info ⟨t,p,sh⟩ i)
  obtain ⟨g1,g2,_⟩:=r09_Get_i hb
  have g3:=r09_ok hb
  have hd:decide (i<p)=true:=by simpa using h
  simp only [startsF,hd,cond_true] at hr
  have hw:∀l:Int,0≤l→l≤1024→IntKind.i64.wrap (i+l)=i+l:= λl h1 h2=>w64 (by omega)
  have key:∀r1,r1=r07_Info t p sh i→(0≤r1∧r1<(xs.length:Int))∧∀r4:Int×Int×Int×Bool,r4=r09_Get (xs.getD r1.toNat 0)→((!r4.2.2.2||r4.1==0)=true→([],false)=r_)∧((!r4.2.2.2||r4.1==0)=false→(n1+1)*8≤140737488355328∧
   ((0≤IntKind.i64.wrap (i+r4.2.1)∧n1+1=(out++[i]).length∧((out++[i]).length:Int)≤IntKind.i64.wrap (i+r4.2.1)∧IntKind.i64.wrap (i+r4.2.1)≤p+1024∧∃f:Nat,p-IntKind.i64.wrap (i+r4.2.1)<f∧startsF ⟨t,p,sh⟩ xs f (IntKind.i64.wrap (i+r4.2.1)) (out++[i])=r_)∧lx ((p+1025-IntKind.i64.wrap (i+r4.2.1)).toNat,0,0) ((p+1025-i).toNat,0,0))):=by
   rintro r1 rfl
   rw [r07_Info_eq]
   refine ⟨hin,?_⟩
   rintro r4 rfl
   have e1:(r09_Get (xs.getD (Cf.info ⟨t,p,sh⟩ i).toNat 0)).1=(aInfo ⟨t,p,sh⟩ xs i).k:=g1
   have e2:(r09_Get (xs.getD (Cf.info ⟨t,p,sh⟩ i).toNat 0)).2.1=(aInfo ⟨t,p,sh⟩ xs i).l:=g2
   have e3:(r09_Get (xs.getD (Cf.info ⟨t,p,sh⟩ i).toNat 0)).2.2.2=infoOk (cel xs (Cf.info ⟨t,p,sh⟩ i)):=g3
   rw [e1,e2,e3]
   refine ⟨λhc=>?_, λhc=>?_⟩
   ·rw [hc] at hr;exact hr
   ·rw [hc,cond_false] at hr
    simp only [jI,jF] at hc
    have hl:1≤(aInfo ⟨t,p,sh⟩ xs i).l:=iGet_len hc.1 hc.2
    have hl2:(aInfo ⟨t,p,sh⟩ xs i).l≤1024:=(iGet_bd _).2.2.2.1
    rw [hw _ (by omega) hl2]
    refine ⟨by omega,⟨by omega,by simp [h1],by simp;omega,by omega,f',by omega,hr⟩,lxo_⟩
  exact ⟨λr1 q1=>⟨(key r1 q1).1, λ_=>⟨λr3 q3=>⟨((key r1 q1).2 r3 q3).1, λhc=>⟨(((key r1 q1).2 r3 q3).2 hc).1, λ_=>(((key r1 q1).2 r3 q3).2 hc).2⟩⟩, λr4 q4=>⟨((key r1 q1).2 r4 q4).1, λhc=>⟨(((key r1 q1).2 r4 q4).2 hc).1, λ_=>(((key r1 q1).2 r4 q4).2 hc).2⟩⟩⟩⟩, λr2 q2=>⟨(key r2 q2).1, λ_ r4 q4=>⟨((key r2 q2).2 r4 q4).1, λhc=>⟨(((key r2 q2).2 r4 q4).2 hc).1, λ_=>(((key r2 q2).2 r4 q4).2 hc).2⟩⟩⟩⟩
 ·have hd:decide (i<p)=false:=h
  show (out,i==p)=r_
  rw [←hr]
  cases f with
  |zero=>rfl
  |succ f=>simp only [startsF,hd,cond_false]
theorem x_starts_ok:EOk 173 e_x_starts:=
 ent_wp Dg T_x_Taken_ok (I:=[363000000005,363000000004,363000000001]) Tryz.func173 mix (B:=bodyOf Tryz.f173) (by kernel_rfl) rfl (by kernel_rfl) 400
  λp0 t p sh xs hb hp=>have hl0:xs.length≤9223372036854775807:=hb.1.2.2.2.1;have hp0:AGood ⟨t,p,sh⟩ xs:=hp _ (.head _);⟨[x_starts_h0 p0 t p sh xs], λj=>iE [appC (Hd.kd (x_starts_h0 p0 t p sh xs)) (λi' n1' out'=>x_starts_I0 t p sh xs i' n1' out' (x_starts t p sh xs))] j (λ_=>False), λj=>iE [appC (Hd.kd (x_starts_h0 p0 t p sh xs)) (λi' n1' out'=>((p+1025-i').toNat,0,0))] j (λ_=>(0,0,0)),by kernel_rfl,⟨_, λ_ _ _=>by kernel_rfl,x_starts_begin t p sh xs hp0 hl0⟩,⟨λi n1 out hI=>⟨_, λ_ _ _=>by kernel_rfl,x_starts_step0 t p sh xs hp0 hl0 i n1 out hI⟩,trivial⟩⟩
def T_x_starts:Tb:=(173,e_x_starts)::T_x_Taken
theorem T_x_starts_ok:TOk T_x_starts:=tc_ x_starts_ok T_x_Taken_ok
end
section
open Go.Sl
theorem startsF_in {c:Cf} {xs:LI}:∀(f:Nat) (a:Int) (out:LI),0≤a→(∀x∈out,0≤x∧x<c.p)→∀x∈(startsF c xs f a out).1,0≤x∧x<c.p
 |0,_,out,_,h,x,hx=>h x hx
 |f+1,a,out,ha,h,x,hx=>by
  simp only [startsF] at hx
  cases hd:decide (a<c.p) with
  |false=>rw [hd] at hx;exact h x hx
  |true=>
   rw [hd,cond_true] at hx
   cases hc:(!infoOk (cel xs (c.info a))||(aInfo c xs a).k==0) with
   |true=>rw [hc] at hx;cases hx
   |false=>
    rw [hc,cond_false] at hx
    have hl:=(iGet_bd (cel xs (c.info a))).2.2.1
    have hl':0≤(aInfo c xs a).l:=hl
    refine startsF_in f _ _ (by omega) (λy hy=>?_) x hx
    rcases List.mem_append.1 hy with hy|hy
    ·exact h y hy
    ·rw [List.mem_singleton.1 hy];exact ⟨ha,by simpa using hd⟩
theorem starts_in {c:Cf} {xs:LI}:∀x∈(starts c xs).1,0≤x∧x<c.p:=startsF_in _ _ _ (Int.le_refl 0) λx hx=>by cases hx
theorem startsF_ne {c:Cf} {xs:LI}:∀(f:Nat) (a:Int) (out:LI),out≠[]→(startsF c xs f a out).2=true→(startsF c xs f a out).1≠[]
 |0,_,out,h,_=>h
 |f+1,a,out,h,ht=>by
  simp only [startsF] at ht ⊢
  cases hd:decide (a<c.p) with
  |false=>exact h
  |true=>
   rw [hd,cond_true] at ht
   rw [cond_true]
   cases hc:(!infoOk (cel xs (c.info a))||(aInfo c xs a).k==0) with
   |true=>rw [hc] at ht;cases ht
   |false=>
    rw [hc,cond_false] at ht
    exact startsF_ne f _ _ (by simp) ht
theorem starts_ne {c:Cf} {xs:LI} (hp:1≤c.p) (h:(starts c xs).2=true):1≤(starts c xs).1.length:=by
 have hd:decide ((0:Int)<c.p)=true:=by simp;omega
 have:(starts c xs).1≠[]:=by
  unfold starts at h ⊢
  simp only [startsF,hd,cond_true] at h ⊢
  cases hc:(!infoOk (cel xs (c.info 0))||(aInfo c xs 0).k==0) with
  |true=>rw [hc] at h;cases h
  |false=>
   rw [hc,cond_false] at h
   exact startsF_ne _ _ _ (by simp) h
 rcases hl:(starts c xs).1 with _|⟨x,r⟩
 ·exact absurd hl this
 ·simp
theorem startsF_len {c:Cf} {xs:LI}:∀(f:Nat) (a:Int) (out:LI),(startsF c xs f a out).1.length≤out.length+f
 |0,_,out=>Nat.le_refl _
 |f+1,a,out=>by
  simp only [startsF]
  cases decide (a<c.p) with
  |false=>simp only [cond_false];omega
  |true=>
   simp only [cond_true]
   cases (!infoOk (cel xs (c.info a))||(aInfo c xs a).k==0) with
   |true=>simp only [cond_true,List.length_nil];omega
   |false=>
    simp only [cond_false]
    have:=startsF_len (c:=c) (xs:=xs) f (a+(aInfo c xs a).l) (out++[a])
    simp only [jA,jW] at this
    omega
theorem starts_len {c:Cf} {xs:LI}:(starts c xs).1.length≤c.p.toNat+1:=by
 have:=startsF_len (c:=c) (xs:=xs) (c.p.toNat+1) 0 []
 unfold starts
 simpa using this
theorem getD_memA {l:LI} {j:Nat} (h:j<l.length):l.getD j 0∈l:=by
 rw [iI,iR h];exact List.getElem_mem h
def x_tiles (t p sh:Int) (xs:LI):Bool:=tiles ⟨t,p,sh⟩ xs
abbrev c_x_tiles:Ct Sg:=⟨none,false,[.agg [.i .i64, .i .i64, .i .i64, .ro [some .u32]]], .b⟩
def e_x_tiles:Entry Sg:=entC c_x_tiles x_tiles (λt p sh xs=>[AGood ⟨t,p,sh⟩ xs])
def x_tiles_w (t p sh:Int) (xs:LI) (Q0:Int→Int→Nat→LI→Prop) (R_:Bool→Prop):Prop:=(∀r1:LI×Bool,r1=(x_starts t p sh xs)→(aw_ (AGood {t:=t,p:=p,s:=sh} xs) (bw_ (!r1.2) (R_ (false)) (Q0 (0) (0) (iC r1.1) r1.1))))
def x_tiles_w0 (t p sh:Int) (xs:LI) (i n:Int) (n1:Nat) (ls:LI) (Q0:Int→Int→Nat→LI→Prop) (R_:Bool→Prop):Prop:=(bw_ (decide (i<p)) (aw_ (decide (n<(↑n1:Int))=true→0≤n∧n<(↑n1:Int)) (bw_ (decide (n<(↑n1:Int))&&iE ls (iJ n) 0==i) (Q0 (iA iB (i+1)) (iA iB (n+1)) (n1) (ls)) (aw_ (0≤r07_Info t p sh i∧r07_Info t p sh i<(↑(iC xs):Int)) (bw_ (iE xs (iJ (r07_Info t p sh i)) (0:Int) !=0) (R_ (false)) (Q0 (iA iB (i+1)) (n) (n1) (ls)))))) (R_ (true)))
def x_tiles_I0 (t p sh:Int) (xs:LI) (i n:Int) (n1:Nat) (ls:LI) (r_:Bool):Prop:=0≤i∧i≤p∧0≤n∧n≤i∧n1=ls.length∧tilesF ⟨t,p,sh⟩ xs ls (p-i).toNat n.toNat=r_
abbrev x_tiles_h0 (p0:Addr) (t p sh:Int) (xs:LI):Hd Sg:=⟨none,[0,1,0,1,1,1,1],[.blk 0, .code [1,1,1,1,1]],[6,5,3,1],[.i .i64, .i .i64, .own 3 [some .i64], .box 102 [.ic .i64 (t), .ic .i64 (p), .ic .i64 (sh), .roc [.ints .u32 (xs)]]]⟩
theorem x_tiles_begin (t p sh:Int) (xs:LI) (hp0:AGood ⟨t,p,sh⟩ xs) (hl0:xs.length≤9223372036854775807):x_tiles_w t p sh xs (λi' n' n1' ls'=>x_tiles_I0 t p sh xs i' n' n1' ls' (x_tiles t p sh xs)) (λr__=>r__=(x_tiles t p sh xs)):=by
 unfold x_tiles_w
 try unfold x_tiles_I0
 have hok:=Cf.ok_iff.1 hp0.ok
 simp only at hok
 rintro r1 rfl
 refine ⟨hp0, λ_=>⟨λhc=>?_, λhc=>?_⟩⟩
 ·have e:(starts ⟨t,p,sh⟩ xs).2=false:=by simpa [x_starts] using hc
  show false=tiles ⟨t,p,sh⟩ xs
  unfold tiles
  rw [e];rfl
 ·have e:(starts ⟨t,p,sh⟩ xs).2=true:=by simpa [x_starts] using hc
  refine ⟨by omega,by omega,by omega,by omega,rfl,?_⟩
  show _=tiles ⟨t,p,sh⟩ xs
  unfold tiles
  rw [e,cond_true,show (p-0).toNat=p.toNat by omega]
  rfl
theorem x_tiles_step0 (t p sh:Int) (xs:LI) (hp0:AGood ⟨t,p,sh⟩ xs) (hl0:xs.length≤9223372036854775807) (i n:Int) (n1:Nat) (ls:LI) {r_:Bool} (hI:x_tiles_I0 t p sh xs i n n1 ls r_):x_tiles_w0 t p sh xs i n n1 ls (λi' n' n1' ls'=>x_tiles_I0 t p sh xs i' n' n1' ls' r_∧lx ((p-i').toNat,0,0) ((p-i).toNat,0,0)) (λr__=>r__=r_):=by
 unfold x_tiles_I0 at hI
 unfold x_tiles_w0
 try unfold x_tiles_I0
 obtain ⟨h0,h1,h2,h3,h4,hr⟩:=hI
 have hok:=Cf.ok_iff.1 hp0.ok
 simp only at hok
 refine ⟨λh=>?_, λh=>?_⟩
 ·simp only [decide_eq_true_eq] at h
  have hin:=pc_in hp0 (g:=i) (k:=0) ⟨h0,h⟩ (by omega)
  have e:(p-i).toNat=(p-(i+1)).toNat+1:=by omega
  have ei:(p:Int)-(((p-(i+1)).toNat+1:Nat):Int)=i:=by omega
  have hb:decide (n<(n1:Int))=decide (n.toNat<ls.length):=by rw [h4];apply decide_eq_decide.2;omega
  rw [e] at hr
  simp only [tilesF] at hr
  rw [ei] at hr
  rw [w64 (n:=i+1) (by omega),w64 (n:=n+1) (by omega),r07_Info_eq,hb]
  refine ⟨λhh=>(by simp only [decide_eq_true_eq] at hh;omega), λ_=>⟨λhc=>?_, λhc=>?_⟩⟩
  ·rw [hc,cond_true] at hr
   refine ⟨⟨by omega,by omega,by omega,by omega,h4,?_⟩,lxo_⟩
   rw [show (n+1).toNat=n.toNat+1 by omega];exact hr
  ·rw [hc,cond_false] at hr
   refine ⟨hin, λ_=>⟨λhz=>?_, λhz=>?_⟩⟩
   ·have hz':(cel xs (Cf.info ⟨t,p,sh⟩ i) !=0)=true:=hz
    rw [hz',cond_true] at hr;exact hr
   ·have hz':(cel xs (Cf.info ⟨t,p,sh⟩ i) !=0)=false:=hz
    rw [hz',cond_false] at hr
    exact ⟨⟨by omega,by omega,h2,by omega,h4,hr⟩,lxo_⟩
 ·simp only [decide_eq_false_iff_not] at h
  rw [show (p-i).toNat=0 by omega] at hr
  exact hr
theorem x_tiles_ok:EOk 147 e_x_tiles:=
 ent_wp Dg T_x_starts_ok (I:=[6571000000006,6571000000005,6571000000003,6571000000001]) Tryz.func147 mix (B:=bodyOf Tryz.f147) (by kernel_rfl) rfl (by kernel_rfl) 400
  λp0 t p sh xs hb hp=>have hl0:xs.length≤9223372036854775807:=hb.1.2.2.2.1;have hp0:AGood ⟨t,p,sh⟩ xs:=hp _ (.head _);⟨[x_tiles_h0 p0 t p sh xs], λj=>iE [appC (Hd.kd (x_tiles_h0 p0 t p sh xs)) (λi' n' n1' ls'=>x_tiles_I0 t p sh xs i' n' n1' ls' (x_tiles t p sh xs))] j (λ_=>False), λj=>iE [appC (Hd.kd (x_tiles_h0 p0 t p sh xs)) (λi' n' n1' ls'=>((p-i').toNat,0,0))] j (λ_=>(0,0,0)),by kernel_rfl,⟨_, λ_ _ _=>by kernel_rfl,x_tiles_begin t p sh xs hp0 hl0⟩,⟨λi n n1 ls hI=>⟨_, λ_ _ _=>by kernel_rfl,x_tiles_step0 t p sh xs hp0 hl0 i n n1 ls hI⟩,trivial⟩⟩
def T_x_tiles:Tb:=(147,e_x_tiles)::T_x_starts
theorem T_x_tiles_ok:TOk T_x_tiles:=tc_ x_tiles_ok T_x_starts_ok
def x_apart (t p sh:Int) (xs:LI):Bool:=apart ⟨t,p,sh⟩ xs
abbrev c_x_apart:Ct Sg:=⟨none,false,[.agg [.i .i64, .i .i64, .i .i64, .ro [some .u32]]], .b⟩
def e_x_apart:Entry Sg:=entC c_x_apart x_apart (λt p sh xs=>[AGood ⟨t,p,sh⟩ xs])
def x_apart_w (t p sh:Int) (xs:LI) (Q0:Int→Nat→LI→Prop) (R_:Bool→Prop):Prop:=(∀r1:LI×Bool,r1=(x_starts t p sh xs)→(aw_ (AGood {t:=t,p:=p,s:=sh} xs) (Q0 (1) (iC r1.1) r1.1)))
def x_apart_w0 (t p sh:Int) (xs:LI) (n:Int) (n1:Nat) (ls:LI) (Q0:Int→Nat→LI→Prop) (R_:Bool→Prop):Prop:=(bw_ (decide (n<(↑n1:Int))) (aw_ (0≤n∧n<(↑n1:Int)) (aw_ (AGood {t:=t,p:=p,s:=sh} xs) (aw_ (0≤iE ls (iJ n) 0∧iE ls (iJ n) 0<p) (aw_ ((iF (x_Info t p sh xs (iE ls (iJ n) 0))==1)=true→0≤iA iB (n-1)∧iA iB (n-1)<(↑n1:Int)) (aw_ ((iF (x_Info t p sh xs (iE ls (iJ n) 0))==1)=true→AGood {t:=t,p:=p,s:=sh} xs) (aw_ ((iF (x_Info t p sh xs (iE ls (iJ n) 0))==1)=true→0≤iE ls (iJ (iA iB (n-1))) 0∧iE ls (iJ (iA iB (n-1))) 0<p) (bw_ (iF (x_Info t p sh xs (iE ls (iJ n) 0))==1&&iF (x_Info t p sh xs (iE ls (iJ (iA iB (n-1))) 0))==1) (R_ (false)) (Q0 (iA iB (n+1)) (n1) (ls))))))))) (R_ (true)))
def x_apart_I0 (t p sh:Int) (xs:LI) (n:Int) (n1:Nat) (ls:LI) (r_:Bool):Prop:=1≤n∧(n≤ls.length∨n=1)∧n1=ls.length∧ls=(starts ⟨t,p,sh⟩ xs).1∧apartF ⟨t,p,sh⟩ xs ls (ls.length-n).toNat=r_
abbrev x_apart_h0 (p0:Addr) (t p sh:Int) (xs:LI):Hd Sg:=⟨none,[0,1,0,1,1],[.blk 0, .code [1,1,1]],[5,3,1],[.i .i64, .own 3 [some .i64], .box 102 [.ic .i64 (t), .ic .i64 (p), .ic .i64 (sh), .roc [.ints .u32 (xs)]]]⟩
theorem x_apart_begin (t p sh:Int) (xs:LI) (hp0:AGood ⟨t,p,sh⟩ xs) (hl0:xs.length≤9223372036854775807):x_apart_w t p sh xs (λn' n1' ls'=>x_apart_I0 t p sh xs n' n1' ls' (x_apart t p sh xs)) (λr__=>r__=(x_apart t p sh xs)):=by
 unfold x_apart_w
 try unfold x_apart_I0
 rintro r1 rfl
 refine ⟨hp0, λ_=>⟨by omega, .inr rfl,rfl,rfl,?_⟩⟩
 show apartF ⟨t,p,sh⟩ xs (starts ⟨t,p,sh⟩ xs).1 (((starts ⟨t,p,sh⟩ xs).1.length:Int)-1).toNat=apart ⟨t,p,sh⟩ xs
 unfold apart
 congr 1
 omega
theorem x_apart_step0 (t p sh:Int) (xs:LI) (hp0:AGood ⟨t,p,sh⟩ xs) (hl0:xs.length≤9223372036854775807) (n:Int) (n1:Nat) (ls:LI) {r_:Bool} (hI:x_apart_I0 t p sh xs n n1 ls r_):x_apart_w0 t p sh xs n n1 ls (λn' n1' ls'=>x_apart_I0 t p sh xs n' n1' ls' r_∧lx ((ls'.length-n').toNat,0,0) ((ls.length-n).toNat,0,0)) (λr__=>r__=r_):=by
 unfold x_apart_I0 at hI
 unfold x_apart_w0
 try unfold x_apart_I0
 obtain ⟨h0,h1,h4,h5,hr⟩:=hI
 have hok:=Cf.ok_iff.1 hp0.ok
 simp only at hok
 refine ⟨λh=>?_, λh=>?_⟩
 ·simp only [decide_eq_true_eq] at h
  have hn:n<(ls.length:Int):=by omega
  have hm:=starts_in (c:=⟨t,p,sh⟩) (xs:=xs) (ls.getD n.toNat 0) (by rw [←h5];exact getD_memA (by omega))
  have hm':=starts_in (c:=⟨t,p,sh⟩) (xs:=xs) (ls.getD (n-1).toNat 0) (by rw [←h5];exact getD_memA (by omega))
  have hbig:n<9223372036854775807:=by
   have hl:=starts_len (c:=⟨t,p,sh⟩) (xs:=xs)
   rw [←h5] at hl
   simp only at hl
   omega
  obtain ⟨m,hm2⟩:∃m:Nat,(ls.length-n).toNat=m+1:=⟨(ls.length-n).toNat-1,by omega⟩
  rw [hm2] at hr
  simp only [apartF] at hr
  rw [show ls.length-(m+1)=n.toNat by omega,show n.toNat-1=(n-1).toNat by omega] at hr
  rw [w64 (n:=n-1) (by omega),w64 (n:=n+1) (by omega)]
  refine ⟨⟨by omega,h⟩, λ_=>⟨hp0, λ_=>⟨hm, λ_=>⟨λ_=>by omega, λ_=>⟨λ_=>hp0, λ_=>⟨λ_=>hm', λ_=>⟨λhc=>?_, λhc=>?_⟩⟩⟩⟩⟩⟩⟩
  ·simp only [x_Info] at hc;rw [hc,cond_true] at hr;exact hr.symm▸rfl
  ·simp only [x_Info] at hc;rw [hc,cond_false] at hr
   refine ⟨⟨by omega,by omega,h4,h5,?_⟩,lxo_⟩
   rw [show (ls.length-(n+1)).toNat=m by omega];exact hr
 ·simp only [decide_eq_false_iff_not] at h
  rw [show (ls.length-n).toNat=0 by omega] at hr
  exact hr
theorem x_apart_ok:EOk 149 e_x_apart:=
 ent_wp Dg T_x_tiles_ok (I:=[411000000005,411000000003,411000000001]) Tryz.func149 mix (B:=bodyOf Tryz.f149) (by kernel_rfl) rfl (by kernel_rfl) 400
  λp0 t p sh xs hb hp=>have hl0:xs.length≤9223372036854775807:=hb.1.2.2.2.1;have hp0:AGood ⟨t,p,sh⟩ xs:=hp _ (.head _);⟨[x_apart_h0 p0 t p sh xs], λj=>iE [appC (Hd.kd (x_apart_h0 p0 t p sh xs)) (λn' n1' ls'=>x_apart_I0 t p sh xs n' n1' ls' (x_apart t p sh xs))] j (λ_=>False), λj=>iE [appC (Hd.kd (x_apart_h0 p0 t p sh xs)) (λn' n1' ls'=>((ls'.length-n').toNat,0,0))] j (λ_=>(0,0,0)),by kernel_rfl,⟨_, λ_ _ _=>by kernel_rfl,x_apart_begin t p sh xs hp0 hl0⟩,⟨λn n1 ls hI=>⟨_, λ_ _ _=>by kernel_rfl,x_apart_step0 t p sh xs hp0 hl0 n n1 ls hI⟩,trivial⟩⟩
def T_x_apart:Tb:=(149,e_x_apart)::T_x_tiles
theorem T_x_apart_ok:TOk T_x_apart:=tc_ x_apart_ok T_x_tiles_ok
def r12_in (ls:LI) (g:Int):Int:=inA ls g
abbrev c_r12_in:Ct Sg:=⟨none,false,[.ro [some .i64], .i .i64], .i .i64⟩
def e_r12_in:Entry Sg:=entC c_r12_in r12_in (λ_ _=>[])
def r12_in_w (ls:LI) (g:Int) (Q0:Int→Int→Prop) (R_:Int→Prop):Prop:=(Q0 (0) (0))
def r12_in_w0 (ls:LI) (g i m:Int) (Q0:Int→Int→Prop) (R_:Int→Prop):Prop:=(bw_ (decide (i<(↑(iC ls):Int))) (aw_ (0≤i∧i<(↑(iC ls):Int)) (bw_ (iE ls (iJ i) 0==g) (Q0 (iA iB (i+1)) (iA iB (m+1))) (Q0 (iA iB (i+1)) (m)))) (R_ (m)))
def r12_in_I0 (ls:LI) (g i m r_:Int):Prop:=0≤i∧i≤ls.length∧m=inA (ls.take i.toNat) g∧ls.length≤9223372036854775807∧r_=inA ls g
abbrev r12_in_h0 (p0:Addr) (ls:LI) (g:Int):Hd Sg:=⟨none,[0,1,0,1,1],[.blk 0, .code [1,1,1]],[6,5,0,1],[.i .i64, .i .i64, .roc [.ints .i64 (ls)], .ic .i64 (g)]⟩
theorem r12_in_begin (ls:LI) (g:Int) (hl0:ls.length≤9223372036854775807):r12_in_w ls g (λi' m'=>r12_in_I0 ls g i' m' (r12_in ls g)) (λr__=>r__=(r12_in ls g)):=by
 unfold r12_in_w
 try unfold r12_in_I0
 exact ⟨by omega,by omega,by simp [inA],hl0,rfl⟩
theorem r12_in_step0 (ls:LI) (g:Int) (hl0:ls.length≤9223372036854775807) (i m:Int) {r_:Int} (hI:r12_in_I0 ls g i m r_):r12_in_w0 ls g i m (λi' m'=>r12_in_I0 ls g i' m' r_∧lx ((ls.length-i').toNat,0,0) ((ls.length-i).toNat,0,0)) (λr__=>r__=r_):=by
 unfold r12_in_I0 at hI
 unfold r12_in_w0
 try unfold r12_in_I0
 obtain ⟨h0,h1,h2,h3,hr⟩:=hI
 refine ⟨λh=>?_, λh=>?_⟩
 ·simp only [decide_eq_true_eq] at h
  have ht:ls.take (i+1).toNat=ls.take i.toNat++[ls.getD i.toNat 0]:=by
   rw [show (i+1).toNat=i.toNat+1 by omega,List.take_add_one,iI,iR (by omega)];rfl
  have hle:0≤m∧m≤i:=by
   rw [h2];unfold inA
   have:=List.length_filter_le (· ==g) (ls.take i.toNat)
   rw [jT] at this
   omega
  rw [w64 (n:=i+1) (by omega),w64 (n:=m+1) (by omega)]
  refine ⟨⟨h0,h⟩, λ_=>⟨λhc=>?_, λhc=>?_⟩⟩
  ·refine ⟨⟨by omega,by omega,?_,h3,hr⟩,lxo_⟩
   rw [ht,h2]
   generalize ls.getD i.toNat 0=q at hc
   unfold inA
   rw [List.filter_append,jA]
   simp only [beq_iff_eq,beq_eq_false_iff_ne] at hc
   simp [List.filter_cons,hc]
  ·refine ⟨⟨by omega,by omega,?_,h3,hr⟩,lxo_⟩
   rw [ht,h2]
   generalize ls.getD i.toNat 0=q at hc
   unfold inA
   rw [List.filter_append,jA]
   simp only [beq_iff_eq,beq_eq_false_iff_ne] at hc
   simp [List.filter_cons,hc]
 ·simp only [decide_eq_false_iff_not] at h
  show m=r_
  rw [hr,h2,List.take_of_length_le (by omega)]
theorem r12_in_ok:EOk 177 e_r12_in:=
 ent_wp Dg T_x_apart_ok (I:=[411000000006,411000000005,411000000000,411000000001]) Tryz.func177 mix (B:=bodyOf Tryz.f177) (by kernel_rfl) rfl (by kernel_rfl) 400
  λp0 ls g hb hp=>have hl0:ls.length≤9223372036854775807:=hb.1;⟨[r12_in_h0 p0 ls g], λj=>iE [appC (Hd.kd (r12_in_h0 p0 ls g)) (λi' m'=>r12_in_I0 ls g i' m' (r12_in ls g))] j (λ_=>False), λj=>iE [appC (Hd.kd (r12_in_h0 p0 ls g)) (λi' m'=>((ls.length-i').toNat,0,0))] j (λ_=>(0,0,0)),by kernel_rfl,⟨_, λ_ _ _=>by kernel_rfl,r12_in_begin ls g hl0⟩,⟨λi m hI=>⟨_, λ_ _ _=>by kernel_rfl,r12_in_step0 ls g hl0 i m hI⟩,trivial⟩⟩
def T_r12_in:Tb:=(177,e_r12_in)::T_x_apart
theorem T_r12_in_ok:TOk T_r12_in:=tc_ r12_in_ok T_x_apart_ok
end
section
open Go.Sl
theorem r05_Slots_eq (k:Int):r05_Slots k=kSlots k:=by
 by_cases h:0≤k∧k≤8
 ·rcases (by omega:k=0∨k=1∨k=2∨k=3∨k=4∨k=5∨k=6∨k=7∨k=8) with rfl|rfl|rfl|rfl|rfl|rfl|rfl|rfl|rfl<;>rfl
 ·have e:∀j:Int,0≤j→j≤8→(k==j)=false:= λj h0 h1=>by simp;omega
  have e1:r05_Slots k=0:=by
   unfold r05_Slots
   simp only [e 0 (by omega) (by omega),e 1 (by omega) (by omega),e 2 (by omega) (by omega),e 3 (by omega) (by omega),e 4 (by omega) (by omega),e 5 (by omega) (by omega),e 6 (by omega) (by omega),e 7 (by omega) (by omega),e 8 (by omega) (by omega),cond_false]
  rw [e1]
  unfold kSlots
  by_cases h0:0≤k
  ·have:decide (0≤k)=true:=by simpa using h0
   rw [this,cond_true,iI,jG (by simp;omega)];rfl
  ·have:decide (0≤k)=false:=by simpa using h0
   rw [this];rfl
theorem bit_eq {v:Int} (hv:bd32 v) (i:Int):r01_Bit v i=bitAt v i:=by
 unfold r01_Bit bitAt
 by_cases h:0≤i∧i<32
 ·have e1:decide (i≥0)=true:=by simp;omega
  have e2:decide (i<32)=true:=by simp;omega
  rw [e1,e2]
  have ew:iA IntKind.u64 i=i:=by rw [IntKind.wrap_u64];omega
  have em:min i.toNat 32=i.toNat:=by omega
  have hp:(0:Int)≤2^i.toNat:=Int.le_of_lt (Int.pow_pos (by omega))
  rw [ew,em,Int.fdiv_eq_ediv_of_nonneg _ hp,Int.tmod_eq_emod_of_nonneg (Int.ediv_nonneg hv.1 hp)]
 ·have:(decide (i≥0)&&decide (i<32))=false:=by simp;omega
  rw [this,Bool.false_and,Bool.false_and]
def r01_Ones (v:Int):Int:=ones v
abbrev c_r01_Ones:Ct Sg:=⟨none,false,[.i .u32], .i .i64⟩
def e_r01_Ones:Entry Sg:=entC c_r01_Ones r01_Ones (λv=>[bd32 v])
def r01_Ones_w (v:Int) (Q0:Int→Int→Prop) (R_:Int→Prop):Prop:=(Q0 (0) (0))
def r01_Ones_w0 (v i m:Int) (Q0:Int→Int→Prop) (R_:Int→Prop):Prop:=(bw_ (decide (i<32)) (bw_ (r01_Bit v i) (Q0 (iA iB (i+1)) (iA iB (m+1))) (Q0 (iA iB (i+1)) (m))) (R_ (m)))
def r01_Ones_I0 (v i m r_:Int):Prop:=0≤i∧i≤32∧0≤m∧m≤i∧m=onesF v i.toNat∧r_=ones v
abbrev r01_Ones_h0 (p0:Addr) (v:Int):Hd Sg:=⟨none,[0,1,0,1,1],[.blk 0, .code [1,1,1]],[4,3,0],[.i .i64, .i .i64, .ic .u32 (v)]⟩
theorem r01_Ones_begin (v:Int) (hp0:bd32 v):r01_Ones_w v (λi' m'=>r01_Ones_I0 v i' m' (r01_Ones v)) (λr__=>r__=(r01_Ones v)):=by
 unfold r01_Ones_w
 try unfold r01_Ones_I0
 exact ⟨by omega,by omega,by omega,by omega,rfl,rfl⟩
theorem r01_Ones_step0 (v:Int) (hp0:bd32 v) (i m:Int) {r_:Int} (hI:r01_Ones_I0 v i m r_):r01_Ones_w0 v i m (λi' m'=>r01_Ones_I0 v i' m' r_∧lx ((32-i').toNat,0,0) ((32-i).toNat,0,0)) (λr__=>r__=r_):=by
 unfold r01_Ones_I0 at hI
 unfold r01_Ones_w0
 try unfold r01_Ones_I0
 obtain ⟨h0,h1,h2,h3,h4,hr⟩:=hI
 refine ⟨λh=>?_, λh=>?_⟩
 ·simp only [decide_eq_true_eq] at h
  have e:(i+1).toNat=i.toNat+1:=by omega
  have ei:((i.toNat:Nat):Int)=i:=by omega
  rw [w64 (n:=i+1) (by omega),w64 (n:=m+1) (by omega),bit_eq hp0]
  refine ⟨λhb=>?_, λhb=>?_⟩
  ·exact ⟨⟨by omega,by omega,by omega,by omega,by rw [e,onesF,ei,hb,←h4];rfl,hr⟩,lxo_⟩
  ·exact ⟨⟨by omega,by omega,by omega,by omega,by rw [e,onesF,ei,hb,←h4];simp,hr⟩,lxo_⟩
 ·simp only [decide_eq_false_iff_not] at h
  have e:i.toNat=32:=by omega
  rw [e] at h4
  rw [hr];exact h4
theorem r01_Ones_ok:EOk 130 e_r01_Ones:=
 ent_wp Dg T_r12_in_ok (I:=[411000000004,411000000003,411000000000]) Tryz.func130 mix (B:=bodyOf Tryz.f130) (by kernel_rfl) rfl (by kernel_rfl) 400
  λp0 v hb hp=>have hp0:bd32 v:=hp _ (.head _);⟨[r01_Ones_h0 p0 v], λj=>iE [appC (Hd.kd (r01_Ones_h0 p0 v)) (λi' m'=>r01_Ones_I0 v i' m' (r01_Ones v))] j (λ_=>False), λj=>iE [appC (Hd.kd (r01_Ones_h0 p0 v)) (λi' m'=>((32-i').toNat,0,0))] j (λ_=>(0,0,0)),by kernel_rfl,⟨_, λ_ _ _=>by kernel_rfl,r01_Ones_begin v hp0⟩,⟨λi m hI=>⟨_, λ_ _ _=>by kernel_rfl,r01_Ones_step0 v hp0 i m hI⟩,trivial⟩⟩
def T_r01_Ones:Tb:=(130,e_r01_Ones)::T_r12_in
theorem T_r01_Ones_ok:TOk T_r01_Ones:=tc_ r01_Ones_ok T_r12_in_ok
def r12_Full (v k:Int):Bool:=r01_Ones v==r05_Slots k
abbrev c_r12_Full:Ct Sg:=⟨none,false,[.i .u32, .i .i64], .b⟩
def e_r12_Full:Entry Sg:=entC c_r12_Full r12_Full (λv k=>[bd32 v])
theorem r12_Full_ok:EOk 88 e_r12_Full:=
 ent_ok Dg T_r01_Ones_ok (I:=[]) Tryz.func88 mix (B:=bodyOf Tryz.f88) (by kernel_rfl) rfl (by kernel_rfl) 400
  λ_ v k hb hp=>have hp0:bd32 v:=hp _ (.head _);⟨(r12_Full v k),(.need (bd32 v) .t), λ_ _ _=>by kernel_rfl,⟨(by exact hp0), λz0=>trivial⟩,rfl⟩
def T_r12_Full:Tb:=(88,e_r12_Full)::T_r01_Ones
theorem T_r12_Full_ok:TOk T_r12_Full:=tc_ r12_Full_ok T_r01_Ones_ok
def x_List (t p sh:Int) (xs:LI) (hd:Int):LI×Bool:=listA ⟨t,p,sh⟩ xs hd
abbrev c_x_List:Ct Sg:=⟨none,false,[.agg [.i .i64, .i .i64, .i .i64, .ro [some .u32]], .i .i64], .tup [.new 3 [some .i64], .b]⟩
def e_x_List:Entry Sg:=entC c_x_List x_List (λt p sh xs hd=>[AGood ⟨t,p,sh⟩ xs,0≤hd∧hd<xs.length])
def x_List_w (t p sh:Int) (xs:LI) (hd:Int) (Q0:Int→Int→Nat→LI→Prop) (R_:LI×Bool→Prop):Prop:=(aw_ (0≤hd∧hd<(↑(iC xs):Int)) (Q0 (0) (iE xs (iJ hd) 0) (0) ([])))
def x_List_w0 (t p sh:Int) (xs:LI) (hd ah q:Int) (n1:Nat) (out:LI) (Q0:Int→Int→Nat→LI→Prop) (R_:LI×Bool→Prop):Prop:=(bw_ (q !=0) (bw_ (decide (iA iB q>p)||decide ((↑n1:Int)≥p)) (R_ ((out,false))) (aw_ (0≤r07_Prev t p sh (iA iB (iA iB q-1))∧r07_Prev t p sh (iA iB (iA iB q-1))<(↑(iC xs):Int)) (bw_ (iE xs (iJ (r07_Prev t p sh (iA iB (iA iB q-1)))) 0 !=ah) (R_ ((out,false))) (aw_ ((n1+1)*8≤140737488355328) (aw_ (0≤r07_Next t p sh (iA iB (iA iB q-1))∧r07_Next t p sh (iA iB (iA iB q-1))<(↑(iC xs):Int)) (Q0 (q) (iE xs (iJ (r07_Next t p sh (iA iB (iA iB q-1)))) 0) (n1+1) (out++[iA iB (iA iB q-1)]))))))) (R_ ((out,true))))
def x_List_I0 (t p sh:Int) (xs:LI) (hd ah q:Int) (n1:Nat) (out:LI) (r_:LI×Bool):Prop:=bd32 q∧n1=out.length∧(out.length:Int)≤p∧∃f:Nat,p+1-out.length<f∧listF ⟨t,p,sh⟩ xs f q ah out=r_
abbrev x_List_h0 (p0:Addr) (t p sh:Int) (xs:LI) (hd:Int):Hd Sg:=⟨none,[0,0,1,1,1,1],[.blk 0, .code [1,1,1,1,1]],[8,7,6,2],[.i .u32, .i .u32, .own 3 [some .i64], .box 102 [.ic .i64 (t), .ic .i64 (p), .ic .i64 (sh), .roc [.ints .u32 (xs)]]]⟩
theorem x_List_begin (t p sh:Int) (xs:LI) (hd:Int) (hp0:AGood ⟨t,p,sh⟩ xs) (hp1:0≤hd∧hd<xs.length) (hl0:xs.length≤9223372036854775807):x_List_w t p sh xs hd (λah' q' n1' out'=>x_List_I0 t p sh xs hd ah' q' n1' out' (x_List t p sh xs hd)) (λr__=>r__=(x_List t p sh xs hd)):=by
 unfold x_List_w
 try unfold x_List_I0
 have hok:=Cf.ok_iff.1 hp0.ok
 simp only at hok
 exact ⟨hp1, λ_=>⟨cel_bd hp0 hd,rfl,by simp;omega,p.toNat+2,by simp;omega,rfl⟩⟩
theorem x_List_step0 (t p sh:Int) (xs:LI) (hd:Int) (hp0:AGood ⟨t,p,sh⟩ xs) (hp1:0≤hd∧hd<xs.length) (hl0:xs.length≤9223372036854775807) (ah q:Int) (n1:Nat) (out:LI) {r_:LI×Bool} (hI:x_List_I0 t p sh xs hd ah q n1 out r_):x_List_w0 t p sh xs hd ah q n1 out (λah' q' n1' out'=>x_List_I0 t p sh xs hd ah' q' n1' out' r_∧lx ((p+1-out'.length).toNat,0,0) ((p+1-out.length).toNat,0,0)) (λr__=>r__=r_):=by
 unfold x_List_I0 at hI
 unfold x_List_w0
 try unfold x_List_I0
 obtain ⟨hq,h1,h2,f,hf,hr⟩:=hI
 have hok:=Cf.ok_iff.1 hp0.ok
 simp only at hok
 have hq':0≤q∧q<4294967296:=hq
 obtain ⟨f',rfl⟩:∃f',f=f'+1:=⟨f-1,by omega⟩
 simp only [listF] at hr
 refine ⟨λh=>?_, λh=>?_⟩
 ·have hne:q≠0:=by simpa using h
  have e0:(q==0)=false:=by simpa using hne
  rw [e0,cond_false] at hr
  have hb:(decide (q>p)||decide ((n1:Int)≥p))=(decide (q>p)||decide ((out.length:Int)≥p)):=by rw [h1]
  rw [w64 (n:=q) (by omega),w64 (n:=q-1) (by omega),hb,r07_Prev_eq,r07_Next_eq]
  refine ⟨λhc=>?_, λhc=>?_⟩
  ·rw [hc,cond_true] at hr;exact hr
  ·rw [hc,cond_false] at hr
   simp only [jI,decide_eq_false_iff_not] at hc
   have hg:0≤q-1∧q-1<p:=by omega
   have hin:=pc_in hp0 (g:=q-1) (k:=3) hg (by omega)
   have hin2:=pc_in hp0 (g:=q-1) (k:=2) hg (by omega)
   refine ⟨hin, λ_=>⟨λhz=>?_, λhz=>?_⟩⟩
   ·have hz':(cel xs (Cf.prev ⟨t,p,sh⟩ (q-1)) !=ah)=true:=hz
    rw [hz',cond_true] at hr;exact hr
   ·have hz':(cel xs (Cf.prev ⟨t,p,sh⟩ (q-1)) !=ah)=false:=hz
    rw [hz',cond_false] at hr
    exact ⟨by omega, λ_=>⟨hin2, λ_=>⟨⟨cel_bd hp0 _,by simp [h1],by simp;omega,f',by simp;omega,hr⟩,Or.inl (by simp;omega)⟩⟩⟩
 ·have e0:(q==0)=true:=by simpa using h
  rw [e0,cond_true] at hr
  exact hr
theorem x_List_ok:EOk 175 e_x_List:=
 ent_wp Dg T_r12_Full_ok (I:=[1451000000008,1451000000007,1451000000006,1451000000002]) Tryz.func175 mix (B:=bodyOf Tryz.f175) (by kernel_rfl) rfl (by kernel_rfl) 400
  λp0 t p sh xs hd hb hp=>have hl0:xs.length≤9223372036854775807:=hb.1.2.2.2.1;have hp0:AGood ⟨t,p,sh⟩ xs:=hp _ (.head _);have hp1:0≤hd∧hd<xs.length:=hp _ (.tail _ (.head _));⟨[x_List_h0 p0 t p sh xs hd], λj=>iE [appC (Hd.kd (x_List_h0 p0 t p sh xs hd)) (λah' q' n1' out'=>x_List_I0 t p sh xs hd ah' q' n1' out' (x_List t p sh xs hd))] j (λ_=>False), λj=>iE [appC (Hd.kd (x_List_h0 p0 t p sh xs hd)) (λah' q' n1' out'=>((p+1-out'.length).toNat,0,0))] j (λ_=>(0,0,0)),by kernel_rfl,⟨_, λ_ _ _=>by kernel_rfl,x_List_begin t p sh xs hd hp0 hp1 hl0⟩,⟨λah q n1 out hI=>⟨_, λ_ _ _=>by kernel_rfl,x_List_step0 t p sh xs hd hp0 hp1 hl0 ah q n1 out hI⟩,trivial⟩⟩
def T_x_List:Tb:=(175,e_x_List)::T_r12_Full
theorem T_x_List_ok:TOk T_x_List:=tc_ x_List_ok T_r12_Full_ok
def x_binned (t p sh:Int) (xs:LI) (g k:Int):Bool:=binned ⟨t,p,sh⟩ xs g k
abbrev c_x_binned:Ct Sg:=⟨none,false,[.agg [.i .i64, .i .i64, .i .i64, .ro [some .u32]], .i .i64, .i .i64], .b⟩
def e_x_binned:Entry Sg:=entC c_x_binned x_binned (λt p sh xs g k=>[AGood ⟨t,p,sh⟩ xs,0≤g∧g<p])
def x_binned_w (t p sh:Int) (xs:LI) (g k:Int) (R_:Bool→Prop):Prop:=(aw_ (AGood {t:=t,p:=p,s:=sh} xs) (aw_ (0≤g∧g<p) (aw_ ((iF (x_Info t p sh xs g)==1)=true→iF (If.l (aInfo {t:=t,p:=p,s:=sh} xs g),If.c (aInfo {t:=t,p:=p,s:=sh} xs g))≤9223372036854775807) (R_ (iF (If.k (aInfo {t:=t,p:=p,s:=sh} xs g),If.l (aInfo {t:=t,p:=p,s:=sh} xs g),If.c (aInfo {t:=t,p:=p,s:=sh} xs g))==1&&r01_Log (If.l (aInfo {t:=t,p:=p,s:=sh} xs g))==k)))))
theorem x_binned_begin (t p sh:Int) (xs:LI) (g k:Int) (hp0:AGood ⟨t,p,sh⟩ xs) (hp1:0≤g∧g<p) (hl0:xs.length≤9223372036854775807):x_binned_w t p sh xs g k (λr__=>r__=(x_binned t p sh xs g k)):=by
 unfold x_binned_w
 have hl:(aInfo ⟨t,p,sh⟩ xs g).l≤9223372036854775807:=by
  have:=(iGet_bd (cel xs (Cf.info ⟨t,p,sh⟩ g))).2.2.2.1
  have h2:(aInfo ⟨t,p,sh⟩ xs g).l≤1024:=this
  omega
 exact ⟨hp0, λ_=>⟨hp1, λ_=>⟨λ_=>hl, λ_=>rfl⟩⟩⟩
theorem x_binned_ok:EOk 176 e_x_binned:=
 ent_w0 Dg T_x_List_ok (I:=[]) Tryz.func176 mix (B:=bodyOf Tryz.f176) (by kernel_rfl) rfl (by kernel_rfl) 400
  λ_ t p sh xs g k hb hp=>⟨_, λ_ _ _=>by kernel_rfl,x_binned_begin t p sh xs g k (hp _ (.head _)) (hp _ (.tail _ (.head _))) (hb.1.2.2.2.1)⟩
def T_x_binned:Tb:=(176,e_x_binned)::T_x_List
theorem T_x_binned_ok:TOk T_x_binned:=tc_ x_binned_ok T_x_List_ok
def x_racked (t p sh:Int) (xs:LI) (g k:Int):Bool:=racked ⟨t,p,sh⟩ xs g k
abbrev c_x_racked:Ct Sg:=⟨none,false,[.agg [.i .i64, .i .i64, .i .i64, .ro [some .u32]], .i .i64, .i .i64], .b⟩
def e_x_racked:Entry Sg:=entC c_x_racked x_racked (λt p sh xs g k=>[AGood ⟨t,p,sh⟩ xs,0≤g∧g<p])
def x_racked_w (t p sh:Int) (xs:LI) (g k:Int) (R_:Bool→Prop):Prop:=(aw_ (AGood {t:=t,p:=p,s:=sh} xs) (aw_ (0≤g∧g<p) (aw_ ((iF (x_Info t p sh xs g)==3&&iH (If.l (aInfo {t:=t,p:=p,s:=sh} xs g),If.c (aInfo {t:=t,p:=p,s:=sh} xs g))==k)=true→AGood {t:=t,p:=p,s:=sh} xs) (aw_ ((iF (x_Info t p sh xs g)==3&&iH (If.l (aInfo {t:=t,p:=p,s:=sh} xs g),If.c (aInfo {t:=t,p:=p,s:=sh} xs g))==k)=true→0≤g∧g<p) (aw_ ((iF (x_Info t p sh xs g)==3&&iH (If.l (aInfo {t:=t,p:=p,s:=sh} xs g),If.c (aInfo {t:=t,p:=p,s:=sh} xs g))==k)=true→bd32 (x_Taken t p sh xs g)) (R_ (iF (If.k (aInfo {t:=t,p:=p,s:=sh} xs g),If.l (aInfo {t:=t,p:=p,s:=sh} xs g),If.c (aInfo {t:=t,p:=p,s:=sh} xs g))==3&&If.c (aInfo {t:=t,p:=p,s:=sh} xs g)==k&&!r12_Full (x_Taken t p sh xs g) k)))))))
theorem x_racked_begin (t p sh:Int) (xs:LI) (g k:Int) (hp0:AGood ⟨t,p,sh⟩ xs) (hp1:0≤g∧g<p) (hl0:xs.length≤9223372036854775807):x_racked_w t p sh xs g k (λr__=>r__=(x_racked t p sh xs g k)):=by
 unfold x_racked_w
 have hbd:=cel_bd hp0 (Cf.taken ⟨t,p,sh⟩ g)
 refine ⟨hp0, λ_=>⟨hp1, λ_=>⟨λ_=>hp0, λ_=>⟨λ_=>hp1, λ_=>⟨λ_=>hbd, λ_=>?_⟩⟩⟩⟩⟩
 show (_&&_&&!r12_Full (cel xs (Cf.taken ⟨t,p,sh⟩ g)) k)=racked ⟨t,p,sh⟩ xs g k
 unfold racked full r12_Full
 rw [r05_Slots_eq]
 rfl
theorem x_racked_ok:EOk 178 e_x_racked:=
 ent_w0 Dg T_x_binned_ok (I:=[]) Tryz.func178 mix (B:=bodyOf Tryz.f178) (by kernel_rfl) rfl (by kernel_rfl) 400
  λ_ t p sh xs g k hb hp=>⟨_, λ_ _ _=>by kernel_rfl,x_racked_begin t p sh xs g k (hp _ (.head _)) (hp _ (.tail _ (.head _))) (hb.1.2.2.2.1)⟩
def T_x_racked:Tb:=(178,e_x_racked)::T_x_binned
theorem T_x_racked_ok:TOk T_x_racked:=tc_ x_racked_ok T_x_binned_ok
end
section
open Go.Sl
theorem onesF_bd (v:Int):∀k:Nat,0≤onesF v k∧onesF v k≤k
 |0=>⟨Int.le_refl _,Int.le_refl _⟩
 |k+1=>by
  have:=onesF_bd v k
  simp only [onesF]
  cases bitAt v k with
  |true=>simp only [cond_true];omega
  |false=>simp only [cond_false];omega
theorem countsF_bd (c:Cf) (xs:LI):∀k:Nat,0≤(countsF c xs k).1∧(countsF c xs k).1≤1024*k∧0≤(countsF c xs k).2∧(countsF c xs k).2≤33*k
 |0=>by simp [countsF]
 |k+1=>by
  have h:=countsF_bd c xs k
  have h2:0≤ones (cel xs (c.slots k))∧ones (cel xs (c.slots k))≤32:=onesF_bd _ 32
  have h3:0≤(aInfo c xs k).l∧(aInfo c xs k).l≤1024:=⟨(iGet_bd (cel xs (c.info k))).2.2.1,(iGet_bd (cel xs (c.info k))).2.2.2.1⟩
  simp only [countsF]
  cases (aInfo c xs k).k==1<;>cases (aInfo c xs k).k==2<;>simp only [cond_true,cond_false]<;>omega
def x_loose (t p sh:Int) (xs:LI):Bool:=loose ⟨t,p,sh⟩ xs
abbrev c_x_loose:Ct Sg:=⟨none,false,[.agg [.i .i64, .i .i64, .i .i64, .ro [some .u32]]], .b⟩
def e_x_loose:Entry Sg:=entC c_x_loose x_loose (λt p sh xs=>[AGood ⟨t,p,sh⟩ xs])
def x_loose_w (t p sh:Int) (xs:LI) (Q0:Int→Prop) (R_:Bool→Prop):Prop:=(Q0 (0))
def x_loose_w0 (t p sh:Int) (xs:LI) (i:Int) (Q0:Int→Prop) (R_:Bool→Prop):Prop:=(bw_ (decide (i<p)) (aw_ (AGood {t:=t,p:=p,s:=sh} xs) (aw_ (0≤i∧i<p) (aw_ ((iF (x_Info t p sh xs i)==3)=true→AGood {t:=t,p:=p,s:=sh} xs) (aw_ ((iF (x_Info t p sh xs i)==3)=true→0≤i∧i<p) (aw_ ((iF (x_Info t p sh xs i)==3)=true→bd32 (x_Taken t p sh xs i)) (bw_ (iF (x_Info t p sh xs i)==1||iF (x_Info t p sh xs i)==3&&!r12_Full (x_Taken t p sh xs i) (If.c (aInfo {t:=t,p:=p,s:=sh} xs i))) (Q0 (iA iB (i+1))) (aw_ (0≤r07_Next t p sh i∧r07_Next t p sh i<(↑(iC xs):Int)) (aw_ ((iE xs (iJ (r07_Next t p sh i)) (0:Int) !=0)=false→0≤r07_Prev t p sh i∧r07_Prev t p sh i<(↑(iC xs):Int)) (bw_ (iE xs (iJ (r07_Next t p sh i)) (0:Int) !=0||iE xs (iJ (r07_Prev t p sh i)) (0:Int) !=0) (R_ (false)) (Q0 (iA iB (i+1)))))))))))) (R_ (true)))
def x_loose_I0 (t p sh:Int) (xs:LI) (i:Int) (r_:Bool):Prop:=0≤i∧i≤p∧looseF ⟨t,p,sh⟩ xs (p-i).toNat=r_
abbrev x_loose_h0 (p0:Addr) (t p sh:Int) (xs:LI):Hd Sg:=⟨none,[0,1,0,1],[.blk 0, .code [1,1]],[3,1],[.i .i64, .box 102 [.ic .i64 (t), .ic .i64 (p), .ic .i64 (sh), .roc [.ints .u32 (xs)]]]⟩
theorem x_loose_begin (t p sh:Int) (xs:LI) (hp0:AGood ⟨t,p,sh⟩ xs) (hl0:xs.length≤9223372036854775807):x_loose_w t p sh xs (λi'=>x_loose_I0 t p sh xs i' (x_loose t p sh xs)) (λr__=>r__=(x_loose t p sh xs)):=by
 unfold x_loose_w
 try unfold x_loose_I0
 have hok:=Cf.ok_iff.1 hp0.ok
 simp only at hok
 refine ⟨by omega,by omega,?_⟩
 show _=loose ⟨t,p,sh⟩ xs
 unfold loose
 rw [show (p-0).toNat=p.toNat by omega]
theorem x_loose_step0 (t p sh:Int) (xs:LI) (hp0:AGood ⟨t,p,sh⟩ xs) (hl0:xs.length≤9223372036854775807) (i:Int) {r_:Bool} (hI:x_loose_I0 t p sh xs i r_):x_loose_w0 t p sh xs i (λi'=>x_loose_I0 t p sh xs i' r_∧lx ((p-i').toNat,0,0) ((p-i).toNat,0,0)) (λr__=>r__=r_):=by
 unfold x_loose_I0 at hI
 unfold x_loose_w0
 try unfold x_loose_I0
 obtain ⟨h0,h1,hr⟩:=hI
 have hok:=Cf.ok_iff.1 hp0.ok
 simp only at hok
 refine ⟨λh=>?_, λh=>?_⟩
 ·simp only [decide_eq_true_eq] at h
  have hg:0≤i∧i<p:=⟨h0,h⟩
  have hbt:bd32 (x_Taken t p sh xs i):=cel_bd hp0 _
  have hin2:=pc_in hp0 (g:=i) (k:=2) hg (by omega)
  have hin3:=pc_in hp0 (g:=i) (k:=3) hg (by omega)
  have e:(p-i).toNat=(p-(i+1)).toNat+1:=by omega
  have ei:(p:Int)-(((p-(i+1)).toNat+1:Nat):Int)=i:=by omega
  rw [e] at hr
  simp only [looseF] at hr
  rw [ei] at hr
  have hf:∀k,r12_Full (x_Taken t p sh xs i) k=full (cel xs (Cf.taken ⟨t,p,sh⟩ i)) k:= λk=>by
   unfold r12_Full full
   rw [r05_Slots_eq];rfl
  rw [w64 (n:=i+1) (by omega),r07_Next_eq,r07_Prev_eq,hf]
  refine ⟨hp0, λ_=>⟨hg, λ_=>⟨λ_=>hp0, λ_=>⟨λ_=>hg, λ_=>⟨λ_=>hbt, λ_=>⟨λhc=>?_, λhc=>?_⟩⟩⟩⟩⟩⟩
  ·have hc':((aInfo ⟨t,p,sh⟩ xs i).k==1||((aInfo ⟨t,p,sh⟩ xs i).k==3&&!full (cel xs (Cf.taken ⟨t,p,sh⟩ i)) (aInfo ⟨t,p,sh⟩ xs i).c))=true:=hc
   rw [hc',cond_true] at hr
   exact ⟨⟨by omega,by omega,hr⟩,lxo_⟩
  ·have hc':((aInfo ⟨t,p,sh⟩ xs i).k==1||((aInfo ⟨t,p,sh⟩ xs i).k==3&&!full (cel xs (Cf.taken ⟨t,p,sh⟩ i)) (aInfo ⟨t,p,sh⟩ xs i).c))=false:=hc
   rw [hc',cond_false] at hr
   refine ⟨hin2, λ_=>⟨λ_=>hin3, λ_=>⟨λhz=>?_, λhz=>?_⟩⟩⟩
   ·have hz':(cel xs (Cf.next ⟨t,p,sh⟩ i) !=0||cel xs (Cf.prev ⟨t,p,sh⟩ i) !=0)=true:=hz
    rw [hz',cond_true] at hr;exact hr
   ·have hz':(cel xs (Cf.next ⟨t,p,sh⟩ i) !=0||cel xs (Cf.prev ⟨t,p,sh⟩ i) !=0)=false:=hz
    rw [hz',cond_false] at hr
    exact ⟨⟨by omega,by omega,hr⟩,lxo_⟩
 ·simp only [decide_eq_false_iff_not] at h
  rw [show (p-i).toNat=0 by omega] at hr
  exact hr
theorem x_loose_ok:EOk 153 e_x_loose:=
 ent_wp Dg T_x_racked_ok (I:=[103000000003,103000000001]) Tryz.func153 mix (B:=bodyOf Tryz.f153) (by kernel_rfl) rfl (by kernel_rfl) 400
  λp0 t p sh xs hb hp=>have hl0:xs.length≤9223372036854775807:=hb.1.2.2.2.1;have hp0:AGood ⟨t,p,sh⟩ xs:=hp _ (.head _);⟨[x_loose_h0 p0 t p sh xs], λj=>iE [appC (Hd.kd (x_loose_h0 p0 t p sh xs)) (λi'=>x_loose_I0 t p sh xs i' (x_loose t p sh xs))] j (λ_=>False), λj=>iE [appC (Hd.kd (x_loose_h0 p0 t p sh xs)) (λi'=>((p-i').toNat,0,0))] j (λ_=>(0,0,0)),by kernel_rfl,⟨_, λ_ _ _=>by kernel_rfl,x_loose_begin t p sh xs hp0 hl0⟩,⟨λi hI=>⟨_, λ_ _ _=>by kernel_rfl,x_loose_step0 t p sh xs hp0 hl0 i hI⟩,trivial⟩⟩
def T_x_loose:Tb:=(153,e_x_loose)::T_x_racked
theorem T_x_loose_ok:TOk T_x_loose:=tc_ x_loose_ok T_x_racked_ok
def x_counts (t p sh:Int) (xs:LI):Bool:=counts ⟨t,p,sh⟩ xs
abbrev c_x_counts:Ct Sg:=⟨none,false,[.agg [.i .i64, .i .i64, .i .i64, .ro [some .u32]]], .b⟩
def e_x_counts:Entry Sg:=entC c_x_counts x_counts (λt p sh xs=>[AGood ⟨t,p,sh⟩ xs])
def x_counts_w (t p sh:Int) (xs:LI) (Q0:Int→Int→Int→Prop) (R_:Bool→Prop):Prop:=(Q0 (0) (0) (0))
def x_counts_w0 (t p sh:Int) (xs:LI) (i lv fr:Int) (Q0:Int→Int→Int→Prop) (R_:Bool→Prop):Prop:=(bw_ (decide (i<p)) (aw_ (AGood {t:=t,p:=p,s:=sh} xs) (aw_ (0≤i∧i<p) (bw_ (iF (x_Info t p sh xs i)==1) (bw_ (iF (x_Info t p sh xs i)==2) (aw_ (AGood {t:=t,p:=p,s:=sh} xs) (aw_ (0≤i∧i<p) (aw_ (bd32 (x_Slots t p sh xs i)) (Q0 (iA iB (i+1)) (iA iB (iA iB (lv+1)+r01_Ones (x_Slots t p sh xs i))) (iA iB (fr+If.l (aInfo {t:=t,p:=p,s:=sh} xs i))))))) (aw_ (AGood {t:=t,p:=p,s:=sh} xs) (aw_ (0≤i∧i<p) (aw_ (bd32 (x_Slots t p sh xs i)) (Q0 (iA iB (i+1)) (iA iB (lv+r01_Ones (x_Slots t p sh xs i))) (iA iB (fr+If.l (aInfo {t:=t,p:=p,s:=sh} xs i)))))))) (bw_ (iF (x_Info t p sh xs i)==2) (aw_ (AGood {t:=t,p:=p,s:=sh} xs) (aw_ (0≤i∧i<p) (aw_ (bd32 (x_Slots t p sh xs i)) (Q0 (iA iB (i+1)) (iA iB (iA iB (lv+1)+r01_Ones (x_Slots t p sh xs i))) (fr))))) (aw_ (AGood {t:=t,p:=p,s:=sh} xs) (aw_ (0≤i∧i<p) (aw_ (bd32 (x_Slots t p sh xs i)) (Q0 (iA iB (i+1)) (iA iB (lv+r01_Ones (x_Slots t p sh xs i))) (fr))))))))) (aw_ ((0:Int)≤0∧0<(↑(iC xs):Int)) (aw_ ((iE xs 0 0==iA iO fr)=true→(0:Int)≤1∧1<(↑(iC xs):Int)) (R_ (iE xs 0 0==iA iO fr&&iE xs 1 0==iA iO lv)))))
def x_counts_I0 (t p sh:Int) (xs:LI) (i lv fr:Int) (r_:Bool):Prop:=0≤i∧i≤p∧fr=(countsF ⟨t,p,sh⟩ xs i.toNat).1∧lv=(countsF ⟨t,p,sh⟩ xs i.toNat).2∧r_=counts ⟨t,p,sh⟩ xs
abbrev x_counts_h0 (p0:Addr) (t p sh:Int) (xs:LI):Hd Sg:=⟨none,[0,1,0,1,1],[.blk 0, .code [1,1,1]],[5,4,3,1],[.i .i64, .i .i64, .i .i64, .box 102 [.ic .i64 (t), .ic .i64 (p), .ic .i64 (sh), .roc [.ints .u32 (xs)]]]⟩
theorem x_counts_begin (t p sh:Int) (xs:LI) (hp0:AGood ⟨t,p,sh⟩ xs) (hl0:xs.length≤9223372036854775807):x_counts_w t p sh xs (λi' lv' fr'=>x_counts_I0 t p sh xs i' lv' fr' (x_counts t p sh xs)) (λr__=>r__=(x_counts t p sh xs)):=by
 unfold x_counts_w
 try unfold x_counts_I0
 have hok:=Cf.ok_iff.1 hp0.ok
 simp only at hok
 exact ⟨by omega,by omega,rfl,rfl,rfl⟩
theorem x_counts_step0 (t p sh:Int) (xs:LI) (hp0:AGood ⟨t,p,sh⟩ xs) (hl0:xs.length≤9223372036854775807) (i lv fr:Int) {r_:Bool} (hI:x_counts_I0 t p sh xs i lv fr r_):x_counts_w0 t p sh xs i lv fr (λi' lv' fr'=>x_counts_I0 t p sh xs i' lv' fr' r_∧lx ((p-i').toNat,0,0) ((p-i).toNat,0,0)) (λr__=>r__=r_):=by
 unfold x_counts_I0 at hI
 unfold x_counts_w0
 try unfold x_counts_I0
 obtain ⟨h0,h1,hf,hl,hr⟩:=hI
 have hok:=Cf.ok_iff.1 hp0.ok
 simp only at hok
 have hb:=countsF_bd ⟨t,p,sh⟩ xs i.toNat
 refine ⟨λh=>?_, λh=>?_⟩
 ·simp only [decide_eq_true_eq] at h
  have hg:0≤i∧i<p:=⟨h0,h⟩
  have e:(i+1).toNat=i.toNat+1:=by omega
  have ei:((i.toNat:Nat):Int)=i:=by omega
  have hbs:bd32 (x_Slots t p sh xs i):=cel_bd hp0 _
  have hl0:0≤(aInfo ⟨t,p,sh⟩ xs i).l:=(iGet_bd (cel xs (Cf.info ⟨t,p,sh⟩ i))).2.2.1
  have hl1:(aInfo ⟨t,p,sh⟩ xs i).l≤1024:=(iGet_bd (cel xs (Cf.info ⟨t,p,sh⟩ i))).2.2.2.1
  have ho:0≤ones (cel xs (Cf.slots ⟨t,p,sh⟩ i))∧ones (cel xs (Cf.slots ⟨t,p,sh⟩ i))≤32:=onesF_bd _ 32
  have hones:r01_Ones (x_Slots t p sh xs i)=ones (cel xs (Cf.slots ⟨t,p,sh⟩ i)):=rfl
  have key:countsF ⟨t,p,sh⟩ xs (i+1).toNat=(fr+(bif (aInfo ⟨t,p,sh⟩ xs i).k==1 then (aInfo ⟨t,p,sh⟩ xs i).l else 0),lv+(bif (aInfo ⟨t,p,sh⟩ xs i).k==2 then 1 else 0)+ones (cel xs (Cf.slots ⟨t,p,sh⟩ i))):=by
   rw [e,countsF,ei,←hf,←hl]
  have F1:IntKind.i64.wrap (fr+(aInfo ⟨t,p,sh⟩ xs i).l)=fr+(aInfo ⟨t,p,sh⟩ xs i).l:=w64 (by omega)
  have F2:IntKind.i64.wrap (lv+1)=lv+1:=w64 (by omega)
  have F3:IntKind.i64.wrap (lv+1+ones (cel xs (Cf.slots ⟨t,p,sh⟩ i)))=lv+1+ones (cel xs (Cf.slots ⟨t,p,sh⟩ i)):=w64 (by omega)
  have F4:IntKind.i64.wrap (lv+ones (cel xs (Cf.slots ⟨t,p,sh⟩ i)))=lv+ones (cel xs (Cf.slots ⟨t,p,sh⟩ i)):=w64 (by omega)
  rw [hones,w64 (n:=i+1) (by omega),F2,F3,F4]
  have fin:∀(b1 b2:Bool),((aInfo ⟨t,p,sh⟩ xs i).k==1)=b1→((aInfo ⟨t,p,sh⟩ xs i).k==2)=b2→∀x y:Int,x=fr+(bif b1 then (aInfo ⟨t,p,sh⟩ xs i).l else 0)→y=lv+(bif b2 then 1 else 0)+ones (cel xs (Cf.slots ⟨t,p,sh⟩ i))→
   (0≤i+1∧i+1≤p∧x=(countsF ⟨t,p,sh⟩ xs (i+1).toNat).1∧y=(countsF ⟨t,p,sh⟩ xs (i+1).toNat).2∧r_=counts ⟨t,p,sh⟩ xs)∧lx ((p-(i+1)).toNat,0,0) ((p-i).toNat,0,0):=by
   intro b1 b2 e1 e2 x y hx hy
   rw [key,e1,e2]
   exact ⟨⟨by omega,by omega,hx,hy,hr⟩,lxo_⟩
  refine ⟨hp0, λ_=>⟨hg, λ_=>⟨λc1=>⟨λc2=>?_, λc2=>?_⟩, λc1=>⟨λc2=>?_, λc2=>?_⟩⟩⟩⟩
  ·exact ⟨hp0, λ_=>⟨hg, λ_=>⟨hbs, λ_=>fin true true c1 c2 _ _ F1 rfl⟩⟩⟩
  ·exact ⟨hp0, λ_=>⟨hg, λ_=>⟨hbs, λ_=>fin true false c1 c2 _ _ F1 (by simp)⟩⟩⟩
  ·exact ⟨hp0, λ_=>⟨hg, λ_=>⟨hbs, λ_=>fin false true c1 c2 _ _ (by simp) rfl⟩⟩⟩
  ·exact ⟨hp0, λ_=>⟨hg, λ_=>⟨hbs, λ_=>fin false false c1 c2 _ _ (by simp) (by simp)⟩⟩⟩
 ·simp only [decide_eq_false_iff_not] at h
  have hlen:=hp0.len
  unfold Cf.cells at hlen
  rw [hp0.ok,cond_true] at hlen
  simp only at hlen
  have e:i.toNat=p.toNat:=by omega
  refine ⟨⟨by omega,by omega⟩, λ_=>⟨λ_=>⟨by omega,by omega⟩, λ_=>?_⟩⟩
  show _=r_
  rw [hr,wrapu_nv,wrapu_nv,hf,hl,e]
  rfl
theorem x_counts_ok:EOk 154 e_x_counts:=
 ent_wp Dg T_x_loose_ok (I:=[411000000005,411000000004,411000000003,411000000001]) Tryz.func154 mix (B:=bodyOf Tryz.f154) (by kernel_rfl) rfl (by kernel_rfl) 400
  λp0 t p sh xs hb hp=>have hl0:xs.length≤9223372036854775807:=hb.1.2.2.2.1;have hp0:AGood ⟨t,p,sh⟩ xs:=hp _ (.head _);⟨[x_counts_h0 p0 t p sh xs], λj=>iE [appC (Hd.kd (x_counts_h0 p0 t p sh xs)) (λi' lv' fr'=>x_counts_I0 t p sh xs i' lv' fr' (x_counts t p sh xs))] j (λ_=>False), λj=>iE [appC (Hd.kd (x_counts_h0 p0 t p sh xs)) (λi' lv' fr'=>((p-i').toNat,0,0))] j (λ_=>(0,0,0)),by kernel_rfl,⟨_, λ_ _ _=>by kernel_rfl,x_counts_begin t p sh xs hp0 hl0⟩,⟨λi lv fr hI=>⟨_, λ_ _ _=>by kernel_rfl,x_counts_step0 t p sh xs hp0 hl0 i lv fr hI⟩,trivial⟩⟩
def T_x_counts:Tb:=(154,e_x_counts)::T_x_loose
theorem T_x_counts_ok:TOk T_x_counts:=tc_ x_counts_ok T_x_loose_ok
end
section
open Go.Sl
theorem lxp_ {x y:Nat×Nat×Nat} (h:lx x y:=by unfold lx;dsimp only;omega):lx x y:=h
theorem r07_Rack_eq (k:Int):r07_Rack k=cRack k:=by
 unfold r07_Rack cRack
 by_cases hg:0≤k∧k<9
 ·have a1:(decide (k<0)||decide (k>8))=false:=by simp;omega
  have a2:(decide (0≤k)&&decide (k<9))=true:=by simp;omega
  rw [a2]
  first|(rw [a1];simp only [cond_false,cond_true];rw [w64 (by omega)])|(simp only [cond_true];rw [w64 (by omega)])
 ·have a1:(decide (k<0)||decide (k>8))=true:=by simp;omega
  have a2:(decide (0≤k)&&decide (k<9))=false:=by simp;omega
  rw [a2]
  first|(rw [a1];rfl)|rfl
def x_bins (t p sh:Int) (xs:LI):Bool:=bins ⟨t,p,sh⟩ xs
abbrev c_x_bins:Ct Sg:=⟨none,false,[.agg [.i .i64, .i .i64, .i .i64, .ro [some .u32]]], .b⟩
def e_x_bins:Entry Sg:=entC c_x_bins x_bins (λt p sh xs=>[AGood ⟨t,p,sh⟩ xs])
def x_bins_w (t p sh:Int) (xs:LI) (Q0:Int→Prop) (Q1:Int→Nat→LI→Int→Prop) (R_:Bool→Prop):Prop:=(Q0 (0))
def x_bins_w0 (t p sh:Int) (xs:LI) (k:Int) (Q0:Int→Prop) (Q1:Int→Nat→LI→Int→Prop) (R_:Bool→Prop):Prop:=(bw_ (decide (k<11)) (∀r1:Int,r1=(r07_Bin k)→(∀r2:LI×Bool,r2=(x_List t p sh xs r1)→(aw_ (AGood {t:=t,p:=p,s:=sh} xs) (aw_ (0≤r1∧r1<(↑(iC xs):Int)) (bw_ (!r2.2) (R_ (false)) (Q1 (0) (iC r2.1) r2.1 (k))))))) (R_ (true)))
def x_bins_I0 (t p sh:Int) (xs:LI) (k:Int) (r_:Bool):Prop:=0≤k∧k≤11∧binsF ⟨t,p,sh⟩ xs (11-k).toNat=r_
def x_bins_w1 (t p sh:Int) (xs:LI) (i:Int) (n1:Nat) (ls:LI) (k:Int) (Q0:Int→Prop) (Q1:Int→Nat→LI→Int→Prop) (R_:Bool→Prop):Prop:=(bw_ (decide (i<p)) (aw_ (AGood {t:=t,p:=p,s:=sh} xs) (aw_ (0≤i∧i<p) (bw_ (x_binned t p sh xs i k) (bw_ (r12_in ls i !=1) (R_ (false)) (Q1 (iA iB (i+1)) (n1) (ls) (k))) (bw_ (r12_in ls i !=0) (R_ (false)) (Q1 (iA iB (i+1)) (n1) (ls) (k)))))) (Q0 (iA iB (k+1))))
def x_bins_I1 (t p sh:Int) (xs:LI) (i:Int) (n1:Nat) (ls:LI) (k:Int) (r_:Bool):Prop:=0≤k∧k<11∧0≤i∧i≤p∧n1=ls.length∧(bif onceF ⟨t,p,sh⟩ ls (λg=>binned ⟨t,p,sh⟩ xs g k) (p-i).toNat then binsF ⟨t,p,sh⟩ xs (10-k).toNat else false)=r_
abbrev x_bins_h0 (p0:Addr) (t p sh:Int) (xs:LI):Hd Sg:=⟨none,[0,1,0,1],[.blk 0, .code [1,1]],[3,1],[.i .i64, .box 102 [.ic .i64 (t), .ic .i64 (p), .ic .i64 (sh), .roc [.ints .u32 (xs)]]]⟩
abbrev x_bins_h1 (p0:Addr) (t p sh:Int) (xs:LI):Hd Sg:=⟨none,[0,1,1,1,0,0,1,0,0,1,0,1],[.blk 2, .blk 1, .code [1,1,0,0,1,0,1], .again [0,1,0,1], .blk 0, .code [1,1]],[6,4,3,1],[.i .i64, .own 3 [some .i64], .i .i64, .box 102 [.ic .i64 (t), .ic .i64 (p), .ic .i64 (sh), .roc [.ints .u32 (xs)]]]⟩
theorem x_bins_begin (t p sh:Int) (xs:LI) (hp0:AGood ⟨t,p,sh⟩ xs) (hl0:xs.length≤9223372036854775807):x_bins_w t p sh xs (λk'=>x_bins_I0 t p sh xs k' (x_bins t p sh xs)) (λi' n1' ls' k'=>x_bins_I1 t p sh xs i' n1' ls' k' (x_bins t p sh xs)) (λr__=>r__=(x_bins t p sh xs)):=by
 unfold x_bins_w
 try unfold x_bins_I0
 try unfold x_bins_I1
 exact ⟨by omega,by omega,rfl⟩
theorem x_bins_step0 (t p sh:Int) (xs:LI) (hp0:AGood ⟨t,p,sh⟩ xs) (hl0:xs.length≤9223372036854775807) (k:Int) {r_:Bool} (hI:x_bins_I0 t p sh xs k r_):x_bins_w0 t p sh xs k (λk'=>x_bins_I0 t p sh xs k' r_∧lx ((11-k').toNat,p.toNat+1,0) ((11-k).toNat,p.toNat+1,0)) (λi' n1' ls' k'=>x_bins_I1 t p sh xs i' n1' ls' k' r_∧lx ((11-k').toNat,(p-i').toNat,0) ((11-k).toNat,p.toNat+1,0)) (λr__=>r__=r_):=by
 unfold x_bins_I0 at hI
 unfold x_bins_w0
 try unfold x_bins_I0
 try unfold x_bins_I1
 obtain ⟨h0,h1,hr⟩:=hI
 have hok:=Cf.ok_iff.1 hp0.ok
 simp only at hok
 refine ⟨λh=>?_, λh=>?_⟩
 ·simp only [decide_eq_true_eq] at h
  have e:(11-k).toNat=(10-k).toNat+1:=by omega
  have ek:(11:Int)-(((10-k).toNat+1:Nat):Int)=k:=by omega
  rw [e] at hr
  simp only [binsF] at hr
  rw [ek] at hr
  have hb:=bin_in hp0 (k:=k) ⟨h0,h⟩
  rintro r1 rfl r2 rfl
  rw [r07_Bin_eq]
  refine ⟨hp0, λ_=>⟨hb, λ_=>⟨λhc=>?_, λhc=>?_⟩⟩⟩
  ·have hc':(listA ⟨t,p,sh⟩ xs (cBin k)).2=false:=by simpa [x_List] using hc
   rw [hc',cond_false] at hr;exact hr
  ·have hc':(listA ⟨t,p,sh⟩ xs (cBin k)).2=true:=by simpa [x_List] using hc
   rw [hc',cond_true] at hr
   refine ⟨⟨h0,h,by omega,by omega,rfl,?_⟩,lxp_⟩
   rw [show (p-0).toNat=p.toNat by omega];exact hr
 ·simp only [decide_eq_false_iff_not] at h
  rw [show (11-k).toNat=0 by omega] at hr
  exact hr
theorem x_bins_step1 (t p sh:Int) (xs:LI) (hp0:AGood ⟨t,p,sh⟩ xs) (hl0:xs.length≤9223372036854775807) (i:Int) (n1:Nat) (ls:LI) (k:Int) {r_:Bool} (hI:x_bins_I1 t p sh xs i n1 ls k r_):x_bins_w1 t p sh xs i n1 ls k (λk'=>x_bins_I0 t p sh xs k' r_∧lx ((11-k').toNat,p.toNat+1,0) ((11-k).toNat,(p-i).toNat,0)) (λi' n1' ls' k'=>x_bins_I1 t p sh xs i' n1' ls' k' r_∧lx ((11-k').toNat,(p-i').toNat,0) ((11-k).toNat,(p-i).toNat,0)) (λr__=>r__=r_):=by
 unfold x_bins_I1 at hI
 unfold x_bins_w1
 try unfold x_bins_I0
 try unfold x_bins_I1
 obtain ⟨h0,h1,h2,h3,h4,hr⟩:=hI
 have hok:=Cf.ok_iff.1 hp0.ok
 simp only at hok
 refine ⟨λh=>?_, λh=>?_⟩
 ·simp only [decide_eq_true_eq] at h
  have hg:0≤i∧i<p:=⟨h2,h⟩
  have e:(p-i).toNat=(p-(i+1)).toNat+1:=by omega
  have ei:(p:Int)-(((p-(i+1)).toNat+1:Nat):Int)=i:=by omega
  rw [e] at hr
  simp only [onceF] at hr
  rw [ei] at hr
  rw [w64 (n:=i+1) (by omega)]
  refine ⟨hp0, λ_=>⟨hg, λ_=>⟨λhc=>?_, λhc=>?_⟩⟩⟩
  ·have hc':binned ⟨t,p,sh⟩ xs i k=true:=hc
   rw [hc',cond_true] at hr
   refine ⟨λhn=>?_, λhn=>?_⟩
   ·have hn':(inA ls i !=1)=true:=hn
    rw [hn',cond_true,cond_false] at hr;exact hr
   ·have hn':(inA ls i !=1)=false:=hn
    rw [hn',cond_false] at hr
    exact ⟨⟨h0,h1,by omega,by omega,h4,hr⟩,lxp_⟩
  ·have hc':binned ⟨t,p,sh⟩ xs i k=false:=hc
   rw [hc',cond_false] at hr
   refine ⟨λhn=>?_, λhn=>?_⟩
   ·have hn':(inA ls i !=0)=true:=hn
    rw [hn',cond_true,cond_false] at hr;exact hr
   ·have hn':(inA ls i !=0)=false:=hn
    rw [hn',cond_false] at hr
    exact ⟨⟨h0,h1,by omega,by omega,h4,hr⟩,lxp_⟩
 ·simp only [decide_eq_false_iff_not] at h
  rw [show (p-i).toNat=0 by omega] at hr
  simp only [onceF,cond_true] at hr
  rw [w64 (n:=k+1) (by omega)]
  refine ⟨⟨by omega,by omega,?_⟩,lxp_⟩
  rw [show (11-(k+1)).toNat=(10-k).toNat by omega];exact hr
theorem x_bins_ok:EOk 151 e_x_bins:=
 ent_wp Dg T_x_counts_ok (I:=[103000000003,103000000001,8549000000006,8549000000004,8549000000003,8549000000001]) Tryz.func151 mix (B:=bodyOf Tryz.f151) (by kernel_rfl) rfl (by kernel_rfl) 400
  λp0 t p sh xs hb hp=>have hl0:xs.length≤9223372036854775807:=hb.1.2.2.2.1;have hp0:AGood ⟨t,p,sh⟩ xs:=hp _ (.head _);⟨[x_bins_h0 p0 t p sh xs,x_bins_h1 p0 t p sh xs], λj=>iE [appC (Hd.kd (x_bins_h0 p0 t p sh xs)) (λk'=>x_bins_I0 t p sh xs k' (x_bins t p sh xs)),appC (Hd.kd (x_bins_h1 p0 t p sh xs)) (λi' n1' ls' k'=>x_bins_I1 t p sh xs i' n1' ls' k' (x_bins t p sh xs))] j (λ_=>False), λj=>iE [appC (Hd.kd (x_bins_h0 p0 t p sh xs)) (λk'=>((11-k').toNat,p.toNat+1,0)),appC (Hd.kd (x_bins_h1 p0 t p sh xs)) (λi' n1' ls' k'=>((11-k').toNat,(p-i').toNat,0))] j (λ_=>(0,0,0)),by kernel_rfl,⟨_, λ_ _ _=>by kernel_rfl,x_bins_begin t p sh xs hp0 hl0⟩,⟨λk hI=>⟨_, λ_ _ _=>by kernel_rfl,x_bins_step0 t p sh xs hp0 hl0 k hI⟩,⟨λi n1 ls k hI=>⟨_, λ_ _ _=>by kernel_rfl,x_bins_step1 t p sh xs hp0 hl0 i n1 ls k hI⟩,trivial⟩⟩⟩
def T_x_bins:Tb:=(151,e_x_bins)::T_x_counts
theorem T_x_bins_ok:TOk T_x_bins:=tc_ x_bins_ok T_x_counts_ok
def x_racks (t p sh:Int) (xs:LI):Bool:=racks ⟨t,p,sh⟩ xs
abbrev c_x_racks:Ct Sg:=⟨none,false,[.agg [.i .i64, .i .i64, .i .i64, .ro [some .u32]]], .b⟩
def e_x_racks:Entry Sg:=entC c_x_racks x_racks (λt p sh xs=>[AGood ⟨t,p,sh⟩ xs])
def x_racks_w (t p sh:Int) (xs:LI) (Q0:Int→Prop) (Q1:Int→Nat→LI→Int→Prop) (R_:Bool→Prop):Prop:=(Q0 (0))
def x_racks_w0 (t p sh:Int) (xs:LI) (k:Int) (Q0:Int→Prop) (Q1:Int→Nat→LI→Int→Prop) (R_:Bool→Prop):Prop:=(bw_ (decide (k<9)) (∀r1:Int,r1=(r07_Rack k)→(∀r2:LI×Bool,r2=(x_List t p sh xs r1)→(aw_ (AGood {t:=t,p:=p,s:=sh} xs) (aw_ (0≤r1∧r1<(↑(iC xs):Int)) (bw_ (!r2.2) (R_ (false)) (Q1 (0) (iC r2.1) r2.1 (k))))))) (R_ (true)))
def x_racks_I0 (t p sh:Int) (xs:LI) (k:Int) (r_:Bool):Prop:=0≤k∧k≤9∧racksF ⟨t,p,sh⟩ xs (9-k).toNat=r_
def x_racks_w1 (t p sh:Int) (xs:LI) (i:Int) (n1:Nat) (ls:LI) (k:Int) (Q0:Int→Prop) (Q1:Int→Nat→LI→Int→Prop) (R_:Bool→Prop):Prop:=(bw_ (decide (i<p)) (aw_ (AGood {t:=t,p:=p,s:=sh} xs) (aw_ (0≤i∧i<p) (bw_ (x_racked t p sh xs i k) (bw_ (r12_in ls i !=1) (R_ (false)) (Q1 (iA iB (i+1)) (n1) (ls) (k))) (bw_ (r12_in ls i !=0) (R_ (false)) (Q1 (iA iB (i+1)) (n1) (ls) (k)))))) (Q0 (iA iB (k+1))))
def x_racks_I1 (t p sh:Int) (xs:LI) (i:Int) (n1:Nat) (ls:LI) (k:Int) (r_:Bool):Prop:=0≤k∧k<9∧0≤i∧i≤p∧n1=ls.length∧(bif onceF ⟨t,p,sh⟩ ls (λg=>racked ⟨t,p,sh⟩ xs g k) (p-i).toNat then racksF ⟨t,p,sh⟩ xs (8-k).toNat else false)=r_
abbrev x_racks_h0 (p0:Addr) (t p sh:Int) (xs:LI):Hd Sg:=⟨none,[0,1,0,1],[.blk 0, .code [1,1]],[3,1],[.i .i64, .box 102 [.ic .i64 (t), .ic .i64 (p), .ic .i64 (sh), .roc [.ints .u32 (xs)]]]⟩
abbrev x_racks_h1 (p0:Addr) (t p sh:Int) (xs:LI):Hd Sg:=⟨none,[0,1,1,1,0,0,1,0,0,1,0,1],[.blk 2, .blk 1, .code [1,1,0,0,1,0,1], .again [0,1,0,1], .blk 0, .code [1,1]],[6,4,3,1],[.i .i64, .own 3 [some .i64], .i .i64, .box 102 [.ic .i64 (t), .ic .i64 (p), .ic .i64 (sh), .roc [.ints .u32 (xs)]]]⟩
theorem x_racks_begin (t p sh:Int) (xs:LI) (hp0:AGood ⟨t,p,sh⟩ xs) (hl0:xs.length≤9223372036854775807):x_racks_w t p sh xs (λk'=>x_racks_I0 t p sh xs k' (x_racks t p sh xs)) (λi' n1' ls' k'=>x_racks_I1 t p sh xs i' n1' ls' k' (x_racks t p sh xs)) (λr__=>r__=(x_racks t p sh xs)):=by
 unfold x_racks_w
 try unfold x_racks_I0
 try unfold x_racks_I1
 exact ⟨by omega,by omega,rfl⟩
theorem x_racks_step0 (t p sh:Int) (xs:LI) (hp0:AGood ⟨t,p,sh⟩ xs) (hl0:xs.length≤9223372036854775807) (k:Int) {r_:Bool} (hI:x_racks_I0 t p sh xs k r_):x_racks_w0 t p sh xs k (λk'=>x_racks_I0 t p sh xs k' r_∧lx ((9-k').toNat,p.toNat+1,0) ((9-k).toNat,p.toNat+1,0)) (λi' n1' ls' k'=>x_racks_I1 t p sh xs i' n1' ls' k' r_∧lx ((9-k').toNat,(p-i').toNat,0) ((9-k).toNat,p.toNat+1,0)) (λr__=>r__=r_):=by
 unfold x_racks_I0 at hI
 unfold x_racks_w0
 try unfold x_racks_I0
 try unfold x_racks_I1
 obtain ⟨h0,h1,hr⟩:=hI
 have hok:=Cf.ok_iff.1 hp0.ok
 simp only at hok
 refine ⟨λh=>?_, λh=>?_⟩
 ·simp only [decide_eq_true_eq] at h
  have e:(9-k).toNat=(8-k).toNat+1:=by omega
  have ek:(9:Int)-(((8-k).toNat+1:Nat):Int)=k:=by omega
  rw [e] at hr
  simp only [racksF] at hr
  rw [ek] at hr
  have hb:=rack_in hp0 (k:=k) ⟨h0,h⟩
  rintro r1 rfl r2 rfl
  rw [r07_Rack_eq]
  refine ⟨hp0, λ_=>⟨hb, λ_=>⟨λhc=>?_, λhc=>?_⟩⟩⟩
  ·have hc':(listA ⟨t,p,sh⟩ xs (cRack k)).2=false:=by simpa [x_List] using hc
   rw [hc',cond_false] at hr;exact hr
  ·have hc':(listA ⟨t,p,sh⟩ xs (cRack k)).2=true:=by simpa [x_List] using hc
   rw [hc',cond_true] at hr
   refine ⟨⟨h0,h,by omega,by omega,rfl,?_⟩,lxp_⟩
   rw [show (p-0).toNat=p.toNat by omega];exact hr
 ·simp only [decide_eq_false_iff_not] at h
  rw [show (9-k).toNat=0 by omega] at hr
  exact hr
theorem x_racks_step1 (t p sh:Int) (xs:LI) (hp0:AGood ⟨t,p,sh⟩ xs) (hl0:xs.length≤9223372036854775807) (i:Int) (n1:Nat) (ls:LI) (k:Int) {r_:Bool} (hI:x_racks_I1 t p sh xs i n1 ls k r_):x_racks_w1 t p sh xs i n1 ls k (λk'=>x_racks_I0 t p sh xs k' r_∧lx ((9-k').toNat,p.toNat+1,0) ((9-k).toNat,(p-i).toNat,0)) (λi' n1' ls' k'=>x_racks_I1 t p sh xs i' n1' ls' k' r_∧lx ((9-k').toNat,(p-i').toNat,0) ((9-k).toNat,(p-i).toNat,0)) (λr__=>r__=r_):=by
 unfold x_racks_I1 at hI
 unfold x_racks_w1
 try unfold x_racks_I0
 try unfold x_racks_I1
 obtain ⟨h0,h1,h2,h3,h4,hr⟩:=hI
 have hok:=Cf.ok_iff.1 hp0.ok
 simp only at hok
 refine ⟨λh=>?_, λh=>?_⟩
 ·simp only [decide_eq_true_eq] at h
  have hg:0≤i∧i<p:=⟨h2,h⟩
  have e:(p-i).toNat=(p-(i+1)).toNat+1:=by omega
  have ei:(p:Int)-(((p-(i+1)).toNat+1:Nat):Int)=i:=by omega
  rw [e] at hr
  simp only [onceF] at hr
  rw [ei] at hr
  rw [w64 (n:=i+1) (by omega)]
  refine ⟨hp0, λ_=>⟨hg, λ_=>⟨λhc=>?_, λhc=>?_⟩⟩⟩
  ·have hc':racked ⟨t,p,sh⟩ xs i k=true:=hc
   rw [hc',cond_true] at hr
   refine ⟨λhn=>?_, λhn=>?_⟩
   ·have hn':(inA ls i !=1)=true:=hn
    rw [hn',cond_true,cond_false] at hr;exact hr
   ·have hn':(inA ls i !=1)=false:=hn
    rw [hn',cond_false] at hr
    exact ⟨⟨h0,h1,by omega,by omega,h4,hr⟩,lxp_⟩
  ·have hc':racked ⟨t,p,sh⟩ xs i k=false:=hc
   rw [hc',cond_false] at hr
   refine ⟨λhn=>?_, λhn=>?_⟩
   ·have hn':(inA ls i !=0)=true:=hn
    rw [hn',cond_true,cond_false] at hr;exact hr
   ·have hn':(inA ls i !=0)=false:=hn
    rw [hn',cond_false] at hr
    exact ⟨⟨h0,h1,by omega,by omega,h4,hr⟩,lxp_⟩
 ·simp only [decide_eq_false_iff_not] at h
  rw [show (p-i).toNat=0 by omega] at hr
  simp only [onceF,cond_true] at hr
  rw [w64 (n:=k+1) (by omega)]
  refine ⟨⟨by omega,by omega,?_⟩,lxp_⟩
  rw [show (9-(k+1)).toNat=(8-k).toNat by omega];exact hr
theorem x_racks_ok:EOk 152 e_x_racks:=
 ent_wp Dg T_x_bins_ok (I:=[103000000003,103000000001,8549000000006,8549000000004,8549000000003,8549000000001]) Tryz.func152 mix (B:=bodyOf Tryz.f152) (by kernel_rfl) rfl (by kernel_rfl) 400
  λp0 t p sh xs hb hp=>have hl0:xs.length≤9223372036854775807:=hb.1.2.2.2.1;have hp0:AGood ⟨t,p,sh⟩ xs:=hp _ (.head _);⟨[x_racks_h0 p0 t p sh xs,x_racks_h1 p0 t p sh xs], λj=>iE [appC (Hd.kd (x_racks_h0 p0 t p sh xs)) (λk'=>x_racks_I0 t p sh xs k' (x_racks t p sh xs)),appC (Hd.kd (x_racks_h1 p0 t p sh xs)) (λi' n1' ls' k'=>x_racks_I1 t p sh xs i' n1' ls' k' (x_racks t p sh xs))] j (λ_=>False), λj=>iE [appC (Hd.kd (x_racks_h0 p0 t p sh xs)) (λk'=>((9-k').toNat,p.toNat+1,0)),appC (Hd.kd (x_racks_h1 p0 t p sh xs)) (λi' n1' ls' k'=>((9-k').toNat,(p-i').toNat,0))] j (λ_=>(0,0,0)),by kernel_rfl,⟨_, λ_ _ _=>by kernel_rfl,x_racks_begin t p sh xs hp0 hl0⟩,⟨λk hI=>⟨_, λ_ _ _=>by kernel_rfl,x_racks_step0 t p sh xs hp0 hl0 k hI⟩,⟨λi n1 ls k hI=>⟨_, λ_ _ _=>by kernel_rfl,x_racks_step1 t p sh xs hp0 hl0 i n1 ls k hI⟩,trivial⟩⟩⟩
def T_x_racks:Tb:=(152,e_x_racks)::T_x_bins
theorem T_x_racks_ok:TOk T_x_racks:=tc_ x_racks_ok T_x_bins_ok
end
section
open Go.Sl
def x_slots (t p sh:Int) (xs:LI):Bool:=slotsOk ⟨t,p,sh⟩ xs
abbrev c_x_slots:Ct Sg:=⟨none,false,[.agg [.i .i64, .i .i64, .i .i64, .ro [some .u32]]], .b⟩
def e_x_slots:Entry Sg:=entC c_x_slots x_slots (λt p sh xs=>[AGood ⟨t,p,sh⟩ xs])
def x_slots_w (t p sh:Int) (xs:LI) (Q0:Int→Prop) (Q1:Int→Int→Int→Int→Int→Prop) (R_:Bool→Prop):Prop:=(Q0 (0))
def x_slots_w0 (t p sh:Int) (xs:LI) (g:Int) (Q0:Int→Prop) (Q1:Int→Int→Int→Int→Int→Prop) (R_:Bool→Prop):Prop:=(bw_ (decide (g<p)) (aw_ (AGood {t:=t,p:=p,s:=sh} xs) (aw_ (0≤g∧g<p) (Q1 (0) (iF (If.k (aInfo {t:=t,p:=p,s:=sh} xs g),If.l (aInfo {t:=t,p:=p,s:=sh} xs g),If.c (aInfo {t:=t,p:=p,s:=sh} xs g))) (If.l (aInfo {t:=t,p:=p,s:=sh} xs g)) (If.c (aInfo {t:=t,p:=p,s:=sh} xs g)) (g)))) (R_ (true)))
def x_slots_I0 (t p sh:Int) (xs:LI) (g:Int) (r_:Bool):Prop:=0≤g∧g≤p∧slotsF ⟨t,p,sh⟩ xs (p-g).toNat=r_
def x_slots_w1 (t p sh:Int) (xs:LI) (j ik il ic g:Int) (Q0:Int→Prop) (Q1:Int→Int→Int→Int→Int→Prop) (R_:Bool→Prop):Prop:=(bw_ (decide (j<32)) (aw_ (AGood {t:=t,p:=p,s:=sh} xs) (aw_ (0≤g∧g<p) (aw_ (AGood {t:=t,p:=p,s:=sh} xs) (aw_ (0≤g∧g<p) (bw_ (r01_Bit (x_Slots t p sh xs g) j&&!r01_Bit (x_Taken t p sh xs g) j||r01_Bit (x_Taken t p sh xs g) j&&(ik !=3||decide (j≥r05_Slots ic))) (R_ (false)) (Q1 (iA iB (j+1)) (ik) (il) (ic) (g))))))) (aw_ ((ik==3)=true→AGood {t:=t,p:=p,s:=sh} xs) (aw_ ((ik==3)=true→0≤g∧g<p) (bw_ (ik==3&&x_Taken t p sh xs g==0) (R_ (false)) (Q0 (iA iB (g+1)))))))
def x_slots_I1 (t p sh:Int) (xs:LI) (j ik il ic g:Int) (r_:Bool):Prop:=0≤g∧g<p∧0≤j∧j≤32∧ik=(aInfo ⟨t,p,sh⟩ xs g).k∧ic=(aInfo ⟨t,p,sh⟩ xs g).c∧(bif slotsB ⟨t,p,sh⟩ xs g (aInfo ⟨t,p,sh⟩ xs g) (32-j).toNat then (bif (aInfo ⟨t,p,sh⟩ xs g).k==3&&cel xs (Cf.taken ⟨t,p,sh⟩ g)==0 then false else slotsF ⟨t,p,sh⟩ xs (p-(g+1)).toNat) else false)=r_
abbrev x_slots_h0 (p0:Addr) (t p sh:Int) (xs:LI):Hd Sg:=⟨none,[0,1,0,1],[.blk 0, .code [1,1]],[3,1],[.i .i64, .box 102 [.ic .i64 (t), .ic .i64 (p), .ic .i64 (sh), .roc [.ints .u32 (xs)]]]⟩
abbrev x_slots_h1 (p0:Addr) (t p sh:Int) (xs:LI):Hd Sg:=⟨none,[0,1,0,1,0,0,1,0,0,1,0,1],[.blk 2, .code [1,1,0,0,1,0,0,1,0,1], .blk 1, .code [1,1,0,0,1,0,1], .again [0,1,0,1], .blk 0, .code [1,1]],[5,4,3,1],[.i .i64, .box 105 [.i .i64, .i .i64, .i .i64], .i .i64, .box 102 [.ic .i64 (t), .ic .i64 (p), .ic .i64 (sh), .roc [.ints .u32 (xs)]]]⟩
theorem x_slots_begin (t p sh:Int) (xs:LI) (hp0:AGood ⟨t,p,sh⟩ xs) (hl0:xs.length≤9223372036854775807):x_slots_w t p sh xs (λg'=>x_slots_I0 t p sh xs g' (x_slots t p sh xs)) (λj' ik' il' ic' g'=>x_slots_I1 t p sh xs j' ik' il' ic' g' (x_slots t p sh xs)) (λr__=>r__=(x_slots t p sh xs)):=by
 unfold x_slots_w
 try unfold x_slots_I0
 try unfold x_slots_I1
 have hok:=Cf.ok_iff.1 hp0.ok
 simp only at hok
 refine ⟨by omega,by omega,?_⟩
 show _=slotsOk ⟨t,p,sh⟩ xs
 unfold slotsOk
 rw [show (p-0).toNat=p.toNat by omega]
theorem x_slots_step0 (t p sh:Int) (xs:LI) (hp0:AGood ⟨t,p,sh⟩ xs) (hl0:xs.length≤9223372036854775807) (g:Int) {r_:Bool} (hI:x_slots_I0 t p sh xs g r_):x_slots_w0 t p sh xs g (λg'=>x_slots_I0 t p sh xs g' r_∧lx ((p-g').toNat,33,0) ((p-g).toNat,33,0)) (λj' ik' il' ic' g'=>x_slots_I1 t p sh xs j' ik' il' ic' g' r_∧lx ((p-g').toNat,(32-j').toNat,0) ((p-g).toNat,33,0)) (λr__=>r__=r_):=by
 unfold x_slots_I0 at hI
 unfold x_slots_w0
 try unfold x_slots_I0
 try unfold x_slots_I1
 obtain ⟨h0,h1,hr⟩:=hI
 refine ⟨λh=>?_, λh=>?_⟩
 ·simp only [decide_eq_true_eq] at h
  have e:(p-g).toNat=(p-(g+1)).toNat+1:=by omega
  have ei:(p:Int)-(((p-(g+1)).toNat+1:Nat):Int)=g:=by omega
  rw [e] at hr
  simp only [slotsF] at hr
  rw [ei] at hr
  exact ⟨hp0, λ_=>⟨⟨h0,h⟩, λ_=>⟨⟨h0,h,by omega,by omega,rfl,rfl,hr⟩,lxp_⟩⟩⟩
 ·simp only [decide_eq_false_iff_not] at h
  rw [show (p-g).toNat=0 by omega] at hr
  exact hr
theorem x_slots_step1 (t p sh:Int) (xs:LI) (hp0:AGood ⟨t,p,sh⟩ xs) (hl0:xs.length≤9223372036854775807) (j ik il ic g:Int) {r_:Bool} (hI:x_slots_I1 t p sh xs j ik il ic g r_):x_slots_w1 t p sh xs j ik il ic g (λg'=>x_slots_I0 t p sh xs g' r_∧lx ((p-g').toNat,33,0) ((p-g).toNat,(32-j).toNat,0)) (λj' ik' il' ic' g'=>x_slots_I1 t p sh xs j' ik' il' ic' g' r_∧lx ((p-g').toNat,(32-j').toNat,0) ((p-g).toNat,(32-j).toNat,0)) (λr__=>r__=r_):=by
 unfold x_slots_I1 at hI
 unfold x_slots_w1
 try unfold x_slots_I0
 try unfold x_slots_I1
 obtain ⟨h0,h1,h2,h3,rfl,rfl,hr⟩:=hI
 have hok:=Cf.ok_iff.1 hp0.ok
 simp only at hok
 have hbs:=cel_bd hp0 (Cf.slots ⟨t,p,sh⟩ g)
 have hbt:=cel_bd hp0 (Cf.taken ⟨t,p,sh⟩ g)
 have hg:0≤g∧g<p:=⟨h0,h1⟩
 refine ⟨λh=>?_, λh=>?_⟩
 ·simp only [decide_eq_true_eq] at h
  have e:(32-j).toNat=(32-(j+1)).toNat+1:=by omega
  have ej:(32:Int)-(((32-(j+1)).toNat+1:Nat):Int)=j:=by omega
  rw [e] at hr
  simp only [slotsB] at hr
  rw [ej] at hr
  have hb1:r01_Bit (x_Slots t p sh xs g) j=bitAt (cel xs (Cf.slots ⟨t,p,sh⟩ g)) j:=bit_eq hbs j
  have hb2:r01_Bit (x_Taken t p sh xs g) j=bitAt (cel xs (Cf.taken ⟨t,p,sh⟩ g)) j:=bit_eq hbt j
  rw [w64 (n:=j+1) (by omega),hb1,hb2,r05_Slots_eq]
  refine ⟨hp0, λ_=>⟨hg, λ_=>⟨hp0, λ_=>⟨hg, λ_=>⟨λhc=>?_, λhc=>?_⟩⟩⟩⟩⟩
  ·rw [hc,cond_true,cond_false] at hr;exact hr
  ·rw [hc,cond_false] at hr
   exact ⟨⟨h0,h1,by omega,by omega,rfl,rfl,hr⟩,lxp_⟩
 ·simp only [decide_eq_false_iff_not] at h
  rw [show (32-j).toNat=0 by omega] at hr
  simp only [slotsB,cond_true] at hr
  rw [w64 (n:=g+1) (by omega)]
  refine ⟨λ_=>hp0, λ_=>⟨λ_=>hg, λ_=>⟨λhc=>?_, λhc=>?_⟩⟩⟩
  ·have hc':((aInfo ⟨t,p,sh⟩ xs g).k==3&&cel xs (Cf.taken ⟨t,p,sh⟩ g)==0)=true:=hc
   rw [hc',cond_true] at hr;exact hr
  ·have hc':((aInfo ⟨t,p,sh⟩ xs g).k==3&&cel xs (Cf.taken ⟨t,p,sh⟩ g)==0)=false:=hc
   rw [hc',cond_false] at hr
   exact ⟨⟨by omega,by omega,hr⟩,lxp_⟩
theorem x_slots_ok:EOk 150 e_x_slots:=
 ent_wp Dg T_x_racks_ok (I:=[103000000003,103000000001,5703000000005,5703000000004,5703000000003,5703000000001]) Tryz.func150 mix (B:=bodyOf Tryz.f150) (by kernel_rfl) rfl (by kernel_rfl) 400
  λp0 t p sh xs hb hp=>have hl0:xs.length≤9223372036854775807:=hb.1.2.2.2.1;have hp0:AGood ⟨t,p,sh⟩ xs:=hp _ (.head _);⟨[x_slots_h0 p0 t p sh xs,x_slots_h1 p0 t p sh xs], λj=>iE [appC (Hd.kd (x_slots_h0 p0 t p sh xs)) (λg'=>x_slots_I0 t p sh xs g' (x_slots t p sh xs)),appC (Hd.kd (x_slots_h1 p0 t p sh xs)) (λj' ik' il' ic' g'=>x_slots_I1 t p sh xs j' ik' il' ic' g' (x_slots t p sh xs))] j (λ_=>False), λj=>iE [appC (Hd.kd (x_slots_h0 p0 t p sh xs)) (λg'=>((p-g').toNat,33,0)),appC (Hd.kd (x_slots_h1 p0 t p sh xs)) (λj' ik' il' ic' g'=>((p-g').toNat,(32-j').toNat,0))] j (λ_=>(0,0,0)),by kernel_rfl,⟨_, λ_ _ _=>by kernel_rfl,x_slots_begin t p sh xs hp0 hl0⟩,⟨λg hI=>⟨_, λ_ _ _=>by kernel_rfl,x_slots_step0 t p sh xs hp0 hl0 g hI⟩,⟨λj ik il ic g hI=>⟨_, λ_ _ _=>by kernel_rfl,x_slots_step1 t p sh xs hp0 hl0 j ik il ic g hI⟩,trivial⟩⟩⟩
def T_x_slots:Tb:=(150,e_x_slots)::T_x_racks
theorem T_x_slots_ok:TOk T_x_slots:=tc_ x_slots_ok T_x_racks_ok
end
section
open Go.Sl
def r12_Has (ls zs:LI) (g:Int):Bool:=ls.contains g
abbrev c_r12_Has:Ct Sg:=⟨none,false,[.ro [some .i64,some .i64], .i .i64], .b⟩
def e_r12_Has:Entry Sg:=entC c_r12_Has r12_Has (λ_ _ _=>[])
def r12_Has_w (ls zs:LI) (g:Int) (Q0:Int→Prop) (R_:Bool→Prop):Prop:=(Q0 (0))
def r12_Has_w0 (ls zs:LI) (g i:Int) (Q0:Int→Prop) (R_:Bool→Prop):Prop:=(bw_ (decide (i<(↑(iC ls):Int))) (aw_ (0≤i∧i<(↑(iC ls):Int)) (bw_ (iE ls (iJ i) 0==g) (R_ (true)) (Q0 (iA iB (i+1))))) (R_ (false)))
def r12_Has_I0 (ls zs:LI) (g i:Int) (r_:Bool):Prop:=0≤i∧i≤ls.length∧(ls.take i.toNat).contains g=false∧ls.length≤9223372036854775807∧r_=ls.contains g
abbrev r12_Has_h0 (p0:Addr) (ls zs:LI) (g:Int):Hd Sg:=⟨none,[0,1,0,1],[.blk 0, .code [1,1]],[5,0,1],[.i .i64, .roc [.ints .i64 (ls), .ints .i64 (zs)], .ic .i64 (g)]⟩
theorem r12_Has_begin (ls zs:LI) (g:Int) (hl0:ls.length≤9223372036854775807):r12_Has_w ls zs g (λi'=>r12_Has_I0 ls zs g i' (r12_Has ls zs g)) (λr__=>r__=(r12_Has ls zs g)):=by
 unfold r12_Has_w
 try unfold r12_Has_I0
 exact ⟨by omega,by omega,by simp,hl0,rfl⟩
theorem r12_Has_step0 (ls zs:LI) (g:Int) (hl0:ls.length≤9223372036854775807) (i:Int) {r_:Bool} (hI:r12_Has_I0 ls zs g i r_):r12_Has_w0 ls zs g i (λi'=>r12_Has_I0 ls zs g i' r_∧lx ((ls.length-i').toNat,0,0) ((ls.length-i).toNat,0,0)) (λr__=>r__=r_):=by
 unfold r12_Has_I0 at hI
 unfold r12_Has_w0
 try unfold r12_Has_I0
 obtain ⟨h0,h1,h2,h3,hr⟩:=hI
 refine ⟨λh=>?_, λh=>?_⟩
 ·simp only [decide_eq_true_eq] at h
  have hlt:i.toNat<ls.length:=by omega
  have ht:ls.take (i+1).toNat=ls.take i.toNat++[ls.getD i.toNat 0]:=by
   rw [show (i+1).toNat=i.toNat+1 by omega,List.take_add_one,iI,iR hlt];rfl
  rw [w64 (n:=i+1) (by omega)]
  refine ⟨⟨h0,h⟩, λ_=>⟨λhc=>?_, λhc=>?_⟩⟩
  ·have hm:=getD_memA hlt
   simp only [beq_iff_eq] at hc
   rw [hc] at hm
   show true=r_
   rw [hr]
   simpa using hm
  ·refine ⟨⟨by omega,by omega,?_,h3,hr⟩,lxo_⟩
   rw [ht]
   generalize ls.getD i.toNat 0=q at hc
   simp only [beq_eq_false_iff_ne] at hc
   simp only [List.contains_eq_mem,jX,decide_eq_false_iff_not] at h2 ⊢
   intro hh
   rcases hh with hh|hh
   ·exact h2 hh
   ·exact hc (List.mem_singleton.1 hh).symm
 ·simp only [decide_eq_false_iff_not] at h
  rw [List.take_of_length_le (by omega)] at h2
  show false=r_
  rw [hr,h2]
theorem r12_Has_ok:EOk 181 e_r12_Has:=
 ent_wp Dg T_x_slots_ok (I:=[103000000005,103000000000,103000000001]) Tryz.func181 mix (B:=bodyOf Tryz.f181) (by kernel_rfl) rfl (by kernel_rfl) 400
  λp0 ls zs g hb hp=>have hl0:ls.length≤9223372036854775807:=hb.1;⟨[r12_Has_h0 p0 ls zs g], λj=>iE [appC (Hd.kd (r12_Has_h0 p0 ls zs g)) (λi'=>r12_Has_I0 ls zs g i' (r12_Has ls zs g))] j (λ_=>False), λj=>iE [appC (Hd.kd (r12_Has_h0 p0 ls zs g)) (λi'=>((ls.length-i').toNat,0,0))] j (λ_=>(0,0,0)),by kernel_rfl,⟨_, λ_ _ _=>by kernel_rfl,r12_Has_begin ls zs g hl0⟩,⟨λi hI=>⟨_, λ_ _ _=>by kernel_rfl,r12_Has_step0 ls zs g hl0 i hI⟩,trivial⟩⟩
def T_r12_Has:Tb:=(181,e_r12_Has)::T_x_slots
theorem T_r12_Has_ok:TOk T_r12_Has:=tc_ r12_Has_ok T_x_slots_ok
def r04_Page (t p sh:Int):Int:=bif r04_Right t p sh then 2^sh.toNat else 0
abbrev c_r04_Page:Ct Sg:=⟨none,false,[.agg [.i .i64, .i .i64, .i .i64]], .i .i64⟩
def e_r04_Page:Entry Sg:=entC c_r04_Page r04_Page (λ_ _ _=>[])
def r04_Page_w (t p sh:Int) (Q0:Int→Int→Prop) (R_:Int→Prop):Prop:=(bw_ (!r04_Right t p sh) (R_ (0)) (Q0 (0) (1)))
def r04_Page_w0 (t p sh i m:Int) (Q0:Int→Int→Prop) (R_:Int→Prop):Prop:=(bw_ (decide (i<sh)) (Q0 (iA iB (i+1)) (iA iB (m*2))) (R_ (m)))
def r04_Page_I0 (t p sh i m r_:Int):Prop:=0≤i∧i≤sh∧sh≤20∧m=2^i.toNat∧r_=2^sh.toNat
abbrev r04_Page_h0 (p0:Addr) (t p sh:Int):Hd Sg:=⟨none,[0,1,0,1,1,1],[.blk 0, .code [1,1,1,1]],[4,3,1],[.i .i64, .i .i64, .box 23 [.ic .i64 (t), .ic .i64 (p), .ic .i64 (sh)]]⟩
theorem r04_Page_begin (t p sh:Int):r04_Page_w t p sh (λi' m'=>r04_Page_I0 t p sh i' m' (r04_Page t p sh)) (λr__=>r__=(r04_Page t p sh)):=by
 unfold r04_Page_w
 try unfold r04_Page_I0
 refine ⟨λhc=>?_, λhc=>?_⟩
 ·have e:r04_Right t p sh=false:=by simpa using hc
  show (0:Int)=r04_Page t p sh
  unfold r04_Page
  rw [e];rfl
 ·have e:r04_Right t p sh=true:=by simpa using hc
  have e':=e
  simp only [r04_Right,iK,decide_eq_true_eq] at e'
  refine ⟨by omega,by omega,by omega,rfl,?_⟩
  unfold r04_Page
  rw [e];rfl
theorem r04_Page_step0 (t p sh i m:Int) {r_:Int} (hI:r04_Page_I0 t p sh i m r_):r04_Page_w0 t p sh i m (λi' m'=>r04_Page_I0 t p sh i' m' r_∧lx ((sh-i').toNat,0,0) ((sh-i).toNat,0,0)) (λr__=>r__=r_):=by
 unfold r04_Page_I0 at hI
 unfold r04_Page_w0
 try unfold r04_Page_I0
 obtain ⟨h0,h1,h2,h3,hr⟩:=hI
 refine ⟨λh=>?_, λh=>?_⟩
 ·simp only [decide_eq_true_eq] at h
  have e:(2:Int)^(i+1).toNat=2^i.toNat*2:=by rw [show (i+1).toNat=i.toNat+1 by omega,Int.pow_succ]
  have hb:(2:Int)^i.toNat≤1048576:=by
   have h4:(2:Nat)^i.toNat≤2^20:=Nat.pow_le_pow_right (by omega) (by omega)
   have h5:((2^i.toNat:Nat):Int)≤((2^20:Nat):Int):=by exact_mod_cast h4
   simpa using h5
  have hb0:(0:Int)<2^i.toNat:=Int.pow_pos (by omega)
  rw [w64 (n:=i+1) (by omega),w64 (by omega)]
  exact ⟨⟨by omega,by omega,h2,by rw [e,h3],hr⟩,lxo_⟩
 ·simp only [decide_eq_false_iff_not] at h
  have e:i=sh:=by omega
  subst e
  rw [hr];exact h3
theorem r04_Page_ok:EOk 112 e_r04_Page:=
 ent_wp Dg T_r12_Has_ok (I:=[1643000000004,1643000000003,1643000000001]) Tryz.func112 mix (B:=bodyOf Tryz.f112) (by kernel_rfl) rfl (by kernel_rfl) 400
  λp0 t p sh hb hp=>⟨[r04_Page_h0 p0 t p sh], λj=>iE [appC (Hd.kd (r04_Page_h0 p0 t p sh)) (λi' m'=>r04_Page_I0 t p sh i' m' (r04_Page t p sh))] j (λ_=>False), λj=>iE [appC (Hd.kd (r04_Page_h0 p0 t p sh)) (λi' m'=>((sh-i').toNat,0,0))] j (λ_=>(0,0,0)),by kernel_rfl,⟨_, λ_ _ _=>by kernel_rfl,r04_Page_begin t p sh⟩,⟨λi m hI=>⟨_, λ_ _ _=>by kernel_rfl,r04_Page_step0 t p sh i m hI⟩,trivial⟩⟩
def T_r04_Page:Tb:=(112,e_r04_Page)::T_r12_Has
theorem T_r04_Page_ok:TOk T_r04_Page:=tc_ r04_Page_ok T_r12_Has_ok
def r05_Size (sh k:Int):Int:=(bif r05_Slots k==0||r04_Page 1 4 sh==0 then 0 else iA iB (iA iB (Int.tdiv (r04_Page 1 4 sh) (r05_Slots k))-Int.tmod (iA iB (Int.tdiv (r04_Page 1 4 sh) (r05_Slots k))) 16))
abbrev c_r05_Size:Ct Sg:=⟨none,false,[.i .i64, .i .i64], .i .i64⟩
def e_r05_Size:Entry Sg:=entC c_r05_Size r05_Size (λ_ _=>[])
theorem r05_Size_ok:EOk 66 e_r05_Size:=
 ent_ok Dg T_r04_Page_ok (I:=[]) Tryz.func66 mix (B:=bodyOf Tryz.f66) (by kernel_rfl) rfl (by kernel_rfl) 400
  λ_ sh k hb hp=>⟨(r05_Size sh k),(.br (r05_Slots k==0||r04_Page 1 4 sh==0) .t (.need (r05_Slots k≠0) .t)), λ_ _ _=>by kernel_rfl,⟨λz0=>trivial, λz0=>⟨(by first|omega|(simp_all;done)), λz1=>trivial⟩⟩,rfl⟩
def T_r05_Size:Tb:=(66,e_r05_Size)::T_r04_Page
theorem T_r05_Size_ok:TOk T_r05_Size:=tc_ r05_Size_ok T_r04_Page_ok
def r06_Of (t p sh g o:Int):Int×Bool:=(bif !r04_Right t p sh||decide (g<0)||decide (g≥p)||decide (o<0)||decide (o≥r04_Page t p sh) then (0,false) else (iA iB (iA iB (iA iB (g+1)*r04_Page t p sh)+o),true))
abbrev c_r06_Of:Ct Sg:=⟨none,false,[.agg [.i .i64, .i .i64, .i .i64], .i .i64, .i .i64], .tup [.i .i64, .b]⟩
def e_r06_Of:Entry Sg:=entC c_r06_Of r06_Of (λ_ _ _ _ _=>[])
theorem r06_Of_ok:EOk 90 e_r06_Of:=
 ent_ok Dg T_r05_Size_ok (I:=[]) Tryz.func90 mix (B:=bodyOf Tryz.f90) (by kernel_rfl) rfl (by kernel_rfl) 400
  λ_ t p sh g o hb hp=>⟨(r06_Of t p sh g o), .t, λ_ _ _=>by kernel_rfl,trivial,rfl⟩
def T_r06_Of:Tb:=(90,e_r06_Of)::T_r05_Size
theorem T_r06_Of_ok:TOk T_r06_Of:=tc_ r06_Of_ok T_r05_Size_ok
def r06_At (t p sh k g j:Int):Int×Bool:=(bif decide (j<0)||decide (j≥r05_Slots k) then (0,false) else (iF (r06_Of t p sh g (iA iB (j*r05_Size sh k))),iH (r06_Of t p sh g (iA iB (j*r05_Size sh k)))))
abbrev c_r06_At:Ct Sg:=⟨none,false,[.agg [.i .i64, .i .i64, .i .i64], .i .i64, .i .i64, .i .i64], .tup [.i .i64, .b]⟩
def e_r06_At:Entry Sg:=entC c_r06_At r06_At (λ_ _ _ _ _ _=>[])
theorem r06_At_ok:EOk 40 e_r06_At:=
 ent_ok Dg T_r06_Of_ok (I:=[]) Tryz.func40 mix (B:=bodyOf Tryz.f40) (by kernel_rfl) rfl (by kernel_rfl) 400
  λ_ t p sh k g j hb hp=>⟨(r06_At t p sh k g j), .t, λ_ _ _=>by kernel_rfl,trivial,rfl⟩
def T_r06_At:Tb:=(40,e_r06_At)::T_r06_Of
theorem T_r06_At_ok:TOk T_r06_At:=tc_ r06_At_ok T_r06_Of_ok
end
section
open Go.Sl
def x_feet (t p sh:Int) (xs:LI):Bool:=feet ⟨t,p,sh⟩ xs
abbrev c_x_feet:Ct Sg:=⟨none,false,[.agg [.i .i64, .i .i64, .i .i64, .ro [some .u32]]], .b⟩
def e_x_feet:Entry Sg:=entC c_x_feet x_feet (λt p sh xs=>[AGood ⟨t,p,sh⟩ xs,(starts ⟨t,p,sh⟩ xs).2=true])
def x_feet_w (t p sh:Int) (xs:LI) (Q0:Int→Int→Nat→LI→Prop) (R_:Bool→Prop):Prop:=(∀r1:LI×Bool,r1=(x_starts t p sh xs)→(aw_ (AGood {t:=t,p:=p,s:=sh} xs) (Q0 (0) (0) (iC r1.1) r1.1)))
def x_feet_w0 (t p sh:Int) (xs:LI) (i n:Int) (n1:Nat) (ls:LI) (Q0:Int→Int→Nat→LI→Prop) (R_:Bool→Prop):Prop:=(bw_ (decide (i<p)) (aw_ (decide (iA iB (n+1)<(↑n1:Int))=true→0≤iA iB (n+1)∧iA iB (n+1)<(↑n1:Int)) (bw_ (decide (iA iB (n+1)<(↑n1:Int))&&iE ls (iJ (iA iB (n+1))) 0==i) (aw_ (0≤iA iB (n+1)∧iA iB (n+1)<(↑n1:Int)) (aw_ (0≤iA iB (n+1)∧iA iB (n+1)<(↑n1:Int)) (aw_ (AGood {t:=t,p:=p,s:=sh} xs) (aw_ (0≤iE ls (iJ (iA iB (n+1))) 0∧iE ls (iJ (iA iB (n+1))) 0<p) (bw_ (i==iA iB (iA iB (iE ls (iJ (iA iB (n+1))) 0+iF (If.l (aInfo {t:=t,p:=p,s:=sh} xs (iE ls (iJ (iA iB (n+1))) 0)),If.c (aInfo {t:=t,p:=p,s:=sh} xs (iE ls (iJ (iA iB (n+1))) 0))))-1)) (aw_ (0≤iA iB (n+1)∧iA iB (n+1)<(↑n1:Int)) (aw_ (0≤r07_Foot t p sh i∧r07_Foot t p sh i<(↑(iC xs):Int)) (bw_ (iE xs (iJ (r07_Foot t p sh i)) 0 !=iA iO (iA iB (iE ls (iJ (iA iB (n+1))) (0:Int)+1))) (R_ (false)) (Q0 (iA iB (i+1)) (iA iB (n+1)) (n1) (ls))))) (aw_ (0≤r07_Foot t p sh i∧r07_Foot t p sh i<(↑(iC xs):Int)) (bw_ (iE xs (iJ (r07_Foot t p sh i)) (0:Int) !=0) (R_ (false)) (Q0 (iA iB (i+1)) (iA iB (n+1)) (n1) (ls))))))))) (aw_ (0≤n∧n<(↑n1:Int)) (aw_ (0≤n∧n<(↑n1:Int)) (aw_ (AGood {t:=t,p:=p,s:=sh} xs) (aw_ (0≤iE ls (iJ n) 0∧iE ls (iJ n) 0<p) (bw_ (i==iA iB (iA iB (iE ls (iJ n) 0+iF (If.l (aInfo {t:=t,p:=p,s:=sh} xs (iE ls (iJ n) 0)),If.c (aInfo {t:=t,p:=p,s:=sh} xs (iE ls (iJ n) 0))))-1)) (aw_ (0≤n∧n<(↑n1:Int)) (aw_ (0≤r07_Foot t p sh i∧r07_Foot t p sh i<(↑(iC xs):Int)) (bw_ (iE xs (iJ (r07_Foot t p sh i)) 0 !=iA iO (iA iB (iE ls (iJ n) (0:Int)+1))) (R_ (false)) (Q0 (iA iB (i+1)) (n) (n1) (ls))))) (aw_ (0≤r07_Foot t p sh i∧r07_Foot t p sh i<(↑(iC xs):Int)) (bw_ (iE xs (iJ (r07_Foot t p sh i)) (0:Int) !=0) (R_ (false)) (Q0 (iA iB (i+1)) (n) (n1) (ls))))))))))) (R_ (true)))
def x_feet_I0 (t p sh:Int) (xs:LI) (i n:Int) (n1:Nat) (ls:LI) (r_:Bool):Prop:=0≤i∧i≤p∧0≤n∧n<ls.length∧n1=ls.length∧ls=(starts ⟨t,p,sh⟩ xs).1∧feetF ⟨t,p,sh⟩ xs ls (p-i).toNat n.toNat=r_
abbrev x_feet_h0 (p0:Addr) (t p sh:Int) (xs:LI):Hd Sg:=⟨none,[0,1,0,1,1,1],[.blk 0, .code [1,1,1,1]],[6,5,3,1],[.i .i64, .i .i64, .own 3 [some .i64], .box 102 [.ic .i64 (t), .ic .i64 (p), .ic .i64 (sh), .roc [.ints .u32 (xs)]]]⟩
theorem x_feet_begin (t p sh:Int) (xs:LI) (hp0:AGood ⟨t,p,sh⟩ xs) (hp1:(starts ⟨t,p,sh⟩ xs).2=true) (hl0:xs.length≤9223372036854775807):x_feet_w t p sh xs (λi' n' n1' ls'=>x_feet_I0 t p sh xs i' n' n1' ls' (x_feet t p sh xs)) (λr__=>r__=(x_feet t p sh xs)):=by
 unfold x_feet_w
 try unfold x_feet_I0
 have hok:=Cf.ok_iff.1 hp0.ok
 simp only at hok
 have hne:=starts_ne (c:=⟨t,p,sh⟩) (xs:=xs) (by show 1≤p;omega) hp1
 rintro r1 rfl
 refine ⟨hp0, λ_=>⟨by omega,by omega,by omega,?_,rfl,rfl,?_⟩⟩
 ·show (0:Int)<((starts ⟨t,p,sh⟩ xs).1.length:Int)
  omega
 ·show feetF ⟨t,p,sh⟩ xs (starts ⟨t,p,sh⟩ xs).1 (p-0).toNat (iJ 0)=feet ⟨t,p,sh⟩ xs
  unfold feet
  rw [show (p-0).toNat=p.toNat by omega]
  rfl
theorem x_feet_step0 (t p sh:Int) (xs:LI) (hp0:AGood ⟨t,p,sh⟩ xs) (hp1:(starts ⟨t,p,sh⟩ xs).2=true) (hl0:xs.length≤9223372036854775807) (i n:Int) (n1:Nat) (ls:LI) {r_:Bool} (hI:x_feet_I0 t p sh xs i n n1 ls r_):x_feet_w0 t p sh xs i n n1 ls (λi' n' n1' ls'=>x_feet_I0 t p sh xs i' n' n1' ls' r_∧lx ((p-i').toNat,0,0) ((p-i).toNat,0,0)) (λr__=>r__=r_):=by
 unfold x_feet_I0 at hI
 unfold x_feet_w0
 try unfold x_feet_I0
 obtain ⟨h0,h1,h2,h3,h4,h5,hr⟩:=hI
 have hok:=Cf.ok_iff.1 hp0.ok
 simp only at hok
 have hlen:(ls.length:Int)≤p+1:=by
  have:=starts_len (c:=⟨t,p,sh⟩) (xs:=xs)
  rw [←h5] at this
  simp only at this
  omega
 refine ⟨λh=>?_, λh=>?_⟩
 ·simp only [decide_eq_true_eq] at h
  have hft:=pc_in hp0 (g:=i) (k:=1) ⟨h0,h⟩ (by omega)
  have e:(p-i).toNat=(p-(i+1)).toNat+1:=by omega
  have ei:(p:Int)-(((p-(i+1)).toNat+1:Nat):Int)=i:=by omega
  rw [e] at hr
  simp only [feetF] at hr
  rw [ei] at hr
  have hmem:∀q:Nat,q<ls.length→0≤ls.getD q 0∧ls.getD q 0<p:= λq hq=>starts_in (c:=⟨t,p,sh⟩) (xs:=xs) _ (by rw [←h5];exact getD_memA hq)
  have hw:∀x:Int,0≤x→x<p→IntKind.i64.wrap (IntKind.i64.wrap (x+(aInfo ⟨t,p,sh⟩ xs x).l)-1)=x+(aInfo ⟨t,p,sh⟩ xs x).l-1:= λx a b=>by
   have h7:=iGet_bd (cel xs (Cf.info ⟨t,p,sh⟩ x))
   have h8:0≤(aInfo ⟨t,p,sh⟩ xs x).l∧(aInfo ⟨t,p,sh⟩ xs x).l≤1024:=⟨h7.2.2.1,h7.2.2.2.1⟩
   rw [w64 (n:=x+(aInfo ⟨t,p,sh⟩ xs x).l) (by omega),w64 (by omega)]
  have hv:∀x:Int,0≤x→x<p→IntKind.u32.wrap (IntKind.i64.wrap (x+1))=nv (x+1):= λx a b=>by rw [w64 (n:=x+1) (by omega),wrapu_nv]
  have hn1:decide (n+1<(n1:Int))=decide (n.toNat+1<ls.length):=by rw [h4];apply decide_eq_decide.2;omega
  have en:(n+1).toNat=n.toNat+1:=by omega
  rw [w64 (n:=n+1) (by omega),w64 (n:=i+1) (by omega),r07_Foot_eq,hn1,en]
  refine ⟨λhh=>(by simp only [decide_eq_true_eq] at hh;omega), λ_=>⟨λhc=>?_, λhc=>?_⟩⟩
  ·rw [hc,cond_true] at hr
   have hlt:n.toNat+1<ls.length:=by simp only [iK,decide_eq_true_eq] at hc;exact hc.1
   have hq:0≤n+1∧n+1<(n1:Int):=by omega
   have hm:=hmem (n.toNat+1) hlt
   refine ⟨hq, λ_=>⟨hq, λ_=>⟨hp0, λ_=>⟨hm, λ_=>⟨λhcc=>⟨hq, λ_=>⟨hft, λ_=>⟨λhz=>?_, λhz=>?_⟩⟩⟩, λhcc=>⟨hft, λ_=>⟨λhz=>?_, λhz=>?_⟩⟩⟩⟩⟩⟩⟩
   ·have hcc':(i==ls.getD (n.toNat+1) 0+(aInfo ⟨t,p,sh⟩ xs (ls.getD (n.toNat+1) 0)).l-1)=true:=by rw [←hw _ hm.1 hm.2];exact hcc
    have hz':(cel xs (Cf.foot ⟨t,p,sh⟩ i) !=nv (ls.getD (n.toNat+1) 0+1))=true:=by rw [←hv _ hm.1 hm.2];exact hz
    rw [hcc',cond_true,hz',cond_true] at hr;exact hr
   ·have hcc':(i==ls.getD (n.toNat+1) 0+(aInfo ⟨t,p,sh⟩ xs (ls.getD (n.toNat+1) 0)).l-1)=true:=by rw [←hw _ hm.1 hm.2];exact hcc
    have hz':(cel xs (Cf.foot ⟨t,p,sh⟩ i) !=nv (ls.getD (n.toNat+1) 0+1))=false:=by rw [←hv _ hm.1 hm.2];exact hz
    rw [hcc',cond_true,hz',cond_false] at hr
    exact ⟨⟨by omega,by omega,by omega,by omega,h4,h5,by rw [en];exact hr⟩,lxo_⟩
   ·have hcc':(i==ls.getD (n.toNat+1) 0+(aInfo ⟨t,p,sh⟩ xs (ls.getD (n.toNat+1) 0)).l-1)=false:=by rw [←hw _ hm.1 hm.2];exact hcc
    have hz':(cel xs (Cf.foot ⟨t,p,sh⟩ i) !=0)=true:=hz
    rw [hcc',cond_false,hz',cond_true] at hr;exact hr
   ·have hcc':(i==ls.getD (n.toNat+1) 0+(aInfo ⟨t,p,sh⟩ xs (ls.getD (n.toNat+1) 0)).l-1)=false:=by rw [←hw _ hm.1 hm.2];exact hcc
    have hz':(cel xs (Cf.foot ⟨t,p,sh⟩ i) !=0)=false:=hz
    rw [hcc',cond_false,hz',cond_false] at hr
    exact ⟨⟨by omega,by omega,by omega,by omega,h4,h5,by rw [en];exact hr⟩,lxo_⟩
  ·rw [hc,cond_false] at hr
   have hlt:n.toNat<ls.length:=by omega
   have hq:0≤n∧n<(n1:Int):=by omega
   have hm:=hmem (n.toNat) hlt
   refine ⟨hq, λ_=>⟨hq, λ_=>⟨hp0, λ_=>⟨hm, λ_=>⟨λhcc=>⟨hq, λ_=>⟨hft, λ_=>⟨λhz=>?_, λhz=>?_⟩⟩⟩, λhcc=>⟨hft, λ_=>⟨λhz=>?_, λhz=>?_⟩⟩⟩⟩⟩⟩⟩
   ·have hcc':(i==ls.getD (n.toNat) 0+(aInfo ⟨t,p,sh⟩ xs (ls.getD (n.toNat) 0)).l-1)=true:=by rw [←hw _ hm.1 hm.2];exact hcc
    have hz':(cel xs (Cf.foot ⟨t,p,sh⟩ i) !=nv (ls.getD (n.toNat) 0+1))=true:=by rw [←hv _ hm.1 hm.2];exact hz
    rw [hcc',cond_true,hz',cond_true] at hr;exact hr
   ·have hcc':(i==ls.getD (n.toNat) 0+(aInfo ⟨t,p,sh⟩ xs (ls.getD (n.toNat) 0)).l-1)=true:=by rw [←hw _ hm.1 hm.2];exact hcc
    have hz':(cel xs (Cf.foot ⟨t,p,sh⟩ i) !=nv (ls.getD (n.toNat) 0+1))=false:=by rw [←hv _ hm.1 hm.2];exact hz
    rw [hcc',cond_true,hz',cond_false] at hr
    exact ⟨⟨by omega,by omega,by omega,by omega,h4,h5,hr⟩,lxo_⟩
   ·have hcc':(i==ls.getD (n.toNat) 0+(aInfo ⟨t,p,sh⟩ xs (ls.getD (n.toNat) 0)).l-1)=false:=by rw [←hw _ hm.1 hm.2];exact hcc
    have hz':(cel xs (Cf.foot ⟨t,p,sh⟩ i) !=0)=true:=hz
    rw [hcc',cond_false,hz',cond_true] at hr;exact hr
   ·have hcc':(i==ls.getD (n.toNat) 0+(aInfo ⟨t,p,sh⟩ xs (ls.getD (n.toNat) 0)).l-1)=false:=by rw [←hw _ hm.1 hm.2];exact hcc
    have hz':(cel xs (Cf.foot ⟨t,p,sh⟩ i) !=0)=false:=hz
    rw [hcc',cond_false,hz',cond_false] at hr
    exact ⟨⟨by omega,by omega,by omega,by omega,h4,h5,hr⟩,lxo_⟩
 ·simp only [decide_eq_false_iff_not] at h
  rw [show (p-i).toNat=0 by omega] at hr
  exact hr
theorem x_feet_ok:EOk 148 e_x_feet:=
 ent_wp Dg T_r06_At_ok (I:=[1643000000006,1643000000005,1643000000003,1643000000001]) Tryz.func148 mix (B:=bodyOf Tryz.f148) (by kernel_rfl) rfl (by kernel_rfl) 400
  λp0 t p sh xs hb hp=>have hl0:xs.length≤9223372036854775807:=hb.1.2.2.2.1;have hp0:AGood ⟨t,p,sh⟩ xs:=hp _ (.head _);have hp1:(starts ⟨t,p,sh⟩ xs).2=true:=hp _ (.tail _ (.head _));⟨[x_feet_h0 p0 t p sh xs], λj=>iE [appC (Hd.kd (x_feet_h0 p0 t p sh xs)) (λi' n' n1' ls'=>x_feet_I0 t p sh xs i' n' n1' ls' (x_feet t p sh xs))] j (λ_=>False), λj=>iE [appC (Hd.kd (x_feet_h0 p0 t p sh xs)) (λi' n' n1' ls'=>((p-i').toNat,0,0))] j (λ_=>(0,0,0)),by kernel_rfl,⟨_, λ_ _ _=>by kernel_rfl,x_feet_begin t p sh xs hp0 hp1 hl0⟩,⟨λi n n1 ls hI=>⟨_, λ_ _ _=>by kernel_rfl,x_feet_step0 t p sh xs hp0 hp1 hl0 i n n1 ls hI⟩,trivial⟩⟩
def T_x_feet:Tb:=(148,e_x_feet)::T_r06_At
theorem T_x_feet_ok:TOk T_x_feet:=tc_ x_feet_ok T_r06_At_ok
end
end Go.Proofs.YtjfabjhlkpgckaaGreat
namespace Go.Sl
section
open Go.Proofs.YtjfabjhlkpgckaaGreat
structure Pt where
 k:Int
 a:Int
 s:Int
deriving DecidableEq
def pgB (sh:Int):Int:=2^sh.toNat
def szB (sh k:Int):Int:=pgB sh/kSlots k-pgB sh/kSlots k%16
theorem kSlots_bd (k:Int):0≤kSlots k∧kSlots k≤32:=by
 by_cases h:0≤k∧k≤8
 ·rcases (by omega:k=0∨k=1∨k=2∨k=3∨k=4∨k=5∨k=6∨k=7∨k=8) with rfl|rfl|rfl|rfl|rfl|rfl|rfl|rfl|rfl<;>decide
 ·unfold kSlots
  by_cases h0:0≤k
  ·have:decide (0≤k)=true:=by simpa using h0
   rw [this,cond_true,iI,jG (by simp;omega)];decide
  ·have:decide (0≤k)=false:=by simpa using h0
   rw [this];simp
theorem szB_all:∀a:Fin 11,∀k:Fin 9,r05_Size ((a.val+10:Nat):Int) (k.val:Int)=szB ((a.val+10:Nat):Int) (k.val:Int)∧16≤szB ((a.val+10:Nat):Int) (k.val:Int)∧szB ((a.val+10:Nat):Int) (k.val:Int)*kSlots (k.val:Int)≤pgB ((a.val+10:Nat):Int)∧1≤kSlots (k.val:Int)∧1024≤pgB ((a.val+10:Nat):Int)∧pgB ((a.val+10:Nat):Int)≤1048576∧szB ((a.val+10:Nat):Int) (k.val:Int)%16=0:=by decide+kernel
theorem szB_ok {sh k:Int} (h:10≤sh∧sh≤20) (hk:0≤k∧k≤8):r05_Size sh k=szB sh k∧16≤szB sh k∧szB sh k*kSlots k≤pgB sh∧1≤kSlots k∧1024≤pgB sh∧pgB sh≤1048576∧szB sh k%16=0:=by
 have:=szB_all ⟨(sh-10).toNat,by omega⟩ ⟨k.toNat,by omega⟩
 have e1:(((sh-10).toNat+10:Nat):Int)=sh:=by omega
 have e2:((k.toNat:Nat):Int)=k:=by omega
 simp only [e1,e2] at this
 exact this
theorem Cf.right {c:Cf} (h:c.ok=true):r04_Right c.t c.p c.s=true:=by
 have:=Cf.ok_iff.1 h
 simp only [r04_Right,iK,decide_eq_true_eq];omega
theorem page_pgB {c:Cf} (h:c.ok=true):r04_Page c.t c.p c.s=pgB c.s:=by
 unfold r04_Page pgB;rw [Cf.right h];rfl
theorem of_pgB {c:Cf} (h:c.ok=true) {g o:Int} (hg:0≤g∧g<c.p) (ho:0≤o∧o<pgB c.s):(r06_Of c.t c.p c.s g o).1=(g+1)*pgB c.s+o∧(r06_Of c.t c.p c.s g o).2=true:=by
 have h1:=Cf.ok_iff.1 h
 have h2:=(szB_ok h1.2.2 (k:=0) (by omega)).2.2.2.2
 have e:(!r04_Right c.t c.p c.s||decide (g<(0:Int))||decide (g≥c.p)||decide (o<(0:Int))||decide (o≥r04_Page c.t c.p c.s))=false:=by
  rw [Cf.right h,page_pgB h]
  simp only [jO,jY,jI,decide_eq_false_iff_not]
  omega
 unfold r06_Of
 rw [e,page_pgB h]
 have h3:(g+1)*pgB c.s≤1024*1048576:=Int.mul_le_mul (by omega) (by omega) (by omega) (by omega)
 have h4:0≤(g+1)*pgB c.s:=Int.mul_nonneg (by omega) (by omega)
 rw [cond_false,w64 (n:=g+1) (by omega),w64 (n:=(g+1)*pgB c.s) (by omega),w64 (by omega)]
 exact ⟨rfl,rfl⟩
theorem at_pgB {c:Cf} (h:c.ok=true) {k g j:Int} (hk:0≤k∧k≤8) (hg:0≤g∧g<c.p) (hj:0≤j∧j<kSlots k):(r06_At c.t c.p c.s k g j).1=(g+1)*pgB c.s+j*szB c.s k∧(r06_At c.t c.p c.s k g j).2=true:=by
 have h1:=Cf.ok_iff.1 h
 obtain ⟨e,e2,e3,e4,e5,e6,_⟩:=szB_ok h1.2.2 hk
 have e0:(decide (j<(0:Int))||decide (j≥r05_Slots k))=false:=by
  rw [r05_Slots_eq]
  simp only [jI,decide_eq_false_iff_not];omega
 have f1:0≤j*szB c.s k:=Int.mul_nonneg hj.1 (by omega)
 have f2:(j+1)*szB c.s k≤kSlots k*szB c.s k:=jZ (by omega) (by omega)
 have f3:(j+1)*szB c.s k=j*szB c.s k+szB c.s k:=by rw [Int.add_mul,Int.one_mul]
 have f4:kSlots k*szB c.s k=szB c.s k*kSlots k:=Int.mul_comm _ _
 unfold r06_At
 rw [e0,e,cond_false,w64 (n:=j*szB c.s k) (by omega)]
 obtain ⟨g1,g2⟩:=of_pgB h hg (o:=j*szB c.s k) (by omega)
 exact ⟨g1,g2⟩
section
variable (c:Cf) (xs:LI)
def slabKind (g j:Int):Int:=bif bitAt (cel xs (c.slots g)) j then 2 else bif bitAt (cel xs (c.taken g)) j then 4 else 3
def slabPt (g k j:Int):Pt:=⟨slabKind c xs g j,(g+1)*pgB c.s+j*szB c.s k,szB c.s k⟩
def slabF (g k:Int):Nat→List Pt
 |0=>[]
 |n+1=>slabF g k n++[slabPt c xs g k n]
theorem slabF_len (g k:Int):∀n,(slabF c xs g k n).length=n
 |0=>rfl
 |n+1=>by rw [slabF,jA,slabF_len g k n];rfl
def slabRest (k:Int):Int:=pgB c.s-szB c.s k*kSlots k
def slabL (g k:Int):List Pt:=bif decide (0<slabRest c k) then slabF c xs g k (kSlots k).toNat++[⟨5,(g+1)*pgB c.s+szB c.s k*kSlots k,slabRest c k⟩] else slabF c xs g k (kSlots k).toNat
def partsOf (g:Int):List Pt:=
 let i:=aInfo c xs g
 bif i.k==1||i.k==2 then [⟨i.k,(g+1)*pgB c.s,i.l*pgB c.s⟩] else bif i.k==3 then slabL c xs g i.c else []
theorem slabKind_of {g j:Int} {b1 b2:Bool} (h1:bitAt (cel xs (c.slots g)) j=b1) (h2:bitAt (cel xs (c.taken g)) j=b2):slabKind c xs g j=bif b1 then 2 else bif b2 then 4 else 3:=by unfold slabKind;rw [h1,h2]
def partsF:Nat→List Pt
 |0=>[]
 |n+1=>partsF n++partsOf c xs n
theorem slabL_len (g k:Int):(slabL c xs g k).length≤33:=by
 have:=(kSlots_bd k).2
 unfold slabL
 cases decide (0<slabRest c k) with
 |true=>simp only [cond_true,jA,slabF_len,jW];omega
 |false=>simp only [cond_false,slabF_len];omega
theorem partsOf_len (g:Int):(partsOf c xs g).length≤33:=by
 unfold partsOf
 simp only
 cases (aInfo c xs g).k==1||(aInfo c xs g).k==2 with
 |true=>simp
 |false=>
  simp only [cond_false]
  cases (aInfo c xs g).k==3 with
  |true=>exact slabL_len c xs g _
  |false=>simp
theorem partsF_len:∀n:Nat,(partsF c xs n).length≤33*n
 |0=>Nat.le_refl _
 |n+1=>by
  have h1:=partsF_len n
  have h2:=partsOf_len c xs n
  rw [partsF,jA];omega
theorem partsOf_one {g:Int} (h:((aInfo c xs g).k==1||(aInfo c xs g).k==2)=true):partsOf c xs g=[⟨(aInfo c xs g).k,(g+1)*pgB c.s,(aInfo c xs g).l*pgB c.s⟩]:=by simp only [partsOf,h,cond_true]
theorem partsOf_slab {g:Int} (h:((aInfo c xs g).k==3)=true):partsOf c xs g=slabL c xs g (aInfo c xs g).c:=by
 have e:((aInfo c xs g).k==1||(aInfo c xs g).k==2)=false:=by
  simp only [beq_iff_eq] at h;rw [h];rfl
 simp only [partsOf,e,h,cond_true,cond_false]
theorem partsOf_none {g:Int} (h1:((aInfo c xs g).k==1)=false) (h2:((aInfo c xs g).k==2)=false) (h3:((aInfo c xs g).k==3)=false):partsOf c xs g=[]:=by simp only [partsOf,h1,h2,h3,Bool.or_self,cond_false]
def partsL:List Pt:=partsF c xs c.p.toNat
def blocksL:List Pt:=(partsL c xs).filter λx=>x.k==2
def rootsF (l:LI):Nat→Bool
 |0=>true
 |k+1=>
  let a:=cel xs (cRoot (8-(k+1:Nat)))
  bif a !=0&&!l.contains a then false else rootsF l k
def rootsOk:Bool:=rootsF xs ((blocksL c xs).map (·.a)) 8
def checkA:Int×Bool:=
 bif !c.ok||((xs.length:Int) !=c.cells) then (1,false) else
 bif !tiles c xs then (2,false) else
 bif !feet c xs then (3,false) else
 bif !apart c xs then (4,false) else
 bif !slotsOk c xs then (5,false) else
 bif !bins c xs then (6,false) else
 bif !racks c xs then (7,false) else
 bif !loose c xs then (8,false) else
 bif !counts c xs then (9,false) else
 bif !rootsOk c xs then (10,false) else (0,true)
def soundA:Bool:=(checkA c xs).2
theorem blk_step (P:List Pt) {i:Nat} (h:i<P.length):(P.take (i+1)).filter (λx=>x.k==2)=(P.take i).filter (λx=>x.k==2)++bif (P.map (·.k)).getD i 0==2 then [⟨(P.map (·.k)).getD i 0,(P.map (·.a)).getD i 0,(P.map (·.s)).getD i 0⟩] else []:=by
 have e:∀f:Pt→Int,(P.map f).getD i 0=f P[i]:= λf=>by
  rw [iI,iV,iR h];rfl
 rw [List.take_add_one,List.filter_append,e,e,e,iR h]
 congr 1
theorem partsL_len:(partsL c xs).length≤33*c.p.toNat:=partsF_len c xs _
theorem blocksL_len:(blocksL c xs).length≤33*c.p.toNat:=Nat.le_trans (List.length_filter_le _ _) (partsL_len c xs)
def bdAll (xs:LI):Prop:=∀v∈xs,bd32 v
theorem rootA_eq (k:Int) (h:bdAll xs):bd32 (cel xs k):=by
 unfold cel
 rw [iI]
 cases e:xs[k.toNat]? with
 |none=>exact ⟨by decide,by decide⟩
 |some v=>exact h v (List.mem_of_getElem? e)
def soundB:Bool:=c.ok&&(xs.length==c.cells)&&tiles c xs&&feet c xs&&apart c xs&&slotsOk c xs&&bins c xs&&racks c xs&&loose c xs&&counts c xs&&rootsOk c xs
theorem soundA_eq:soundA c xs=soundB c xs:=by
 unfold soundA checkA soundB bne
 cases c.ok<;>cases (xs.length:Int)==c.cells<;>cases tiles c xs<;>cases feet c xs<;>cases apart c xs<;>cases slotsOk c xs<;>cases bins c xs<;>cases racks c xs<;>cases loose c xs<;>cases counts c xs<;>cases rootsOk c xs<;>rfl
end
end
end Go.Sl
namespace Go.Proofs.YtjfabjhlkpgckaaGreat
section
open Go.Sl
def x_slab (t p sh:Int) (xs:LI) (g k:Int):LI×LI×LI:=((slabL ⟨t,p,sh⟩ xs g k).map (·.k),(slabL ⟨t,p,sh⟩ xs g k).map (·.a),(slabL ⟨t,p,sh⟩ xs g k).map (·.s))
abbrev c_x_slab:Ct Sg:=⟨none,false,[.agg [.i .i64, .i .i64, .i .i64, .ro [some .u32]], .i .i64, .i .i64], .new 115 [some .i64,some .i64,some .i64]⟩
def e_x_slab:Entry Sg:=entC c_x_slab x_slab (λt p sh xs g k=>[AGood ⟨t,p,sh⟩ xs,0≤g∧g<p,0≤k∧k≤8])
def x_slab_w (t p sh:Int) (xs:LI) (g k:Int) (Q0:Int→Nat→LI→LI→LI→Prop) (R_:LI×LI×LI→Prop):Prop:=(Q0 (0) (0) ([]) ([]) ([]))
def x_slab_w0 (t p sh:Int) (xs:LI) (g k s:Int) (n1:Nat) (ks zs ss:LI) (Q0:Int→Nat→LI→LI→LI→Prop) (R_:LI×LI×LI→Prop):Prop:=(bw_ (decide (s<r05_Slots k)) (aw_ (AGood {t:=t,p:=p,s:=sh} xs) (aw_ (0≤g∧g<p) (bw_ (r01_Bit (x_Taken t p sh xs g) s) (aw_ (AGood {t:=t,p:=p,s:=sh} xs) (aw_ (0≤g∧g<p) (bw_ (r01_Bit (x_Slots t p sh xs g) s) (aw_ ((n1+1)*24≤140737488355328) (Q0 (iA iB (s+1)) (n1+1) (ks++[2]) (zs++[iF (r06_At t p sh k g s)]) (ss++[r05_Size sh k]))) (aw_ ((n1+1)*24≤140737488355328) (Q0 (iA iB (s+1)) (n1+1) (ks++[4]) (zs++[iF (r06_At t p sh k g s)]) (ss++[r05_Size sh k])))))) (aw_ (AGood {t:=t,p:=p,s:=sh} xs) (aw_ (0≤g∧g<p) (bw_ (r01_Bit (x_Slots t p sh xs g) s) (aw_ ((n1+1)*24≤140737488355328) (Q0 (iA iB (s+1)) (n1+1) (ks++[2]) (zs++[iF (r06_At t p sh k g s)]) (ss++[r05_Size sh k]))) (aw_ ((n1+1)*24≤140737488355328) (Q0 (iA iB (s+1)) (n1+1) (ks++[3]) (zs++[iF (r06_At t p sh k g s)]) (ss++[r05_Size sh k]))))))))) (bw_ (decide (iA iB (r04_Page t p sh-iA iB (r05_Size sh k*r05_Slots k))>0)) (aw_ ((n1+1)*24≤140737488355328) (R_ ((ks++[5],zs++[iF (r06_Of t p sh g (iA iB (r04_Page t p sh-iA iB (r04_Page t p sh-iA iB (r05_Size sh k*r05_Slots k)))))],ss++[iA iB (r04_Page t p sh-iA iB (r05_Size sh k*r05_Slots k))])))) (R_ ((ks,zs,ss)))))
def x_slab_I0 (t p sh:Int) (xs:LI) (g k s:Int) (n1:Nat) (ks zs ss:LI) (r_:LI×LI×LI):Prop:=0≤s∧s≤kSlots k∧n1=ks.length∧ks=(slabF ⟨t,p,sh⟩ xs g k s.toNat).map (·.k)∧zs=(slabF ⟨t,p,sh⟩ xs g k s.toNat).map (·.a)∧ss=(slabF ⟨t,p,sh⟩ xs g k s.toNat).map (·.s)∧r_=x_slab t p sh xs g k
abbrev x_slab_h0 (p0:Addr) (t p sh:Int) (xs:LI) (g k:Int):Hd Sg:=⟨none,[0,1,0,1,1,1],[.blk 0, .code [1,1,1,1]],[9,8,7,3,1,2],[.i .i64, .ic .i64 (r05_Size sh k), .own 115 [some .i64,some .i64,some .i64], .box 102 [.ic .i64 (t), .ic .i64 (p), .ic .i64 (sh), .roc [.ints .u32 (xs)]], .ic .i64 (g), .ic .i64 (k)]⟩
theorem x_slab_begin (t p sh:Int) (xs:LI) (g k:Int) (hp0:AGood ⟨t,p,sh⟩ xs) (hp1:0≤g∧g<p) (hp2:0≤k∧k≤8) (hl0:xs.length≤9223372036854775807):x_slab_w t p sh xs g k (λs' n1' ks' zs' ss'=>x_slab_I0 t p sh xs g k s' n1' ks' zs' ss' (x_slab t p sh xs g k)) (λr__=>r__=(x_slab t p sh xs g k)):=by
 unfold x_slab_w
 try unfold x_slab_I0
 exact ⟨by omega,(kSlots_bd k).1,rfl,rfl,rfl,rfl,rfl⟩
theorem x_slab_step0 (t p sh:Int) (xs:LI) (g k:Int) (hp0:AGood ⟨t,p,sh⟩ xs) (hp1:0≤g∧g<p) (hp2:0≤k∧k≤8) (hl0:xs.length≤9223372036854775807) (s:Int) (n1:Nat) (ks zs ss:LI) {r_:LI×LI×LI} (hI:x_slab_I0 t p sh xs g k s n1 ks zs ss r_):x_slab_w0 t p sh xs g k s n1 ks zs ss (λs' n1' ks' zs' ss'=>x_slab_I0 t p sh xs g k s' n1' ks' zs' ss' r_∧lx ((kSlots k-s').toNat,0,0) ((kSlots k-s).toNat,0,0)) (λr__=>r__=r_):=by
 unfold x_slab_I0 at hI
 unfold x_slab_w0
 try unfold x_slab_I0
 obtain ⟨h0,h1,h2,h3,h4,h5,hr⟩:=hI
 have hok:=Cf.ok_iff.1 hp0.ok
 simp only at hok
 have hkb:=kSlots_bd k
 obtain ⟨s1,s2,s3,s4,s5,s6,_⟩:=szB_ok hok.2.2 hp2
 have hlen:ks.length=s.toNat:=by rw [h3,jR,slabF_len]
 refine ⟨λh=>?_, λh=>?_⟩
 ·rw [r05_Slots_eq] at h
  simp only [decide_eq_true_eq] at h
  have hb1:r01_Bit (x_Taken t p sh xs g) s=bitAt (cel xs (Cf.taken ⟨t,p,sh⟩ g)) s:=bit_eq (cel_bd hp0 _) s
  have hb2:r01_Bit (x_Slots t p sh xs g) s=bitAt (cel xs (Cf.slots ⟨t,p,sh⟩ g)) s:=bit_eq (cel_bd hp0 _) s
  obtain ⟨ha,_⟩:=at_pgB hp0.ok (k:=k) (g:=g) (j:=s) hp2 hp1 ⟨h0,h⟩
  simp only at ha
  rw [w64 (n:=s+1) (by omega),hb1,hb2,ha,s1]
  have es:(s+1).toNat=s.toNat+1:=by omega
  have ei:((s.toNat:Nat):Int)=s:=by omega
  have hst0:slabF ⟨t,p,sh⟩ xs g k (s+1).toNat=slabF ⟨t,p,sh⟩ xs g k s.toNat++[slabPt ⟨t,p,sh⟩ xs g k s]:=by rw [es,slabF,ei]
  have fin:∀kd,kd=slabKind ⟨t,p,sh⟩ xs g s→(n1+1)*24≤140737488355328∧((0≤s+1∧s+1≤kSlots k∧n1+1=(ks++[kd]).length∧ks++[kd]=(slabF ⟨t,p,sh⟩ xs g k (s+1).toNat).map (·.k)∧zs++[(g+1)*pgB sh+s*szB sh k]=(slabF ⟨t,p,sh⟩ xs g k (s+1).toNat).map (·.a)∧ss++[szB sh k]=(slabF ⟨t,p,sh⟩ xs g k (s+1).toNat).map (·.s)∧r_=x_slab t p sh xs g k)∧lx ((kSlots k-(s+1)).toNat,0,0) ((kSlots k-s).toNat,0,0)):=by
   rintro kd rfl
   refine ⟨by omega,⟨by omega,by omega,by simp [h2],?_,?_,?_,hr⟩,lxo_⟩<;>rw [hst0,jD]
   ·rw [←h3];rfl
   ·rw [←h4];rfl
   ·rw [←h5];rfl
  refine ⟨hp0, λ_=>⟨hp1, λ_=>⟨λc1=>⟨hp0, λ_=>⟨hp1, λ_=>⟨λc2=>?_, λc2=>?_⟩⟩⟩, λc1=>⟨hp0, λ_=>⟨hp1, λ_=>⟨λc2=>?_, λc2=>?_⟩⟩⟩⟩⟩⟩
  ·obtain ⟨a,b⟩:=fin 2 (slabKind_of _ _ c2 c1).symm;exact ⟨a, λ_=>b⟩
  ·obtain ⟨a,b⟩:=fin 4 (slabKind_of _ _ c2 c1).symm;exact ⟨a, λ_=>b⟩
  ·obtain ⟨a,b⟩:=fin 2 (slabKind_of _ _ c2 c1).symm;exact ⟨a, λ_=>b⟩
  ·obtain ⟨a,b⟩:=fin 3 (slabKind_of _ _ c2 c1).symm;exact ⟨a, λ_=>b⟩
 ·rw [r05_Slots_eq] at h
  simp only [decide_eq_false_iff_not] at h
  have e:s.toNat=(kSlots k).toNat:=by omega
  have hpg:r04_Page t p sh=pgB sh:=page_pgB hp0.ok
  have hz:0≤szB sh k*kSlots k:=Int.mul_nonneg (by omega) (by omega)
  have w1:IntKind.i64.wrap (szB sh k*kSlots k)=szB sh k*kSlots k:=w64 (by omega)
  have w2:IntKind.i64.wrap (pgB sh-szB sh k*kSlots k)=slabRest ⟨t,p,sh⟩ k:=w64 (by omega)
  have hre:slabRest ⟨t,p,sh⟩ k=pgB sh-szB sh k*kSlots k:=rfl
  rw [hpg,s1,r05_Slots_eq,w1,w2]
  have w3:IntKind.i64.wrap (pgB sh-slabRest ⟨t,p,sh⟩ k)=szB sh k*kSlots k:=by rw [hre,w64 (by omega)];omega
  rw [w3]
  rw [e] at h3 h4 h5
  refine ⟨λhc=>⟨by omega, λ_=>?_⟩, λhc=>?_⟩
  ·obtain ⟨ha,_⟩:=of_pgB hp0.ok (g:=g) (o:=szB sh k*kSlots k) hp1 (by simp only [gt_iff_lt,decide_eq_true_eq] at hc;show 0≤_∧_<pgB sh;omega)
   simp only at ha
   rw [ha]
   show _=_
   have hc':decide (0<slabRest ⟨t,p,sh⟩ k)=true:=hc
   rw [hr,x_slab,slabL,hc',cond_true,h3,h4,h5]
   simp only [jD];rfl
  ·have hc':decide (0<slabRest ⟨t,p,sh⟩ k)=false:=hc
   show _=_
   rw [hr,x_slab,slabL,hc',cond_false,h3,h4,h5]
theorem x_slab_ok:EOk 157 e_x_slab:=
 ent_wp Dg T_x_feet_ok (I:=[1643000000009,1643000000008,1643000000007,1643000000003,1643000000001,1643000000002]) Tryz.func157 mix (B:=bodyOf Tryz.f157) (by kernel_rfl) rfl (by kernel_rfl) 400
  λp0 t p sh xs g k hb hp=>have hl0:xs.length≤9223372036854775807:=hb.1.2.2.2.1;have hp0:AGood ⟨t,p,sh⟩ xs:=hp _ (.head _);have hp1:0≤g∧g<p:=hp _ (.tail _ (.head _));have hp2:0≤k∧k≤8:=hp _ (.tail _ (.tail _ (.head _)));⟨[x_slab_h0 p0 t p sh xs g k], λj=>iE [appC (Hd.kd (x_slab_h0 p0 t p sh xs g k)) (λs' n1' ks' zs' ss'=>x_slab_I0 t p sh xs g k s' n1' ks' zs' ss' (x_slab t p sh xs g k))] j (λ_=>False), λj=>iE [appC (Hd.kd (x_slab_h0 p0 t p sh xs g k)) (λs' n1' ks' zs' ss'=>((kSlots k-s').toNat,0,0))] j (λ_=>(0,0,0)),by kernel_rfl,⟨_, λ_ _ _=>by kernel_rfl,x_slab_begin t p sh xs g k hp0 hp1 hp2 hl0⟩,⟨λs n1 ks zs ss hI=>⟨_, λ_ _ _=>by kernel_rfl,x_slab_step0 t p sh xs g k hp0 hp1 hp2 hl0 s n1 ks zs ss hI⟩,trivial⟩⟩
def T_x_slab:Tb:=(157,e_x_slab)::T_x_feet
theorem T_x_slab_ok:TOk T_x_slab:=tc_ x_slab_ok T_x_feet_ok
def x_parts (t p sh:Int) (xs:LI):LI×LI×LI:=((partsL ⟨t,p,sh⟩ xs).map (·.k),(partsL ⟨t,p,sh⟩ xs).map (·.a),(partsL ⟨t,p,sh⟩ xs).map (·.s))
abbrev c_x_parts:Ct Sg:=⟨none,false,[.agg [.i .i64, .i .i64, .i .i64, .ro [some .u32]]], .new 115 [some .i64,some .i64,some .i64]⟩
def e_x_parts:Entry Sg:=entC c_x_parts x_parts (λt p sh xs=>[AGood ⟨t,p,sh⟩ xs])
def x_parts_w (t p sh:Int) (xs:LI) (Q0:Int→Nat→LI→LI→LI→Prop) (R_:LI×LI×LI→Prop):Prop:=(Q0 (0) (0) ([]) ([]) ([]))
abbrev H9 (n1:Nat) (Q0:Int→Nat→LI→LI→LI→Prop) (i:Int) (ks:LI) (t p sh:Int) (xs zs ss:LI):Prop:=(aw_ ((n1+1)*24≤140737488355328) (Q0 (iA iB (i+1)) (n1+1) (ks++[iF (If.k (aInfo {t:=t,p:=p,s:=sh} xs i),If.l (aInfo {t:=t,p:=p,s:=sh} xs i),If.c (aInfo {t:=t,p:=p,s:=sh} xs i))]) (zs++[iF (r06_Of t p sh i 0)]) (ss++[iA iB (If.l (aInfo {t:=t,p:=p,s:=sh} xs i)*r04_Page t p sh)])))
abbrev HY (t p sh:Int) (xs:LI) (i:Int) (n1:Nat) (Q0:Int→Nat→LI→LI→LI→Prop) (ks zs ss:LI):Prop:=(bw_ (iF (x_Info t p sh xs i)==3) (∀r7:LI×LI×LI,r7=(x_slab t p sh xs i (If.c (aInfo {t:=t,p:=p,s:=sh} xs i)))→(aw_ (AGood {t:=t,p:=p,s:=sh} xs) (aw_ (0≤i∧i<p) (aw_ (0≤iH (If.l (aInfo {t:=t,p:=p,s:=sh} xs i),If.c (aInfo {t:=t,p:=p,s:=sh} xs i))∧iH (If.l (aInfo {t:=t,p:=p,s:=sh} xs i),If.c (aInfo {t:=t,p:=p,s:=sh} xs i))≤8) (aw_ ((n1+iC r7.1)*24≤140737488355328) (Q0 (iA iB (i+1)) (n1+iC r7.1) (ks++r7.1) (zs++r7.2.1) (ss++r7.2.2))))))) (Q0 (iA iB (i+1)) (n1) (ks) (zs) (ss)))
def x_parts_w0 (t p sh:Int) (xs:LI) (i:Int) (n1:Nat) (ks zs ss:LI) (Q0:Int→Nat→LI→LI→LI→Prop) (R_:LI×LI×LI→Prop):Prop:=(bw_ (decide (i<p)) (aw_ (AGood {t:=t,p:=p,s:=sh} xs) (aw_ (0≤i∧i<p) (bw_ (iF (x_Info t p sh xs i)==1) (bw_ (iF (x_Info t p sh xs i)==1) (tw_ (H9 n1 Q0 i ks t p sh xs zs ss)) (HY t p sh xs i n1 Q0 ks zs ss)) (bw_ (iF (x_Info t p sh xs i)==2) (tw_ (H9 n1 Q0 i ks t p sh xs zs ss)) (HY t p sh xs i n1 Q0 ks zs ss))))) (R_ ((ks,zs,ss))))
def x_parts_I0 (t p sh:Int) (xs:LI) (i:Int) (n1:Nat) (ks zs ss:LI) (r_:LI×LI×LI):Prop:=0≤i∧i≤p∧n1=ks.length∧ks=(partsF ⟨t,p,sh⟩ xs i.toNat).map (·.k)∧zs=(partsF ⟨t,p,sh⟩ xs i.toNat).map (·.a)∧ss=(partsF ⟨t,p,sh⟩ xs i.toNat).map (·.s)∧r_=x_parts t p sh xs
abbrev x_parts_h0 (p0:Addr) (t p sh:Int) (xs:LI):Hd Sg:=⟨none,[0,1,0,1,1],[.blk 0, .code [1,1,1]],[4,3,1],[.i .i64, .own 115 [some .i64,some .i64,some .i64], .box 102 [.ic .i64 (t), .ic .i64 (p), .ic .i64 (sh), .roc [.ints .u32 (xs)]]]⟩
theorem x_parts_begin (t p sh:Int) (xs:LI) (hp0:AGood ⟨t,p,sh⟩ xs) (hl0:xs.length≤9223372036854775807):x_parts_w t p sh xs (λi' n1' ks' zs' ss'=>x_parts_I0 t p sh xs i' n1' ks' zs' ss' (x_parts t p sh xs)) (λr__=>r__=(x_parts t p sh xs)):=by
 unfold x_parts_w
 try unfold x_parts_I0
 have hok:=Cf.ok_iff.1 hp0.ok
 simp only at hok
 exact ⟨by omega,by omega,rfl,rfl,rfl,rfl,rfl⟩
theorem x_parts_step0 (t p sh:Int) (xs:LI) (hp0:AGood ⟨t,p,sh⟩ xs) (hl0:xs.length≤9223372036854775807) (i:Int) (n1:Nat) (ks zs ss:LI) {r_:LI×LI×LI} (hI:x_parts_I0 t p sh xs i n1 ks zs ss r_):x_parts_w0 t p sh xs i n1 ks zs ss (λi' n1' ks' zs' ss'=>x_parts_I0 t p sh xs i' n1' ks' zs' ss' r_∧lx ((p-i').toNat,0,0) ((p-i).toNat,0,0)) (λr__=>r__=r_):=by
 unfold x_parts_I0 at hI
 unfold x_parts_w0 HY H9
 try unfold x_parts_I0
 obtain ⟨h0,h1,h2,h3,h4,h5,hr⟩:=hI
 have hok:=Cf.ok_iff.1 hp0.ok
 simp only at hok
 have hlen:ks.length≤33*i.toNat:=by rw [h3,jR];exact partsF_len _ _ _
 refine ⟨λh=>?_, λh=>?_⟩
 ·simp only [decide_eq_true_eq] at h
  have hg:0≤i∧i<p:=⟨h0,h⟩
  have hbd:=iGet_bd (cel xs (Cf.info ⟨t,p,sh⟩ i))
  have hb1:0≤(aInfo ⟨t,p,sh⟩ xs i).l∧(aInfo ⟨t,p,sh⟩ xs i).l≤1024:=⟨hbd.2.2.1,hbd.2.2.2.1⟩
  have hb2:0≤(aInfo ⟨t,p,sh⟩ xs i).c∧(aInfo ⟨t,p,sh⟩ xs i).c≤8:=⟨hbd.2.2.2.2.1,hbd.2.2.2.2.2⟩
  have hpb:=(szB_ok hok.2.2 (k:=0) (by omega)).2.2.2.2
  obtain ⟨ha,_⟩:=of_pgB hp0.ok (g:=i) (o:=0) hg (by show 0≤0∧0<pgB sh;omega)
  simp only [Int.add_zero] at ha
  have hpg:r04_Page t p sh=pgB sh:=page_pgB hp0.ok
  have hm1:0≤(aInfo ⟨t,p,sh⟩ xs i).l*pgB sh:=Int.mul_nonneg hb1.1 (by omega)
  have hm2:(aInfo ⟨t,p,sh⟩ xs i).l*pgB sh≤1024*1048576:=Int.mul_le_mul hb1.2 hpb.2.1 (by omega) (by omega)
  have hst:partsF ⟨t,p,sh⟩ xs (i+1).toNat=partsF ⟨t,p,sh⟩ xs i.toNat++partsOf ⟨t,p,sh⟩ xs i:=by
   rw [show (i+1).toNat=i.toNat+1 by omega,partsF,show ((i.toNat:Nat):Int)=i by omega]
  have fin:∀(L:List Pt),partsOf ⟨t,p,sh⟩ xs i=L→∀(n1':Nat) (ks' zs' ss':LI),n1'=n1+L.length→ks'=ks++L.map (·.k)→zs'=zs++L.map (·.a)→ss'=ss++L.map (·.s)→
   (0≤i+1∧i+1≤p∧n1'=ks'.length∧ks'=(partsF ⟨t,p,sh⟩ xs (i+1).toNat).map (·.k)∧zs'=(partsF ⟨t,p,sh⟩ xs (i+1).toNat).map (·.a)∧ss'=(partsF ⟨t,p,sh⟩ xs (i+1).toNat).map (·.s)∧r_=x_parts t p sh xs)∧lx ((p-(i+1)).toNat,0,0) ((p-i).toNat,0,0):=by
   intro L hL n1' ks' zs' ss' e1 e2 e3 e4
   rw [hst,hL,jD,jD,jD,←h3,←h4,←h5]
   exact ⟨⟨by omega,by omega,by rw [e1,e2,jA,jR,h2],e2,e3,e4,hr⟩,lxo_⟩
  simp only [x_Info]
  rw [w64 (n:=i+1) (by omega),ha,hpg,w64 (n:=(aInfo ⟨t,p,sh⟩ xs i).l*pgB sh) (by omega)]
  refine ⟨hp0, λ_=>⟨hg, λ_=>?_⟩⟩
  have hsl:=slabL_len ⟨t,p,sh⟩ xs i (aInfo ⟨t,p,sh⟩ xs i).c
  have hl2:(x_slab t p sh xs i (aInfo ⟨t,p,sh⟩ xs i).c).1.length=(slabL ⟨t,p,sh⟩ xs i (aInfo ⟨t,p,sh⟩ xs i).c).length:=by simp [x_slab]
  have f1:∀h:((aInfo ⟨t,p,sh⟩ xs i).k==1||(aInfo ⟨t,p,sh⟩ xs i).k==2)=true,_:= λh=>fin _ (partsOf_one _ _ h) _ _ _ _ rfl rfl rfl rfl
  have f3:∀h:((aInfo ⟨t,p,sh⟩ xs i).k==3)=true,_:= λh=>fin _ (partsOf_slab _ _ h) _ _ _ _ rfl rfl rfl rfl
  rw [←hl2] at f3
  have f0:= λh1 h2 h3=>fin _ (partsOf_none ⟨t,p,sh⟩ xs (g:=i) h1 h2 h3) n1 ks zs ss (by simp) (by simp) (by simp) (by simp)
  cases k1:(aInfo ⟨t,p,sh⟩ xs i).k==1<;>cases k2:(aInfo ⟨t,p,sh⟩ xs i).k==2<;>cases k3:(aInfo ⟨t,p,sh⟩ xs i).k==3<;>simp only [bw_,aw_,true_implies,false_implies,Bool.true_eq_false,Bool.false_eq_true,reduceCtorEq,and_true,true_and,and_self]<;>first
   |exact f0 k1 k2 k3
   |exact ⟨by omega, λ_=>f1 (by rw [k1,k2];rfl)⟩
   |(refine λr hr=>?_;subst hr;exact ⟨hp0, λ_=>⟨hg, λ_=>⟨hb2, λ_=>⟨by omega, λ_=>f3 k3⟩⟩⟩⟩)
   |fail
 ·simp only [decide_eq_false_iff_not] at h
  have e:i.toNat=p.toNat:=by omega
  show _=_
  rw [hr,x_parts,partsL,h3,h4,h5,e]
theorem x_parts_ok:EOk 111 e_x_parts:=
 ent_wp Dg T_x_slab_ok (I:=[411000000004,411000000003,411000000001]) Tryz.func111 mix (B:=bodyOf Tryz.f111) (by kernel_rfl) rfl (by kernel_rfl) 400
  λp0 t p sh xs hb hp=>have hl0:xs.length≤9223372036854775807:=hb.1.2.2.2.1;have hp0:AGood ⟨t,p,sh⟩ xs:=hp _ (.head _);⟨[x_parts_h0 p0 t p sh xs], λj=>iE [appC (Hd.kd (x_parts_h0 p0 t p sh xs)) (λi' n1' ks' zs' ss'=>x_parts_I0 t p sh xs i' n1' ks' zs' ss' (x_parts t p sh xs))] j (λ_=>False), λj=>iE [appC (Hd.kd (x_parts_h0 p0 t p sh xs)) (λi' n1' ks' zs' ss'=>((p-i').toNat,0,0))] j (λ_=>(0,0,0)),by kernel_rfl,⟨_, λ_ _ _=>by kernel_rfl,x_parts_begin t p sh xs hp0 hl0⟩,⟨λi n1 ks zs ss hI=>⟨_, λ_ _ _=>by kernel_rfl,x_parts_step0 t p sh xs hp0 hl0 i n1 ks zs ss hI⟩,trivial⟩⟩
def T_x_parts:Tb:=(111,e_x_parts)::T_x_slab
theorem T_x_parts_ok:TOk T_x_parts:=tc_ x_parts_ok T_x_slab_ok
end
section
open Go.Sl
def x_blocks (t p sh:Int) (xs:LI):LI×LI:=((blocksL ⟨t,p,sh⟩ xs).map (·.a),(blocksL ⟨t,p,sh⟩ xs).map (·.s))
abbrev c_x_blocks:Ct Sg:=⟨none,false,[.agg [.i .i64, .i .i64, .i .i64, .ro [some .u32]]], .new 198 [some .i64,some .i64]⟩
def e_x_blocks:Entry Sg:=entC c_x_blocks x_blocks (λt p sh xs=>[AGood ⟨t,p,sh⟩ xs])
def x_blocks_w (t p sh:Int) (xs:LI) (Q0:Int→Nat→LI→LI→LI→Nat→LI→LI→Prop) (R_:LI×LI→Prop):Prop:=(∀r2:LI×LI×LI,r2=(x_parts t p sh xs)→(aw_ (AGood {t:=t,p:=p,s:=sh} xs) (Q0 (0) (iC r2.1) r2.1 r2.2.1 r2.2.2 (0) ([]) ([]))))
def x_blocks_w0 (t p sh:Int) (xs:LI) (i:Int) (n1:Nat) (ks zs ss:LI) (n2:Nat) (as_ bs:LI) (Q0:Int→Nat→LI→LI→LI→Nat→LI→LI→Prop) (R_:LI×LI→Prop):Prop:=(bw_ (decide (i<(↑n1:Int))) (aw_ (0≤i∧i<(↑n1:Int)) (bw_ (iE ks (iJ i) (0:Int)==2) (aw_ (0≤i∧i<(↑n1:Int)) (aw_ (0≤i∧i<(↑n1:Int)) (tw_ (aw_ ((n2+1)*16≤140737488355328) (Q0 (iA iB (i+1)) (n1) (ks) (zs) (ss) (n2+1) (as_++[iE zs (iJ i) 0]) (bs++[iE ss (iJ i) 0])))))) (Q0 (iA iB (i+1)) (n1) (ks) (zs) (ss) (n2) (as_) (bs)))) (R_ ((as_,bs))))
def x_blocks_I0 (t p sh:Int) (xs:LI) (i:Int) (n1:Nat) (ks zs ss:LI) (n2:Nat) (as_ bs:LI) (r_:LI×LI):Prop:=0≤i∧i≤n1∧n1=(partsL ⟨t,p,sh⟩ xs).length∧n1≤33*1024∧ks=(partsL ⟨t,p,sh⟩ xs).map (·.k)∧zs=(partsL ⟨t,p,sh⟩ xs).map (·.a)∧ss=(partsL ⟨t,p,sh⟩ xs).map (·.s)∧n2=as_.length∧n2≤i∧as_=(((partsL ⟨t,p,sh⟩ xs).take i.toNat).filter λx=>x.k==2).map (·.a)∧bs=(((partsL ⟨t,p,sh⟩ xs).take i.toNat).filter λx=>x.k==2).map (·.s)∧r_=x_blocks t p sh xs
abbrev x_blocks_h0 (p0:Addr) (t p sh:Int) (xs:LI):Hd Sg:=⟨none,[0,1,0,1,1,1],[.blk 0, .code [1,1,1,1]],[5,4,3],[.i .i64, .own 115 [some .i64,some .i64,some .i64], .own 198 [some .i64,some .i64]]⟩
theorem x_blocks_begin (t p sh:Int) (xs:LI) (hp0:AGood ⟨t,p,sh⟩ xs) (hl0:xs.length≤9223372036854775807):x_blocks_w t p sh xs (λi' n1' ks' zs' ss' n2' as_' bs'=>x_blocks_I0 t p sh xs i' n1' ks' zs' ss' n2' as_' bs' (x_blocks t p sh xs)) (λr__=>r__=(x_blocks t p sh xs)):=by
 unfold x_blocks_w
 try unfold x_blocks_I0
 have hok:=Cf.ok_iff.1 hp0.ok
 simp only at hok
 have hl:(partsL ⟨t,p,sh⟩ xs).length≤33*p.toNat:=partsL_len _ _
 rintro r2 rfl
 exact ⟨hp0, λ_=>⟨by omega,by omega,by simp [x_parts],by simp only [x_parts,jR];omega,rfl,rfl,rfl,rfl,by omega,by simp,by simp,rfl⟩⟩
theorem x_blocks_step0 (t p sh:Int) (xs:LI) (hp0:AGood ⟨t,p,sh⟩ xs) (hl0:xs.length≤9223372036854775807) (i:Int) (n1:Nat) (ks zs ss:LI) (n2:Nat) (as_ bs:LI) {r_:LI×LI} (hI:x_blocks_I0 t p sh xs i n1 ks zs ss n2 as_ bs r_):x_blocks_w0 t p sh xs i n1 ks zs ss n2 as_ bs (λi' n1' ks' zs' ss' n2' as_' bs'=>x_blocks_I0 t p sh xs i' n1' ks' zs' ss' n2' as_' bs' r_∧lx ((n1'-i').toNat,0,0) ((n1-i).toNat,0,0)) (λr__=>r__=r_):=by
 unfold x_blocks_I0 at hI
 unfold x_blocks_w0
 try unfold x_blocks_I0
 obtain ⟨h0,h1,h2,hb,h3,h4,h5,h6,h7,h8,h9,hr⟩:=hI
 refine ⟨λh=>?_, λh=>?_⟩
 ·simp only [decide_eq_true_eq] at h
  have hi:0≤i∧i<(n1:Int):=⟨h0,h⟩
  have hs:=blk_step (partsL ⟨t,p,sh⟩ xs) (i:=i.toNat) (by omega)
  rw [←h3,←h4,←h5] at hs
  have es:(i+1).toNat=i.toNat+1:=by omega
  rw [w64 (n:=i+1) (by omega)]
  refine ⟨hi, λ_=>⟨λhc=>⟨hi, λ_=>⟨hi, λ_=>?_⟩⟩, λhc=>?_⟩⟩
  ·rw [hc] at hs
   refine And.intro ?_ ?_<;>exact ⟨by omega, λ_=>⟨⟨by omega,by omega,h2,hb,h3,h4,h5,by simp [h6],by omega,by rw [es,hs,jD,←h8];rfl,by rw [es,hs,jD,←h9];rfl,hr⟩,lxo_⟩⟩
  ·rw [hc] at hs
   exact ⟨⟨by omega,by omega,h2,hb,h3,h4,h5,h6,by omega,by rw [es,hs,jD,←h8];simp,by rw [es,hs,jD,←h9];simp,hr⟩,lxo_⟩
 ·simp only [decide_eq_false_iff_not] at h
  show _=_
  rw [hr,x_blocks,blocksL,h8,h9,List.take_of_length_le (by omega)]
theorem x_blocks_ok:EOk 179 e_x_blocks:=
 ent_wp Dg T_x_parts_ok (I:=[1643000000005,1643000000004,1643000000003]) Tryz.func179 mix (B:=bodyOf Tryz.f179) (by kernel_rfl) rfl (by kernel_rfl) 400
  λp0 t p sh xs hb hp=>have hl0:xs.length≤9223372036854775807:=hb.1.2.2.2.1;have hp0:AGood ⟨t,p,sh⟩ xs:=hp _ (.head _);⟨[x_blocks_h0 p0 t p sh xs], λj=>iE [appC (Hd.kd (x_blocks_h0 p0 t p sh xs)) (λi' n1' ks' zs' ss' n2' as_' bs'=>x_blocks_I0 t p sh xs i' n1' ks' zs' ss' n2' as_' bs' (x_blocks t p sh xs))] j (λ_=>False), λj=>iE [appC (Hd.kd (x_blocks_h0 p0 t p sh xs)) (λi' n1' ks' zs' ss' n2' as_' bs'=>((n1'-i').toNat,0,0))] j (λ_=>(0,0,0)),by kernel_rfl,⟨_, λ_ _ _=>by kernel_rfl,x_blocks_begin t p sh xs hp0 hl0⟩,⟨λi n1 ks zs ss n2 as_ bs hI=>⟨_, λ_ _ _=>by kernel_rfl,x_blocks_step0 t p sh xs hp0 hl0 i n1 ks zs ss n2 as_ bs hI⟩,trivial⟩⟩
def T_x_blocks:Tb:=(179,e_x_blocks)::T_x_parts
theorem T_x_blocks_ok:TOk T_x_blocks:=tc_ x_blocks_ok T_x_parts_ok
def x_roots (t p sh:Int) (xs:LI):Bool:=rootsOk ⟨t,p,sh⟩ xs
abbrev c_x_roots:Ct Sg:=⟨none,false,[.agg [.i .i64, .i .i64, .i .i64, .ro [some .u32]]], .b⟩
def e_x_roots:Entry Sg:=entC c_x_roots x_roots (λt p sh xs=>[AGood ⟨t,p,sh⟩ xs])
def x_roots_w (t p sh:Int) (xs:LI) (Q0:Int→Nat→LI→LI→Prop) (R_:Bool→Prop):Prop:=(∀r1:LI×LI,r1=(x_blocks t p sh xs)→(aw_ (AGood {t:=t,p:=p,s:=sh} xs) (Q0 (0) (iC r1.1) r1.1 r1.2)))
def x_roots_w0 (t p sh:Int) (xs:LI) (i:Int) (n2:Nat) (as_ bs:LI) (Q0:Int→Nat→LI→LI→Prop) (R_:Bool→Prop):Prop:=(bw_ (decide (i<8)) (aw_ (0≤r07_Root i∧r07_Root i<(↑(iC xs):Int)) (bw_ (iA iB (iE xs (iJ (r07_Root i)) 0) !=0&&!r12_Has as_ bs (iA iB (iE xs (iJ (r07_Root i)) 0))) (R_ (false)) (Q0 (iA iB (i+1)) (n2) (as_) (bs)))) (R_ (true)))
def x_roots_I0 (t p sh:Int) (xs:LI) (i:Int) (n2:Nat) (as_ bs:LI) (r_:Bool):Prop:=0≤i∧i≤8∧n2=as_.length∧as_.length=bs.length∧as_.length≤33*1024∧rootsF xs as_ (8-i).toNat=r_
abbrev x_roots_h0 (p0:Addr) (t p sh:Int) (xs:LI):Hd Sg:=⟨none,[0,1,0,1,1],[.blk 0, .code [1,1,1]],[4,3,1],[.i .i64, .own 198 [some .i64,some .i64], .box 102 [.ic .i64 (t), .ic .i64 (p), .ic .i64 (sh), .roc [.ints .u32 (xs)]]]⟩
theorem x_roots_begin (t p sh:Int) (xs:LI) (hp0:AGood ⟨t,p,sh⟩ xs) (hl0:xs.length≤9223372036854775807):x_roots_w t p sh xs (λi' n2' as_' bs'=>x_roots_I0 t p sh xs i' n2' as_' bs' (x_roots t p sh xs)) (λr__=>r__=(x_roots t p sh xs)):=by
 unfold x_roots_w
 try unfold x_roots_I0
 have hok:=Cf.ok_iff.1 hp0.ok
 simp only at hok
 have hl:(blocksL ⟨t,p,sh⟩ xs).length≤33*p.toNat:=blocksL_len _ _
 rintro r2 rfl
 exact ⟨hp0, λ_=>⟨by omega,by omega,rfl,by simp [x_blocks],by simp only [x_blocks,jR];omega,rfl⟩⟩
theorem x_roots_step0 (t p sh:Int) (xs:LI) (hp0:AGood ⟨t,p,sh⟩ xs) (hl0:xs.length≤9223372036854775807) (i:Int) (n2:Nat) (as_ bs:LI) {r_:Bool} (hI:x_roots_I0 t p sh xs i n2 as_ bs r_):x_roots_w0 t p sh xs i n2 as_ bs (λi' n2' as_' bs'=>x_roots_I0 t p sh xs i' n2' as_' bs' r_∧lx ((8-i').toNat,0,0) ((8-i).toNat,0,0)) (λr__=>r__=r_):=by
 unfold x_roots_I0 at hI
 unfold x_roots_w0
 try unfold x_roots_I0
 obtain ⟨h0,h1,h2,h3,hb,hr⟩:=hI
 refine ⟨λh=>?_, λh=>?_⟩
 ·simp only [decide_eq_true_eq] at h
  have hin:0≤cRoot i∧cRoot i<(xs.length:Int):=by
   have h1:=Cf.ok_iff.1 hp0.ok
   have h2:=hp0.len
   unfold Cf.cells at h2
   rw [hp0.ok,cond_true] at h2
   have e:(decide (0≤i)&&decide (i<8))=true:=by simp [h0,h]
   unfold cRoot
   rw [e,cond_true]
   omega
  have hbd:=cel_bd hp0 (cRoot i)
  have hbd':0≤xs.getD (cRoot i).toNat 0∧xs.getD (cRoot i).toNat 0<4294967296:=hbd
  have e:(8-i).toNat=(8-(i+1)).toNat+1:=by omega
  have ei:(8:Int)-(((8-(i+1)).toNat+1:Nat):Int)=i:=by omega
  rw [e] at hr
  simp only [rootsF] at hr
  rw [ei] at hr
  rw [r07_Root_eq,w64 (n:=i+1) (by omega),w64 (n:=xs.getD (cRoot i).toNat 0) (by omega)]
  refine ⟨hin, λ_=>⟨λhc=>?_, λhc=>?_⟩⟩
  ·have hc':(cel xs (cRoot i) !=0&&!as_.contains (cel xs (cRoot i)))=true:=hc
   rw [hc',cond_true] at hr;exact hr
  ·have hc':(cel xs (cRoot i) !=0&&!as_.contains (cel xs (cRoot i)))=false:=hc
   rw [hc',cond_false] at hr
   exact ⟨⟨by omega,by omega,h2,h3,hb,hr⟩,lxo_⟩
 ·simp only [decide_eq_false_iff_not] at h
  rw [show (8-i).toNat=0 by omega] at hr
  exact hr
theorem x_roots_ok:EOk 155 e_x_roots:=
 ent_wp Dg T_x_blocks_ok (I:=[411000000004,411000000003,411000000001]) Tryz.func155 mix (B:=bodyOf Tryz.f155) (by kernel_rfl) rfl (by kernel_rfl) 400
  λp0 t p sh xs hb hp=>have hl0:xs.length≤9223372036854775807:=hb.1.2.2.2.1;have hp0:AGood ⟨t,p,sh⟩ xs:=hp _ (.head _);⟨[x_roots_h0 p0 t p sh xs], λj=>iE [appC (Hd.kd (x_roots_h0 p0 t p sh xs)) (λi' n2' as_' bs'=>x_roots_I0 t p sh xs i' n2' as_' bs' (x_roots t p sh xs))] j (λ_=>False), λj=>iE [appC (Hd.kd (x_roots_h0 p0 t p sh xs)) (λi' n2' as_' bs'=>((8-i').toNat,0,0))] j (λ_=>(0,0,0)),by kernel_rfl,⟨_, λ_ _ _=>by kernel_rfl,x_roots_begin t p sh xs hp0 hl0⟩,⟨λi n2 as_ bs hI=>⟨_, λ_ _ _=>by kernel_rfl,x_roots_step0 t p sh xs hp0 hl0 i n2 as_ bs hI⟩,trivial⟩⟩
def T_x_roots:Tb:=(155,e_x_roots)::T_x_blocks
theorem T_x_roots_ok:TOk T_x_roots:=tc_ x_roots_ok T_x_blocks_ok
def r12_Check (t p sh:Int) (xs:LI):Int×Bool:=checkA ⟨t,p,sh⟩ xs
abbrev c_r12_Check:Ct Sg:=⟨none,false,[.agg [.i .i64, .i .i64, .i .i64], .ro [some .u32]], .tup [.i .i64, .b]⟩
def e_r12_Check:Entry Sg:=entC c_r12_Check r12_Check (λt p sh xs=>[bdAll xs])
def r12_Check_w (t p sh:Int) (xs:LI) (R_:Int×Bool→Prop):Prop:=(∀r1:Bool,r1=(r04_Right t p sh)→(bw_ (!r1||(↑(iC xs):Int) !=r07_Cells t p sh) (R_ ((1,false))) (∀r4:Bool,r4=(x_tiles t p sh xs)→(aw_ (AGood {t:=t,p:=p,s:=sh} xs) (bw_ (!r4) (R_ ((2,false))) (∀r7:Bool,r7=(x_feet t p sh xs)→(aw_ (AGood {t:=t,p:=p,s:=sh} xs) (aw_ (iH (starts {t:=t,p:=p,s:=sh} xs)=true) (bw_ (!r7) (R_ ((3,false))) (∀r11:Bool,r11=(x_apart t p sh xs)→(aw_ (AGood {t:=t,p:=p,s:=sh} xs) (bw_ (!r11) (R_ ((4,false))) (∀r14:Bool,r14=(x_slots t p sh xs)→(aw_ (AGood {t:=t,p:=p,s:=sh} xs) (bw_ (!r14) (R_ ((5,false))) (∀r17:Bool,r17=(x_bins t p sh xs)→(aw_ (AGood {t:=t,p:=p,s:=sh} xs) (bw_ (!r17) (R_ ((6,false))) (∀r20:Bool,r20=(x_racks t p sh xs)→(aw_ (AGood {t:=t,p:=p,s:=sh} xs) (bw_ (!r20) (R_ ((7,false))) (∀r23:Bool,r23=(x_loose t p sh xs)→(aw_ (AGood {t:=t,p:=p,s:=sh} xs) (bw_ (!r23) (R_ ((8,false))) (∀r26:Bool,r26=(x_counts t p sh xs)→(aw_ (AGood {t:=t,p:=p,s:=sh} xs) (bw_ (!r26) (R_ ((9,false))) (∀r29:Bool,r29=(x_roots t p sh xs)→(aw_ (AGood {t:=t,p:=p,s:=sh} xs) (bw_ (!r29) (R_ ((10,false))) (R_ ((0,true)))))))))))))))))))))))))))))))))
theorem r12_Check_begin (t p sh:Int) (xs:LI) (hp0:bdAll xs) (hl0:xs.length≤9223372036854775807):r12_Check_w t p sh xs (λr__=>r__=(r12_Check t p sh xs)):=by
 unfold r12_Check_w
 have hr:r04_Right t p sh=Cf.ok ⟨t,p,sh⟩:=by
  apply Bool.eq_iff_iff.2
  rw [Cf.ok_iff]
  simp only [r04_Right,iK,decide_eq_true_eq];omega
 have hcl:r07_Cells t p sh=Cf.cells ⟨t,p,sh⟩:=by
  unfold r07_Cells Cf.cells
  rw [hr]
  cases h:Cf.ok ⟨t,p,sh⟩ with
  |false=>rfl
  |true=>
   have:=Cf.ok_iff.1 h
   simp only at this
   show IntKind.i64.wrap _=30+4*t+6*p
   rw [w64 (n:=4*t) (by omega),w64 (n:=30+4*t) (by omega),w64 (n:=6*p) (by omega),w64 (by omega)]
 rintro r1 rfl
 rw [hr,hcl]
 refine ⟨λhc=>?_, λhc=>?_⟩
 ·show _=checkA ⟨t,p,sh⟩ xs
  unfold checkA
  rw [hc];rfl
 have hg:AGood ⟨t,p,sh⟩ xs:=by
  simp only [jI,jF,bne_eq_false_iff_eq] at hc
  exact {ok:=hc.1,len:=hc.2,bd:=hp0}
 have key:∀{r:Int×Bool},r=checkA ⟨t,p,sh⟩ xs→(λr__=>r__=r12_Check t p sh xs) r:= λh=>h
 unfold checkA at key
 rw [hc,cond_false] at key
 rintro r rfl
 refine ⟨hg, λ_=>⟨λhd=>key (by rw [show (!tiles ⟨t,p,sh⟩ xs)=true from hd];rfl), λhd=>?_⟩⟩
 have h_tiles:(!tiles ⟨t,p,sh⟩ xs)=false:=hd
 rw [h_tiles,cond_false] at key
 rintro r rfl
 have hst:(starts ⟨t,p,sh⟩ xs).2=true:=by
  have h1:tiles ⟨t,p,sh⟩ xs=true:=by simpa using h_tiles
  unfold tiles at h1
  cases hq:(starts ⟨t,p,sh⟩ xs).2 with
  |true=>rfl
  |false=>rw [hq] at h1;cases h1
 refine ⟨hg, λ_=>⟨hst, λ_=>⟨λhd=>key (by rw [show (!feet ⟨t,p,sh⟩ xs)=true from hd];rfl), λhd=>?_⟩⟩⟩
 have h_feet:(!feet ⟨t,p,sh⟩ xs)=false:=hd
 rw [h_feet,cond_false] at key
 rintro r rfl
 refine ⟨hg, λ_=>⟨λhd=>key (by rw [show (!apart ⟨t,p,sh⟩ xs)=true from hd];rfl), λhd=>?_⟩⟩
 have h_apart:(!apart ⟨t,p,sh⟩ xs)=false:=hd
 rw [h_apart,cond_false] at key
 rintro r rfl
 refine ⟨hg, λ_=>⟨λhd=>key (by rw [show (!slotsOk ⟨t,p,sh⟩ xs)=true from hd];rfl), λhd=>?_⟩⟩
 have h_slotsOk:(!slotsOk ⟨t,p,sh⟩ xs)=false:=hd
 rw [h_slotsOk,cond_false] at key
 rintro r rfl
 refine ⟨hg, λ_=>⟨λhd=>key (by rw [show (!bins ⟨t,p,sh⟩ xs)=true from hd];rfl), λhd=>?_⟩⟩
 have h_bins:(!bins ⟨t,p,sh⟩ xs)=false:=hd
 rw [h_bins,cond_false] at key
 rintro r rfl
 refine ⟨hg, λ_=>⟨λhd=>key (by rw [show (!racks ⟨t,p,sh⟩ xs)=true from hd];rfl), λhd=>?_⟩⟩
 have h_racks:(!racks ⟨t,p,sh⟩ xs)=false:=hd
 rw [h_racks,cond_false] at key
 rintro r rfl
 refine ⟨hg, λ_=>⟨λhd=>key (by rw [show (!loose ⟨t,p,sh⟩ xs)=true from hd];rfl), λhd=>?_⟩⟩
 have h_loose:(!loose ⟨t,p,sh⟩ xs)=false:=hd
 rw [h_loose,cond_false] at key
 rintro r rfl
 refine ⟨hg, λ_=>⟨λhd=>key (by rw [show (!counts ⟨t,p,sh⟩ xs)=true from hd];rfl), λhd=>?_⟩⟩
 have h_counts:(!counts ⟨t,p,sh⟩ xs)=false:=hd
 rw [h_counts,cond_false] at key
 rintro r rfl
 refine ⟨hg, λ_=>⟨λhd=>key (by rw [show (!rootsOk ⟨t,p,sh⟩ xs)=true from hd];rfl), λhd=>?_⟩⟩
 have h_rootsOk:(!rootsOk ⟨t,p,sh⟩ xs)=false:=hd
 rw [h_rootsOk,cond_false] at key
 exact key rfl
theorem r12_Check_ok:EOk 110 e_r12_Check:=
 ent_w0 Dg T_x_roots_ok (I:=[2999998]) Tryz.func110 mix (B:=bodyOf Tryz.f110) (by kernel_rfl) rfl (by kernel_rfl) 400
  λ_ t p sh xs hb hp=>⟨_, λ_ _ _=>by kernel_rfl,r12_Check_begin t p sh xs (hp _ (.head _)) (hb.2.1)⟩
def T_r12_Check:Tb:=(110,e_r12_Check)::T_x_roots
theorem T_r12_Check_ok:TOk T_r12_Check:=tc_ r12_Check_ok T_x_roots_ok
def r12_Sound (t p sh:Int) (xs:LI):Bool:=soundA ⟨t,p,sh⟩ xs
abbrev c_r12_Sound:Ct Sg:=⟨none,false,[.agg [.i .i64, .i .i64, .i .i64], .ro [some .u32]], .b⟩
def e_r12_Sound:Entry Sg:=entC c_r12_Sound r12_Sound (λt p sh xs=>[bdAll xs])
def r12_Sound_w (t p sh:Int) (xs:LI) (R_:Bool→Prop):Prop:=(∀r1:Int×Bool,r1=(r12_Check t p sh xs)→(aw_ (bdAll xs) (R_ r1.2)))
theorem r12_Sound_begin (t p sh:Int) (xs:LI) (hp0:bdAll xs) (hl0:xs.length≤9223372036854775807):r12_Sound_w t p sh xs (λr__=>r__=(r12_Sound t p sh xs)):=by
 unfold r12_Sound_w
 rintro r rfl
 exact ⟨hp0, λ_=>rfl⟩
theorem r12_Sound_ok:EOk 63 e_r12_Sound:=
 ent_w0 Dg T_r12_Check_ok (I:=[2999998]) Tryz.func63 mix (B:=bodyOf Tryz.f63) (by kernel_rfl) rfl (by kernel_rfl) 400
  λ_ t p sh xs hb hp=>⟨_, λ_ _ _=>by kernel_rfl,r12_Sound_begin t p sh xs (hp _ (.head _)) (hb.2.1)⟩
def T_r12_Sound:Tb:=(63,e_r12_Sound)::T_r12_Check
theorem T_r12_Sound_ok:TOk T_r12_Sound:=tc_ r12_Sound_ok T_r12_Check_ok
def r12_Few (t p sh:Int):Bool:=decide (p≤64)
def r12_Few_v (t p sh:Int):Bool:=decide (p≤64)
abbrev c_r12_Few:Ct Sg:=⟨none,false,[.agg [.i .i64, .i .i64, .i .i64]], .b⟩
def e_r12_Few:Entry Sg:=entC c_r12_Few r12_Few (λ_ _ _=>[])
theorem r12_Few_eq (t p sh:Int):r12_Few_v t p sh=(r12_Few t p sh):=by
 rfl
theorem r12_Few_ok:EOk 21 e_r12_Few:=
 ent_ok Dg T_r12_Sound_ok (I:=[]) Tryz.func21 mix (B:=bodyOf Tryz.f21) (by kernel_rfl) rfl (by kernel_rfl) 400
  λ_ t p sh hb hp=>⟨(r12_Few_v t p sh), .t, λ_ _ _=>by kernel_rfl,trivial,r12_Few_eq t p sh⟩
def T_r12_Few:Tb:=(21,e_r12_Few)::T_r12_Sound
theorem T_r12_Few_ok:TOk T_r12_Few:=tc_ r12_Few_ok T_r12_Sound_ok
def l14_Eight:Int×Int×Int×LI:=(1,8,10,[8,0,0,0,0,1,0,0,0,0,0,0,0,0,0,0,0,0,0,0,0,0,0,0,0,0,0,0,0,0,0,0,0,0,129,0,0,0,0,0,0,0,0,0,0,0,0,0,0,0,0,0,0,0,0,0,0,0,0,0,0,0,0,0,0,0,0,0,0,0,0,0,0,0,0,0,0,1,0,0,0,0])
abbrev c_l14_Eight:Ct Sg:=⟨none,false,[], .tup [.agg [.i .i64, .i .i64, .i .i64], .new 60 [some .u32]]⟩
def e_l14_Eight:Entry Sg:=entC c_l14_Eight l14_Eight ([])
theorem l14_Eight_ok:EOk 23 e_l14_Eight:=
 ent_ok Dg T_r12_Few_ok (I:=[]) Tryz.func23 mix (B:=bodyOf Tryz.f23) (by kernel_rfl) rfl (by kernel_rfl) 400
  λ_ hb hp=>⟨l14_Eight,(.need ((0:Int)≤82∧(82:Int)≤82∧(328:Int)≤140737488355328) (.need ((0:Int)≤0∧(0:Int)<82) (.need ((0:Int)≤5∧(5:Int)<82) (.need ((0:Int)≤34∧(34:Int)<82) (.need ((0:Int)≤77∧(77:Int)<82) .t))))), λ_ _ _=>by kernel_rfl,⟨(by first|omega|decide), λz1=>⟨(by first|omega|decide), λz3=>⟨(by first|omega|decide), λz4=>⟨(by first|omega|decide), λz5=>⟨(by first|omega|decide), λz6=>trivial⟩⟩⟩⟩⟩,rfl⟩
def T_l14_Eight:Tb:=(23,e_l14_Eight)::T_r12_Few
theorem T_l14_Eight_ok:TOk T_l14_Eight:=tc_ l14_Eight_ok T_r12_Few_ok
end
section
open Go.Sl
def sp_used (s:VS) (t p h g n:Int):VS:=(let r1:Ty (Ct.RK c_view_Put):=VS.set s (place_Info t p h g) (iF (info_Put (2:Int) n (0:Int)));(let r3:Ty (Ct.RK c_view_Put):=VS.set r1 (place_Foot t p h (iA iB (iA iB (g+n)-(1:Int)))) (iA iO (iA iB (g+(1:Int))));r3))
def sp_used_out (r_:VS):List Value→Value:= λss=>undef
def sp_used_nw (p_0:Addr) (r_:VS):List (Chunk Sg):=[.obj p_0 (.view (r_))]
def sp_used_rows (r_:VS):List (Mk Sg):=[]
section
variable (s:VS) (t p h g n:Int) (p_0:Addr)
theorem sp_used_calls {E_:Ev} {G_:Hp} {w_:World} (hS:Sat E_ G_ w_ [Dg p_0 ((.view s))]):Calls Tryz.prog 186 #[(.agg #[.pointer (some p_0), .int .i64 t, .int .i64 p, .int .i64 h]),(.int .i64 g),(.int .i64 n)] w_ (Post Dg E_ G_ (sp_used_out (sp_used s t p h g n)) (sp_used_nw p_0 (sp_used s t p h g n)) (sp_used_rows (sp_used s t p h g n))):=
 calls_post Dg T_l14_Eight_ok (I:=[]) Tryz.func186 mix (B:=bodyOf Tryz.f186) (by kernel_rfl) [(.agg #[.pointer (some p_0), .int .i64 t, .int .i64 p, .int .i64 h]),(.int .i64 g),(.int .i64 n)] [.many [.pt 0 .obj, .no, .no, .no], .no, .no] (by kernel_rfl) (objs:=[.obj p_0 (.view s)]) (ros:=[]) (psOk_cons (by simp [pOk,psOk,cOk]) (psOk_cons pOk_no (psOk_cons pOk_no (psOk_nil)))) (by kernel_rfl) (trivial) hS 400
  (t:=Tree.fresh λb=>Tree.bind (VS.set s (place_Info t p h g) (iF (info_Put (2:Int) n (0:Int)))) λa=>Tree.need (bd32 (iF (info_Put (2:Int) n (0:Int)))) (Tree.bind (VS.set a (place_Foot t p h (iA iB (iA iB (g+n)-(1:Int)))) (iA iO (iA iB (g+(1:Int))))) λa_1=>Tree.need (bd32 (iA iO (iA iB (g+(1:Int))))) (Tree.ret (Value.tuple {toList:=[]}) pn_ [Chunk.obj p_0 (Option.getD (some (Wr.inj wView a_1)) (Option.getD (some (Wr.inj wView a)) (Sg.view s))),kc_ b 163 [(iT (some p_0),po_ 0),(vi_ t,pn_),(vi_ p,pn_),(vi_ h,pn_)]])))
  (by kernel_rfl)
  (λb0_0=> λr1 e1=>⟨by first|exact wu32_bd _|exact VS.get_bd _ _|exact zero_bd|(rw [info_Put_val];exact iVal_bd _ _ _)|(subst_vars;exact VS.get_bd _ _)|omega, λy2=> λr3 e3=>⟨by first|exact wu32_bd _|exact VS.get_bd _ _|exact zero_bd|(rw [info_Put_val];exact iVal_bd _ _ _)|(subst_vars;exact VS.get_bd _ _)|omega, λy4=>RetOk.at (outf:=sp_used_out) (nwf:=sp_used_nw p_0) (rowsf:=sp_used_rows) (r:=r3) (by subst e1;subst e3;first|exact Eq.symm rfl|(simp only [sp_used,cond_true,cond_false];done)|(exfalso;simp_all;done)|decide) ⟨[],[0],(by decide),rfl,rfl,⟨.inl rfl,trivial⟩⟩⟩⟩)
end
def sp_used_e:Entry Sg:= λ
 |[(.agg ⟨[.pointer (some p_0), .int .i64 t, .int .i64 p, .int .i64 h]⟩, .many [.obj (.view s), .none, .none, .none]),(.int .i64 g,_),(.int .i64 n,_)]=>some ⟨(sp_used s t p h g n), λ(r_:VS)=>⟨[],some (.view (r_)),[], λss=>undef, λk_=> .no⟩⟩
 |_=>none
theorem sp_used_ok:EntryOk Dg Tryz.prog 186 sp_used_e:=by
 intro args c r h hr_
 unfold sp_used_e at h
 split at h
 ·injection h with h;subst h;subst hr_
  refine ⟨λK acs _=>pOk_no, λhpre E G w hi hS=>?_⟩
  exact entry_post Dg (by exact rfl) (sp_used_calls _ _ _ _ _ _ _ hS)
 ·cases h
def T_sp_used:List (Nat×Entry Sg):=(186,sp_used_e)::T_l14_Eight
theorem T_sp_used_ok:TableOk Dg Tryz.prog T_sp_used:=TableOk.cons Dg sp_used_ok T_l14_Eight_ok
def sp_free (s:VS) (t p h g:Int):VS×Int:=(let r1:Ty (Ct.RK c_place_Info):=place_Info t p h g;(let r2:Ty (Ct.RK c_view_Get):=(VS.read s r1,VS.get s r1);(let r3:Ty (Ct.RK c_info_Get):=info_Get r2.2;(bif r3.1 !=(1:Int) then (r2.1,(0:Int)) else (r2.1,r3.2.1)))))
def sp_free_out (r_:VS×Int):List Value→Value:= λss=> .int .i64 (r_.2)
def sp_free_nw (p_0:Addr) (r_:VS×Int):List (Chunk Sg):=[.obj p_0 (.view (r_.1))]
def sp_free_rows (r_:VS×Int):List (Mk Sg):=[]
section
variable (s:VS) (t p h g:Int) (p_0:Addr)
theorem sp_free_calls {E_:Ev} {G_:Hp} {w_:World} (hS:Sat E_ G_ w_ [Dg p_0 ((.view s))]):Calls Tryz.prog 138 #[(.agg #[.pointer (some p_0), .int .i64 t, .int .i64 p, .int .i64 h]),(.int .i64 g)] w_ (Post Dg E_ G_ (sp_free_out (sp_free s t p h g)) (sp_free_nw p_0 (sp_free s t p h g)) (sp_free_rows (sp_free s t p h g))):=
 calls_post Dg T_sp_used_ok (I:=[]) Tryz.func138 mix (B:=bodyOf Tryz.f138) (by kernel_rfl) [(.agg #[.pointer (some p_0), .int .i64 t, .int .i64 p, .int .i64 h]),(.int .i64 g)] [.many [.pt 0 .obj, .no, .no, .no], .no] (by kernel_rfl) (objs:=[.obj p_0 (.view s)]) (ros:=[]) (psOk_cons (by simp [pOk,psOk,cOk]) (psOk_cons pOk_no (psOk_nil))) (by kernel_rfl) (trivial) hS 400
  (t:=Tree.fresh λb=>Tree.two (Tree.bind (place_Info t p h g) λa=>Tree.two (Tree.bind (VS.read s a,VS.get s a) λa=>Tree.two (Tree.bind (info_Get a.2) λa_1=>Tree.fresh λb_1=>Tree.br (a_1.1 !=(1:Int)) (Tree.ret (vi_ (0:Int)) pn_ [Chunk.obj p_0 (Option.getD (some (Wr.inj wView a.1)) (Sg.view s)),kc_ b 163 [(iT (some p_0),po_ 0),(vi_ t,pn_),(vi_ p,pn_),(vi_ h,pn_)],kc_ b_1 105 [(vi_ a_1.1,pn_),(vi_ a_1.2.1,pn_),(vi_ a_1.2.2.1,pn_)]]) (Tree.ret (vi_ a_1.2.1) pn_ [Chunk.obj p_0 (Option.getD (some (Wr.inj wView a.1)) (Sg.view s)),kc_ b 163 [(iT (some p_0),po_ 0),(vi_ t,pn_),(vi_ p,pn_),(vi_ h,pn_)],kc_ b_1 105 [(vi_ a_1.1,pn_),(vi_ a_1.2.1,pn_),(vi_ a_1.2.2.1,pn_)]])) (Tree.fresh λb_1=>Tree.bind (info_Get a.2) λa_1=>Tree.br (a_1.1 !=(1:Int)) (Tree.ret (vi_ (0:Int)) pn_ [Chunk.obj p_0 (Option.getD (some (Wr.inj wView a.1)) (Sg.view s)),kc_ b 163 [(iT (some p_0),po_ 0),(vi_ t,pn_),(vi_ p,pn_),(vi_ h,pn_)],kc_ b_1 105 [(vi_ a_1.1,pn_),(vi_ a_1.2.1,pn_),(vi_ a_1.2.2.1,pn_)]]) (Tree.ret (vi_ a_1.2.1) pn_ [Chunk.obj p_0 (Option.getD (some (Wr.inj wView a.1)) (Sg.view s)),kc_ b 163 [(iT (some p_0),po_ 0),(vi_ t,pn_),(vi_ p,pn_),(vi_ h,pn_)],kc_ b_1 105 [(vi_ a_1.1,pn_),(vi_ a_1.2.1,pn_),(vi_ a_1.2.2.1,pn_)]]))) (Tree.fresh λb_1=>Tree.bind (VS.read s a,VS.get s a) λa=>Tree.bind (info_Get a.2) λa_1=>Tree.br (a_1.1 !=(1:Int)) (Tree.ret (vi_ (0:Int)) pn_ [Chunk.obj p_0 (Option.getD (some (Wr.inj wView a.1)) (Sg.view s)),kc_ b 163 [(iT (some p_0),po_ 0),(vi_ t,pn_),(vi_ p,pn_),(vi_ h,pn_)],kc_ b_1 105 [(vi_ a_1.1,pn_),(vi_ a_1.2.1,pn_),(vi_ a_1.2.2.1,pn_)]]) (Tree.ret (vi_ a_1.2.1) pn_ [Chunk.obj p_0 (Option.getD (some (Wr.inj wView a.1)) (Sg.view s)),kc_ b 163 [(iT (some p_0),po_ 0),(vi_ t,pn_),(vi_ p,pn_),(vi_ h,pn_)],kc_ b_1 105 [(vi_ a_1.1,pn_),(vi_ a_1.2.1,pn_),(vi_ a_1.2.2.1,pn_)]]))) (Tree.fresh λb_1=>Tree.bind (place_Info t p h g) λa=>Tree.bind (VS.read s a,VS.get s a) λa=>Tree.bind (info_Get a.2) λa_1=>Tree.br (a_1.1 !=(1:Int)) (Tree.ret (vi_ (0:Int)) pn_ [Chunk.obj p_0 (Option.getD (some (Wr.inj wView a.1)) (Sg.view s)),kc_ b 163 [(iT (some p_0),po_ 0),(vi_ t,pn_),(vi_ p,pn_),(vi_ h,pn_)],kc_ b_1 105 [(vi_ a_1.1,pn_),(vi_ a_1.2.1,pn_),(vi_ a_1.2.2.1,pn_)]]) (Tree.ret (vi_ a_1.2.1) pn_ [Chunk.obj p_0 (Option.getD (some (Wr.inj wView a.1)) (Sg.view s)),kc_ b 163 [(iT (some p_0),po_ 0),(vi_ t,pn_),(vi_ p,pn_),(vi_ h,pn_)],kc_ b_1 105 [(vi_ a_1.1,pn_),(vi_ a_1.2.1,pn_),(vi_ a_1.2.2.1,pn_)]])))
  (by kernel_rfl)
  (λb0_0=>⟨λr1 e1=>⟨λr2 e2=>⟨λr3 e3=> λb4_0=>⟨λz5=>RetOk.at (outf:=sp_free_out) (nwf:=sp_free_nw p_0) (rowsf:=sp_free_rows) (r:=(r2.1,(0:Int))) (by subst e1;subst e2;subst e3;first|exact Eq.symm ((cT z5).trans rfl)|(simp only [sp_free,z5,cond_true,cond_false];done)|(exfalso;simp_all;done)|decide) ⟨[],[0],(by decide),rfl,rfl,⟨.inl rfl,trivial⟩⟩, λz5=>RetOk.at (outf:=sp_free_out) (nwf:=sp_free_nw p_0) (rowsf:=sp_free_rows) (r:=(r2.1,r3.2.1)) (by subst e1;subst e2;subst e3;first|exact Eq.symm ((cF z5).trans rfl)|(simp only [sp_free,z5,cond_true,cond_false];done)|(exfalso;simp_all;done)|decide) ⟨[],[0],(by decide),rfl,rfl,⟨.inl rfl,trivial⟩⟩⟩, λb3_0=> λr4 e4=>⟨λz5=>RetOk.at (outf:=sp_free_out) (nwf:=sp_free_nw p_0) (rowsf:=sp_free_rows) (r:=(r2.1,(0:Int))) (by subst e1;subst e2;subst e4;first|exact Eq.symm ((cT z5).trans rfl)|(simp only [sp_free,z5,cond_true,cond_false];done)|(exfalso;simp_all;done)|decide) ⟨[],[0],(by decide),rfl,rfl,⟨.inl rfl,trivial⟩⟩, λz5=>RetOk.at (outf:=sp_free_out) (nwf:=sp_free_nw p_0) (rowsf:=sp_free_rows) (r:=(r2.1,r4.2.1)) (by subst e1;subst e2;subst e4;first|exact Eq.symm ((cF z5).trans rfl)|(simp only [sp_free,z5,cond_true,cond_false];done)|(exfalso;simp_all;done)|decide) ⟨[],[0],(by decide),rfl,rfl,⟨.inl rfl,trivial⟩⟩⟩⟩, λb2_0=> λr3 e3=> λr4 e4=>⟨λz5=>RetOk.at (outf:=sp_free_out) (nwf:=sp_free_nw p_0) (rowsf:=sp_free_rows) (r:=(r3.1,(0:Int))) (by subst e1;subst e3;subst e4;first|exact Eq.symm ((cT z5).trans rfl)|(simp only [sp_free,z5,cond_true,cond_false];done)|(exfalso;simp_all;done)|decide) ⟨[],[0],(by decide),rfl,rfl,⟨.inl rfl,trivial⟩⟩, λz5=>RetOk.at (outf:=sp_free_out) (nwf:=sp_free_nw p_0) (rowsf:=sp_free_rows) (r:=(r3.1,r4.2.1)) (by subst e1;subst e3;subst e4;first|exact Eq.symm ((cF z5).trans rfl)|(simp only [sp_free,z5,cond_true,cond_false];done)|(exfalso;simp_all;done)|decide) ⟨[],[0],(by decide),rfl,rfl,⟨.inl rfl,trivial⟩⟩⟩⟩, λb1_0=> λr2 e2=> λr3 e3=> λr4 e4=>⟨λz5=>RetOk.at (outf:=sp_free_out) (nwf:=sp_free_nw p_0) (rowsf:=sp_free_rows) (r:=(r3.1,(0:Int))) (by subst e2;subst e3;subst e4;first|exact Eq.symm ((cT z5).trans rfl)|(simp only [sp_free,z5,cond_true,cond_false];done)|(exfalso;simp_all;done)|decide) ⟨[],[0],(by decide),rfl,rfl,⟨.inl rfl,trivial⟩⟩, λz5=>RetOk.at (outf:=sp_free_out) (nwf:=sp_free_nw p_0) (rowsf:=sp_free_rows) (r:=(r3.1,r4.2.1)) (by subst e2;subst e3;subst e4;first|exact Eq.symm ((cF z5).trans rfl)|(simp only [sp_free,z5,cond_true,cond_false];done)|(exfalso;simp_all;done)|decide) ⟨[],[0],(by decide),rfl,rfl,⟨.inl rfl,trivial⟩⟩⟩⟩)
end
def sp_free_e:Entry Sg:= λ
 |[(.agg ⟨[.pointer (some p_0), .int .i64 t, .int .i64 p, .int .i64 h]⟩, .many [.obj (.view s), .none, .none, .none]),(.int .i64 g,_)]=>some ⟨(sp_free s t p h g), λ(r_:VS×Int)=>⟨[],some (.view (r_.1)),[], λss=> .int .i64 (r_.2), λk_=> .no⟩⟩
 |_=>none
theorem sp_free_ok:EntryOk Dg Tryz.prog 138 sp_free_e:=by
 intro args c r h hr_
 unfold sp_free_e at h
 split at h
 ·injection h with h;subst h;subst hr_
  refine ⟨λK acs _=>pOk_no, λhpre E G w hi hS=>?_⟩
  exact entry_post Dg (by exact rfl) (sp_free_calls _ _ _ _ _ _ hS)
 ·cases h
def T_sp_free:List (Nat×Entry Sg):=(138,sp_free_e)::T_sp_used
theorem T_sp_free_ok:TableOk Dg Tryz.prog T_sp_free:=TableOk.cons Dg sp_free_ok T_sp_used_ok
def sp_count (s:VS) (t p h n:Int):VS:=(let r1:Ty (Ct.RK c_view_Get):=(VS.read s (0:Int),VS.get s (0:Int));(let r2:Ty (Ct.RK c_view_Put):=VS.set r1.1 (0:Int) (iA iO (r1.2+iA iO n));r2))
def sp_count_out (r_:VS):List Value→Value:= λss=>undef
def sp_count_nw (p_0:Addr) (r_:VS):List (Chunk Sg):=[.obj p_0 (.view (r_))]
def sp_count_rows (r_:VS):List (Mk Sg):=[]
section
variable (s:VS) (t p h n:Int) (p_0:Addr)
theorem sp_count_calls {E_:Ev} {G_:Hp} {w_:World} (hS:Sat E_ G_ w_ [Dg p_0 ((.view s))]):Calls Tryz.prog 141 #[(.agg #[.pointer (some p_0), .int .i64 t, .int .i64 p, .int .i64 h]),(.int .i64 n)] w_ (Post Dg E_ G_ (sp_count_out (sp_count s t p h n)) (sp_count_nw p_0 (sp_count s t p h n)) (sp_count_rows (sp_count s t p h n))):=
 calls_post Dg T_sp_free_ok (I:=[]) Tryz.func141 mix (B:=bodyOf Tryz.f141) (by kernel_rfl) [(.agg #[.pointer (some p_0), .int .i64 t, .int .i64 p, .int .i64 h]),(.int .i64 n)] [.many [.pt 0 .obj, .no, .no, .no], .no] (by kernel_rfl) (objs:=[.obj p_0 (.view s)]) (ros:=[]) (psOk_cons (by simp [pOk,psOk,cOk]) (psOk_cons pOk_no (psOk_nil))) (by kernel_rfl) (trivial) hS 400
  (t:=Tree.fresh λb=>Tree.bind (VS.read s (0:Int),VS.get s (0:Int)) λa=>Tree.bind (VS.set a.1 (0:Int) (iA iO (a.2+iA iO n))) λa_1=>Tree.need (bd32 (iA iO (a.2+iA iO n))) (Tree.ret (Value.tuple {toList:=[]}) pn_ [Chunk.obj p_0 (Option.getD (some (Wr.inj wView a_1)) (Option.getD (some (Wr.inj wView a.1)) (Sg.view s))),kc_ b 163 [(iT (some p_0),po_ 0),(vi_ t,pn_),(vi_ p,pn_),(vi_ h,pn_)]]))
  (by kernel_rfl)
  (λb0_0=> λr1 e1=> λr2 e2=>⟨by first|exact wu32_bd _|exact VS.get_bd _ _|exact zero_bd|(rw [info_Put_val];exact iVal_bd _ _ _)|(subst_vars;exact VS.get_bd _ _)|omega, λy3=>RetOk.at (outf:=sp_count_out) (nwf:=sp_count_nw p_0) (rowsf:=sp_count_rows) (r:=r2) (by subst e1;subst e2;first|exact Eq.symm rfl|(simp only [sp_count,cond_true,cond_false];done)|(exfalso;simp_all;done)|decide) ⟨[],[0],(by decide),rfl,rfl,⟨.inl rfl,trivial⟩⟩⟩)
end
def sp_count_e:Entry Sg:= λ
 |[(.agg ⟨[.pointer (some p_0), .int .i64 t, .int .i64 p, .int .i64 h]⟩, .many [.obj (.view s), .none, .none, .none]),(.int .i64 n,_)]=>some ⟨(sp_count s t p h n), λ(r_:VS)=>⟨[],some (.view (r_)),[], λss=>undef, λk_=> .no⟩⟩
 |_=>none
theorem sp_count_ok:EntryOk Dg Tryz.prog 141 sp_count_e:=by
 intro args c r h hr_
 unfold sp_count_e at h
 split at h
 ·injection h with h;subst h;subst hr_
  refine ⟨λK acs _=>pOk_no, λhpre E G w hi hS=>?_⟩
  exact entry_post Dg (by exact rfl) (sp_count_calls _ _ _ _ _ _ hS)
 ·cases h
def T_sp_count:List (Nat×Entry Sg):=(141,sp_count_e)::T_sp_free
theorem T_sp_count_ok:TableOk Dg Tryz.prog T_sp_count:=TableOk.cons Dg sp_count_ok T_sp_free_ok
def sp_join (s:VS) (t p h g b:Int):VS×Int:=(let r1:Ty (Ct.RK c_bin_Drop):=bin_Drop s t p h g;(let r2:Ty (Ct.RK c_view_Put):=VS.set r1.1 (place_Info t p h b) (0:Int);(let r4:Ty (Ct.RK c_view_Put):=VS.set r2 (place_Foot t p h (iA iB (b-(1:Int)))) (0:Int);(r4,r1.2))))
def sp_join_out (r_:VS×Int):List Value→Value:= λss=> .int .i64 (r_.2)
def sp_join_nw (p_0:Addr) (r_:VS×Int):List (Chunk Sg):=[.obj p_0 (.view (r_.1))]
def sp_join_rows (r_:VS×Int):List (Mk Sg):=[]
section
variable (s:VS) (t p h g b:Int) (p_0:Addr)
theorem sp_join_calls {E_:Ev} {G_:Hp} {w_:World} (hS:Sat E_ G_ w_ [Dg p_0 ((.view s))]):Calls Tryz.prog 139 #[(.agg #[.pointer (some p_0), .int .i64 t, .int .i64 p, .int .i64 h]),(.int .i64 g),(.int .i64 b)] w_ (Post Dg E_ G_ (sp_join_out (sp_join s t p h g b)) (sp_join_nw p_0 (sp_join s t p h g b)) (sp_join_rows (sp_join s t p h g b))):=
 calls_post Dg T_sp_count_ok (I:=[]) Tryz.func139 mix (B:=bodyOf Tryz.f139) (by kernel_rfl) [(.agg #[.pointer (some p_0), .int .i64 t, .int .i64 p, .int .i64 h]),(.int .i64 g),(.int .i64 b)] [.many [.pt 0 .obj, .no, .no, .no], .no, .no] (by kernel_rfl) (objs:=[.obj p_0 (.view s)]) (ros:=[]) (psOk_cons (by simp [pOk,psOk,cOk]) (psOk_cons pOk_no (psOk_cons pOk_no (psOk_nil)))) (by kernel_rfl) (trivial) hS 400
  (t:=Tree.fresh λb_1=>Tree.bind (bin_Drop s t p h g) λa=>Tree.bind (VS.set a.1 (place_Info t p h b) (0:Int)) λa_1=>Tree.need (bd32 (0:Int)) (Tree.bind (VS.set a_1 (place_Foot t p h (iA iB (b-(1:Int)))) (0:Int)) λa_2=>Tree.need (bd32 (0:Int)) (Tree.ret (vi_ a.2) pn_ [Chunk.obj p_0 (Option.getD (some (Wr.inj wView a_2)) (Option.getD (some (Wr.inj wView a_1)) (Option.getD (some (Wr.inj wView a.1)) (Sg.view s)))),kc_ b_1 163 [(iT (some p_0),po_ 0),(vi_ t,pn_),(vi_ p,pn_),(vi_ h,pn_)]])))
  (by kernel_rfl)
  (λb0_0=> λr1 e1=> λr2 e2=>⟨by first|exact wu32_bd _|exact VS.get_bd _ _|exact zero_bd|(rw [info_Put_val];exact iVal_bd _ _ _)|(subst_vars;exact VS.get_bd _ _)|omega, λy3=> λr4 e4=>⟨by first|exact wu32_bd _|exact VS.get_bd _ _|exact zero_bd|(rw [info_Put_val];exact iVal_bd _ _ _)|(subst_vars;exact VS.get_bd _ _)|omega, λy5=>RetOk.at (outf:=sp_join_out) (nwf:=sp_join_nw p_0) (rowsf:=sp_join_rows) (r:=(r4,r1.2)) (by subst e1;subst e2;subst e4;first|exact Eq.symm rfl|(simp only [sp_join,cond_true,cond_false];done)|(exfalso;simp_all;done)|decide) ⟨[],[0],(by decide),rfl,rfl,⟨.inl rfl,trivial⟩⟩⟩⟩)
end
def sp_join_e:Entry Sg:= λ
 |[(.agg ⟨[.pointer (some p_0), .int .i64 t, .int .i64 p, .int .i64 h]⟩, .many [.obj (.view s), .none, .none, .none]),(.int .i64 g,_),(.int .i64 b,_)]=>some ⟨(sp_join s t p h g b), λ(r_:VS×Int)=>⟨[],some (.view (r_.1)),[], λss=> .int .i64 (r_.2), λk_=> .no⟩⟩
 |_=>none
theorem sp_join_ok:EntryOk Dg Tryz.prog 139 sp_join_e:=by
 intro args c r h hr_
 unfold sp_join_e at h
 split at h
 ·injection h with h;subst h;subst hr_
  refine ⟨λK acs _=>pOk_no, λhpre E G w hi hS=>?_⟩
  exact entry_post Dg (by exact rfl) (sp_join_calls _ _ _ _ _ _ _ hS)
 ·cases h
def T_sp_join:List (Nat×Entry Sg):=(139,sp_join_e)::T_sp_count
theorem T_sp_join_ok:TableOk Dg Tryz.prog T_sp_join:=TableOk.cons Dg sp_join_ok T_sp_count_ok
def sp_ahead (s:VS) (t p h g:Int):VS×Int:=(bif g==(0:Int) then (s,(-1:Int)) else (let r2:Ty (Ct.RK c_view_Get):=(VS.read s (place_Foot t p h (iA iB (g-(1:Int)))),VS.get s (place_Foot t p h (iA iB (g-(1:Int)))));(r2.1,iA iB (iA iB r2.2-(1:Int)))))
def sp_ahead_out (r_:VS×Int):List Value→Value:= λss=> .int .i64 (r_.2)
def sp_ahead_nw (p_0:Addr) (r_:VS×Int):List (Chunk Sg):=[.obj p_0 (.view (r_.1))]
def sp_ahead_rows (r_:VS×Int):List (Mk Sg):=[]
section
variable (s:VS) (t p h g:Int) (p_0:Addr)
theorem sp_ahead_calls {E_:Ev} {G_:Hp} {w_:World} (hS:Sat E_ G_ w_ [Dg p_0 ((.view s))]):Calls Tryz.prog 137 #[(.agg #[.pointer (some p_0), .int .i64 t, .int .i64 p, .int .i64 h]),(.int .i64 g)] w_ (Post Dg E_ G_ (sp_ahead_out (sp_ahead s t p h g)) (sp_ahead_nw p_0 (sp_ahead s t p h g)) (sp_ahead_rows (sp_ahead s t p h g))):=
 calls_post Dg T_sp_join_ok (I:=[]) Tryz.func137 mix (B:=bodyOf Tryz.f137) (by kernel_rfl) [(.agg #[.pointer (some p_0), .int .i64 t, .int .i64 p, .int .i64 h]),(.int .i64 g)] [.many [.pt 0 .obj, .no, .no, .no], .no] (by kernel_rfl) (objs:=[.obj p_0 (.view s)]) (ros:=[]) (psOk_cons (by simp [pOk,psOk,cOk]) (psOk_cons pOk_no (psOk_nil))) (by kernel_rfl) (trivial) hS 400
  (t:=Tree.fresh λb=>Tree.br (g==(0:Int)) (Tree.ret (vi_ (-1:Int)) pn_ [Chunk.obj p_0 (Sg.view s),kc_ b 163 [(iT (some p_0),po_ 0),(vi_ t,pn_),(vi_ p,pn_),(vi_ h,pn_)]]) (Tree.bind (VS.read s (place_Foot t p h (iA iB (g-(1:Int)))),VS.get s (place_Foot t p h (iA iB (g-(1:Int))))) λa=>Tree.ret (vi_ (iA iB (iA iB a.2-(1:Int)))) pn_ [Chunk.obj p_0 (Option.getD (some (Wr.inj wView a.1)) (Sg.view s)),kc_ b 163 [(iT (some p_0),po_ 0),(vi_ t,pn_),(vi_ p,pn_),(vi_ h,pn_)]]))
  (by kernel_rfl)
  (λb0_0=>⟨λz1=>RetOk.at (outf:=sp_ahead_out) (nwf:=sp_ahead_nw p_0) (rowsf:=sp_ahead_rows) (r:=(s,(-1:Int))) (by first|exact Eq.symm ((cT z1).trans rfl)|(simp only [sp_ahead,z1,cond_true,cond_false];done)|(exfalso;simp_all;done)|decide) ⟨[],[0],(by decide),rfl,rfl,⟨.inl rfl,trivial⟩⟩, λz1=> λr2 e2=>RetOk.at (outf:=sp_ahead_out) (nwf:=sp_ahead_nw p_0) (rowsf:=sp_ahead_rows) (r:=(r2.1,iA iB (iA iB r2.2-(1:Int)))) (by subst e2;first|exact Eq.symm ((cF z1).trans rfl)|(simp only [sp_ahead,z1,cond_true,cond_false];done)|(exfalso;simp_all;done)|decide) ⟨[],[0],(by decide),rfl,rfl,⟨.inl rfl,trivial⟩⟩⟩)
end
def sp_ahead_e:Entry Sg:= λ
 |[(.agg ⟨[.pointer (some p_0), .int .i64 t, .int .i64 p, .int .i64 h]⟩, .many [.obj (.view s), .none, .none, .none]),(.int .i64 g,_)]=>some ⟨(sp_ahead s t p h g), λ(r_:VS×Int)=>⟨[],some (.view (r_.1)),[], λss=> .int .i64 (r_.2), λk_=> .no⟩⟩
 |_=>none
theorem sp_ahead_ok:EntryOk Dg Tryz.prog 137 sp_ahead_e:=by
 intro args c r h hr_
 unfold sp_ahead_e at h
 split at h
 ·injection h with h;subst h;subst hr_
  refine ⟨λK acs _=>pOk_no, λhpre E G w hi hS=>?_⟩
  exact entry_post Dg (by exact rfl) (sp_ahead_calls _ _ _ _ _ _ hS)
 ·cases h
def T_sp_ahead:List (Nat×Entry Sg):=(137,sp_ahead_e)::T_sp_join
theorem T_sp_ahead_ok:TableOk Dg Tryz.prog T_sp_ahead:=TableOk.cons Dg sp_ahead_ok T_sp_join_ok
end
end Go.Proofs.YtjfabjhlkpgckaaGreat
namespace Go.Sl
section
abbrev wI (x:Int):Int:=iA iB x
section
variable (c:Cf)
def qUsed (p n:Int):Pg Unit:= .put (c.info p) (iVal 2 n 0) <| .put (c.foot (wI (wI (p+n)-1))) (nv (p+1)) (.ret ())
def qJoin (p b:Int):Pg Int:=(pDrop c p).bind λl=> .put (c.info b) 0 <| .put (c.foot (wI (b-1))) 0 (.ret l)
def qTake (n:Int):Pg (Int×Bool):=
 (pFind c n).bind λr=>bif r.2 then
   (pDrop c r.1).bind λl=>(qUsed c r.1 n).bind λ_=>
     (bif decide (n<l) then pAdd c (wI (r.1+n)) (wI (l-n)) else .ret ()).bind λ_=>(pCount (-n)).bind λ_=> .ret (r.1,true)
 else .ret (0,false)
def qAhead (p n:Int):Pg (Int×Int):=
 bif p==0 then .ret (p,n) else .get (c.foot (wI (p-1))) λf=>
  (pFree c (f-1)).bind λl=>bif decide (0<l) then (qJoin c (f-1) p).bind λm=> .ret (f-1,wI (n+m)) else .ret (p,n)
def qNext (r:Int) (a:Int×Int):Pg (Int×Int):=
 bif decide (r<c.p) then (pFree c r).bind λl=>bif decide (0<l) then (qJoin c r r).bind λm=> .ret (a.1,wI (a.2+m)) else .ret a else .ret a
def qRelease (p n:Int):Pg Unit:=
 (qAhead c p n).bind λa=>(qNext c (wI (p+n)) a).bind λa=>(pAdd c a.1 a.2).bind λ_=>pCount n
end
theorem get_out1 (s:VS) {i:Int} (h:i<0):s.get i=0∧s.read i=s:=by
 have:s.there i=false:=by
  simp only [VS.there,Bool.and_eq_false_iff,decide_eq_false_iff_not]
  omega
 unfold VS.get VS.read
 rw [this]
 exact ⟨rfl,rfl⟩
end
end Go.Sl
namespace Go.Proofs.YtjfabjhlkpgckaaGreat
section
open Go.Sl
theorem nvadd (x y:Int):nv (x+nv y)=nv (x+y):=by unfold nv;omega
theorem nvsub (x y:Int):nv (x-nv y)=nv (x+ -y):=by unfold nv;omega
theorem nvwi0 (y:Int):nv (iA iB y)=nv y:=by rw [IntKind.wrap_i64];unfold nv;omega
theorem nvaddw (x y:Int):nv (x+iA iB y)=nv (x+y):=by rw [IntKind.wrap_i64];unfold nv;omega
theorem dpos (v:Int):decide (0<bif (iGet v).k==1 then (iGet v).l else 0)=((iGet v).k==1):=by
 have hi:=iGet_cases v
 cases hk:(iGet v).k==1 with
 |false=>rfl
 |true=>
  simp only [beq_iff_eq] at hk
  simp only [cond_true,decide_eq_true_eq];omega
theorem spFree_eq (s:VS) (t p h g:Int):sp_free s t p h g=(pFree ⟨t,p,h⟩ g).run s:=by
 simp only [sp_free,pFree,Pg.run_get,Pg.run_ret,place_Info_eq,infoG1,infoG2,bne]
 cases (iGet (s.get (Cf.info ⟨t,p,h⟩ g))).k==1<;>rfl
theorem dposr (c:Cf) (g:Int) (s:VS):decide (0<((pFree c g).run s).2)=((iGet (s.get (c.info g))).k==1):=dpos _
theorem pFreeR (c:Cf) (g:Int) (s:VS):(pFree c g).run s=(s.read (c.info g),bif (iGet (s.get (c.info g))).k==1 then (iGet (s.get (c.info g))).l else 0):=rfl
theorem nvnegw (x y:Int):nv (x+ -iA iB y)=nv (x+ -y):=by rw [IntKind.wrap_i64];unfold nv;omega
theorem dz0:decide ((0:Int)<0)=false:=rfl
theorem dge1 (x:Int):decide (0≤x-1)=decide (1≤x):=decide_eq_decide.2 (by omega)
theorem dneg:decide ((0:Int)≤ -1)=false:=rfl
theorem get_fb (s:VS) (i:Int):iA iB (s.get i)=s.get i:=w64g s i
theorem get_fb1 (s:VS) (i:Int):iA iB (s.get i-1)=s.get i-1:=w64g1 s i
def span_Take (s:VS) (t p h n:Int):VS×Int×Bool:=(qTake ⟨t,p,h⟩ n).run s
abbrev c_span_Take:Ct Sg:=⟨some wView,false,[.agg [.i .i64, .i .i64, .i .i64], .i .i64], .tup [.i .i64, .b]⟩
def e_span_Take:Entry Sg:=entC c_span_Take span_Take (λs t p h n=>[p≤1024])
def span_Take_w (s:VS) (t p h n:Int) (R_:VS×Int×Bool→Prop):Prop:=(∀r2:VS×Int×Bool,r2=(bin_Find s t p h n)→(aw_ (p≤9223372036854775807) (bw_ (!r2.2.2) (R_ ((r2.1,0,false))) (∀r5:VS×Int,r5=(bin_Drop r2.1 t p h r2.2.1)→(∀r6:VS,r6=(sp_used r5.1 t p h r2.2.1 n)→(bw_ (decide (r5.2>n)) (∀r8:VS,r8=(bin_Add r6 t p h (iA iB (r2.2.1+n)) (iA iB (r5.2-n)))→(aw_ (p≤1024) (∀r10:VS,r10=(sp_count r8 t p h (iA iB (0-n)))→(R_ ((r10,r2.2.1,true)))))) (∀r8:VS,r8=(sp_count r6 t p h (iA iB (0-n)))→(R_ ((r8,r2.2.1,true))))))))))
theorem span_Take_begin (s:VS) (t p h n:Int) (hp0:p≤1024):span_Take_w s t p h n (λr__=>r__=(span_Take s t p h n)):=by
 unfold span_Take_w
 repeat' first
  |(refine λr hr=>?_;subst hr)
  |refine ⟨(by first|exact wu32_bd _|exact VS.get_bd _ _|exact zero_bd|exact iVal_bd _ _ _|exact nv_bd _|(rw [info_Put_val];exact iVal_bd _ _ _)|(rw [r09_Value_eq];exact iVal_bd _ _ _)|assumption|omega), λ_=>?_⟩
  |refine ⟨λhc=>?_, λhc=>?_⟩
  |(refine λhr=>?_;subst hr)
  |fail
 all_goals
  simp only [link_page_eq,page_ne t p h,link_next,link_prev,place_Next_eq,place_Prev_eq,r07_Next_eq,r07_Prev_eq,link_to,w64g,w64g1,wrapu_nv,nvw,nvw2,bin_page,place_Info_eq,place_Foot_eq,r07_Info_eq,r07_Foot_eq,place_Bin_eq,r07_Bin_eq,info_Put_val,r09_Value_eq,bin_Of,Bc,infoG1,infoG2,infoG3,rinfoG1,rinfoG2,rinfoG3,gt_iff_lt,bin_Find,FI,bin_Drop,Bj,bin_Add,AU,sp_used,spFree_eq,sp_count,nvadd,nvsub,nvwi0,nvaddw,nvnegw,Int.zero_sub,get_fb,get_fb1,dge1,dneg,ge_iff_le,bne,jB,jF,reduceCtorEq] at*
 all_goals
  skip
 all_goals
  simp only [span_Take,qUsed,pCount,qJoin,wI,nvadd,nvsub,nvaddw,nvnegw,qTake,Pg.run_get,Pg.run_put,Pg.run_ret,Pg.run_bind,Pg.run_cond,gt_iff_lt,cond_true,cond_false, *]
 all_goals
  try rfl
theorem span_Take_ok:EOk 159 e_span_Take:=
 ent_w0 Dg T_sp_ahead_ok (I:=[2999998]) Tryz.func159 mix (B:=bodyOf Tryz.f159) (by kernel_rfl) rfl (by kernel_rfl) 400
  λ_ s t p h n hb hp=>⟨_, λ_ _ _=>by kernel_rfl,span_Take_begin s t p h n (hp _ (.head _))⟩
def T_span_Take:Tb:=(159,e_span_Take)::T_sp_ahead
theorem T_span_Take_ok:TOk T_span_Take:=tc_ span_Take_ok T_sp_ahead_ok
def span_Release (s:VS) (t p h g n:Int):VS:=((qRelease ⟨t,p,h⟩ g n).run s).1
abbrev c_span_Release:Ct Sg:=⟨some wView,false,[.agg [.i .i64, .i .i64, .i .i64], .i .i64, .i .i64], .skip⟩
def e_span_Release:Entry Sg:=entC c_span_Release span_Release (λs t p h g n=>[p≤1024,0≤g])
abbrev BP (p:Int) (r12:VS) (t h n:Int) (R_:VS→Prop):Prop:=(aw_ (p≤1024) (∀r14:VS,r14=(sp_count r12 t p h n)→(R_ (r14))))
abbrev Ia (g n p:Int) (r5:VS×Int) (t h:Int) (R_:VS→Prop):Prop:=(bw_ (decide (iA iB (g+n)<p)) (∀r8:VS×Int,r8=(sp_free r5.1 t p h (iA iB (g+n)))→(bw_ (decide (r8.2>0)) (∀r10:VS×Int,r10=((VS.set (VS.set (iF (bin_Drop r8.1 t p h (iA iB (g+n)))) (place_Info t p h (iA iB (g+n))) 0) (place_Foot t p h (iA iB (iA iB (g+n)-1))) 0,iH (bin_Drop r8.1 t p h (iA iB (g+n)))))→(∀r11:VS,r11=(bin_Add r10.1 t p h g (iA iB (n+r10.2)))→(BP p r11 t h n R_))) (∀r10:VS,r10=(bin_Add r8.1 t p h g n)→(BP p r10 t h n R_)))) (∀r8:VS,r8=(bin_Add r5.1 t p h g n)→(BP p r8 t h n R_)))
def span_Release_w (s:VS) (t p h g n:Int) (R_:VS→Prop):Prop:=(∀r3:VS×Int,r3=(sp_ahead s t p h g)→(bw_ (decide (r3.2≥0)) (∀r5:VS×Int,r5=(sp_free r3.1 t p h r3.2)→(bw_ (decide (r5.2>0)) (∀r7:VS×Int,r7=((VS.set (VS.set (iF (bin_Drop r5.1 t p h r3.2)) (place_Info t p h g) 0) (place_Foot t p h (iA iB (g-1))) 0,iH (bin_Drop r5.1 t p h r3.2)))→(bw_ (decide (iA iB (g+n)<p)) (∀r9:VS×Int,r9=(sp_free r7.1 t p h (iA iB (g+n)))→(bw_ (decide (r9.2>0)) (∀r11:VS×Int,r11=((VS.set (VS.set (iF (bin_Drop r9.1 t p h (iA iB (g+n)))) (place_Info t p h (iA iB (g+n))) 0) (place_Foot t p h (iA iB (iA iB (g+n)-1))) 0,iH (bin_Drop r9.1 t p h (iA iB (g+n)))))→(∀r12:VS,r12=(bin_Add r11.1 t p h r3.2 (iA iB (iA iB (n+r7.2)+r11.2)))→(BP p r12 t h n R_))) (∀r11:VS,r11=(bin_Add r9.1 t p h r3.2 (iA iB (n+r7.2)))→(BP p r11 t h n R_)))) (∀r9:VS,r9=(bin_Add r7.1 t p h r3.2 (iA iB (n+r7.2)))→(BP p r9 t h n R_)))) (Ia g n p r5 t h R_))) (Ia g n p r3 t h R_)))
theorem span_Release_begin (s:VS) (t p h g n:Int) (hp0:p≤1024) (hp1:0≤g):span_Release_w s t p h g n (λr__=>r__=(span_Release s t p h g n)):=by
 unfold span_Release_w Ia BP
 have hz:decide (1≤s.get (Cf.foot ⟨t,p,h⟩ (iA iB (g-1))))=false→∀s':VS,(pFree ⟨t,p,h⟩ (s.get (Cf.foot ⟨t,p,h⟩ (iA iB (g-1)))-1)).run s'=(s',0):= λhf s'=>by
  have hb:=VS.get_bd s (Cf.foot ⟨t,p,h⟩ (iA iB (g-1)))
  simp only [decide_eq_false_iff_not] at hf
  rw [show s.get (Cf.foot ⟨t,p,h⟩ (iA iB (g-1)))-1= -1 by omega]
  have e:Cf.info ⟨t,p,h⟩ (-1)= -1:=by
   unfold Cf.info Cf.pc Cf.page
   simp
  rw [pFreeR,e,(get_out1 s' (by decide)).1,(get_out1 s' (by decide)).2]
  rfl
 unfold sp_ahead
 cases hg0:g==0
 all_goals simp only [cond_true,cond_false]
 repeat' first
  |(refine λr hr=>?_;subst hr)
  |refine ⟨(by first|exact wu32_bd _|exact VS.get_bd _ _|exact zero_bd|exact iVal_bd _ _ _|exact nv_bd _|(rw [info_Put_val];exact iVal_bd _ _ _)|(rw [r09_Value_eq];exact iVal_bd _ _ _)|assumption|omega), λ_=>?_⟩
  |refine ⟨λhc=>?_, λhc=>?_⟩
  |(refine λhr=>?_;subst hr)
  |fail
 all_goals
  simp only [link_page_eq,page_ne t p h,link_next,link_prev,place_Next_eq,place_Prev_eq,r07_Next_eq,r07_Prev_eq,link_to,w64g,w64g1,wrapu_nv,nvw,nvw2,bin_page,place_Info_eq,place_Foot_eq,r07_Info_eq,r07_Foot_eq,place_Bin_eq,r07_Bin_eq,info_Put_val,r09_Value_eq,bin_Of,Bc,infoG1,infoG2,infoG3,rinfoG1,rinfoG2,rinfoG3,gt_iff_lt,bin_Find,FI,bin_Drop,Bj,bin_Add,AU,sp_used,spFree_eq,sp_count,nvadd,nvsub,nvwi0,nvaddw,nvnegw,Int.zero_sub,get_fb,get_fb1,dge1,dneg,ge_iff_le,bne,jB,jF,reduceCtorEq] at*
 all_goals
  skip
 all_goals
  simp only [span_Release,qUsed,pCount,qJoin,wI,nvadd,nvsub,nvaddw,nvnegw,qRelease,qAhead,qNext,dz0,Pg.run_get,Pg.run_put,Pg.run_ret,Pg.run_bind,Pg.run_cond,gt_iff_lt,cond_true,cond_false, *]
 all_goals
  try rfl
theorem span_Release_ok:EOk 100 e_span_Release:=
 ent_w0 Dg T_span_Take_ok (I:=[2999998]) Tryz.func100 mix (B:=bodyOf Tryz.f100) (by kernel_rfl) rfl (by kernel_rfl) 400
  λ_ s t p h g n hb hp=>⟨_, λ_ _ _=>by kernel_rfl,span_Release_begin s t p h g n (hp _ (.head _)) (hp _ (.tail _ (.head _)))⟩
def T_span_Release:Tb:=(100,e_span_Release)::T_span_Take
theorem T_span_Release_ok:TOk T_span_Release:=tc_ span_Release_ok T_span_Take_ok
def Lp (s:VS) (t p h n:Int):VS×Int×Bool:=(qTake ⟨t,p,h⟩ n).run s
def GG:Tb:=T_span_Release
theorem DU:TOk GG:=T_span_Release_ok
def BG (s:VS) (t p h g n:Int):VS:=((qRelease ⟨t,p,h⟩ g n).run s).1
abbrev IY:Ct Sg:=⟨some Ap,false,[.agg [.i .i64, .i .i64, .i .i64], .i .i64, .i .i64], .skip⟩
def DV:Entry Sg:=entC IY BG (λs t p h g n=>[p≤1024,0≤g])
abbrev BH (p:Int) (r25:VS) (n:Int) (R_:VS→Prop):Prop:=(aw_ (p≤1024) (∀r27:VS×Int,r27=((VS.read r25 0,VS.get r25 0))→(∀r28:VS,r28=(VS.set r27.1 0 (iA iO (r27.2+iA iO n)))→(aw_ (bd32 (iA iO (r27.2+iA iO n))) (R_ (r28))))))
abbrev Ib (r8:VS×Int×Int×Int) (t p h g n:Int) (R_:VS→Prop):Prop:=(bw_ (r8.2.1==1) (∀r11:VS×Int,r11=(Bj r8.1 t p h (iA iB (g+n)))→(∀r12:Int,r12=(r07_Info t p h (iA iB (g+n)))→(∀r13:VS,r13=(VS.set r11.1 r12 0)→(aw_ (bd32 0) (∀r15:Int,r15=(r07_Foot t p h (iA iB (iA iB (g+n)-1)))→(∀r16:VS,r16=(VS.set r13 r15 0)→(aw_ (bd32 0) (∀r18:VS,r18=(AU r16 t p h g (iA iB (n+r11.2)))→(BH p r18 n R_))))))))) (∀r11:VS,r11=(AU r8.1 t p h g n)→(BH p r11 n R_)))
def DW (s:VS) (t p h g n:Int) (R_:VS→Prop):Prop:=(bw_ (decide (g>0)) (∀r2:Int,r2=(r07_Foot t p h (iA iB (g-1)))→(∀r3:VS×Int,r3=((VS.read s r2,VS.get s r2))→(∀r4:VS×Int×Int×Int,r4=(Az r3.1 t p h (iA iB (iA iB r3.2-1)))→(bw_ (r4.2.1==1) (∀r7:VS×Int,r7=(Bj r4.1 t p h (iA iB (iA iB r3.2-1)))→(∀r8:Int,r8=(r07_Info t p h g)→(∀r9:VS,r9=(VS.set r7.1 r8 0)→(aw_ (bd32 0) (∀r11:Int,r11=(r07_Foot t p h (iA iB (g-1)))→(∀r12:VS,r12=(VS.set r9 r11 0)→(aw_ (bd32 0) (bw_ (decide (iA iB (g+n)<p)) (∀r15:VS×Int×Int×Int,r15=(Az r12 t p h (iA iB (g+n)))→(bw_ (r15.2.1==1) (∀r18:VS×Int,r18=(Bj r15.1 t p h (iA iB (g+n)))→(∀r19:Int,r19=(r07_Info t p h (iA iB (g+n)))→(∀r20:VS,r20=(VS.set r18.1 r19 0)→(aw_ (bd32 0) (∀r22:Int,r22=(r07_Foot t p h (iA iB (iA iB (g+n)-1)))→(∀r23:VS,r23=(VS.set r20 r22 0)→(aw_ (bd32 0) (∀r25:VS,r25=(AU r23 t p h (iA iB (iA iB r3.2-1)) (iA iB (iA iB (n+r7.2)+r18.2)))→(BH p r25 n R_))))))))) (∀r18:VS,r18=(AU r15.1 t p h (iA iB (iA iB r3.2-1)) (iA iB (n+r7.2)))→(BH p r18 n R_)))) (∀r15:VS,r15=(AU r12 t p h (iA iB (iA iB r3.2-1)) (iA iB (n+r7.2)))→(BH p r15 n R_)))))))))) (bw_ (decide (iA iB (g+n)<p)) (∀r8:VS×Int×Int×Int,r8=(Az r4.1 t p h (iA iB (g+n)))→(Ib r8 t p h g n R_)) (∀r8:VS,r8=(AU r4.1 t p h g n)→(BH p r8 n R_))))))) (bw_ (decide (iA iB (g+n)<p)) (∀r3:VS×Int×Int×Int,r3=(Az s t p h (iA iB (g+n)))→(Ib r3 t p h g n R_)) (∀r3:VS,r3=(AU s t p h g n)→(BH p r3 n R_))))
theorem ER (s:VS) (t p h g n:Int) (hp0:p≤1024) (hp1:0≤g):DW s t p h g n (λr__=>r__=(BG s t p h g n)):=by
 unfold DW Ib BH
 have hg1:(g==0)=!decide (0<g):=by
  apply Bool.eq_iff_iff.2
  simp only [beq_iff_eq,jB,decide_eq_false_iff_not];omega
 repeat' first
  |(refine λr hr=>?_;subst hr)
  |refine ⟨(by first|exact wu32_bd _|exact VS.get_bd _ _|exact zero_bd|exact iVal_bd _ _ _|exact nv_bd _|(rw [info_Put_val];exact iVal_bd _ _ _)|(rw [r09_Value_eq];exact iVal_bd _ _ _)|assumption|omega), λ_=>?_⟩
  |refine ⟨λhc=>?_, λhc=>?_⟩
  |(refine λhr=>?_;subst hr)
  |fail
 all_goals
  simp only [link_page_eq,page_ne t p h,link_next,link_prev,place_Next_eq,place_Prev_eq,r07_Next_eq,r07_Prev_eq,link_to,w64g,w64g1,wrapu_nv,nvw,nvw2,bin_page,place_Info_eq,place_Foot_eq,r07_Info_eq,r07_Foot_eq,place_Bin_eq,r07_Bin_eq,info_Put_val,r09_Value_eq,bin_Of,Bc,infoG1,infoG2,infoG3,rinfoG1,rinfoG2,rinfoG3,gt_iff_lt,bin_Find,FI,bin_Drop,Bj,bin_Add,AU,sp_used,spFree_eq,sp_count,nvadd,nvsub,nvwi0,nvaddw,nvnegw,Int.zero_sub,get_fb,get_fb1,dge1,dneg,ge_iff_le,Az,pInfo,Pg.run_get,Pg.run_ret,bne,jB,jF,reduceCtorEq] at*
 all_goals
  skip
 all_goals
  simp only [BG,qUsed,pCount,qJoin,wI,nvadd,nvsub,nvaddw,nvnegw, ↓dposr,pFreeR,qRelease,qAhead,qNext,hg1,jO,Bool.not_false,Pg.run_get,Pg.run_put,Pg.run_ret,Pg.run_bind,Pg.run_cond,gt_iff_lt,cond_true,cond_false, *]
 all_goals
  try rfl
theorem Ic:EOk 102 DV:=
 ent_w0 Dg DU (I:=[2999998]) Tryz.func102 mix (B:=bodyOf Tryz.f102) (by kernel_rfl) rfl (by kernel_rfl) 400
  λ_ s t p h g n hb hp=>⟨_, λ_ _ _=>by kernel_rfl,ER s t p h g n (hp _ (.head _)) (hp _ (.tail _ (.head _)))⟩
def DX:Tb:=(102,DV)::GG
theorem CQ:TOk DX:=tc_ Ic DU
end
section
open Go.Sl
def SlSlab1_bytes0:ByteArray:=⟨⟨[0,1,1,2,1,2,2,3,1,2,2,3,2,3,3,4,1,2,2,3,2,3,3,4,2,3,3,4,3,4,4,5,1,2,2,3,2,3,3,4,2,3,3,4,3,4,4,5,2,3,3,4,3,4,4,5,3,4,4,5,4,5,5,6,1,2,2,3,2,3,3,4,2,3,3,4,3,4,4,5,2,3,3,4,3,4,4,5,3,4,4,5,4,5,5,6,2,3,3,4,3,4,4,5,3,4,4,5,4,5,5,6,3,4,4,5,4,5,5,6,4,5,5,6,5,6,6,7,1,2,2,3,2,3,3,4,2,3,3,4,3,4,4,5,2,3,3,4,3,4,4,5,3,4,4,5,4,5,5,6,2,3,3,4,3,4,4,5,3,4,4,5,4,5,5,6,3,4,4,5,4,5,5,6,4,5,5,6,5,6,6,7,2,3,3,4,3,4,4,5,3,4,4,5,4,5,5,6,3,4,4,5,4,5,5,6,4,5,5,6,5,6,6,7,3,4,4,5,4,5,5,6,4,5,5,6,5,6,6,7,4,5,5,6,5,6,6,7,5,6,6,7,6,7,7,8]⟩⟩
def BQ (b:Int):Int:=iA iO ((1:Int)*2^min (iJ (iA IntKind.u64 b)) 32)
abbrev Lc:Ct Sg:=⟨none,false,[.i .i64], .i .u32⟩
def IE:Entry Sg:=entC Lc BQ (λ_=>[])
theorem KD:EOk 38 IE:=
 ent_ok Dg CQ (I:=[]) Tryz.func38 mix (B:=bodyOf Tryz.f38) (by kernel_rfl) rfl (by kernel_rfl) 400
  λ_ b hb hp=>⟨(BQ b),(.need (0≤iA IntKind.u64 b) .t), λ_ _ _=>by kernel_rfl,⟨(by rw [IntKind.wrap_u64];exact Int.emod_nonneg _ (by decide)), λz0=>trivial⟩,rfl⟩
def IG:Tb:=(38,IE)::DX
theorem EG:TOk IG:=tc_ KD CQ
def place_Rack (k:Int):Int:=place_within 13 k 9
abbrev c_place_Rack:Ct Sg:=⟨none,false,[.i .i64], .i .i64⟩
def e_place_Rack:Entry Sg:=entC c_place_Rack place_Rack (λ_=>[])
theorem place_Rack_ok:EOk 93 e_place_Rack:=
 ent_ok Dg EG (I:=[]) Tryz.func93 mix (B:=bodyOf Tryz.f93) (by kernel_rfl) rfl (by kernel_rfl) 400
  λ_ k hb hp=>⟨(place_Rack k), .t, λ_ _ _=>by kernel_rfl,trivial,rfl⟩
def T_place_Rack:Tb:=(93,e_place_Rack)::IG
theorem T_place_Rack_ok:TOk T_place_Rack:=tc_ place_Rack_ok EG
def place_Taken (t p s pg:Int):Int:=place_of t p s pg 5
abbrev c_place_Taken:Ct Sg:=⟨none,false,[.agg [.i .i64, .i .i64, .i .i64], .i .i64], .i .i64⟩
def e_place_Taken:Entry Sg:=entC c_place_Taken place_Taken (λ_ _ _ _=>[])
theorem place_Taken_ok:EOk 94 e_place_Taken:=
 ent_ok Dg T_place_Rack_ok (I:=[]) Tryz.func94 mix (B:=bodyOf Tryz.f94) (by kernel_rfl) rfl (by kernel_rfl) 400
  λ_ t p s pg hb hp=>⟨(place_Taken t p s pg), .t, λ_ _ _=>by kernel_rfl,trivial,rfl⟩
def T_place_Taken:Tb:=(94,e_place_Taken)::T_place_Rack
theorem T_place_Taken_ok:TOk T_place_Taken:=tc_ place_Taken_ok T_place_Rack_ok
def place_Slots (t p s pg:Int):Int:=place_of t p s pg 4
abbrev c_place_Slots:Ct Sg:=⟨none,false,[.agg [.i .i64, .i .i64, .i .i64], .i .i64], .i .i64⟩
def e_place_Slots:Entry Sg:=entC c_place_Slots place_Slots (λ_ _ _ _=>[])
theorem place_Slots_ok:EOk 121 e_place_Slots:=
 ent_ok Dg T_place_Taken_ok (I:=[]) Tryz.func121 mix (B:=bodyOf Tryz.f121) (by kernel_rfl) rfl (by kernel_rfl) 400
  λ_ t p s pg hb hp=>⟨(place_Slots t p s pg), .t, λ_ _ _=>by kernel_rfl,trivial,rfl⟩
def T_place_Slots:Tb:=(121,e_place_Slots)::T_place_Taken
theorem T_place_Slots_ok:TOk T_place_Slots:=tc_ place_Slots_ok T_place_Taken_ok
def class_slots:Int×Int×Int×Int×Int×Int×Int×Int×Int:=(32,21,16,10,8,5,4,3,2)
abbrev c_class_slots:Ct Sg:=⟨none,false,[], .agg [.i .i64, .i .i64, .i .i64, .i .i64, .i .i64, .i .i64, .i .i64, .i .i64, .i .i64]⟩
def e_class_slots:Entry Sg:=entC c_class_slots class_slots ([])
theorem class_slots_ok:EOk 161 e_class_slots:=
 ent_ok Dg T_place_Slots_ok (I:=[]) Tryz.func161 mix (B:=bodyOf Tryz.f161) (by kernel_rfl) rfl (by kernel_rfl) 400
  λ_ hb hp=>⟨class_slots, .t, λ_ _ _=>by kernel_rfl,trivial,rfl⟩
def T_class_slots:Tb:=(161,e_class_slots)::T_place_Slots
theorem T_class_slots_ok:TOk T_class_slots:=tc_ class_slots_ok T_place_Slots_ok
abbrev c_class_Slots:Ct Sg:=⟨none,false,[.i .i64], .i .i64⟩
def e_class_Slots:Entry Sg:=entC c_class_Slots kSlots (λ_=>[])
theorem ent_or {c:Ct Sg} {P:Program} {f:FuncId} {F:Cur c.AK (Ty c.RK)} {pre pre1 pre2:Cur c.AK (List Prop)} (h1:EntryOk Dg P f (entC c F pre1)) (h2:EntryOk Dg P f (entC c F pre2))
 (h:∀cs,(∀p∈appC c.AK pre cs,p)→(∀p∈appC c.AK pre1 cs,p)∨(∀p∈appC c.AK pre2 cs,p)):EntryOk Dg P f (entC c F pre):=by
 intro args d r hd hr
 unfold entC at hd
 split at hd
 rotate_left
 ·cases hd
 rename_i cs hcs
 injection hd with hd;subst hd;subst hr
 have e1:entC c F pre1 args=some ⟨appC c.AK F cs, λr=>⟨appC c.AK pre1 cs,newC c.rob (toCm c.RK r),c.mksC r,c.outC r,c.rs.outp⟩⟩:=by unfold entC;rw [hcs]
 have e2:entC c F pre2 args=some ⟨appC c.AK F cs, λr=>⟨appC c.AK pre2 cs,newC c.rob (toCm c.RK r),c.mksC r,c.outC r,c.rs.outp⟩⟩:=by unfold entC;rw [hcs]
 refine ⟨(h1 args _ _ e1 rfl).1, λhp=>?_⟩
 rcases h cs hp with hp|hp
 ·exact (h1 args _ _ e1 rfl).2 hp
 ·exact (h2 args _ _ e2 rfl).2 hp
theorem class_Slots_ok1:EntryOk Dg Tryz.prog 119 (entC c_class_Slots kSlots λk=>[¬(0≤k∧k<9)]):=
 ent_ok Dg T_class_slots_ok (I:=[]) Tryz.func119 mix (B:=bodyOf Tryz.f119) (by kernel_rfl) rfl (by kernel_rfl) 26
  λ_ (k:Int) hb hp=>by
 have h:¬(0≤k∧k<9):=hp _ (.head _)
 refine ⟨bif decide (k<0)||decide (k≥9) then (0:Int) else (0:Int), .br (decide (k<0)||decide (k≥9)) .t (.need (0≤k∧k<9) (.need False .t)), λ_ _ _=>by kernel_rfl,⟨λ_=>trivial, λhc=>?_⟩,?_⟩
 ·exfalso;simp at hc;omega
 ·show _=kSlots k
  have hk:kSlots k=0:=by
   unfold kSlots
   by_cases h0:0≤k
   ·have e:decide (0≤k)=true:=by simpa using h0
    rw [e,cond_true,iI,jG (by simp;omega)];rfl
   ·have e:decide (0≤k)=false:=by simpa using h0
    rw [e];rfl
  rw [hk];cases decide (k<0)||decide (k≥9)<;>rfl
theorem class_Slots_ok2:EntryOk Dg Tryz.prog 119 (entC c_class_Slots kSlots λk=>[0≤k∧k<9]):=
 ent_ok Dg T_class_slots_ok (I:=[]) Tryz.func119 mix (B:=bodyOf Tryz.f119) (by kernel_rfl) rfl (by kernel_rfl) 400
  λ_ (k:Int) hb hp=>by
 have h:0≤k∧k<9:=hp _ (.head _)
 have h':k=0∨k=1∨k=2∨k=3∨k=4∨k=5∨k=6∨k=7∨k=8:=by omega
 rcases h' with rfl|rfl|rfl|rfl|rfl|rfl|rfl|rfl|rfl
 ·exact ⟨bif false then (0:Int) else (32:Int), .br false .t (.need ((0:Int)≤(0:Int)∧(0:Int)<(9:Int)) .t), λ_ _ _=>by kernel_rfl,⟨λ_=>trivial, λ_=>⟨by decide, λ_=>trivial⟩⟩,rfl⟩
 ·exact ⟨bif false then (0:Int) else (21:Int), .br false .t (.need ((0:Int)≤(1:Int)∧(1:Int)<(9:Int)) .t), λ_ _ _=>by kernel_rfl,⟨λ_=>trivial, λ_=>⟨by decide, λ_=>trivial⟩⟩,rfl⟩
 ·exact ⟨bif false then (0:Int) else (16:Int), .br false .t (.need ((0:Int)≤(2:Int)∧(2:Int)<(9:Int)) .t), λ_ _ _=>by kernel_rfl,⟨λ_=>trivial, λ_=>⟨by decide, λ_=>trivial⟩⟩,rfl⟩
 ·exact ⟨bif false then (0:Int) else (10:Int), .br false .t (.need ((0:Int)≤(3:Int)∧(3:Int)<(9:Int)) .t), λ_ _ _=>by kernel_rfl,⟨λ_=>trivial, λ_=>⟨by decide, λ_=>trivial⟩⟩,rfl⟩
 ·exact ⟨bif false then (0:Int) else (8:Int), .br false .t (.need ((0:Int)≤(4:Int)∧(4:Int)<(9:Int)) .t), λ_ _ _=>by kernel_rfl,⟨λ_=>trivial, λ_=>⟨by decide, λ_=>trivial⟩⟩,rfl⟩
 ·exact ⟨bif false then (0:Int) else (5:Int), .br false .t (.need ((0:Int)≤(5:Int)∧(5:Int)<(9:Int)) .t), λ_ _ _=>by kernel_rfl,⟨λ_=>trivial, λ_=>⟨by decide, λ_=>trivial⟩⟩,rfl⟩
 ·exact ⟨bif false then (0:Int) else (4:Int), .br false .t (.need ((0:Int)≤(6:Int)∧(6:Int)<(9:Int)) .t), λ_ _ _=>by kernel_rfl,⟨λ_=>trivial, λ_=>⟨by decide, λ_=>trivial⟩⟩,rfl⟩
 ·exact ⟨bif false then (0:Int) else (3:Int), .br false .t (.need ((0:Int)≤(7:Int)∧(7:Int)<(9:Int)) .t), λ_ _ _=>by kernel_rfl,⟨λ_=>trivial, λ_=>⟨by decide, λ_=>trivial⟩⟩,rfl⟩
 ·exact ⟨bif false then (0:Int) else (2:Int), .br false .t (.need ((0:Int)≤(8:Int)∧(8:Int)<(9:Int)) .t), λ_ _ _=>by kernel_rfl,⟨λ_=>trivial, λ_=>⟨by decide, λ_=>trivial⟩⟩,rfl⟩
theorem class_Slots_ok:EntryOk Dg Tryz.prog 119 e_class_Slots:=
 ent_or class_Slots_ok1 class_Slots_ok2 λcs _=>by
 by_cases h:0≤(Kd.of .i (hdC cs):Int)∧(Kd.of .i (hdC cs):Int)<9
 ·exact .inr λp hp=>by
   rcases List.mem_singleton.1 hp with rfl
   exact h
 ·exact .inl λp hp=>by
   rcases List.mem_singleton.1 hp with rfl
   exact h
def T_class_Slots:List (Nat×Entry Sg):=(119,e_class_Slots)::T_class_slots
theorem T_class_Slots_ok:TableOk Dg Tryz.prog T_class_Slots:=TableOk.cons Dg class_Slots_ok T_class_slots_ok
def u32ok (v:Int):Prop:=0≤v∧v<4294967296
theorem and255 (z:Int):0≤IntKind.u32.wrap ((iP 32 z &&& iP 32 255).toNat:Int)∧IntKind.u32.wrap ((iP 32 z &&& iP 32 255).toNat:Int)<((256:Nat):Int):=by
 have h:(iP 32 z &&& iP 32 255).toNat<256:=by
  rw [BitVec.toNat_and]
  exact Nat.lt_of_le_of_lt Nat.and_le_right (by decide)
 rw [IntKind.wrap_u32];omega
theorem top8 {v:Int} (h0:0≤v) (h1:v<4294967296):0≤Int.fdiv v 16777216∧Int.fdiv v 16777216<((256:Nat):Int):=by
 rw [Int.fdiv_eq_ediv_of_nonneg _ (by omega)];omega
theorem frange_snoc (p:Nat→Bool) (n:Nat):(List.range (n+1)).filter p=(List.range n).filter p++(if p n=true then [n] else []):=by
 rw [List.range_succ,List.filter_append]
 by_cases h:p n=true
 ·rw [if_pos h,List.filter_cons_of_pos h];rfl
 ·rw [if_neg h,List.filter_cons_of_neg h];rfl
theorem frange_len (p:Nat→Bool) (n:Nat):((List.range n).filter p).length≤n:=by
 have:=List.length_filter_le p (List.range n)
 simpa using this
def frN (p:Nat→Bool) (n:Nat):LI:=((List.range n).filter p).map λ(i:Nat)=>(i:Int)
def zeroAt (v:Int) (i:Nat):Bool:=iA iO ((iP 32 (Int.fdiv v ((2:Int)^min (iJ (i:Int)) 32)) &&& iP 32 1).toNat:Int)==0
def orB (v s:Int):Int:=iA iO ((iP 32 v ||| iP 32 (iA iO (1*(2:Int)^min (iJ s) 32))).toNat:Int)
abbrev nnL (xs:LI):Prop:=∀s∈xs,(0:Int)≤s
theorem take_snocB {xs:LI} {k:Nat} (h:k<xs.length):xs.take (k+1)=xs.take k++[xs.getD k 0]:=by
 rw [List.take_add_one,iI,iR h];rfl
def bits_Ones (v:Int):Int:=iA iB
 (iA IntKind.u8
   (iA IntKind.u8
       (iA IntKind.u8
           (sAt SlSlab1_bytes0 (Int.fdiv v 16777216)+
             sAt SlSlab1_bytes0 (iA iO (↑(jN (iP 32 (Int.fdiv v 65536) &&& iP 32 255)):Int)))+
         sAt SlSlab1_bytes0 (iA iO (↑(jN (iP 32 (Int.fdiv v 256) &&& iP 32 255)):Int)))+
     sAt SlSlab1_bytes0 (iA iO (↑(jN (iP 32 v &&& iP 32 255)):Int))))
abbrev c_bits_Ones:Ct Sg:=⟨none,false,[.i .u32], .i .i64⟩
def e_bits_Ones:Entry Sg:=entC c_bits_Ones bits_Ones (λv=>[u32ok v])
theorem bits_Ones_ok:EOk 164 e_bits_Ones:=
 ent_ok Dg T_class_Slots_ok (I:=[]) Tryz.func164 mix (B:=bodyOf Tryz.f164) (by kernel_rfl) rfl (by kernel_rfl) 400
  λ_ v hb hp=>have hp0:u32ok v:=hp _ (.head _);⟨(bits_Ones v),(.need (0≤Int.fdiv v 16777216∧Int.fdiv v (16777216:Int)<256) (.need (0≤iA iO (↑(jN (iP 32 (Int.fdiv v 65536) &&& iP 32 255)):Int)∧iA iO (↑(jN (iP 32 (Int.fdiv v 65536) &&& iP 32 255)):Int)<256) (.need (0≤iA iO (↑(jN (iP 32 (Int.fdiv v 256) &&& iP 32 255)):Int)∧iA iO (↑(jN (iP 32 (Int.fdiv v 256) &&& iP 32 255)):Int)<256) (.need (0≤iA iO (↑(jN (iP 32 v &&& iP 32 255)):Int)∧iA iO (↑(jN (iP 32 v &&& iP 32 255)):Int)<256) .t)))), λ_ _ _=>by kernel_rfl,⟨(by first|exact top8 hp0.1 hp0.2|exact and255 _), λz0=>⟨(by first|exact top8 hp0.1 hp0.2|exact and255 _), λz1=>⟨(by first|exact top8 hp0.1 hp0.2|exact and255 _), λz2=>⟨(by first|exact top8 hp0.1 hp0.2|exact and255 _), λz3=>trivial⟩⟩⟩⟩,rfl⟩
def T_bits_Ones:Tb:=(164,e_bits_Ones)::T_class_Slots
theorem T_bits_Ones_ok:TOk T_bits_Ones:=tc_ bits_Ones_ok T_class_Slots_ok
def half_Ones (v:Int):Int:=bits_Ones v
abbrev c_half_Ones:Ct Sg:=⟨none,false,[.i .u32], .i .i64⟩
def e_half_Ones:Entry Sg:=entC c_half_Ones half_Ones (λv=>[u32ok v])
theorem half_Ones_ok:EOk 132 e_half_Ones:=
 ent_ok Dg T_bits_Ones_ok (I:=[]) Tryz.func132 mix (B:=bodyOf Tryz.f132) (by kernel_rfl) rfl (by kernel_rfl) 400
  λ_ v hb hp=>have hp0:u32ok v:=hp _ (.head _);⟨(half_Ones v),(.need (u32ok v) .t), λ_ _ _=>by kernel_rfl,⟨(by exact hp0), λz0=>trivial⟩,rfl⟩
def T_half_Ones:Tb:=(132,e_half_Ones)::T_bits_Ones
theorem T_half_Ones_ok:TOk T_half_Ones:=tc_ half_Ones_ok T_bits_Ones_ok
def half_Free (v n:Int):LI:=frN (zeroAt v) (min n.toNat 32)
abbrev c_half_Free:Ct Sg:=⟨none,false,[.i .u32, .i .i64], .new 3 [some .i64]⟩
def e_half_Free:Entry Sg:=entC c_half_Free half_Free (λ_ _=>[])
def half_Free_w (v n:Int) (Q0:Int→Int→Nat→LI→Prop) (R_:LI→Prop):Prop:=(Q0 (0) (if 32<n then 32 else n) (0) ([]))
def half_Free_w0 (v n i m:Int) (no:Nat) (xs:LI) (Q0:Int→Int→Nat→LI→Prop) (R_:LI→Prop):Prop:=(bw_ (decide (i<m)) (aw_ (0≤i) (bw_ (iA iO (↑(jN (iP 32 (Int.fdiv v (2^min (iJ i) 32)) &&& iP 32 1)):Int)==0) (aw_ ((no+1)*8≤140737488355328) (Q0 (iA iB (i+1)) (m) (no+1) (xs++[i]))) (Q0 (iA iB (i+1)) (m) (no) (xs)))) (R_ (xs)))
def half_Free_I0 (v n i m:Int) (no:Nat) (xs r_:LI):Prop:=0≤i∧(i≤m∨i=0)∧m≤32∧m.toNat=min n.toNat 32∧no=xs.length∧xs=frN (zeroAt v) i.toNat∧r_=half_Free v n
abbrev half_Free_h0 (p0:Addr) (v n:Int):Hd Sg:=⟨none,[0,1,0,1,1],[.blk 0, .code [1,1,1]],[9,8,5,0],[.i .i64, .i .i64, .own 3 [some .i64], .ic .u32 (v)]⟩
theorem half_Free_begin (v n:Int):half_Free_w v n (λi' m' no' xs'=>half_Free_I0 v n i' m' no' xs' (half_Free v n)) (λr__=>r__=(half_Free v n)):=by
 unfold half_Free_w
 try unfold half_Free_I0
 exact ⟨by omega, .inr rfl,by split<;>omega,by split<;>omega,rfl,rfl,rfl⟩
theorem half_Free_step0 (v n i m:Int) (no:Nat) (xs:LI) {r_:LI} (hI:half_Free_I0 v n i m no xs r_):half_Free_w0 v n i m no xs (λi' m' no' xs'=>half_Free_I0 v n i' m' no' xs' r_∧lx ((m'-i').toNat,0,0) ((m-i).toNat,0,0)) (λr__=>r__=r_):=by
 unfold half_Free_I0 at hI
 unfold half_Free_w0
 try unfold half_Free_I0
 obtain ⟨h0,h1,hm,hn,h2,h3,hr⟩:=hI
 refine ⟨λh=>⟨h0, λ_=>?_⟩, λh=>?_⟩
 ·simp only [decide_eq_true_eq] at h
  have hi:((i.toNat:Nat):Int)=i:=by omega
  have hl:=frange_len (zeroAt v) i.toNat
  have hx:xs.length=((List.range i.toNat).filter (zeroAt v)).length:=by rw [h3,frN,jR]
  rw [w64 (by omega)]
  refine ⟨λhc=>⟨by omega, λ_=>⟨⟨by omega,by omega,hm,hn,by simp [h2],?_,hr⟩,lxo_⟩⟩, λhc=>⟨⟨by omega,by omega,hm,hn,h2,?_,hr⟩,lxo_⟩⟩
  ·have hz:zeroAt v i.toNat=true:=by unfold zeroAt;rw [hi];exact hc
   rw [toNat_succ h0,frN,frange_snoc,if_pos hz,jD,h3,frN]
   simp [hi]
  ·have hz:¬zeroAt v i.toNat=true:=by unfold zeroAt;rw [hi,hc];simp
   rw [toNat_succ h0,frN,frange_snoc,if_neg hz,List.append_nil]
   exact h3
 ·simp only [decide_eq_false_iff_not] at h
  show xs=r_
  rw [hr,h3,half_Free,show i.toNat=min n.toNat 32 by omega]
theorem half_Free_ok:EOk 118 e_half_Free:=
 ent_wp Dg T_half_Ones_ok (I:=[411000000009,411000000008,411000000005,411000000000]) Tryz.func118 mix (B:=bodyOf Tryz.f118) (by kernel_rfl) rfl (by kernel_rfl) 400
  λp0 v n hb hp=>⟨[half_Free_h0 p0 v n], λj=>iE [appC (Hd.kd (half_Free_h0 p0 v n)) (λi' m' no' xs'=>half_Free_I0 v n i' m' no' xs' (half_Free v n))] j (λ_=>False), λj=>iE [appC (Hd.kd (half_Free_h0 p0 v n)) (λi' m' no' xs'=>((m'-i').toNat,0,0))] j (λ_=>(0,0,0)),by kernel_rfl,⟨_, λ_ _ _=>by kernel_rfl,half_Free_begin v n⟩,⟨λi m no xs hI=>⟨_, λ_ _ _=>by kernel_rfl,half_Free_step0 v n i m no xs hI⟩,trivial⟩⟩
def T_half_Free:Tb:=(118,e_half_Free)::T_half_Ones
theorem T_half_Free_ok:TOk T_half_Free:=tc_ half_Free_ok T_half_Ones_ok
def slab_bits (xs:LI):Int:=xs.foldl orB 0
abbrev c_slab_bits:Ct Sg:=⟨none,false,[.ro [some .i64]], .i .u32⟩
def e_slab_bits:Entry Sg:=entC c_slab_bits slab_bits (λxs=>[nnL xs])
def slab_bits_w (xs:LI) (Q0:Int→Int→Prop) (R_:Int→Prop):Prop:=(Q0 (0) (0))
def slab_bits_w0 (xs:LI) (i v:Int) (Q0:Int→Int→Prop) (R_:Int→Prop):Prop:=(bw_ (decide (i<(↑(iC xs):Int))) (aw_ (0≤i∧i<(↑(iC xs):Int)) (aw_ (0≤iE xs (iJ i) 0) (Q0 (iA iB (i+1)) (iA iO (↑(jN (iP 32 v ||| iP 32 (iA iO ((1:Int)*2^min (iJ (iE xs (iJ i) 0)) 32)))):Int))))) (R_ (v)))
def slab_bits_I0 (xs:LI) (i v r_:Int):Prop:=0≤i∧i≤xs.length∧v=(xs.take i.toNat).foldl orB 0∧r_=slab_bits xs
abbrev slab_bits_h0 (p0:Addr) (xs:LI):Hd Sg:=⟨none,[0,1,0,1,1],[.blk 0, .code [1,1,1]],[8,7,6,3],[.i .i64, .ic .i64 (xs.length), .roc [.ints .i64 (xs)], .i .u32]⟩
theorem slab_bits_begin (xs:LI) (hp0:nnL xs) (hl0:xs.length≤9223372036854775807):slab_bits_w xs (λi' v'=>slab_bits_I0 xs i' v' (slab_bits xs)) (λr__=>r__=(slab_bits xs)):=by
 unfold slab_bits_w
 try unfold slab_bits_I0
 exact ⟨by omega,by omega,rfl,rfl⟩
theorem slab_bits_step0 (xs:LI) (hp0:nnL xs) (hl0:xs.length≤9223372036854775807) (i v:Int) {r_:Int} (hI:slab_bits_I0 xs i v r_):slab_bits_w0 xs i v (λi' v'=>slab_bits_I0 xs i' v' r_∧lx ((xs.length-i').toNat,0,0) ((xs.length-i).toNat,0,0)) (λr__=>r__=r_):=by
 unfold slab_bits_I0 at hI
 unfold slab_bits_w0
 try unfold slab_bits_I0
 obtain ⟨h0,h1,h2,hr⟩:=hI
 refine ⟨λh=>?_, λh=>?_⟩
 ·simp only [decide_eq_true_eq] at h
  have hs:=hp0 (xs.getD i.toNat 0) (getD_mem (by omega))
  rw [w64 (by omega)]
  refine ⟨⟨h0,h⟩, λ_=>⟨hs, λ_=>⟨⟨by omega,by omega,?_,hr⟩,lxo_⟩⟩⟩
  rw [toNat_succ h0,take_snocB (by omega),List.foldl_append,←h2];rfl
 ·simp only [decide_eq_false_iff_not] at h
  show v=r_
  rw [hr,h2,slab_bits,List.take_of_length_le (by omega)]
theorem slab_bits_ok:EOk 95 e_slab_bits:=
 ent_wp Dg T_half_Free_ok (I:=[411000000008,411000000007,411000000006,411000000003]) Tryz.func95 mix (B:=bodyOf Tryz.f95) (by kernel_rfl) rfl (by kernel_rfl) 400
  λp0 xs hb hp=>have hl0:xs.length≤9223372036854775807:=hb.1;have hp0:nnL xs:=hp _ (.head _);⟨[slab_bits_h0 p0 xs], λj=>iE [appC (Hd.kd (slab_bits_h0 p0 xs)) (λi' v'=>slab_bits_I0 xs i' v' (slab_bits xs))] j (λ_=>False), λj=>iE [appC (Hd.kd (slab_bits_h0 p0 xs)) (λi' v'=>((xs.length-i').toNat,0,0))] j (λ_=>(0,0,0)),by kernel_rfl,⟨_, λ_ _ _=>by kernel_rfl,slab_bits_begin xs hp0 hl0⟩,⟨λi v hI=>⟨_, λ_ _ _=>by kernel_rfl,slab_bits_step0 xs hp0 hl0 i v hI⟩,trivial⟩⟩
def T_slab_bits:Tb:=(95,e_slab_bits)::T_half_Free
theorem T_slab_bits_ok:TOk T_slab_bits:=tc_ slab_bits_ok T_half_Free_ok
end
section
open Go.Sl
theorem ofInt32 (n:Nat):iP 32 (n:Int)=BitVec.ofNat 32 n:=by apply BitVec.eq_of_toNat_eq;simp
theorem minNat {i:Nat} (h:i<32):min (iJ (i:Int)) 32=i:=by simp;omega
theorem fdiv_pow {V i:Nat}:Int.fdiv (V:Int) (2^i)=((V/2^i:Nat):Int):=by
 rw [Int.fdiv_eq_ediv_of_nonneg _ (by exact Int.le_of_lt (Int.pow_pos (by omega)))]
 push_cast;rfl
theorem bitAt_nat {V i:Nat} (hi:i<32):bitAt (V:Int) (i:Int)=V.testBit i:=by
 unfold bitAt
 have e1:decide ((i:Int)≥0)=true:=by simp
 have e2:decide ((i:Int)<32)=true:=by simp;omega
 rw [e1,e2,jV,jV,jP,Nat.testBit_eq_decide_div_mod_eq]
 have e3:(V:Int)/2^i%2=((V/2^i%2:Nat):Int):=by push_cast;rfl
 rw [e3]
 apply Bool.eq_iff_iff.2
 rw [beq_iff_eq,decide_eq_true_eq]
 omega
theorem bitAt_out {v b:Int} (h:¬(0≤b∧b<32)):bitAt v b=false:=by
 unfold bitAt
 have:(decide (b≥0)&&decide (b<32))=false:=by simp;omega
 rw [this,Bool.false_and]
theorem zeroAt_eq {V i:Nat} (hV:V<4294967296) (hi:i<32):zeroAt (V:Int) i=!V.testBit i:=by
 unfold zeroAt
 rw [minNat hi,fdiv_pow,Nat.testBit_eq_decide_div_mod_eq]
 have h3:V/2^i<2^32:=Nat.lt_of_le_of_lt (Nat.div_le_self _ _) (by omega)
 have e:(iP 32 ((V/2^i:Nat):Int) &&& iP 32 1).toNat=V/2^i%2:=by
  rw [ofInt32,BitVec.toNat_and,BitVec.toNat_ofNat,Nat.mod_eq_of_lt h3]
  show _ &&& 1=_
  rw [Nat.and_one_is_mod]
 rw [e]
 have:=Nat.mod_lt (V/2^i) (show 2>0 by omega)
 rw [wrap_u32_nat (by omega)]
 apply Bool.eq_iff_iff.2
 simp only [beq_iff_eq,jB,decide_eq_false_iff_not]
 omega
def cb (V:Nat):Nat→Nat
 |0=>0
 |k+1=>(V.testBit k).toNat+cb V k
theorem cb_le (V:Nat):∀k,cb V k≤k
 |0=>Nat.le_refl _
 |k+1=>by
  have:=cb_le V k
  have:=Bool.toNat_le (V.testBit k)
  simp only [cb];omega
theorem onesF_cb {V:Nat}:∀k:Nat,k≤32→onesF (V:Int) k=(cb V k:Int)
 |0,_=>rfl
 |k+1,h=>by
  rw [onesF,onesF_cb k (by omega),bitAt_nat (by omega),cb]
  cases V.testBit k<;>simp<;>omega
theorem cb_byte (V k:Nat):cb V (k+8)=cb (V/2^k%256) 8+cb V k:=by
 have h:∀j,j<8→(V/2^k%256).testBit j=V.testBit (k+j):= λj hj=>by
  rw [show (256:Nat)=2^8 by rfl,Nat.testBit_mod_two_pow,Nat.testBit_div_two_pow,Nat.add_comm j k]
  simp [hj]
 simp only [cb]
 rw [h 7 (by omega),h 6 (by omega),h 5 (by omega),h 4 (by omega),h 3 (by omega),h 2 (by omega),h 1 (by omega),h 0 (by omega)]
 simp only [Nat.add_zero]
 omega
theorem pop_tab:∀i:Fin 256,sAt SlSlab1_bytes0 (i.val:Int)=(cb i.val 8:Int):=by decide+kernel
theorem pop_nat {b:Nat} (h:b<256):sAt SlSlab1_bytes0 (b:Int)=(cb b 8:Int):=pop_tab ⟨b,h⟩
theorem and255_eq (m:Nat) (hm:m<4294967296):IntKind.u32.wrap ((iP 32 (m:Int) &&& iP 32 255).toNat:Int)=((m%256:Nat):Int):=by
 have e:(iP 32 (m:Int) &&& iP 32 255).toNat=m%256:=by
  rw [ofInt32,BitVec.toNat_and,BitVec.toNat_ofNat,Nat.mod_eq_of_lt hm]
  show m &&& (2^8-1)=_
  rw [Nat.and_two_pow_sub_one_eq_mod]
 rw [e,wrap_u32_nat (by omega)]
theorem fdivN (z:Int) (k:Nat) (h0:0≤z) (hk:0<k):Int.fdiv z (k:Int)=((z.toNat/k:Nat):Int):=by
 rw [Int.fdiv_eq_ediv_of_nonneg _ (by omega)]
 obtain ⟨n,rfl⟩:=Int.eq_ofNat_of_zero_le h0
 simp
theorem bits_Ones_eq {V:Nat} (hV:V<4294967296):bits_Ones (V:Int)=(cb V 32:Int):=by
 have c3:cb V 32=cb (V/2^24%256) 8+cb V 24:=cb_byte V 24
 have c2:cb V 24=cb (V/2^16%256) 8+cb V 16:=cb_byte V 16
 have c1:cb V 16=cb (V/2^8%256) 8+cb V 8:=cb_byte V 8
 have c0:cb V 8=cb (V/2^0%256) 8+cb V 0:=cb_byte V 0
 have z:cb V 0=0:=rfl
 have b3:=cb_le (V/2^24%256) 8
 have b2:=cb_le (V/2^16%256) 8
 have b1:=cb_le (V/2^8%256) 8
 have b0:=cb_le (V/2^0%256) 8
 have f:∀k:Nat,0<k→Int.fdiv (V:Int) (k:Int)=((V/k:Nat):Int):= λk hk=>by
  rw [fdivN _ _ (by omega) hk,jP]
 have f3:=f 16777216 (by omega)
 have f2:=f 65536 (by omega)
 have f1:=f 256 (by omega)
 have h3:V/16777216<256:=by omega
 unfold bits_Ones
 rw [show (16777216:Int)=((16777216:Nat):Int) by rfl,show (65536:Int)=((65536:Nat):Int) by rfl,show Int.fdiv (V:Int) (256:Int)=Int.fdiv (V:Int) ((256:Nat):Int) by rfl,f3,f2,f1]
 rw [and255_eq _ (by omega),and255_eq _ (by omega),and255_eq _ hV,pop_nat h3,pop_nat (by omega),pop_nat (by omega),pop_nat (by omega)]
 have g3:cb (V/2^24%256) 8=cb (V/16777216) 8:=by rw [show (2:Nat)^24=16777216 by rfl,Nat.mod_eq_of_lt h3]
 have g2:cb (V/2^16%256) 8=cb (V/65536%256) 8:=rfl
 have g1:cb (V/2^8%256) 8=cb (V/256%256) 8:=rfl
 have g0:cb (V/2^0%256) 8=cb (V%256) 8:=by rw [Nat.pow_zero,Nat.div_one]
 simp only [IntKind.wrap_u8]
 rw [w64 (by omega)]
 omega
theorem natOf {v:Int} (h:bd32 v):∃V:Nat,v=(V:Int)∧V<4294967296:=⟨v.toNat,by unfold bd32 at h;omega,by unfold bd32 at h;omega⟩
theorem half_Ones_eq {v:Int} (h:bd32 v):half_Ones v=ones v:=by
 obtain ⟨V,rfl,hV⟩:=natOf h
 rw [half_Ones,bits_Ones_eq hV,ones,onesF_cb 32 (Nat.le_refl _)]
theorem testBit_add {V k i:Nat} (h:V.testBit k=false):(V+2^k).testBit i=(V.testBit i||decide (i=k)):=by
 have e:V+2^k=V ||| 2^k:=by
  have hb:∀w,V+2^k<2^w→V ||| 2^k<2^w→V+2^k=V ||| 2^k:= λw h1 h2=>by
   have hand:(BitVec.ofNat w V) &&& (BitVec.ofNat w (2^k))=0#w:=by
    apply BitVec.eq_of_toNat_eq
    have hp:=Nat.two_pow_pos k
    have hV:V<2^w:=by omega
    have hk:2^k<2^w:=by omega
    rw [BitVec.toNat_and,BitVec.toNat_ofNat,BitVec.toNat_ofNat,Nat.mod_eq_of_lt hV,Nat.mod_eq_of_lt hk,BitVec.toNat_ofNat,Nat.zero_mod]
    apply Nat.eq_of_testBit_eq
    intro j
    rw [Nat.testBit_and,Nat.testBit_two_pow,Nat.zero_testBit]
    by_cases hj:k=j
    ·subst hj;rw [h];rfl
    ·simp [hj]
   have:=BitVec.add_eq_or_of_and_eq_zero _ _ hand
   have h3:=congrArg jN this
   have hp:=Nat.two_pow_pos k
   have hV:V<2^w:=by omega
   have hk:2^k<2^w:=by omega
   rw [BitVec.toNat_add,BitVec.toNat_or,BitVec.toNat_ofNat,BitVec.toNat_ofNat,Nat.mod_eq_of_lt hV,Nat.mod_eq_of_lt hk,Nat.mod_eq_of_lt h1] at h3
   exact h3
  refine hb (V+2^k+(V ||| 2^k)) ?_ ?_
  ·exact Nat.lt_of_le_of_lt (Nat.le_add_right _ _) Nat.lt_two_pow_self
  ·exact Nat.lt_of_le_of_lt (Nat.le_add_left _ _) Nat.lt_two_pow_self
 rw [e,Nat.testBit_or,Nat.testBit_two_pow]
 congr 1
 apply Bool.eq_iff_iff.2;simp [eq_comm]
theorem or_add {V k:Nat} (h:V.testBit k=false):V ||| 2^k=V+2^k:=by
 apply Nat.eq_of_testBit_eq
 intro i
 rw [testBit_add h,Nat.testBit_or,Nat.testBit_two_pow]
 congr 1
 apply Bool.eq_iff_iff.2;simp [eq_comm]
theorem lt_of_bits {V:Nat} (h:∀i,32≤i→V.testBit i=false):V<4294967296:=by
 have:=Nat.lt_pow_two_of_testBit V h
 simpa using this
theorem bits_of_lt {V:Nat} (h:V<4294967296) {i:Nat} (hi:32≤i):V.testBit i=false:=Nat.testBit_lt_two_pow (Nat.lt_of_lt_of_le h (by have:=Nat.pow_le_pow_right (n:=2) (by omega) hi;simpa using this))
def setB (v s:Int):Int:=bif bitAt v s then v else v+2^s.toNat
def clrB (v s:Int):Int:=bif bitAt v s then v-2^s.toNat else v
theorem setB_nat {V k:Nat} (hk:k<32):setB (V:Int) (k:Int)=((V ||| 2^k:Nat):Int):=by
 unfold setB
 rw [bitAt_nat hk]
 cases h:V.testBit k with
 |true=>
  have e:V ||| 2^k=V:=by
   apply Nat.eq_of_testBit_eq
   intro i
   rw [Nat.testBit_or,Nat.testBit_two_pow]
   by_cases hi:k=i
   ·subst hi;rw [h];rfl
   ·simp [hi]
  rw [cond_true,e]
 |false=>rw [cond_false,or_add h];push_cast;rfl
theorem or_lt {V k:Nat} (hV:V<4294967296) (hk:k<32):V ||| 2^k<4294967296:=lt_of_bits λi hi=>by
 rw [Nat.testBit_or,bits_of_lt hV hi,Nat.testBit_two_pow];simp;omega
theorem bitAt_setB {v s:Int} (hv:bd32 v) (hs:0≤s∧s<32):bd32 (setB v s)∧∀b,bitAt (setB v s) b=(bitAt v b||decide (b=s)):=by
 obtain ⟨V,rfl,hV⟩:=natOf hv
 obtain ⟨k,rfl⟩:=Int.eq_ofNat_of_zero_le hs.1
 have hk:k<32:=by omega
 rw [setB_nat hk]
 refine ⟨by have:=or_lt hV hk;unfold bd32;omega, λb=>?_⟩
 by_cases hb:0≤b∧b<32
 ·obtain ⟨j,rfl⟩:=Int.eq_ofNat_of_zero_le hb.1
  rw [bitAt_nat (by omega),bitAt_nat (by omega),Nat.testBit_or,Nat.testBit_two_pow]
  congr 1
  apply Bool.eq_iff_iff.2
  simp only [decide_eq_true_eq];omega
 ·rw [bitAt_out hb,bitAt_out hb]
  symm;simp;omega
theorem clrB_nat {V k:Nat} (hk:k<32):∃W:Nat,clrB (V:Int) (k:Int)=(W:Int)∧∀i,W.testBit i=(V.testBit i&&decide (i≠k)):=by
 unfold clrB
 rw [bitAt_nat hk]
 cases h:V.testBit k with
 |false=>
  refine ⟨V,rfl, λi=>?_⟩
  by_cases hi:i=k
  ·subst hi;simp [h]
  ·simp [hi]
 |true=>
  have hx:(V ^^^ 2^k).testBit k=false:=by rw [Nat.testBit_xor,h,Nat.testBit_two_pow];simp
  have e:(V ^^^ 2^k)+2^k=V:=by
   apply Nat.eq_of_testBit_eq
   intro i
   rw [testBit_add hx,Nat.testBit_xor,Nat.testBit_two_pow]
   by_cases hi:k=i
   ·subst hi;rw [h];simp
   ·simp [hi];intro e;exact absurd e.symm hi
  refine ⟨V ^^^ 2^k,?_, λi=>?_⟩
  ·rw [cond_true,jP]
   have:((V ^^^ 2^k:Nat):Int)+((2^k:Nat):Int)=(V:Int):=by exact_mod_cast e
   push_cast at this ⊢;omega
  ·rw [Nat.testBit_xor,Nat.testBit_two_pow]
   by_cases hi:k=i
   ·subst hi;rw [h];simp
   ·have:¬i=k:= λe=>hi e.symm
    simp [hi,this]
theorem bitAt_clrB {v s:Int} (hv:bd32 v) (hs:0≤s∧s<32):bd32 (clrB v s)∧∀b,bitAt (clrB v s) b=(bitAt v b&&!decide (b=s)):=by
 obtain ⟨V,rfl,hV⟩:=natOf hv
 obtain ⟨k,rfl⟩:=Int.eq_ofNat_of_zero_le hs.1
 obtain ⟨W,e,h⟩:=clrB_nat (V:=V) (k:=k) (by omega)
 have hW:W<4294967296:=lt_of_bits λi hi=>by rw [h,bits_of_lt hV hi];rfl
 rw [e]
 refine ⟨by unfold bd32;omega, λb=>?_⟩
 by_cases hb:0≤b∧b<32
 ·obtain ⟨j,rfl⟩:=Int.eq_ofNat_of_zero_le hb.1
  rw [bitAt_nat (by omega),bitAt_nat (by omega),h]
  congr 1
  apply Bool.eq_iff_iff.2
  simp;omega
 ·rw [bitAt_out hb,bitAt_out hb];rfl
theorem bits_ext {v w:Int} (hv:bd32 v) (hw:bd32 w) (h:∀b,bitAt v b=bitAt w b):v=w:=by
 obtain ⟨V,rfl,hV⟩:=natOf hv
 obtain ⟨W,rfl,hW⟩:=natOf hw
 congr 1
 apply Nat.eq_of_testBit_eq
 intro i
 by_cases hi:i<32
 ·rw [←bitAt_nat hi,←bitAt_nat hi];exact h _
 ·rw [bits_of_lt hV (by omega),bits_of_lt hW (by omega)]
theorem bitAt_zero (b:Int):bitAt 0 b=false:=by
 unfold bitAt;simp
theorem orB_eq {v s:Int} (hv:bd32 v) (hs:0≤s∧s<32):orB v s=setB v s:=by
 obtain ⟨V,rfl,hV⟩:=natOf hv
 obtain ⟨k,rfl⟩:=Int.eq_ofNat_of_zero_le hs.1
 have hk:k<32:=by omega
 have hp:2^k<4294967296:=by have:=Nat.pow_lt_pow_right (a:=2) (by omega) hk;simpa using this
 rw [setB_nat hk]
 unfold orB
 rw [minNat hk,Int.one_mul,show ((2:Int)^k)=((2^k:Nat):Int) by push_cast;rfl,wrap_u32_nat hp,ofInt32,ofInt32,BitVec.toNat_or,BitVec.toNat_ofNat,BitVec.toNat_ofNat,Nat.mod_eq_of_lt hV,Nat.mod_eq_of_lt hp,wrap_u32_nat (or_lt hV hk)]
def setL (v:Int) (l:LI):Int:=l.foldl setB v
theorem bitAt_setL:∀{l:LI} {v:Int},bd32 v→(∀s∈l,0≤s∧s<32)→bd32 (setL v l)∧∀b,bitAt (setL v l) b=(bitAt v b||l.contains b)
 |[],v,hv,_=>⟨hv, λb=>by simp [setL]⟩
 |s::l,v,hv,hl=>by
  obtain ⟨h1,h2⟩:=bitAt_setB hv (hl s (by simp))
  obtain ⟨g1,g2⟩:=bitAt_setL (l:=l) h1 λx hx=>hl x (by simp [hx])
  refine ⟨g1, λb=>?_⟩
  show bitAt (setL (setB v s) l) b=_
  rw [g2,h2,List.contains_cons,Bool.or_assoc]
  congr 2
theorem foldl_orB:∀{l:LI} {v:Int},bd32 v→(∀s∈l,0≤s∧s<32)→l.foldl orB v=setL v l
 |[],_,_,_=>rfl
 |s::l,v,hv,hl=>by
  have hs:=hl s (by simp)
  show l.foldl orB (orB v s)=setL (setB v s) l
  rw [orB_eq hv hs]
  exact foldl_orB (bitAt_setB hv hs).1 λx hx=>hl x (by simp [hx])
theorem slab_bits_eq {l:LI} (hl:∀s∈l,0≤s∧s<32):slab_bits l=setL 0 l:=foldl_orB (by unfold bd32;decide) hl
theorem wrapOr {a b:Int} (ha:bd32 a) (hb:bd32 b):bd32 (IntKind.u32.wrap ((iP 32 a ||| iP 32 b).toNat:Int))∧∀i,bitAt (IntKind.u32.wrap ((iP 32 a ||| iP 32 b).toNat:Int)) i=(bitAt a i||bitAt b i):=by
 obtain ⟨A,rfl,hA⟩:=natOf ha
 obtain ⟨B,rfl,hB⟩:=natOf hb
 have hl:A ||| B<4294967296:=lt_of_bits λi hi=>by rw [Nat.testBit_or,bits_of_lt hA hi,bits_of_lt hB hi];rfl
 rw [ofInt32,ofInt32,BitVec.toNat_or,BitVec.toNat_ofNat,BitVec.toNat_ofNat,Nat.mod_eq_of_lt hA,Nat.mod_eq_of_lt hB,wrap_u32_nat hl]
 refine ⟨by unfold bd32;omega, λb=>?_⟩
 by_cases hb:0≤b∧b<32
 ·obtain ⟨j,rfl⟩:=Int.eq_ofNat_of_zero_le hb.1
  rw [bitAt_nat (by omega),bitAt_nat (by omega),bitAt_nat (by omega),Nat.testBit_or]
 ·rw [bitAt_out hb,bitAt_out hb,bitAt_out hb];rfl
theorem or_bits {v:Int} {l:LI} (hv:bd32 v) (hl:∀s∈l,0≤s∧s<32):IntKind.u32.wrap ((iP 32 v ||| iP 32 (slab_bits l)).toNat:Int)=setL v l:=by
 rw [slab_bits_eq hl]
 obtain ⟨h1,h2⟩:=bitAt_setL (l:=l) (v:=0) (by unfold bd32;decide) hl
 obtain ⟨g1,g2⟩:=wrapOr hv h1
 obtain ⟨k1,k2⟩:=bitAt_setL hv hl
 exact bits_ext g1 k1 λb=>by rw [g2,h2,k2,bitAt_zero,jY]
theorem wrapAndNot {a b:Int} (ha:bd32 a) (hb:bd32 b):bd32 (IntKind.u32.wrap ((iP 32 a &&& ~~~ iP 32 b).toNat:Int))∧∀i,bitAt (IntKind.u32.wrap ((iP 32 a &&& ~~~ iP 32 b).toNat:Int)) i=(bitAt a i&&!bitAt b i):=by
 obtain ⟨A,rfl,hA⟩:=natOf ha
 obtain ⟨B,rfl,hB⟩:=natOf hb
 have hx:∀i,((BitVec.ofNat 32 A) &&& ~~~ (BitVec.ofNat 32 B)).toNat.testBit i=(A.testBit i&&(decide (i<32)&&!B.testBit i)):= λi=>by
  rw [BitVec.testBit_toNat,BitVec.getLsbD_and,BitVec.getLsbD_not,BitVec.getLsbD_ofNat,BitVec.getLsbD_ofNat]
  by_cases hi:i<32
  ·simp [hi]
  ·simp [hi]
 have hl:=lt_of_bits (V:=((BitVec.ofNat 32 A) &&& ~~~ (BitVec.ofNat 32 B)).toNat) λi hi=>by rw [hx,bits_of_lt hA hi];rfl
 rw [ofInt32,ofInt32,wrap_u32_nat hl]
 refine ⟨by unfold bd32;omega, λb=>?_⟩
 by_cases hb:0≤b∧b<32
 ·obtain ⟨j,rfl⟩:=Int.eq_ofNat_of_zero_le hb.1
  have hj:j<32:=by omega
  rw [bitAt_nat hj,bitAt_nat hj,bitAt_nat hj,hx]
  simp [hj]
 ·rw [bitAt_out hb,bitAt_out hb,bitAt_out hb];rfl
theorem frN_mem {p:Nat→Bool} {n:Nat} {s:Int}:s∈frN p n↔0≤s∧s<n∧p s.toNat=true:=by
 unfold frN
 rw [List.mem_map]
 constructor
 ·rintro ⟨i,hi,rfl⟩
  rw [List.mem_filter,List.mem_range] at hi
  exact ⟨by omega,by omega,by simpa using hi.2⟩
 ·rintro ⟨h1,h2,h3⟩
  exact ⟨s.toNat,List.mem_filter.2 ⟨List.mem_range.2 (by omega),h3⟩,by omega⟩
def frL (v n:Int):LI:=frN (λi=>!bitAt v (i:Int)) n.toNat
theorem frN_congr {p q:Nat→Bool} {n:Nat} (h:∀i,i<n→p i=q i):frN p n=frN q n:=by
 unfold frN
 congr 1
 exact List.filter_congr λi hi=>h i (List.mem_range.1 hi)
theorem half_Free_eq {v n:Int} (hv:bd32 v) (hn:n≤32):half_Free v n=frL v n:=by
 obtain ⟨V,rfl,hV⟩:=natOf hv
 unfold half_Free frL
 rw [show min n.toNat 32=n.toNat by omega]
 exact frN_congr λi hi=>by rw [zeroAt_eq hV (by omega),bitAt_nat (by omega)]
theorem frL_mem {v n s:Int} (h:s∈frL v n):0≤s∧s<n∧bitAt v s=false:=by
 obtain ⟨h1,h2,h3⟩:=frN_mem.1 h
 refine ⟨h1,by omega,?_⟩
 have e:((s.toNat:Nat):Int)=s:=by omega
 rw [e] at h3
 simpa using h3
end
section
open Go.Sl
theorem place_Taken_eq (t p s g:Int):place_Taken t p s g=Cf.taken ⟨t,p,s⟩ g:=place_of_eq (by omega)
theorem place_Slots_eq (t p s g:Int):place_Slots t p s g=Cf.slots ⟨t,p,s⟩ g:=place_of_eq (by omega)
theorem r07_Taken_eq (t p s g:Int):r07_Taken t p s g=Cf.taken ⟨t,p,s⟩ g:=r07_Page_eq (by omega)
theorem r07_Slots_eq (t p s g:Int):r07_Slots t p s g=Cf.slots ⟨t,p,s⟩ g:=r07_Page_eq (by omega)
theorem place_Rack_eq (k:Int):place_Rack k=cRack k:=by
 unfold place_Rack place_within cRack
 by_cases hg:0≤k∧k<9
 ·have a1:(decide (k<0)||decide (k≥9))=false:=by simp;omega
  have a2:(decide (0≤k)&&decide (k<9))=true:=by simp;omega
  rw [a1,a2,w64 (by omega)];rfl
 ·have a1:(decide (k<0)||decide (k≥9))=true:=by simp;omega
  have a2:(decide (0≤k)&&decide (k<9))=false:=by simp;omega
  rw [a1,a2];rfl
theorem full_eq (v k:Int):r12_Full v k=full v k:=by
 show (ones v==r05_Slots k)=_
 rw [r05_Slots_eq];rfl
theorem and_bits {v b:Int} (hv:bd32 v) (hb:0≤b∧b<32):IntKind.u32.wrap ((iP 32 v &&& ~~~ iP 32 (slab_bits [b])).toNat:Int)=clrB v b:=by
 have hl:∀s∈[b],0≤s∧s<32:= λs hs=>by rw [jL] at hs;subst hs;exact hb
 rw [slab_bits_eq hl]
 obtain ⟨h1,h2⟩:=bitAt_setL (l:=[b]) (v:=0) (by unfold bd32;decide) hl
 obtain ⟨g1,g2⟩:=wrapAndNot hv h1
 obtain ⟨k1,k2⟩:=bitAt_clrB hv hb
 refine bits_ext g1 k1 λi=>?_
 rw [g2,h2,k2,bitAt_zero,jY,List.contains_cons,List.contains_nil,Bool.or_false]
 congr 2
theorem L6 {b:Int} (hb:0≤b∧b<32):BQ b=2^b.toNat:=by
 have hp:(2:Int)^b.toNat≤2^31:=pow2_le (by omega)
 have h0:=pow2_pos b.toNat
 unfold BQ
 rw [wu64 (by omega),Int.one_mul,show min b.toNat 32=b.toNat by omega,wu32 (by omega)]
theorem JK {v b:Int} (hv:bd32 v) (hb:0≤b∧b<32) (h:bitAt v b=true):iA iO (v-BQ b)=clrB v b:=by
 have h1:=(bitAt_clrB hv hb).1
 unfold clrB at h1 ⊢
 rw [h,cond_true] at h1 ⊢
 rw [L6 hb]
 unfold bd32 at h1
 exact wu32 (by omega)
theorem take_if {l:LI} {w:Int} (hw:0≤w):l.take (iJ (if (l.length:Int)<w then (l.length:Int) else w))=l.take w.toNat:=by
 split
 ·rw [List.take_of_length_le (by omega),List.take_of_length_le (by omega)]
 ·rfl
section
variable (c:Cf)
def pOpen (k:Int):Pg (Int×Bool):=
 .get (cRack k) λq=>bif q==0 then
  (qTake c 1).bind λr=>bif r.2 then .put (c.info r.1) (iVal 3 1 k) ((pPush c (cRack k) r.1).bind λ_=> .ret (r.1,true)) else .ret (0,false)
 else .ret (q-1,true)
def pPutS (p k t:Int) (l:LI):Pg (Int×LI×Bool):=
 .put (c.taken p) (setL t l) <| (bif full (setL t l) k then pPull c (cRack k) p else .ret ()).bind λ_=> .ret (p,l,true)
def pTakeS (p k want t:Int):Pg (Int×LI×Bool):=
 bif ((frL t (kSlots k)).length:Int)==0 then .ret (-1,[],false) else pPutS c p k t ((frL t (kSlots k)).take want.toNat)
def pPick (k want:Int):Pg (Int×LI×Bool):=
 bif decide (k<0)||decide (9≤k)||decide (want<1)||decide (4<want) then .ret (-1,[],false) else
  (pOpen c k).bind λr=>bif r.2 then .get (c.taken r.1) (pTakeS c r.1 k want) else .ret (-1,[],false)
def pGive (p s:Int):Pg Unit:=
 bif decide (s<0)||decide (32≤s) then .ret () else
  (pInfo c p).bind λi=> .get (c.taken p) λt=>
    bif clrB t s==0 then (bif full t i.2.2 then .ret () else pPull c (cRack i.2.2) p).bind λ_=> .put (c.taken p) 0 (qRelease c p 1)
    else .put (c.taken p) (clrB t s) (bif full t i.2.2 then pPush c (cRack i.2.2) p else .ret ())
end
end
section
open Go.Sl
def slab_full (v k:Int):Bool:=full v k
abbrev c_slab_full:Ct Sg:=⟨none,false,[.i .u32, .i .i64], .b⟩
def e_slab_full:Entry Sg:=entC c_slab_full slab_full (λv k=>[bd32 v])
def slab_full_w (v k:Int) (R_:Bool→Prop):Prop:=(aw_ (u32ok v) (R_ (half_Ones v==kSlots k)))
theorem slab_full_begin (v k:Int) (hp0:bd32 v):slab_full_w v k (λr__=>r__=(slab_full v k)):=by
 unfold slab_full_w
 refine ⟨hp0, λ_=>?_⟩
 rw [half_Ones_eq hp0];rfl
theorem slab_full_ok:EOk 96 e_slab_full:=
 ent_w0 Dg T_slab_bits_ok (I:=[]) Tryz.func96 mix (B:=bodyOf Tryz.f96) (by kernel_rfl) rfl (by kernel_rfl) 400
  λ_ v k hb hp=>⟨_, λ_ _ _=>by kernel_rfl,slab_full_begin v k (hp _ (.head _))⟩
def T_slab_full:Tb:=(96,e_slab_full)::T_slab_bits
theorem T_slab_full_ok:TOk T_slab_full:=tc_ slab_full_ok T_slab_bits_ok
def slab_open (s:VS) (t p h k:Int):VS×Int×Bool:=(pOpen ⟨t,p,h⟩ k).run s
abbrev c_slab_open:Ct Sg:=⟨some wView,false,[.agg [.i .i64, .i .i64, .i .i64], .i .i64], .tup [.i .i64, .b]⟩
def e_slab_open:Entry Sg:=entC c_slab_open slab_open (λs t p h k=>[p≤1024])
def slab_open_w (s:VS) (t p h k:Int) (R_:VS×Int×Bool→Prop):Prop:=(∀r1:Int,r1=(place_Rack k)→(∀r2:VS×Int,r2=((VS.read s r1,VS.get s r1))→(bw_ (r2.2 !=0) (R_ ((r2.1,iA iB (iA iB r2.2-1),true))) (∀r4:VS×Int×Bool,r4=(span_Take r2.1 t p h 1)→(aw_ (p≤1024) (bw_ (!r4.2.2) (R_ ((r4.1,0,false))) (∀r7:Int×Bool,r7=(info_Put 3 1 k)→(∀r8:Int,r8=(place_Info t p h r4.2.1)→(∀r9:VS,r9=(VS.set r4.1 r8 r7.1)→(aw_ (bd32 r7.1) (∀r11:VS,r11=(link_Push r9 t p h (place_Rack k) r4.2.1)→(R_ ((r11,r4.2.1,true))))))))))))))
theorem slab_open_begin (s:VS) (t p h k:Int) (hp0:p≤1024):slab_open_w s t p h k (λr__=>r__=(slab_open s t p h k)):=by
 unfold slab_open_w
 repeat' first
  |(refine λr hr=>?_;subst hr)
  |refine ⟨(by first|exact wu32_bd _|exact VS.get_bd _ _|exact zero_bd|exact iVal_bd _ _ _|exact nv_bd _|(rw [info_Put_val];exact iVal_bd _ _ _)|(rw [r09_Value_eq];exact iVal_bd _ _ _)|assumption|omega), λ_=>?_⟩
  |refine ⟨λhc=>?_, λhc=>?_⟩
  |(refine λhr=>?_;subst hr)
  |fail
 all_goals
  simp only [link_page_eq,page_ne t p h,link_next,link_prev,place_Next_eq,place_Prev_eq,r07_Next_eq,r07_Prev_eq,link_to,w64g,w64g1,wrapu_nv,nvw,nvw2,bin_page,place_Info_eq,place_Foot_eq,r07_Info_eq,r07_Foot_eq,place_Bin_eq,r07_Bin_eq,info_Put_val,r09_Value_eq,bin_Of,Bc,infoG1,infoG2,infoG3,rinfoG1,rinfoG2,rinfoG3,gt_iff_lt,span_Take,Lp,span_Release,BG,Az,pInfo,Pg.run_get,Pg.run_ret,link_Push,link_Pull,BA,BB,place_Rack_eq,place_Taken_eq,r07_Rack_eq,r07_Taken_eq,full_eq,slab_full,bne,jB,jF,reduceCtorEq] at*
 all_goals
  skip
 all_goals
  simp only [slab_open,pOpen,Pg.run_get,Pg.run_put,Pg.run_ret,Pg.run_bind,Pg.run_cond,gt_iff_lt,cond_true,cond_false, *]
 all_goals
  try rfl
theorem slab_open_ok:EOk 117 e_slab_open:=
 ent_w0 Dg T_slab_full_ok (I:=[2999998]) Tryz.func117 mix (B:=bodyOf Tryz.f117) (by kernel_rfl) rfl (by kernel_rfl) 400
  λ_ s t p h k hb hp=>⟨_, λ_ _ _=>by kernel_rfl,slab_open_begin s t p h k (hp _ (.head _))⟩
def T_slab_open:Tb:=(117,e_slab_open)::T_slab_full
theorem T_slab_open_ok:TOk T_slab_open:=tc_ slab_open_ok T_slab_full_ok
def slab_Pick (s:VS) (t p h k w:Int):VS×Int×LI×Bool:=(pPick ⟨t,p,h⟩ k w).run s
abbrev c_slab_Pick:Ct Sg:=⟨some wView,false,[.agg [.i .i64, .i .i64, .i .i64], .i .i64, .i .i64], .tup [.i .i64, .new 3 [some .i64], .b]⟩
def e_slab_Pick:Entry Sg:=entC c_slab_Pick slab_Pick (λs t p h k w=>[p≤1024])
abbrev Dx (r8:LI) (w:Int):=(iJ (if (↑(iC r8):Int)<w then (↑(iC r8):Int) else w))
abbrev Dy (r6:VS×Int) (r12:Int):=(iA iO (↑(jN (iP 32 r6.2 ||| iP 32 r12)):Int))
def slab_Pick_w (s:VS) (t p h k w:Int) (R_:VS×Int×LI×Bool→Prop):Prop:=(bw_ (decide (k<0)||decide (k≥9)||decide (w<1)||decide (w>4)) (R_ ((s,(-1),[],false))) (∀r2:VS×Int×Bool,r2=(slab_open s t p h k)→(aw_ (p≤1024) (bw_ (!r2.2.2) (R_ ((r2.1,(-1),[],false))) (∀r5:Int,r5=(place_Taken t p h r2.2.1)→(∀r6:VS×Int,r6=((VS.read r2.1 r5,VS.get r2.1 r5))→(∀r7:Int,r7=(kSlots k)→(∀r8:LI,r8=(half_Free r6.2 r7)→(bw_ ((↑(iC r8):Int)==0) (R_ ((r6.1,(-1),[],false))) (aw_ ((0≤if (↑(iC r8):Int)<w then (↑(iC r8):Int) else w)∧(if (↑(iC r8):Int)<w then (↑(iC r8):Int) else w)≤(↑(iC r8):Int)) (∀r12:Int,r12=(slab_bits (List.take (Dx r8 w) r8))→(aw_ (nnL (List.take (Dx r8 w) r8)) (∀r14:Int,r14=(place_Taken t p h r2.2.1)→(∀r15:VS,r15=(VS.set r6.1 r14 (Dy r6 r12))→(aw_ (bd32 (Dy r6 r12)) (∀r17:Bool,r17=(slab_full (Dy r6 r12) k)→(aw_ (bd32 (Dy r6 r12)) (bw_ (r17) (∀r20:VS,r20=(link_Pull r15 t p h (place_Rack k) r2.2.1)→(R_ ((r20,r2.2.1,List.take (Dx r8 w) r8,true)))) (R_ ((r15,r2.2.1,List.take (Dx r8 w) r8,true)))))))))))))))))))))
theorem slab_Pick_begin (s:VS) (t p h k w:Int) (hp0:p≤1024):slab_Pick_w s t p h k w (λr__=>r__=(slab_Pick s t p h k w)):=by
 unfold slab_Pick_w Dy Dx
 have hcond:(decide (k<0)||decide (k≥9)||decide (w<1)||decide (w>4))=(decide (k<0)||decide (9≤k)||decide (w<1)||decide (4<w)):=by
  rfl
 rw [hcond]
 refine ⟨λhc=>?_, λhc=>?_⟩
 ·show _=slab_Pick s t p h k w
  rw [slab_Pick,pPick,hc];rfl
 have hkw:(0≤k∧k≤8)∧1≤w∧w≤4:=by
  simp only [jI,decide_eq_false_iff_not] at hc;omega
 have hrun:slab_Pick s t p h k w=((pOpen ⟨t,p,h⟩ k).bind λr=>bif r.2 then .get (Cf.taken ⟨t,p,h⟩ r.1) (pTakeS ⟨t,p,h⟩ r.1 k w) else .ret (-1,[],false)).run s:=by
  rw [slab_Pick,pPick,hc];rfl
 rw [Pg.run_bind] at hrun
 have e0:slab_open s t p h k=(pOpen ⟨t,p,h⟩ k).run s:=rfl
 rw [e0]
 generalize (pOpen ⟨t,p,h⟩ k).run s=o at hrun ⊢
 obtain ⟨s1,g,ok⟩:=o
 rintro r2 rfl
 refine ⟨hp0, λ_=>⟨λhn=>?_, λhn=>?_⟩⟩
 ·have hn':ok=false:=(jB _).mp hn
  subst hn'
  exact hrun.symm
 have hn':ok=true:=(jF _).mp hn
 subst hn'
 simp only [place_Taken_eq,place_Rack_eq]
 rintro r5 rfl r6 rfl r7 rfl r8 rfl
 have hrun:slab_Pick s t p h k w=(pTakeS ⟨t,p,h⟩ g k w (s1.get (Cf.taken ⟨t,p,h⟩ g))).run (s1.read (Cf.taken ⟨t,p,h⟩ g)):=hrun
 have hT:bd32 (s1.get (Cf.taken ⟨t,p,h⟩ g)):=VS.get_bd _ _
 simp only
 rw [half_Free_eq hT (kSlots_bd k).2]
 generalize s1.get (Cf.taken ⟨t,p,h⟩ g)=T at hrun hT ⊢
 generalize s1.read (Cf.taken ⟨t,p,h⟩ g)=u at hrun ⊢
 have hks:=kSlots_bd k
 refine ⟨λhe=>?_, λhe=>⟨⟨by split<;>omega,by split<;>omega⟩, λ_=>?_⟩⟩
 ·show _=slab_Pick s t p h k w
  rw [hrun,pTakeS,he];rfl
 rw [take_if (by omega)]
 have hm:∀x∈(frL T (kSlots k)).take w.toNat,0≤x∧x<32:= λx hx=>by
  have:=frL_mem (List.mem_of_mem_take hx);omega
 rw [pTakeS,he,cond_false] at hrun
 generalize (frL T (kSlots k)).take w.toNat=l at hrun hm ⊢
 rintro r12 rfl
 refine ⟨λx hx=>(hm x hx).1, λ_=>?_⟩
 rw [or_bits hT hm]
 have hb:=(bitAt_setL hT hm).1
 rintro r14 rfl r15 rfl
 refine ⟨hb, λ_=>?_⟩
 rintro r17 rfl
 refine ⟨hb, λ_=>⟨λhf=>?_, λhf=>?_⟩⟩
 ·rintro r20 rfl
  have hf:full (setL T l) k=true:=hf
  show _=slab_Pick s t p h k w
  rw [hrun,pPutS,hf];simp only [Pg.run_put,Pg.run_bind,Pg.run_ret,cond_true,cond_false]<;>rfl
 ·have hf:full (setL T l) k=false:=hf
  show _=slab_Pick s t p h k w
  rw [hrun,pPutS,hf];simp only [Pg.run_put,Pg.run_bind,Pg.run_ret,cond_true,cond_false]<;>rfl
theorem slab_Pick_ok:EOk 71 e_slab_Pick:=
 ent_w0 Dg T_slab_open_ok (I:=[2999998]) Tryz.func71 mix (B:=bodyOf Tryz.f71) (by kernel_rfl) rfl (by kernel_rfl) 400
  λ_ s t p h k w hb hp=>⟨_, λ_ _ _=>by kernel_rfl,slab_Pick_begin s t p h k w (hp _ (.head _))⟩
def T_slab_Pick:Tb:=(71,e_slab_Pick)::T_slab_open
theorem T_slab_Pick_ok:TOk T_slab_Pick:=tc_ slab_Pick_ok T_slab_open_ok
def slab_Give (s:VS) (t p h g b:Int):VS:=((pGive ⟨t,p,h⟩ g b).run s).1
abbrev c_slab_Give:Ct Sg:=⟨some wView,false,[.agg [.i .i64, .i .i64, .i .i64], .i .i64, .i .i64], .skip⟩
def e_slab_Give:Entry Sg:=entC c_slab_Give slab_Give (λs t p h g b=>[p≤1024,0≤g])
def slab_Give_w (s:VS) (t p h g b:Int) (R_:VS→Prop):Prop:=(bw_ (decide (b<0)||decide (b≥32)) (R_ (s)) (∀r2:Int,r2=(place_Info t p h g)→(∀r3:VS×Int,r3=((VS.read s r2,VS.get s r2))→(∀r4:Int×Int×Int×Bool,r4=(info_Get r3.2)→(∀r6:Int,r6=(place_Rack r4.2.2.1)→(∀r7:Int,r7=(place_Taken t p h g)→(∀r8:VS×Int,r8=((VS.read r3.1 r7,VS.get r3.1 r7))→(∀r10:Int,r10=(slab_bits [b])→(aw_ (nnL [b]) (∀r12:Bool,r12=(slab_full r8.2 r4.2.2.1)→(aw_ (bd32 r8.2) (bw_ (iA iO (↑(jN (iP 32 r8.2 &&& ~~~iP 32 r10)):Int) !=0) (∀r15:Int,r15=(place_Taken t p h g)→(∀r16:VS,r16=(VS.set r8.1 r15 (iA iO (↑(jN (iP 32 r8.2 &&& ~~~iP 32 r10)):Int)))→(aw_ (bd32 (iA iO (↑(jN (iP 32 r8.2 &&& ~~~iP 32 r10)):Int))) (bw_ (r12) (∀r19:VS,r19=(link_Push r16 t p h r6 g)→(R_ (r19))) (R_ (r16)))))) (bw_ (!r12) (∀r16:VS,r16=(link_Pull r8.1 t p h r6 g)→(∀r17:Int,r17=(place_Taken t p h g)→(∀r18:VS,r18=(VS.set r16 r17 0)→(aw_ (bd32 0) (∀r20:VS,r20=(span_Release r18 t p h g 1)→(aw_ (p≤1024) (aw_ (0≤g) (R_ (r20))))))))) (∀r16:Int,r16=(place_Taken t p h g)→(∀r17:VS,r17=(VS.set r8.1 r16 0)→(aw_ (bd32 0) (∀r19:VS,r19=(span_Release r17 t p h g 1)→(aw_ (p≤1024) (aw_ (0≤g) (R_ (r19)))))))))))))))))))))
theorem slab_Give_begin (s:VS) (t p h g b:Int) (hp0:p≤1024) (hp1:0≤g):slab_Give_w s t p h g b (λr__=>r__=(slab_Give s t p h g b)):=by
 unfold slab_Give_w
 refine ⟨λhc=>?_, λhc=>?_⟩
 ·have hc:(decide (b<0)||decide (32≤b))=true:=hc
  show _=slab_Give s t p h g b
  rw [slab_Give,pGive,hc];rfl
 have hb:0≤b∧b<32:=by simp only [jI,decide_eq_false_iff_not] at hc;omega
 have hc:(decide (b<0)||decide (32≤b))=false:=hc
 simp only [place_Taken_eq,place_Rack_eq,place_Info_eq]
 rintro r2 rfl r3 rfl r4 rfl r6 rfl r7 rfl r8 rfl r10 rfl
 refine ⟨λx hx=>by rw [jL] at hx;omega, λ_=>?_⟩
 simp only [infoG1,infoG2,infoG3]
 have hT:=VS.get_bd (s.read (Cf.info ⟨t,p,h⟩ g)) (Cf.taken ⟨t,p,h⟩ g)
 rw [and_bits hT hb]
 have hu:=(bitAt_clrB hT hb).1
 have hrun:slab_Give s t p h g b=((pGive ⟨t,p,h⟩ g b).run s).1:=rfl
 unfold pGive at hrun
 rw [hc,cond_false,Pg.run_bind] at hrun
 simp only [pInfo,Pg.run_get,Pg.run_ret] at hrun
 generalize (s.read (Cf.info ⟨t,p,h⟩ g)).get (Cf.taken ⟨t,p,h⟩ g)=T at hrun hT hu ⊢
 generalize (s.read (Cf.info ⟨t,p,h⟩ g)).read (Cf.taken ⟨t,p,h⟩ g)=u at hrun ⊢
 generalize (iGet (s.get (Cf.info ⟨t,p,h⟩ g))).c=k at hrun ⊢
 rintro r12 rfl
 refine ⟨hT, λ_=>⟨λhz=>?_, λhz=>?_⟩⟩
 ·have hz:(clrB T b==0)=false:=by simpa using hz
  rw [hz] at hrun
  rintro r15 rfl r16 rfl
  refine ⟨hu, λ_=>⟨λhf=>?_, λhf=>?_⟩⟩
  ·rintro r19 rfl
   have hf:full T k=true:=hf
   rw [hf] at hrun;(simp only [Pg.run_put,Pg.run_bind,Pg.run_ret,cond_true,cond_false] at hrun;exact hrun.symm)
  ·have hf:full T k=false:=hf
   rw [hf] at hrun;(simp only [Pg.run_put,Pg.run_bind,Pg.run_ret,cond_true,cond_false] at hrun;exact hrun.symm)
 ·have hz:(clrB T b==0)=true:=by simpa using hz
  rw [hz] at hrun
  refine ⟨λhf=>?_, λhf=>?_⟩
  ·have hf:full T k=false:=(jB _).mp hf
   rw [hf] at hrun
   rintro r16 rfl r17 rfl r18 rfl
   refine ⟨⟨by decide,by decide⟩, λ_=>?_⟩
   rintro r20 rfl
   exact ⟨hp0, λ_=>⟨hp1, λ_=>by simp only [Pg.run_put,Pg.run_bind,Pg.run_ret,cond_true,cond_false] at hrun;exact hrun.symm⟩⟩
  ·have hf:full T k=true:=(jF _).mp hf
   rw [hf] at hrun
   rintro r16 rfl r17 rfl
   refine ⟨⟨by decide,by decide⟩, λ_=>?_⟩
   rintro r19 rfl
   exact ⟨hp0, λ_=>⟨hp1, λ_=>by simp only [Pg.run_put,Pg.run_bind,Pg.run_ret,cond_true,cond_false] at hrun;exact hrun.symm⟩⟩
theorem slab_Give_ok:EOk 49 e_slab_Give:=
 ent_w0 Dg T_slab_Pick_ok (I:=[2999998]) Tryz.func49 mix (B:=bodyOf Tryz.f49) (by kernel_rfl) rfl (by kernel_rfl) 400
  λ_ s t p h g b hb hp=>⟨_, λ_ _ _=>by kernel_rfl,slab_Give_begin s t p h g b (hp _ (.head _)) (hp _ (.tail _ (.head _)))⟩
def T_slab_Give:Tb:=(49,e_slab_Give)::T_slab_Pick
theorem T_slab_Give_ok:TOk T_slab_Give:=tc_ slab_Give_ok T_slab_Pick_ok
def GH:Tb:=T_slab_Give
theorem DY:TOk GH:=T_slab_Give_ok
def BC (s:VS) (t p h g b:Int):VS:=((pGive ⟨t,p,h⟩ g b).run s).1
abbrev KE:Ct Sg:=⟨some Ap,false,[.agg [.i .i64, .i .i64, .i .i64], .i .i64, .i .i64], .skip⟩
def GI:Entry Sg:=entC KE BC (λs t p h g b=>[p≤1024,0≤g])
abbrev Dz (r14:VS) (t p h g:Int) (R_:VS→Prop):Prop:=(aw_ (bd32 0) (∀r16:VS,r16=(BG r14 t p h g 1)→(aw_ (p≤1024) (aw_ (0≤g) (R_ (r16))))))
def GK (s:VS) (t p h g b:Int) (R_:VS→Prop):Prop:=(bw_ (decide (b<0)||decide (b>31)) (R_ (s)) (∀r2:VS×Int×Int×Int,r2=(Az s t p h g)→(∀r3:Int,r3=(r07_Taken t p h g)→(∀r4:VS×Int,r4=((VS.read r2.1 r3,VS.get r2.1 r3))→(∀r5:Bool,r5=(r01_Bit r4.2 b)→(bw_ (r5) (∀r7:Int,r7=(BQ b)→(bw_ (iA iO (r4.2-r7)==0) (∀r9:Bool,r9=(r12_Full r4.2 r2.2.2.2)→(aw_ (bd32 r4.2) (bw_ (!r9) (∀r12:VS,r12=(BB r4.1 t p h (r07_Rack r2.2.2.2) g)→(∀r13:Int,r13=(r07_Taken t p h g)→(∀r14:VS,r14=(VS.set r12 r13 0)→(Dz r14 t p h g R_)))) (∀r12:Int,r12=(r07_Taken t p h g)→(∀r13:VS,r13=(VS.set r4.1 r12 0)→(Dz r13 t p h g R_)))))) (∀r9:Int,r9=(r07_Taken t p h g)→(∀r10:VS,r10=(VS.set r4.1 r9 (iA iO (r4.2-r7)))→(aw_ (bd32 (iA iO (r4.2-r7))) (∀r12:Bool,r12=(r12_Full r4.2 r2.2.2.2)→(aw_ (bd32 r4.2) (bw_ (r12) (∀r15:VS,r15=(BA r10 t p h (r07_Rack r2.2.2.2) g)→(R_ (r15))) (R_ (r10)))))))))) (bw_ (r4.2==0) (∀r8:Bool,r8=(r12_Full r4.2 r2.2.2.2)→(aw_ (bd32 r4.2) (bw_ (!r8) (∀r11:VS,r11=(BB r4.1 t p h (r07_Rack r2.2.2.2) g)→(∀r12:Int,r12=(r07_Taken t p h g)→(∀r13:VS,r13=(VS.set r11 r12 0)→(Dz r13 t p h g R_)))) (∀r11:Int,r11=(r07_Taken t p h g)→(∀r12:VS,r12=(VS.set r4.1 r11 0)→(Dz r12 t p h g R_)))))) (∀r8:Int,r8=(r07_Taken t p h g)→(∀r9:VS,r9=(VS.set r4.1 r8 r4.2)→(aw_ (bd32 r4.2) (∀r11:Bool,r11=(r12_Full r4.2 r2.2.2.2)→(aw_ (bd32 r4.2) (bw_ (r11) (∀r14:VS,r14=(BA r9 t p h (r07_Rack r2.2.2.2) g)→(R_ (r14))) (R_ (r9)))))))))))))))
theorem Ie (s:VS) (t p h g b:Int) (hp0:p≤1024) (hp1:0≤g):GK s t p h g b (λr__=>r__=(BC s t p h g b)):=by
 unfold GK Dz
 have hcond:(decide (b<0)||decide (b>31))=(decide (b<0)||decide (32≤b)):=by
  apply Bool.eq_iff_iff.2
  simp only [Bool.or_eq_true,decide_eq_true_eq];omega
 rw [hcond]
 refine ⟨λhc=>?_, λhc=>?_⟩
 ·show _=BC s t p h g b
  rw [BC,pGive,hc];rfl
 have hb:0≤b∧b<32:=by simp only [jI,decide_eq_false_iff_not] at hc;omega
 simp only [r07_Taken_eq,r07_Rack_eq,full_eq]
 rintro r2 rfl r3 rfl r4 rfl
 have hT:=VS.get_bd (s.read (Cf.info ⟨t,p,h⟩ g)) (Cf.taken ⟨t,p,h⟩ g)
 have hrun:BC s t p h g b=((pGive ⟨t,p,h⟩ g b).run s).1:=rfl
 unfold pGive at hrun
 rw [hc,cond_false,Pg.run_bind] at hrun
 simp only [Az,pInfo,Pg.run_get,Pg.run_ret] at hrun ⊢
 generalize (s.read (Cf.info ⟨t,p,h⟩ g)).get (Cf.taken ⟨t,p,h⟩ g)=T at hrun hT ⊢
 generalize (s.read (Cf.info ⟨t,p,h⟩ g)).read (Cf.taken ⟨t,p,h⟩ g)=u at hrun ⊢
 generalize (iGet (s.get (Cf.info ⟨t,p,h⟩ g))).c=k at hrun ⊢
 have hu:=(bitAt_clrB hT hb).1
 have z0:bd32 0:=⟨by decide,by decide⟩
 rintro r5 rfl
 rw [bit_eq hT]
 refine ⟨λhbt=>?_, λhbt=>?_⟩
 ·rintro r7 rfl
  rw [JK hT hb hbt]
  refine ⟨λhz=>?_, λhz=>?_⟩
  ·rw [hz] at hrun
   rintro r9 rfl
   refine ⟨hT, λ_=>⟨λhf=>?_, λhf=>?_⟩⟩
   ·rw [(jB _).mp hf] at hrun
    rintro r12 rfl r13 rfl r14 rfl
    refine ⟨z0, λ_=>?_⟩
    rintro r16 rfl
    exact ⟨hp0, λ_=>⟨hp1, λ_=>by simp only [Pg.run_put,Pg.run_bind,Pg.run_ret,cond_true,cond_false] at hrun;exact hrun.symm⟩⟩
   ·rw [(jF _).mp hf] at hrun
    rintro r12 rfl r13 rfl
    refine ⟨z0, λ_=>?_⟩
    rintro r15 rfl
    exact ⟨hp0, λ_=>⟨hp1, λ_=>by simp only [Pg.run_put,Pg.run_bind,Pg.run_ret,cond_true,cond_false] at hrun;exact hrun.symm⟩⟩
  ·rw [hz] at hrun
   rintro r9 rfl r10 rfl
   refine ⟨hu, λ_=>?_⟩
   rintro r12 rfl
   refine ⟨hT, λ_=>⟨λhf=>?_, λhf=>?_⟩⟩
   ·rintro r15 rfl
    rw [hf] at hrun;(simp only [Pg.run_put,Pg.run_bind,Pg.run_ret,cond_true,cond_false] at hrun;exact hrun.symm)
   ·rw [hf] at hrun;(simp only [Pg.run_put,Pg.run_bind,Pg.run_ret,cond_true,cond_false] at hrun;exact hrun.symm)
 ·have es:clrB T b=T:=by unfold clrB;rw [hbt];rfl
  rw [es] at hrun
  refine ⟨λhz=>?_, λhz=>?_⟩
  ·rw [hz] at hrun
   rintro r8 rfl
   refine ⟨hT, λ_=>⟨λhf=>?_, λhf=>?_⟩⟩
   ·rw [(jB _).mp hf] at hrun
    rintro r11 rfl r12 rfl r13 rfl
    refine ⟨z0, λ_=>?_⟩
    rintro r15 rfl
    exact ⟨hp0, λ_=>⟨hp1, λ_=>by simp only [Pg.run_put,Pg.run_bind,Pg.run_ret,cond_true,cond_false] at hrun;exact hrun.symm⟩⟩
   ·rw [(jF _).mp hf] at hrun
    rintro r11 rfl r12 rfl
    refine ⟨z0, λ_=>?_⟩
    rintro r14 rfl
    exact ⟨hp0, λ_=>⟨hp1, λ_=>by simp only [Pg.run_put,Pg.run_bind,Pg.run_ret,cond_true,cond_false] at hrun;exact hrun.symm⟩⟩
  ·rw [hz] at hrun
   rintro r8 rfl r9 rfl
   refine ⟨hT, λ_=>?_⟩
   rintro r11 rfl
   refine ⟨hT, λ_=>⟨λhf=>?_, λhf=>?_⟩⟩
   ·rintro r14 rfl
    rw [hf] at hrun;(simp only [Pg.run_put,Pg.run_bind,Pg.run_ret,cond_true,cond_false] at hrun;exact hrun.symm)
   ·rw [hf] at hrun;(simp only [Pg.run_put,Pg.run_bind,Pg.run_ret,cond_true,cond_false] at hrun;exact hrun.symm)
theorem JA:EOk 53 GI:=
 ent_w0 Dg DY (I:=[2999998]) Tryz.func53 mix (B:=bodyOf Tryz.f53) (by kernel_rfl) rfl (by kernel_rfl) 400
  λ_ s t p h g b hb hp=>⟨_, λ_ _ _=>by kernel_rfl,Ie s t p h g b (hp _ (.head _)) (hp _ (.tail _ (.head _)))⟩
def GL:Tb:=(53,GI)::GH
theorem DZ:TOk GL:=tc_ JA DY
end
section
open Go.Sl
theorem cs_n1 {s k:Int} {b:Bool} (h:(kSlots k==0||decide (s<10)||b)=false):0≤s:=by
 have z:=(Bool.or_eq_false_iff.1 (Bool.or_eq_false_iff.1 h).1).2
 simp only [decide_eq_false_iff_not] at z;omega
theorem cs_n2 {s k:Int} {b:Bool} (h:(kSlots k==0||decide (s<10)||b)=false):kSlots k≠0:=by
 simp only [jI,beq_eq_false_iff_ne] at h;exact h.1.1
def class_Size (s k:Int):Int:=(bif kSlots k==0||decide (s<10)||decide (s>20) then 0 else iA iB (↑(jN (iP 64 (iA iB (Int.tdiv (iA iB ((1:Int)*2^min (iJ s) 64)) (kSlots k))) &&& ~~~iP 64 15)):Int))
abbrev c_class_Size:Ct Sg:=⟨none,false,[.i .i64, .i .i64], .i .i64⟩
def e_class_Size:Entry Sg:=entC c_class_Size class_Size (λ_ _=>[])
theorem class_Size_ok:EOk 115 e_class_Size:=
 ent_ok Dg DZ (I:=[]) Tryz.func115 mix (B:=bodyOf Tryz.f115) (by kernel_rfl) rfl (by kernel_rfl) 400
  λ_ s k hb hp=>⟨(class_Size s k),(.br (kSlots k==0||decide (s<10)||decide (s>20)) .t (.need (0≤s) (.need (kSlots k≠0) .t))), λ_ _ _=>by kernel_rfl,⟨λz0=>trivial, λz0=>⟨(by first|exact cs_n1 z0|exact cs_n2 z0), λz1=>⟨(by first|exact cs_n1 z0|exact cs_n2 z0), λz2=>trivial⟩⟩⟩,rfl⟩
def T_class_Size:Tb:=(115,e_class_Size)::GL
theorem T_class_Size_ok:TOk T_class_Size:=tc_ class_Size_ok DZ
theorem size_table:∀i:Nat,i<11→∀k:Nat,k<9→class_Size (10+(i:Int)) (k:Int)=r05_Size (10+(i:Int)) (k:Int)∧0<r05_Size (10+(i:Int)) (k:Int):=by decide+kernel
theorem r04_Page_pos {s:Int}:(r04_Page 1 4 s==0)=decide (s<10∨20<s):=by
 by_cases h:s<10∨20<s
 ·have:r04_Right 1 4 s=false:=by
   simp only [r04_Right,Bool.and_eq_false_iff,decide_eq_false_iff_not];omega
  simp [r04_Page,this,h]
 ·have:r04_Right 1 4 s=true:=by
   simp only [r04_Right,iK,decide_eq_true_eq];omega
  have:=pow2_pos s.toNat
  simp only [r04_Page, *,cond_true,decide_false]
  simp;omega
theorem kSlots_zero {k:Int}:(kSlots k==0)=decide (k<0∨9≤k):=by
 by_cases h:k<0∨9≤k
 ·have e:kSlots k=0:=by
   unfold kSlots
   by_cases h0:0≤k
   ·have e:decide (0≤k)=true:=by simpa using h0
    rw [e,cond_true,iI,jG (by simp;omega)];rfl
   ·have e:decide (0≤k)=false:=by simpa using h0
    rw [e];rfl
  rw [e];simp [h]
 ·rcases (by omega:k=0∨k=1∨k=2∨k=3∨k=4∨k=5∨k=6∨k=7∨k=8) with rfl|rfl|rfl|rfl|rfl|rfl|rfl|rfl|rfl<;>decide
theorem slots_same (k:Int):kSlots k=r05_Slots k:=(r05_Slots_eq k).symm
theorem class_Size_zero {s k:Int} (h:k<0∨9≤k∨s<10∨20<s):class_Size s k=0∧r05_Size s k=0:=by
 have h1:(kSlots k==0||decide (s<10)||decide (s>20))=true:=by
  rw [kSlots_zero];simp only [Bool.or_eq_true,decide_eq_true_eq];omega
 have h2:(r05_Slots k==0||r04_Page 1 4 s==0)=true:=by
  rw [←slots_same,kSlots_zero,r04_Page_pos];simp only [Bool.or_eq_true,decide_eq_true_eq];omega
 exact ⟨by simp only [class_Size,h1,cond_true],by simp only [r05_Size,h2,cond_true]⟩
theorem size_in {s k:Int} (h:0≤k∧k<9∧10≤s∧s≤20):class_Size s k=r05_Size s k∧0<r05_Size s k:=by
 have:=size_table (s-10).toNat (by omega) k.toNat (by omega)
 rwa [show (10+((s-10).toNat:Int))=s by omega,show ((k.toNat:Nat):Int)=k by omega] at this
theorem size_same (s k:Int):class_Size s k=r05_Size s k:=by
 by_cases h:0≤k∧k<9∧10≤s∧s≤20
 ·exact (size_in h).1
 ·obtain ⟨h1,h2⟩:=class_Size_zero (s:=s) (k:=k) (by omega);rw [h1,h2]
def ofOpt:Option Nat→Int×Bool
 |some k=>((k:Int),true)
 |none=>(0,false)
theorem right_iff {t p s:Int}:r04_Right t p s=true↔(1≤t∧t≤16)∧(4≤p∧p≤1024)∧10≤s∧s≤20:=by
 simp only [r04_Right,iK,decide_eq_true_eq];omega
theorem need_Page {t p s:Int} (h:(conf_Check t p s !=0)=false):0≤s:=by
 rw [conf_Check_eq] at h
 cases hr:r04_Right t p s with
 |true=>have:=right_iff.1 hr;omega
 |false=>rw [hr] at h;simp at h
theorem r04_ne {t p s:Int} (h:r04_Right t p s=true):r04_Page t p s≠0:=by
 have:=pow2_pos s.toNat
 simp only [r04_Page,h,cond_true];omega
theorem r06_ne {t p s:Int} {b:Bool} (h:(!r04_Right t p s||b)=false):r04_Page t p s≠0:=r04_ne (by simpa using (Bool.or_eq_false_iff.1 h).1)
theorem r06_ne2 {t p s:Int} {b c:Bool} (h:(!r04_Right t p s||b||c)=false):r04_Page t p s≠0:=r06_ne (Bool.or_eq_false_iff.1 h).1
theorem r06_ne3 {t p s:Int} {b c d:Bool} (h:(!r04_Right t p s||b||c||d)=false):r04_Page t p s≠0:=r06_ne2 (Bool.or_eq_false_iff.1 h).1
def conf_Page (t p s:Int):Int:=(bif conf_Check t p s !=0 then 0 else iA iB ((1:Int)*2^min (iJ s) 64))
abbrev c_conf_Page:Ct Sg:=⟨none,false,[.agg [.i .i64, .i .i64, .i .i64]], .i .i64⟩
def e_conf_Page:Entry Sg:=entC c_conf_Page conf_Page (λ_ _ _=>[])
theorem conf_Page_ok:EOk 113 e_conf_Page:=
 ent_ok Dg T_class_Size_ok (I:=[]) Tryz.func113 mix (B:=bodyOf Tryz.f113) (by kernel_rfl) rfl (by kernel_rfl) 400
  λ_ t p s hb hp=>⟨(conf_Page t p s),(.br (conf_Check t p s !=0) .t (.need (0≤s) .t)), λ_ _ _=>by kernel_rfl,⟨λz1=>trivial, λz1=>⟨(by exact need_Page (by assumption)), λz2=>trivial⟩⟩,rfl⟩
def T_conf_Page:Tb:=(113,e_conf_Page)::T_class_Size
theorem T_conf_Page_ok:TOk T_conf_Page:=tc_ conf_Page_ok T_class_Size_ok
theorem conf_Page_eq (t p s:Int):conf_Page t p s=r04_Page t p s:=by
 unfold conf_Page r04_Page
 rw [conf_Check_eq]
 cases hr:r04_Right t p s with
 |false=>rfl
 |true=>
  have:=right_iff.1 hr
  have h1:=pow2_pos s.toNat
  have h2:=pow2_le (show s.toNat≤20 by omega)
  simp only [cond_true,jO,cond_false,bne_self_eq_false]
  rw [show min s.toNat 64=s.toNat by omega,Int.one_mul,w64 (by omega)]
theorem page_zero {t p s:Int} (h:r04_Right t p s=false):r04_Page t p s=0:=by simp [r04_Page,h]
theorem pgIn {t p s:Int} (h:r04_Right t p s=true):r04_Page t p s=2^s.toNat:=by simp [r04_Page,h]
theorem s_of_page {t p s:Int} (h:r04_Page t p s≠0):0≤s:=by
 cases hr:r04_Right t p s with
 |true=>have:=right_iff.1 hr;omega
 |false=>exact absurd (page_zero hr) h
def conf_Bytes (t p s:Int):Int:=iA iB (conf_Page t p s*p)
abbrev c_conf_Bytes:Ct Sg:=⟨none,false,[.agg [.i .i64, .i .i64, .i .i64]], .i .i64⟩
def e_conf_Bytes:Entry Sg:=entC c_conf_Bytes conf_Bytes (λ_ _ _=>[])
theorem conf_Bytes_ok:EOk 114 e_conf_Bytes:=
 ent_ok Dg T_conf_Page_ok (I:=[]) Tryz.func114 mix (B:=bodyOf Tryz.f114) (by kernel_rfl) rfl (by kernel_rfl) 400
  λ_ t p s hb hp=>⟨(conf_Bytes t p s), .t, λ_ _ _=>by kernel_rfl,trivial,rfl⟩
def T_conf_Bytes:Tb:=(114,e_conf_Bytes)::T_conf_Page
theorem T_conf_Bytes_ok:TOk T_conf_Bytes:=tc_ conf_Bytes_ok T_conf_Page_ok
def spot_there (pg off t p s:Int):Bool:=conf_Check t p s==0&&decide (pg≥0)&&decide (pg<p)&&decide (off≥0)&&decide (off<conf_Page t p s)
abbrev c_spot_there:Ct Sg:=⟨none,false,[.agg [.i .i64, .i .i64], .agg [.i .i64, .i .i64, .i .i64]], .b⟩
def e_spot_there:Entry Sg:=entC c_spot_there spot_there (λ_ _ _ _ _=>[])
theorem spot_there_ok:EOk 116 e_spot_there:=
 ent_ok Dg T_conf_Bytes_ok (I:=[]) Tryz.func116 mix (B:=bodyOf Tryz.f116) (by kernel_rfl) rfl (by kernel_rfl) 400
  λ_ pg off t p s hb hp=>⟨(spot_there pg off t p s), .t, λ_ _ _=>by kernel_rfl,trivial,rfl⟩
def T_spot_there:Tb:=(116,e_spot_there)::T_conf_Bytes
theorem T_spot_there_ok:TOk T_spot_there:=tc_ spot_there_ok T_conf_Bytes_ok
theorem there_right {pg off t p s:Int} (h:spot_there pg off t p s=true):r04_Right t p s=true:=by
 simp only [spot_there,iK] at h
 have:=h.1.1.1.1
 rw [conf_Check_eq] at this
 cases hr:r04_Right t p s with
 |true=>rfl
 |false=>rw [hr] at this;simp at this
theorem need_Of {pg off t p s:Int} (h:(!spot_there pg off t p s)=false):0≤s:=by
 have:=right_iff.1 (there_right (by simpa using h));omega
theorem need_aPage {t p s:Int} {b c:Bool} (h:(conf_Page t p s==0||b||c)=false):0≤s:=by
 simp only [jI,beq_eq_false_iff_ne,ne_eq,conf_Page_eq] at h
 exact s_of_page h.1.1
theorem need_Slot {s k:Int} {b:Bool} (h:(class_Size s k==0||b)=false):class_Size s k≠0:=by
 simp only [jI,beq_eq_false_iff_ne,ne_eq] at h;exact h.1
theorem r05_slots_le (k:Int):0≤r05_Slots k∧r05_Slots k≤32:=by rw [r05_Slots_eq];exact kSlots_bd k
def addr_Of (t p s pg off:Int):Int×Bool:=(bif !spot_there pg off t p s then (0,false) else (iA iB (↑(jN (iP 64 (iA iB (iA iB (pg+1)*2^min (iJ s) 64)) ||| iP 64 off)):Int),true))
abbrev c_addr_Of:Ct Sg:=⟨none,false,[.agg [.i .i64, .i .i64, .i .i64], .i .i64, .i .i64], .tup [.i .i64, .b]⟩
def e_addr_Of:Entry Sg:=entC c_addr_Of addr_Of (λ_ _ _ _ _=>[])
theorem addr_Of_ok:EOk 76 e_addr_Of:=
 ent_ok Dg T_spot_there_ok (I:=[]) Tryz.func76 mix (B:=bodyOf Tryz.f76) (by kernel_rfl) rfl (by kernel_rfl) 400
  λ_ t p s pg off hb hp=>⟨(addr_Of t p s pg off),(.br (!spot_there pg off t p s) .t (.need (0≤s) .t)), λ_ _ _=>by kernel_rfl,⟨λz1=>trivial, λz1=>⟨(by exact need_Of (by assumption)), λz2=>trivial⟩⟩,rfl⟩
def T_addr_Of:Tb:=(76,e_addr_Of)::T_spot_there
theorem T_addr_Of_ok:TOk T_addr_Of:=tc_ addr_Of_ok T_spot_there_ok
def addr_Page (t p s a:Int):Int×Int×Bool:=(bif conf_Page t p s==0||decide (a<conf_Page t p s)||decide (a>iA iB (iA iB (conf_Bytes t p s+conf_Page t p s)-1)) then (0,0,false) else (iA iB (Int.fdiv a (2^min (iJ s) 64)-1),iA iB (↑(jN (iP 64 a &&& iP 64 (iA iB (conf_Page t p s-1)))):Int),true))
abbrev c_addr_Page:Ct Sg:=⟨none,false,[.agg [.i .i64, .i .i64, .i .i64], .i .i64], .tup [.i .i64, .i .i64, .b]⟩
def e_addr_Page:Entry Sg:=entC c_addr_Page addr_Page (λ_ _ _ _=>[])
theorem addr_Page_ok:EOk 69 e_addr_Page:=
 ent_ok Dg T_addr_Of_ok (I:=[]) Tryz.func69 mix (B:=bodyOf Tryz.f69) (by kernel_rfl) rfl (by kernel_rfl) 400
  λ_ t p s a hb hp=>⟨(addr_Page t p s a),(.br (conf_Page t p s==0||decide (a<conf_Page t p s)||decide (a>iA iB (iA iB (conf_Bytes t p s+conf_Page t p s)-1))) .t (.need (0≤s) .t)), λ_ _ _=>by kernel_rfl,⟨λz1=>trivial, λz1=>⟨(by exact need_aPage (by assumption)), λz2=>trivial⟩⟩,rfl⟩
def T_addr_Page:Tb:=(69,e_addr_Page)::T_addr_Of
theorem T_addr_Page_ok:TOk T_addr_Page:=tc_ addr_Page_ok T_addr_Of_ok
def r06_Page (t p s a:Int):Int×Int×Bool:=(bif !r04_Right t p s||decide (a<0)||decide (iA iB (Int.tdiv a (r04_Page t p s))<1)||decide (iA iB (Int.tdiv a (r04_Page t p s))>p) then (0,0,false) else (iA iB (iA iB (Int.tdiv a (r04_Page t p s))-1),Int.tmod a (r04_Page t p s),true))
abbrev c_r06_Page:Ct Sg:=⟨none,false,[.agg [.i .i64, .i .i64, .i .i64], .i .i64], .tup [.i .i64, .i .i64, .b]⟩
def e_r06_Page:Entry Sg:=entC c_r06_Page r06_Page (λ_ _ _ _=>[])
theorem r06_Page_ok:EOk 77 e_r06_Page:=
 ent_ok Dg T_addr_Page_ok (I:=[]) Tryz.func77 mix (B:=bodyOf Tryz.f77) (by kernel_rfl) rfl (by kernel_rfl) 400
  λ_ t p s a hb hp=>⟨(r06_Page t p s a),(.need ((!r04_Right t p s||decide (a<0))=false→r04_Page t p s≠0) (.need ((!r04_Right t p s||decide (a<0)||decide (iA iB (Int.tdiv a (r04_Page t p s))<1))=false→r04_Page t p s≠0) (.br (!r04_Right t p s||decide (a<0)||decide (iA iB (Int.tdiv a (r04_Page t p s))<1)||decide (iA iB (Int.tdiv a (r04_Page t p s))>p)) .t (.need (r04_Page t p s≠0) (.need (r04_Page t p s≠0) .t))))), λ_ _ _=>by kernel_rfl,⟨(by first|exact r06_ne|exact r06_ne2|exact r06_ne3|exact r06_ne2 (by assumption)|exact r06_ne3 (by assumption)), λz1=>⟨(by first|exact r06_ne|exact r06_ne2|exact r06_ne3|exact r06_ne2 (by assumption)|exact r06_ne3 (by assumption)), λz2=>⟨λz3=>trivial, λz3=>⟨(by first|exact r06_ne|exact r06_ne2|exact r06_ne3|exact r06_ne2 (by assumption)|exact r06_ne3 (by assumption)), λz4=>⟨(by first|exact r06_ne|exact r06_ne2|exact r06_ne3|exact r06_ne2 (by assumption)|exact r06_ne3 (by assumption)), λz5=>trivial⟩⟩⟩⟩⟩,rfl⟩
def T_r06_Page:Tb:=(77,e_r06_Page)::T_addr_Page
theorem T_r06_Page_ok:TOk T_r06_Page:=tc_ r06_Page_ok T_addr_Page_ok
def addr_first (t p s k n:Int):Int×Int×Bool:=(bif decide (n<0)||decide (n≥kSlots k) then (0,0,false) else (0,iA iB (n*class_Size s k),true))
abbrev c_addr_first:Ct Sg:=⟨none,false,[.agg [.i .i64, .i .i64, .i .i64], .i .i64, .i .i64], .tup [.agg [.i .i64, .i .i64], .b]⟩
def e_addr_first:Entry Sg:=entC c_addr_first addr_first (λ_ _ _ _ _=>[])
theorem addr_first_ok:EOk 75 e_addr_first:=
 ent_ok Dg T_r06_Page_ok (I:=[]) Tryz.func75 mix (B:=bodyOf Tryz.f75) (by kernel_rfl) rfl (by kernel_rfl) 400
  λ_ t p s k n hb hp=>⟨(addr_first t p s k n), .t, λ_ _ _=>by kernel_rfl,trivial,rfl⟩
def T_addr_first:Tb:=(75,e_addr_first)::T_r06_Page
theorem T_addr_first_ok:TOk T_addr_first:=tc_ addr_first_ok T_r06_Page_ok
def addr_At (t p s k pg n:Int):Int×Bool:=(bif !Prod.snd (iH (addr_first t p s k n)) then (0,false) else (iF (addr_Of t p s pg (iF (iH (addr_first t p s k n)))),iH (addr_Of t p s pg (iF (iH (addr_first t p s k n))))))
abbrev c_addr_At:Ct Sg:=⟨none,false,[.agg [.i .i64, .i .i64, .i .i64], .i .i64, .i .i64, .i .i64], .tup [.i .i64, .b]⟩
def e_addr_At:Entry Sg:=entC c_addr_At addr_At (λ_ _ _ _ _ _=>[])
theorem addr_At_ok:EOk 32 e_addr_At:=
 ent_ok Dg T_addr_first_ok (I:=[]) Tryz.func32 mix (B:=bodyOf Tryz.f32) (by kernel_rfl) rfl (by kernel_rfl) 400
  λ_ t p s k pg n hb hp=>⟨(addr_At t p s k pg n), .t, λ_ _ _=>by kernel_rfl,trivial,rfl⟩
def T_addr_At:Tb:=(32,e_addr_At)::T_addr_first
theorem T_addr_At_ok:TOk T_addr_At:=tc_ addr_At_ok T_addr_first_ok
def addr_Slot (t p s k off:Int):Int×Bool:=(bif class_Size s k==0||!spot_there 0 off t p s then (0,false) else (bif !Prod.snd (iH (addr_first t p s k (iA iB (Int.tdiv off (class_Size s k)))))||!(iF (addr_first t p s k (iA iB (Int.tdiv off (class_Size s k))))==0&&(iF (iH (addr_first t p s k (iA iB (Int.tdiv off (class_Size s k)))))==off&&true)) then (0,false) else (iA iB (Int.tdiv off (class_Size s k)),true)))
abbrev c_addr_Slot:Ct Sg:=⟨none,false,[.agg [.i .i64, .i .i64, .i .i64], .i .i64, .i .i64], .tup [.i .i64, .b]⟩
def e_addr_Slot:Entry Sg:=entC c_addr_Slot addr_Slot (λ_ _ _ _ _=>[])
theorem addr_Slot_ok:EOk 70 e_addr_Slot:=
 ent_ok Dg T_addr_At_ok (I:=[]) Tryz.func70 mix (B:=bodyOf Tryz.f70) (by kernel_rfl) rfl (by kernel_rfl) 400
  λ_ t p s k off hb hp=>⟨(addr_Slot t p s k off),(.br (class_Size s k==0||!spot_there 0 off t p s) .t (.need (class_Size s k≠0) .t)), λ_ _ _=>by kernel_rfl,⟨λz1=>trivial, λz1=>⟨(by exact need_Slot (by assumption)), λz2=>trivial⟩⟩,rfl⟩
def T_addr_Slot:Tb:=(70,e_addr_Slot)::T_addr_At
theorem T_addr_Slot_ok:TOk T_addr_Slot:=tc_ addr_Slot_ok T_addr_At_ok
def r06_Slot (t p s k off:Int):Int×Bool:=bif !r04_Right t p s then (0,false) else ofOpt (firstP (r05_Slots k).toNat λi=>off==iA iB ((i:Int)*r05_Size s k))
abbrev c_r06_Slot:Ct Sg:=⟨none,false,[.agg [.i .i64, .i .i64, .i .i64], .i .i64, .i .i64], .tup [.i .i64, .b]⟩
def e_r06_Slot:Entry Sg:=entC c_r06_Slot r06_Slot (λ_ _ _ _ _=>[])
def r06_Slot_w (t p s k off:Int) (Q0:Int→Prop) (R_:Int×Bool→Prop):Prop:=(bw_ (!r04_Right t p s) (R_ ((0,false))) (Q0 (0)))
def r06_Slot_w0 (t p s k off i:Int) (Q0:Int→Prop) (R_:Int×Bool→Prop):Prop:=(bw_ (decide (i<r05_Slots k)) (bw_ (off==iA iB (i*r05_Size s k)) (R_ ((i,true))) (Q0 (iA iB (i+1)))) (R_ ((0,false))))
def r06_Slot_I0 (t p s k off i:Int) (r_:Int×Bool):Prop:=0≤i∧i≤r05_Slots k∧r04_Right t p s=true∧(∀j:Nat,j<i.toNat→(off==iA iB ((j:Int)*r05_Size s k))=false)∧r_=r06_Slot t p s k off
abbrev r06_Slot_h0 (p0:Addr) (t p s k off:Int):Hd Sg:=⟨none,[0,1,0,1,1],[.blk 0, .code [1,1,1]],[8,3,1,2],[.i .i64, .box 23 [.ic .i64 (t), .ic .i64 (p), .ic .i64 (s)], .ic .i64 (k), .ic .i64 (off)]⟩
theorem r06_Slot_begin (t p s k off:Int):r06_Slot_w t p s k off (λi'=>r06_Slot_I0 t p s k off i' (r06_Slot t p s k off)) (λr__=>r__=(r06_Slot t p s k off)):=by
 unfold r06_Slot_w
 try unfold r06_Slot_I0
 refine ⟨λh=>?_, λh=>?_⟩
 ·simp only [r06_Slot,h,cond_true]
 ·have:=r05_slots_le k
  refine ⟨by omega,by omega,by simpa using h, λj hj=>absurd hj (Nat.not_lt_zero j),rfl⟩
theorem r06_Slot_step0 (t p s k off i:Int) {r_:Int×Bool} (hI:r06_Slot_I0 t p s k off i r_):r06_Slot_w0 t p s k off i (λi'=>r06_Slot_I0 t p s k off i' r_∧lx ((r05_Slots k-i').toNat,0,0) ((r05_Slots k-i).toNat,0,0)) (λr__=>r__=r_):=by
 unfold r06_Slot_I0 at hI
 unfold r06_Slot_w0
 try unfold r06_Slot_I0
 obtain ⟨h0,h1,h2,h3,h4⟩:=hI
 have hs:=r05_slots_le k
 refine ⟨λh=>⟨λhg=>?_, λhg=>?_⟩, λh=>?_⟩
 ·show (i,true)=r_
  simp only [decide_eq_true_eq] at h
  have:=(firstP_some (n:=(r05_Slots k).toNat) (i:=i.toNat) (p:= λi=>off==iA iB ((i:Int)*r05_Size s k))).2 ⟨by
   show (off==iA iB ((i.toNat:Int)*r05_Size s k))=true
   rw [Int.toNat_of_nonneg h0];exact hg,by omega,h3⟩
  rw [h4]
  simp only [r06_Slot,h2,this,jO,cond_false,ofOpt]
  rw [Int.toNat_of_nonneg h0]
 ·simp only [decide_eq_true_eq] at h
  rw [w64 (by omega)]
  refine ⟨⟨by omega,by omega,h2, λj hj=>?_,h4⟩,lxo_⟩
  by_cases hk:j=i.toNat
  ·subst hk;rw [Int.toNat_of_nonneg h0];exact hg
  ·exact h3 j (by omega)
 ·show ((0:Int),false)=r_
  simp only [decide_eq_false_iff_not] at h
  have:=(firstP_none (n:=(r05_Slots k).toNat) (p:= λi=>off==iA iB ((i:Int)*r05_Size s k))).2 λj hj=>h3 j (by omega)
  rw [h4]
  simp only [r06_Slot,h2,this,jO,cond_false,ofOpt]
theorem r06_Slot_ok:EOk 78 e_r06_Slot:=
 ent_wp Dg T_addr_Slot_ok (I:=[411000000008,411000000003,411000000001,411000000002]) Tryz.func78 mix (B:=bodyOf Tryz.f78) (by kernel_rfl) rfl (by kernel_rfl) 400
  λp0 t p s k off hb hp=>⟨[r06_Slot_h0 p0 t p s k off], λj=>iE [appC (Hd.kd (r06_Slot_h0 p0 t p s k off)) (λi'=>r06_Slot_I0 t p s k off i' (r06_Slot t p s k off))] j (λ_=>False), λj=>iE [appC (Hd.kd (r06_Slot_h0 p0 t p s k off)) (λi'=>((r05_Slots k-i').toNat,0,0))] j (λ_=>(0,0,0)),by kernel_rfl,⟨_, λ_ _ _=>by kernel_rfl,r06_Slot_begin t p s k off⟩,⟨λi hI=>⟨_, λ_ _ _=>by kernel_rfl,r06_Slot_step0 t p s k off i hI⟩,trivial⟩⟩
def T_r06_Slot:Tb:=(78,e_r06_Slot)::T_addr_Slot
theorem T_r06_Slot_ok:TOk T_r06_Slot:=tc_ r06_Slot_ok T_addr_Slot_ok
end
section
open Go.Sl
def clone64 (xs:LI):LI:=(xs)
def clone64_out (r_:LI):List Value→Value:= λss=>ss.getD 0 undef
def clone64_nw (r_:LI):List (Chunk Sg):=[]
def clone64_rows (r_:LI):List (Mk Sg):=[.row 2 [.ints .i64 (r_)]]
section
variable (xs:LI) (a_0:Option Addr) (c_0:Nat)
def clone64_wp0 (xs:LI) (a_0:Option Addr) (c_0:Nat) (R_:LI→Prop):Prop:=(((Option.isNone a_0)=true→(R_ ([])))∧((Option.isNone a_0)=false→(∀b1_0:Nat,(((0+iC xs)*8≤140737488355328)∧(((0+iC xs)*8≤140737488355328)→(∀(b3_0:Option Nat) (b3_1:Nat),(R_ ([]++xs))))))))
theorem clone64_calls {E_:Ev} {G_:Hp} {w_:World} (hr0:RowAt G_ a_0 xs.length [.ints .i64 xs]∧xs.length≤c_0) (hp0:xs.length*16≤140737488355328) (hS:Sat E_ G_ w_ []):Calls Tryz.prog 68 #[(.slice a_0 xs.length c_0)] w_ (Post Dg E_ G_ (clone64_out (clone64 xs)) (clone64_nw (clone64 xs)) (clone64_rows (clone64 xs))):=by
 have h:clone64_wp0 xs a_0 c_0 (λx=>x=(clone64 xs)):=by
  unfold clone64_wp0
  refine ⟨λh=>?_, λ_ _=>⟨by simp only [jS];omega, λ_ _ _=>by simp [clone64]⟩⟩
  cases a_0 with
  |some b=>simp at h
  |none=>
   have hz:=row_none hr0.1
   have hx:xs=[]:=List.eq_nil_of_length_eq_zero hz
   subst hx
   rfl
 exact calls_post Dg T_r06_Slot_ok (I:=[]) Tryz.func68 mix (B:=bodyOf Tryz.f68) (by kernel_rfl) [(.slice a_0 xs.length c_0)] [.pt 0 .slice] (by kernel_rfl) (objs:=[]) (ros:=[.ro a_0 xs.length c_0 [.ints .i64 xs]]) (psOk_cons (pOk_at rfl rfl) (psOk_nil)) (by kernel_rfl) (⟨hr0,trivial⟩) hS 400
  (t:=Tree.br (Option.isNone a_0) (Tree.ret (iD none 0 0) pn_ [Chunk.ro a_0 (iC xs) c_0 [ci_ xs]]) (Tree.fresh λb=>Tree.need ((0+iC xs)*8≤140737488355328) (Tree.freshS λa cap=>Tree.ret (vs_ (ob_ a) (0+iC xs) cap) (ps_ 2) [Chunk.ro a_0 (iC xs) c_0 [ci_ xs],Chunk.dead,kr_ a 2 (0+iC xs) cap [ci_ ([]++xs)]])))
  (by kernel_rfl)
  (⟨λz0=>RetOk.at (outf:=clone64_out) (nwf:=clone64_nw) (rowsf:=clone64_rows) (r:=[]) (h.1 z0) ⟨[(none,0,0,none)],[1000],(by decide),rfl,rfl,⟨.inr (by kernel_rfl),trivial⟩⟩, λz0=> λb1_0=>⟨((h.2 z0) b1_0).1, λz2=> λb3_0 b3_1=>RetOk.at (outf:=clone64_out) (nwf:=clone64_nw) (rowsf:=clone64_rows) (r:=[]++xs) ((((h.2 z0) b1_0).2 z2) b3_0 b3_1) ⟨[(b3_0,0+iC xs,b3_1,none)],[2],(by decide),rfl,rfl,⟨.inl rfl,trivial⟩⟩⟩⟩)
end
def clone64_e:Entry Sg:= λ
 |[(_, .row n_0 [.ints .i64 xs])]=>some ⟨(clone64 xs), λ(r_:LI)=>⟨[(xs.length*16≤140737488355328:Prop)],none,[.row 2 [.ints .i64 (r_)]], λss=>ss.getD 0 undef, λk_=> .pt k_ .slice⟩⟩
 |_=>none
theorem clone64_ok:EntryOk Dg Tryz.prog 68 clone64_e:=by
 intro args c r h hr_
 unfold clone64_e at h
 split at h
 ·injection h with h;subst h;subst hr_
  refine ⟨(by
  intro K acs hl
  match acs,hl with
  |[a0_],hl=>
   simp only [acsOk,acOk] at hl
   simp [pOk,psOk,cOk,sliceC,sliceV,sliceVal,lenC,Col.len,fzB,Col.isFz]), λhpre E G w hi hS=>?_⟩
  have hi_0:=hi _ (List.mem_of_getElem? (i:=0) rfl)
  simp only [iOk,isOk,and_true,true_and] at hi_0
  obtain ⟨a_0,c_0,e_0,hr0⟩:=hi_0
  replace hr0:=And.intro hr0.1 hr0.2.1
  have l_0:=hr0.1.len
  simp only [Col.len] at l_0
  subst l_0
  subst e_0
  exact entry_post Dg (by exact rfl) (clone64_calls _ _ _ hr0 (hpre _ (by simp)) hS)
 ·cases h
def T_clone64:List (Nat×Entry Sg):=(68,clone64_e)::T_r06_Slot
theorem T_clone64_ok:TableOk Dg Tryz.prog T_clone64:=TableOk.cons Dg clone64_ok T_r06_Slot_ok
theorem fz_ints {G:Hp} {a:Option Addr} {n:Nat} {xs:LI} (h:RowAt G a n [.fz xs]):RowAt G a n [.ints .i64 xs]:=by
 refine ⟨λc hc=>?_, λi hi=>?_,h.2.2⟩
 ·rw [List.mem_singleton.1 hc];exact h.1 (.fz xs) (by simp)
 ·obtain ⟨b,hb,hc⟩:=h.2.1 i hi
  refine ⟨b,hb, λj c hj=>?_⟩
  cases j with
  |zero=>
   simp only [List.getElem?_cons_zero,iG] at hj
   subst hj
   exact hc 0 (.fz xs) rfl
  |succ j=>simp at hj
def cl64_e:Entry Sg:= λ
 |[(v, .row n [.fz xs])]=>clone64_e [(v, .row n [.ints .i64 xs])]
 |args=>clone64_e args
theorem cl64_ok:EntryOk Dg Tryz.prog 68 cl64_e:=by
 intro args c r h hr
 unfold cl64_e at h
 split at h
 ·rename_i v n xs
  have h1:=clone64_ok _ c r h hr
  refine ⟨h1.1, λhp E G w hi hS=>?_⟩
  have h2:=h1.2 hp E G w (λx hx=>?_) (by simpa [objAs,objOf,objsOf,objsV] using hS)
  ·simpa [newAs,objOf,objsOf,objsV] using h2
  ·rw [List.mem_singleton.1 hx]
   have h3:=hi _ (.head _)
   simp only [iOk] at h3 ⊢
   obtain ⟨a,cap,e,h4,h5,_⟩:=h3
   exact ⟨a,cap,e,fz_ints h4,h5, λh=>by cases h⟩
 ·exact clone64_ok _ c r h hr
def T_cl64:List (Nat×Entry Sg):=(68,cl64_e)::T_clone64
theorem T_cl64_ok:TableOk Dg Tryz.prog T_cl64:=TableOk.cons Dg cl64_ok T_clone64_ok
end
end Go.Proofs.YtjfabjhlkpgckaaGreat
namespace Go.Sl
section
open Go.RowKit
variable {σ:Type} (D:Addr→σ→Asn)
theorem ent_ofF {c:Ct σ} {mk:List (Cm σ)→List Nat} {P:Program} {T:List (Nat×Entry σ)} (hT:TableOk D P T) {I:List Nat} {f:FuncId} {fn:Func} {B:Code} (hfn:P.funcs[f]? =some fn) (hmix:P.follows .mixedOrders=true) (hB:fn.body=some B)
 (ha:isArgs c.ash=true) (hl:Nat.ble c.full.length fn.ntmps=true) {F:Cur c.AK (Ty c.RK)} {pre:Cur c.AK (List Prop)} (fuel:Nat)
 (H:∀p0,AllC c.AK λcs=>bds c.full cs→(∀p∈appC c.AK pre cs,p)→∀ad E G,(c.treeM (mk cs) P T I fuel fn B p0 cs ad).holds (RetOk (c.outC (appC c.AK F cs)) (c.nwC p0 cs (appC c.AK F cs)) (c.mksC (appC c.AK F cs)))
   (SW D P f (Post D E G (c.outC (appC c.AK F cs)) (c.nwC p0 cs (appC c.AK F cs)) (c.mksC (appC c.AK F cs))) B fn.ntmps E G)):EntryOk D P f (entC c F pre):=by
 intro args d r hd hr
 unfold entC at hd
 split at hd
 rotate_left
 ·cases hd
 rename_i cs hcs
 injection hd with hd;subst hd;subst hr
 refine ⟨λK acs hacs=>?_, λhpre E G w hi hS=>?_⟩
 ·have:=Sh.outp_ok c.rs (restC c.rob (toCm c.RK (appC c.AK F cs))) K [] [] acs hacs
  simp only [List.append_nil] at this
  exact this
 dsimp only at hpre hS ⊢
 unfold argsC at hcs
 cases hob:c.ob with
 |none=>
  rw [hob] at hcs
  dsimp only at hcs
  have hfull:c.full=c.ash:=by unfold Ct.full;rw [hob];rfl
  have hiv:isOk G E.z (args.map (·.1)) (args.map (·.2)):=by
   clear hcs hpre hS
   induction args with
   |nil=>simp [isOk]
   |cons x xs ih=>simp only [iM,isOk];exact ⟨hi x (by simp),ih λy hy=>hi y (by simp [hy])⟩
  obtain ⟨h1,h2,h3,h4,h5,adl,h6,h7⟩:=dAs_ok (G:=G) (Z:=E.z) c.ash (λs _=>Sh.dA_ok s) _ _ _ ha hcs hiv
  have hH:=(H (adF adl 0).p).at cs (by unfold Ct.AK;rw [hfull];exact h1) (by rw [hfull];have:=h5 [];simpa using this) hpre (adF adl) E G
  have hadP:adP (adF adl 0).p (adF adl)=adF adl:=by funext j;cases j<;>rfl
  obtain ⟨g1,g2⟩:=h7 (adF adl) 0 0 [] (λm a hm=>by simp [adF,iI,hm])
  simp only [List.append_nil] at g1 g2
  obtain ⟨k1,k2,k3⟩:=tps_ok (adF adl) c.ash 0 0 cs ha
  have hobjs:objsOf args=[]:=by
   have:List.zip (args.map (·.1)) (args.map (·.2))=args:=by rw [List.zip_map'];simp
   rw [this] at h4;exact h4
  have hS0:SatK D E G w ([]:List (Chunk σ)):=by have:=hS;simp only [objAs,objOf,hobjs] at this;exact this
  unfold Ct.treeM at hH
  rw [hadP,hfull] at hH
  have hn:c.nwC (adF adl 0).p cs (appC c.AK F cs)=[]:=by unfold Ct.nwC;rw [hob]
  rw [hn] at hH
  have:=calls_postM D (mk:=mk cs) hT (I:=I) hfn hmix hB (tpV (tps (adF adl) c.ash 0 0 cs)) (tpP (tps (adF adl) c.ash 0 0 cs)) (by rw [tpV_len];rw [hfull] at hl;exact hl) (objs:=[]) (ros:=tpK (tps (adF adl) c.ash 0 0 cs)) (by simpa using k3 [] [] rfl) (by simpa using k2) g2 hS0
   (out:=c.outC (appC c.AK F cs)) (nw:=[]) (rows:=c.mksC (appC c.AK F cs)) fuel rfl (by rw [←tpC_zip];simpa using hH)
  rw [g1] at this
  exact entry_post D (pre:=appC c.AK pre cs) (outp:=c.rs.outp) (by simp [newAs,objOf,hobjs]) this
 |some wr=>
  rw [hob] at hcs
  dsimp only at hcs
  split at hcs
  rotate_left
  ·cases hcs
  rename_i p s rs
  cases his:wr.is s with
  |false=>rw [his] at hcs;cases hcs
  |true=>
   rw [his] at hcs
   simp only [cond_true] at hcs
   split at hcs
   rotate_left
   ·cases hcs
   rename_i cs' hcs'
   injection hcs with hcs;subst hcs
   have hfull:c.full= .obj wr::c.ash:=by unfold Ct.full;rw [hob];rfl
   have hiv:isOk G E.z (rs.map (·.1)) (rs.map (·.2)):=by
    have hi':∀x∈rs,iOk G E.z x.1 x.2:= λx hx=>hi x (by simp [hx])
    clear hcs' hpre hS hi
    induction rs with
    |nil=>simp [isOk]
    |cons x xs ih=>simp only [iM,isOk];exact ⟨hi' x (by simp),ih λy hy=>hi' y (by simp [hy])⟩
   obtain ⟨h1,h2,h3,h4,h5,adl,h6,h7⟩:=dAs_ok (G:=G) (Z:=E.z) c.ash (λs _=>Sh.dA_ok s) _ _ _ ha hcs' hiv
   have hH:=(H p).at (.st s::cs') (by unfold Ct.AK;rw [hfull];simp only [kds,Sh.kd,jM,List.nil_append,fitsC,Kd.fits,his,h1];rfl) (by
    rw [hfull]
    refine ⟨trivial,?_⟩
    have:=h5 []
    simpa [Sh.nC] using this) hpre (λj=>adF adl (j-1)) E G
   have had:∀(m:Nat) a,adl[m]? =some a→adP p (λj=>adF adl (j-1)) (1+m)=a:= λm a hm=>by
    rw [Nat.add_comm];simp [adP,adF,iI,hm]
   obtain ⟨g1,g2⟩:=h7 (adP p (λj=>adF adl (j-1))) 1 1 [] had
   simp only [List.append_nil] at g1 g2
   obtain ⟨k1,k2,k3⟩:=tps_ok (adP p (λj=>adF adl (j-1))) c.ash 1 1 cs' ha
   have hinj:wr.inj (wr.prj s)=s:=wr.ok s his
   have htp:tps (adP p (λj=>adF adl (j-1))) c.full 0 0 (.st s::cs')=⟨.pointer (some p), .pt 0 .obj,[.obj p s]⟩::tps (adP p (λj=>adF adl (j-1))) c.ash 1 1 cs':=by
    rw [hfull]
    simp only [tps,Sh.tp,Sh.nK,Sh.nA,Sh.nC,List.headD_cons,Cm.stOf,hinj,List.drop_succ_cons,List.drop_zero,jS]
    rfl
   have hobjs:objsOf ((iT (some p),Info.obj s)::rs)=[(p,s)]:=by
    have:List.zip (rs.map (·.1)) (rs.map (·.2))=rs:=by rw [List.zip_map'];simp
    rw [this] at h4;simp [objsOf,objsV,h4]
   have hS0:SatK D E G w [Chunk.obj p s]:=by simpa [objAs,objOf,hobjs,SatK,den] using hS
   unfold Ct.treeM at hH
   rw [htp] at hH
   have:=calls_postM D (mk:=mk (.st s::cs')) hT (I:=I) hfn hmix hB (.pointer (some p)::tpV (tps (adP p (λj=>adF adl (j-1))) c.ash 1 1 cs')) (.pt 0 .obj::tpP (tps (adP p (λj=>adF adl (j-1))) c.ash 1 1 cs')) (by simp only [jK,tpV_len];rw [hfull] at hl;exact hl) (objs:=[.obj p s]) (ros:=tpK (tps (adP p (λj=>adF adl (j-1))) c.ash 1 1 cs'))
    (psOk_cons (pOk_pt.2 ⟨.obj p s,rfl,rfl⟩) (by simpa using k3 [.obj p s] [] rfl)) (noCells_app (a:=[.obj p s]) rfl k2) g2 hS0
    (out:=c.outC (appC c.AK F (.st s::cs'))) (nw:=c.nwC p (.st s::cs') (appC c.AK F (.st s::cs'))) (rows:=c.mksC (appC c.AK F (.st s::cs'))) fuel rfl (by
      simp only [tpC,tpK,jM,List.nil_append] at hH
      rw [tpC_zip] at hH
      exact hH)
   rw [g1] at this
   have hn:(c.nwC p (.st s::cs') (appC c.AK F (.st s::cs'))).map (den D G)=newAs D ((iT (some p),Info.obj s)::rs) (newC c.rob (toCm c.RK (appC c.AK F (.st s::cs')))):=by
    unfold newAs objOf
    rw [hobjs]
    unfold Ct.nwC
    rw [hob]
    dsimp only
    cases hpu:c.pu with
    |true=>
     have:c.rob=none:=by unfold Ct.rob;rw [hpu];rfl
     rw [this]
     simp only [cond_true,List.headD_cons,Cm.stOf,hinj,iM,List.map_nil,den,newC,Option.getD_none]
    |false=>
     have:c.rob=some wr:=by unfold Ct.rob;rw [hpu,hob];rfl
     rw [this]
     simp only [cond_false,iM,List.map_nil,den,newC,Option.getD_some]
   exact entry_post D (pre:=appC c.AK pre (.st s::cs')) (outp:=c.rs.outp) hn this
theorem ent_wmF {c:Ct σ} (mk:List (Cm σ)→List Nat) {P:Program} {T:List (Nat×Entry σ)} (hT:TableOk D P T) {I:List Nat} {f:FuncId} {fn:Func} {B:Code} (hfn:P.funcs[f]? =some fn) (hmix:P.follows .mixedOrders=true) (hB:fn.body=some B)
 (ha:isArgs c.ash=true) (hl:Nat.ble c.full.length fn.ntmps=true) {F:Cur c.AK (Ty c.RK)} {pre:Cur c.AK (List Prop)} (fuel:Nat)
 (H:∀p0,AllC c.AK λcs=>bds c.full cs→(∀p∈appC c.AK pre cs,p)→∃W:Prop,(∀ad β γ,c.lhsW p0 cs [] (λr=>r=appC c.AK F cs) (λ_ _=>False) (c.treeM (mk cs) P T I fuel fn B p0 cs ad) β γ=c.rhsW p0 cs [] (c.treeM (mk cs) P T I fuel fn B p0 cs ad) W β γ)∧W):EntryOk D P f (entC c F pre):=by
 refine ent_ofF D (mk:=mk) hT (I:=I) hfn hmix hB ha hl fuel λp0=>?_
 have key:∀{ks:List (Kd σ)} {p q:List (Cm σ)→Prop},(∀cs,p cs→q cs)→AllC ks p→AllC ks q:=by
  intro ks
  induction ks with
  |nil=>exact λh hp=>h [] hp
  |cons k ks ih=>exact λh hp a=>ih (λcs=>h _) (hp a)
 refine key (λcs hH hb hp ad E G=>?_) (H p0)
 obtain ⟨W,hW,hW'⟩:=hH hb hp
 exact wp_tree D (hW ad) hW' rfl λj h hg=>by simp at hg
def kMk (i:Nat) (a b:List Nat) (cs:List (Cm σ)):List Nat:=match cs.getD i (.b false) with
 | .i (.negSucc _)=>b
 |_=>a
end
end Go.Sl
namespace Go.Proofs.YtjfabjhlkpgckaaGreat
section
open Go.Sl
def pkGet (k:Int) (x0 x1 x2 x3 x4 x5 x6 x7 x8:LI):LI:=match k with
 | .ofNat n=>[x0,x1,x2,x3,x4,x5,x6,x7,x8].getD n []
 | .negSucc _=>[]
def kIn (k:Int):Bool:=decide (k≥0)&&decide (k<9)
def pkSel (k i:Int) (l x:LI):LI:=bif k==i then l else x
abbrev PkT:=LI×LI×LI×LI×LI×LI×LI×LI×LI
def lastI (l:LI):Int×Bool:=bif Nat.beq l.length 0 then (0,false) else (l.getD (l.length-1) 0,true)
abbrev i64R (a:Int):Prop:= -9223372036854775808≤a∧a<9223372036854775808
def lB (l:LI):Prop:=l.length≤1000000∧∀a∈l,i64R a
def pkB (x0 x1 x2 x3 x4 x5 x6 x7 x8:LI):Prop:=lB x0∧lB x1∧lB x2∧lB x3∧lB x4∧lB x5∧lB x6∧lB x7∧lB x8
theorem lB_nil:lB []:=⟨by simp, λa h=>by cases h⟩
theorem pkB_get {x0 x1 x2 x3 x4 x5 x6 x7 x8:LI} (h:pkB x0 x1 x2 x3 x4 x5 x6 x7 x8) (k:Int):lB (pkGet k x0 x1 x2 x3 x4 x5 x6 x7 x8):=by
 obtain ⟨h0,h1,h2,h3,h4,h5,h6,h7,h8⟩:=h
 cases k with
 |negSucc n=>exact lB_nil
 |ofNat n=>match n with
  |0=>exact h0
  |1=>exact h1
  |2=>exact h2
  |3=>exact h3
  |4=>exact h4
  |5=>exact h5
  |6=>exact h6
  |7=>exact h7
  |8=>exact h8
  |n+9=>exact lB_nil
abbrev lcI (x:LI):Int:=((lenC [Col.fz x]:Nat):Int)
theorem lcI_0 {x:LI} (h:(lcI x==(0:Int))=true):x.length=0:=by
 have h1:lcI x=0:=by simpa only [beq_iff_eq] using h
 have h2:((x.length:Nat):Int)=0:=h1
 omega
theorem lcI_1 {x:LI} (h:(lcI x==(0:Int))=false):0<x.length:=by
 have h1:lcI x≠0:=by simpa only [beq_eq_false_iff_ne] using h
 have h2:((x.length:Nat):Int)≠0:=h1
 omega
theorem lcI_w {x:LI} (hb:lB x) (h:(lcI x==(0:Int))=false):iA iB (lcI x-(1:Int))=((x.length-1:Nat):Int):=by
 have:=lcI_1 h
 have:=hb.1
 have e:lcI x=((x.length:Nat):Int):=rfl
 rw [e,w64 (by omega)];omega
theorem lastI_0 {x:LI} (h:(lcI x==(0:Int))=true):((0:Int),false)=lastI x:=by
 have:x=[]:=List.eq_nil_of_length_eq_zero (lcI_0 h)
 subst this;rfl
theorem lastI_n {x:LI} (hb:lB x) (h:(lcI x==(0:Int))=false):(0:Int)≤iA iB (lcI x-(1:Int))∧iA iB (lcI x-(1:Int))<lcI x:=by
 have h1:=lcI_1 h
 rw [lcI_w hb h]
 have e:lcI x=((x.length:Nat):Int):=rfl
 rw [e];omega
theorem lastI_s {x:LI} (h:0<x.length):lastI x=(x.getD (x.length-1) 0,true):=by
 unfold lastI
 have:Nat.beq x.length 0=false:=by
  cases hh:Nat.beq x.length 0 with
  |false=>rfl
  |true=>have:=iL hh;omega
 rw [this];rfl
theorem lastI_1 {x:LI} (hb:lB x) (h:(lcI x==(0:Int))=false):(x.getD (iJ (iA iB (lcI x-(1:Int)))) (0:Int),true)=lastI x:=by
 rw [lcI_w hb h,jP,lastI_s (lcI_1 h)]
def popL (l:LI):LI:=l.take (l.length-1)
def pushL (l:LI) (a:Int):LI:=bif decide (l.length<4) then l++[a] else l
theorem lastI_t {x:LI} (h:(lastI x).2=true):0<x.length:=by
 cases x with
 |nil=>cases h
 |cons a l=>simp
theorem lastI_f {x:LI} (h:(lastI x).2=false):x=[]:=by
 cases x with
 |nil=>rfl
 |cons a l=>rw [lastI_s (by simp)] at h;cases h
theorem lcI_v {x:LI} (hb:lB x) (h:0<x.length):iA iB (lcI x-(1:Int))=((x.length-1:Nat):Int):=by
 have:=hb.1
 have e:lcI x=((x.length:Nat):Int):=rfl
 rw [e,w64 (by omega)];omega
theorem popL_n {x:LI} (hb:lB x) (h:0<x.length):(0:Int)≤iA iB (lcI x-(1:Int))∧iA iB (lcI x-(1:Int))≤lcI x:=by
 rw [lcI_v hb h]
 have e:lcI x=((x.length:Nat):Int):=rfl
 rw [e];omega
theorem popL_t {x:LI} (hb:lB x) (h:0<x.length):List.take (iJ (iA iB (lcI x-(1:Int)))) x=popL x:=by
 rw [lcI_v hb h,jP];rfl
theorem popL_len (x:LI):(popL x).length≤x.length:=by unfold popL;rw [jT];omega
theorem pushL_t {x:LI} {a:Int} (h:x.length<4):pushL x a=x++[a]∧decide (x.length<4)=true:=by
 have:decide (x.length<4)=true:=by simpa using h
 exact ⟨by unfold pushL;rw [this];rfl,this⟩
theorem pushL_f {x:LI} {a:Int} (h:¬x.length<4):pushL x a=x∧decide (x.length<4)=false:=by
 have:decide (x.length<4)=false:=by simpa using h
 exact ⟨by unfold pushL;rw [this];rfl,this⟩
theorem lc_ge4 {x:LI} {b:Bool} (h:decide (lcI x≥(4:Int))=b):(b=true→¬x.length<4)∧(b=false→x.length<4):=by
 subst h
 have e:lcI x=((x.length:Nat):Int):=rfl
 rw [e]
 simp only [decide_eq_true_eq,decide_eq_false_iff_not];omega
theorem lc_gt3 {x:LI} {b:Bool} (h:decide (lcI x>(3:Int))=b):(b=true→¬x.length<4)∧(b=false→x.length<4):=by
 subst h
 have e:lcI x=((x.length:Nat):Int):=rfl
 rw [e]
 simp only [decide_eq_true_eq,decide_eq_false_iff_not];omega
theorem pkGet_out {k:Int} {x0 x1 x2 x3 x4 x5 x6 x7 x8:LI} (h:k<0∨k>8):pkGet k x0 x1 x2 x3 x4 x5 x6 x7 x8=[]:=by
 cases k with
 |negSucc n=>rfl
 |ofNat n=>
  have:9≤n:=by
   rcases h with h|h
   ·have:(Int.ofNat n)=(n:Int):=rfl
    omega
   ·have:(Int.ofNat n)=(n:Int):=rfl
    omega
  obtain ⟨m,rfl⟩:∃m,n=m+9:=⟨n-9,by omega⟩
  rfl
theorem pkSel_no {k i:Int} {l x:LI} (h:k≠i):pkSel k i l x=x:=by
 unfold pkSel
 rw [show (k==i)=false by simpa using h];rfl
theorem take_eq_all {l m:LI} (hl:l.length=m.length) (h:l.take l.length=m.take l.length):l=m:=by
 rw [List.take_length,hl,List.take_length] at h;exact h
def onP (t p h pg a:Int):Bool:=(r06_Page t p h a).2.2&&((r06_Page t p h a).1==pg)
end
section
open Go.Sl
def p_there (k:Int):Bool:=decide (k≥0)&&decide (k<9)
abbrev c_p_there:Ct Sg:=⟨none,false,[.i .i64], .b⟩
def e_p_there:Entry Sg:=entC c_p_there p_there (λ_=>[])
theorem p_there_ok:EOk 91 e_p_there:=
 ent_ok Dg T_cl64_ok (I:=[]) Tryz.func91 mix (B:=bodyOf Tryz.f91) (by kernel_rfl) rfl (by kernel_rfl) 400
  λ_ k hb hp=>⟨(p_there k), .t, λ_ _ _=>by kernel_rfl,trivial,rfl⟩
def T_p_there:Tb:=(91,e_p_there)::T_cl64
theorem T_p_there_ok:TOk T_p_there:=tc_ p_there_ok T_cl64_ok
end
section
open Go Go.Sl
abbrev wI (x:LI):Int:=iA iB (lcI x-1)
abbrev qI (k:Int):Prop:=0≤k∧k<9
def lastW (k:Int) (x:LI) (R:Int×Bool→Prop):Prop:=
 aw_ (false=false→qI k) (bw_ (lcI x==0) (R (0,false)) (aw_ (qI k) (aw_ (qI k) (aw_ (0≤wI x∧wI x<lcI x) (R (x.getD (wI x).toNat 0,true))))))
theorem lastW_ok {k:Int} {x:LI} (hk:qI k) (hb:lB x):lastW k x λr=>r=lastI x:=
 ⟨λ_=>hk, λ_=>⟨λhc=>lastI_0 hc, λhc=>⟨hk, λ_=>⟨hk, λ_=>⟨lastI_n hb hc, λ_=>lastI_1 hb hc⟩⟩⟩⟩⟩
section
variable (k:Int) (x0 x1 x2 x3 x4 x5 x6 x7 x8:LI)
abbrev gI:LI:=pkGet k x0 x1 x2 x3 x4 x5 x6 x7 x8
abbrev pI (r:LI):PkT:=(pkSel k 0 r x0,pkSel k 1 r x1,pkSel k 2 r x2,pkSel k 3 r x3,pkSel k 4 r x4,pkSel k 5 r x5,pkSel k 6 r x6,pkSel k 7 r x7,pkSel k 8 r x8)
end
def tup1 (a:Int) (p:PkT) (b:Bool):Int×LI×LI×LI×LI×LI×LI×LI×LI×LI×Bool:=(a,p.1,p.2.1,p.2.2.1,p.2.2.2.1,p.2.2.2.2.1,p.2.2.2.2.2.1,p.2.2.2.2.2.2.1,p.2.2.2.2.2.2.2.1,p.2.2.2.2.2.2.2.2,b)
def tup0 (p:PkT) (b:Bool):LI×LI×LI×LI×LI×LI×LI×LI×LI×Bool:=(p.1,p.2.1,p.2.2.1,p.2.2.2.1,p.2.2.2.2.1,p.2.2.2.2.2.1,p.2.2.2.2.2.2.1,p.2.2.2.2.2.2.2.1,p.2.2.2.2.2.2.2.2,b)
def popW (k:Int) (P:Prop) (x:LI) (l:Int×Bool) (Y:LI→Prop):Prop:=
 aw_ P (bw_ l.2 (aw_ (qI k) (aw_ (qI k) (aw_ (0≤wI x∧wI x≤lcI x) (∀r:LI,r=clone64 (x.take (wI x).toNat)→aw_ ((x.take (wI x).toNat).length*16≤140737488355328) (aw_ (qI k) (tw_ (Y r))))))) (tw_ (Y x)))
theorem popW_ok {k:Int} {P:Prop} {x:LI} {Y:LI→Prop} (hk:qI k) (hP:P) (hb:lB x) (hY:Y (popL x)):popW k P x (lastI x) Y:=by
 refine ⟨hP, λ_=>⟨λhc=>⟨hk, λ_=>⟨hk, λ_=>⟨popL_n hb (lastI_t hc), λ_=>?_⟩⟩⟩, λhc=>?_⟩⟩
 ·rintro r rfl
  have e:x.take (wI x).toNat=popL x:=popL_t hb (lastI_t hc)
  have h1:=hb.1
  have h2:=popL_len x
  refine ⟨by rw [e];omega, λ_=>⟨hk, λ_=>?_⟩⟩
  have e2:clone64 (x.take (wI x).toNat)=popL x:=e
  rw [e2]
  exact ⟨hY,hY⟩
 ·have hx:x=[]:=lastI_f hc
  subst hx
  exact ⟨hY,hY⟩
def pushW (k:Int) (x:LI) (a:Int) (n:Prop) (Y:LI→Prop):Prop:=
 aw_ (false=false→qI k) (bw_ (decide (lcI x≥4)) n (aw_ (qI k) (∀r:LI,r=clone64 x→aw_ (x.length*16≤140737488355328) (aw_ ((r.length+1)*8≤140737488355328) (aw_ (qI k) (Y (r++[a])))))))
theorem pushW_ok {k:Int} {x:LI} {a:Int} {n:Prop} {Y:LI→Prop} (hk:qI k) (hn:pushL x a=x→decide (x.length<4)=false→n) (hY:pushL x a=x++[a]→decide (x.length<4)=true→Y (x++[a])):pushW k x a n Y:=by
 refine ⟨λ_=>hk, λ_=>⟨λhc=>?_, λhc=>⟨hk, λ_=>?_⟩⟩⟩
 ·have h:=pushL_f (a:=a) ((lc_ge4 hc).1 rfl)
  exact hn h.1 h.2
 ·have h0:=(lc_ge4 hc).2 rfl
  have h:=pushL_t (a:=a) h0
  intro r hr
  rw [show r=x from hr]
  exact ⟨by omega, λ_=>⟨by omega, λ_=>⟨hk, λ_=>hY h.1 h.2⟩⟩⟩
def pushV (k:Int) (x:LI) (a:Int) (n:Prop) (Y:LI→Prop):Prop:=
 aw_ (false=false→qI k) (bw_ (decide (lcI x>3)) n (aw_ (qI k) (aw_ ((0+lenC [Col.fz x])*8≤140737488355328) (aw_ ((0+lenC [Col.fz x]+1)*8≤140737488355328) (aw_ (qI k) (Y ([]++x++[a])))))))
theorem pushV_ok {k:Int} {x:LI} {a:Int} {n:Prop} {Y:LI→Prop} (hk:qI k) (hn:pushL x a=x→decide (x.length<4)=false→n) (hY:pushL x a=x++[a]→decide (x.length<4)=true→Y (x++[a])):pushV k x a n Y:=by
 have el:lenC [Col.fz x]=x.length:=rfl
 refine ⟨λ_=>hk, λ_=>⟨λhc=>?_, λhc=>⟨hk, λ_=>?_⟩⟩⟩
 ·have h:=pushL_f (a:=a) ((lc_gt3 hc).1 rfl)
  exact hn h.1 h.2
 ·have h0:=(lc_gt3 hc).2 rfl
  have h:=pushL_t (a:=a) h0
  rw [el]
  exact ⟨by omega, λ_=>⟨by omega, λ_=>⟨hk, λ_=>hY h.1 h.2⟩⟩⟩
section
variable {x0 x1 x2 x3 x4 x5 x6 x7 x8:LI}
def popT (k:Int) (x0 x1 x2 x3 x4 x5 x6 x7 x8:LI):=tup1 (lastI (gI k x0 x1 x2 x3 x4 x5 x6 x7 x8)).1 (pI k x0 x1 x2 x3 x4 x5 x6 x7 x8 (popL (gI k x0 x1 x2 x3 x4 x5 x6 x7 x8))) (lastI (gI k x0 x1 x2 x3 x4 x5 x6 x7 x8)).2
def pushT (k a:Int) (x0 x1 x2 x3 x4 x5 x6 x7 x8:LI):=tup0 (pI k x0 x1 x2 x3 x4 x5 x6 x7 x8 (pushL (gI k x0 x1 x2 x3 x4 x5 x6 x7 x8) a)) (kIn k&&decide ((gI k x0 x1 x2 x3 x4 x5 x6 x7 x8).length<4))
theorem popW_all (k:Int) (hk:qI k) (h:pkB x0 x1 x2 x3 x4 x5 x6 x7 x8):popW k (pkB x0 x1 x2 x3 x4 x5 x6 x7 x8) (gI k x0 x1 x2 x3 x4 x5 x6 x7 x8) (lastI (gI k x0 x1 x2 x3 x4 x5 x6 x7 x8)) λr=>tup1 (lastI (gI k x0 x1 x2 x3 x4 x5 x6 x7 x8)).1 (pI k x0 x1 x2 x3 x4 x5 x6 x7 x8 r) (lastI (gI k x0 x1 x2 x3 x4 x5 x6 x7 x8)).2=popT k x0 x1 x2 x3 x4 x5 x6 x7 x8:=
 popW_ok hk h (pkB_get h k) rfl
theorem kIn_q {k:Int} (h:qI k):kIn k=true:=by
 unfold kIn;simp only [iK,decide_eq_true_eq];exact ⟨h.1,h.2⟩
theorem pushT_n {k a:Int} (he:(x0,x1,x2,x3,x4,x5,x6,x7,x8)=pI k x0 x1 x2 x3 x4 x5 x6 x7 x8 (gI k x0 x1 x2 x3 x4 x5 x6 x7 x8)) (h:pushL (gI k x0 x1 x2 x3 x4 x5 x6 x7 x8) a=gI k x0 x1 x2 x3 x4 x5 x6 x7 x8) (hd:decide ((gI k x0 x1 x2 x3 x4 x5 x6 x7 x8).length<4)=false):tup0 (x0,x1,x2,x3,x4,x5,x6,x7,x8) false=pushT k a x0 x1 x2 x3 x4 x5 x6 x7 x8:=by
 unfold pushT;rw [h,hd,←he,Bool.and_false]
theorem pushT_y {k a:Int} (hk:qI k) (h:pushL (gI k x0 x1 x2 x3 x4 x5 x6 x7 x8) a=gI k x0 x1 x2 x3 x4 x5 x6 x7 x8++[a]) (hd:decide ((gI k x0 x1 x2 x3 x4 x5 x6 x7 x8).length<4)=true):tup0 (pI k x0 x1 x2 x3 x4 x5 x6 x7 x8 (gI k x0 x1 x2 x3 x4 x5 x6 x7 x8++[a])) true=pushT k a x0 x1 x2 x3 x4 x5 x6 x7 x8:=by
 unfold pushT;rw [h,hd,kIn_q hk];rfl
end
section
variable (k a:Int) (x0 x1 x2 x3 x4 x5 x6 x7 x8:LI)
theorem pushW_all (hk:qI k) (he:(x0,x1,x2,x3,x4,x5,x6,x7,x8)=pI k x0 x1 x2 x3 x4 x5 x6 x7 x8 (gI k x0 x1 x2 x3 x4 x5 x6 x7 x8)):pushW k (gI k x0 x1 x2 x3 x4 x5 x6 x7 x8) a (tup0 (x0,x1,x2,x3,x4,x5,x6,x7,x8) false=pushT k a x0 x1 x2 x3 x4 x5 x6 x7 x8) λr=>tup0 (pI k x0 x1 x2 x3 x4 x5 x6 x7 x8 r) true=pushT k a x0 x1 x2 x3 x4 x5 x6 x7 x8:=
 pushW_ok hk (pushT_n he) (pushT_y hk)
theorem pushV_all (hk:qI k) (he:(x0,x1,x2,x3,x4,x5,x6,x7,x8)=pI k x0 x1 x2 x3 x4 x5 x6 x7 x8 (gI k x0 x1 x2 x3 x4 x5 x6 x7 x8)):pushV k (gI k x0 x1 x2 x3 x4 x5 x6 x7 x8) a (tup0 (x0,x1,x2,x3,x4,x5,x6,x7,x8) false=pushT k a x0 x1 x2 x3 x4 x5 x6 x7 x8) λr=>tup0 (pI k x0 x1 x2 x3 x4 x5 x6 x7 x8 r) true=pushT k a x0 x1 x2 x3 x4 x5 x6 x7 x8:=
 pushV_ok hk (pushT_n he) (pushT_y hk)
end
def onW (k:Int) (x:LI) (f:Int→Bool) (i:Int) (n:Nat) (xs:LI) (Q:Int→Nat→LI→Prop) (Y:Prop):Prop:=
 aw_ (qI k) (bw_ (decide (i<lcI x)) (aw_ (qI k) (aw_ (0≤i∧i<lcI x) (bw_ (f (x.getD i.toNat 0)) (aw_ (qI k) (aw_ (0≤i∧i<lcI x) (aw_ ((n+1)*8≤140737488355328) (Q (iA iB (i+1)) (n+1) (xs++[x.getD i.toNat 0]))))) (Q (iA iB (i+1)) n xs)))) Y)
theorem snocB {xs:LI} {i:Int} (h0:0≤i) (h:i<xs.length):xs.take (i+1).toNat=xs.take i.toNat++[xs.getD i.toNat 0]:=by
 rw [show (i+1).toNat=i.toNat+1 by omega,List.take_add_one,iI,iR (by omega)];rfl
theorem onW_ok {k:Int} {x:LI} {f:Int→Bool} {i:Int} {n:Nat} {xs:LI} {Q:Int→Nat→LI→Prop} {Y:Prop} (hk:qI k) (hb:lB x) (h0:0≤i) (h1:i≤x.length) (h2:n=xs.length) (h3:xs=(x.take i.toNat).filter f)
 (hQ:∀n' xs',i<x.length→n'=xs'.length→xs'=(x.take (i+1).toNat).filter f→Q (i+1) n' xs') (hY:xs=x.filter f→Y):onW k x f i n xs Q Y:=by
 have hbl:=hb.1
 refine ⟨hk, λ_=>⟨λhc=>?_, λhc=>?_⟩⟩
 ·simp only [decide_eq_true_eq] at hc
  have hc:i<x.length:=hc
  have ht:=snocB h0 hc
  have hl1:xs.length≤1000000:=by
   have e1:=List.length_filter_le f (x.take i.toNat)
   have e2:(x.take i.toNat).length≤x.length:=by rw [jT];omega
   rw [h3];omega
  rw [w64 (n:=i+1) (by omega)]
  refine ⟨hk, λ_=>⟨⟨h0,hc⟩, λ_=>⟨λhq=>⟨hk, λ_=>⟨⟨h0,hc⟩, λ_=>⟨by omega, λ_=>hQ _ _ hc (by simp [h2]) ?_⟩⟩⟩, λhq=>hQ _ _ hc h2 ?_⟩⟩⟩
  ·rw [ht,List.filter_append,←h3,List.filter_cons_of_pos (p:=f) hq];rfl
  ·rw [ht,List.filter_append,←h3,List.filter_cons_of_neg (p:=f) (λh=>Bool.false_ne_true (hq.symm.trans h))];simp
 ·simp only [decide_eq_false_iff_not] at hc
  have hc:¬i<x.length:=hc
  rw [List.take_of_length_le (by omega)] at h3
  exact hY h3
end
section
open Go.Sl
def p_Last (x0 x1 x2 x3 x4 x5 x6 x7 x8:LI) (k:Int):Int×Bool:=lastI (pkGet k x0 x1 x2 x3 x4 x5 x6 x7 x8)
abbrev c_p_Last:Ct Sg:=⟨none,false,[.agg [.ro [some .i8], .ro [some .i8], .ro [some .i8], .ro [some .i8], .ro [some .i8], .ro [some .i8], .ro [some .i8], .ro [some .i8], .ro [some .i8]], .i .i64], .tup [.i .i64, .b]⟩
def e_p_Last:Entry Sg:=entC c_p_Last p_Last (λx0 x1 x2 x3 x4 x5 x6 x7 x8 k=>[pkB x0 x1 x2 x3 x4 x5 x6 x7 x8])
def p_Last_w9 (x0 x1 x2 x3 x4 x5 x6 x7 x8:LI) (m_:Nat) (R_:Int×Bool→Prop):Prop:=(aw_ ((!p_there (Int.negSucc m_))=false→0≤Int.negSucc m_∧Int.negSucc m_<9) (R_ ((0,false))))
theorem p_Last_begin9 (x0 x1 x2 x3 x4 x5 x6 x7 x8:LI) (m_:Nat) (hp0:pkB x0 x1 x2 x3 x4 x5 x6 x7 x8):p_Last_w9 x0 x1 x2 x3 x4 x5 x6 x7 x8 m_ (λr__=>r__=(p_Last x0 x1 x2 x3 x4 x5 x6 x7 x8 (Int.negSucc m_))):=by
 unfold p_Last_w9
 have hth:p_there (Int.negSucc m_)=false:=rfl
 refine ⟨λh=>(by rw [hth] at h;cases h), λ_=>?_⟩
 rfl
def p_Last_w10 (x0 x1 x2 x3 x4 x5 x6 x7 x8:LI) (m_:Nat) (R_:Int×Bool→Prop):Prop:=(aw_ ((!p_there (Int.ofNat (m_+9)))=false→0≤Int.ofNat (m_+9)∧Int.ofNat (m_+9)<9) (R_ ((0,false))))
theorem p_Last_begin10 (x0 x1 x2 x3 x4 x5 x6 x7 x8:LI) (m_:Nat) (hp0:pkB x0 x1 x2 x3 x4 x5 x6 x7 x8):p_Last_w10 x0 x1 x2 x3 x4 x5 x6 x7 x8 m_ (λr__=>r__=(p_Last x0 x1 x2 x3 x4 x5 x6 x7 x8 (Int.ofNat (m_+9)))):=by
 unfold p_Last_w10
 have hth:p_there (Int.ofNat (m_+9))=false:=rfl
 refine ⟨λh=>(by rw [hth] at h;cases h), λ_=>?_⟩
 rfl
theorem p_Last_ok:EOk 47 e_p_Last:=
 ent_wm Dg [1] T_p_there_ok (I:=[]) Tryz.func47 mix (B:=bodyOf Tryz.f47) (by kernel_rfl) rfl (by kernel_rfl) 400
  λ_ x0 x1 x2 x3 x4 x5 x6 x7 x8 k hb hp=>(by
   have hp0:pkB x0 x1 x2 x3 x4 x5 x6 x7 x8:=hp _ (.head _)
   rcases int_cases9 k with rfl|rfl|rfl|rfl|rfl|rfl|rfl|rfl|rfl|⟨m_,rfl⟩|⟨m_,rfl⟩
   ·exact ⟨_, λ_ _ _=>by kernel_rfl,lastW_ok (k:=0) (by decide) (pkB_get hp0 0)⟩
   ·exact ⟨_, λ_ _ _=>by kernel_rfl,lastW_ok (k:=1) (by decide) (pkB_get hp0 1)⟩
   ·exact ⟨_, λ_ _ _=>by kernel_rfl,lastW_ok (k:=2) (by decide) (pkB_get hp0 2)⟩
   ·exact ⟨_, λ_ _ _=>by kernel_rfl,lastW_ok (k:=3) (by decide) (pkB_get hp0 3)⟩
   ·exact ⟨_, λ_ _ _=>by kernel_rfl,lastW_ok (k:=4) (by decide) (pkB_get hp0 4)⟩
   ·exact ⟨_, λ_ _ _=>by kernel_rfl,lastW_ok (k:=5) (by decide) (pkB_get hp0 5)⟩
   ·exact ⟨_, λ_ _ _=>by kernel_rfl,lastW_ok (k:=6) (by decide) (pkB_get hp0 6)⟩
   ·exact ⟨_, λ_ _ _=>by kernel_rfl,lastW_ok (k:=7) (by decide) (pkB_get hp0 7)⟩
   ·exact ⟨_, λ_ _ _=>by kernel_rfl,lastW_ok (k:=8) (by decide) (pkB_get hp0 8)⟩
   ·exact ⟨_, λ_ _ _=>by kernel_rfl,p_Last_begin9 x0 x1 x2 x3 x4 x5 x6 x7 x8 m_ (hp _ (.head _))⟩
   ·exact ⟨_, λ_ _ _=>by kernel_rfl,p_Last_begin10 x0 x1 x2 x3 x4 x5 x6 x7 x8 m_ (hp _ (.head _))⟩)
def T_p_Last:Tb:=(47,e_p_Last)::T_p_there
theorem T_p_Last_ok:TOk T_p_Last:=tc_ p_Last_ok T_p_there_ok
def CS (x0 x1 x2 x3 x4 x5 x6 x7 x8:LI) (k:Int):Int×Bool:=lastI (pkGet k x0 x1 x2 x3 x4 x5 x6 x7 x8)
abbrev KF:Ct Sg:=⟨none,false,[.agg [.ro [some .i8], .ro [some .i8], .ro [some .i8], .ro [some .i8], .ro [some .i8], .ro [some .i8], .ro [some .i8], .ro [some .i8], .ro [some .i8]], .i .i64], .tup [.i .i64, .b]⟩
def GM:Entry Sg:=entC KF CS (λx0 x1 x2 x3 x4 x5 x6 x7 x8 k=>[pkB x0 x1 x2 x3 x4 x5 x6 x7 x8])
def Fh (x0 x1 x2 x3 x4 x5 x6 x7 x8:LI) (m_:Nat) (R_:Int×Bool→Prop):Prop:=(aw_ ((decide (Int.negSucc m_<0)||decide (Int.negSucc m_>8))=false→0≤Int.negSucc m_∧Int.negSucc m_<9) (bw_ (decide (Int.negSucc m_<0)||decide (Int.negSucc m_>8)||(↑(lenC [Col.fz x0]):Int)==0) (R_ ((0,false))) (aw_ (0≤Int.negSucc m_∧Int.negSucc m_<9) (aw_ (0≤Int.negSucc m_∧Int.negSucc m_<9) (aw_ (0≤iA iB ((↑(lenC [Col.fz x0]):Int)-1)∧iA iB ((↑(lenC [Col.fz x0]):Int)-1)<(↑(lenC [Col.fz x0]):Int)) (R_ ((iE x0 (iJ (iA iB ((↑(lenC [Col.fz x0]):Int)-1))) 0,true))))))))
theorem GN (x0 x1 x2 x3 x4 x5 x6 x7 x8:LI) (m_:Nat) (hp0:pkB x0 x1 x2 x3 x4 x5 x6 x7 x8):Fh x0 x1 x2 x3 x4 x5 x6 x7 x8 m_ (λr__=>r__=(CS x0 x1 x2 x3 x4 x5 x6 x7 x8 (Int.negSucc m_))):=by
 unfold Fh
 have e9:decide (Int.negSucc m_<0)=true:=decide_eq_true (Int.negSucc_lt_zero m_)
 simp only [e9,Bool.true_or]
 exact ⟨λh=>(by cases h), λ_=>⟨λ_=>rfl, λh=>(by cases h)⟩⟩
def EH (x0 x1 x2 x3 x4 x5 x6 x7 x8:LI) (m_:Nat) (R_:Int×Bool→Prop):Prop:=(aw_ (decide (Int.ofNat (m_+9)>8)=false→0≤Int.ofNat (m_+9)∧Int.ofNat (m_+9)<9) (bw_ (decide (Int.ofNat (m_+9)>8)) (R_ ((0,false))) False))
theorem FK (x0 x1 x2 x3 x4 x5 x6 x7 x8:LI) (m_:Nat) (hp0:pkB x0 x1 x2 x3 x4 x5 x6 x7 x8):EH x0 x1 x2 x3 x4 x5 x6 x7 x8 m_ (λr__=>r__=(CS x0 x1 x2 x3 x4 x5 x6 x7 x8 (Int.ofNat (m_+9)))):=by
 unfold EH
 have e10:decide (Int.ofNat (m_+9)>8)=true:=decide_eq_true (show (8:Int)<((m_+9:Nat):Int) by omega)
 simp only [e10]
 exact ⟨λh=>(by cases h), λ_=>⟨λ_=>rfl, λh=>(by cases h)⟩⟩
theorem JB:EOk 51 GM:=
 ent_wmF Dg (kMk 9 [1] []) T_p_Last_ok (I:=[]) Tryz.func51 mix (B:=bodyOf Tryz.f51) (by kernel_rfl) rfl (by kernel_rfl) 400
  λ_ x0 x1 x2 x3 x4 x5 x6 x7 x8 k hb hp=>(by
   have hp0:pkB x0 x1 x2 x3 x4 x5 x6 x7 x8:=hp _ (.head _)
   rcases int_cases9 k with rfl|rfl|rfl|rfl|rfl|rfl|rfl|rfl|rfl|⟨m_,rfl⟩|⟨m_,rfl⟩
   ·exact ⟨_, λ_ _ _=>by kernel_rfl,lastW_ok (k:=0) (by decide) (pkB_get hp0 0)⟩
   ·exact ⟨_, λ_ _ _=>by kernel_rfl,lastW_ok (k:=1) (by decide) (pkB_get hp0 1)⟩
   ·exact ⟨_, λ_ _ _=>by kernel_rfl,lastW_ok (k:=2) (by decide) (pkB_get hp0 2)⟩
   ·exact ⟨_, λ_ _ _=>by kernel_rfl,lastW_ok (k:=3) (by decide) (pkB_get hp0 3)⟩
   ·exact ⟨_, λ_ _ _=>by kernel_rfl,lastW_ok (k:=4) (by decide) (pkB_get hp0 4)⟩
   ·exact ⟨_, λ_ _ _=>by kernel_rfl,lastW_ok (k:=5) (by decide) (pkB_get hp0 5)⟩
   ·exact ⟨_, λ_ _ _=>by kernel_rfl,lastW_ok (k:=6) (by decide) (pkB_get hp0 6)⟩
   ·exact ⟨_, λ_ _ _=>by kernel_rfl,lastW_ok (k:=7) (by decide) (pkB_get hp0 7)⟩
   ·exact ⟨_, λ_ _ _=>by kernel_rfl,lastW_ok (k:=8) (by decide) (pkB_get hp0 8)⟩
   ·exact ⟨_, λ_ _ _=>by kernel_rfl,GN x0 x1 x2 x3 x4 x5 x6 x7 x8 m_ (hp _ (.head _))⟩
   ·exact ⟨_, λ_ _ _=>by kernel_rfl,FK x0 x1 x2 x3 x4 x5 x6 x7 x8 m_ (hp _ (.head _))⟩)
def GR:Tb:=(51,GM)::T_p_Last
theorem Ea:TOk GR:=tc_ JB T_p_Last_ok
end
end Go.Proofs.YtjfabjhlkpgckaaGreat
