/-
  DERIVED. Contracts whose proofs are reckoned: the theorems. No program is named.
-/
import Derived.Test.YtonfbgombglngaaSlV
namespace Go.Sl
open Go.RowKit
variable {σ : Type}

/-- A function's form: an object that is handed in first (it may stay as it is), what else is handed in, what is handed back. -/
structure Ct (σ : Type) where
  ob : Option (Wr σ)
  pu : Bool
  as : List (Sh σ)
  rs : Sh σ
def okd : Option (Wr σ) → List (Kd σ)
  | none => []
  | some w => [.st w]
def obSh : Option (Wr σ) → List (Sh σ)
  | none => []
  | some w => [.obj w]
@[reducible] def Ct.full (c : Ct σ) : List (Sh σ) := obSh c.ob ++ c.as
@[reducible] def Ct.AK (c : Ct σ) : List (Kd σ) := kds c.full
@[reducible] def Ct.rob (c : Ct σ) : Option (Wr σ) := bif c.pu then none else c.ob
@[reducible] def Ct.RK (c : Ct σ) : List (Kd σ) := okd c.rob ++ c.rs.kd
def argsC (ob : Option (Wr σ)) (as : List (Sh σ)) (args : List (Value × Info σ)) : Option (List (Cm σ)) :=
  match ob with
  | none => dAs as (args.map (·.1)) (args.map (·.2))
  | some w => match args with
    | (.pointer (some _), .obj s) :: r => bif w.is s then (match dAs as (r.map (·.1)) (r.map (·.2)) with
      | some cs => some (.st s :: cs)
      | none => none) else none
    | _ => none
def newC : Option (Wr σ) → List (Cm σ) → Option σ
  | none, _ => none
  | some w, cs => some (w.inj ((hdC cs).stOf w))
def restC : Option (Wr σ) → List (Cm σ) → List (Cm σ)
  | none, cs => cs
  | some _, cs => cs.tail
def Ct.outC (c : Ct σ) (r : Ty c.RK) : List Value → Value := c.rs.out (restC c.rob (toCm c.RK r))
def Ct.mksC (c : Ct σ) (r : Ty c.RK) : List (Mk σ) := c.rs.mks (restC c.rob (toCm c.RK r))
/-- The object behind the call. -/
def Ct.nwC (c : Ct σ) (p : Addr) (cs : List (Cm σ)) (r : Ty c.RK) : List (Chunk σ) :=
  match c.ob with
  | none => []
  | some w => [.obj p (w.inj ((hdC (bif c.pu then cs else toCm c.RK r)).stOf w))]
/-- The entry of the table. -/
def entC (c : Ct σ) (F : Cur c.AK (Ty c.RK)) (pre : Cur c.AK (List Prop)) : Entry σ := fun args =>
  match argsC c.ob c.as args with
  | some cs => some ⟨appC c.AK F cs, fun r => ⟨appC c.AK pre cs, newC c.rob (toCm c.RK r), c.mksC r, c.outC r, c.rs.outp⟩⟩
  | none => none

/-! ### What is handed back -/
def objCm (c : Ct σ) (K : List (Chunk σ)) : List (Cm σ) :=
  match c.rob, K with
  | some _, .obj _ s :: _ => [.st s]
  | some _, _ => [.b false]
  | none, _ => []
def Ct.retR (c : Ct σ) (v : Value) (p : Pr) (K : List (Chunk σ)) : Ty c.RK := ofCm c.RK (objCm c K ++ (c.rs.dc K v p).cs)
def obIs : Option (Wr σ) → List Nat
  | none => []
  | some _ => [0]
def Ct.retIs (c : Ct σ) (v : Value) (p : Pr) (K : List (Chunk σ)) : List Nat := obIs c.ob ++ fixIs 0 (c.rs.dc K v p).is
def Ct.retAnc (c : Ct σ) (v : Value) (p : Pr) (K : List (Chunk σ)) : List (Option Nat × Nat × Nat) := (c.rs.dc K v p).ad.map fun a => (a.o, a.b, a.c)
def Ct.retTm (c : Ct σ) (p0 : Addr) (cs : List (Cm σ)) (v : Value) (p : Pr) (K : List (Chunk σ)) : List (Chunk σ) := c.nwC p0 cs (c.retR v p K) ++ List.zipWith ancC (c.mksC (c.retR v p K)) (c.retAnc v p K)
def lhsK (K : List (Chunk σ)) : List Nat → List (Chunk σ) → List (Option (Chunk σ))
  | i :: is, c :: cs => (match K[i]? with
    | some d => some (stripC d)
    | none => bif nilRow c then some (stripC c) else none) :: lhsK K is cs
  | _, _ => []
def rhsK : List (Chunk σ) → List (Option (Chunk σ))
  | [] => []
  | c :: cs => some (stripC c) :: rhsK cs
theorem got_of {K : List (Chunk σ)} : ∀ {is : List Nat} {cs : List (Chunk σ)}, lhsK K is cs = rhsK cs → Nat.beq is.length cs.length = true → got K is cs
  | [], [], _, _ => trivial
  | [], _ :: _, _, h => by simp at h
  | _ :: _, [], _, h => by simp at h
  | i :: is, c :: cs, h, hl => by
    simp only [lhsK, rhsK, List.cons.injEq] at h
    refine ⟨?_, got_of h.2 (by simpa using hl)⟩
    cases hk : K[i]? with
    | none =>
      rw [hk] at h
      cases hn : nilRow c with
      | true => exact .inr rfl
      | false => rw [hn] at h; simp at h
    | some d => rw [hk] at h; exact .inl (by simpa using h.1)
def Ct.roL (c : Ct σ) (p0 : Addr) (cs : List (Cm σ)) (v : Value) (p : Pr) (K : List (Chunk σ)) : Ob σ := ⟨[], v, [], lhsK K (c.retIs v p K) (c.retTm p0 cs v p K)⟩
def Ct.roR (c : Ct σ) (p0 : Addr) (cs : List (Cm σ)) (v : Value) (p : Pr) (K : List (Chunk σ)) : Ob σ := ⟨[], c.outC (c.retR v p K) (List.zipWith ancV (c.mksC (c.retR v p K)) (c.retAnc v p K)), [], rhsK (c.retTm p0 cs v p K)⟩
def Ct.rob_ (c : Ct σ) (p0 : Addr) (cs : List (Cm σ)) (v : Value) (p : Pr) (K : List (Chunk σ)) : Bool := nodupB (c.retIs v p K) && ancOk (c.mksC (c.retR v p K)) (c.retAnc v p K) && Nat.beq (c.retIs v p K).length (c.retTm p0 cs v p K).length
theorem Ct.ret_ok {c : Ct σ} {p0 : Addr} {cs : List (Cm σ)} {v : Value} {p : Pr} {K : List (Chunk σ)} (h : c.roL p0 cs v p K = c.roR p0 cs v p K) (hb : c.rob_ p0 cs v p K = true) :
    RetOk (c.outC (c.retR v p K)) (c.nwC p0 cs (c.retR v p K)) (c.mksC (c.retR v p K)) v p K := by
  simp only [Ct.rob_, Bool.and_eq_true] at hb
  simp only [Ct.roL, Ct.roR, Ob.mk.injEq] at h
  exact ⟨c.retAnc v p K, c.retIs v p K, nodupB_ok hb.1.1, hb.1.2, h.2.1, got_of h.2.2.2 hb.2⟩

/-! ### Functions without loops -/
def adP (p : Addr) (ad : Nat → Ad) : Nat → Ad
  | 0 => { ad 0 with p := p }
  | j + 1 => ad (j + 1)
def soN : List Ab → List Ent → List (Chunk σ) → Ob σ := fun _ _ _ => ⟨[], undef, [], []⟩
/-- The tree of a function, from its beginning. -/
def Ct.tree (c : Ct σ) (P : Program) (T : List (Nat × Entry σ)) (I : List Nat) (fuel : Nat) (fn : Func) (B : Code) (p0 : Addr) (cs : List (Cm σ)) (ad : Nat → Ad) : Tree σ :=
  run P T I fuel B fn.results.toList fn.ntmps [.code []] (argEnts 0 (tpC (tps (adP p0 ad) c.full 0 0 cs))) (tpK (tps (adP p0 ad) c.full 0 0 cs))
abbrev SmT (c : Ct σ) := Ty c.RK × List (Ty c.RK) × List (Ob σ) × Bool × NT
def Ct.lhs (c : Ct σ) (p0 : Addr) (cs : List (Cm σ)) (t : Tree σ) (β : BF) (γ : GF) : SmT c :=
  (t.val c.retR (ofCm c.RK []) β γ, t.eqv c.retR (ofCm c.RK []) true β γ, t.obl (c.roL p0 cs) soN β γ, t.okb (c.rob_ p0 cs) (fun _ _ _ => true) β γ, t.nds β γ)
def Ct.rhs (c : Ct σ) (p0 : Addr) (cs : List (Cm σ)) (t : Tree σ) (r : Ty c.RK) (N : NT) (β : BF) (γ : GF) : SmT c :=
  (r, t.eqv c.retR (ofCm c.RK []) false β γ, t.obl (c.roR p0 cs) soN β γ, true, N)

theorem tpC_zip : ∀ l : List (Tp σ), tpC l = List.zip (tpV l) (tpP l)
  | [] => rfl
  | t :: r => by simp only [tpC, tpV, tpP, List.zip_cons_cons, tpC_zip r]
theorem tpV_len (ad : Nat → Ad) : ∀ (l : List (Sh σ)) (k j : Nat) (cs : List (Cm σ)), (tpV (tps ad l k j cs)).length = l.length
  | [], _, _, _ => rfl
  | s :: l, k, j, cs => by simp only [tps, tpV, List.length_cons, tpV_len ad l]
variable (D : Addr → σ → Asn)
/-- **From the tree to the entry.** -/
theorem ent_of {c : Ct σ} {P : Program} {T : List (Nat × Entry σ)} (hT : TableOk D P T) {I : List Nat} {f : FuncId} {fn : Func} {B : Code} (hfn : P.funcs[f]? = some fn) (hmix : P.follows .mixedOrders = true) (hB : fn.body = some B)
    (ha : isArgs c.as = true) (hl : Nat.ble c.full.length fn.ntmps = true) {F : Cur c.AK (Ty c.RK)} {pre : Cur c.AK (List Prop)} (fuel : Nat)
    (H : ∀ p0, AllC c.AK fun cs => bds c.full cs → (∀ p ∈ appC c.AK pre cs, p) → ∀ ad E G, (c.tree P T I fuel fn B p0 cs ad).holds (RetOk (c.outC (appC c.AK F cs)) (c.nwC p0 cs (appC c.AK F cs)) (c.mksC (appC c.AK F cs)))
      (SW D P f (Post D E G (c.outC (appC c.AK F cs)) (c.nwC p0 cs (appC c.AK F cs)) (c.mksC (appC c.AK F cs))) B fn.ntmps E G)) : EntryOk D P f (entC c F pre) := by
  intro args d r hd hr
  unfold entC at hd
  split at hd
  rotate_left
  · cases hd
  rename_i cs hcs
  injection hd with hd; subst hd; subst hr
  refine ⟨fun K acs hacs => ?_, fun hpre E G w hi hS => ?_⟩
  · have := Sh.outp_ok c.rs (restC c.rob (toCm c.RK (appC c.AK F cs))) K [] [] acs hacs
    simp only [List.append_nil] at this
    exact this
  dsimp only at hpre hS ⊢
  unfold argsC at hcs
  cases hob : c.ob with
  | none =>
    rw [hob] at hcs
    dsimp only at hcs
    have hfull : c.full = c.as := by unfold Ct.full; rw [hob]; rfl
    have hiv : isOk G (args.map (·.1)) (args.map (·.2)) := by
      clear hcs hpre hS
      induction args with
      | nil => simp [isOk]
      | cons x xs ih => simp only [List.map_cons, isOk]; exact ⟨hi x (by simp), ih fun y hy => hi y (by simp [hy])⟩
    obtain ⟨h1, h2, h3, h4, h5, adl, h6, h7⟩ := dAs_ok (G := G) c.as (fun s _ => Sh.dA_ok s) _ _ _ ha hcs hiv
    have hH := (H (adF adl 0).p).at cs (by unfold Ct.AK; rw [hfull]; exact h1) (by rw [hfull]; have := h5 []; simpa using this) hpre (adF adl) E G
    have hadP : adP (adF adl 0).p (adF adl) = adF adl := by funext j; cases j <;> rfl
    obtain ⟨g1, g2⟩ := h7 (adF adl) 0 0 [] (fun m a hm => by simp [adF, List.getD_eq_getElem?_getD, hm])
    simp only [List.append_nil] at g1 g2
    obtain ⟨k1, k2, k3⟩ := tps_ok (adF adl) c.as 0 0 cs ha
    have hobjs : objsOf args = [] := by
      have : List.zip (args.map (·.1)) (args.map (·.2)) = args := by rw [List.zip_map']; simp
      rw [this] at h4; exact h4
    have hS0 : SatK D E G w ([] : List (Chunk σ)) := by have := hS; simp only [objAs, objOf, hobjs] at this; exact this
    unfold Ct.tree at hH
    rw [hadP, hfull] at hH
    have hn : c.nwC (adF adl 0).p cs (appC c.AK F cs) = [] := by unfold Ct.nwC; rw [hob]
    rw [hn] at hH
    have := calls_post D hT (I := I) hfn hmix hB (tpV (tps (adF adl) c.as 0 0 cs)) (tpP (tps (adF adl) c.as 0 0 cs)) (by rw [tpV_len]; rw [hfull] at hl; exact hl) (objs := []) (ros := tpK (tps (adF adl) c.as 0 0 cs)) (by simpa using k3 [] [] rfl) (by simpa using k2) g2 hS0
      (out := c.outC (appC c.AK F cs)) (nw := []) (rows := c.mksC (appC c.AK F cs)) fuel rfl (by rw [← tpC_zip]; simpa using hH)
    rw [g1] at this
    exact entry_post D (pre := appC c.AK pre cs) (outp := c.rs.outp) (by simp [newAs, objOf, hobjs]) this
  | some wr =>
    rw [hob] at hcs
    dsimp only at hcs
    split at hcs
    rotate_left
    · cases hcs
    rename_i p s rs
    cases his : wr.is s with
    | false => rw [his] at hcs; cases hcs
    | true =>
      rw [his] at hcs
      simp only [cond_true] at hcs
      split at hcs
      rotate_left
      · cases hcs
      rename_i cs' hcs'
      injection hcs with hcs; subst hcs
      have hfull : c.full = .obj wr :: c.as := by unfold Ct.full; rw [hob]; rfl
      have hiv : isOk G (rs.map (·.1)) (rs.map (·.2)) := by
        have hi' : ∀ x ∈ rs, iOk G x.1 x.2 := fun x hx => hi x (by simp [hx])
        clear hcs' hpre hS hi
        induction rs with
        | nil => simp [isOk]
        | cons x xs ih => simp only [List.map_cons, isOk]; exact ⟨hi' x (by simp), ih fun y hy => hi' y (by simp [hy])⟩
      obtain ⟨h1, h2, h3, h4, h5, adl, h6, h7⟩ := dAs_ok (G := G) c.as (fun s _ => Sh.dA_ok s) _ _ _ ha hcs' hiv
      have hH := (H p).at (.st s :: cs') (by unfold Ct.AK; rw [hfull]; simp only [kds, Sh.kd, List.cons_append, List.nil_append, fitsC, Kd.fits, his, h1]; rfl) (by
        rw [hfull]
        refine ⟨trivial, ?_⟩
        have := h5 []
        simpa [Sh.nC] using this) hpre (fun j => adF adl (j - 1)) E G
      have had : ∀ (m : Nat) a, adl[m]? = some a → adP p (fun j => adF adl (j - 1)) (1 + m) = a := fun m a hm => by
        rw [Nat.add_comm]; simp [adP, adF, List.getD_eq_getElem?_getD, hm]
      obtain ⟨g1, g2⟩ := h7 (adP p (fun j => adF adl (j - 1))) 1 1 [] had
      simp only [List.append_nil] at g1 g2
      obtain ⟨k1, k2, k3⟩ := tps_ok (adP p (fun j => adF adl (j - 1))) c.as 1 1 cs' ha
      have hinj : wr.inj (wr.prj s) = s := wr.ok s his
      have htp : tps (adP p (fun j => adF adl (j - 1))) c.full 0 0 (.st s :: cs') = ⟨.pointer (some p), .pt 0 .obj, [.obj p s]⟩ :: tps (adP p (fun j => adF adl (j - 1))) c.as 1 1 cs' := by
        rw [hfull]
        simp only [tps, Sh.tp, Sh.nK, Sh.nA, Sh.nC, List.headD_cons, Cm.stOf, hinj, List.drop_succ_cons, List.drop_zero, Nat.zero_add]
        rfl
      have hobjs : objsOf ((Value.pointer (some p), Info.obj s) :: rs) = [(p, s)] := by
        have : List.zip (rs.map (·.1)) (rs.map (·.2)) = rs := by rw [List.zip_map']; simp
        rw [this] at h4; simp [objsOf, objsV, h4]
      have hS0 : SatK D E G w [Chunk.obj p s] := by simpa [objAs, objOf, hobjs, SatK, den] using hS
      unfold Ct.tree at hH
      rw [htp] at hH
      have := calls_post D hT (I := I) hfn hmix hB (.pointer (some p) :: tpV (tps (adP p (fun j => adF adl (j - 1))) c.as 1 1 cs')) (.pt 0 .obj :: tpP (tps (adP p (fun j => adF adl (j - 1))) c.as 1 1 cs')) (by simp only [List.length_cons, tpV_len]; rw [hfull] at hl; exact hl) (objs := [.obj p s]) (ros := tpK (tps (adP p (fun j => adF adl (j - 1))) c.as 1 1 cs'))
        (psOk_cons (pOk_pt.2 ⟨.obj p s, rfl, rfl⟩) (by simpa using k3 [.obj p s] [] rfl)) (noCells_app (a := [.obj p s]) rfl k2) g2 hS0
        (out := c.outC (appC c.AK F (.st s :: cs'))) (nw := c.nwC p (.st s :: cs') (appC c.AK F (.st s :: cs'))) (rows := c.mksC (appC c.AK F (.st s :: cs'))) fuel rfl (by
          simp only [tpC, tpK, List.cons_append, List.nil_append] at hH
          rw [tpC_zip] at hH
          exact hH)
      rw [g1] at this
      have hn : (c.nwC p (.st s :: cs') (appC c.AK F (.st s :: cs'))).map (den D G) = newAs D ((Value.pointer (some p), Info.obj s) :: rs) (newC c.rob (toCm c.RK (appC c.AK F (.st s :: cs')))) := by
        unfold newAs objOf
        rw [hobjs]
        unfold Ct.nwC
        rw [hob]
        dsimp only
        cases hpu : c.pu with
        | true =>
          have : c.rob = none := by unfold Ct.rob; rw [hpu]; rfl
          rw [this]
          simp only [cond_true, List.headD_cons, Cm.stOf, hinj, List.map_cons, List.map_nil, den, newC, Option.getD_none]
        | false =>
          have : c.rob = some wr := by unfold Ct.rob; rw [hpu, hob]; rfl
          rw [this]
          simp only [cond_false, List.map_cons, List.map_nil, den, newC, Option.getD_some]
      exact entry_post D (pre := appC c.AK pre (.st s :: cs')) (outp := c.rs.outp) hn this

/-- **The contract of a function without loops.** -/
theorem ent_ok {c : Ct σ} {P : Program} {T : List (Nat × Entry σ)} (hT : TableOk D P T) {I : List Nat} {f : FuncId} {fn : Func} {B : Code} (hfn : P.funcs[f]? = some fn) (hmix : P.follows .mixedOrders = true) (hB : fn.body = some B)
    (ha : isArgs c.as = true) (hl : Nat.ble c.full.length fn.ntmps = true) {F : Cur c.AK (Ty c.RK)} {pre : Cur c.AK (List Prop)} (fuel : Nat)
    (H : ∀ p0, AllC c.AK fun cs => bds c.full cs → (∀ p ∈ appC c.AK pre cs, p) → ∃ (r : Ty c.RK) (N : NT), (∀ ad β γ, c.lhs p0 cs (c.tree P T I fuel fn B p0 cs ad) β γ = c.rhs p0 cs (c.tree P T I fuel fn B p0 cs ad) r N β γ) ∧ N.holds ∧ r = appC c.AK F cs) : EntryOk D P f (entC c F pre) := by
  refine ent_of D hT (I := I) hfn hmix hB ha hl fuel fun p0 => ?_
  have key : ∀ {ks : List (Kd σ)} {p q : List (Cm σ) → Prop}, (∀ cs, p cs → q cs) → AllC ks p → AllC ks q := by
    intro ks
    induction ks with
    | nil => exact fun h hp => h [] hp
    | cons k ks ih => exact fun h hp a => ih (fun cs => h _) (hp a)
  refine key (fun cs hH hb hp ad E G => ?_) (H p0)
  obtain ⟨r, N, h1, h2, rfl⟩ := hH hb hp
  refine Tree.val_holds (R := fun r v p K => RetOk (c.outC r) (c.nwC p0 cs r) (c.mksC r) v p K) (lf := c.retR) (d := ofCm c.RK []) (roL := c.roL p0 cs) (roR := c.roR p0 cs) (soL := soN) (soR := soN) (rb := c.rob_ p0 cs) (sb := fun _ _ _ => true) (fun v p K => Ct.ret_ok) _ _
    (fun β γ => congrArg (·.1) (h1 ad β γ)) (fun β γ => congrArg (·.2.1) (h1 ad β γ)) (fun β γ => congrArg (·.2.2.1) (h1 ad β γ)) (fun β γ => congrArg (·.2.2.2.1) (h1 ad β γ)) (fun β γ => ?_)
  have : NT.holds _ = NT.holds _ := congrArg (fun x => NT.holds x.2.2.2.2) (h1 ad β γ)
  dsimp only [Ct.lhs, Ct.rhs] at this
  rw [this]; exact h2
end Go.Sl
