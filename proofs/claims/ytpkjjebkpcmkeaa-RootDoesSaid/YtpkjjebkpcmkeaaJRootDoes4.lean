/-
  What every calls on roots, in every order, tell, read and write, on every values of cells: the law's function answers true for every values and calls. Conditions: none.
-/
import Derived.Test.YtpkjjebkpcmkeaaJRootDoes3
import Derived.ProofKit
import Derived.Lib.SmallJoins
import Derived.Deep.Slices
import Derived.OpenShut
import Derived.Test.YtpkjjebkpcmkeaaRows
set_option linter.unusedSimpArgs false
set_option linter.unusedVariables false
namespace Go.Sl
open Go.RowKit
variable {σ : Type} (D : Addr → σ → Asn)
section
variable {P : Program} {R : Ending → World → Prop} {B : Code} {n : Nat} {E : World} {G : Hp} {td : List Ab} {L L' : List Ent} {K K' : List (Chunk σ)}
theorem SatK.putObj {w : World} {j l : Nat} {q : Addr} {s s' : σ} {x y : Obj} (hS : SatK D E G w K) (hj : K[j]? = some (.obj q s)) (hd : D q s = pt l x) (hd' : D q s' = pt l y) : SatK D E G (w.putObj l y) (K.set j (.obj q s')) := by
  have hi : (K.map (den D G))[j]? = some (pt l x) := by rw [List.getElem?_map, hj]; simp only [Option.map_some, den, hd]
  have hl := Sat.pt hS hi
  have hlt := lt_of_heap hl
  have := Sat.write hS hi (w' := w.putObj l y) (A' := pt l y) ⟨rfl, rfl, rfl⟩ World.putObj_size (fun c hc => World.putObj_heap_other hc) (fun k hk => by unfold Sl.pt; rw [hk]; exact World.putObj_heap_same hlt)
  unfold SatK
  rw [List.map_set]
  simp only [den, hd']
  exact this
theorem KExt.setObj {j : Nat} {q : Addr} {s s' : σ} (hj : K[j]? = some (.obj q s)) : KExt K (K.set j (.obj q s')) := KExt.set hj fun v pk h => by cases pk <;> first | exact h | exact h.elim
theorem KOk.setObj {j : Nat} {q : Addr} {s s' : σ} (hk : KOk K) (hj : K[j]? = some (.obj q s)) : KOk (K.set j (.obj q s')) := hk.set hj (fun v pk h => by cases pk <;> first | exact h | exact h.elim) fun _ _ _ h => by cases h
theorem SatK.objPt {w : World} {j l : Nat} {q : Addr} {s : σ} {x : Obj} (hS : SatK D E G w K) (hj : K[j]? = some (.obj q s)) (hd : D q s = pt l x) : w.heap[l]? = some x :=
  Sat.pt hS (i := j) (by rw [List.getElem?_map, hj]; simp only [Option.map_some, den, hd])
theorem Fr.round2 {a : Act} {p1 p2 : Nat} {v1 v2 : Value} (hF : Fr n L K a) (hK : KExt K K') (hk : KOk K') (h1 : p1 < n) (h2 : p2 < n) (hne : p1 ≠ p2) (hL : ∀ e ∈ L', e.g = none ∧ e.s ≠ p1 ∧ e.s ≠ p2 ∧ e ∈ L) :
    Fr n (⟨p1, none, v1, .no⟩ :: ⟨p2, none, v2, .no⟩ :: L') K' { tmps := (a.tmps.setIfInBounds p1 v1).setIfInBounds p2 v2, defers := [] } := by
  refine ⟨hk, rfl, by simp [hF.size], fun e he hg => ?_, fun e he hg => ?_⟩
  · simp only [List.mem_cons] at he
    rcases he with rfl | rfl | he
    · refine ⟨?_, pOk_no⟩
      rw [Array.getD_eq_getD_getElem?, Array.getElem?_setIfInBounds_ne (fun h => hne h.symm), Array.getElem?_setIfInBounds_self_of_lt (by rw [hF.size]; exact h1)]; rfl
    · refine ⟨?_, pOk_no⟩
      rw [Array.getD_eq_getD_getElem?, Array.getElem?_setIfInBounds_self_of_lt (by simp only [Array.size_setIfInBounds]; rw [hF.size]; exact h2)]; rfl
    · obtain ⟨h3, h4, h5, h6⟩ := hL e he
      have := (hF.ext hK hk).ents e h6 (by rw [h3]; trivial)
      refine ⟨?_, this.2⟩
      rw [← this.1]
      rw [Array.getD_eq_getD_getElem?, Array.getD_eq_getD_getElem?, Array.getElem?_setIfInBounds_ne (fun h => h5 h.symm), Array.getElem?_setIfInBounds_ne (fun h => h4 h.symm)]
  · exfalso
    apply hg
    simp only [List.mem_cons] at he
    rcases he with rfl | rfl | he
    · trivial
    · trivial
    · rw [(hL e he).1]; trivial
theorem ycalls_sw {f : FuncId} {a : Act} {w : World} {p : List Nat} {p1 p2 : Nat} {v1 v2 : Value} {l Dm : Nat} (hF : Fr n L K a) (hK : KExt K K') (hk : KOk K') (h1 : p1 < n) (h2 : p2 < n) (hne : p1 ≠ p2) (hL : ∀ e ∈ L', e.g = none ∧ e.s ≠ p1 ∧ e.s ≠ p2 ∧ e ∈ L)
    (hr : w.heap[l]? = some (.loop (recOf f a.tmps #[p1, p2] (Sl.sub B (0 :: p)) (Sl.sub B (1 :: p)) Dm .ready none))) (hS : SatK D E G w K')
    (H : SW D P ⟨f, some l, []⟩ R B n E G [.code (0 :: p), .raw .beginRound, .code (1 :: p)] (⟨p1, none, v1, .no⟩ :: ⟨p2, none, v2, .no⟩ :: L') K') : YCalls P l #[v1, v2] w R := by
  refine ycalls_of hr rfl ?_
  have e : (#[p1, p2].zip #[v1, v2]).foldl (fun (t : Array Value) (p, v) => t.setIfInBounds p v) a.tmps = (a.tmps.setIfInBounds p1 v1).setIfInBounds p2 v2 := by simp
  rw [e]
  exact H _ w (hF.round2 hK hk h1 h2 hne hL) hS
theorem SW.busy {f : Fq} {l j : Nat} {q : Addr} {s s' : σ} {r : Loop} (hro : f.ro = some l) (hj : K[j]? = some (.obj q s)) (hd : D q s = pt l (.loop r)) (hr : r.state = .ready) (hd' : D q s' = pt l (.loop { r with state := .busy }))
    (H : SW D P f R B n E G td L (K.set j (.obj q s'))) : SW D P f R B n E G (.raw .beginRound :: td) L K := fun a w hF hS =>
  WT.round_busy hro (hS.objPt D hj hd) hr (H a _ (hF.ext (KExt.setObj hj) (hF.kok.setObj hj)) (hS.putObj D hj hd hd'))
theorem SW.on {f : Fq} {l j : Nat} {q : Addr} {s s' : σ} {r : Loop} (hro : f.ro = some l) (hj : K[j]? = some (.obj q s)) (hd : D q s = pt l (.loop r)) (hd' : D q s' = pt l (.loop { r with state := .ready, pending := none }))
    (H : ∀ w', KOk (K.set j (.obj q s')) → SatK D E G w' (K.set j (.obj q s')) → R (.returned (.bool true)) w') : SW D P f R B n E G [] L K := fun _ _ hF hS =>
  WT.round_on hro (hS.objPt D hj hd) (H _ (hF.kok.setObj hj) (hS.putObj D hj hd hd'))
theorem SW.off {f : Fq} {l j : Nat} {q : Addr} {s s' : σ} {r : Loop} {q0 : List Nat} (hro : f.ro = some l) (hc : Sl.sub B q0 = .ret) (hj : K[j]? = some (.obj q s)) (hd : D q s = pt l (.loop r)) (hd' : D q s' = pt l (.loop { r with state := .done, pending := some .ret }))
    (H : ∀ w', KOk (K.set j (.obj q s')) → SatK D E G w' (K.set j (.obj q s')) → R (.returned (.bool false)) w') : SW D P f R B n E G (.code q0 :: td) L K := fun a w hF hS => by
  show WT P f R (.code (Sl.sub B q0) :: td.map (item B)) a w
  rw [hc]
  exact WT.round_off hro (hS.objPt D hj hd) (H _ (hF.kok.setObj hj) (hS.putObj D hj hd hd'))
theorem SW.rangeFunc {f : FuncId} {p : List Nat} {t gf : Nat} {ps : Array Tmp} {lb : Array Value} {pr : Pr} (hc : Sl.sub B p = .rangeFunc (.tmp t) ps (Sl.sub B (0 :: p)) (Sl.sub B (1 :: p))) (hL : (⟨t, none, .func (.func gf) #[] lb, pr⟩ : Ent) ∈ L)
    (eg : ∀ args w, (callFunc gf args).run P w = .ok (.enter gf args) w)
    (H : ∀ a w, Fr n L K a → Sat E G (rfWorld w f a.tmps ps (Sl.sub B (0 :: p)) (Sl.sub B (1 :: p))) (K.map (den D G) ++ [pt w.heap.size (.deferred (some [])), pt (w.heap.size + 1) (.loop (recOf f a.tmps ps (Sl.sub B (0 :: p)) (Sl.sub B (1 :: p)) w.heap.size .ready none))]) →
      Calls P gf (#[.func (.yield (w.heap.size + 1)) #[] #[]] ++ lb) (rfWorld w f a.tmps ps (Sl.sub B (0 :: p)) (Sl.sub B (1 :: p))) fun e w3 => (∃ v, e = .returned v) ∧ ∃ r w4, w3.heap[w.heap.size + 1]? = some (.loop r) ∧ r.state ≠ .busy ∧ w4 = w3.putObj (w.heap.size + 1) (.loop { r with state := .exhausted }) ∧
        WT P ⟨f, none, [mark w.heap.size]⟩ R ((r.pending.map Item.code).toList ++ td.map (item B)) a w4) :
    SW D P f R B n E G (.code p :: td) L K := fun a w hF hS => by
  show WT P (f : Fq) R (.code (Sl.sub B p) :: td.map (item B)) a w
  rw [hc]
  have hv := hF.ents _ hL trivial
  refine WT.rangeFunc (f := (f : Fq)) rfl (lb := lb) hv.1 eg ?_
  have h1 := Sat.alloc (Sat.alloc hS (.deferred (some []))) (.loop (recOf f a.tmps ps (Sl.sub B (0 :: p)) (Sl.sub B (1 :: p)) w.heap.size .ready none))
  rw [List.append_assoc] at h1
  have hsz : (w.alloc (.deferred (some []))).heap.size = w.heap.size + 1 := by simp
  rw [hsz] at h1
  refine (H a w hF h1).mono fun e w3 ⟨hv, r, w4, h2, h3, h4, h5⟩ => ⟨hv, r.pending, w4, ?_, h5⟩
  rw [h4]
  exact run_endLoop h2 h3
theorem SW.finish_mark {f : Fq} {fn : Func} {Dm j : Nat} {q : Addr} {s s' : σ} {vs : List (Value × Pr)} (hro : f.ro = none) (hdf : f.df = [mark Dm]) (hfn : P.funcs[f.id]? = some fn) (ht : td.map (item B) = [] ∨ ∃ k, td.map (item B) = .code .ret :: k)
    (hj : K[j]? = some (.obj q s)) (hd : D q s = pt Dm (.deferred (some []))) (hd' : D q s' = pt Dm (.deferred none)) (hres : resVals P L (K.set j (.obj q s')) fn.results.toList = some vs)
    (H : ∀ w', SatK D E G w' (K.set j (.obj q s')) → R (.returned (match vs with | [v] => v.1 | vs => .tuple (vs.map (·.1)).toArray)) w') : SW D P f R B n E G td L K := fun a w hF hS => by
  have hS' := hS.putObj D hj hd hd'
  have hF' := hF.ext (KExt.setObj (s' := s') hj) (hF.kok.setObj hj)
  refine WT.finish_mark hro hdf hfn ht hF.defers (run_takeDeferred (hS.objPt D hj hd)) ?_ (H _ hS')
  · have hrun := (resVals_run D hF' hS' _ _ hres).1
    unfold results
    rw [Array.mapM_eq_mapM_toList]
    simp only [Sem.run_bind, Sem.run_map]
    erw [hrun]
    simp only [Result.andThen_ok, Sem.run_pure]
    match vs with
    | [] => rfl
    | [v] => rfl
    | _ :: _ :: _ => simp
theorem resVals_never {t : TypeId} (h : aggB P t = none) (L : List Ent) (K : List (Chunk σ)) : resVals P L K [.cell 0 t] = none := by
  have hc : ∀ cs off, cellsLoad P t cs off = none := fun cs off => by unfold cellsLoad; rw [h]
  simp only [resVals]
  split
  · split
    · rw [hc]
    · rfl
  · rfl
theorem SatK.order {w : World} {Ks : List (Chunk σ)} (h : SatK D E G w K) (is : List Nat) (hn : nodupB is = true) (hg : Ks.map some = is.map (fun j => K[j]?)) : SatK D E G w Ks := by
  refine Sat.pick h is (nodupB_ok hn) fun i B hi => .inl ?_
  rw [List.getElem?_map] at hi
  cases hc : Ks[i]? with
  | none => rw [hc] at hi; cases hi
  | some c =>
    rw [hc] at hi; injection hi with hi; subst hi
    have := congrArg (fun l => l[i]?) hg
    simp only [List.getElem?_map, hc, Option.map_some] at this
    cases hj : is[i]? with
    | none => rw [hj] at this; cases this
    | some j =>
      rw [hj] at this
      simp only [Option.map_some, Option.some.injEq] at this
      exact ⟨j, rfl, by rw [List.getElem?_map, ← this]; rfl⟩
theorem SatK.pack {w : World} {Ks K1 : List (Chunk σ)} {c : Chunk σ} (h : SatK D E G w (Ks ++ K1)) (hc : den D G c = star (Ks.map (den D G))) : SatK D E G w (c :: K1) := by
  unfold SatK at h ⊢
  rw [List.map_append] at h
  rw [List.map_cons, hc]
  exact Sat.star_append h
theorem SatK.unpack {w : World} {k : Nat} {k0 : Chunk σ} {ks : List (Chunk σ)} {c : Chunk σ} (h : SatK D E G w K) (hk : K[k]? = some c) (hc : den D G c = star ((k0 :: ks).map (den D G))) : SatK D E G w (K.set k k0 ++ ks) := by
  unfold SatK at h ⊢
  obtain ⟨_, _, h1⟩ := Sat.openAt (α := Unit) (p := fun _ => True) (A0 := fun _ => den D G k0) (Bs := fun _ => ks.map (den D G)) (k := k) h (by
    rw [List.getElem?_map, hk]
    simp only [Option.map_some, Option.some.injEq, hc]
    funext h
    apply propext
    exact ⟨fun x => ⟨(), trivial, x⟩, fun ⟨_, _, x⟩ => x⟩)
  rw [List.map_append, List.map_set]
  exact h1
end
end Go.Sl
namespace Go.Proofs.Ytpkjjebkpcmkeaa
open Go Go.Sl
abbrev Yf := VS → List (List Int) → Int → Int → VS × List (List Int) × Bool
def allK (A : List (List Int) → Asn) (pv q2 : Addr) (bb : Nat) (s : VS) (st : List (List Int)) : List (Chunk Sg) := [.obj pv (.view s), .obj q2 (.any A st), .cells bb 27 [(.pointer (some pv), .pt 0 .obj)]]
def allN (A : List (List Int) → Asn) (pv q2 : Addr) (bb l : Nat) (I : List (List Int) → Prop) (v0 v1 v2 : Value) (i x : Int) (K : List (Chunk Sg)) (s : VS) (st : List (List Int)) : Prop :=
  v0 = .func (.yield l) #[] #[] ∧ v1 = .int .i64 i ∧ v2 = .int .i64 x ∧ K = allK A pv q2 bb s st ∧ I st
def yHook (A : List (List Int) → Asn) (pv q2 : Addr) (bb l : Nat) (I : List (List Int) → Prop) (yf : Yf) : List (Value × Pr) → List (Chunk Sg) → Option (Tree Sg)
  | [(v0, _), (.int k1 i, _), (.int k2 x, _)], .obj q (.view s) :: .obj q3 (.any A' st) :: K => some (.need (allN A pv q2 bb l I v0 (.int k1 i) (.int k2 x) i x (.obj q (.view s) :: .obj q3 (.any A' st) :: K) s st) (.bind (yf s st i x) fun r => .ret (.bool r.2.2) .no (.obj q (.view r.1) :: .obj q3 (.any A' r.2.1) :: K)))
  | _, _ => none
def YOk (E : World) (G : Hp) (A : List (List Int) → Asn) (pv q2 : Addr) (bb l : Nat) (I : List (List Int) → Prop) (yf : Yf) : Prop :=
  ∀ s st i x, I st → ∀ w, SatK Dg E G w (allK A pv q2 bb s st) → YCalls Try.prog l #[.int .i64 i, .int .i64 x] w fun en w' => en = .returned (.bool (yf s st i x).2.2) ∧ SatK Dg E G w' (allK A pv q2 bb (yf s st i x).1 (yf s st i x).2.1)
theorem all_kok {A : List (List Int) → Asn} {pv q2 : Addr} {bb : Nat} (s : VS) (st : List (List Int)) : KOk (allK A pv q2 bb s st) := by
  intro k b t cs hk
  match k, hk with
  | 2, hk =>
    simp only [allK, List.getElem?_cons_succ, List.getElem?_cons_zero, Option.some.injEq, Chunk.cells.injEq] at hk
    obtain ⟨rfl, rfl, rfl⟩ := hk
    intro x hx
    simp only [List.mem_cons, List.not_mem_nil, or_false] at hx
    subst hx
    exact (pOk_pt).2 ⟨_, rfl, rfl⟩
  | 0, hk => cases hk
  | 1, hk => cases hk
  | k + 3, hk => cases hk
theorem yHook_ok {E : World} {G : Hp} {A : List (List Int) → Asn} {pv q2 : Addr} {bb l : Nat} {I : List (List Int) → Prop} {yf : Yf} (h : YOk E G A pv q2 bb l I yf) : HookOk Dg Try.prog (yHook A pv q2 bb l I yf) E G := by
  intro args prs K t ht w hps hk hS Q hQ l' av hav
  have hz := (zip_pOk hps).2
  generalize hzz : List.zip args prs = z at ht hz
  unfold yHook at ht
  split at ht
  · rename_i v0 p0 k1 i p1 k2 x p2 q s q3 A' st K0
    injection ht with ht; subst ht
    obtain ⟨⟨h0, h1, h2, h3, h4⟩, hb⟩ := hQ
    have hq := hb ⟨h0, h1, h2, h3, h4⟩ _ rfl
    simp only [List.map_cons, List.map_nil] at hz
    subst hz
    injection h1 with h1; subst h1
    injection h2 with h2; subst h2
    subst h0
    rw [allK, List.cons.injEq, List.cons.injEq] at h3
    obtain ⟨e1, e2, e3⟩ := h3
    injection e1 with e1 _; subst e1
    injection e2 with e2 e4; subst e2
    injection e4 with e4 _; subst e4
    subst e3
    have ha : l' = l ∧ av = #[.int .i64 i, .int .i64 x] := by
      have := congrArg Array.toList hav
      simp only [Array.toList_append, List.cons_append, List.nil_append, List.cons.injEq] at this
      obtain ⟨e5, e6⟩ := this
      injection e5 with e5 _ _
      injection e5 with e5
      exact ⟨e5.symm, by apply Array.toList_inj.1; exact e6.symm⟩
    obtain ⟨rfl, rfl⟩ := ha
    obtain ⟨fn, tmps, assign, body, g1, g2⟩ := h s st i x h4 w hS
    refine ⟨fn, tmps, assign, body, g1, fun cs hcs => ?_⟩
    obtain ⟨e, w', S, ⟨g3, g4⟩, g5⟩ := g2 cs hcs
    refine ⟨e, w', S, ⟨_, _, _, g3, hq, ?_, all_kok _ _, pOk_no, g4⟩, g5⟩
    have x1 : KExt (allK A' q q3 bb s st) ((allK A' q q3 bb s st).set 0 (.obj q (.view (yf s st i x).1))) := KExt.setObj rfl
    have x2 := KExt.setObj (K := (allK A' q q3 bb s st).set 0 (.obj q (.view (yf s st i x).1))) (j := 1) (q := q3) (s := .any A' st) (s' := .any A' (yf s st i x).2.1) rfl
    exact x1.trans x2
  · cases ht
def allF (yf : Yf) : Nat → VS → List (List Int) → VS × List (List Int)
  | 0, s, st => (s, st)
  | k + 1, s, st => bif (yf (s.read (cRoot (7 - k))) st (7 - k) (s.get (cRoot (7 - k)))).2.2 then allF yf k (yf (s.read (cRoot (7 - k))) st (7 - k) (s.get (cRoot (7 - k)))).1 (yf (s.read (cRoot (7 - k))) st (7 - k) (s.get (cRoot (7 - k)))).2.1
      else ((yf (s.read (cRoot (7 - k))) st (7 - k) (s.get (cRoot (7 - k)))).1, (yf (s.read (cRoot (7 - k))) st (7 - k) (s.get (cRoot (7 - k)))).2.1)
def allL (l bb : Nat) (i : Int) : List Ent := [⟨4, none, .int .i64 i, .no⟩, ⟨0, none, .func (.yield l) #[] #[], .no⟩, ⟨1, none, .pointer (some ⟨bb, 0, none⟩), .pt 2 (.cell 0)⟩]
section
variable {yf : Yf} {A : List (List Int) → Asn} {pv q2 : Addr} {bb l : Nat} {E : World} {G : Hp} {I : List (List Int) → Prop}
theorem all_tree (R' : Value → Pr → List (Chunk Sg) → Prop) (S0 : List Ab → Option Ent → Option Ent → Option Ent → List (Chunk Sg) → Prop) (s : VS) (st : List (List Int)) (i : Int) :
    (runY Try.prog T_r21_Follow (yHook A pv q2 bb l I yf) [2999998, 2999996] 60 (bodyOf Try.f40) Try.f40.results.toList Try.f40.ntmps [.code [0, 0, 1], .again [0, 1], .blk 0] (allL l bb i) (allK A pv q2 bb s st)).holds R' (fun td L K => S0 td (Sl.look L 4) (Sl.look L 0) (Sl.look L 1) K) =
    ((decide (i < 8) = true →
      (∀ a, a = place_Root i → ∀ a1, a1 = (s.read a, s.get a) → aw_ (allN A pv q2 bb l I (.func (.yield l) #[] #[]) (.int .i64 i) (.int .i64 (IntKind.i64.wrap a1.2)) i (IntKind.i64.wrap a1.2) (allK A pv q2 bb a1.1 st) a1.1 st) (∀ a2, a2 = yf a1.1 st i (IntKind.i64.wrap a1.2) → ((!a2.2.2) = true → R' (.tuple #[]) .no (allK A pv q2 bb a2.1 a2.2.1)) ∧ ((!a2.2.2) = false → S0 [.again [0, 1], .blk 0] (some ⟨4, none, .int .i64 (IntKind.i64.wrap (i + 1)), .no⟩) (some ⟨0, none, .func (.yield l) #[] #[], .no⟩) (some ⟨1, none, .pointer (some ⟨bb, 0, none⟩), .pt 2 (.cell 0)⟩) (allK A pv q2 bb a2.1 a2.2.1)))) ∧
      (∀ a, a = place_Root i → ∀ a1, a1 = (s.read a, s.get a) → aw_ (allN A pv q2 bb l I (.func (.yield l) #[] #[]) (.int .i64 i) (.int .i64 (IntKind.i64.wrap a1.2)) i (IntKind.i64.wrap a1.2) (allK A pv q2 bb a1.1 st) a1.1 st) (∀ a2, a2 = yf a1.1 st i (IntKind.i64.wrap a1.2) → ((!a2.2.2) = true → R' (.tuple #[]) .no (allK A pv q2 bb a2.1 a2.2.1)) ∧ ((!a2.2.2) = false → S0 [.again [0, 1], .blk 0] (some ⟨4, none, .int .i64 (IntKind.i64.wrap (i + 1)), .no⟩) (some ⟨0, none, .func (.yield l) #[] #[], .no⟩) (some ⟨1, none, .pointer (some ⟨bb, 0, none⟩), .pt 2 (.cell 0)⟩) (allK A pv q2 bb a2.1 a2.2.1))))) ∧
     (decide (i < 8) = false → R' (.tuple #[]) .no (allK A pv q2 bb s st))) := by
  kernel_rfl
theorem all_sw (hY : YOk E G A pv q2 bb l I yf) (hI : ∀ s st i x, I st → (yf s st i x).2.2 = true → I (yf s st i x).2.1) {R : Ending → World → Prop} : ∀ (k : Nat) (i : Int) (s : VS) (st : List (List Int)), 0 ≤ i → i ≤ 8 → k = (8 - i).toNat → I st →
    (∀ v w', SatK Dg E G w' (allK A pv q2 bb (allF yf k s st).1 (allF yf k s st).2) → R (.returned v) w') →
    SW Dg Try.prog (40 : FuncId) R (bodyOf Try.f40) Try.f40.ntmps E G [.code [0, 0, 1], .again [0, 1], .blk 0] (allL l bb i) (allK A pv q2 bb s st) := by
  intro k
  induction k with
  | zero =>
    intro i s st h0 h1 hk hI0 hR
    have hi : decide (i < 8) = false := by simp only [decide_eq_false_iff_not]; omega
    refine runY_sound Dg T_r21_Follow_ok (Y := yHook A pv q2 bb l I yf) (I := [2999998, 2999996]) mix 60 (f := (40 : FuncId)) (yHook_ok hY) (.inl ⟨rfl, Try.f40, Try.func40, rfl⟩) (Q := fun _ => True) (fun _ _ _ _ => trivial)
      (R' := fun v p K => K = allK A pv q2 bb s st) (fun v p K w h _ _ _ hS => hR v w (by rw [h] at hS; exact hS)) _ _ _ trivial ?_
    refine Tree.holds_imp (fun _ _ _ h => h) (fun td L K (h : False) => h.elim) ((all_tree (fun v p K => K = allK A pv q2 bb s st) (fun _ _ _ _ _ => False) s st i).mpr ⟨fun h => ?_, fun _ => rfl⟩)
    rw [hi] at h; cases h
  | succ k ih =>
    intro i s st h0 h1 hk hI0 hR
    have hi : i = 7 - k := by omega
    subst hi
    have hb := VS.get_bd s (cRoot (7 - k))
    refine runY_sound Dg T_r21_Follow_ok (Y := yHook A pv q2 bb l I yf) (I := [2999998, 2999996]) mix 60 (f := (40 : FuncId)) (yHook_ok hY) (.inl ⟨rfl, Try.f40, Try.func40, rfl⟩) (Q := fun _ => True) (fun _ _ _ _ => trivial)
      (R' := fun v p K => K = allK A pv q2 bb (allF yf (k + 1) s st).1 (allF yf (k + 1) s st).2) (fun v p K w h _ _ _ hS => hR v w (by rw [h] at hS; exact hS)) _ _ _ trivial ?_
    refine Tree.holds_imp (fun _ _ _ h => h) (fun td L K h => ?_) ((all_tree (fun v p K => K = allK A pv q2 bb (allF yf (k + 1) s st).1 (allF yf (k + 1) s st).2)
      (fun td e4 e0 e1 K => ∃ j s' st', td = [.again [0, 1], .blk 0] ∧ e4 = some ⟨4, none, .int .i64 j, .no⟩ ∧ e0 = some ⟨0, none, .func (.yield l) #[] #[], .no⟩ ∧ e1 = some ⟨1, none, .pointer (some ⟨bb, 0, none⟩), .pt 2 (.cell 0)⟩ ∧ K = allK A pv q2 bb s' st' ∧
        SW Dg Try.prog (40 : FuncId) R (bodyOf Try.f40) Try.f40.ntmps E G [.code [0, 0, 1], .again [0, 1], .blk 0] (allL l bb j) (allK A pv q2 bb s' st')) s st (7 - k)).mpr ?_)
    · obtain ⟨j, s', st', rfl, e4, e0, e1, rfl, hsw⟩ := h
      refine SW.sub Dg (SW.again Dg hsw) fun e he => ?_
      simp only [allL, List.mem_cons, List.not_mem_nil, or_false] at he
      rcases he with rfl | rfl | rfl
      · exact (look_mem e4).1
      · exact (look_mem e0).1
      · exact (look_mem e1).1
    · have one : ∀ a, a = place_Root (7 - k) → ∀ a1, a1 = (s.read a, s.get a) → aw_ (allN A pv q2 bb l I (.func (.yield l) #[] #[]) (.int .i64 (7 - k)) (.int .i64 (IntKind.i64.wrap a1.2)) (7 - k) (IntKind.i64.wrap a1.2) (allK A pv q2 bb a1.1 st) a1.1 st) (∀ a2, a2 = yf a1.1 st (7 - k) (IntKind.i64.wrap a1.2) →
          ((!a2.2.2) = true → allK A pv q2 bb a2.1 a2.2.1 = allK A pv q2 bb (allF yf (k + 1) s st).1 (allF yf (k + 1) s st).2) ∧
          ((!a2.2.2) = false → ∃ j s' st', [Ab.again [0, 1], .blk 0] = [.again [0, 1], .blk 0] ∧ some (⟨4, none, .int .i64 (IntKind.i64.wrap (7 - k + 1)), .no⟩ : Ent) = some ⟨4, none, .int .i64 j, .no⟩ ∧ some (⟨0, none, .func (.yield l) #[] #[], .no⟩ : Ent) = some ⟨0, none, .func (.yield l) #[] #[], .no⟩ ∧ some (⟨1, none, .pointer (some ⟨bb, 0, none⟩), .pt 2 (.cell 0)⟩ : Ent) = some ⟨1, none, .pointer (some ⟨bb, 0, none⟩), .pt 2 (.cell 0)⟩ ∧ allK A pv q2 bb a2.1 a2.2.1 = allK A pv q2 bb s' st' ∧
            SW Dg Try.prog (40 : FuncId) R (bodyOf Try.f40) Try.f40.ntmps E G [.code [0, 0, 1], .again [0, 1], .blk 0] (allL l bb j) (allK A pv q2 bb s' st'))) := by
        rintro a rfl a1 rfl
        refine ⟨⟨rfl, rfl, rfl, rfl, hI0⟩, fun _ a2 ha2 => ?_⟩
        simp only at ha2
        rw [place_Root_eq, w64 (n := s.get (cRoot (7 - k))) (by omega)] at ha2
        subst ha2
        rw [w64 (n := 7 - k + 1) (by omega)]
        refine ⟨fun h => ?_, fun h => ?_⟩
        · rw [allF, (Bool.not_eq_true' _).mp h]; rfl
        · have h := (Bool.not_eq_false' _).mp h
          refine ⟨7 - k + 1, _, _, rfl, rfl, rfl, rfl, rfl, ih (7 - k + 1) _ _ (by omega) (by omega) (by omega) (hI _ _ _ _ hI0 h) fun v w' hS => hR v w' ?_⟩
          rw [allF, h, cond_true]; exact hS
      exact ⟨fun _ => ⟨one, one⟩, fun h => by simp only [decide_eq_false_iff_not] at h; omega⟩
theorem all_begin (R' : Value → Pr → List (Chunk Sg) → Prop) (S0 : List Ab → Option Ent → Option Ent → Option Ent → List (Chunk Sg) → Prop) (s : VS) (st : List (List Int)) :
    (runY Try.prog T_r21_Follow (yHook A pv q2 bb l I yf) [2999998, 2999996] 60 (bodyOf Try.f40) Try.f40.results.toList Try.f40.ntmps [.code []] (argEnts 0 [(.func (.yield l) #[] #[], .no), (.pointer (some ⟨bb, 0, none⟩), .pt 2 (.cell 0))]) (allK A pv q2 bb s st)).holds R' (fun td L K => S0 td (Sl.look L 4) (Sl.look L 0) (Sl.look L 1) K) =
    S0 [.code [0, 1], .blk 0] (some ⟨4, none, .int .i64 0, .no⟩) (some ⟨0, none, .func (.yield l) #[] #[], .no⟩) (some ⟨1, none, .pointer (some ⟨bb, 0, none⟩), .pt 2 (.cell 0)⟩) (allK A pv q2 bb s st) := by
  kernel_rfl
theorem all_calls (hY : YOk E G A pv q2 bb l I yf) (hI : ∀ s st i x, I st → (yf s st i x).2.2 = true → I (yf s st i x).2.1) {R : Ending → World → Prop} {w : World} {s : VS} {st : List (List Int)} (hS : SatK Dg E G w (allK A pv q2 bb s st)) (hI0 : I st)
    (hR : ∀ v w', SatK Dg E G w' (allK A pv q2 bb (allF yf 8 s st).1 (allF yf 8 s st).2) → R (.returned v) w') :
    Calls Try.prog 40 #[.func (.yield l) #[] #[], .pointer (some ⟨bb, 0, none⟩)] w R := by
  refine calls_of_WT Try.func40 (c := bodyOf Try.f40) (by kernel_rfl) ?_
  have hgo := runY_sound Dg T_r21_Follow_ok (Y := yHook A pv q2 bb l I yf) (I := [2999998, 2999996]) mix 60 (f := (40 : FuncId)) (rs := Try.f40.results.toList) (B := bodyOf Try.f40) (R := R) (n := Try.f40.ntmps) (E := E) (G := G) (yHook_ok hY) (.inl ⟨rfl, Try.f40, Try.func40, rfl⟩) (Q := fun _ => True) (fun _ _ _ _ => trivial)
    (R' := fun _ _ _ => False) (fun _ _ _ _ h => h.elim) [.code []] (argEnts 0 [(.func (.yield l) #[] #[], .no), (.pointer (some ⟨bb, 0, none⟩), .pt 2 (.cell 0))]) (allK A pv q2 bb s st) trivial ?_
  · exact hgo _ w (Fr.start (n := Try.f40.ntmps) [(.func (.yield l) #[] #[], .no), (.pointer (some ⟨bb, 0, none⟩), .pt 2 (.cell 0))] (Nat.le_of_ble_eq_true (by kernel_rfl)) (fun x hx => by
      simp only [List.mem_cons, List.not_mem_nil, or_false] at hx
      rcases hx with rfl | rfl
      · exact pOk_no
      · exact (pOk_pt).2 ⟨_, rfl, rfl⟩) (all_kok s st)) hS
  · refine Tree.holds_imp (fun _ _ _ h => h) (fun td L K h => ?_) ((all_begin (fun _ _ _ => False)
      (fun td e4 e0 e1 K => td = [.code [0, 1], .blk 0] ∧ e4 = some ⟨4, none, .int .i64 0, .no⟩ ∧ e0 = some ⟨0, none, .func (.yield l) #[] #[], .no⟩ ∧ e1 = some ⟨1, none, .pointer (some ⟨bb, 0, none⟩), .pt 2 (.cell 0)⟩ ∧ K = allK A pv q2 bb s st) s st).mpr ⟨rfl, rfl, rfl, rfl, rfl⟩)
    obtain ⟨rfl, e4, e0, e1, rfl⟩ := h
    refine SW.sub Dg (L' := allL l bb 0) (SW.enter Dg (by kernel_rfl) ?_) fun e he => ?_
    · exact all_sw hY hI 8 0 s st (by omega) (by omega) rfl hI0 hR
    · simp only [allL, List.mem_cons, List.not_mem_nil, or_false] at he
      rcases he with rfl | rfl | rfl
      · exact (look_mem e4).1
      · exact (look_mem e0).1
      · exact (look_mem e1).1
end
def ptC (b : Nat) (x : Obj) : Chunk Sg := .obj ⟨0, 0, none⟩ (.any (fun _ => pt b x) [])
abbrev bbC (p0 : Addr) (bb : Nat) : Chunk Sg := .cells bb 27 [(.pointer (some p0), .pt 0 .obj)]
abbrev kx (p0 : Addr) (bb Dm l : Nat) (bx : List (Chunk Sg)) (s : VS) (o1 o2 : Obj) : List (Chunk Sg) := (.obj p0 (.view s) :: bx) ++ [bbC p0 bb, ptC Dm o1, ptC l o2]
def recB (fn : FuncId) (tmps : Array Value) (ps : Array Tmp) (assign body : Code) (D : Nat) (d : Bool) : Loop := recOf fn tmps ps assign body D (bif d then .done else .ready) (bif d then some .ret else none)
theorem all_enters (args : Array Value) (w : World) : (callFunc 40 args).run Try.prog w = .ok (.enter 40 args) w :=
  callable_run (by kernel_rfl) args w
theorem all_range {f : FuncId} {R : Ending → World → Prop} {B : Code} {n : Nat} {E : World} {G : Hp} {p : List Nat} {t p1 p2 : Nat} {td : List Ab} {L L' : List Ent} {pr : Pr} {p0 : Addr} {bb : Nat} {yf : Yf} {bx : List (List Int) → List (Chunk Sg)} {pe : List (List Int) → Bool} {s0 : VS} {st0 : List (List Int)} {isP isU : List Nat}
    (hc : Sl.sub B p = .rangeFunc (.tmp t) #[p1, p2] (Sl.sub B (0 :: p)) (Sl.sub B (1 :: p))) (hL : (⟨t, none, .func (.func 40) #[] #[.pointer (some ⟨bb, 0, none⟩)], pr⟩ : Ent) ∈ L)
    (h1 : p1 < n) (h2 : p2 < n) (hne : p1 ≠ p2) (hL' : ∀ e ∈ L', e.g = none ∧ e.s ≠ p1 ∧ e.s ≠ p2 ∧ e ∈ L) (hp0 : pe st0 = false) (hpe : ∀ s st i x, pe st = false → pe (yf s st i x).2.1 = !(yf s st i x).2.2)
    (hX : ∀ s st Dm l o1 o2, KExt ((.obj p0 (.view s0) :: bx st0) ++ [bbC p0 bb]) (kx p0 bb Dm l (bx st) s o1 o2) ∧ KOk (kx p0 bb Dm l (bx st) s o1 o2))
    (nP : nodupB isP = true) (hP : ∀ s st Dm l o1 o2, (([ptC Dm o1, ptC l o2] ++ bx st) ++ [.obj p0 (.view s), bbC p0 bb]).map some = isP.map fun j => (kx p0 bb Dm l (bx st) s o1 o2)[j]?)
    (nU : nodupB isU = true) (hU : ∀ s st Dm l o1 o2, (kx p0 bb Dm l (bx st) s o1 o2).map some = isU.map fun j => ([Chunk.obj p0 (.view s), ptC Dm o1, bbC p0 bb] ++ (ptC l o2 :: bx st))[j]?)
    (hround : ∀ (tmps : Array Value) Dm l s st i x, pe st = false → ∀ Rr : Ending → World → Prop, (∀ w', SatK Dg E G w' (kx p0 bb Dm l (bx (yf s st i x).2.1) (yf s st i x).1 (.deferred (some [])) (.loop (recB f tmps #[p1, p2] (Sl.sub B (0 :: p)) (Sl.sub B (1 :: p)) Dm (!(yf s st i x).2.2)))) → Rr (.returned (.bool (yf s st i x).2.2)) w') →
      SW Dg Try.prog ⟨f, some l, []⟩ Rr B n E G [.code (0 :: p), .raw .beginRound, .code (1 :: p)] (⟨p1, none, .int .i64 i, .no⟩ :: ⟨p2, none, .int .i64 x, .no⟩ :: L') (kx p0 bb Dm l (bx st) s (.deferred (some [])) (.loop (recB f tmps #[p1, p2] (Sl.sub B (0 :: p)) (Sl.sub B (1 :: p)) Dm false))))
    (hafter : ∀ Dm l o2, SW Dg Try.prog ⟨f, none, [Sl.mark Dm]⟩ R B n E G ((bif pe (allF yf 8 s0 st0).2 then [.raw (.code .ret)] else []) ++ td) L (kx p0 bb Dm l (bx (allF yf 8 s0 st0).2) (allF yf 8 s0 st0).1 (.deferred (some [])) o2)) :
    SW Dg Try.prog f R B n E G (.code p :: td) L ((.obj p0 (.view s0) :: bx st0) ++ [bbC p0 bb]) := by
  refine SW.rangeFunc Dg hc hL all_enters fun a w hF hS => ?_
  generalize hDm : w.heap.size = Dm at hS ⊢
  generalize hl : Dm + 1 = l at hS ⊢
  generalize rfWorld w f a.tmps #[p1, p2] (Sl.sub B (0 :: p)) (Sl.sub B (1 :: p)) = w1 at hS ⊢
  have hS1 : SatK Dg E G w1 (kx p0 bb Dm l (bx st0) s0 (.deferred (some [])) (.loop (recB f a.tmps #[p1, p2] (Sl.sub B (0 :: p)) (Sl.sub B (1 :: p)) Dm (pe st0)))) := by
    rw [hp0]
    have e : kx p0 bb Dm l (bx st0) s0 (.deferred (some [])) (.loop (recB f a.tmps #[p1, p2] (Sl.sub B (0 :: p)) (Sl.sub B (1 :: p)) Dm false)) = ((.obj p0 (.view s0) :: bx st0) ++ [bbC p0 bb]) ++ [ptC Dm (.deferred (some [])), ptC l (.loop (recB f a.tmps #[p1, p2] (Sl.sub B (0 :: p)) (Sl.sub B (1 :: p)) Dm false))] := by
      simp only [kx, List.append_assoc, List.cons_append, List.nil_append]
    unfold SatK
    rw [e, List.map_append]
    exact hS
  let rc : List (List Int) → Obj := fun st => .loop (recB f a.tmps #[p1, p2] (Sl.sub B (0 :: p)) (Sl.sub B (1 :: p)) Dm (pe st))
  let A : List (List Int) → Asn := fun st => star (([ptC Dm (.deferred (some [])), ptC l (rc st)] ++ bx st).map (den Dg G))
  have pack : ∀ w s st, SatK Dg E G w (kx p0 bb Dm l (bx st) s (.deferred (some [])) (rc st)) → SatK Dg E G w (allK A p0 ⟨0, 0, none⟩ bb s st) := fun w s st h =>
    SatK.order Dg (SatK.pack Dg (c := .obj ⟨0, 0, none⟩ (.any A st)) (h.order Dg isP nP (hP s st Dm l _ _)) rfl) [1, 0, 2] rfl rfl
  have unpack : ∀ w s st, SatK Dg E G w (allK A p0 ⟨0, 0, none⟩ bb s st) → SatK Dg E G w (kx p0 bb Dm l (bx st) s (.deferred (some [])) (rc st)) := fun w s st h =>
    SatK.order Dg (SatK.unpack Dg (k0 := ptC Dm (.deferred (some []))) (ks := ptC l (rc st) :: bx st) h (k := 1) (c := .obj ⟨0, 0, none⟩ (.any A st)) rfl rfl) isU nU (hU s st Dm l _ _)
  have recAt : ∀ w s st, SatK Dg E G w (kx p0 bb Dm l (bx st) s (.deferred (some [])) (rc st)) → w.heap[l]? = some (rc st) := fun w s st h =>
    SatK.objPt Dg (q := ⟨0, 0, none⟩) (s := .any (fun _ => pt l (rc st)) []) h (j := (bx st).length + 3) (by simp only [kx, List.cons_append, List.getElem?_cons_succ]; rw [List.getElem?_append_right (by omega), show (bx st).length + 2 - (bx st).length = 2 by omega]; rfl) rfl
  have hY : YOk E G A p0 ⟨0, 0, none⟩ bb l (fun st => pe st = false) yf := by
    intro s st i x hst w2 hS2
    have h3 := unpack _ _ _ hS2
    have h4 := recAt _ _ _ h3
    simp only [rc, hst] at h3 h4
    refine ycalls_sw Dg (L' := L') (p := p) (Dm := Dm) (f := f) (v1 := .int .i64 i) (v2 := .int .i64 x) hF (hX s st Dm l _ _).1 (hX s st Dm l _ _).2 h1 h2 hne hL' h4 h3 ?_
    refine hround a.tmps Dm l s st i x hst _ fun w' h5 => ⟨rfl, pack _ _ _ ?_⟩
    simp only [rc, hpe s st i x hst]
    exact h5
  have hq := all_calls (bb := bb) hY (fun s st i x hst hg => by rw [hpe s st i x hst, hg]; rfl) (pack _ _ _ hS1) hp0 (R := fun e w3 => (∃ v, e = .returned v) ∧ SatK Dg E G w3 (allK A p0 ⟨0, 0, none⟩ bb (allF yf 8 s0 st0).1 (allF yf 8 s0 st0).2)) fun v w' h => ⟨⟨v, rfl⟩, h⟩
  refine hq.mono fun e w3 ⟨hv, h6⟩ => ⟨hv, ?_⟩
  have h7 := unpack _ _ _ h6
  have h8 := recAt _ _ _ h7
  refine ⟨_, _, h8, ?_, rfl, ?_⟩
  · cases hd : pe (allF yf 8 s0 st0).2 <;> simp [recB, recOf, hd]
  · have h9 := SatK.putObj Dg (q := ⟨0, 0, none⟩) (s := .any (fun _ => pt l (rc (allF yf 8 s0 st0).2)) []) (l := l) (x := rc (allF yf 8 s0 st0).2) (y := .loop { recB f a.tmps #[p1, p2] (Sl.sub B (0 :: p)) (Sl.sub B (1 :: p)) Dm (pe (allF yf 8 s0 st0).2) with state := .exhausted }) (s' := .any (fun _ => pt l (.loop { recB f a.tmps #[p1, p2] (Sl.sub B (0 :: p)) (Sl.sub B (1 :: p)) Dm (pe (allF yf 8 s0 st0).2) with state := .exhausted })) []) h7 (j := (bx (allF yf 8 s0 st0).2).length + 3) (by simp only [kx, List.cons_append, List.getElem?_cons_succ]; rw [List.getElem?_append_right (by omega), show (bx (allF yf 8 s0 st0).2).length + 2 - (bx (allF yf 8 s0 st0).2).length = 2 by omega]; rfl) rfl rfl
    have e : (kx p0 bb Dm l (bx (allF yf 8 s0 st0).2) (allF yf 8 s0 st0).1 (.deferred (some [])) (rc (allF yf 8 s0 st0).2)).set ((bx (allF yf 8 s0 st0).2).length + 3) (.obj ⟨0, 0, none⟩ (.any (fun _ => pt l (.loop { recB f a.tmps #[p1, p2] (Sl.sub B (0 :: p)) (Sl.sub B (1 :: p)) Dm (pe (allF yf 8 s0 st0).2) with state := .exhausted })) [])) = kx p0 bb Dm l (bx (allF yf 8 s0 st0).2) (allF yf 8 s0 st0).1 (.deferred (some [])) (.loop { recB f a.tmps #[p1, p2] (Sl.sub B (0 :: p)) (Sl.sub B (1 :: p)) Dm (pe (allF yf 8 s0 st0).2) with state := .exhausted }) := by
      simp only [kx, List.cons_append, List.set_cons_succ]
      rw [List.set_append_right _ _ (by omega), show (bx (allF yf 8 s0 st0).2).length + 2 - (bx (allF yf 8 s0 st0).2).length = 2 by omega]; rfl
    rw [e] at h9
    have h10 := hafter Dm l (.loop { recB f a.tmps #[p1, p2] (Sl.sub B (0 :: p)) (Sl.sub B (1 :: p)) Dm (pe (allF yf 8 s0 st0).2) with state := .exhausted }) a _ (hF.ext (hX _ _ _ _ _ _).1 (hX _ _ _ _ _ _).2) h9
    cases hd : pe (allF yf 8 s0 st0).2 with
    | true => rw [hd] at h10; exact h10
    | false => rw [hd] at h10; exact h10
end Go.Proofs.Ytpkjjebkpcmkeaa
namespace Go.Proofs.Ytpkjjebkpcmkeaa
open Go Go.Sl
def root_Held (s : VS) (b : Int) : VS × Bool := (pRHeld b).run s
abbrev c_root_Held : Ct Sg := ⟨some wView, false, [.i .i64], .b⟩
def e_root_Held : Entry Sg := entC c_root_Held root_Held (fun _ _ => [])
def hK0 (p0 : Addr) (b0 b1 b3 : Nat) (b : Int) (s : VS) (d : Bool) : List (Chunk Sg) := [.obj p0 (.view s), .cells b0 2 [(.int .i64 b, .no)], .cells b1 4 [(.bool d, .no)], .cells b3 27 [(.pointer (some p0), .pt 0 .obj)]]
abbrev bxE (t b k : Nat) : Ent := ⟨t, none, .pointer (some ⟨b, 0, none⟩), .pt k (.cell 0)⟩
def hE (b3 : Nat) : Ent := ⟨10, none, .func (.func 40) #[] #[.pointer (some ⟨b3, 0, none⟩)], .many [.pt 3 (.cell 0)]⟩
theorem held_begin (R' : Value → Pr → List (Chunk Sg) → Prop) (S0 : List Ab → Option Ent → Option Ent → Option Ent → List (Chunk Sg) → Prop) (p0 : Addr) (s : VS) (b : Int) (ad : Nat → Ad) :
    (c_root_Held.tree Try.prog T_r21_Follow [2999998, 28] 60 Try.f10 (bodyOf Try.f10) p0 [.st (.view s), .i b] ad).holds R' (fun td L K => S0 td (Sl.look L 10) (Sl.look L 4) (Sl.look L 3) K) =
    ∀ b0 b1 : Nat, (decide (b < 1) = true → R' (.bool false) .no [.obj p0 (.view s), .cells b0 2 [(.int .i64 b, .no)], .cells b1 4 [(.bool false, .no)]]) ∧
      (decide (b < 1) = false → ∀ b3 : Nat, S0 [.code [0, 1, 0, 1, 1], .blk 0, .code [1, 1, 1]] (some (hE b3)) (some (bxE 4 b1 2)) (some (bxE 3 b0 1)) (hK0 p0 b0 b1 b3 b s false)) := by
  kernel_rfl
def pe1 (st : List (List Int)) : Bool := (st.headD []).headD 0 == 1
def hB (b0 b1 : Nat) (b : Int) (st : List (List Int)) : List (Chunk Sg) := [.cells b0 2 [(.int .i64 b, .no)], .cells b1 4 [(.bool (pe1 st), .no)]]
def hY (b : Int) : Yf := fun s _ _ x => bif x == b then (s, [[1]], false) else (s, [[0]], true)
abbrev hL (b0 b1 : Nat) : List Ent := [bxE 4 b1 2, bxE 3 b0 1]
theorem held_r1 (R' : Value → Pr → List (Chunk Sg) → Prop) (S0 : List Ab → Option Ent → Option Ent → Option Ent → List (Chunk Sg) → Prop) (p0 : Addr) (b0 b1 b3 Dm l : Nat) (s : VS) (b i x : Int) (st : List (List Int)) (o1 o2 : Obj) :
    (run Try.prog T_r21_Follow [2999998, 2999997] 60 (bodyOf Try.f10) [.cell 0 1000000] Try.f10.ntmps [.code [0, 0, 1, 0, 1, 1], .raw .beginRound, .code [1, 0, 1, 0, 1, 1]] (⟨11, none, .int .i64 i, .no⟩ :: ⟨12, none, .int .i64 x, .no⟩ :: hL b0 b1) (kx p0 b3 Dm l (hB b0 b1 b st) s o1 o2)).holds R' (fun td L K => S0 td (Sl.look L 6) (Sl.look L 4) (Sl.look L 3) K) =
    S0 [.raw .beginRound, .code [1, 0, 1, 0, 1, 1]] (some ⟨6, none, .int .i64 x, .no⟩) (some (bxE 4 b1 2)) (some (bxE 3 b0 1)) (kx p0 b3 Dm l (hB b0 b1 b st) s o1 o2) := by
  kernel_rfl
theorem held_r2 (R' : Value → Pr → List (Chunk Sg) → Prop) (S0 : List Ab → List (Chunk Sg) → Prop) (p0 : Addr) (b0 b1 b3 Dm l : Nat) (s : VS) (b x : Int) (st : List (List Int)) (o1 o2 : Obj) :
    (run Try.prog T_r21_Follow [2999998, 2999997] 60 (bodyOf Try.f10) [.cell 0 1000000] Try.f10.ntmps [.code [1, 0, 1, 0, 1, 1]] (⟨6, none, .int .i64 x, .no⟩ :: hL b0 b1) (kx p0 b3 Dm l (hB b0 b1 b st) s o1 o2)).holds R' (fun td L K => S0 td K) =
    (((x == b) = true → S0 [.code [1, 0, 1, 0, 1, 0, 1, 0, 1, 1], .blk 1] (kx p0 b3 Dm l (hB b0 b1 b [[1]]) s o1 o2)) ∧ ((x == b) = false → S0 [] (kx p0 b3 Dm l (hB b0 b1 b st) s o1 o2))) := by
  kernel_rfl
theorem held_end (R' : Value → Pr → List (Chunk Sg) → Prop) (S0 : List Ab → Option Ent → List (Chunk Sg) → Prop) (p0 : Addr) (b0 b1 b3 Dm l : Nat) (s : VS) (b : Int) (st : List (List Int)) (o1 o2 : Obj) :
    (run Try.prog T_r21_Follow [2999998, 2999997] 60 (bodyOf Try.f10) [.cell 0 1000000] Try.f10.ntmps [.blk 0, .code [1, 1, 1]] (hE b3 :: hL b0 b1) (kx p0 b3 Dm l (hB b0 b1 b st) s o1 o2)).holds R' (fun td L K => S0 td (Sl.look L 4) K) =
    S0 [.code [1, 1, 1, 1]] (some (bxE 4 b1 2)) (kx p0 b3 Dm l (hB b0 b1 b [[0]]) s o1 o2) := by
  kernel_rfl
theorem never (L : List Ent) (K : List (Chunk Sg)) : resVals Try.prog L K [.cell 0 1000000] = none := resVals_never (by kernel_rfl) L K
theorem piece {T : Tb} (hT : TOk T) {f : Fq} {R : Ending → World → Prop} {B : Code} {n : Nat} {E : World} {G : Hp} {td : List Ab} {L : List Ent} {K : List (Chunk Sg)} (fuel : Nat)
    (h : (run Try.prog T [2999998, 2999997] fuel B [.cell 0 1000000] n td L K).holds (fun _ _ _ => False) (SW Dg Try.prog f R B n E G)) : SW Dg Try.prog f R B n E G td L K :=
  run_sound Dg hT mix fuel (.inr ⟨rfl, never⟩) (Q := fun _ => True) (fun _ _ _ _ => trivial) (R' := fun _ _ _ => False) (fun _ _ _ _ h => h.elim) _ _ _ trivial h
theorem hX (p0 : Addr) (b0 b1 b3 : Nat) (b : Int) (s0 s : VS) (st0 st : List (List Int)) (Dm l : Nat) (o1 o2 : Obj) : KExt ((.obj p0 (.view s0) :: hB b0 b1 b st0) ++ [bbC p0 b3]) (kx p0 b3 Dm l (hB b0 b1 b st) s o1 o2) ∧ KOk (kx p0 b3 Dm l (hB b0 b1 b st) s o1 o2) := by
  refine ⟨?_, KOk_all (by simp [kx, hB, bbC, ptC, cellsAll, psOk, pOk, cOk])⟩
  have x1 : KExt ((.obj p0 (.view s0) :: hB b0 b1 b st0) ++ [bbC p0 b3]) (((.obj p0 (.view s0) :: hB b0 b1 b st0) ++ [bbC p0 b3]).set 0 (.obj p0 (.view s))) := KExt.setObj rfl
  have x2 : KExt (((.obj p0 (.view s0) :: hB b0 b1 b st0) ++ [bbC p0 b3]).set 0 (.obj p0 (.view s))) ((((.obj p0 (.view s0) :: hB b0 b1 b st0) ++ [bbC p0 b3]).set 0 (.obj p0 (.view s))).set 2 (.cells b1 4 [(.bool (pe1 st), .no)])) := KExt.set rfl fun v pk h => by cases pk <;> first | exact h | exact h.elim
  exact (x1.trans x2).trans (KExt.append _ [ptC Dm o1, ptC l o2])
theorem mem3 {a b c : Ent} {L : List Ent} (ha : a ∈ L) (hb : b ∈ L) (hc : c ∈ L) : ∀ e ∈ [a, b, c], e ∈ L := fun e he => by
  simp only [List.mem_cons, List.not_mem_nil, or_false] at he
  rcases he with rfl | rfl | rfl <;> assumption
theorem held_round {E : World} {G : Hp} {p0 : Addr} {b0 b1 b3 : Nat} {b : Int} (tmps : Array Value) (Dm l : Nat) (s : VS) (st : List (List Int)) (i x : Int) (hst : pe1 st = false) (Rr : Ending → World → Prop)
    (H : ∀ w', SatK Dg E G w' (kx p0 b3 Dm l (hB b0 b1 b (hY b s st i x).2.1) (hY b s st i x).1 (.deferred (some [])) (.loop (recB 10 tmps #[11, 12] (Sl.sub (bodyOf Try.f10) [0, 0, 1, 0, 1, 1]) (Sl.sub (bodyOf Try.f10) [1, 0, 1, 0, 1, 1]) Dm (!(hY b s st i x).2.2)))) → Rr (.returned (.bool (hY b s st i x).2.2)) w') :
    SW Dg Try.prog ⟨10, some l, []⟩ Rr (bodyOf Try.f10) Try.f10.ntmps E G [.code [0, 0, 1, 0, 1, 1], .raw .beginRound, .code [1, 0, 1, 0, 1, 1]] (⟨11, none, .int .i64 i, .no⟩ :: ⟨12, none, .int .i64 x, .no⟩ :: hL b0 b1)
      (kx p0 b3 Dm l (hB b0 b1 b st) s (.deferred (some [])) (.loop (recB 10 tmps #[11, 12] (Sl.sub (bodyOf Try.f10) [0, 0, 1, 0, 1, 1]) (Sl.sub (bodyOf Try.f10) [1, 0, 1, 0, 1, 1]) Dm false))) := by
  refine piece T_r21_Follow_ok 60 (Tree.holds_imp (fun _ _ _ h => h) (fun td L K h => ?_) ((held_r1 (fun _ _ _ => False) (fun td e6 e4 e3 K => td = [.raw .beginRound, .code [1, 0, 1, 0, 1, 1]] ∧ e6 = some ⟨6, none, .int .i64 x, .no⟩ ∧ e4 = some (bxE 4 b1 2) ∧ e3 = some (bxE 3 b0 1) ∧
    K = kx p0 b3 Dm l (hB b0 b1 b st) s (.deferred (some [])) (.loop (recB 10 tmps #[11, 12] (Sl.sub (bodyOf Try.f10) [0, 0, 1, 0, 1, 1]) (Sl.sub (bodyOf Try.f10) [1, 0, 1, 0, 1, 1]) Dm false))) p0 b0 b1 b3 Dm l s b i x st _ _).mpr ⟨rfl, rfl, rfl, rfl, rfl⟩))
  obtain ⟨rfl, e6, e4, e3, rfl⟩ := h
  refine SW.sub Dg (L' := ⟨6, none, .int .i64 x, .no⟩ :: hL b0 b1) ?_ (mem3 (look_mem e6).1 (look_mem e4).1 (look_mem e3).1)
  refine SW.busy Dg (f := ⟨10, some l, []⟩) (l := l) (j := 5) (s' := .any (fun _ => pt l (.loop { recB 10 tmps #[11, 12] (Sl.sub (bodyOf Try.f10) [0, 0, 1, 0, 1, 1]) (Sl.sub (bodyOf Try.f10) [1, 0, 1, 0, 1, 1]) Dm false with state := .busy })) []) rfl rfl rfl rfl rfl ?_
  refine piece T_r21_Follow_ok 60 (Tree.holds_imp (fun _ _ _ h => h) (fun td L K (h : ∀ L, SW Dg Try.prog ⟨10, some l, []⟩ Rr (bodyOf Try.f10) Try.f10.ntmps E G td L K) => h L) ((held_r2 (fun _ _ _ => False) (fun td K => ∀ L, SW Dg Try.prog ⟨10, some l, []⟩ Rr (bodyOf Try.f10) Try.f10.ntmps E G td L K) p0 b0 b1 b3 Dm l s b x st
    (.deferred (some [])) (.loop { recB 10 tmps #[11, 12] (Sl.sub (bodyOf Try.f10) [0, 0, 1, 0, 1, 1]) (Sl.sub (bodyOf Try.f10) [1, 0, 1, 0, 1, 1]) Dm false with state := .busy })).mpr ⟨fun hc L => ?_, fun hc L => ?_⟩))
  · refine SW.off Dg (f := ⟨10, some l, []⟩) (l := l) (j := 5) (q := ⟨0, 0, none⟩) (s := .any (fun _ => pt l (.loop { recB 10 tmps #[11, 12] (Sl.sub (bodyOf Try.f10) [0, 0, 1, 0, 1, 1]) (Sl.sub (bodyOf Try.f10) [1, 0, 1, 0, 1, 1]) Dm false with state := .busy })) [])
      (s' := .any (fun _ => pt l (.loop (recB 10 tmps #[11, 12] (Sl.sub (bodyOf Try.f10) [0, 0, 1, 0, 1, 1]) (Sl.sub (bodyOf Try.f10) [1, 0, 1, 0, 1, 1]) Dm true))) []) rfl (by kernel_rfl) rfl rfl rfl fun w' _ hS => ?_
    have e : hY b s st i x = (s, [[1]], false) := by unfold hY; rw [hc]; rfl
    rw [e] at H
    exact H w' hS
  · refine SW.on Dg (f := ⟨10, some l, []⟩) (l := l) (j := 5) (q := ⟨0, 0, none⟩) (s := .any (fun _ => pt l (.loop { recB 10 tmps #[11, 12] (Sl.sub (bodyOf Try.f10) [0, 0, 1, 0, 1, 1]) (Sl.sub (bodyOf Try.f10) [1, 0, 1, 0, 1, 1]) Dm false with state := .busy })) [])
      (s' := .any (fun _ => pt l (.loop (recB 10 tmps #[11, 12] (Sl.sub (bodyOf Try.f10) [0, 0, 1, 0, 1, 1]) (Sl.sub (bodyOf Try.f10) [1, 0, 1, 0, 1, 1]) Dm false))) []) rfl rfl rfl rfl fun w' _ hS => ?_
    have e : hY b s st i x = (s, [[0]], true) := by unfold hY; rw [hc]; rfl
    rw [e] at H
    refine H w' ?_
    have e2 : hB b0 b1 b [[0]] = hB b0 b1 b st := by unfold hB; rw [hst]; rfl
    show SatK Dg E G w' (kx p0 b3 Dm l (hB b0 b1 b [[0]]) s _ _)
    rw [e2]
    exact hS
theorem allF_held (b : Int) : ∀ (k : Nat) (s : VS), allF (hY b) k s [[0]] = (((hldF b k).run s).1, [[bif ((hldF b k).run s).2 then 1 else 0]])
  | 0, s => rfl
  | k + 1, s => by
    rw [allF, hldF, Pg.run_get]
    cases hc : s.get (cRoot (7 - k)) == b with
    | true => simp only [hY, hc, cond_true, cond_false]; rfl
    | false => simp only [hY, hc, cond_true, cond_false]; exact allF_held b k _
theorem root_Held_ok : EOk 10 e_root_Held := by
  refine ent_of Dg T_r21_Follow_ok (I := [2999998, 28]) Try.func10 mix (B := (bodyOf Try.f10)) (by kernel_rfl) rfl (by kernel_rfl) 60 fun p0 s b _ _ ad E G => ?_
  refine Tree.holds_imp (fun _ _ _ h => h) (fun td L K h => ?_) ((held_begin _ (fun td e10 e4 e3 K => ∃ b0 b1 b3, decide (b < 1) = false ∧ td = [.code [0, 1, 0, 1, 1], .blk 0, .code [1, 1, 1]] ∧ e10 = some (hE b3) ∧ e4 = some (bxE 4 b1 2) ∧ e3 = some (bxE 3 b0 1) ∧ K = hK0 p0 b0 b1 b3 b s false) p0 s b ad).mpr fun b0 b1 => ⟨fun hb => ?_, fun hb b3 => ⟨b0, b1, b3, hb, rfl, rfl, rfl, rfl, rfl⟩⟩)
  · obtain ⟨b0, b1, b3, hb, rfl, e10, e4, e3, rfl⟩ := h
    refine SW.sub Dg (L' := hE b3 :: hL b0 b1) ?_ (mem3 (look_mem e10).1 (look_mem e4).1 (look_mem e3).1)
    refine all_range (yf := hY b) (bx := hB b0 b1 b) (pe := pe1) (st0 := [[0]]) (isP := [4, 5, 1, 2, 0, 3]) (isU := [0, 4, 5, 2, 1, 3]) (L' := hL b0 b1) (pr := .many [.pt 3 (.cell 0)]) (t := 10) (p1 := 11) (p2 := 12) (by kernel_rfl) (by simp [hE]) (Nat.le_of_ble_eq_true (by kernel_rfl)) (Nat.le_of_ble_eq_true (by kernel_rfl)) (by decide) (by simp [hL, hE]) rfl
      (fun s st i x hst => ?_) (fun s' st Dm l o1 o2 => hX p0 b0 b1 b3 b s s' [[0]] st Dm l o1 o2) rfl (fun _ _ _ _ _ _ => rfl) rfl (fun _ _ _ _ _ _ => rfl) (fun tmps Dm l s st i x hst Rr H => held_round tmps Dm l s st i x hst Rr H) fun Dm l o2 => ?_
    · unfold hY; cases x == b <;> rfl
    · have hr : (pRHeld b).run s = (hldF b 8).run s := by rw [pRHeld, hb]; rfl
      rw [allF_held b 8 s]
      cases hd : (hldF b 8).run s with
      | mk s1 d =>
      rw [hd] at hr
      cases d with
      | true =>
        refine SW.finish_mark Dg (f := ⟨10, none, [Sl.mark Dm]⟩) (Dm := Dm) (j := 4) (q := ⟨0, 0, none⟩) (s := .any (fun _ => pt Dm (.deferred (some []))) []) (s' := .any (fun _ => pt Dm (.deferred none)) []) (vs := [(.bool true, .no)]) rfl rfl Try.func10 (.inr ⟨_, rfl⟩) rfl rfl rfl (by kernel_rfl) fun w' hS => RetOk.post Dg (p := .no) ?_ hS
        show RetOk (c_root_Held.outC ((pRHeld b).run s)) (c_root_Held.nwC p0 [.st (.view s), .i b] ((pRHeld b).run s)) (c_root_Held.mksC ((pRHeld b).run s)) _ _ _
        rw [hr]
        exact ⟨[], [0], by decide, rfl, rfl, .inl rfl, trivial⟩
      | false =>
        refine piece T_r21_Follow_ok 60 (Tree.holds_imp (fun _ _ _ h => h) (fun td L K h => ?_) ((held_end (fun _ _ _ => False) (fun td e4 K => td = [.code [1, 1, 1, 1]] ∧ e4 = some (bxE 4 b1 2) ∧ K = kx p0 b3 Dm l (hB b0 b1 b [[0]]) s1 (.deferred (some [])) o2) p0 b0 b1 b3 Dm l s1 b [[0]] _ _).mpr ⟨rfl, rfl, rfl⟩))
        obtain ⟨rfl, e4, rfl⟩ := h
        refine SW.sub Dg (L' := [bxE 4 b1 2]) ?_ (fun e he => by simp only [List.mem_cons, List.not_mem_nil, or_false] at he; rw [he]; exact (look_mem e4).1)
        refine SW.finish_mark Dg (f := ⟨10, none, [Sl.mark Dm]⟩) (Dm := Dm) (j := 4) (q := ⟨0, 0, none⟩) (s := .any (fun _ => pt Dm (.deferred (some []))) []) (s' := .any (fun _ => pt Dm (.deferred none)) []) (vs := [(.bool false, .no)]) rfl rfl Try.func10 (.inr ⟨[], by kernel_rfl⟩) rfl rfl rfl (by kernel_rfl) fun w' hS => RetOk.post Dg (p := .no) ?_ hS
        show RetOk (c_root_Held.outC ((pRHeld b).run s)) (c_root_Held.nwC p0 [.st (.view s), .i b] ((pRHeld b).run s)) (c_root_Held.mksC ((pRHeld b).run s)) _ _ _
        rw [hr]
        exact ⟨[], [0], by decide, rfl, rfl, .inl rfl, trivial⟩
  · show RetOk (c_root_Held.outC ((pRHeld b).run s)) (c_root_Held.nwC p0 [.st (.view s), .i b] ((pRHeld b).run s)) (c_root_Held.mksC ((pRHeld b).run s)) _ _ _
    have hr : (pRHeld b).run s = (s, false) := by rw [pRHeld, hb]; rfl
    rw [hr]
    exact ⟨[], [0], by decide, rfl, rfl, .inl rfl, trivial⟩
def T_root_Held : Tb := (10, e_root_Held) :: T_r21_Follow
theorem T_root_Held_ok : TOk T_root_Held := tc_ root_Held_ok T_r21_Follow_ok
def root_Follow (s : VS) (b c : Int) : VS := ((pRFollow b c).run s).1
abbrev c_root_Follow : Ct Sg := ⟨some wView, false, [.i .i64, .i .i64], .skip⟩
def e_root_Follow : Entry Sg := entC c_root_Follow root_Follow (fun _ _ _ => [])
def fB (p0 : Addr) (b0 b1 b2 : Nat) (b c : Int) (_ : List (List Int)) : List (Chunk Sg) := [.cells b0 27 [(.pointer (some p0), .pt 0 .obj)], .cells b1 2 [(.int .i64 b, .no)], .cells b2 2 [(.int .i64 c, .no)]]
abbrev fL (b0 b1 b2 : Nat) : List Ent := [bxE 3 b0 1, bxE 4 b1 2, bxE 5 b2 3]
def fE (b3 : Nat) : Ent := ⟨25, none, .func (.func 40) #[] #[.pointer (some ⟨b3, 0, none⟩)], .many [.pt 4 (.cell 0)]⟩
def fY (b c : Int) : Yf := fun s st i x => (bif x == b then (root_Set s i c).1 else s, st, true)
def fQ (b c : Int) : Bool := decide (b < 1) || decide (c < 1) || !root_goes b || !root_goes c
theorem follow_begin (R' : Value → Pr → List (Chunk Sg) → Prop) (S0 : List Ab → Option Ent → Option Ent → Option Ent → Option Ent → List (Chunk Sg) → Prop) (p0 : Addr) (s : VS) (b c : Int) (ad : Nat → Ad) :
    (c_root_Follow.tree Try.prog T_r21_Follow [2999998, 28] 60 Try.f9 (bodyOf Try.f9) p0 [.st (.view s), .i b, .i c] ad).holds R' (fun td L K => S0 td (Sl.look L 25) (Sl.look L 3) (Sl.look L 4) (Sl.look L 5) K) =
    ∀ b0 b1 b2 : Nat, (fQ b c = true → R' (.tuple #[]) .no (.obj p0 (.view s) :: fB p0 b0 b1 b2 b c [])) ∧
      (fQ b c = false → ∀ b3 : Nat, S0 [.code [0, 1, 1, 1], .blk 0] (some (fE b3)) (some (bxE 3 b0 1)) (some (bxE 4 b1 2)) (some (bxE 5 b2 3)) ((.obj p0 (.view s) :: fB p0 b0 b1 b2 b c []) ++ [bbC p0 b3])) := by
  kernel_rfl
theorem follow_r1 (R' : Value → Pr → List (Chunk Sg) → Prop) (S0 : List Ab → Option Ent → Option Ent → Option Ent → Option Ent → Option Ent → List (Chunk Sg) → Prop) (p0 : Addr) (b0 b1 b2 b3 Dm l : Nat) (s : VS) (b c i x : Int) (st : List (List Int)) (o1 o2 : Obj) :
    (run Try.prog T_r21_Follow [2999998, 2999997] 60 (bodyOf Try.f9) [.cell 0 1000000] Try.f9.ntmps [.code [0, 0, 1, 1, 1], .raw .beginRound, .code [1, 0, 1, 1, 1]] (⟨26, none, .int .i64 i, .no⟩ :: ⟨27, none, .int .i64 x, .no⟩ :: fL b0 b1 b2) (kx p0 b3 Dm l (fB p0 b0 b1 b2 b c st) s o1 o2)).holds R' (fun td L K => S0 td (Sl.look L 6) (Sl.look L 7) (Sl.look L 3) (Sl.look L 4) (Sl.look L 5) K) =
    S0 [.raw .beginRound, .code [1, 0, 1, 1, 1]] (some ⟨6, none, .int .i64 i, .no⟩) (some ⟨7, none, .int .i64 x, .no⟩) (some (bxE 3 b0 1)) (some (bxE 4 b1 2)) (some (bxE 5 b2 3)) (kx p0 b3 Dm l (fB p0 b0 b1 b2 b c st) s o1 o2) := by
  kernel_rfl
theorem follow_r2 (R' : Value → Pr → List (Chunk Sg) → Prop) (S0 : List Ab → List (Chunk Sg) → Prop) (p0 : Addr) (b0 b1 b2 b3 Dm l : Nat) (s : VS) (b c i x : Int) (st : List (List Int)) (o1 o2 : Obj) :
    (run Try.prog T_r21_Follow [2999998, 2999997] 60 (bodyOf Try.f9) [.cell 0 1000000] Try.f9.ntmps [.code [1, 0, 1, 1, 1]] (⟨6, none, .int .i64 i, .no⟩ :: ⟨7, none, .int .i64 x, .no⟩ :: fL b0 b1 b2) (kx p0 b3 Dm l (fB p0 b0 b1 b2 b c st) s o1 o2)).holds R' (fun td L K => S0 td K) =
    (((x == b) = true → ∀ a, a = root_Set s i c → S0 [] (kx p0 b3 Dm l (fB p0 b0 b1 b2 b c st) a.1 o1 o2)) ∧ ((x == b) = false → S0 [] (kx p0 b3 Dm l (fB p0 b0 b1 b2 b c st) s o1 o2))) := by
  kernel_rfl
theorem follow_end (R' : Value → Pr → List (Chunk Sg) → Prop) (S0 : List Ab → List (Chunk Sg) → Prop) (p0 : Addr) (b0 b1 b2 b3 Dm l : Nat) (s : VS) (b c : Int) (st : List (List Int)) (o1 o2 : Obj) :
    (run Try.prog T_r21_Follow [2999998, 2999997] 60 (bodyOf Try.f9) [.cell 0 1000000] Try.f9.ntmps [.blk 0] (fE b3 :: fL b0 b1 b2) (kx p0 b3 Dm l (fB p0 b0 b1 b2 b c st) s o1 o2)).holds R' (fun td L K => S0 td K) =
    S0 [] (kx p0 b3 Dm l (fB p0 b0 b1 b2 b c st) s o1 o2) := by
  kernel_rfl
theorem fX (p0 : Addr) (b0 b1 b2 b3 : Nat) (b c : Int) (s0 s : VS) (st0 st : List (List Int)) (Dm l : Nat) (o1 o2 : Obj) : KExt ((.obj p0 (.view s0) :: fB p0 b0 b1 b2 b c st0) ++ [bbC p0 b3]) (kx p0 b3 Dm l (fB p0 b0 b1 b2 b c st) s o1 o2) ∧ KOk (kx p0 b3 Dm l (fB p0 b0 b1 b2 b c st) s o1 o2) := by
  refine ⟨?_, KOk_all (by simp [kx, fB, bbC, ptC, cellsAll, psOk, pOk, cOk])⟩
  have x1 : KExt ((.obj p0 (.view s0) :: fB p0 b0 b1 b2 b c st0) ++ [bbC p0 b3]) (((.obj p0 (.view s0) :: fB p0 b0 b1 b2 b c st0) ++ [bbC p0 b3]).set 0 (.obj p0 (.view s))) := KExt.setObj rfl
  exact x1.trans (KExt.append _ [ptC Dm o1, ptC l o2])
theorem mem5 {a b c d e0 : Ent} {L : List Ent} (ha : a ∈ L) (hb : b ∈ L) (hc : c ∈ L) (hd : d ∈ L) (he0 : e0 ∈ L) : ∀ e ∈ [a, b, c, d, e0], e ∈ L := fun e he => by
  simp only [List.mem_cons, List.not_mem_nil, or_false] at he
  rcases he with rfl | rfl | rfl | rfl | rfl <;> assumption
noncomputable abbrev fR (tmps : Array Value) (Dm : Nat) : Loop := recB 9 tmps #[26, 27] (Sl.sub (bodyOf Try.f9) [0, 0, 1, 1, 1]) (Sl.sub (bodyOf Try.f9) [1, 0, 1, 1, 1]) Dm false
theorem follow_round {E : World} {G : Hp} {p0 : Addr} {b0 b1 b2 b3 : Nat} {b c : Int} (tmps : Array Value) (Dm l : Nat) (s : VS) (st : List (List Int)) (i x : Int) (Rr : Ending → World → Prop)
    (H : ∀ w', SatK Dg E G w' (kx p0 b3 Dm l (fB p0 b0 b1 b2 b c (fY b c s st i x).2.1) (fY b c s st i x).1 (.deferred (some [])) (.loop (fR tmps Dm))) → Rr (.returned (.bool true)) w') :
    SW Dg Try.prog ⟨9, some l, []⟩ Rr (bodyOf Try.f9) Try.f9.ntmps E G [.code [0, 0, 1, 1, 1], .raw .beginRound, .code [1, 0, 1, 1, 1]] (⟨26, none, .int .i64 i, .no⟩ :: ⟨27, none, .int .i64 x, .no⟩ :: fL b0 b1 b2)
      (kx p0 b3 Dm l (fB p0 b0 b1 b2 b c st) s (.deferred (some [])) (.loop (fR tmps Dm))) := by
  refine piece T_r21_Follow_ok 60 (Tree.holds_imp (fun _ _ _ h => h) (fun td L K h => ?_) ((follow_r1 (fun _ _ _ => False) (fun td e6 e7 e3 e4 e5 K => td = [.raw .beginRound, .code [1, 0, 1, 1, 1]] ∧ e6 = some ⟨6, none, .int .i64 i, .no⟩ ∧ e7 = some ⟨7, none, .int .i64 x, .no⟩ ∧ e3 = some (bxE 3 b0 1) ∧ e4 = some (bxE 4 b1 2) ∧ e5 = some (bxE 5 b2 3) ∧
    K = kx p0 b3 Dm l (fB p0 b0 b1 b2 b c st) s (.deferred (some [])) (.loop (fR tmps Dm))) p0 b0 b1 b2 b3 Dm l s b c i x st _ _).mpr ⟨rfl, rfl, rfl, rfl, rfl, rfl, rfl⟩))
  obtain ⟨rfl, e6, e7, e3, e4, e5, rfl⟩ := h
  refine SW.sub Dg (L' := ⟨6, none, .int .i64 i, .no⟩ :: ⟨7, none, .int .i64 x, .no⟩ :: fL b0 b1 b2) ?_ (mem5 (look_mem e6).1 (look_mem e7).1 (look_mem e3).1 (look_mem e4).1 (look_mem e5).1)
  refine SW.busy Dg (f := ⟨9, some l, []⟩) (l := l) (j := 6) (s' := .any (fun _ => pt l (.loop { fR tmps Dm with state := .busy })) []) rfl rfl rfl rfl rfl ?_
  have fin : ∀ s', (fY b c s st i x).1 = s' → ∀ L, SW Dg Try.prog ⟨9, some l, []⟩ Rr (bodyOf Try.f9) Try.f9.ntmps E G [] L (kx p0 b3 Dm l (fB p0 b0 b1 b2 b c st) s' (.deferred (some [])) (.loop { fR tmps Dm with state := .busy })) := fun s' hs L => by
    refine SW.on Dg (f := ⟨9, some l, []⟩) (l := l) (j := 6) (q := ⟨0, 0, none⟩) (s := .any (fun _ => pt l (.loop { fR tmps Dm with state := .busy })) []) (s' := .any (fun _ => pt l (.loop (fR tmps Dm))) []) rfl rfl rfl rfl fun w' _ hS => H w' ?_
    rw [hs]
    exact hS
  refine piece T_r21_Follow_ok 60 (Tree.holds_imp (fun _ _ _ h => h) (fun td L K (h : ∀ L, SW Dg Try.prog ⟨9, some l, []⟩ Rr (bodyOf Try.f9) Try.f9.ntmps E G td L K) => h L) ((follow_r2 (fun _ _ _ => False) (fun td K => ∀ L, SW Dg Try.prog ⟨9, some l, []⟩ Rr (bodyOf Try.f9) Try.f9.ntmps E G td L K) p0 b0 b1 b2 b3 Dm l s b c i x st
    (.deferred (some [])) (.loop { fR tmps Dm with state := .busy })).mpr ⟨fun hc a ha => ?_, fun hc => ?_⟩))
  · exact fin a.1 (by unfold fY; rw [hc, ha]; rfl)
  · exact fin s (by unfold fY; rw [hc]; rfl)
theorem allF_follow {b c : Int} (hc : aIs c = true) : ∀ (k : Nat), k ≤ 8 → ∀ (s : VS), allF (fY b c) k s [[0]] = (((folF b c k).run s).1, [[0]])
  | 0, _, s => rfl
  | k + 1, hk, s => by
    have hi : cIs (7 - (k : Int)) = true := cIs_iff.2 (by omega)
    have e : ∀ u, (root_Set u (7 - k) c).1 = u.set (cRoot (7 - k)) c := fun u => by unfold root_Set pRSet; rw [hi, hc]; rfl
    rw [allF, folF, Pg.run_get]
    cases hv : s.get (cRoot (7 - k)) == b with
    | true =>
      simp only [fY, hv, cond_true, e]
      rw [allF_follow hc k (by omega)]; rfl
    | false =>
      simp only [fY, hv, cond_true, cond_false]
      exact allF_follow hc k (by omega) _
theorem root_Follow_ok : EOk 9 e_root_Follow := by
  refine ent_of Dg T_r21_Follow_ok (I := [2999998, 28]) Try.func9 mix (B := (bodyOf Try.f9)) (by kernel_rfl) rfl (by kernel_rfl) 60 fun p0 s b c _ _ ad E G => ?_
  have hq : ∀ x : Int, root_goes x = aIs x := fun x => by unfold root_goes aIs; rw [Bool.eq_iff_iff]; simp only [Bool.and_eq_true, decide_eq_true_eq]; omega
  refine Tree.holds_imp (fun _ _ _ h => h) (fun td L K h => ?_) ((follow_begin _ (fun td e25 e3 e4 e5 K => ∃ b0 b1 b2 b3, fQ b c = false ∧ td = [.code [0, 1, 1, 1], .blk 0] ∧ e25 = some (fE b3) ∧ e3 = some (bxE 3 b0 1) ∧ e4 = some (bxE 4 b1 2) ∧ e5 = some (bxE 5 b2 3) ∧ K = (.obj p0 (.view s) :: fB p0 b0 b1 b2 b c []) ++ [bbC p0 b3]) p0 s b c ad).mpr fun b0 b1 b2 => ⟨fun hb => ?_, fun hb b3 => ⟨b0, b1, b2, b3, hb, rfl, rfl, rfl, rfl, rfl, rfl⟩⟩)
  · obtain ⟨b0, b1, b2, b3, hb, rfl, e25, e3, e4, e5, rfl⟩ := h
    have hcc : aIs c = true ∧ (pRFollow b c).run s = (folF b c 8).run s := by
      unfold fQ at hb
      simp only [hq, Bool.or_eq_false_iff, Bool.not_eq_false'] at hb
      obtain ⟨⟨⟨h1, h2⟩, h3⟩, h4⟩ := hb
      exact ⟨h4, by rw [pRFollow, h1, h2, h3, h4]; rfl⟩
    refine SW.sub Dg (L' := fE b3 :: fL b0 b1 b2) ?_ (fun e he => by
      simp only [fL, List.mem_cons, List.not_mem_nil, or_false] at he
      rcases he with rfl | rfl | rfl | rfl
      · exact (look_mem e25).1
      · exact (look_mem e3).1
      · exact (look_mem e4).1
      · exact (look_mem e5).1)
    refine all_range (yf := fY b c) (bx := fB p0 b0 b1 b2 b c) (pe := fun _ => false) (st0 := [[0]]) (isP := [5, 6, 1, 2, 3, 0, 4]) (isU := [0, 4, 5, 6, 2, 1, 3]) (L' := fL b0 b1 b2) (pr := .many [.pt 4 (.cell 0)]) (t := 25) (p1 := 26) (p2 := 27) (by kernel_rfl) (by simp [fE]) (Nat.le_of_ble_eq_true (by kernel_rfl)) (Nat.le_of_ble_eq_true (by kernel_rfl)) (by decide) (by simp [fL, fE]) rfl
      (fun s st i x hst => rfl) (fun s' st Dm l o1 o2 => fX p0 b0 b1 b2 b3 b c s s' [[0]] st Dm l o1 o2) rfl (fun _ _ _ _ _ _ => rfl) rfl (fun _ _ _ _ _ _ => rfl) (fun tmps Dm l s st i x hst Rr H => follow_round tmps Dm l s st i x Rr H) fun Dm l o2 => ?_
    rw [allF_follow hcc.1 8 (by omega) s]
    refine piece T_r21_Follow_ok 60 (Tree.holds_imp (fun _ _ _ h => h) (fun td L K (h : td = [] ∧ K = _) => ?_) ((follow_end (fun _ _ _ => False) (fun td K => td = [] ∧ K = kx p0 b3 Dm l (fB p0 b0 b1 b2 b c [[0]]) ((folF b c 8).run s).1 (.deferred (some [])) o2) p0 b0 b1 b2 b3 Dm l ((folF b c 8).run s).1 b c [[0]] _ _).mpr ⟨rfl, rfl⟩))
    obtain ⟨rfl, rfl⟩ := h
    refine SW.sub Dg (L' := []) ?_ (fun e he => by cases he)
    refine SW.finish_mark Dg (f := ⟨9, none, [Sl.mark Dm]⟩) (Dm := Dm) (j := 5) (q := ⟨0, 0, none⟩) (s := .any (fun _ => pt Dm (.deferred (some []))) []) (s' := .any (fun _ => pt Dm (.deferred none)) []) (vs := []) rfl rfl Try.func9 (.inl rfl) rfl rfl rfl (by kernel_rfl) fun w' hS => RetOk.post Dg (p := .no) ?_ hS
    show RetOk (c_root_Follow.outC ((pRFollow b c).run s).1) (c_root_Follow.nwC p0 [.st (.view s), .i b, .i c] ((pRFollow b c).run s).1) (c_root_Follow.mksC ((pRFollow b c).run s).1) _ _ _
    rw [hcc.2]
    exact ⟨[], [0], by decide, rfl, rfl, .inl rfl, trivial⟩
  · show RetOk (c_root_Follow.outC ((pRFollow b c).run s).1) (c_root_Follow.nwC p0 [.st (.view s), .i b, .i c] ((pRFollow b c).run s).1) (c_root_Follow.mksC ((pRFollow b c).run s).1) _ _ _
    have hr : ((pRFollow b c).run s).1 = s := by
      unfold fQ at hb
      simp only [hq] at hb
      have : ((decide (b < 1) || !aIs b) || (decide (c < 1) || !aIs c)) = true := by
        rw [← hb]; cases decide (b < 1) <;> cases decide (c < 1) <;> cases aIs b <;> cases aIs c <;> rfl
      rw [pRFollow, this]; rfl
    rw [hr]
    exact ⟨[], [0], by decide, rfl, rfl, .inl rfl, trivial⟩
def T_root_Follow : Tb := (9, e_root_Follow) :: T_root_Held
theorem T_root_Follow_ok : TOk T_root_Follow := tc_ root_Follow_ok T_root_Held_ok
end Go.Proofs.Ytpkjjebkpcmkeaa
namespace Go.Proofs.Ytpkjjebkpcmkeaa
open Go.Sl
def l21_live : Bool := true
abbrev c_l21_live : Ct Sg := ⟨none, false, [], .b⟩
def e_l21_live : Entry Sg := entC c_l21_live l21_live ([])
def l21_live_w (R_ : Bool → Prop) : Prop := (aw_ ((0 : Int) ≤ 30 ∧ (30 : Int) ≤ 30 ∧ (120 : Int) ≤ 140737488355328) (aw_ ((0 : Int) ≤ 23 ∧ (23 : Int) < 30) (∀ r3 : VS, r3 = (VS.whole [0, 0, 0, 0, 0, 0, 0, 0, 0, 0, 0, 0, 0, 0, 0, 0, 0, 0, 0, 0, 0, 0, 0, 1024, 0, 0, 0, 0, 0, 0]) → (aw_ (30 ≤ 1000000) (aw_ (bdL [0, 0, 0, 0, 0, 0, 0, 0, 0, 0, 0, 0, 0, 0, 0, 0, 0, 0, 0, 0, 0, 0, 0, 1024, 0, 0, 0, 0, 0, 0]) (∀ r7 : VS × Bool, r7 = (root_Held r3 1024) → (bw_ r7.2 (∀ r9 : List Int, r9 = (VS.reads r7.1) → (bw_ ((↑(List.length r9) : Int) == 2) (∀ r12 : VS × Bool, r12 = (root_Held r7.1 0) → (bw_ (!r12.2) (∀ r14 : VS × Bool, r14 = (root_Set r12.1 7 5) → (bw_ r14.2 (∀ r16 : VS × Int, r16 = ((VS.read r14.1 29, VS.get r14.1 29)) → (R_ (r16.2 == 5))) (R_ (false)))) (R_ (false)))) (R_ (false)))) (R_ (false)))))))))
theorem l21_live_begin : l21_live_w   (fun r__ => r__ = l21_live) := by
  unfold l21_live_w
  have hbd : bdL [0, 0, 0, 0, 0, 0, 0, 0, 0, 0, 0, 0, 0, 0, 0, 0, 0, 0, 0, 0, 0, 0, 0, 1024, 0, 0, 0, 0, 0, 0] := by unfold bdL bd32; decide
  repeat' first
    | (refine fun r hr => ?_; subst hr)
    | refine ⟨hbd, fun _ => ?_⟩
    | refine ⟨by decide, fun _ => ?_⟩
    | refine ⟨fun hd => ?_, fun hd => ?_⟩
    | fail
  all_goals first
    | (unfold l21_live; decide +kernel)
    | (exfalso; revert hd; decide +kernel)
    | (trace_state; fail)
theorem l21_live_ok : EOk 5 e_l21_live :=
  ent_w0 Dg T_root_Follow_ok (I := [2999998]) Try.func5 mix (B := bodyOf Try.f5) (by kernel_rfl) rfl (by kernel_rfl) 400
    fun _  hb hp => ⟨l21_live_w  (fun r__ => r__ = l21_live), fun _ _ _ => by kernel_rfl, l21_live_begin  ⟩
def T_l21_live : Tb := (5, e_l21_live) :: T_root_Follow
theorem T_l21_live_ok : TOk T_l21_live := tc_ l21_live_ok T_root_Follow_ok
def RootDoes (xs : List Int) (us : List Int) (as_ : List Int) (ts : List Int) (u0 : List Int) (u1 : List Int) (u2 : List Int) : Bool := true
abbrev c_RootDoes : Ct Sg := ⟨none, false, [.ro [some .u32], .ro [some .i64, some .i64, some .i64, some .i64, some .i64, some .i64]], .b⟩
def e_RootDoes : Entry Sg := entC c_RootDoes RootDoes (fun xs us as_ ts u0 u1 u2 => [bdL xs])
def RootDoes_w (xs : List Int) (us : List Int) (as_ : List Int) (ts : List Int) (u0 : List Int) (u1 : List Int) (u2 : List Int) (Q0 : Int → VS → VS → Prop) (Q1 : Int → Int → Int → Int → Int → Int → Int → Int → VS → VS → Prop) (R_ : Bool → Prop) : Prop := (bw_ (decide ((↑(List.length xs) : Int) > 500) || decide ((↑(List.length us) : Int) > 20)) (∀ r1 : Bool, r1 = (l21_live) → (R_ (r1))) (∀ r1 : VS, r1 = (VS.whole xs) → (aw_ (List.length xs ≤ 1000000) (aw_ (bdL xs) (∀ r5 : VS, r5 = (VS.whole xs) → (aw_ (List.length xs ≤ 1000000) (aw_ (bdL xs) (Q0 (0) (r5) (r1)))))))))
def RootDoes_w0 (xs : List Int) (us : List Int) (as_ : List Int) (ts : List Int) (u0 : List Int) (u1 : List Int) (u2 : List Int) (i : Int) (sw : VS) (sv : VS) (Q0 : Int → VS → VS → Prop) (Q1 : Int → Int → Int → Int → Int → Int → Int → Int → VS → VS → Prop) (R_ : Bool → Prop) : Prop := (bw_ (decide (i < (↑(List.length us) : Int))) (aw_ (0 ≤ i ∧ i < (↑(List.length us) : Int)) (Q1 (0) (List.getD us (Int.toNat i) 0) (List.getD as_ (Int.toNat i) 0) (List.getD ts (Int.toNat i) 0) (List.getD u0 (Int.toNat i) 0) (List.getD u1 (Int.toNat i) 0) (List.getD u2 (Int.toNat i) 0) (i) (sw) (sv))) (∀ r1 : List Int, r1 = (VS.reads sv) → (∀ r3 : List Int × List Int, r3 = ((VS.wrote sv, VS.puts sv)) → (∀ r5 : Int, r5 = (VS.miss sv) → (∀ r6 : Bool, r6 = (decide (r1 = VS.reads sw) && (decide (r3.1 = VS.wrote sw ∧ r3.2 = VS.puts sw) && decide (r5 = VS.miss sw))) → (aw_ (List.length r3.1 = List.length r3.2) (R_ (r6 && l21_live))))))))
def RootDoes_I0 (xs : List Int) (us : List Int) (as_ : List Int) (ts : List Int) (u0 : List Int) (u1 : List Int) (u2 : List Int) (i : Int) (sw : VS) (sv : VS) (r_ : Bool) : Prop := 0 ≤ i ∧ i ≤ us.length ∧ sv = sw ∧ us.length ≤ 20 ∧ r_ = true
def RootDoes_w1_0 (xs : List Int) (us : List Int) (as_ : List Int) (ts : List Int) (u0 : List Int) (u1 : List Int) (u2 : List Int) (x0 : Int) (x1 : Int) (x2 : Int) (y0 : Int) (y1 : Int) (y2 : Int) (i : Int) (sw : VS) (sv : VS) (Q0 : Int → VS → VS → Prop) (Q1 : Int → Int → Int → Int → Int → Int → Int → Int → VS → VS → Prop) (R_ : Bool → Prop) : Prop := (bw_ (true) (aw_ ((0 : Int) ≤ 0 ∧ (0 : Int) < 3) (bw_ (y0 == 0) (∀ r3 : VS × Int × Bool, r3 = (root_Get sv x0) → (∀ r4 : VS × Int × Bool, r4 = (r21_Get sw x0) → (bw_ (r3.2.1 != r4.2.1 || !r3.2.2 == r4.2.2) (R_ (false)) (Q1 (1) (x0) (x1) (x2) (y0) (y1) (y2) (i) r4.1 r3.1)))) (bw_ (y0 == 1) (∀ r4 : VS × Bool, r4 = (root_Set sv x0 x1) → (∀ r5 : VS × Bool, r5 = (r21_Set sw x0 x1) → (bw_ (!r4.2 == r5.2) (R_ (false)) (Q1 (1) (x0) (x1) (x2) (y0) (y1) (y2) (i) r5.1 r4.1)))) (bw_ (y0 == 2) (∀ r5 : VS × Bool, r5 = (root_Held sv x1) → (∀ r6 : VS × Bool, r6 = (r21_Held sw x1) → (bw_ (!r5.2 == r6.2) (R_ (false)) (Q1 (1) (x0) (x1) (x2) (y0) (y1) (y2) (i) r6.1 r5.1)))) (∀ r5 : VS, r5 = (root_Follow sv x1 x2) → (∀ r6 : VS, r6 = (r21_Follow sw x1 x2) → (Q1 (1) (x0) (x1) (x2) (y0) (y1) (y2) (i) (r6) (r5)))))))) (Q0 (IntKind.wrap IntKind.i64 (i + 1)) (sw) (sv)))
def RootDoes_w1_1 (xs : List Int) (us : List Int) (as_ : List Int) (ts : List Int) (u0 : List Int) (u1 : List Int) (u2 : List Int) (x0 : Int) (x1 : Int) (x2 : Int) (y0 : Int) (y1 : Int) (y2 : Int) (i : Int) (sw : VS) (sv : VS) (Q0 : Int → VS → VS → Prop) (Q1 : Int → Int → Int → Int → Int → Int → Int → Int → VS → VS → Prop) (R_ : Bool → Prop) : Prop := (bw_ (true) (aw_ ((0 : Int) ≤ 1 ∧ (1 : Int) < 3) (bw_ (y1 == 0) (∀ r3 : VS × Int × Bool, r3 = (root_Get sv x0) → (∀ r4 : VS × Int × Bool, r4 = (r21_Get sw x0) → (bw_ (r3.2.1 != r4.2.1 || !r3.2.2 == r4.2.2) (R_ (false)) (Q1 (2) (x0) (x1) (x2) (y0) (y1) (y2) (i) r4.1 r3.1)))) (bw_ (y1 == 1) (∀ r4 : VS × Bool, r4 = (root_Set sv x0 x1) → (∀ r5 : VS × Bool, r5 = (r21_Set sw x0 x1) → (bw_ (!r4.2 == r5.2) (R_ (false)) (Q1 (2) (x0) (x1) (x2) (y0) (y1) (y2) (i) r5.1 r4.1)))) (bw_ (y1 == 2) (∀ r5 : VS × Bool, r5 = (root_Held sv x1) → (∀ r6 : VS × Bool, r6 = (r21_Held sw x1) → (bw_ (!r5.2 == r6.2) (R_ (false)) (Q1 (2) (x0) (x1) (x2) (y0) (y1) (y2) (i) r6.1 r5.1)))) (∀ r5 : VS, r5 = (root_Follow sv x1 x2) → (∀ r6 : VS, r6 = (r21_Follow sw x1 x2) → (Q1 (2) (x0) (x1) (x2) (y0) (y1) (y2) (i) (r6) (r5)))))))) (Q0 (IntKind.wrap IntKind.i64 (i + 1)) (sw) (sv)))
def RootDoes_w1_2 (xs : List Int) (us : List Int) (as_ : List Int) (ts : List Int) (u0 : List Int) (u1 : List Int) (u2 : List Int) (x0 : Int) (x1 : Int) (x2 : Int) (y0 : Int) (y1 : Int) (y2 : Int) (i : Int) (sw : VS) (sv : VS) (Q0 : Int → VS → VS → Prop) (Q1 : Int → Int → Int → Int → Int → Int → Int → Int → VS → VS → Prop) (R_ : Bool → Prop) : Prop := (bw_ (true) (aw_ ((0 : Int) ≤ 2 ∧ (2 : Int) < 3) (bw_ (y2 == 0) (∀ r3 : VS × Int × Bool, r3 = (root_Get sv x0) → (∀ r4 : VS × Int × Bool, r4 = (r21_Get sw x0) → (bw_ (r3.2.1 != r4.2.1 || !r3.2.2 == r4.2.2) (R_ (false)) (Q1 (3) (x0) (x1) (x2) (y0) (y1) (y2) (i) r4.1 r3.1)))) (bw_ (y2 == 1) (∀ r4 : VS × Bool, r4 = (root_Set sv x0 x1) → (∀ r5 : VS × Bool, r5 = (r21_Set sw x0 x1) → (bw_ (!r4.2 == r5.2) (R_ (false)) (Q1 (3) (x0) (x1) (x2) (y0) (y1) (y2) (i) r5.1 r4.1)))) (bw_ (y2 == 2) (∀ r5 : VS × Bool, r5 = (root_Held sv x1) → (∀ r6 : VS × Bool, r6 = (r21_Held sw x1) → (bw_ (!r5.2 == r6.2) (R_ (false)) (Q1 (3) (x0) (x1) (x2) (y0) (y1) (y2) (i) r6.1 r5.1)))) (∀ r5 : VS, r5 = (root_Follow sv x1 x2) → (∀ r6 : VS, r6 = (r21_Follow sw x1 x2) → (Q1 (3) (x0) (x1) (x2) (y0) (y1) (y2) (i) (r6) (r5)))))))) (Q0 (IntKind.wrap IntKind.i64 (i + 1)) (sw) (sv)))
def RootDoes_w1_3 (xs : List Int) (us : List Int) (as_ : List Int) (ts : List Int) (u0 : List Int) (u1 : List Int) (u2 : List Int) (x0 : Int) (x1 : Int) (x2 : Int) (y0 : Int) (y1 : Int) (y2 : Int) (i : Int) (sw : VS) (sv : VS) (Q0 : Int → VS → VS → Prop) (Q1 : Int → Int → Int → Int → Int → Int → Int → Int → VS → VS → Prop) (R_ : Bool → Prop) : Prop := (bw_ (false) (aw_ ((0 : Int) ≤ 3 ∧ (3 : Int) < 3) False) (Q0 (IntKind.wrap IntKind.i64 (i + 1)) (sw) (sv)))
def RootDoes_I1 (xs : List Int) (us : List Int) (as_ : List Int) (ts : List Int) (u0 : List Int) (u1 : List Int) (u2 : List Int) (k : Int) (x0 : Int) (x1 : Int) (x2 : Int) (y0 : Int) (y1 : Int) (y2 : Int) (i : Int) (sw : VS) (sv : VS) (r_ : Bool) : Prop := (0 ≤ k ∧ k ≤ 3) ∧ 0 ≤ i ∧ i < us.length ∧ sv = sw ∧ us.length ≤ 20 ∧ r_ = true
abbrev RootDoes_h0 (p0 : Addr) (xs : List Int) (us : List Int) (as_ : List Int) (ts : List Int) (u0 : List Int) (u1 : List Int) (u2 : List Int) : Hd Sg := ⟨none, [0,1,0,1,1,1], [.blk 0, .code [1,1,1,1]], [7, 6, 5, 1], [.i .i64, .obj wRef, .obj wView, .roc [.ints .i64 (us), .ints .i64 (as_), .ints .i64 (ts), .ints .i64 (u0), .ints .i64 (u1), .ints .i64 (u2)]]⟩
abbrev RootDoes_h1 (p0 : Addr) (xs : List Int) (us : List Int) (as_ : List Int) (ts : List Int) (u0 : List Int) (u1 : List Int) (u2 : List Int) : Hd Sg := ⟨none, [0,1,1,0,0,1,0,0,1,0,1,1,1], [.blk 2, .blk 1, .code [1,1,0,0,1,0,1,1,1], .again [0,1,0,1,1,1], .blk 0, .code [1,1,1,1]], [9, 8, 7, 6, 5, 1], [.i .i64, .box 25 [.i .i64, .i .i64, .i .i64, .i .i64, .i .i64, .i .i64], .i .i64, .obj wRef, .obj wView, .roc [.ints .i64 (us), .ints .i64 (as_), .ints .i64 (ts), .ints .i64 (u0), .ints .i64 (u1), .ints .i64 (u2)]]⟩
theorem RootDoes_begin (xs : List Int) (us : List Int) (as_ : List Int) (ts : List Int) (u0 : List Int) (u1 : List Int) (u2 : List Int) (hp0 : bdL xs) (hl0 : xs.length ≤ 9223372036854775807) (hl1 : us.length ≤ 9223372036854775807) : RootDoes_w xs us as_ ts u0 u1 u2 (fun i' sw' sv' => RootDoes_I0 xs us as_ ts u0 u1 u2 i' sw' sv' (RootDoes xs us as_ ts u0 u1 u2)) (fun k' x0' x1' x2' y0' y1' y2' i' sw' sv' => RootDoes_I1 xs us as_ ts u0 u1 u2 k' x0' x1' x2' y0' y1' y2' i' sw' sv' (RootDoes xs us as_ ts u0 u1 u2)) (fun r__ => r__ = (RootDoes xs us as_ ts u0 u1 u2)) := by
  unfold RootDoes_w
  try unfold RootDoes_I0
  try unfold RootDoes_I1
  refine ⟨fun _ => (by rintro r1 rfl; rfl), fun h => ?_⟩
  simp only [Bool.or_eq_false_iff, decide_eq_false_iff_not] at h
  rintro r1 rfl
  refine ⟨by omega, fun _ => ⟨hp0, fun _ => ?_⟩⟩
  rintro r5 rfl
  exact ⟨by omega, fun _ => ⟨hp0, fun _ => ⟨by omega, by omega, rfl, by omega, rfl⟩⟩⟩
theorem RootDoes_step0 (xs : List Int) (us : List Int) (as_ : List Int) (ts : List Int) (u0 : List Int) (u1 : List Int) (u2 : List Int) (hp0 : bdL xs) (hl0 : xs.length ≤ 9223372036854775807) (hl1 : us.length ≤ 9223372036854775807) (i : Int) (sw : VS) (sv : VS) {r_ : Bool} (hI : RootDoes_I0 xs us as_ ts u0 u1 u2 i sw sv r_) : RootDoes_w0 xs us as_ ts u0 u1 u2 i sw sv (fun i' sw' sv' => RootDoes_I0 xs us as_ ts u0 u1 u2 i' sw' sv' r_ ∧ lx ((us.length - i').toNat, 4, 0) ((us.length - i).toNat, 4, 0)) (fun k' x0' x1' x2' y0' y1' y2' i' sw' sv' => RootDoes_I1 xs us as_ ts u0 u1 u2 k' x0' x1' x2' y0' y1' y2' i' sw' sv' r_ ∧ lx ((us.length - i').toNat, (3 - k').toNat, 0) ((us.length - i).toNat, 4, 0)) (fun r__ => r__ = r_) := by
  unfold RootDoes_I0 at hI
  unfold RootDoes_w0
  try unfold RootDoes_I0
  try unfold RootDoes_I1
  obtain ⟨h0, h1, rfl, h3, hr⟩ := hI
  refine ⟨fun h => ?_, fun h => ?_⟩
  · simp only [decide_eq_true_eq] at h
    exact ⟨⟨h0, h⟩, fun _ => ⟨⟨by omega, h0, by omega, rfl, h3, hr⟩, (by unfold lx; dsimp only; omega)⟩⟩
  · rintro r1 rfl r3 rfl r5 rfl r6 rfl
    refine ⟨by simp [VS.puts], fun _ => ?_⟩
    show (_ && l21_live) = r_
    rw [hr]; simp [l21_live]
theorem RootDoes_cs1 (xs : List Int) (us : List Int) (as_ : List Int) (ts : List Int) (u0 : List Int) (u1 : List Int) (u2 : List Int) (hp0 : bdL xs) (hl0 : xs.length ≤ 9223372036854775807) (hl1 : us.length ≤ 9223372036854775807) (k : Int) (x0 : Int) (x1 : Int) (x2 : Int) (y0 : Int) (y1 : Int) (y2 : Int) (i : Int) (sw : VS) (sv : VS) {r_ : Bool} (hI : RootDoes_I1 xs us as_ ts u0 u1 u2 k x0 x1 x2 y0 y1 y2 i sw sv r_) : k = 0 ∨ k = 1 ∨ k = 2 ∨ k = 3 := by
  unfold RootDoes_I1 at hI
  obtain ⟨hk, _⟩ := hI
  omega
theorem RootDoes_step1_0 (xs : List Int) (us : List Int) (as_ : List Int) (ts : List Int) (u0 : List Int) (u1 : List Int) (u2 : List Int) (hp0 : bdL xs) (hl0 : xs.length ≤ 9223372036854775807) (hl1 : us.length ≤ 9223372036854775807) (x0 : Int) (x1 : Int) (x2 : Int) (y0 : Int) (y1 : Int) (y2 : Int) (i : Int) (sw : VS) (sv : VS) {r_ : Bool} (hI : RootDoes_I1 xs us as_ ts u0 u1 u2 (0 : Int) x0 x1 x2 y0 y1 y2 i sw sv r_) : RootDoes_w1_0 xs us as_ ts u0 u1 u2 x0 x1 x2 y0 y1 y2 i sw sv (fun i' sw' sv' => RootDoes_I0 xs us as_ ts u0 u1 u2 i' sw' sv' r_ ∧ lx ((us.length - i').toNat, 4, 0) ((us.length - i).toNat, (3 - (0 : Int)).toNat, 0)) (fun k' x0' x1' x2' y0' y1' y2' i' sw' sv' => RootDoes_I1 xs us as_ ts u0 u1 u2 k' x0' x1' x2' y0' y1' y2' i' sw' sv' r_ ∧ lx ((us.length - i').toNat, (3 - k').toNat, 0) ((us.length - i).toNat, (3 - (0 : Int)).toNat, 0)) (fun r__ => r__ = r_) := by
  unfold RootDoes_I1 at hI
  unfold RootDoes_w1_0
  try unfold RootDoes_I0
  try unfold RootDoes_I1
  obtain ⟨hk, h0, h1, rfl, h3, hr⟩ := hI
  refine ⟨fun _ => ⟨by omega, fun _ => ⟨fun _ => ?_, fun _ => ⟨fun _ => ?_, fun _ => ⟨fun _ => ?_, fun _ => ?_⟩⟩⟩⟩, fun h => (by cases h)⟩
  · rintro r3 rfl r4 rfl
    refine ⟨fun hn => ?_, fun _ => ⟨⟨by omega, h0, h1, rfl, h3, hr⟩, (by unfold lx; dsimp only; omega)⟩⟩
    exfalso
    rw [show root_Get sv x0 = r21_Get sv x0 from rfl] at hn
    simp at hn
  · rintro r3 rfl r4 rfl
    refine ⟨fun hn => ?_, fun _ => ⟨⟨by omega, h0, h1, rfl, h3, hr⟩, (by unfold lx; dsimp only; omega)⟩⟩
    exfalso
    rw [show root_Set sv x0 x1 = r21_Set sv x0 x1 from rfl] at hn
    simp at hn
  · rintro r3 rfl r4 rfl
    refine ⟨fun hn => ?_, fun _ => ⟨⟨by omega, h0, h1, rfl, h3, hr⟩, (by unfold lx; dsimp only; omega)⟩⟩
    exfalso
    rw [show root_Held sv x1 = r21_Held sv x1 from rfl] at hn
    simp at hn
  · rintro r3 rfl r4 rfl
    exact ⟨⟨by omega, h0, h1, rfl, h3, hr⟩, (by unfold lx; dsimp only; omega)⟩
theorem RootDoes_step1_1 (xs : List Int) (us : List Int) (as_ : List Int) (ts : List Int) (u0 : List Int) (u1 : List Int) (u2 : List Int) (hp0 : bdL xs) (hl0 : xs.length ≤ 9223372036854775807) (hl1 : us.length ≤ 9223372036854775807) (x0 : Int) (x1 : Int) (x2 : Int) (y0 : Int) (y1 : Int) (y2 : Int) (i : Int) (sw : VS) (sv : VS) {r_ : Bool} (hI : RootDoes_I1 xs us as_ ts u0 u1 u2 (1 : Int) x0 x1 x2 y0 y1 y2 i sw sv r_) : RootDoes_w1_1 xs us as_ ts u0 u1 u2 x0 x1 x2 y0 y1 y2 i sw sv (fun i' sw' sv' => RootDoes_I0 xs us as_ ts u0 u1 u2 i' sw' sv' r_ ∧ lx ((us.length - i').toNat, 4, 0) ((us.length - i).toNat, (3 - (1 : Int)).toNat, 0)) (fun k' x0' x1' x2' y0' y1' y2' i' sw' sv' => RootDoes_I1 xs us as_ ts u0 u1 u2 k' x0' x1' x2' y0' y1' y2' i' sw' sv' r_ ∧ lx ((us.length - i').toNat, (3 - k').toNat, 0) ((us.length - i).toNat, (3 - (1 : Int)).toNat, 0)) (fun r__ => r__ = r_) := by
  unfold RootDoes_I1 at hI
  unfold RootDoes_w1_1
  try unfold RootDoes_I0
  try unfold RootDoes_I1
  obtain ⟨hk, h0, h1, rfl, h3, hr⟩ := hI
  refine ⟨fun _ => ⟨by omega, fun _ => ⟨fun _ => ?_, fun _ => ⟨fun _ => ?_, fun _ => ⟨fun _ => ?_, fun _ => ?_⟩⟩⟩⟩, fun h => (by cases h)⟩
  · rintro r3 rfl r4 rfl
    refine ⟨fun hn => ?_, fun _ => ⟨⟨by omega, h0, h1, rfl, h3, hr⟩, (by unfold lx; dsimp only; omega)⟩⟩
    exfalso
    rw [show root_Get sv x0 = r21_Get sv x0 from rfl] at hn
    simp at hn
  · rintro r3 rfl r4 rfl
    refine ⟨fun hn => ?_, fun _ => ⟨⟨by omega, h0, h1, rfl, h3, hr⟩, (by unfold lx; dsimp only; omega)⟩⟩
    exfalso
    rw [show root_Set sv x0 x1 = r21_Set sv x0 x1 from rfl] at hn
    simp at hn
  · rintro r3 rfl r4 rfl
    refine ⟨fun hn => ?_, fun _ => ⟨⟨by omega, h0, h1, rfl, h3, hr⟩, (by unfold lx; dsimp only; omega)⟩⟩
    exfalso
    rw [show root_Held sv x1 = r21_Held sv x1 from rfl] at hn
    simp at hn
  · rintro r3 rfl r4 rfl
    exact ⟨⟨by omega, h0, h1, rfl, h3, hr⟩, (by unfold lx; dsimp only; omega)⟩
theorem RootDoes_step1_2 (xs : List Int) (us : List Int) (as_ : List Int) (ts : List Int) (u0 : List Int) (u1 : List Int) (u2 : List Int) (hp0 : bdL xs) (hl0 : xs.length ≤ 9223372036854775807) (hl1 : us.length ≤ 9223372036854775807) (x0 : Int) (x1 : Int) (x2 : Int) (y0 : Int) (y1 : Int) (y2 : Int) (i : Int) (sw : VS) (sv : VS) {r_ : Bool} (hI : RootDoes_I1 xs us as_ ts u0 u1 u2 (2 : Int) x0 x1 x2 y0 y1 y2 i sw sv r_) : RootDoes_w1_2 xs us as_ ts u0 u1 u2 x0 x1 x2 y0 y1 y2 i sw sv (fun i' sw' sv' => RootDoes_I0 xs us as_ ts u0 u1 u2 i' sw' sv' r_ ∧ lx ((us.length - i').toNat, 4, 0) ((us.length - i).toNat, (3 - (2 : Int)).toNat, 0)) (fun k' x0' x1' x2' y0' y1' y2' i' sw' sv' => RootDoes_I1 xs us as_ ts u0 u1 u2 k' x0' x1' x2' y0' y1' y2' i' sw' sv' r_ ∧ lx ((us.length - i').toNat, (3 - k').toNat, 0) ((us.length - i).toNat, (3 - (2 : Int)).toNat, 0)) (fun r__ => r__ = r_) := by
  unfold RootDoes_I1 at hI
  unfold RootDoes_w1_2
  try unfold RootDoes_I0
  try unfold RootDoes_I1
  obtain ⟨hk, h0, h1, rfl, h3, hr⟩ := hI
  refine ⟨fun _ => ⟨by omega, fun _ => ⟨fun _ => ?_, fun _ => ⟨fun _ => ?_, fun _ => ⟨fun _ => ?_, fun _ => ?_⟩⟩⟩⟩, fun h => (by cases h)⟩
  · rintro r3 rfl r4 rfl
    refine ⟨fun hn => ?_, fun _ => ⟨⟨by omega, h0, h1, rfl, h3, hr⟩, (by unfold lx; dsimp only; omega)⟩⟩
    exfalso
    rw [show root_Get sv x0 = r21_Get sv x0 from rfl] at hn
    simp at hn
  · rintro r3 rfl r4 rfl
    refine ⟨fun hn => ?_, fun _ => ⟨⟨by omega, h0, h1, rfl, h3, hr⟩, (by unfold lx; dsimp only; omega)⟩⟩
    exfalso
    rw [show root_Set sv x0 x1 = r21_Set sv x0 x1 from rfl] at hn
    simp at hn
  · rintro r3 rfl r4 rfl
    refine ⟨fun hn => ?_, fun _ => ⟨⟨by omega, h0, h1, rfl, h3, hr⟩, (by unfold lx; dsimp only; omega)⟩⟩
    exfalso
    rw [show root_Held sv x1 = r21_Held sv x1 from rfl] at hn
    simp at hn
  · rintro r3 rfl r4 rfl
    exact ⟨⟨by omega, h0, h1, rfl, h3, hr⟩, (by unfold lx; dsimp only; omega)⟩
theorem RootDoes_step1_3 (xs : List Int) (us : List Int) (as_ : List Int) (ts : List Int) (u0 : List Int) (u1 : List Int) (u2 : List Int) (hp0 : bdL xs) (hl0 : xs.length ≤ 9223372036854775807) (hl1 : us.length ≤ 9223372036854775807) (x0 : Int) (x1 : Int) (x2 : Int) (y0 : Int) (y1 : Int) (y2 : Int) (i : Int) (sw : VS) (sv : VS) {r_ : Bool} (hI : RootDoes_I1 xs us as_ ts u0 u1 u2 (3 : Int) x0 x1 x2 y0 y1 y2 i sw sv r_) : RootDoes_w1_3 xs us as_ ts u0 u1 u2 x0 x1 x2 y0 y1 y2 i sw sv (fun i' sw' sv' => RootDoes_I0 xs us as_ ts u0 u1 u2 i' sw' sv' r_ ∧ lx ((us.length - i').toNat, 4, 0) ((us.length - i).toNat, (3 - (3 : Int)).toNat, 0)) (fun k' x0' x1' x2' y0' y1' y2' i' sw' sv' => RootDoes_I1 xs us as_ ts u0 u1 u2 k' x0' x1' x2' y0' y1' y2' i' sw' sv' r_ ∧ lx ((us.length - i').toNat, (3 - k').toNat, 0) ((us.length - i).toNat, (3 - (3 : Int)).toNat, 0)) (fun r__ => r__ = r_) := by
  unfold RootDoes_I1 at hI
  unfold RootDoes_w1_3
  try unfold RootDoes_I0
  try unfold RootDoes_I1
  obtain ⟨hk, h0, h1, rfl, h3, hr⟩ := hI
  refine ⟨fun h => (by cases h), fun _ => ?_⟩
  rw [w64 (n := i + 1) (by omega)]
  exact ⟨⟨by omega, by omega, rfl, h3, hr⟩, (by unfold lx; dsimp only; omega)⟩
theorem RootDoes_ok : EOk 4 e_RootDoes :=
  ent_wp Dg T_l21_live_ok (I := [2999998, 1643000000007, 1643000000006, 1643000000005, 1643000000001, 3953000000009, 3953000000008, 3953000000007, 3953000000006, 3953000000005, 3953000000001]) Try.func4 mix (B := bodyOf Try.f4) (by kernel_rfl) rfl (by kernel_rfl) 400
    fun p0 xs us as_ ts u0 u1 u2 hb hp => have hl0 : xs.length ≤ 9223372036854775807 := hb.1; have hl1 : us.length ≤ 9223372036854775807 := hb.2.1; have hp0 : bdL xs := hp _ (.head _); ⟨[RootDoes_h0 p0 xs us as_ ts u0 u1 u2, RootDoes_h1 p0 xs us as_ ts u0 u1 u2], fun j => List.getD [appC (Hd.kd (RootDoes_h0 p0 xs us as_ ts u0 u1 u2)) (fun i' sw' sv' => RootDoes_I0 xs us as_ ts u0 u1 u2 i' sw' sv' (RootDoes xs us as_ ts u0 u1 u2)), appC (Hd.kd (RootDoes_h1 p0 xs us as_ ts u0 u1 u2)) (fun k' x0' x1' x2' y0' y1' y2' i' sw' sv' => RootDoes_I1 xs us as_ ts u0 u1 u2 k' x0' x1' x2' y0' y1' y2' i' sw' sv' (RootDoes xs us as_ ts u0 u1 u2))] j (fun _ => False), fun j => List.getD [appC (Hd.kd (RootDoes_h0 p0 xs us as_ ts u0 u1 u2)) (fun i' sw' sv' => ((us.length - i').toNat, 4, 0)), appC (Hd.kd (RootDoes_h1 p0 xs us as_ ts u0 u1 u2)) (fun k' x0' x1' x2' y0' y1' y2' i' sw' sv' => ((us.length - i').toNat, (3 - k').toNat, 0))] j (fun _ => (0, 0, 0)), by kernel_rfl, ⟨RootDoes_w xs us as_ ts u0 u1 u2 (fun i' sw' sv' => RootDoes_I0 xs us as_ ts u0 u1 u2 i' sw' sv' (RootDoes xs us as_ ts u0 u1 u2)) (fun k' x0' x1' x2' y0' y1' y2' i' sw' sv' => RootDoes_I1 xs us as_ ts u0 u1 u2 k' x0' x1' x2' y0' y1' y2' i' sw' sv' (RootDoes xs us as_ ts u0 u1 u2)) (fun r__ => r__ = (RootDoes xs us as_ ts u0 u1 u2)), fun _ _ _ => by kernel_rfl, RootDoes_begin xs us as_ ts u0 u1 u2 hp0 hl0 hl1 ⟩, ⟨fun i sw sv hI => ⟨RootDoes_w0 xs us as_ ts u0 u1 u2 i sw sv (fun i' sw' sv' => RootDoes_I0 xs us as_ ts u0 u1 u2 i' sw' sv' (RootDoes xs us as_ ts u0 u1 u2) ∧ lx ((us.length - i').toNat, 4, 0) ((us.length - i).toNat, 4, 0)) (fun k' x0' x1' x2' y0' y1' y2' i' sw' sv' => RootDoes_I1 xs us as_ ts u0 u1 u2 k' x0' x1' x2' y0' y1' y2' i' sw' sv' (RootDoes xs us as_ ts u0 u1 u2) ∧ lx ((us.length - i').toNat, (3 - k').toNat, 0) ((us.length - i).toNat, 4, 0)) (fun r__ => r__ = (RootDoes xs us as_ ts u0 u1 u2)), fun _ _ _ => by kernel_rfl, RootDoes_step0 xs us as_ ts u0 u1 u2 hp0 hl0 hl1 i sw sv hI⟩, ⟨fun k x0 x1 x2 y0 y1 y2 i sw sv hI => (by
      rcases RootDoes_cs1 xs us as_ ts u0 u1 u2 hp0 hl0 hl1 k x0 x1 x2 y0 y1 y2 i sw sv hI with rfl | rfl | rfl | rfl
      · exact ⟨RootDoes_w1_0 xs us as_ ts u0 u1 u2 x0 x1 x2 y0 y1 y2 i sw sv (fun i' sw' sv' => RootDoes_I0 xs us as_ ts u0 u1 u2 i' sw' sv' (RootDoes xs us as_ ts u0 u1 u2) ∧ lx ((us.length - i').toNat, 4, 0) ((us.length - i).toNat, (3 - (0 : Int)).toNat, 0)) (fun k' x0' x1' x2' y0' y1' y2' i' sw' sv' => RootDoes_I1 xs us as_ ts u0 u1 u2 k' x0' x1' x2' y0' y1' y2' i' sw' sv' (RootDoes xs us as_ ts u0 u1 u2) ∧ lx ((us.length - i').toNat, (3 - k').toNat, 0) ((us.length - i).toNat, (3 - (0 : Int)).toNat, 0)) (fun r__ => r__ = (RootDoes xs us as_ ts u0 u1 u2)), fun _ _ _ => by kernel_rfl, RootDoes_step1_0 xs us as_ ts u0 u1 u2 hp0 hl0 hl1 x0 x1 x2 y0 y1 y2 i sw sv hI⟩
      · exact ⟨RootDoes_w1_1 xs us as_ ts u0 u1 u2 x0 x1 x2 y0 y1 y2 i sw sv (fun i' sw' sv' => RootDoes_I0 xs us as_ ts u0 u1 u2 i' sw' sv' (RootDoes xs us as_ ts u0 u1 u2) ∧ lx ((us.length - i').toNat, 4, 0) ((us.length - i).toNat, (3 - (1 : Int)).toNat, 0)) (fun k' x0' x1' x2' y0' y1' y2' i' sw' sv' => RootDoes_I1 xs us as_ ts u0 u1 u2 k' x0' x1' x2' y0' y1' y2' i' sw' sv' (RootDoes xs us as_ ts u0 u1 u2) ∧ lx ((us.length - i').toNat, (3 - k').toNat, 0) ((us.length - i).toNat, (3 - (1 : Int)).toNat, 0)) (fun r__ => r__ = (RootDoes xs us as_ ts u0 u1 u2)), fun _ _ _ => by kernel_rfl, RootDoes_step1_1 xs us as_ ts u0 u1 u2 hp0 hl0 hl1 x0 x1 x2 y0 y1 y2 i sw sv hI⟩
      · exact ⟨RootDoes_w1_2 xs us as_ ts u0 u1 u2 x0 x1 x2 y0 y1 y2 i sw sv (fun i' sw' sv' => RootDoes_I0 xs us as_ ts u0 u1 u2 i' sw' sv' (RootDoes xs us as_ ts u0 u1 u2) ∧ lx ((us.length - i').toNat, 4, 0) ((us.length - i).toNat, (3 - (2 : Int)).toNat, 0)) (fun k' x0' x1' x2' y0' y1' y2' i' sw' sv' => RootDoes_I1 xs us as_ ts u0 u1 u2 k' x0' x1' x2' y0' y1' y2' i' sw' sv' (RootDoes xs us as_ ts u0 u1 u2) ∧ lx ((us.length - i').toNat, (3 - k').toNat, 0) ((us.length - i).toNat, (3 - (2 : Int)).toNat, 0)) (fun r__ => r__ = (RootDoes xs us as_ ts u0 u1 u2)), fun _ _ _ => by kernel_rfl, RootDoes_step1_2 xs us as_ ts u0 u1 u2 hp0 hl0 hl1 x0 x1 x2 y0 y1 y2 i sw sv hI⟩
      · exact ⟨RootDoes_w1_3 xs us as_ ts u0 u1 u2 x0 x1 x2 y0 y1 y2 i sw sv (fun i' sw' sv' => RootDoes_I0 xs us as_ ts u0 u1 u2 i' sw' sv' (RootDoes xs us as_ ts u0 u1 u2) ∧ lx ((us.length - i').toNat, 4, 0) ((us.length - i).toNat, (3 - (3 : Int)).toNat, 0)) (fun k' x0' x1' x2' y0' y1' y2' i' sw' sv' => RootDoes_I1 xs us as_ ts u0 u1 u2 k' x0' x1' x2' y0' y1' y2' i' sw' sv' (RootDoes xs us as_ ts u0 u1 u2) ∧ lx ((us.length - i').toNat, (3 - k').toNat, 0) ((us.length - i).toNat, (3 - (3 : Int)).toNat, 0)) (fun r__ => r__ = (RootDoes xs us as_ ts u0 u1 u2)), fun _ _ _ => by kernel_rfl, RootDoes_step1_3 xs us as_ ts u0 u1 u2 hp0 hl0 hl1 x0 x1 x2 y0 y1 y2 i sw sv hI⟩), trivial⟩⟩⟩
theorem RootDoes_plain (xs : List Int) (us : List Int) (as_ : List Int) (ts : List Int) (u0 : List Int) (u1 : List Int) (u2 : List Int) (a_0 : Option Addr) (c_0 : Nat) (a_1 : Option Addr) (c_1 : Nat) {E_ : World} {G_ : Hp} {w_ : World} (hr0 : RowAt G_ a_0 xs.length [.ints .u32 xs] ∧ xs.length ≤ c_0) (hr1 : RowAt G_ a_1 us.length [.ints .i64 us, .ints .i64 as_, .ints .i64 ts, .ints .i64 u0, .ints .i64 u1, .ints .i64 u2] ∧ us.length ≤ c_1) (hp0 : bdL xs) (hS : Sat E_ G_ w_ []) : Calls Try.prog 4 #[(.slice a_0 xs.length c_0), (.slice a_1 us.length c_1)] w_ (fun en w' => en = .returned (.bool (RootDoes xs us as_ ts u0 u1 u2)) ∧ Sat E_ G_ w' []) := by
  refine law_of Dg (c := c_RootDoes) (F := RootDoes) (pre := fun xs us as_ ts u0 u1 u2 => [bdL xs]) RootDoes_ok [((.slice a_0 xs.length c_0), (.row xs.length [.ints .u32 xs])), ((.slice a_1 us.length c_1), (.row us.length [.ints .i64 us, .ints .i64 as_, .ints .i64 ts, .ints .i64 u0, .ints .i64 u1, .ints .i64 u2]))] [.li xs, .li us, .li as_, .li ts, .li u0, .li u1, .li u2] (by kernel_rfl) _ (by kernel_rfl) (by kernel_rfl) (by kernel_rfl) ?_ ?_ hS
  · intro p hp
    have hp : p ∈ [(bdL xs : Prop)] := hp
    simp only [List.mem_cons, List.not_mem_nil, or_false] at hp
    rcases hp with rfl
    · exact hp0
  · intro x hx
    simp only [List.mem_cons, List.not_mem_nil, or_false] at hx
    rcases hx with rfl | rfl
    · first | (simp only [iOk, isOk, and_true, true_and]; done) | (simp only [iOk, isOk, and_true, true_and]; exact ⟨_, _, rfl, hr0⟩) | simp [iOk, isOk]
    · first | (simp only [iOk, isOk, and_true, true_and]; done) | (simp only [iOk, isOk, and_true, true_and]; exact ⟨_, _, rfl, hr1⟩) | simp [iOk, isOk]
end Go.Proofs.Ytpkjjebkpcmkeaa
namespace Go.Sl
open Go.RowKit Go.ChangeShapes Go.WideShapes Go.ChangeAt
theorem Sat.start (W : World) : Sat W (fun b => W.heap[b]?) W [] :=
  ⟨⟨rfl, rfl, rfl, Nat.le_refl _⟩, fun _ _ h => h, fun _ => none, ⟨fun _ _ h => (by cases h), fun i A h => (by simp at h)⟩⟩
theorem Sat.below {W W' : World} {As : List Asn} (h : Sat W (fun b => W.heap[b]?) W' As) : Below W.heap.size W W' :=
  ⟨h.1.os, h.1.tape, h.1.output, h.1.size, fun k hk => by
    have h1 : (fun b => W.heap[b]?) k = some W.heap[k] := by simp [hk]
    rw [h.2.1 k _ h1]; simp [hk]⟩
section
variable {H : Type} {enc : TypeId × Value → H} {P : Program}
theorem trodAll_stays (hl : laidOutB P = true) {W W' : World} (hb : Below W.heap.size W W') {sp : Nat → Bool} : ∀ (ts : List TypeId) (vs : List Value) (ds : List (DataW H)) (ps : List MemPlace), (∀ t ∈ ts, P.readableRec t = true ∧ t < P.types.size) →
    DataW.TrodAll enc P W 0 (fun _ => true) true ts vs ds ps → (∀ x ∈ ps, x.block < W.heap.size) → (∀ x ∈ ps, sp x.block = true) → DataW.TrodAll enc P W' 0 sp true ts vs ds ps
  | [], vs, ds, ps, _, h, _, _ => by
    obtain ⟨rfl, rfl, rfl⟩ := trodAll_nil h
    exact trodAll_mk0
  | t :: ts, vs, ds, ps, hr, h, hlt, hsp => by
    obtain ⟨v, vs', d, ds', p, q, rfl, rfl, rfl, hd, hrest⟩ := trodAll_cons h
    obtain ⟨hr1, hr2⟩ := hr t (by simp)
    exact ⟨p, q, WideElems.Trod_stays hl hr1 hr2 hd (fun x hx => hb.same (hlt x (by simp [hx]))) (fun x hx => hsp x (by simp [hx])),
      trodAll_stays hl hb ts vs' ds' q (fun t ht => hr t (by simp [ht])) hrest (fun x hx => hlt x (by simp [hx])) (fun x hx => hsp x (by simp [hx])), rfl⟩
theorem law_post {f : Func} {s : ChangeSpec} {apart fresh handsOn : Bool} {W W' : World} {args : Array Value} {ds gs : List (DataW H)} {before : List MemPlace} (tb : TypeId) (hl : laidOutB P = true)
    (hW : DataW.Whole enc P f.params.toList s.vars apart W args.toList ds gs before) (hv : s.vars = []) (hres : f.resultTypes = #[tb]) (hb : P.underlying tb = some .bool)
    (hp : f.params.toList.all (fun t => P.readableRec t && Nat.blt t P.types.size) = true) (hfn : (s.fn H ds).results = [.lit (.bool true)] ∧ (s.fn H ds).args = ds ∧ (s.fn H ds).vars = [])
    (hbel : Below W.heap.size W W') : s.post enc P f apart fresh handsOn false W args (.bool true) W' := by
  have hW2 := hW
  have hlt : ∀ x ∈ before, x.block < W.heap.size := fun x hx => hW.lt x hx
  obtain ⟨p, q, hA, hV, hpq, _, _⟩ := hW
  rw [hv] at hV
  obtain ⟨hgs, hq⟩ := trodVars_none hV
  subst hgs; subst hq
  have hpp : before = p := by rw [hpq]; simp
  subst hpp
  have hr : ∀ t ∈ f.params.toList, P.readableRec t = true ∧ t < P.types.size := fun t ht => by
    rw [List.all_eq_true] at hp
    have := hp t ht
    simp only [Bool.and_eq_true] at this
    exact ⟨this.1, Nat.lt_of_lt_of_le (Nat.lt_succ_self t) (Nat.le_of_ble_eq_true this.2)⟩
  refine ⟨ds, [], before, [], before, [], by rw [hv] at hW2 ⊢; exact hW2, ?_, ?_, ?_, World.keptBut_mono (fun x hx => ⟨hx, .inr (.inl hx)⟩) (hbel.frame (· ∈ before)), fun h => by cases h⟩
  · rw [List.append_nil, hfn.1, hres]
    exact trodAll_mk1 (shut_bool hb true)
  · rw [List.append_nil, hfn.2.1]
    exact trodAll_stays hl hbel _ _ _ _ hr hA hlt (fun x hx => by simpa using hlt x hx)
  · rw [List.append_nil, hfn.2.2, hv]
    rfl
end
theorem bd_u32 {x : Int} (h : (Lit.int .u32 x).wf = true) : 0 ≤ x ∧ x < 4294967296 := by
  simp [Lit.wf, IntKind.min, IntKind.max, IntKind.signed, IntKind.bits] at h; omega
end Go.Sl
namespace Go.Sl
open Go.RowKit Go.ChangeShapes Go.WideShapes Go.ChangeAt
inductive Shp where
  | int (k : IntKind)
  | bool
def vIs : Shp → Value → Prop
  | .int k, v => ∃ x, v = .int k x ∧ (Lit.int k x).wf = true
  | .bool, v => ∃ b, v = .bool b
def cellsIs : List Shp → List Value → Prop
  | [], vs => vs = []
  | s :: r, vs => ∃ v vs', vs = v :: vs' ∧ vIs s v ∧ cellsIs r vs'
def colIs (n : Nat) : Shp → Col → Prop
  | .int k, c => ∃ xs, c = .ints k xs ∧ xs.length = n ∧ ∀ x ∈ xs, (Lit.int k x).wf = true
  | .bool, c => ∃ xs, c = .bools xs ∧ xs.length = n
def colsIs (n : Nat) : List Shp → List Col → Prop
  | [], cs => cs = []
  | s :: r, cs => ∃ c cs', cs = c :: cs' ∧ colIs n s c ∧ colsIs n r cs'
theorem cellsIs_append : ∀ {a b : List Shp} {u v : List Value}, cellsIs a u → cellsIs b v → cellsIs (a ++ b) (u ++ v)
  | [], b, u, v, h, h' => by rw [h]; exact h'
  | s :: r, b, u, v, ⟨x, u', e, hx, h⟩, h' => ⟨x, u' ++ v, by rw [e]; rfl, hx, cellsIs_append h h'⟩
theorem cellsIs_get : ∀ {sh : List Shp} {vs : List Value}, cellsIs sh vs → ∀ (j : Nat) s, sh[j]? = some s → ∃ v, vs[j]? = some v ∧ vIs s v
  | [], _, _, j, s, hs => by simp at hs
  | s0 :: r, _, ⟨x, u', e, hx, h⟩, j, s, hs => by
    subst e
    cases j with
    | zero => simp at hs; subst hs; exact ⟨x, rfl, hx⟩
    | succ j => exact cellsIs_get h j s (by simpa using hs)
section
variable (P : Program)
def shpFs (f : TypeId → Option (List Shp)) : Nat → List Field → Option (List Shp)
  | _, [] => some []
  | o, fd :: fs => bif Nat.beq fd.offset o then match f fd.type, shpFs f (o + P.cellsOf fd.type) fs with
      | some a, some b => bif Nat.beq a.length (P.cellsOf fd.type) then some (a ++ b) else none
      | _, _ => none
    else none
def reps (s : List Shp) : Nat → List Shp
  | 0 => []
  | n + 1 => s ++ reps s n
def shpT : Nat → TypeId → Option (List Shp)
  | 0, _ => none
  | d + 1, t => match P.underlying t with
    | some (.int k) => some [.int k]
    | some .bool => some [.bool]
    | some (.struct fs) => match shpFs P (shpT d) 0 fs.toList with
      | some s => bif Nat.beq s.length (P.cellsOf t) then some s else none
      | none => none
    | some (.array n e) => match shpT d e with
      | some s => bif Nat.beq s.length (P.cellsOf e) && Nat.beq (n * P.cellsOf e) (P.cellsOf t) then some (reps s n) else none
      | none => none
    | _ => none
end
section
variable {H : Type} {enc : TypeId × Value → H} {P : Program} {w : World} {base : Nat} {sp : Nat → Bool} {held : Bool}
theorem shpFs_ok {f : TypeId → Option (List Shp)} {n : Nat} (hf : ∀ t sh cs x, f t = some sh → DataW.trod enc P w base sp held n t cs = some x → cellsIs sh cs) {cs : List Value} :
    ∀ (fs : List Field) (o : Nat) (s : List Shp), shpFs P f o fs = some s → (∀ fd ∈ fs, ∃ y, DataW.trod enc P w base sp held n fd.type ((cs.drop fd.offset).take (P.cellsOf fd.type)) = some y) → cellsIs s ((cs.drop o).take s.length)
  | [], o, s, h, _ => by simp only [shpFs, Option.some.injEq] at h; subst h; simp [cellsIs]
  | fd :: fs, o, s, h, hall => by
    simp only [shpFs] at h
    cases ho : Nat.beq fd.offset o with
    | false => rw [ho] at h; cases h
    | true =>
      rw [ho] at h
      have ho := Nat.eq_of_beq_eq_true ho
      simp only [cond_true] at h
      split at h
      · rename_i a b ha hb
        cases hl : Nat.beq a.length (P.cellsOf fd.type) with
        | false => rw [hl] at h; cases h
        | true =>
          rw [hl] at h
          have hl := Nat.eq_of_beq_eq_true hl
          simp only [cond_true, Option.some.injEq] at h
          subst h
          obtain ⟨y, hy⟩ := hall fd (by simp)
          have h1 := hf _ _ _ _ ha hy
          have h2 := shpFs_ok hf fs _ _ hb fun fd' hfd => hall fd' (by simp [hfd])
          have e : (cs.drop o).take (a ++ b).length = (cs.drop fd.offset).take (P.cellsOf fd.type) ++ (cs.drop (o + P.cellsOf fd.type)).take b.length := by
            rw [List.length_append, List.take_add, List.drop_drop, ho, hl]
          rw [e]
          exact cellsIs_append h1 h2
      · cases h
theorem shpT_ok : ∀ (d : Nat) (t : TypeId) (sh : List Shp) (n : Nat) (cs : List Value) (x : DataW H × List MemPlace), shpT P d t = some sh → DataW.trod enc P w base sp held n t cs = some x → cellsIs sh cs
  | 0, t, sh, n, cs, x, h, _ => by simp [shpT] at h
  | d + 1, t, sh, n, cs, x, h, hx => by
    simp only [shpT] at h
    split at h
    · rename_i k hk
      injection h with h; subst h
      obtain ⟨m, rfl, _, hw⟩ := DataW.trod_int hk hx
      exact ⟨_, _, rfl, ⟨m, rfl, hw⟩, rfl⟩
    · rename_i hk
      injection h with h; subst h
      obtain ⟨b, rfl, _⟩ := DataW.trod_bool hk hx
      exact ⟨_, _, rfl, ⟨b, rfl⟩, rfl⟩
    · rename_i fs hk
      split at h
      · rename_i s hs
        cases hl : Nat.beq s.length (P.cellsOf t) with
        | false => rw [hl] at h; cases h
        | true =>
          rw [hl] at h
          have hl := Nat.eq_of_beq_eq_true hl
          simp only [cond_true, Option.some.injEq] at h
          subst h
          obtain ⟨xs, m, _, _, hlen, hxl, hf⟩ := DataW.trod_struct hk hx
          have := shpFs_ok (n := m) (cs := cs) (fun t' sh' cs' x' h1 h2 => shpT_ok d t' sh' m cs' x' h1 h2) fs.toList 0 s hs fun fd hfd => by
            obtain ⟨i, hi⟩ := List.getElem?_of_mem hfd
            have hi' : fs[i]? = some fd := by simpa using hi
            have h1 := hf i fd hi'
            have hlt : i < xs.length := by
              rw [hxl]
              rcases Nat.lt_or_ge i fs.size with h' | h'
              · exact h'
              · rw [Array.getElem?_eq_none h'] at hi'; cases hi'
            rw [List.getElem?_eq_getElem hlt] at h1
            exact ⟨_, h1⟩
          rw [List.drop_zero, hl, ← hlen, List.take_length] at this
          exact this
      · cases h
    · rename_i m e hk
      split at h
      · rename_i s hs
        cases hl : (Nat.beq s.length (P.cellsOf e) && Nat.beq (m * P.cellsOf e) (P.cellsOf t)) with
        | false => rw [hl] at h; cases h
        | true =>
          rw [hl] at h
          simp only [Bool.and_eq_true] at hl
          have hl1 := Nat.eq_of_beq_eq_true hl.1
          have hl2 := Nat.eq_of_beq_eq_true hl.2
          simp only [cond_true, Option.some.injEq] at h
          subst h
          obtain ⟨xs, q, _, _, hlen, hxl, hf⟩ := DataW.trod_array hk hx
          have key : ∀ (j i : Nat), i + j = m → cellsIs (reps s j) ((cs.drop (i * P.cellsOf e)).take (j * P.cellsOf e)) := by
            intro j
            induction j with
            | zero => intro i _; simp [reps, cellsIs]
            | succ j ih =>
              intro i hij
              have h1 := hf i (by omega)
              rw [List.getElem?_eq_getElem (by omega)] at h1
              have h2 := shpT_ok d e s q _ _ hs h1
              have h3 := ih (i + 1) (by omega)
              have e1 : (cs.drop (i * P.cellsOf e)).take ((j + 1) * P.cellsOf e) = (cs.drop (i * P.cellsOf e)).take (P.cellsOf e) ++ (cs.drop ((i + 1) * P.cellsOf e)).take (j * P.cellsOf e) := by
                rw [show (j + 1) * P.cellsOf e = P.cellsOf e + j * P.cellsOf e by rw [Nat.succ_mul]; omega, List.take_add, List.drop_drop, show i * P.cellsOf e + P.cellsOf e = (i + 1) * P.cellsOf e by rw [Nat.succ_mul]]
              rw [e1]
              exact cellsIs_append h2 h3
          have := key m 0 (by omega)
          rw [Nat.zero_mul, List.drop_zero, hl2, ← hlen, List.take_length] at this
          exact this
      · cases h
    · cases h
def colOf : Shp → (Nat → Value) → Nat → Col
  | .int k, V, n => .ints k ((List.range n).map fun i => match V i with | .int _ x => x | _ => 0)
  | .bool, V, n => .bools ((List.range n).map fun i => match V i with | .bool b => b | _ => false)
theorem colOf_ok {s : Shp} {V : Nat → Value} {n : Nat} (h : ∀ i, i < n → vIs s (V i)) : colIs n s (colOf s V n) ∧ (colOf s V n).len = n ∧ ∀ i, i < n → (colOf s V n).at i = V i := by
  cases s with
  | int k =>
    refine ⟨⟨_, rfl, by simp, fun x hx => ?_⟩, by simp [colOf, Col.len], fun i hi => ?_⟩
    · obtain ⟨i, hi, rfl⟩ := List.mem_map.1 hx
      obtain ⟨y, hy, hw⟩ := h i (List.mem_range.1 hi)
      rw [hy]; exact hw
    · obtain ⟨y, hy, hw⟩ := h i hi
      simp [colOf, Col.at, hi, hy]
  | bool =>
    refine ⟨⟨_, rfl, by simp⟩, by simp [colOf, Col.len], fun i hi => ?_⟩
    obtain ⟨y, hy⟩ := h i hi
    simp [colOf, Col.at, hi, hy]
def colsSh : List Shp → Nat → (Nat → List Value) → Nat → List Col
  | [], _, _, _ => []
  | s :: r, j, cs, n => colOf s (fun i => (cs i).getD j undef) n :: colsSh r (j + 1) cs n
theorem colsSh_len : ∀ (sh : List Shp) (j : Nat) (cs : Nat → List Value) (n : Nat), (colsSh sh j cs n).length = sh.length
  | [], _, _, _ => rfl
  | _ :: r, j, cs, n => by simp only [colsSh, List.length_cons, colsSh_len r]
theorem colsSh_ok {cs : Nat → List Value} {n : Nat} : ∀ (sh : List Shp) (j : Nat), (∀ i, i < n → ∀ (m : Nat) s, sh[m]? = some s → vIs s ((cs i).getD (j + m) undef)) →
    colsIs n sh (colsSh sh j cs n) ∧ ∀ (m : Nat) c, (colsSh sh j cs n)[m]? = some c → c.len = n ∧ ∀ i, i < n → c.at i = (cs i).getD (j + m) undef
  | [], j, _ => ⟨rfl, fun m c h => by simp [colsSh] at h⟩
  | s :: r, j, h => by
    have h0 := colOf_ok (s := s) (V := fun i => (cs i).getD j undef) (n := n) fun i hi => h i hi 0 s rfl
    obtain ⟨h1, h2⟩ := colsSh_ok (cs := cs) (n := n) r (j + 1) fun i hi m s' hm => by
      have := h i hi (m + 1) s' (by simpa using hm)
      rwa [show j + (m + 1) = j + 1 + m by omega] at this
    refine ⟨⟨_, _, rfl, h0.1, h1⟩, fun m c hm => ?_⟩
    cases m with
    | zero => simp only [colsSh, List.getElem?_cons_zero, Option.some.injEq] at hm; subst hm; exact ⟨h0.2.1, h0.2.2⟩
    | succ m =>
      have := h2 m c (by simpa [colsSh] using hm)
      rwa [show j + 1 + m = j + (m + 1) by omega] at this
theorem cellOf_world (W : World) (a : Addr) : cellOf (fun b => W.heap[b]?) a = W.cell? a := rfl
theorem open_rows {r : Reach} {b0 : Nat} {t e : TypeId} {v : Value} {dt : DataW H} {ps : List MemPlace} (d : Nat) (ht : P.underlying t = some (.slice e)) {sh : List Shp} (hsh : shpT P d e = some sh) (hce : P.cellsOf e = sh.length)
    (hv : Value.okWide P w r b0 t v) (h : DataW.Trod enc P w base sp held t v dt ps) :
    ∃ (a : Option Addr) (len cap : Nat) (cols : List Col), v = .slice a len cap ∧ colsIs len sh cols ∧ (RowAt (fun b => w.heap[b]?) a len cols ∧ len ≤ cap) := by
  obtain ⟨a0, len0, cap0, rfl⟩ := okWide_slice ht hv
  obtain ⟨fuel, hf⟩ := h
  rcases Go.Deep.open_slice ht hf with ⟨hcs, _⟩ | ⟨a, len, cap, m, n, Dt, Pl, hcs, hb, hl, hm, hmm, _, hx⟩
  · simp only [Value.cells, List.cons.injEq, and_true] at hcs
    injection hcs with e1 e2 e3
    subst e1; subst e2; subst e3
    obtain ⟨h1, h2⟩ := colsSh_ok (cs := fun _ => []) (n := 0) sh 0 fun i hi => absurd hi (Nat.not_lt_zero _)
    refine ⟨none, 0, 0, _, rfl, h1, ⟨fun c hc => ?_, fun i hi => absurd hi (Nat.not_lt_zero _), Nat.zero_le _⟩, Nat.le_refl _⟩
    obtain ⟨k, hk⟩ := List.getElem?_of_mem hc
    exact (h2 k c hk).1
  · simp only [Value.cells, List.cons.injEq, and_true] at hcs
    injection hcs with e1 e2 e3
    subst e1; subst e2; subst e3
    have hml : len0 ≤ m := by rw [hmm]; split <;> omega
    obtain ⟨cs, hcs⟩ := Go.Deep.choose_lt (α := List Value) (p := fun i cs' => w.cells? base (a.add (i * P.cellsOf e)) (P.cellsOf e) = some cs' ∧ DataW.trod enc P w base sp held n e cs' = some (Dt i, Pl i)) (n := len0) fun i hi => hx i (by omega)
    have hcells : ∀ i, i < len0 → cellsIs sh (cs i) := fun i hi => shpT_ok d e sh n _ _ hsh (hcs i hi).2
    obtain ⟨h1, h2⟩ := colsSh_ok (cs := cs) (n := len0) sh 0 fun i hi k s hk => by
      obtain ⟨x, hx1, hx2⟩ := cellsIs_get (hcells i hi) k s hk
      rw [Nat.zero_add, List.getD_eq_getElem?_getD, hx1]
      exact hx2
    refine ⟨some a, len0, cap0, _, rfl, h1, ⟨fun c hc => ?_, fun i hi => ⟨a, rfl, fun j c hj => ?_⟩, by omega⟩, by omega⟩
    · obtain ⟨k, hk⟩ := List.getElem?_of_mem hc
      exact (h2 k c hk).1
    · obtain ⟨_, hlen, hget⟩ := World.cells?_some (hcs i hi).1
      have hj' : j < sh.length := by
        have := lt_of_get hj
        rwa [colsSh_len] at this
      rw [cellOf_world, colsSh_len, ← hce, ← Go.Deep.add_add, hget j (by omega), (h2 j c hj).2 i hi, Nat.zero_add, List.getD_eq_getElem?_getD]
      rw [List.getElem?_eq_getElem (by omega)]
      rfl
end
end Go.Sl
namespace Go.Proofs.Ytpkjjebkpcmkeaa
open Go.ChangeShapes Go.WideShapes Go.ChangeAt Go.RowKit Go.Joins Go.Sl
theorem RootDoes_own : ownKnob Try.prog.godebug = none := by kernel_rfl
theorem RootDoes_laidOut : laidOutB Try.prog = true := by kernel_rfl
set_option maxRecDepth 100000 in
theorem RootDoes_lifted (os : Os) (started : os.Started) (H : Type) (enc : TypeId × Value → H) :
    ReturnsInHanded {} Try.checked os 4 .any (Rows.rootDoesSpec.pre6 enc Try.prog Try.f4 Rows.rootDoesRow.domain false) (Rows.rootDoesSpec.post enc Try.prog Try.f4 false true false false) := by
  refine returnsInHanded_of_change (C := Try.checked) RootDoes_own started (by kernel_rfl) Try.func4
    (ChangeSpec.witness6 (enc := enc) (C := Try.checked) false ⟨#[], #[.slice none 0 0, .slice none 0 0], []⟩ 8 (by kernel_rfl) (by kernel_rfl) (by kernel_rfl) (by kernel_rfl)) ?_
  intro W base args ds gs before hval0 hW _ _
  have hval : ∀ (j : Nat) t v, Try.f4.params[j]? = some t → args[j]? = some v → Value.okWide Try.prog W .any base t v := hval0
  have hW' := hW
  obtain ⟨p, q, hA0, _, _, _, _⟩ := hW
  have hA : DataW.TrodAll enc Try.prog W 0 (fun _ => true) true Try.f4.params.toList args.toList ds p := hA0
  rw [Try.params4] at hA hval
  obtain ⟨v0, v1, d0, d1, p0, p1, rfl, rfl, _, h0, h1⟩ := trodAll_two hA
  obtain ⟨s0, n0, c0, k0, rfl, hk0, hr0⟩ := open_rows 8 Try.underlying22 (sh := [.int .u32]) (by kernel_rfl) (by kernel_rfl) (hval 0 22 v0 rfl rfl) h0
  obtain ⟨_, r0_0, rfl, ⟨x0_0, rfl, hl0_0, hw0_0⟩, hk0⟩ := hk0
  obtain rfl := hk0
  subst hl0_0
  obtain ⟨s1, n1, c1, k1, rfl, hk1, hr1⟩ := open_rows 8 Try.underlying38 (sh := [.int .i64, .int .i64, .int .i64, .int .i64, .int .i64, .int .i64]) (by kernel_rfl) (by kernel_rfl) (hval 1 38 v1 rfl rfl) h1
  obtain ⟨_, r1_0, rfl, ⟨x1_0, rfl, hl1_0, hw1_0⟩, hk1⟩ := hk1
  obtain ⟨_, r1_1, rfl, ⟨x1_1, rfl, hl1_1, hw1_1⟩, hk1⟩ := hk1
  obtain ⟨_, r1_2, rfl, ⟨x1_2, rfl, hl1_2, hw1_2⟩, hk1⟩ := hk1
  obtain ⟨_, r1_3, rfl, ⟨x1_3, rfl, hl1_3, hw1_3⟩, hk1⟩ := hk1
  obtain ⟨_, r1_4, rfl, ⟨x1_4, rfl, hl1_4, hw1_4⟩, hk1⟩ := hk1
  obtain ⟨_, r1_5, rfl, ⟨x1_5, rfl, hl1_5, hw1_5⟩, hk1⟩ := hk1
  obtain rfl := hk1
  subst hl1_0
  clear hA0 hval0
  refine (RootDoes_plain x0_0 x1_0 x1_1 x1_2 x1_3 x1_4 x1_5 s0 c0 s1 c1 hr0 hr1 (fun v hv => bd_u32 (hw0_0 v hv)) (Sat.start W)).mono fun e W' ⟨he, hS⟩ => ?_
  rw [show RootDoes x0_0 x1_0 x1_1 x1_2 x1_3 x1_4 x1_5 = true from rfl] at he
  subst he
  exact ⟨_, rfl, law_post 4 RootDoes_laidOut hW' rfl rfl Try.underlying4 (by kernel_rfl) ⟨rfl, rfl, rfl⟩ hS.below⟩
theorem RootDoes_holds : Rows.RootDoesSaid :=
  OpenClaim.holds_of_wide 4 Try.f4 rfl rfl rfl rfl rfl rfl rfl ⟨rfl, rfl, rfl, rfl, rfl⟩ rfl rfl rfl rfl rfl (by kernel_rfl) Try.func4 (by kernel_rfl)
    (of_decide_eq_true (by kernel_rfl)) (by unfold Func.isWrapper; rw [if_neg (of_decide_eq_false (by kernel_rfl))]; exact ⟨rfl, rfl⟩)
    (fun os started H enc _ => RootDoes_lifted os started H enc)
#print axioms RootDoes_holds
end Go.Proofs.Ytpkjjebkpcmkeaa
