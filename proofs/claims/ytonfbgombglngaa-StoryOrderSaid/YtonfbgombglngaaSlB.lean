/-
  DERIVED. A symbolic machine: what a function's body comes to, read off its operations. Frames as lists of entries, memory of the call's own as a list of chunks. Definitions alone; SlC shows that they are right. No program is named.
-/
import Derived.Test.YtonfbgombglngaaSlA
namespace Go.Sl

inductive Col where
  | ints (k : IntKind) (xs : List Int)
  | bools (xs : List Bool)
  | vals (xs : List Value)
def Col.at : Col → Nat → Value
  | .ints k xs, i => .int k (xs.getD i 0)
  | .bools xs, i => .bool (xs.getD i false)
  | .vals xs, i => xs.getD i undef
def Col.len : Col → Nat
  | .ints _ xs => xs.length
  | .bools xs => xs.length
  | .vals xs => xs.length

/-- What a value points into: a chunk's cells from a place on; a chunk's slice; the element of a row; an object. -/
inductive PK where
  | cell (off : Nat)
  | slice
  | elem (i off : Nat)
  | obj
  | map

/-- What is known of where a value points: nothing; into the chunk k; part by part (of a struct, of several results); of what an interface value holds. -/
inductive Pr where
  | no
  | pt (k : Nat) (pk : PK)
  | many (ps : List Pr)
  | box (p : Pr)

inductive Chunk (σ : Type) where
  | dead
  | cells (b : Nat) (t : TypeId) (cs : List (Value × Pr))
  | roc (b : Nat) (t : TypeId) (vs : List Value)
  | row (a : Option Nat) (t : TypeId) (n cap : Nat) (cols : List Col)
  | ro (a : Option Addr) (n cap : Nat) (cols : List Col)
  | obj (p : Addr) (s : σ)
  | map (b : Nat) (kk vk : IntKind) (f : Int → Option Int)

/-- What a call makes: a slice, an object. -/
inductive Mk (σ : Type) where
  | row (t : TypeId) (cols : List Col)
  | obj (s : σ)
def lenC : List Col → Nat
  | c :: _ => c.len
  | [] => 0

structure Ent where
  s : Nat
  g : Option (Nat × Bool)
  v : Value
  p : Pr

def Pr.isNo : Pr → Bool
  | .no => true
  | _ => false
def mkMany (ps : List Pr) : Pr := bif ps.all Pr.isNo then .no else .many ps
def nos : Nat → List Pr
  | 0 => []
  | n + 1 => .no :: nos n
/-- Of each cell of a value. -/
def cellsPr (v : Value) (p : Pr) : List Pr :=
  match v with
  | .agg cs => match p with
    | .many ps => bif Nat.beq ps.length cs.size then ps else nos cs.size
    | _ => nos cs.size
  | _ => [p]
def zipP : List Value → List Pr → List (Value × Pr)
  | v :: vs, p :: ps => (v, p) :: zipP vs ps
  | _, _ => []
def cellsOf2 (v : Value) (p : Pr) : List (Value × Pr) := zipP v.cells.toList (cellsPr v p)

def look : List Ent → Nat → Option Ent
  | [], _ => none
  | e :: r, t => bif Nat.beq e.s t then some e else look r t

/-- The entry of a slot, if it may be used under this guard. -/
def ent (g : Option (Nat × Bool)) (L : List Ent) (t : Nat) : Option Ent :=
  match look L t with
  | none => none
  | some e => match e.g, g with
    | none, _ => some e
    | some (c, b), some (c', b') => bif Nat.beq c c' && (b == b') then some e else none
    | some _, none => none

def val (g : Option (Nat × Bool)) (L : List Ent) : Operand → Option Value
  | .const v => some v
  | .func f => some (.func (.func f) #[] #[])
  | .global n => some (.pointer (some ⟨n, 0, none⟩))
  | .tmp t => match ent g L t with
    | some e => some e.v
    | none => none
def prov (g : Option (Nat × Bool)) (L : List Ent) : Operand → Pr
  | .tmp t => match ent g L t with
    | some e => e.p
    | none => .no
  | _ => .no
def rho (g : Option (Nat × Bool)) (L : List Ent) (x : Operand) : Value := (val g L x).getD undef
def gIs (d : Nat) : Option (Nat × Bool) → Bool
  | some (c, _) => Nat.beq c d
  | none => false
def del (d : Nat) : List Ent → List Ent
  | [] => []
  | e :: r => bif Nat.beq e.s d || gIs d e.g then del d r else e :: del d r

def gslot (ops : Array Oper) (o : Oper) : Option (Option (Nat × Bool)) :=
  match o.guard with
  | none => some none
  | some (j, b) => match (ops[j]?).bind (·.dst) with
    | some c => some (some (c, b))
    | none => none

/-- What is needed under a guard. -/
def gimp (g : Option (Nat × Bool)) (L : List Ent) (p : Prop) : Prop :=
  match g with
  | none => p
  | some (c, b) => match look L c with
    | some ⟨_, none, .bool t, _⟩ => t = b → p
    | some ⟨_, some _, .bool t, _⟩ => t = b → p
    | _ => p

/-- A computation that looks at no memory. -/
def evalS (P : Program) {α : Type} : Sem α → Option α
  | .pure a => some a
  | .program k => evalS P (k P)
  | .mark _ k => evalS P k
  | _ => none

/-- A mark tells that it is known what a guard is. -/
def marked (c : Nat) (L : List Ent) : Bool := (look L (1000000 + c)).isSome
def pickVal (g : Option (Nat × Bool)) (L : List Ent) (c a b : Operand) : Option Value :=
  match val g L c, c with
  | some (.bool t), .tmp cs => bif marked cs L then (match t with
      | true => (match val g L a with | some v => some v | none => val (some (cs, true)) L a)
      | false => (match val g L b with | some v => some v | none => val (some (cs, false)) L b)) else
    match (match val g L a with | some v => some v | none => val (some (cs, true)) L a), (match val g L b with | some v => some v | none => val (some (cs, false)) L b) with
    | some (.bool x), some (.bool y) =>
      match a, b with
      | .const (.bool true), _ => some (.bool (t || y))
      | _, .const (.bool false) => some (.bool (t && x))
      | _, _ => some (.bool (bif t then x else y))
    | some (.int k x), some (.int k' y) => match decEq k k' with
      | .isTrue _ => some (.int k (bif t then x else y))
      | .isFalse _ => none
    | _, _ => none
  | _, _ => none

def aggB (P : Program) (t : TypeId) : Option Bool :=
  match P.underlying t with
  | some (.struct _) | some (.array _ _) => some true
  | some _ => some false
  | none => none
def sizeP (P : Program) (t : TypeId) : Option Nat :=
  match P.info? t with
  | some i => some i.size
  | none => none

/-- What a load of type t gives out of cells, from a place on. -/
def cellsLoad (P : Program) (t : TypeId) (cs : List (Value × Pr)) (off : Nat) : Option (Value × Pr) :=
  match aggB P t, sizeP P t with
  | some true, some n => bif Nat.ble (off + n) cs.length then some (.agg (((cs.drop off).take n).map (·.1)).toArray, mkMany (((cs.drop off).take n).map (·.2))) else none
  | some false, _ => cs[off]?
  | _, _ => none
/-- .. out of the element i of a row. -/
def rowLoad (P : Program) (t : TypeId) (cols : List Col) (i off : Nat) : Option Value :=
  match aggB P t, sizeP P t with
  | some true, some n => bif Nat.ble (off + n) cols.length then some (.agg (((cols.drop off).take n).map (·.at i)).toArray) else none
  | some false, _ => (cols[off]?).map (·.at i)
  | _, _ => none

/-- What is known of an argument that is handed in. -/
inductive Info (σ : Type) where
  | none
  | row (n : Nat) (cols : List Col)
  | cells (t : TypeId) (vs : List Value)
  | obj (s : σ)
  | many (is : List (Info σ))

structure Res (σ : Type) where
  pre : List Prop
  new : Option σ                        -- the object that came in, behind the call
  rows : List (Mk σ)                    -- slices, and objects, that the call made
  out : List Value → Value              -- what it hands back, of these slices
  outp : Nat → Pr                       -- where that points, the slices' chunks being from this place on

/-- A call: what is reckoned, and what of it the call makes. -/
structure Did (σ : Type) where
  {α : Type}
  x : α
  r : α → Res σ
abbrev Entry (σ : Type) := List (Value × Info σ) → Option (Did σ)

def lookT {σ : Type} : List (Nat × Entry σ) → Nat → Option (Entry σ)
  | [], _ => none
  | (f, e) :: r, g => bif Nat.beq f g then some e else lookT r g

mutual
def infoOf {σ : Type} (K : List (Chunk σ)) : Pr → Info σ
  | .pt k .slice => match K[k]? with
    | some (.row _ _ n _ cols) => .row n cols
    | some (.ro _ n _ cols) => .row n cols
    | _ => .none
  | .pt k .obj => match K[k]? with
    | some (.obj _ s) => .obj s
    | _ => .none
  | .pt k (.cell off) => match K[k]? with
    | some (.cells _ t cs) => bif Nat.beq off 0 then .cells t (cs.map (·.1)) else .none
    | some (.roc _ t vs) => bif Nat.beq off 0 then .cells t vs else .none
    | _ => .none
  | .many ps => .many (infosOf K ps)
  | _ => .none
def infosOf {σ : Type} (K : List (Chunk σ)) : List Pr → List (Info σ)
  | [] => []
  | p :: ps => infoOf K p :: infosOf K ps
end

/-- The objects that are handed in: address and state. -/
def objsV {σ : Type} : Value → Info σ → List (Addr × σ)
  | .pointer (some p), .obj s => [(p, s)]
  | .agg cs, .many is => go cs.toList is
  | _, _ => []
where
  go : List Value → List (Info σ) → List (Addr × σ)
    | .pointer (some p) :: vs, .obj s :: is => (p, s) :: go vs is
    | _ :: vs, _ :: is => go vs is
    | _, _ => []
def objsOf {σ : Type} : List (Value × Info σ) → List (Addr × σ)
  | [] => []
  | (v, i) :: r => objsV v i ++ objsOf r
def objOf {σ : Type} (args : List (Value × Info σ)) : Option (Addr × σ) :=
  match objsOf args with
  | [x] => some x
  | _ => none
/-- The places of the objects that are handed in. -/
def objKs : List Pr → List Nat
  | [] => []
  | .pt k .obj :: r => k :: objKs r
  | .many ps :: r => objK1 ps ++ objKs r
  | _ :: r => objKs r
where
  objK1 : List Pr → List Nat
    | [] => []
    | .pt k .obj :: r => k :: objK1 r
    | _ :: r => objK1 r

/-- A function with a body of Go's. -/
def callable (P : Program) (f : Nat) : Bool :=
  match P.funcs[f]? with
  | some fn => !(fn.name == "runtime.NumGoroutine") && fn.body.isSome
  | none => false

/-- A function value: which one, what it has captured, where that points. -/
def calOf (g : Option (Nat × Bool)) (L : List Ent) (c : Operand) : Option (Nat × List Value × List Pr) :=
  match val g L c with
  | some (.func (.func f) ⟨[]⟩ ⟨caps⟩) => match prov g L c with
    | .many ps => bif Nat.beq ps.length caps.length then some (f, caps, ps) else none
    | _ => some (f, caps, nos caps.length)
  | _ => none
def capArgs {σ : Type} (K : List (Chunk σ)) : List Value → List Pr → List (Value × Info σ)
  | v :: vs, p :: ps => (v, infoOf K p) :: capArgs K vs ps
  | _, _ => []
/-- The method of a type, where it is the type's own and takes the value itself. -/
def methOf (P : Program) (t : TypeId) (name : String) : Option Nat :=
  match P.info? t with
  | some i => match i.methods.find? (·.name == name) with
    | some m => bif m.path.isEmpty then match m.func, P.underlying t with
        | some (f, true), some (.pointer _) => some f
        | some (_, false), some (.pointer _) => none
        | some (f, false), some _ => some f
        | _, _ => none
      else none
    | none => none
  | none => none
def unboxP : Pr → Pr
  | .box p => p
  | _ => .no
/-- A call of a function: which one, the arguments, where they point. -/
def callOf {σ : Type} (P : Program) (g : Option (Nat × Bool)) (L : List Ent) (K : List (Chunk σ)) (o : Oper) : Option (Nat × List (Value × Info σ) × List Pr) :=
  match o.op with
  | .call { callee := .invoke recv name, args, argTypes := _ } => match val g L recv with
    | some (.iface t v) => match methOf P t name with
      | some f => bif args.toList.all (fun x => (val g L x).isSome) && callable P f then
          some (f, (v, infoOf K (unboxP (prov g L recv))) :: (args.toList.map fun x => (rho g L x, infoOf K (prov g L x))), unboxP (prov g L recv) :: (args.toList.map fun x => prov g L x)) else none
      | none => none
    | _ => none
  | .call { callee := .value c, args, argTypes := _ } => match calOf g L c with
    | some (f, caps, cps) =>
      bif args.toList.all (fun x => (val g L x).isSome) && callable P f then
        some (f, (args.toList.map fun x => (rho g L x, infoOf K (prov g L x))) ++ capArgs K caps cps, (args.toList.map fun x => prov g L x) ++ cps) else none
    | none => none
  | _ => none

/-- Whether two values of a type are one, told without a look at memory. -/
def eqFs (P : Program) (eq : TypeId → Value → Value → Option Bool) (xs ys : Array Value) : List Field → Option Bool
  | [] => some true
  | f :: fs => bif f.name == "_" then none else
    match evalS P (Go.part f.type xs f.offset), evalS P (Go.part f.type ys f.offset), eqFs P eq xs ys fs with
    | some a, some b, some s => match eq f.type a b with
      | some r => some (r && s)
      | none => none
    | _, _, _ => none
def eqVal (P : Program) : Nat → TypeId → Value → Value → Option Bool
  | 0, _, _, _ => none
  | d + 1, t, x, y => match P.underlying t, x, y with
    | some (.int _), .int k a, .int k' b => match decEq k k' with
      | .isTrue _ => some (a == b)
      | .isFalse _ => none
    | some .bool, .bool a, .bool b => some (a == b)
    | some (.struct fs), .agg xs, .agg ys => bif P.stoodInHeld t then none else eqFs P (eqVal P d) xs ys fs.toList
    | _, _, _ => none
def eqOf (P : Program) (g : Option (Nat × Bool)) (L : List Ent) (o : Oper) : Option Bool :=
  match o.op with
  | .binOp .eql t x y _ => match val g L x, val g L y with
    | some (.agg xs), some (.agg ys) => bif P.eqGuardType P.depth t then none else eqVal P 8 t (.agg xs) (.agg ys)
    | some (.slice a _ _), some (.slice none _ _) => match P.underlying t with
      | some (.slice _) => some a.isNone
      | _ => none
    | _, _ => none
  | .binOp .neq t x y _ => match val g L x, val g L y with
    | some (.agg xs), some (.agg ys) => bif P.eqGuardType P.depth t then none else (eqVal P 8 t (.agg xs) (.agg ys)).map (!·)
    | some (.slice a _ _), some (.slice none _ _) => match P.underlying t with
      | some (.slice _) => some (!a.isNone)
      | _ => none
    | _, _ => none
  | _ => none

/-- Parts of a struct, put where its fields lie: what is known of each cell. -/
def setFromP (ps : List Pr) (off : Nat) : List Pr → List Pr
  | [] => ps
  | q :: qs => setFromP (ps.set off q) (off + 1) qs
def pfill (place : Nat → Option (Nat × Nat)) : List Pr → List (Nat × Value × Pr) → List Pr
  | ps, [] => ps
  | ps, (i, v, p) :: r => match place i with
    | some (off, _) => pfill place (setFromP ps off (cellsPr v p)) r
    | none => ps
def placesP (P : Program) : List Field → Option (List (Nat × Nat))
  | [] => some []
  | f :: fs => match sizeP P f.type, placesP P fs with
    | some n, some r => some ((f.offset, n) :: r)
    | _, _ => none
/-- What is known of a struct that is built. -/
def buildPr (P : Program) (g : Option (Nat × Bool)) (L : List Ent) (t : TypeId) (parts : List (Nat × Operand)) : Pr :=
  match P.underlying t, P.info? t with
  | some (.struct fs), some i => match placesP P fs.toList, i.zero with
    | some pl, some z => mkMany (pfill (pl[·]?) (nos z.cells.size) (parts.map fun x => (x.1, rho g L x.2, prov g L x.2)))
    | _, _ => .no
  | _, _ => .no
def partPr (P : Program) (t : TypeId) (f : Nat) (p : Pr) : Pr :=
  match P.underlying t, p with
  | some (.struct fs), .many ps => match fs[f]? with
    | some fd => match aggB P fd.type, sizeP P fd.type with
      | some true, some n => mkMany ((ps.drop fd.offset).take n)
      | some false, _ => ps.getD fd.offset .no
      | _, _ => .no
    | none => .no
  | _, _ => .no
def tupPr (i : Nat) : Pr → Pr
  | .many ps => ps.getD i .no
  | _ => .no

/-- What a value that is reckoned alone is known to point to. -/
def alonePr (P : Program) (g : Option (Nat × Bool)) (L : List Ent) (o : Oper) : Pr :=
  match o.op with
  | .build t parts => buildPr P g L t parts.toList
  | .field t x f => partPr P t f (prov g L x)
  | .extract x i => tupPr i (prov g L x)
  | .makeInterface t x => match prov g L x with
    | .no => .no
    | p => bif P.concrete t then .box p else .no
  | .makeFunc _ _ caps => mkMany (caps.toList.map fun x => prov g L x)
  | .nilCheck x => match val g L x with
    | some (.pointer (some _)) => prov g L x
    | _ => .no
  | _ => .no

/-- A byte of a string. -/
def sAt (s : ByteArray) (i : Int) : Int := match s[i.toNat]? with
  | some b => (b.toNat : Int)
  | none => 0
/-- The row that a package's variable is known to be. -/
def findRo {σ : Type} (b : Nat) : Nat → List (Chunk σ) → Option (Nat × Nat × List Col)
  | _, [] => none
  | k, .ro (some ⟨b', 0, none⟩) n _ cols :: r => bif Nat.beq b b' then some (k, n, cols) else findRo b (k + 1) r
  | k, _ :: r => findRo b (k + 1) r
/-- An operation that leaves memory alone: its value, where that points, what is needed. -/
def qstep {σ : Type} (P : Program) (T : List (Nat × Entry σ)) (g : Option (Nat × Bool)) (L : List Ent) (K : List (Chunk σ)) (o : Oper) : Option (Value × Pr × List Prop) :=
  match o.op with
  | .move x | .assign x => match val g L x with
    | some v => some (v, prov g L x, [])
    | none => none
  | .pick c a b => match pickVal g L c a b with
    | some v => some (v, .no, [])
    | none => none
  | .load t x => match prov g L x with
    | .pt k (.cell off) => match K[k]? with
      | some (.cells _ _ cs) => match cellsLoad P t cs off with
        | some (v, p) => some (v, p, [])
        | none => none
      | some (.roc _ _ vs) => match cellsLoad P t (vs.map fun v => (v, .no)) off with
        | some (v, _) => some (v, .no, [])
        | none => none
      | _ => none
    | .pt k (.elem i off) => match K[k]? with
      | some (.row _ _ _ _ cols) => match rowLoad P t cols i off with
        | some v => some (v, .no, [])
        | none => none
      | some (.ro _ _ _ cols) => match rowLoad P t cols i off with
        | some v => some (v, .no, [])
        | none => none
      | _ => none
    | _ => none
  | .fieldAddr s x f => match P.underlying s, prov g L x with
    | some (.struct fields), .pt k pk => match fields[f]?, val g L x with
      | some fd, some (.pointer q) => match sizeP P fd.type with
        | some (_ + 1) => match pk with
          | .cell off => match q with
            | some a => some (.pointer (some (a.add fd.offset)), .pt k (.cell (off + fd.offset)), [])
            | none => none
          | .elem i off => match K[k]? with
            | some .dead => none
            | _ => some (.pointer (q.map (·.add fd.offset)), .pt k (.elem i (off + fd.offset)), [])
          | _ => none
        | _ => none
      | _, _ => none
    | _, _ => none
  | .indexAddr t x ix => match P.underlying t, prov g L x, val g L x, val g L ix with
    | some (.slice e), .pt k .slice, some (.slice a n _), some (.int _ i) => match sizeP P e, K[k]? with
      | some sz, some (.row _ _ _ _ cols) => bif Nat.beq sz cols.length then some (.pointer (a.map fun a => a.add (i.toNat * sz)), .pt k (.elem i.toNat 0), [gimp g L (0 ≤ i ∧ i < (n : Int))]) else none
      | some sz, some (.ro _ _ _ cols) => bif Nat.beq sz cols.length then some (.pointer (a.map fun a => a.add (i.toNat * sz)), .pt k (.elem i.toNat 0), [gimp g L (0 ≤ i ∧ i < (n : Int))]) else none
      | _, _ => none
    | some (.array len e), .pt k (.cell off), some (.pointer (some a)), some (.int _ i) => match ix, sizeP P e with
      | .const _, some sz => bif decide (0 ≤ i) && decide (i < (len : Int)) then some (.pointer (some (a.add (i.toNat * sz))), .pt k (.cell (off + i.toNat * sz)), []) else none
      | .tmp _, some sz => some (.pointer (some (a.add (i.toNat * sz))), .pt k (.cell (off + i.toNat * sz)), [gimp g L (0 ≤ i ∧ i < (len : Int))])
      | _, _ => none
    | some (.array len e), .no, some (.pointer (some a)), some (.int _ i) => match x, sizeP P e with
      | .global b, some sz => match findRo b 0 K with
        | some (k, n, cols) => bif Nat.beq n len && Nat.beq sz cols.length then some (.pointer (some (a.add (i.toNat * sz))), .pt k (.elem i.toNat 0), [gimp g L (0 ≤ i ∧ i < (len : Int))]) else none
        | none => none
      | _, _ => none
    | _, _, _, _ => none
  | .index t x ix => match P.underlying t, val g L x, val g L ix with
    | some .string, some (.string s), some (.int _ i) => some (.int .u8 (sAt s i), .no, [gimp g L (0 ≤ i ∧ i < (s.size : Int))])
    | _, _, _ => none
  | .binOp .quo _ x (.tmp y) _ => match val g L x, val g L (.tmp y) with
    | some (.int k a), some (.int k' b) => match decEq k k' with
      | .isTrue _ => some (.int k (k.wrap (a.tdiv b)), .no, [gimp g L (b ≠ 0)])
      | .isFalse _ => none
    | _, _ => none
  | .binOp .rem _ x (.tmp y) _ => match val g L x, val g L (.tmp y) with
    | some (.int k a), some (.int k' b) => match decEq k k' with
      | .isTrue _ => some (.int k (a.tmod b), .no, [gimp g L (b ≠ 0)])
      | .isFalse _ => none
    | _, _ => none
  | .binOp .shl _ x (.tmp y) _ => match val g L x, val g L (.tmp y) with
    | some (.int k a), some (.int _ b) => some (.int k (k.wrap (a * 2 ^ (min b.toNat k.bits))), .no, [gimp g L (0 ≤ b)])
    | _, _ => none
  | .binOp .shr _ x (.tmp y) _ => match val g L x, val g L (.tmp y) with
    | some (.int k a), some (.int _ b) => some (.int k (a.fdiv (2 ^ (min b.toNat k.bits))), .no, [gimp g L (0 ≤ b)])
    | _, _ => none
  | .select _ _ => none
  | .store _ _ _ => none
  | .lookup t x ix ok => match prov g L x, val g L ix, P.underlying t with
    | .pt k .map, some (.int ki i), some (.map kt et) => match K[k]? with
      | some (.map _ kk vk f) => match decEq ki kk, P.underlying kt, (P.info? et).bind (·.zero) with
        | .isTrue _, some (.int kk'), some (.int vk' 0) => match decEq kk kk', decEq vk vk' with
          | .isTrue _, .isTrue _ => some (bif ok then .tuple #[.int vk ((f i).getD 0), .bool (f i).isSome] else .int vk ((f i).getD 0), .no, [])
          | _, _ => none
        | _, _, _ => none
      | _ => none
    | _, _, _ => none
  | .call { callee := .builtin .append, args := _, argTypes := _ } => none
  | .slice _ _ _ _ _ => none
  | _ => match callOf P g L K o with
    | some (f, args, _) => match lookT T f with
      | some e => match e args with
        | some c => match c.r c.x with
          | ⟨pre, none, [], out, outp⟩ => match outp 0 with
            | .no => some (out [], .no, pre.map (gimp g L))
            | _ => none
          | _ => none
        | _ => none
      | none => none
    | none => match eqOf P g L o with
      | some b => some (.bool b, .no, [])
      | none => bif o.op.operands.all (fun x => (val g L x).isSome) then
          match evalS P (execOp (rho g L) o) with
          | some (.value v) => some (v, alonePr P g L o, [])
          | _ => none
        else none

def addEnt (d : Option Nat) (g : Option (Nat × Bool)) (v : Value) (p : Pr) (L : List Ent) : List Ent :=
  match d with
  | some d => ⟨d, g, v, p⟩ :: del d L
  | none => L

/-- Paths into a body, the last step first. -/
def sub (B : Code) : List Nat → Code
  | [] => B
  | d :: p => match sub B p, d with
    | .seq a _, 0 => a
    | .seq _ b, _ => b
    | .cond _ a _, 0 => a
    | .cond _ _ b, _ => b
    | .block _ c, _ => c
    | .loop c, _ => c
    | .scope c, _ => c
    | c, _ => c
def opsOf : Code → Array Oper
  | .region _ ops _ => ops
  | _ => #[]

/-- What is left to do. -/
inductive Ab where
  | code (p : List Nat)
  | ops (p : List Nat) (i : Nat)
  | blk (id : Nat)
  | again (p : List Nat)      -- the loop at this path goes round again
  | scp (p : List Nat)        -- the scope at this path ends
  | lst (p : List Nat) (is : List Nat)      -- these operations of the region at this path

def exitAb (id : Nat) : List Ab → Option (List Ab)
  | .blk id' :: k => bif id' == id then some k else exitAb id k
  | _ :: k => exitAb id k
  | [] => none

inductive Tree (σ : Type) where
  | ret (v : Value) (p : Pr) (K : List (Chunk σ))
  | br (t : Bool) (a b : Tree σ)
  | need (p : Prop) (t : Tree σ)
  | bind {α : Type} (x : α) (t : α → Tree σ)
  | fresh (t : Nat → Tree σ)
  | freshS (t : Option Nat → Nat → Tree σ)
  | two (a b : Tree σ)
  | stuck (todo : List Ab) (L : List Ent) (K : List (Chunk σ))

def needs {σ : Type} : List Prop → Tree σ → Tree σ
  | [], t => t
  | p :: ps, t => .need p (needs ps t)

/-- A tree, gone on with at its ends. -/
def bindT {σ : Type} : Tree σ → (Value → Pr → List (Chunk σ) → Tree σ) → Tree σ
  | .ret v p K, k => k v p K
  | .br t a b, k => .br t (bindT a k) (bindT b k)
  | .need p t, k => .need p (bindT t k)
  | .bind x t, k => .bind x fun a => bindT (t a) k
  | .fresh t, k => .fresh fun b => bindT (t b) k
  | .freshS t, k => .freshS fun a c => bindT (t a c) k
  | .two a b, k => .two (bindT a k) (bindT b k)
  | .stuck td L K, _ => .need False (.stuck td L K)

/-- What a function's results read. -/
def resVals {σ : Type} (P : Program) (L : List Ent) (K : List (Chunk σ)) : List ResultVar → Option (List (Value × Pr))
  | [] => some []
  | .tmp t :: r => match val none L (.tmp t), resVals P L K r with
    | some v, some vs => some ((v, prov none L (.tmp t)) :: vs)
    | _, _ => none
  | .cell a t :: r => match prov none L (.tmp a), resVals P L K r with
    | .pt k (.cell off), some vs => match K[k]? with
      | some (.cells _ _ cs) => match cellsLoad P t cs off with
        | some (v, p) => some ((v, p) :: vs)
        | none => none
      | _ => none
    | _, _ => none

/-- An operation's guard; the slot that it writes is one of the frame's, and not the guard's. -/
def gs (n : Nat) (ops : Array Oper) (o : Oper) : Option (Option (Nat × Bool)) :=
  match o.dst with
  | some d => bif Nat.blt d n then
      match gslot ops o with
      | some g => bif gIs d g then none else some g
      | none => none
    else none
  | none => gslot ops o

/-- All operations of a region that draws its order, none of which writes. -/
def qall {σ : Type} (P : Program) (T : List (Nat × Entry σ)) (n : Nat) (ops : Array Oper) (K : List (Chunk σ)) : List Oper → List Ent → Option (List Ent × List Prop)
  | [], L => some (L, [])
  | o :: r, L => match gs n ops o with
    | none => none
    | some g => match qstep P T g L K o with
      | none => none
      | some (v, p, ps) => match qall P T n ops K r (addEnt o.dst g v p L) with
        | none => none
        | some (L', ps') => some (L', ps ++ ps')

def keepL (ks : List Nat) : List Ent → List Ent
  | [] => []
  | e :: r => bif ks.any (Nat.beq e.s) then e :: keepL ks r else keepL ks r

/-- Cells given to a stretch of a list. -/
def setFrom {α : Type} (cs : List α) (off : Nat) : List α → List α
  | [] => cs
  | v :: vs => setFrom (cs.set off v) (off + 1) vs
def oneB : Value → Bool
  | .agg _ => false
  | .tuple _ => false
  | _ => true
def oneCells (vs : List Value) : Bool := vs.all oneB

def setCol : Col → Nat → Value → Option Col
  | .ints k xs, i, .int k' x => match decEq k k' with
    | .isTrue _ => some (.ints k (xs.set i x))
    | .isFalse _ => none
  | .bools xs, i, .bool x => some (.bools (xs.set i x))
  | .vals xs, i, v => bif oneB v then some (.vals (xs.set i v)) else none
  | _, _, _ => none
/-- Cells given to the columns from 'off' on, at the element i. -/
def setCols (i : Nat) : Nat → List Col → List Value → Option (List Col)
  | _, cs, [] => some cs
  | 0, c :: cs, v :: vs => match setCol c i v, setCols i 0 cs vs with
    | some c', some cs' => some (c' :: cs')
    | _, _ => none
  | off + 1, c :: cs, vs => match setCols i off cs vs with
    | some cs' => some (c :: cs')
    | none => none
  | _, [], _ :: _ => none

/-- The columns of a type's cells, empty. -/
def colsT (P : Program) : Nat → TypeId → Option (List Col)
  | 0, _ => none
  | d + 1, t => match P.underlying t with
    | some (.int k) => some [.ints k []]
    | some .bool => some [.bools []]
    | some (.struct fs) => go (colsT P d) fs.toList
    | some (.array _ _) => none
    | some _ => some [.vals []]
    | none => none
where
  go (f : TypeId → Option (List Col)) : List Field → Option (List Col)
    | [] => some []
    | fd :: fs => match f fd.type, go f fs with
      | some a, some b => some (a ++ b)
      | _, _ => none
def pushCol : Col → Value → Option Col
  | .ints k xs, .int k' x => match decEq k k' with
    | .isTrue _ => some (.ints k (xs ++ [x]))
    | .isFalse _ => none
  | .bools xs, .bool x => some (.bools (xs ++ [x]))
  | .vals xs, v => bif oneB v then some (.vals (xs ++ [v])) else none
  | _, _ => none
def pushRow : List Col → List Value → Option (List Col × List Value)
  | [], r => some ([], r)
  | c :: cs, v :: r => match pushCol c v, pushRow cs r with
    | some c', some (cs', r') => some (c' :: cs', r')
    | _, _ => none
  | _ :: _, [] => none
def toRows : Nat → List Col → List Value → Option (List Col)
  | 0, cols, [] => some cols
  | 0, _, _ :: _ => none
  | n + 1, cols, vs => match pushRow cols vs with
    | some (cols', r) => toRows n cols' r
    | none => none
def repCol (n : Nat) : Col → Option Col
  | .ints k [x] => some (.ints k (List.replicate n x))
  | .bools [x] => some (.bools (List.replicate n x))
  | .vals [v] => some (.vals (List.replicate n v))
  | _ => none
def repCols (n : Nat) : List Col → Option (List Col)
  | [] => some []
  | c :: cs => match repCol n c, repCols n cs with
    | some c', some cs' => some (c' :: cs')
    | _, _ => none
def appCol : Col → Col → Option Col
  | .ints k xs, .ints k' ys => match decEq k k' with
    | .isTrue _ => some (.ints k (xs ++ ys))
    | .isFalse _ => none
  | .bools xs, .bools ys => some (.bools (xs ++ ys))
  | .vals xs, .vals ys => some (.vals (xs ++ ys))
  | _, _ => none
def appCols : List Col → List Col → Option (List Col)
  | [], [] => some []
  | c :: cs, d :: ds => match appCol c d, appCols cs ds with
    | some e, some es => some (e :: es)
    | _, _ => none
  | _, _ => none
def colB : Col → Bool
  | .vals _ => false
  | _ => true
def partVals (L : List Ent) : List (Nat × Operand) → Option (List (Nat × Value))
  | [] => some []
  | (i, x) :: r => match val none L x, partVals L r with
    | some v, some vs => some ((i, v) :: vs)
    | _, _ => none

def sliceVal (a : Option Nat) (n cap : Nat) : Value := .slice (a.map fun b => ⟨b, 0, none⟩) n cap
/-- Fresh slices, one for each row that a call made. -/
def freshRows {σ : Type} : List (Mk σ) → (List (Option Nat × Nat) → Tree σ) → Tree σ
  | [], k => k []
  | .row _ _ :: rs, k => .freshS fun a cap => freshRows rs fun acs => k ((a, cap) :: acs)
  | .obj _ :: rs, k => .fresh fun b => freshRows rs fun acs => k ((some b, 0) :: acs)
def sliceV {σ : Type} (r : Mk σ) (ac : Option Nat × Nat) : Value :=
  match r with
  | .row _ cols => sliceVal ac.1 (lenC cols) ac.2
  | .obj _ => .pointer (ac.1.map fun b => ⟨b, 0, none⟩)
def sliceC {σ : Type} (r : Mk σ) (ac : Option Nat × Nat) : Chunk σ :=
  match r with
  | .row t cols => .row ac.1 t (lenC cols) ac.2 cols
  | .obj s => match ac.1 with
    | some b => .obj ⟨b, 0, none⟩ s
    | none => .dead
def acOk {σ : Type} (r : Mk σ) (ac : Option Nat × Nat) : Prop :=
  match r with
  | .row _ _ => True
  | .obj _ => ∃ b, ac = (some b, 0)
def acsOk {σ : Type} : List (Mk σ) → List (Option Nat × Nat) → Prop
  | [], [] => True
  | r :: rs, ac :: acs => acOk r ac ∧ acsOk rs acs
  | _, _ => False
def mupd (f : Int → Option Int) (i v : Int) : Int → Option Int := fun x => bif x == i then some v else f x
def mdel (f : Int → Option Int) (i : Int) : Int → Option Int := fun x => bif x == i then none else f x
def mnil : Int → Option Int := fun _ => none
/-- The kinds of a map from integers to integers. -/
def mapKs (P : Program) (t : TypeId) : Option (IntKind × IntKind) :=
  match P.underlying t with
  | some (.map kt et) => match P.underlying kt, P.underlying et with
    | some (.int kk), some (.int vk) => some (kk, vk)
    | _, _ => none
  | _ => none

/-- A slice that append is given to begin with: its place, length, columns. -/
def appDest {σ : Type} (P : Program) (L : List Ent) (K : List (Chunk σ)) (e : TypeId) (x : Operand) : Option (Option Nat × Nat × List Col) :=
  match prov none L x, val none L x with
  | .no, some (.slice none 0 0) => match colsT P 4 e with
    | some cols => some (none, 0, cols)
    | none => none
  | .pt k .slice, some (.slice _ _ _) => match K[k]? with
    | some (.row _ t n _ cols) => bif Nat.beq t e then some (some k, n, cols) else none
    | _ => none
  | _, _ => none
def appSrc {σ : Type} (L : List Ent) (K : List (Chunk σ)) (x : Operand) : Option (Nat × Nat × List Col) :=
  match val none L x, prov none L x with
  | some (.slice _ _ _), .pt k .slice => match K[k]? with
    | some (.row _ _ n _ cols) => some (k, n, cols)
    | some (.ro _ n _ cols) => some (k, n, cols)
    | _ => none
  | _, _ => none
def takeCol (n : Nat) : Col → Col
  | .ints k xs => .ints k (xs.take n)
  | .bools xs => .bools (xs.take n)
  | .vals xs => .vals (xs.take n)
def neK : Option Nat → Nat → Bool
  | some k, j => !(Nat.beq k j)
  | none, _ => true
def killK {σ : Type} (K : List (Chunk σ)) : Option Nat → List (Chunk σ)
  | some k => K.set k .dead
  | none => K

/-- An operation that makes or writes memory: what becomes of value and chunks goes to 'k'. -/
def estep {σ : Type} (P : Program) (T : List (Nat × Entry σ)) (ext : Nat → List (Value × Pr) → List (Chunk σ) → Option (Tree σ)) (L : List Ent) (K : List (Chunk σ)) (o : Oper) (k : Value → Pr → List (Chunk σ) → Tree σ) : Option (Tree σ) :=
  match o.op with
  | .makeMap t none => match mapKs P t with
    | some (kk, vk) => some (.fresh fun b => k (.map (some b)) (.pt K.length .map) (K ++ [.map b kk vk mnil]))
    | none => none
  | .mapUpdate t m i x => match prov none L m, val none L i, val none L x, mapKs P t with
    | .pt c .map, some (.int ki iv), some (.int kx xv), some (kk0, vk0) => match K[c]? with
      | some (.map b kk vk f) => match decEq ki kk, decEq kx vk, decEq kk0 kk with
        | .isTrue _, .isTrue _, .isTrue _ => some (k undef .no (K.set c (.map b kk vk (mupd f iv xv))))
        | _, _, _ => none
      | _ => none
    | _, _, _, _ => none
  | .call { callee := .builtin .clear, args := ⟨[m]⟩, argTypes := ⟨[t]⟩ } => match prov none L m, mapKs P t with
    | .pt c .map, some _ => match K[c]? with
      | some (.map b kk vk _) => some (k (.tuple #[]) .no (K.set c (.map b kk vk mnil)))
      | _ => none
    | _, _ => none
  | .box t x => match val none L x with
    | some v => bif oneCells v.cells.toList then some (.fresh fun b => k (.pointer (some ⟨b, 0, none⟩)) (.pt K.length (.cell 0)) (K ++ [.cells b t (cellsOf2 v (prov none L x))])) else none
    | none => none
  | .alloc t => match P.info? t with
    | some i => match i.zero with
      | some v => bif oneCells v.cells.toList then some (.fresh fun b => k (.pointer (some ⟨b, 0, none⟩)) (.pt K.length (.cell 0)) (K ++ [.cells b t (cellsOf2 v .no)])) else none
      | none => none
    | none => none
  | .store t x y => match prov none L x, val none L y, sizeP P t with
    | .pt c (.cell off), some v, some n => match K[c]? with
      | some (.cells b t0 cs) =>
        bif Nat.beq v.cells.size n && Nat.ble (off + n) cs.length && oneCells v.cells.toList then some (k undef .no (K.set c (.cells b t0 (setFrom cs off (cellsOf2 v (prov none L y)))))) else none
      | _ => none
    | .pt c (.elem i off), some v, some n => match K[c]? with
      | some (.row a t0 m cap cols) =>
        bif Nat.beq v.cells.size n && Nat.ble 1 n then match setCols i off cols v.cells.toList with
          | some cols' => some (k undef .no (K.set c (.row a t0 m cap cols')))
          | none => none
        else none
      | _ => none
    | _, _, _ => none
  | .buildSlice t len parts => match P.underlying t with
    | some (.slice e) => match sizeP P e, colsT P 4 e, P.info? e, partVals L parts.toList with
      | some sz, some cols, some ei, some vals => match ei.zero with
        | some z => match Instr.fill (fun i => some (i * sz, sz)) ((Array.range (len * sz)).map ((bif Nat.beq (len * sz) 0 then #[] else z.cells)[· % (bif Nat.beq (len * sz) 0 then #[] else z.cells).size]!)) vals with
          | some cells => match toRows len cols cells.toList with
            | some cols' => bif Nat.beq sz cols.length && Nat.ble 1 sz && Nat.ble (len * sz) 16777216 then
                some (.fresh fun b => k (sliceVal (some b) len len) (.pt K.length .slice) (K ++ [.row (some b) e len len cols'])) else none
            | none => none
          | none => none
        | none => none
      | _, _, _, _ => none
    | _ => none
  | .makeSlice t l c => match P.underlying t, val none L l, val none L c with
    | some (.slice e), some (.int _ li), some (.int _ ci) => match P.info? e, colsT P 4 e with
      | some ei, some cols => match ei.zero with
        | some z => match pushRow cols z.cells.toList with
          | some (cols1, []) => match repCols li.toNat cols1 with
            | some cols' => bif Nat.beq ei.size cols.length && Nat.ble 1 ei.size && Nat.ble 1 ei.bytes && Nat.beq z.cells.size ei.size then
                some (.need (0 ≤ li ∧ li ≤ ci ∧ (ei.bytes : Int) * ci ≤ 140737488355328) (.fresh fun b => k (sliceVal (some b) li.toNat ci.toNat) (.pt K.length .slice) (K ++ [.row (some b) e li.toNat ci.toNat cols']))) else none
            | none => none
          | _ => none
        | none => none
      | _, _ => none
    | _, _, _ => none
  | .call { callee := .builtin .append, args := ⟨[s, x]⟩, argTypes := ⟨[t, t']⟩ } => match P.underlying t with
    | some (.slice e) => match P.info? e, appDest P L K e s, appSrc L K x with
      | some ei, some (kd, n, cols), some (ks, m, cols2) => match ei.zero, appCols cols cols2 with
        | some z, some cols' => bif Nat.beq t t' && neK kd ks && Nat.beq ei.size cols.length && Nat.beq ei.size cols2.length && Nat.ble 1 ei.size && Nat.ble 1 ei.bytes && Nat.beq z.cells.size ei.size && cols2.all colB then
            some (.need ((n + m) * ei.bytes ≤ 140737488355328) (.freshS fun a cap => k (sliceVal a (n + m) cap) (.pt K.length .slice) (killK K kd ++ [.row a e (n + m) cap cols']))) else none
        | _, _ => none
      | _, _, _ => none
    | _ => none
  | .slice t x lo hi mx => match lo, hi, mx with
    | none, some h, none => match P.underlying t, prov none L x, val none L x, val none L h with
      | some (.slice e), .pt c .slice, some (.slice _ _ _), some (.int _ i) => match sizeP P e, K[c]? with
        | some _, some (.row ra te m cap cols) => some (.need (0 ≤ i ∧ i ≤ (m : Int)) (k (.slice (ra.map fun b => ⟨b, 0, none⟩) i.toNat cap) (.pt K.length .slice) (K.set c .dead ++ [.row ra te i.toNat cap (cols.map (takeCol i.toNat))])))
        | some _, some (.ro ra m cap cols) => some (.need (0 ≤ i ∧ i ≤ (m : Int)) (k (.slice ra i.toNat cap) (.pt K.length .slice) (K ++ [.ro ra i.toNat cap (cols.map (takeCol i.toNat))])))
        | _, _ => none
      | _, _, _, _ => none
    | _, _, _ => none
  | _ => match callOf P none L K o with
    | some (f, args, prs) => match lookT T f with
      | some e => match e args with
        | some c => match objOf args, objKs prs with
          | some (q, st), [j] => some (.bind c.x fun a => needs (c.r a).pre (freshRows (c.r a).rows fun acs => k ((c.r a).out (List.zipWith sliceV (c.r a).rows acs)) ((c.r a).outp K.length) (K.set j (.obj q ((c.r a).new.getD st)) ++ List.zipWith sliceC (c.r a).rows acs)))
          | none, [] => some (.bind c.x fun a => needs (c.r a).pre (freshRows (c.r a).rows fun acs => k ((c.r a).out (List.zipWith sliceV (c.r a).rows acs)) ((c.r a).outp K.length) (K ++ List.zipWith sliceC (c.r a).rows acs)))
          | _, _ => none
        | none => match ext f (List.zip (args.map (·.1)) prs) K with
          | some t => some (bindT t k)
          | none => none
      | none => match ext f (List.zip (args.map (·.1)) prs) K with
        | some t => some (bindT t k)
        | none => none
    | none => none

/-- What is known where a guard is met: its entries hold; it is so. A mark tells that this was asked. -/
def known0 (c : Nat) (b : Bool) : List Ent → List Ent
  | [] => []
  | e :: r => match e.g with
    | some (c', b') => bif Nat.beq c' c then (bif b' == b then ⟨e.s, none, e.v, e.p⟩ :: known0 c b r else known0 c b r) else e :: known0 c b r
    | none => bif Nat.beq e.s c then ⟨c, none, .bool b, .no⟩ :: known0 c b r else e :: known0 c b r
def known (c : Nat) (b : Bool) (L : List Ent) : List Ent := ⟨1000000 + c, none, undef, .no⟩ :: known0 c b L
def guardTree {σ : Type} (mk t b : Bool) (A S : Tree σ) : Tree σ := bif mk then (bif t == b then A else S) else (bif b then .br t A S else .br t S A)

def nopOf (o : Oper) : Oper := { o with op := .move (.const undef), dst := none }
def nopAt (ops : Array Oper) (m : Nat) : Array Oper :=
  match ops[m]? with
  | some o => ops.setIfInBounds m (nopOf o)
  | none => ops
/-- The last operation is behind all others. -/
def lastB (ops : Array Oper) (m : Nat) : Bool :=
  match ops[m]? with
  | some om => Nat.beq ops.size (m + 1) && om.guard.isNone && (List.range m).all (fun j => om.after.any fun e => Region.binds .any e && Nat.beq e.on j) &&
      ops.all (fun o => match o.guard with | some (j, _) => !(Nat.beq j m) | none => true) &&
      (List.range ops.size).all (fun i => ((ops[i]?).map (·.after.all fun e => !Region.binds .any e || Nat.blt e.on i)).getD false) && Region.lexB .any (nopAt ops m)
  | none => false

/-! ### A drawn region that ends in a chain of operations, one behind the other, with at most one other that may come late -/
def nopFrom (ops : Array Oper) (m : Nat) : Array Oper := ops.mapIdx fun i o => bif Nat.ble m i then nopOf o else o
def depsOf (ops : Array Oper) (i : Nat) : List Nat :=
  match ops[i]? with
  | some o => (o.after.toList.filter fun e => Region.binds .any e).map (·.on)
  | none => []
def sweep (ops : Array Oper) : Nat → List Nat → List Nat
  | 0, S => S
  | j + 1, S => sweep ops j (bif S.any (Nat.beq j) then depsOf ops j ++ S else S)
/-- What is listed where the operation m is ready. -/
def reached (ops : Array Oper) (m : Nat) : List Nat := sweep ops m (depsOf ops m)
def tailOk (ops : Array Oper) (u m : Nat) : Bool :=
  Nat.blt m ops.size && ((List.range m).all (fun i => Nat.beq i u || (reached ops m).any (Nat.beq i)) &&
  ((List.range ops.size).all (fun i => Nat.ble i m || (depsOf ops i).any (Nat.beq (i - 1))) &&
  ((Nat.beq u ops.size || ((depsOf ops (m + 1)).any (Nat.beq u) && Nat.blt u m)) &&
  (ops.all (fun o => match o.guard with | some (j, _) => Nat.blt j m | none => true) &&
  ((List.range ops.size).all (fun i => (Nat.blt i m && !(Nat.beq i u)) || ((ops[i]?).map (·.guard.isNone)).getD false) &&
  ((List.range ops.size).all (fun i => ((ops[i]?).map (·.after.all fun e => !Region.binds .any e || Nat.blt e.on i)).getD false) && Region.lexB .any (nopFrom ops m)))))))
def firstBad {σ : Type} (P : Program) (T : List (Nat × Entry σ)) (n : Nat) (ops : Array Oper) (K : List (Chunk σ)) : Nat → List Oper → List Ent → Option Nat
  | _, [], _ => none
  | i, o :: r, L => match gs n ops o with
    | none => none
    | some g => match qstep P T g L K o with
      | none => some i
      | some (v, p, _) => firstBad P T n ops K (i + 1) r (addEnt o.dst g v p L)
def isAt : Option Nat → Nat → Bool
  | some m, i => Nat.beq m i
  | none, _ => false
def lateOf (ops : Array Oper) (m : Nat) : Nat := ((List.range m).find? fun i => !(reached ops m).any (Nat.beq i)).getD ops.size

/-! ### Drawn regions in general: what looks at no own memory is done as soon as it can be; of all else each order is gone through -/
def hasN (i : Nat) (l : List Nat) : Bool := l.any (Nat.beq i)
def rmv (j : Nat) (l : List Nat) : List Nat := l.filter fun x => !(Nat.beq x j)
def tmpsOf : List Operand → List Nat
  | .tmp t :: r => t :: tmpsOf r
  | _ :: r => tmpsOf r
  | [] => []
def rdOf (ops : Array Oper) (o : Oper) : List Nat := tmpsOf o.op.operands.toList ++ (match gslot ops o with | some (some (c, _)) => [c] | _ => [])
/-- The slots that an operation reads, its guard's among them, and their marks. -/
def rdM (ops : Array Oper) (o : Oper) : List Nat := rdOf ops o ++ (rdOf ops o).map (1000000 + ·)
def gIn (rd : List Nat) : Option (Nat × Bool) → Bool
  | none => true
  | some (c, _) => hasN c rd
def keepR (rd : List Nat) : List Ent → List Ent
  | [] => []
  | e :: r => bif hasN e.s rd && gIn rd e.g then e :: keepR rd r else keepR rd r
def frzC {σ : Type} : Chunk σ → Chunk σ
  | .roc b t vs => .roc b t vs
  | .ro a n cap cols => .ro a n cap cols
  | _ => .dead
/-- What nobody writes. -/
def frz {σ : Type} (K : List (Chunk σ)) : List (Chunk σ) := K.map frzC
def frsC {σ : Type} : Chunk σ → Chunk σ
  | .roc b t vs => .roc b t vs
  | .ro a n cap cols => .ro a n cap cols
  | .cells b t cs => .cells b t cs
  | _ => .dead
/-- What no call writes. -/
def frs {σ : Type} (K : List (Chunk σ)) : List (Chunk σ) := K.map frsC
/-- What may change memory, or is a call. -/
def effB (o : Oper) : Bool :=
  match o.op with
  | .call _ => true
  | .store _ _ _ => true
  | .alloc _ => true
  | .box _ _ => true
  | .makeMap _ _ => true
  | .mapUpdate _ _ _ _ => true
  | .buildSlice _ _ _ => true
  | .makeSlice _ _ _ => true
  | .slice _ _ _ _ _ => true
  | _ => false
def effAt (ops : Array Oper) (j : Nat) : Bool :=
  match ops[j]? with
  | some o => effB o
  | none => false
def storeAt (ops : Array Oper) (j : Nat) : Bool :=
  match ops[j]? with
  | some o => (match o.op with | .store _ _ _ => true | _ => false)
  | none => false
def skipB (g : Option (Nat × Bool)) (L : List Ent) : Bool :=
  match g with
  | some (c, b) => (match look L c with
    | some ⟨_, none, .bool t, _⟩ => marked c L && (t == !b)
    | _ => false)
  | none => false
def neD (d : Nat) : Option Nat → Bool
  | some d' => !(Nat.beq d d')
  | none => true
def wideRow (ops : Array Oper) (i : Nat) (d : Nat) : Bool :=
  (List.range ops.size).all fun j => match ops[j]? with
    | some o => (!(hasN d (rdM ops o)) || (hasN i (depsOf ops j) && !(Nat.beq i j))) && (Nat.beq i j || neD d o.dst)
    | none => true
def wideOk (ops : Array Oper) : Bool :=
  (List.range ops.size).all (fun i => ((ops[i]?).map (·.after.all fun e => !Region.binds .any e || Nat.blt e.on i)).getD false) &&
  (List.range ops.size).all fun i => match ops[i]? with
    | some o => (match o.dst with | some d => wideRow ops i d | none => true)
    | none => true
def tryF {σ : Type} (P : Program) (T : List (Nat × Entry σ)) (n : Nat) (ops : Array Oper) (nx : Bool) (Q : List Nat) (L : List Ent) (K : List (Chunk σ)) (i : Nat) : Option (Oper × Option (Nat × Bool) × Value × Pr × List Prop) :=
  match ops[i]? with
  | none => none
  | some o => bif (depsOf ops i).any (fun x => hasN x Q) then none else
    match gs n ops o with
    | none => none
    | some g => bif skipB g L then some (o, none, undef, .no, []) else
      bif effB o then none else
      match qstep P T g (keepR (rdM ops o) L) (frz K) o with
      | some (v, p, ps) => some (o, g, v, p, ps)
      | none => bif Q.all (fun j => !(effAt ops j) || hasN i (reached ops j)) then
          (match qstep P T g (keepR (rdM ops o) L) K o with
          | some (v, p, ps) => some (o, g, v, p, ps)
          | none => none) else
        bif nx && Q.all (fun j => !(storeAt ops j) || hasN i (reached ops j)) then
          (match qstep P T g (keepR (rdM ops o) L) (frs K) o with
          | some (v, p, ps) => some (o, g, v, p, ps)
          | none => none) else none
def firstF {σ : Type} (P : Program) (T : List (Nat × Entry σ)) (n : Nat) (ops : Array Oper) (nx : Bool) (Q : List Nat) (L : List Ent) (K : List (Chunk σ)) : List Nat → Option (Nat × Oper × Option (Nat × Bool) × Value × Pr × List Prop)
  | [] => none
  | i :: r => match tryF P T n ops nx Q L K i with
    | some x => some (i, x)
    | none => firstF P T n ops nx Q L K r
def readyQ (ops : Array Oper) (Q : List Nat) : List Nat := Q.filter fun j => !((depsOf ops j).any fun x => hasN x Q)
def twos {σ : Type} (z : Tree σ) : List (Tree σ) → Tree σ
  | [] => z
  | [t] => t
  | t :: r => .two t (twos z r)

def argEnts : Nat → List (Value × Pr) → List Ent
  | _, [] => []
  | i, (v, p) :: r => ⟨i, none, v, p⟩ :: argEnts (i + 1) r

def isMarked : Operand → List Ent → Bool
  | .tmp x, L => marked x L
  | .const _, _ => true
  | _, _ => false
/-- Marks go with what is picked of what is known, and with what is moved; marks of slots that are written anew go. -/
def wantMark (L : List Ent) (o : Oper) : Bool :=
  match o.op with
  | .pick (.tmp c) a b => marked c L && (match look L c with
    | some ⟨_, _, .bool t, _⟩ => (match t with | true => (match a with | .const (.bool _) => true | .tmp x => marked x L | _ => false) | false => (match b with | .const (.bool _) => true | .tmp x => marked x L | _ => false))
    | _ => false)
  | .move (.tmp x) => marked x L
  | .assign (.tmp x) => marked x L
  | .move (.const _) => true
  | .assign (.const _) => true
  | .binOp _ _ x y _ => isMarked x L && isMarked y L
  | .convert _ _ x => isMarked x L
  | .unOp _ _ x => isMarked x L
  | _ => false
def unmark (o : Oper) (L : List Ent) : List Ent :=
  match o.dst with
  | some d => bif marked d L then del (1000000 + d) L else L
  | none => L
/-- Loops are gone round as often as they go. -/
def unrolls (I : List Nat) : Bool := I.any (Nat.beq 2999999)
def fixMark (n : Nat) (o : Oper) (L L' : List Ent) : List Ent :=
  match o.dst, o.guard with
  | some d, none => bif Nat.ble n 1000000 && wantMark L o then ⟨1000000 + d, none, undef, .no⟩ :: L' else bif marked d L' then del (1000000 + d) L' else L'
  | _, _ => L'
def wEff {σ : Type} (P : Program) (T : List (Nat × Entry σ)) (ext : Nat → List (Value × Pr) → List (Chunk σ) → Option (Tree σ)) (n : Nat) (ops : Array Oper) (z : Tree σ) (go : List Nat → List Ent → List (Chunk σ) → Tree σ) (Q : List Nat) (L : List Ent) (K : List (Chunk σ)) (j : Nat) : Tree σ :=
  match ops[j]? with
  | none => z
  | some o => match gs n ops o with
    | none => z
    | some g => match effB o with
      | false => match qstep P T g (keepR (rdM ops o) L) K o with
        | some (v, p, ps) => needs ps (go (rmv j Q) (fixMark n o L (addEnt o.dst g v p L)) K)
        | none => z
      | true => match g with
        | none => match estep P T ext (keepR (rdM ops o) L) K o (fun v pr K' => go (rmv j Q) (unmark o (addEnt o.dst none v pr L)) K') with
          | some t => t
          | none => z
        | some (c, b) => match look L c with
          | some ⟨_, none, .bool t, _⟩ => bif Nat.ble n 1000000 then
              guardTree (marked c L) t b (match estep P T ext (keepR (rdM ops o) (known c b L)) K o (fun v pr K' => go (rmv j Q) (unmark o (addEnt o.dst none v pr (known c b L))) K') with
                | some A => A
                | none => z) (go (rmv j Q) (addEnt o.dst none undef .no (known c (!b) L)) K) else z
          | _ => z
def wide {σ : Type} (P : Program) (T : List (Nat × Entry σ)) (ext : Nat → List (Value × Pr) → List (Chunk σ) → Option (Tree σ)) (n : Nat) (ops : Array Oper) (nx : Bool) (st : List Nat → List Ent → List (Chunk σ) → Tree σ) (kont : List Ent → List (Chunk σ) → Tree σ) :
    Nat → List Nat → List Ent → List (Chunk σ) → Tree σ
  | 0, Q, L, K => st Q L K
  | m + 1, Q, L, K => match Q with
    | [] => kont L K
    | _ :: _ => match firstF P T n ops nx Q L K Q with
      | some (i, o, g, v, p, ps) => needs ps (wide P T ext n ops nx st kont m (rmv i Q) (fixMark n o L (addEnt o.dst g v p L)) K)
      | none => twos (st Q L K) ((readyQ ops Q).map (wEff P T ext n ops (st Q L K) (wide P T ext n ops nx st kont m) Q L K))
/-- Where the machine is told to stand still. -/
def stopC (p : List Nat) (i : Nat) : Nat := 1000000 + 1000 * p.foldl (fun a d => 4 * a + d + 1) 0 + i
def pathN (p : List Nat) : Nat := p.foldl (fun a d => 4 * a + d + 1) 0
def keepL0 (I : List Nat) (b : Nat) : List Ent → List Ent
  | [] => []
  | e :: r => bif I.any (Nat.beq (b + e.s)) then e :: keepL0 I b r else keepL0 I b r
/-- What is kept of the entries at a loop's head, where that is told. -/
def keepS (I : List Nat) (p : List Nat) (L : List Ent) : List Ent :=
  bif I.any (fun x => Nat.beq (x / 1000000000) (1 + pathN p % 9973)) then keepL0 I (1000000000 * (1 + pathN p % 9973)) L else L
/-- Calls that hand back plain values: named, where that is told. -/
def callB (o : Oper) : Bool :=
  match o.op with
  | .call { callee := .value _, .. } => true
  | .call { callee := .invoke _ _, .. } => true
  | _ => false
def qB {α : Type} (I : List Nat) (g : Option (Nat × Bool)) (o : Oper) (x : Option α) : Option α := bif I.any (Nat.beq 2999998) && callB o && g.isNone then none else x
theorem qB_some {α : Type} {I : List Nat} {g : Option (Nat × Bool)} {o : Oper} {x : Option α} {y : α} (h : qB I g o x = some y) : x = some y := by
  unfold qB at h
  cases hb : (I.any (Nat.beq 2999998) && callB o && g.isNone) with
  | true => rw [hb] at h; cases h
  | false => rw [hb] at h; exact h
def run {σ : Type} (P : Program) (T : List (Nat × Entry σ)) (I : List Nat) : Nat → Code → List ResultVar → Nat → List Ab → List Ent → List (Chunk σ) → Tree σ
  | 0, _, _, _, td, L, K => .stuck td L K
  | f + 1, B, rs, n, td, L, K =>
    let ext : Nat → List (Value × Pr) → List (Chunk σ) → Option (Tree σ) := fun g args K =>
      bif I.any (Nat.beq g) && Nat.blt g 1000000 then match P.funcs[g]? with
        | some fn => match fn.body with
          | some B' => bif Nat.ble args.length fn.ntmps then some (run P T I f B' fn.results.toList fn.ntmps [.code []] (argEnts 0 args) K) else none
          | none => none
        | none => none
      else none
    let finish : Tree σ := match resVals P L K rs with
      | some [(v, p)] => .ret v p K
      | some vs => .ret (.tuple (vs.map (·.1)).toArray) (mkMany (vs.map (·.2))) K
      | none => .stuck td L K
    let lastT : Array Oper → Tree σ := fun ops => match ops[ops.size - 1]? with
      | some om => bif lastB ops (ops.size - 1) then (match gs n ops om with
          | some none => match qall P T n (nopAt ops (ops.size - 1)) K (nopAt ops (ops.size - 1)).toList L with
            | some (L', ps) => match estep P T ext L' K om (fun v pr K' => run P T I f B rs n (td.drop 1) (addEnt om.dst none v pr L') K') with
              | some t => needs ps t
              | none => .stuck td L K
            | none => .stuck td L K
          | _ => .stuck td L K) else .stuck td L K
      | none => .stuck td L K
    let wideT : List Nat → Array Oper → Tree σ := fun p ops => bif wideOk ops then
        wide P T ext n ops (I.all fun x => Nat.ble 1000000 x) (fun Q L K => .need False (.stuck (.lst p Q :: td.drop 1) L K)) (fun L' K' => run P T I f B rs n (td.drop 1) L' K') (ops.size + 1) (List.range ops.size) L K else .stuck td L K
    let tailT : List Nat → Array Oper → Tree σ := fun p ops => match firstBad P T n ops K 0 ops.toList L with
      | some m => bif tailOk ops (lateOf ops m) m then (match qall P T n (nopFrom ops m) K (nopFrom ops m).toList L with
          | some (L', ps) =>
            let A : Unit → Tree σ := fun _ => run P T I f B rs n (.lst p (List.range' m (ops.size - m)) :: td.drop 1) L' K
            bif Nat.beq (lateOf ops m) ops.size then needs ps (A ()) else match (ops[lateOf ops m]?).bind (·.dst) with
              | some d => needs ps (.two (A ()) (run P T I f B rs n (.lst p (m :: lateOf ops m :: List.range' (m + 1) (ops.size - (m + 1))) :: td.drop 1) (del d L') K))
              | none => .stuck td L K
          | none => wideT p ops) else wideT p ops
      | none => wideT p ops
    match td with
    | [] => finish
    | .code p :: k => match sub B p with
      | .skip => run P T I f B rs n k L K
      | .seq _ _ => run P T I f B rs n (.code (0 :: p) :: .code (1 :: p) :: k) L K
      | .cond c _ _ => match val none L c with
        | some (.bool t) => match isMarked c L with
          | true => match t with
            | true => run P T I f B rs n (.code (0 :: p) :: k) L K
            | false => run P T I f B rs n (.code (1 :: p) :: k) L K
          | false => .br t (run P T I f B rs n (.code (0 :: p) :: k) L K) (run P T I f B rs n (.code (1 :: p) :: k) L K)
        | _ => .stuck td L K
      | .block id _ => run P T I f B rs n (.code (0 :: p) :: .blk id :: k) L K
      | .exit id => match exitAb id k with
        | some k' => run P T I f B rs n k' L K
        | none => .stuck td L K
      | .ret => finish
      | .region _ _ false => run P T I f B rs n (.ops p 0 :: k) L K
      | .region _ ops true => match (bif Region.lexB .any ops then qall P T n ops K ops.toList L else none) with
        | some (L', ps) => needs ps (run P T I f B rs n k L' K)
        | none => bif lastB ops (ops.size - 1) && isAt (firstBad P T n ops K 0 ops.toList L) (ops.size - 1) then lastT ops else tailT p ops
      | .scope _ => run P T I f B rs n (.code (0 :: p) :: .scp p :: k) L K
      | .label _ => run P T I f B rs n k L K
      | .loop _ => match unrolls I with
        | true => run P T I f B rs n (.code (0 :: p) :: .again p :: k) L K
        | false => .stuck td (keepS I p L) K
      | _ => .stuck td L K
    | .blk _ :: k => run P T I f B rs n k L K
    | .scp _ :: k => run P T I f B rs n k L K
    | .again p :: k => match unrolls I with
      | true => run P T I f B rs n (.code (0 :: p) :: .again p :: k) L K
      | false => .stuck td L K
    | .lst _ [] :: k => run P T I f B rs n k L K
    | .lst p (i :: is) :: k => match (opsOf (sub B p))[i]? with
      | none => .stuck td L K
      | some o => match gs n (opsOf (sub B p)) o with
        | none => .stuck td L K
        | some g => match qstep P T g L K o with
          | some (v, pr, ps) => needs ps (run P T I f B rs n (.lst p is :: k) (fixMark n o L (addEnt o.dst g v pr L)) K)
          | none => match g with
            | some _ => .stuck td L K
            | none => match estep P T ext L K o (fun v pr K' => run P T I f B rs n (.lst p is :: k) (unmark o (addEnt o.dst none v pr L)) K') with
              | some t => t
              | none => .stuck td L K
    | .ops p i :: k => match I.any (Nat.beq (stopC p i)) with
      | true => .stuck td L K
      | false => match (opsOf (sub B p))[i]? with
        | none => run P T I f B rs n k L K
        | some o => match gs n (opsOf (sub B p)) o with
          | none => .stuck td L K
          | some g => match qB I g o (qstep P T g L K o) with
            | some (v, pr, ps) => needs ps (run P T I f B rs n (.ops p (i + 1) :: k) (fixMark n o L (addEnt o.dst g v pr L)) K)
            | none => match g with
              | some (c, b) => match look L c with
                | some ⟨_, none, .bool t, _⟩ => bif Nat.ble n 1000000 then
                    guardTree (marked c L) t b (match estep P T ext (known c b L) K o (fun v pr K' => run P T I f B rs n (.ops p (i + 1) :: k) (unmark o (addEnt o.dst none v pr (known c b L))) K') with
                      | some A => A
                      | none => .stuck td L K) (run P T I f B rs n (.ops p (i + 1) :: k) (addEnt o.dst none undef .no (known c (!b) L)) K) else .stuck td L K
                | _ => .stuck td L K
              | none => match estep P T ext L K o (fun v pr K' => run P T I f B rs n (.ops p (i + 1) :: k) (unmark o (addEnt o.dst none v pr L)) K') with
                | some t => t
                | none => .stuck td L K

/-- What must be shown of a tree: of each end, of each place where the machine stands still. -/
def Tree.holds {σ : Type} (R : Value → Pr → List (Chunk σ) → Prop) (S : List Ab → List Ent → List (Chunk σ) → Prop) : Tree σ → Prop
  | .ret v p K => R v p K
  | .br t a b => (t = true → a.holds R S) ∧ (t = false → b.holds R S)
  | .need p t => p ∧ (p → t.holds R S)
  | .bind x t => ∀ a, a = x → (t a).holds R S
  | .fresh t => ∀ b, (t b).holds R S
  | .freshS t => ∀ a c, (t a c).holds R S
  | .two a b => a.holds R S ∧ b.holds R S
  | .stuck td L K => S td L K
end Go.Sl
