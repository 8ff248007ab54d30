/-
  DERIVED. A symbolic machine: what a function's body comes to, read off its operations. Frames as lists of entries, memory of the call's own as a list of chunks. Definitions alone; SlC shows that they are right. No program is named.
-/
import Derived.Test.YtaenbinoejnecaaSlA
namespace Go.Sl

inductive Col where
  | ints (k : IntKind) (xs : List Int)
  | bools (xs : List Bool)
  | vals (xs : List Value)
def Col.at : Col → Nat → Value
  | .ints k xs, i => .int k (xs.getD i 0)
  | .bools xs, i => .bool (xs.getD i false)
  | .vals xs, i => xs.getD i undef
def Col.len : Col → Nat
  | .ints _ xs => xs.length
  | .bools xs => xs.length
  | .vals xs => xs.length

inductive Chunk (σ : Type) where
  | dead
  | cells (b : Nat) (t : TypeId) (cs : List Value)
  | row (a : Option Nat) (t : TypeId) (n cap : Nat) (cols : List Col)
  | ro (a : Option Addr) (n cap : Nat) (cols : List Col)
  | obj (p : Addr) (s : σ)

/-- What a slot's value points into. -/
inductive PK where
  | cell (off : Nat)
  | slice
  | elem (i off : Nat)
  | obj

structure Ent where
  s : Nat
  g : Option (Nat × Bool)
  v : Value
  p : Option (Nat × PK)

def look : List Ent → Nat → Option Ent
  | [], _ => none
  | e :: r, t => bif Nat.beq e.s t then some e else look r t

/-- The entry of a slot, if it may be used under this guard. -/
def ent (g : Option (Nat × Bool)) (L : List Ent) (t : Nat) : Option Ent :=
  match look L t with
  | none => none
  | some e => match e.g, g with
    | none, _ => some e
    | some (c, b), some (c', b') => bif Nat.beq c c' && (b == b') then some e else none
    | some _, none => none

def val (g : Option (Nat × Bool)) (L : List Ent) : Operand → Option Value
  | .const v => some v
  | .func f => some (.func (.func f) #[] #[])
  | .global n => some (.pointer (some ⟨n, 0, none⟩))
  | .tmp t => match ent g L t with
    | some e => some e.v
    | none => none
def prov (g : Option (Nat × Bool)) (L : List Ent) : Operand → Option (Nat × PK)
  | .tmp t => match ent g L t with
    | some e => e.p
    | none => none
  | _ => none
def rho (g : Option (Nat × Bool)) (L : List Ent) (x : Operand) : Value := (val g L x).getD undef
def gIs (d : Nat) : Option (Nat × Bool) → Bool
  | some (c, _) => Nat.beq c d
  | none => false
def del (d : Nat) : List Ent → List Ent
  | [] => []
  | e :: r => bif Nat.beq e.s d || gIs d e.g then del d r else e :: del d r

def gslot (ops : Array Oper) (o : Oper) : Option (Option (Nat × Bool)) :=
  match o.guard with
  | none => some none
  | some (j, b) => match (ops[j]?).bind (·.dst) with
    | some c => some (some (c, b))
    | none => none

/-- What is needed under a guard. -/
def gimp (g : Option (Nat × Bool)) (L : List Ent) (p : Prop) : Prop :=
  match g with
  | none => p
  | some (c, b) => match look L c with
    | some ⟨_, none, .bool t, _⟩ => t = b → p
    | _ => p

/-- A computation that looks at no memory. -/
def evalS (P : Program) {α : Type} : Sem α → Option α
  | .pure a => some a
  | .program k => evalS P (k P)
  | .mark _ k => evalS P k
  | _ => none

def pickVal (g : Option (Nat × Bool)) (L : List Ent) (c a b : Operand) : Option Value :=
  match val g L c, c with
  | some (.bool t), .tmp cs =>
    match (match val g L a with | some v => some v | none => val (some (cs, true)) L a), (match val g L b with | some v => some v | none => val (some (cs, false)) L b) with
    | some (.bool x), some (.bool y) =>
      match a, b with
      | .const (.bool true), _ => some (.bool (t || y))
      | _, .const (.bool false) => some (.bool (t && x))
      | _, _ => some (.bool (bif t then x else y))
    | some (.int k x), some (.int k' y) => match decEq k k' with
      | .isTrue _ => some (.int k (bif t then x else y))
      | .isFalse _ => none
    | _, _ => none
  | _, _ => none

def aggB (P : Program) (t : TypeId) : Option Bool :=
  match P.underlying t with
  | some (.struct _) | some (.array _ _) => some true
  | some _ => some false
  | none => none
def sizeP (P : Program) (t : TypeId) : Option Nat :=
  match P.info? t with
  | some i => some i.size
  | none => none

/-- What a load of type t gives out of cells, from a place on. -/
def cellsLoad (P : Program) (t : TypeId) (cs : List Value) (off : Nat) : Option Value :=
  match aggB P t, sizeP P t with
  | some true, some n => bif Nat.ble (off + n) cs.length then some (.agg ((cs.drop off).take n).toArray) else none
  | some false, _ => cs[off]?
  | _, _ => none
/-- .. out of the element i of a row. -/
def rowLoad (P : Program) (t : TypeId) (cols : List Col) (i off : Nat) : Option Value :=
  match aggB P t, sizeP P t with
  | some true, some n => bif Nat.ble (off + n) cols.length then some (.agg (((cols.drop off).take n).map (·.at i)).toArray) else none
  | some false, _ => (cols[off]?).map (·.at i)
  | _, _ => none

/-- What is known of an argument that is handed in. -/
inductive Info (σ : Type) where
  | none
  | row (n : Nat) (cols : List Col)
  | obj (s : σ)

structure Res (σ : Type) where
  pre : List Prop
  new : Option σ                        -- the object that came first, behind the call
  rows : List (TypeId × Nat × List Col)    -- slices that the call made
  out : List Value → Value              -- what it hands back, of these slices

abbrev Entry (σ : Type) := List (Value × Info σ) → Option (Res σ)

def lookT {σ : Type} : List (Nat × Entry σ) → Nat → Option (Entry σ)
  | [], _ => none
  | (f, e) :: r, g => bif Nat.beq f g then some e else lookT r g

def infoOf {σ : Type} (K : List (Chunk σ)) : Option (Nat × PK) → Info σ
  | some (k, .slice) => match K[k]? with
    | some (.row _ _ n _ cols) => .row n cols
    | some (.ro _ n _ cols) => .row n cols
    | _ => .none
  | some (k, .obj) => match K[k]? with
    | some (.obj _ s) => .obj s
    | _ => .none
  | _ => .none

/-- A function with a body of Go's. -/
def callable (P : Program) (f : Nat) : Bool :=
  match P.funcs[f]? with
  | some fn => !(fn.name == "runtime.NumGoroutine") && fn.body.isSome
  | none => false

/-- A call of a function: which one, the arguments. -/
def callOf {σ : Type} (P : Program) (g : Option (Nat × Bool)) (L : List Ent) (K : List (Chunk σ)) (o : Oper) : Option (Nat × List (Value × Info σ)) :=
  match o.op with
  | .call { callee := .value (.func f), args, argTypes := _ } =>
    bif args.toList.all (fun x => (val g L x).isSome) && callable P f then some (f, args.toList.map fun x => (rho g L x, infoOf K (prov g L x))) else none
  | _ => none

/-- Whether two values of a type are one, told without a look at memory. -/
def eqFs (P : Program) (eq : TypeId → Value → Value → Option Bool) (xs ys : Array Value) : List Field → Option Bool
  | [] => some true
  | f :: fs => bif f.name == "_" then none else
    match evalS P (Go.part f.type xs f.offset), evalS P (Go.part f.type ys f.offset), eqFs P eq xs ys fs with
    | some a, some b, some s => match eq f.type a b with
      | some r => some (r && s)
      | none => none
    | _, _, _ => none
def eqVal (P : Program) : Nat → TypeId → Value → Value → Option Bool
  | 0, _, _, _ => none
  | d + 1, t, x, y => match P.underlying t, x, y with
    | some (.int _), .int k a, .int k' b => match decEq k k' with
      | .isTrue _ => some (a == b)
      | .isFalse _ => none
    | some .bool, .bool a, .bool b => some (a == b)
    | some (.struct fs), .agg xs, .agg ys => bif P.stoodInHeld t then none else eqFs P (eqVal P d) xs ys fs.toList
    | _, _, _ => none
def eqOf (P : Program) (g : Option (Nat × Bool)) (L : List Ent) (o : Oper) : Option Bool :=
  match o.op with
  | .binOp .eql t x y _ => match val g L x, val g L y with
    | some (.agg xs), some (.agg ys) => bif P.eqGuardType P.depth t then none else eqVal P 8 t (.agg xs) (.agg ys)
    | _, _ => none
  | .binOp .neq t x y _ => match val g L x, val g L y with
    | some (.agg xs), some (.agg ys) => bif P.eqGuardType P.depth t then none else (eqVal P 8 t (.agg xs) (.agg ys)).map (!·)
    | _, _ => none
  | _ => none

/-- An operation that leaves memory alone: its value, where that points, what is needed. -/
def qstep {σ : Type} (P : Program) (T : List (Nat × Entry σ)) (g : Option (Nat × Bool)) (L : List Ent) (K : List (Chunk σ)) (o : Oper) : Option (Value × Option (Nat × PK) × List Prop) :=
  match o.op with
  | .move x | .assign x => match val g L x with
    | some v => some (v, prov g L x, [])
    | none => none
  | .pick c a b => match pickVal g L c a b with
    | some v => some (v, none, [])
    | none => none
  | .load t x => match prov g L x with
    | some (k, .cell off) => match K[k]? with
      | some (.cells _ _ cs) => match cellsLoad P t cs off with
        | some v => some (v, none, [])
        | none => none
      | _ => none
    | some (k, .elem i off) => match K[k]? with
      | some (.row _ _ _ _ cols) => match rowLoad P t cols i off with
        | some v => some (v, none, [])
        | none => none
      | some (.ro _ _ _ cols) => match rowLoad P t cols i off with
        | some v => some (v, none, [])
        | none => none
      | _ => none
    | _ => none
  | .fieldAddr s x f => match P.underlying s, prov g L x with
    | some (.struct fields), some (k, pk) => match fields[f]?, val g L x with
      | some fd, some (.pointer (some a)) => match sizeP P fd.type with
        | some (_ + 1) => match pk with
          | .cell off => some (.pointer (some (a.add fd.offset)), some (k, .cell (off + fd.offset)), [])
          | .elem i off => some (.pointer (some (a.add fd.offset)), some (k, .elem i (off + fd.offset)), [])
          | _ => none
        | _ => none
      | _, _ => none
    | _, _ => none
  | .indexAddr t x ix => match P.underlying t, prov g L x, val g L x, val g L ix with
    | some (.slice e), some (k, .slice), some (.slice a n _), some (.int _ i) => match sizeP P e, K[k]? with
      | some sz, some (.row _ _ _ _ cols) => bif Nat.beq sz cols.length then some (.pointer (a.map fun a => a.add (i.toNat * sz)), some (k, .elem i.toNat 0), [gimp g L (0 ≤ i ∧ i < (n : Int))]) else none
      | some sz, some (.ro _ _ _ cols) => bif Nat.beq sz cols.length then some (.pointer (a.map fun a => a.add (i.toNat * sz)), some (k, .elem i.toNat 0), [gimp g L (0 ≤ i ∧ i < (n : Int))]) else none
      | _, _ => none
    | some (.array len e), some (k, .cell off), some (.pointer (some a)), some (.int _ i) => match ix, sizeP P e with
      | .const _, some sz => bif decide (0 ≤ i) && decide (i < (len : Int)) then some (.pointer (some (a.add (i.toNat * sz))), some (k, .cell (off + i.toNat * sz)), []) else none
      | _, _ => none
    | _, _, _, _ => none
  | .binOp .quo _ x (.tmp y) _ => match val g L x, val g L (.tmp y) with
    | some (.int k a), some (.int k' b) => match decEq k k' with
      | .isTrue _ => some (.int k (k.wrap (a.tdiv b)), none, [gimp g L (b ≠ 0)])
      | .isFalse _ => none
    | _, _ => none
  | .binOp .rem _ x (.tmp y) _ => match val g L x, val g L (.tmp y) with
    | some (.int k a), some (.int k' b) => match decEq k k' with
      | .isTrue _ => some (.int k (a.tmod b), none, [gimp g L (b ≠ 0)])
      | .isFalse _ => none
    | _, _ => none
  | .binOp .shl _ x (.tmp y) _ => match val g L x, val g L (.tmp y) with
    | some (.int k a), some (.int _ b) => some (.int k (k.wrap (a * 2 ^ (min b.toNat k.bits))), none, [gimp g L (0 ≤ b)])
    | _, _ => none
  | .binOp .shr _ x (.tmp y) _ => match val g L x, val g L (.tmp y) with
    | some (.int k a), some (.int _ b) => some (.int k (a.fdiv (2 ^ (min b.toNat k.bits))), none, [gimp g L (0 ≤ b)])
    | _, _ => none
  | .select _ _ => none
  | _ => match callOf P g L K o with
    | some (f, args) => match lookT T f with
      | some e => match e args with
        | some ⟨pre, none, [], out⟩ => some (out [], none, pre.map (gimp g L))
        | _ => none
      | none => none
    | none => match eqOf P g L o with
      | some b => some (.bool b, none, [])
      | none => bif o.op.operands.all (fun x => (val g L x).isSome) then
          match evalS P (execOp (rho g L) o) with
          | some (.value v) => some (v, none, [])
          | _ => none
        else none

def addEnt (d : Option Nat) (g : Option (Nat × Bool)) (v : Value) (p : Option (Nat × PK)) (L : List Ent) : List Ent :=
  match d with
  | some d => ⟨d, g, v, p⟩ :: del d L
  | none => L

/-- Paths into a body, the last step first. -/
def sub (B : Code) : List Nat → Code
  | [] => B
  | d :: p => match sub B p, d with
    | .seq a _, 0 => a
    | .seq _ b, _ => b
    | .cond _ a _, 0 => a
    | .cond _ _ b, _ => b
    | .block _ c, _ => c
    | .loop c, _ => c
    | c, _ => c
def opsOf : Code → Array Oper
  | .region _ ops _ => ops
  | _ => #[]

/-- What is left to do. -/
inductive Ab where
  | code (p : List Nat)
  | ops (p : List Nat) (i : Nat)
  | blk (id : Nat)
  | again (p : List Nat)      -- the loop at this path goes round again

def exitAb (id : Nat) : List Ab → Option (List Ab)
  | .blk id' :: k => bif id' == id then some k else exitAb id k
  | _ :: k => exitAb id k
  | [] => none

inductive Tree (σ : Type) where
  | ret (v : Value) (K : List (Chunk σ))
  | br (t : Bool) (a b : Tree σ)
  | need (p : Prop) (t : Tree σ)
  | fresh (t : Nat → Tree σ)
  | stuck (todo : List Ab) (L : List Ent) (K : List (Chunk σ))

def needs {σ : Type} : List Prop → Tree σ → Tree σ
  | [], t => t
  | p :: ps, t => .need p (needs ps t)

/-- What a function's results read. -/
def resVals {σ : Type} (P : Program) (L : List Ent) (K : List (Chunk σ)) : List ResultVar → Option (List Value)
  | [] => some []
  | .tmp t :: r => match val none L (.tmp t), resVals P L K r with
    | some v, some vs => some (v :: vs)
    | _, _ => none
  | .cell a t :: r => match prov none L (.tmp a), resVals P L K r with
    | some (k, .cell off), some vs => match K[k]? with
      | some (.cells _ _ cs) => match cellsLoad P t cs off with
        | some v => some (v :: vs)
        | none => none
      | _ => none
    | _, _ => none

/-- An operation's guard; the slot that it writes is one of the frame's, and not the guard's. -/
def gs (n : Nat) (ops : Array Oper) (o : Oper) : Option (Option (Nat × Bool)) :=
  match o.dst with
  | some d => bif Nat.blt d n then
      match gslot ops o with
      | some g => bif gIs d g then none else some g
      | none => none
    else none
  | none => gslot ops o

/-- All operations of a region that draws its order, none of which writes. -/
def qall {σ : Type} (P : Program) (T : List (Nat × Entry σ)) (n : Nat) (ops : Array Oper) (K : List (Chunk σ)) : List Oper → List Ent → Option (List Ent × List Prop)
  | [], L => some (L, [])
  | o :: r, L => match gs n ops o with
    | none => none
    | some g => match qstep P T g L K o with
      | none => none
      | some (v, p, ps) => match qall P T n ops K r (addEnt o.dst g v p L) with
        | none => none
        | some (L', ps') => some (L', ps ++ ps')

def keepL (ks : List Nat) : List Ent → List Ent
  | [] => []
  | e :: r => bif ks.any (Nat.beq e.s) then e :: keepL ks r else keepL ks r

/-- Cells given to a stretch of a list. -/
def setFrom (cs : List Value) (off : Nat) : List Value → List Value
  | [] => cs
  | v :: vs => setFrom (cs.set off v) (off + 1) vs
def oneCells (vs : List Value) : Bool := vs.all fun v => match v with | .agg _ => false | .tuple _ => false | _ => true

def setCol : Col → Nat → Value → Option Col
  | .ints k xs, i, .int k' x => match decEq k k' with
    | .isTrue _ => some (.ints k (xs.set i x))
    | .isFalse _ => none
  | .bools xs, i, .bool x => some (.bools (xs.set i x))
  | .vals xs, i, .pointer a => some (.vals (xs.set i (.pointer a)))
  | .vals xs, i, .slice a n c => some (.vals (xs.set i (.slice a n c)))
  | .vals xs, i, .map r => some (.vals (xs.set i (.map r)))
  | _, _, _ => none
def setCols (cols : List Col) (i : Nat) : Nat → List Value → Option (List Col)
  | _, [] => some cols
  | off, v :: vs => match cols[off]? with
    | some c => match setCol c i v with
      | some c' => setCols (cols.set off c') i (off + 1) vs
      | none => none
    | none => none

/-- An operation that makes or writes memory: what becomes of value and chunks goes to 'k'. -/
def estep {σ : Type} (P : Program) (L : List Ent) (K : List (Chunk σ)) (o : Oper) (k : Value → Option (Nat × PK) → List (Chunk σ) → Tree σ) : Option (Tree σ) :=
  match o.op with
  | .box t x => match val none L x with
    | some v => bif oneCells v.cells.toList then some (.fresh fun b => k (.pointer (some ⟨b, 0, none⟩)) (some (K.length, .cell 0)) (K ++ [.cells b t v.cells.toList])) else none
    | none => none
  | .alloc t => match P.info? t with
    | some i => match i.zero with
      | some v => bif oneCells v.cells.toList then some (.fresh fun b => k (.pointer (some ⟨b, 0, none⟩)) (some (K.length, .cell 0)) (K ++ [.cells b t v.cells.toList])) else none
      | none => none
    | none => none
  | .store t x y => match prov none L x, val none L y, sizeP P t with
    | some (c, .cell off), some v, some n => match K[c]? with
      | some (.cells b t0 cs) =>
        bif Nat.beq v.cells.size n && Nat.ble (off + n) cs.length && oneCells v.cells.toList then some (k undef none (K.set c (.cells b t0 (setFrom cs off v.cells.toList)))) else none
      | _ => none
    | _, _, _ => none
  | _ => none

def run {σ : Type} (P : Program) (T : List (Nat × Entry σ)) (B : Code) (rs : List ResultVar) (n : Nat) : Nat → List Ab → List Ent → List (Chunk σ) → Tree σ
  | 0, td, L, K => .stuck td L K
  | f + 1, td, L, K =>
    let finish : Tree σ := match resVals P L K rs with
      | some [v] => .ret v K
      | some vs => .ret (.tuple vs.toArray) K
      | none => .stuck td L K
    match td with
    | [] => finish
    | .code p :: k => match sub B p with
      | .skip => run P T B rs n f k L K
      | .seq _ _ => run P T B rs n f (.code (0 :: p) :: .code (1 :: p) :: k) L K
      | .cond c _ _ => match val none L c with
        | some (.bool t) => .br t (run P T B rs n f (.code (0 :: p) :: k) L K) (run P T B rs n f (.code (1 :: p) :: k) L K)
        | _ => .stuck td L K
      | .block id _ => run P T B rs n f (.code (0 :: p) :: .blk id :: k) L K
      | .exit id => match exitAb id k with
        | some k' => run P T B rs n f k' L K
        | none => .stuck td L K
      | .ret => finish
      | .region _ _ false => run P T B rs n f (.ops p 0 :: k) L K
      | .region _ ops true => bif Region.lexB .any ops then
          match qall P T n ops K ops.toList L with
          | some (L', ps) => needs ps (run P T B rs n f k L' K)
          | none => .stuck td L K
        else .stuck td L K
      | _ => .stuck td L K
    | .blk _ :: k => run P T B rs n f k L K
    | .again _ :: _ => .stuck td L K
    | .ops p i :: k => match (opsOf (sub B p))[i]? with
      | none => run P T B rs n f k L K
      | some o => match gs n (opsOf (sub B p)) o with
        | none => .stuck td L K
        | some g => match qstep P T g L K o with
          | some (v, pr, ps) => needs ps (run P T B rs n f (.ops p (i + 1) :: k) (addEnt o.dst g v pr L) K)
          | none => match g with
            | some _ => .stuck td L K
            | none => match estep P L K o (fun v pr K' => run P T B rs n f (.ops p (i + 1) :: k) (addEnt o.dst none v pr L) K') with
              | some t => t
              | none => .stuck td L K

/-- What must be shown of a tree: of each end, of each place where the machine stands still. -/
def Tree.holds {σ : Type} (R : Value → List (Chunk σ) → Prop) (S : List Ab → List Ent → List (Chunk σ) → Prop) : Tree σ → Prop
  | .ret v K => R v K
  | .br t a b => (t = true → a.holds R S) ∧ (t = false → b.holds R S)
  | .need p t => p ∧ (p → t.holds R S)
  | .fresh t => ∀ b, (t b).holds R S
  | .stuck td L K => S td L K
end Go.Sl
