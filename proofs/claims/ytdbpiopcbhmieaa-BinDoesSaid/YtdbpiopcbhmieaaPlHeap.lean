/-
  DERIVED. What the layers between cells and operations do, as programs over cells, in plain Lean. No program is named.
-/
import Derived.Test.YtdbpiopcbhmieaaPlPg
namespace Go.Sl

/-- A configuration. -/
structure Cf where
  t : Int
  p : Int
  s : Int
def Cf.ok (c : Cf) : Bool := (decide (1 ≤ c.t) && decide (c.t ≤ 16)) && (decide (4 ≤ c.p) && decide (c.p ≤ 1024)) && (decide (10 ≤ c.s) && decide (c.s ≤ 20))
theorem Cf.ok_iff {c : Cf} : c.ok = true ↔ (1 ≤ c.t ∧ c.t ≤ 16) ∧ (4 ≤ c.p ∧ c.p ≤ 1024) ∧ 10 ≤ c.s ∧ c.s ≤ 20 := by
  simp only [Cf.ok, Bool.and_eq_true, decide_eq_true_eq, and_assoc]
def Cf.page (c : Cf) (p : Int) : Bool := decide (0 ≤ p) && decide (p < c.p)
/-- A cell of a page: 0 Info, 1 Foot, 2 Next, 3 Prev, 4 Slots, 5 Taken. -/
def Cf.pc (c : Cf) (p k : Int) : Int := bif c.ok && c.page p then 30 + 4 * c.t + 6 * p + k else -1
def Cf.info (c : Cf) (p : Int) : Int := c.pc p 0
def Cf.foot (c : Cf) (p : Int) : Int := c.pc p 1
def Cf.next (c : Cf) (p : Int) : Int := c.pc p 2
def Cf.prev (c : Cf) (p : Int) : Int := c.pc p 3
def Cf.slots (c : Cf) (p : Int) : Int := c.pc p 4
def Cf.taken (c : Cf) (p : Int) : Int := c.pc p 5
def Cf.cells (c : Cf) : Int := bif c.ok then 30 + 4 * c.t + 6 * c.p else 0
def cBin (k : Int) : Int := bif decide (0 ≤ k) && decide (k < 11) then 2 + k else -1
def cRack (k : Int) : Int := bif decide (0 ≤ k) && decide (k < 9) then 13 + k else -1
def cRoot (k : Int) : Int := bif decide (0 ≤ k) && decide (k < 8) then 22 + k else -1
def Cf.done (c : Cf) (t f : Int) : Int := bif c.ok && (decide (0 ≤ t) && decide (t < c.t)) && (decide (0 ≤ f) && decide (f < 4)) then 30 + 4 * t + f else -1

/-! ### infos -/
def iRight (k l c : Int) : Bool :=
  bif k == 0 then l == 0 && c == 0 else bif k == 1 || k == 2 then decide (1 ≤ l) && decide (l ≤ 1024) && (c == 0) else bif k == 3 then l == 1 && (decide (0 ≤ c) && decide (c ≤ 8)) else false
def iVal (k l c : Int) : Int := bif iRight k l c then k + 16 * l + 65536 * c else 0
structure If where
  k : Int
  l : Int
  c : Int
def iGet (v : Int) : If := bif iRight (v % 16) (v / 16 % 4096) (v / 65536) then ⟨v % 16, v / 16 % 4096, v / 65536⟩ else ⟨0, 0, 0⟩

/-- The logarithm: -1 of what is no number of pages. -/
def logI (n : Int) : Int := if n < 1 then -1 else (Nat.log2 n.toNat : Int)
def binOf (n : Int) : Int := bif decide (n > 1024) then -1 else logI n

section
variable (c : Cf)
def pPush (head p : Int) : Pg Unit :=
  bif c.page p then
    .get head fun h => .put (c.next p) h <| .put (c.prev p) 0 <|
      (bif h == 0 then Pg.ret () else .put (c.prev (h - 1)) (nv (p + 1)) (.ret ())).bind fun _ => .put head (nv (p + 1)) (.ret ())
  else .ret ()
def pPull (head p : Int) : Pg Unit :=
  bif c.page p then
    .get (c.next p) fun n => .get (c.prev p) fun b =>
      (bif b == 0 then Pg.put head n (.ret ()) else .put (c.next (b - 1)) n (.ret ())).bind fun _ =>
      (bif n == 0 then Pg.ret () else .put (c.prev (n - 1)) b (.ret ())).bind fun _ =>
      .put (c.next p) 0 <| .put (c.prev p) 0 (.ret ())
  else .ret ()
def pAdd (p n : Int) : Pg Unit :=
  bif c.page p && (decide (1 ≤ n) && decide (n ≤ c.p - p)) then
    .put (c.info p) (iVal 1 n 0) <| .put (c.foot (p + n - 1)) (nv (p + 1)) <| pPush c (cBin (binOf n)) p
  else .ret ()
/-- How many pages the free span has that begins at a page; 0: none does. -/
def pFree (p : Int) : Pg Int := .get (c.info p) fun v => .ret (bif (iGet v).k == 1 then (iGet v).l else 0)
def pDrop (p : Int) : Pg Int :=
  bif c.page p then
    (pFree c p).bind fun n => (bif decide (0 < n) then pPull c (cBin (binOf n)) p else .ret ()).bind fun _ => .ret n
  else .ret 0
def pFirst (n : Int) : Nat → Int → Pg (Int × Bool)
  | 0, _ => .ret (0, false)
  | f + 1, p => bif c.page p then
      (pFree c p).bind fun l => bif decide (n ≤ l) then .ret (p, true) else .get (c.next p) fun q => pFirst n f (q - 1)
    else .ret (0, false)
def pBins : Nat → Int → Pg (Int × Bool)
  | 0, _ => .ret (0, false)
  | f + 1, k => bif decide (k < 11) then .get (cBin k) fun q => bif c.page (q - 1) then .ret (q - 1, true) else pBins f (k + 1) else .ret (0, false)
def pFind (n : Int) : Pg (Int × Bool) :=
  bif decide (1 ≤ n) && decide (n ≤ c.p) then
    (Pg.get (cBin (binOf n)) fun q => pFirst c n c.p.toNat (q - 1)).bind fun r =>
      bif r.2 then .ret r else pBins c 12 (binOf n + 1)
  else .ret (0, false)
def pUsed (p n : Int) : Pg Unit := .put (c.info p) (iVal 2 n 0) <| .put (c.foot (p + n - 1)) (nv (p + 1)) (.ret ())
def pCount (n : Int) : Pg Unit := .get 0 fun v => .put 0 (nv (v + n)) (.ret ())
def pTake (n : Int) : Pg (Int × Bool) :=
  (pFind c n).bind fun r => bif r.2 then
    (pDrop c r.1).bind fun l => (pUsed c r.1 n).bind fun _ =>
      (bif decide (l > n) then pAdd c (r.1 + n) (l - n) else .ret ()).bind fun _ => (pCount (-n)).bind fun _ => .ret (r.1, true)
  else .ret (0, false)
def pJoin (p border : Int) : Pg Int := (pDrop c p).bind fun l => .put (c.info border) 0 <| .put (c.foot (border - 1)) 0 (.ret l)
def pRelease (p n : Int) : Pg Unit :=
  ((bif p == 0 then Pg.ret (p, n) else .get (c.foot (p - 1)) fun f =>
      bif decide (1 ≤ f) then (pFree c (f - 1)).bind fun l => bif decide (0 < l) then (pJoin c (f - 1) p).bind fun m => .ret (f - 1, n + m) else .ret (p, n) else .ret (p, n)).bind fun a =>
    (bif decide (p + n < c.p) then (pFree c (p + n)).bind fun l => bif decide (0 < l) then (pJoin c (p + n) (p + n)).bind fun m => .ret (a.1, a.2 + m) else .ret a else .ret a)).bind fun a =>
  (pAdd c a.1 a.2).bind fun _ => pCount n
def pShrink (p n m : Int) : Pg Unit := (pUsed c p m).bind fun _ => pRelease c (p + m) (n - m)
def pGrow (p n m : Int) : Pg Bool :=
  bif decide (p + n ≥ c.p) then .ret false else
    (pFree c (p + n)).bind fun l => bif l == 0 || decide (l < m - n) then .ret false else
      (pJoin c (p + n) (p + n)).bind fun _ => (pUsed c p m).bind fun _ =>
        (bif decide (l > m - n) then pAdd c (p + m) (l - (m - n)) else .ret ()).bind fun _ => (pCount (-(m - n))).bind fun _ => .ret true
end
end Go.Sl
