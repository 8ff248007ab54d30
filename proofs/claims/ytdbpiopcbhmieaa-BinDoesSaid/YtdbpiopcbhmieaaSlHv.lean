/-
  DERIVED. What the texts over this translation share: views, the program's and the reference's, as objects.
-/
import Derived.Test.YtdbpiopcbhmieaaPlVS
import Derived.Test.YtdbpiopcbhmieaaProg
namespace Go.Proofs.Ytdbpiopcbhmieaa
open Go.Sl
inductive Sg where
  | view (s : VS)
  | ref (s : VS)

/-- What the program's view holds. -/
structure VX where
  n : Int
  aw : Option Nat
  cw : Nat
  vals : List Int
  ms : Nat
  fs : Int → Option Int
  mr : Nat
  fr : Int → Option Int
  ar : Option Nat
  cr : Nat
  nr : Nat
  reads : List Int
  mp : Nat
  fp : Int → Option Int
  aq : Option Nat
  cq : Nat
  nq : Nat
  qc : List Int
  qv : List Int
  miss : Int
  stuck : Bool
/-- Its chunks: of one that knows all cells; of one that knows some. -/
def VX.Kw (b : Nat) (x : VX) : List (Chunk Sg) :=
  [.cells b 55 [(.int .i64 x.n, .no), (.iface 52 (.slice (x.aw.map fun b => ⟨b, 0, none⟩) x.vals.length x.cw), .box (.pt 1 .slice)), (.slice (x.aw.map fun b => ⟨b, 0, none⟩) x.vals.length x.cw, .pt 1 .slice), (.map (some x.mr), .pt 2 .map), (.slice (x.ar.map fun b => ⟨b, 0, none⟩) x.nr x.cr, .pt 3 .slice), (.map (some x.mp), .pt 4 .map), (.slice (x.aq.map fun b => ⟨b, 0, none⟩) x.nq x.cq, .pt 5 .slice), (.int .i64 x.miss, .no), (.bool x.stuck, .no)],
   .row x.aw 32 x.vals.length x.cw [.ints .u32 x.vals], .map x.mr .i64 .i64 x.fr, .row x.ar 3 x.nr x.cr [.ints .i64 x.reads], .map x.mp .i64 .i64 x.fp, .row x.aq 46 x.nq x.cq [.ints .i64 x.qc, .ints .u32 x.qv]]
def VX.Kk (b : Nat) (x : VX) : List (Chunk Sg) :=
  [.cells b 55 [(.int .i64 x.n, .no), (.iface 102 (.map (some x.ms)), .box (.pt 1 .map)), (.slice none 0 0, .no), (.map (some x.mr), .pt 2 .map), (.slice (x.ar.map fun b => ⟨b, 0, none⟩) x.nr x.cr, .pt 3 .slice), (.map (some x.mp), .pt 4 .map), (.slice (x.aq.map fun b => ⟨b, 0, none⟩) x.nq x.cq, .pt 5 .slice), (.int .i64 x.miss, .no), (.bool x.stuck, .no)],
   .map x.ms .i64 .u32 x.fs, .map x.mr .i64 .i64 x.fr, .row x.ar 3 x.nr x.cr [.ints .i64 x.reads], .map x.mp .i64 .i64 x.fp, .row x.aq 46 x.nq x.cq [.ints .i64 x.qc, .ints .u32 x.qv]]
def bd32 (x : Int) : Prop := 0 ≤ x ∧ x < 4294967296
/-- What it stands for. -/
structure VOk (w : Bool) (x : VX) (s : VS) : Prop where
  n : s.n = x.n
  nr : x.nr = x.reads.length
  nq : x.nq = x.qc.length
  all : s.all = w
  len : w = true → x.n = x.vals.length
  src : ∀ i : Int, 0 ≤ i → i < x.n → s.src i = bif w then some (x.vals.getD i.toNat 0) else x.fs i
  bv : ∀ v ∈ x.vals, bd32 v
  bs : ∀ i v, x.fs i = some v → bd32 v
  reads : s.reads = x.reads
  fr : ∀ i, (x.fr i).getD 0 = bif x.reads.contains i then 1 else 0
  wrote : s.wrote = x.qc
  ql : x.qv.length = x.qc.length
  fp : ∀ i, x.fp i = (x.qc.idxOf? i).map fun k => (k : Int)
  put : ∀ i, s.put i = (x.qc.idxOf? i).map fun k => x.qv.getD k 0
  bq : ∀ v ∈ x.qv, bd32 v
  miss : s.miss = bif x.stuck then x.miss else -1
  m0 : x.stuck = true → 0 ≤ x.miss
  rl : x.reads.length ≤ x.n.toNat
  wl : x.qc.length ≤ x.n.toNat
  rn : x.reads.Nodup
  wn : x.qc.Nodup
  ri : ∀ i ∈ x.reads, 0 ≤ i ∧ i < x.n
  wi : ∀ i ∈ x.qc, 0 ≤ i ∧ i < x.n
  nb : x.n ≤ 1000000

/-- What the reference's view holds. -/
structure RX where
  n : Int
  ak : Option Nat
  ck : Nat
  nk : Nat
  knows : List Bool
  av : Option Nat
  cv : Nat
  nv : Nat
  val : List Int
  ap : Option Nat
  cp : Nat
  np : Nat
  isput : List Bool
  ato : Option Nat
  cto : Nat
  nt : Nat
  to : List Int
  ar : Option Nat
  cr : Nat
  nr : Nat
  reads : List Int
  aq : Option Nat
  cq : Nat
  nq : Nat
  wrote : List Int
  miss : Int
  all : Bool
def RX.K (b : Nat) (x : RX) : List (Chunk Sg) :=
  [.cells b 107 [(.int .i64 x.n, .no), (.slice (x.ak.map fun b => ⟨b, 0, none⟩) x.nk x.ck, .pt 1 .slice), (.slice (x.av.map fun b => ⟨b, 0, none⟩) x.nv x.cv, .pt 2 .slice), (.slice (x.ap.map fun b => ⟨b, 0, none⟩) x.np x.cp, .pt 3 .slice), (.slice (x.ato.map fun b => ⟨b, 0, none⟩) x.nt x.cto, .pt 4 .slice), (.slice (x.ar.map fun b => ⟨b, 0, none⟩) x.nr x.cr, .pt 5 .slice), (.slice (x.aq.map fun b => ⟨b, 0, none⟩) x.nq x.cq, .pt 6 .slice), (.int .i64 x.miss, .no), (.bool x.all, .no)],
   .row x.ak 4 x.nk x.ck [.bools x.knows], .row x.av 32 x.nv x.cv [.ints .u32 x.val], .row x.ap 4 x.np x.cp [.bools x.isput], .row x.ato 32 x.nt x.cto [.ints .u32 x.to], .row x.ar 3 x.nr x.cr [.ints .i64 x.reads], .row x.aq 3 x.nq x.cq [.ints .i64 x.wrote]]
structure ROk (x : RX) (s : VS) : Prop where
  n : s.n = x.n
  all : s.all = x.all
  nk : x.nk = x.knows.length
  nv : x.nv = x.val.length
  np : x.np = x.isput.length
  nt : x.nt = x.to.length
  nr : x.nr = x.reads.length
  nq : x.nq = x.wrote.length
  lk : x.knows.length = x.n.toNat
  lv : x.val.length = x.n.toNat
  lp : x.isput.length = x.n.toNat
  lt : x.to.length = x.n.toNat
  src : ∀ i : Int, 0 ≤ i → i < x.n → s.src i = bif x.knows.getD i.toNat false then some (x.val.getD i.toNat 0) else none
  put : ∀ i : Int, 0 ≤ i → i < x.n → s.put i = bif x.isput.getD i.toNat false then some (x.to.getD i.toNat 0) else none
  bv : ∀ v ∈ x.val, bd32 v
  bt : ∀ v ∈ x.to, bd32 v
  reads : s.reads = x.reads
  wrote : s.wrote = x.wrote
  miss : s.miss = x.miss
  m0 : x.miss = -1 ∨ 0 ≤ x.miss
  nb : x.n ≤ 1000000
  rl : x.reads.length ≤ x.n.toNat
  wl : x.wrote.length ≤ x.n.toNat
  rn : x.reads.Nodup
  wn : x.wrote.Nodup
  ri : ∀ i ∈ x.reads, 0 ≤ i ∧ i < x.n
  wi : ∀ i ∈ x.wrote, 0 ≤ i ∧ i < x.n ∧ x.isput.getD i.toNat false = true
  pw : ∀ i : Int, 0 ≤ i → i < x.n → x.isput.getD i.toNat false = true → i ∈ x.wrote
  ka : x.all = true → ∀ i : Int, 0 ≤ i → i < x.n → x.knows.getD i.toNat false = true

def D0 : Addr → Sg → Asn := fun _ _ _ => True
def G0 : Hp := fun _ => none
/-- A view in memory. -/
def Dg (p : Addr) : Sg → Asn
  | .view s => fun h => ∃ x : Bool × Nat × VX, (p = ⟨x.2.1, 0, none⟩ ∧ VOk x.1 x.2.2 s) ∧ star (((match x.1 with | true => x.2.2.Kw x.2.1 | false => x.2.2.Kk x.2.1)).map (den D0 G0)) h
  | .ref s => fun h => ∃ x : Nat × RX, (p = ⟨x.1, 0, none⟩ ∧ ROk x.2 s) ∧ star ((x.2.K x.1).map (den D0 G0)) h
theorem mix : Try.prog.follows .mixedOrders = true := by kernel_rfl
def T_nil : List (Nat × Entry Sg) := []
theorem T_nil_ok : TableOk Dg Try.prog T_nil := TableOk.nil Dg _

section
variable {E : World} {G : Hp} {w : World} {p : Addr}
theorem view_unfold {s : VS} (h : Sat E G w [Dg p (.view s)]) : ∃ b x, p = ⟨b, 0, none⟩ ∧ ((VOk true x s ∧ SatK Dg E G w (x.Kw b)) ∨ (VOk false x s ∧ SatK Dg E G w (x.Kk b))) := by
  obtain ⟨⟨k, b, x⟩, ⟨h1, h2⟩, h3⟩ := Sat.of_exists (p := fun x : Bool × Nat × VX => p = ⟨x.2.1, 0, none⟩ ∧ VOk x.1 x.2.2 s) h
  have h4 := h3.unstar
  refine ⟨b, x, h1, ?_⟩
  cases k with
  | true => exact .inl ⟨h2, h4⟩
  | false => exact .inr ⟨h2, h4⟩
theorem view_foldw {s : VS} {b : Nat} {x : VX} {Bs : List Asn} (h : Sat E G w ((x.Kw b).map (den Dg G) ++ Bs)) (ho : VOk true x s) : Sat E G w (Dg ⟨b, 0, none⟩ (.view s) :: Bs) := by
  have h' : Sat E G w ((x.Kw b).map (den D0 G0) ++ Bs) := h
  exact Sat.to_exists_cons (p := fun x : Bool × Nat × VX => (⟨b, 0, none⟩ : Addr) = ⟨x.2.1, 0, none⟩ ∧ VOk x.1 x.2.2 s) (true, b, x) ⟨rfl, ho⟩ h'.star_append
theorem view_foldk {s : VS} {b : Nat} {x : VX} {Bs : List Asn} (h : Sat E G w ((x.Kk b).map (den Dg G) ++ Bs)) (ho : VOk false x s) : Sat E G w (Dg ⟨b, 0, none⟩ (.view s) :: Bs) := by
  have h' : Sat E G w ((x.Kk b).map (den D0 G0) ++ Bs) := h
  exact Sat.to_exists_cons (p := fun x : Bool × Nat × VX => (⟨b, 0, none⟩ : Addr) = ⟨x.2.1, 0, none⟩ ∧ VOk x.1 x.2.2 s) (false, b, x) ⟨rfl, ho⟩ h'.star_append
theorem ref_unfold {s : VS} (h : Sat E G w [Dg p (.ref s)]) : ∃ b x, p = ⟨b, 0, none⟩ ∧ ROk x s ∧ SatK Dg E G w (x.K b) := by
  obtain ⟨⟨b, x⟩, ⟨h1, h2⟩, h3⟩ := Sat.of_exists (p := fun x : Nat × RX => p = ⟨x.1, 0, none⟩ ∧ ROk x.2 s) h
  exact ⟨b, x, h1, h2, h3.unstar⟩
theorem ref_fold {s : VS} {b : Nat} {x : RX} {Bs : List Asn} (h : Sat E G w ((x.K b).map (den Dg G) ++ Bs)) (ho : ROk x s) : Sat E G w (Dg ⟨b, 0, none⟩ (.ref s) :: Bs) := by
  have h' : Sat E G w ((x.K b).map (den D0 G0) ++ Bs) := h
  exact Sat.to_exists_cons (p := fun x : Nat × RX => (⟨b, 0, none⟩ : Addr) = ⟨x.1, 0, none⟩ ∧ ROk x.2 s) (b, x) ⟨rfl, ho⟩ h'.star_append
end
end Go.Proofs.Ytdbpiopcbhmieaa
