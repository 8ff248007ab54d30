/-
  DERIVED. Programs over cells, in plain Lean: what is got and put, one behind the other; run on a view's state. No program is named.
-/
import Derived.Test.YtdbpiopcbhmieaaPlVS
namespace Go.Sl

inductive Pg (α : Type) where
  | ret (a : α)
  | get (i : Int) (k : Int → Pg α)
  | put (i x : Int) (k : Pg α)
def Pg.bind {α β : Type} : Pg α → (α → Pg β) → Pg β
  | .ret a, f => f a
  | .get i k, f => .get i fun v => (k v).bind f
  | .put i x k, f => .put i x (k.bind f)
def Pg.run {α : Type} : Pg α → VS → VS × α
  | .ret a, s => (s, a)
  | .get i k, s => (k (s.get i)).run (s.read i)
  | .put i x k, s => k.run (s.set i x)
theorem Pg.run_ret {α : Type} (a : α) (s : VS) : (Pg.ret a).run s = (s, a) := rfl
theorem Pg.run_get {α : Type} (i : Int) (k : Int → Pg α) (s : VS) : (Pg.get i k).run s = (k (s.get i)).run (s.read i) := rfl
theorem Pg.run_put {α : Type} (i x : Int) (k : Pg α) (s : VS) : (Pg.put i x k).run s = k.run (s.set i x) := rfl
theorem Pg.run_bind {α β : Type} (p : Pg α) (f : α → Pg β) : ∀ s, (p.bind f).run s = (f (p.run s).2).run (p.run s).1 := by
  induction p with
  | ret a => intro s; rfl
  | get i k ih => intro s; exact ih _ _
  | put i x k ih => intro s; exact ih _
theorem Pg.bind_assoc {α β γ : Type} (p : Pg α) (f : α → Pg β) (g : β → Pg γ) : (p.bind f).bind g = p.bind fun a => (f a).bind g := by
  induction p with
  | ret a => rfl
  | get i k ih => simp only [Pg.bind, ih]
  | put i x k ih => simp only [Pg.bind, ih]
theorem Pg.run_cond {α : Type} (b : Bool) (p q : Pg α) (s : VS) : (bif b then p else q).run s = bif b then p.run s else q.run s := by cases b <;> rfl
theorem Pg.run_ite {α : Type} (c : Prop) [Decidable c] (p q : Pg α) (s : VS) : (if c then p else q).run s = if c then p.run s else q.run s := by split <;> rfl
end Go.Sl
