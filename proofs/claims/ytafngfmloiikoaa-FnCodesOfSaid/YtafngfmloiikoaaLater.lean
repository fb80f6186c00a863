/-
  A region that draws its order, whose operations read and whose callees read or lay memory of their own: one walk in the order of the text, in the class of the worlds that came later. By an AI agent.
-/
import Derived.Test.YtafngfmloiikoaaDrawM
import Derived.BigQuiet
namespace Go.Proofs.Ytafngfmloiikoaa
open Go.RowKit

/-- A world that came later: old memory is as it was. -/
structure LaterW (w0 : World) where
  u : World
  ok : Below w0.heap.size w0 u
instance (w0 : World) : Inhabited (LaterW w0) := ⟨⟨w0, Below.refl _ _⟩⟩
theorem wp_region_later {P : Program} {id : Nat} {Q : Exit → Act → World → Prop} {a : Act} {w0 : World} {l : List Oper} (hm : P.follows .mixedOrders = true) (hB : Region.lexB .any l.toArray = true)
    (h : wpQuiet P l.toArray (fun w' => ∃ p : LaterW w0, w' = p.u) (fun a' => ∀ u, Below w0.heap.size w0 u → Q .normal a' u) l a) : (Code.region id l.toArray true).wp P Q a w0 := by
  have e : (fun a' => ∀ w', (∃ p : LaterW w0, w' = p.u) → Q .normal a' w') = (fun a' => ∀ u, Below w0.heap.size w0 u → Q .normal a' u) := by
    funext a'
    apply propext
    constructor
    · intro h u hu
      exact h u ⟨⟨u, hu⟩, rfl⟩
    · rintro h w' ⟨p, rfl⟩
      exact h _ p.ok
  exact wp_region_quiet (C := fun w' => ∃ p : LaterW w0, w' = p.u) hm hB ⟨⟨w0.drew, Below.drew (Below.refl _ _)⟩, rfl⟩ (by rw [e]; simpa using h)
theorem later_of {P : Program} {f : FuncId} {args : Array Value} {w0 : World} {p : LaterW w0} {v : Value}
    (h : Calls P f args p.u fun e w' => e = .returned v ∧ Below p.u.heap.size p.u w') : Calls P f args p.u fun e w'' => e = .returned v ∧ ∃ q : LaterW w0, w'' = q.u :=
  h.mono fun _ w' ⟨he, hb⟩ => ⟨he, ⟨w', ext_trans p.ok hb⟩, rfl⟩

end Go.Proofs.Ytafngfmloiikoaa
