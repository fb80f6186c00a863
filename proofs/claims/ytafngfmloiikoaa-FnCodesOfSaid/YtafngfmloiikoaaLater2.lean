/-
  A region that draws its order, whose operations read and whose callees read or lay memory of their own: one walk in the order of the text, in the class of the worlds that came later. By an AI agent.
-/
import Derived.Test.YtafngfmloiikoaaDrawM
import Derived.BigQuiet
namespace Go.Proofs.Ytafngfmloiikoaa
open Go.RowKit

/-- A world that came later: old memory is as it was. -/
structure LaterV (w0 : World) where
  u : World
  ok : Below w0.heap.size w0 u
instance (w0 : World) : Inhabited (LaterV w0) := ⟨⟨w0, Below.refl _ _⟩⟩
theorem wp_region_later2 {P : Program} {id : Nat} {Q : Exit → Act → World → Prop} {a : Act} {w0 : World} {l : List Oper} (hm : P.follows .mixedOrders = true) (hB : Region.lexB .any l.toArray = true)
    (h : wpQuiet P l.toArray (fun w' => ∃ p : LaterV w0, w' = p.u) (fun a' => ∀ w', (∃ p : LaterV w0, w' = p.u) → Q .normal a' w') l a) : (Code.region id l.toArray true).wp P Q a w0 :=
  wp_region_quiet (C := fun w' => ∃ p : LaterV w0, w' = p.u) hm hB ⟨⟨w0.drew, Below.drew (Below.refl _ _)⟩, rfl⟩ (by simpa using h)
theorem later_of2 {P : Program} {f : FuncId} {args : Array Value} {w0 : World} {p : LaterV w0} {v : Value}
    (h : Calls P f args p.u fun e w' => e = .returned v ∧ Below p.u.heap.size p.u w') : Calls P f args p.u fun e w'' => e = .returned v ∧ ∃ q : LaterV w0, w'' = q.u :=
  h.mono fun _ w' ⟨he, hb⟩ => ⟨he, ⟨w', ext_trans p.ok hb⟩, rfl⟩

macro "go_quiet_later2 " "(" tac:tactic ")" : tactic => `(tactic|
  (refine wp_region_later2 (by kernel_rfl) (by kernel_rfl) ?_
   repeat (go_big_quiet_step ($tac:tactic))
   refine wpQuiet_nil ?_
   intro $(Lean.mkIdent `uL):ident hw'
   obtain ⟨⟨_, $(Lean.mkIdent `hL):ident⟩, hw''⟩ := hw'
   subst hw''))

end Go.Proofs.Ytafngfmloiikoaa
