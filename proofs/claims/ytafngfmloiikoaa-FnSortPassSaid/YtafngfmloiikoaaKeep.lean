/-
  CELLS of letters kept beside calls that make memory. By an AI agent.
-/
import Derived.Test.YtafngfmloiikoaaSo
namespace Go.Proofs.Ytafngfmloiikoaa
open Go.RowKit

theorem keep6' {u v x : World} {a0 a1 : Addr} {v0 v1 : Value} {A : Option Addr} {n c : Nat} {ls : List Ltr} (hb : Below u.heap.size u v)
    (h : u.cell? a0 = some v0 ∧ u.cell? a1 = some v1 ∧ Hid (LS u A n c ls) ∧ Hid (Below x.heap.size x u)) :
    v.cell? a0 = some v0 ∧ v.cell? a1 = some v1 ∧ Hid (LS v A n c ls) ∧ Hid (Below x.heap.size x v) :=
  ⟨cell_later hb h.1, cell_later hb h.2.1, Lib.hid (h.2.2.1.out.ext hb), Lib.hid (ext_trans h.2.2.2.out hb)⟩
theorem ls4 {u x : World} {a0 a1 : Addr} {v0 v1 : Value} {A : Option Addr} {n c : Nat} {ls : List Ltr}
    (h : u.cell? a0 = some v0 ∧ u.cell? a1 = some v1 ∧ Hid (LS u A n c ls) ∧ Hid (Below x.heap.size x u)) : LS u A n c ls := h.2.2.1.out
theorem bl4 {u x : World} {a0 a1 : Addr} {v0 v1 : Value} {A : Option Addr} {n c : Nat} {ls : List Ltr}
    (h : u.cell? a0 = some v0 ∧ u.cell? a1 = some v1 ∧ Hid (LS u A n c ls) ∧ Hid (Below x.heap.size x u)) : Below x.heap.size x u := h.2.2.2.out

end Go.Proofs.Ytafngfmloiikoaa
