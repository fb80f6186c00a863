/-
  LETTERS of the call's own: where they lie, and that they stay apart. By an AI agent.
-/
import Derived.Test.YtafngfmloiikoaaMark2
namespace Go.Proofs.Ytafngfmloiikoaa
open Go.RowKit

/-- A slice's block lies between two numbers. -/
def Rng (lo hi : Nat) (v : Value) : Prop := ∀ g, v.ownBlock = some g → lo ≤ g ∧ g < hi
theorem own_rng {w : World} {B : Nat} {v : Value} {ls : List Ltr} (h : Own w B v ls) : Rng B w.heap.size v := fun g hg => h.1.lt g hg
theorem rng_ne {a b c d : Nat} {v v2 : Value} (h : Rng a b v) (h2 : Rng c d v2) (hd : b ≤ c ∨ d ≤ a) : ∀ g, v.ownBlock = some g → v2.ownBlock ≠ some g := by
  intro g hg he
  have x := h g hg
  have y := h2 g he
  omega
theorem Own.ls {w : World} {B : Nat} {A : Option Addr} {n cap : Nat} {ls : List Ltr} (h : Own w B (.slice A n cap) ls) : LS w A n cap ls := by
  obtain ⟨A', c', he, hl⟩ := h.read
  simp at he
  obtain ⟨rfl, rfl, rfl⟩ := he
  exact hl
theorem Own.len {w : World} {B : Nat} {A : Option Addr} {n cap : Nat} {ls : List Ltr} (h : Own w B (.slice A n cap) ls) : n = ls.length := h.ls.1.symm
theorem below_own {W w w' : World} {v : Value} {ls : List Ltr} (hb : Below W.heap.size W w) (ho : Own w W.heap.size v ls) (hg : w.grownBy w' v.ownBlock) : Below W.heap.size W w' :=
  hb.grown hg hb.size (fun k hk => (ho.1.lt k hk).1)

end Go.Proofs.Ytafngfmloiikoaa
