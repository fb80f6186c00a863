/-
  SMALL HELPERS for walks: endings, worlds that have only grown. By an AI agent.
-/
import Derived.WalkKit
import Derived.Laws.Rows
import Derived.Lib.Hide
import Derived.Deep.Draws
namespace Go.Proofs.Ytafngfmloiikoaa
open Go.RowKit

theorem ret_bool {a b : Bool} (h : a = b) : Ending.returned (.bool a) = .returned (.bool b) := by rw [h]
theorem ret_int {k : IntKind} {a b : Int} (h : a = b) : Ending.returned (.int k a) = .returned (.int k b) := by rw [h]
theorem ret_val {a b : Value} (h : a = b) : Ending.returned a = .returned b := by rw [h]

theorem below_box (w : World) (o : Obj) : Below w.heap.size w (w.alloc o) := (Below.refl _ _).alloc (Nat.le_refl _) _
theorem ext_alloc {w w1 : World} (h : Below w.heap.size w w1) (o : Obj) : Below w.heap.size w (w1.alloc o) := h.alloc h.size o
theorem ext_trans {w w1 w2 : World} (h : Below w.heap.size w w1) (h2 : Below w1.heap.size w1 w2) : Below w.heap.size w w2 := h.trans (h2.mono h.size)
theorem ext_set {w w1 : World} (h : Below w.heap.size w w1) {p : Addr} (hp : w.heap.size ≤ p.block) (u : Value) : Below w.heap.size w (w1.setCell p u) := h.setCell hp u
theorem ext_grown {w w1 w2 : World} {row : Option Nat} (h : Below w.heap.size w w1) (hg : w1.grownBy w2 row) (hr : ∀ k, row = some k → w.heap.size ≤ k) : Below w.heap.size w w2 :=
  h.grown hg h.size hr
theorem below_drewN' {B : Nat} {a w : World} (h : Below B a w) (n : Nat) : Below B a (w.drewN n) := ⟨h.os, h.tape, h.output, h.size, h.block⟩
/-- Old cells and old marks read as before. -/
theorem bcell {W w1 : World} (hb : Below W.heap.size W w1) : (∀ b o, b < W.heap.size → w1.cell? ⟨b, o, none⟩ = W.cell? ⟨b, o, none⟩) ∧ (∀ b o, b < W.heap.size → w1.frozen? ⟨b, o, none⟩ = W.frozen? ⟨b, o, none⟩) :=
  ⟨fun b o h => hb.cell (p := ⟨b, o, none⟩) h, fun b o h => hb.frozen (p := ⟨b, o, none⟩) h⟩

/-- Block g of the world is exactly these cells of element type e, none of them frozen. -/
def Row (w : World) (g : Nat) (e : TypeId) (cs : Array Value) : Prop := w.heap[g]? = some (.cells cs e (0, 0))
theorem Row.lt {w : World} {g : Nat} {e : TypeId} {cs : Array Value} (h : Row w g e cs) : g < w.heap.size := by
  by_cases hg : g < w.heap.size
  · exact hg
  · rw [Row, Array.getElem?_eq_none (by omega)] at h; cases h
theorem Row.cell {w : World} {g : Nat} {e : TypeId} {cs : Array Value} (h : Row w g e cs) (i : Nat) : w.cell? ⟨g, i, none⟩ = cs[i]? := cell_of_row w g i cs e (0, 0) h
theorem Row.frozen {w : World} {g : Nat} {e : TypeId} {cs : Array Value} (h : Row w g e cs) (i : Nat) : w.frozen? ⟨g, i, none⟩ = false := by
  rw [Row] at h; simp [World.frozen?, h]
theorem Row.made (w : World) (e : TypeId) (cs : Array Value) : Row (w.alloc (.cells cs e)) w.heap.size e cs := heap_alloc_new w _
theorem Row.draw {w : World} {g : Nat} {e : TypeId} {cs : Array Value} (h : Row w g e cs) : Row w.drew g e cs := h
theorem Row.stay {w : World} {g : Nat} {e : TypeId} {cs : Array Value} (h : Row w g e cs) (o : Obj) : Row (w.alloc o) g e cs := (Below.heap_alloc w o g h.lt).trans h
theorem Row.put {w : World} {g : Nat} {e : TypeId} {cs : Array Value} (h : Row w g e cs) (i : Nat) (u : Value) : Row (w.setCell ⟨g, i, none⟩ u) g e (cs.setIfInBounds i u) := by
  rw [Row] at h ⊢; simp [World.setCell, Array.getElem?_modify, h]
theorem Row.other {w : World} {g : Nat} {e : TypeId} {cs : Array Value} (h : Row w g e cs) {p : Addr} (hp : g ≠ p.block) (u : Value) : Row (w.setCell p u) g e cs := (Below.heap_setCell w p u g hp).trans h
theorem Row.ext {w w' : World} {g : Nat} {e : TypeId} {cs : Array Value} (h : Row w g e cs) (hb : Below w.heap.size w w') : Row w' g e cs := (hb.block g h.lt).trans h

/-- A byte as a value. -/
def byteV (c : UInt8) : Value := .int .u8 (c.toNat : Int)

end Go.Proofs.Ytafngfmloiikoaa
