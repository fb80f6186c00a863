/-
  WALKS: VaryingDigits of the reference. By an AI agent.
-/
import Derived.Test.YtafngfmloiikoaaVary
namespace Go.Proofs.Ytafngfmloiikoaa
open Go.RowKit

/-- Whether the first letters' codes differ in a digit from the first. -/
def varyK (ls : List Ltr) (d k : Nat) : Bool := (ls.take k).any fun l => dig l.2 d != dig (ls.headD (0, ⟨#[]⟩)).2 d
theorem varyK_one (ls : List Ltr) (d : Nat) : varyK ls d 1 = false := by cases ls <;> simp [varyK]
theorem varyK_all (ls : List Ltr) (d k : Nat) (h : ls.length ≤ k) : varyK ls d k = varyB ls d := by unfold varyK varyB; rw [List.take_of_length_le h]
theorem head_at (ls : List Ltr) (l0 : Ltr) (h : ls[0]? = some l0) : ls.headD (0, ⟨#[]⟩) = l0 := by
  cases ls with
  | nil => simp at h
  | cons a b => simpa using h
theorem varyK_succ (ls : List Ltr) (d k : Nat) (l l0 : Ltr) (hl : ls[k]? = some l) (h0 : ls[0]? = some l0) : varyK ls d (k + 1) = (varyK ls d k || (dig l.2 d != dig l0.2 d)) := by
  unfold varyK; rw [take_snoc' ls k l hl, List.any_append, head_at ls l0 h0]; simp
theorem OwnI.made (w : World) (B : Nat) (hB : B ≤ w.heap.size) : OwnI (w.alloc (.cells #[] 3)) B (.slice (some ⟨w.heap.size, 0, none⟩) 0 0) [] := by
  have h := World.ownsRow_made (base := B) (size := 1) (e := 3) w #[] 0 hB (by unfold maxLen; omega) rfl
  simpa [OwnI, cellsI] using h

end Go.Proofs.Ytafngfmloiikoaa
