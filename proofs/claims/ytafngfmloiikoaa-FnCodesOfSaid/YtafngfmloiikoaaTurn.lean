/-
  WALKS: TurnBars of the program and of the reference. By an AI agent.
-/
import Derived.Test.YtafngfmloiikoaaDigits
import Derived.Test.YtafngfmloiikoaaByte
import Derived.Deep.OwnRows
import Derived.Laws.IdiomStrings
namespace Go.Proofs.Ytafngfmloiikoaa
open Go.RowKit

/-- Bytes in reverse order. -/
def turnS (s : ByteArray) : ByteArray := ⟨s.data.toList.reverse.toArray⟩

theorem info_u8 : (Try.prog.info? 5).map (fun i => (i.zero, i.size, i.bytes)) = some (some (.int .u8 0), 1, 1) := by kernel_rfl
theorem make_bytes (n : Nat) (hn : n ≤ 281474976710656) (w : World) :
    (Instr.makeSlice 22 (.int .i64 (n : Int)) (.int .i64 (n : Int))).run Try.prog w = .ok (.slice (some ⟨w.heap.size, 0, none⟩) n n) (w.alloc (.cells (madeCells #[.int .u8 0] n) 5)) :=
  Go.run_make_row' 22 5 (.int .u8 0) 1 Try.underlying22 info_u8 rfl .i64 .i64 n (by omega) (by omega) w

theorem rev_get (s : ByteArray) (k : Nat) (hk : k < s.size) : s.data.toList.reverse[k]'(by simpa using hk) = s[s.size - 1 - k]'(by omega) := by
  rw [List.getElem_reverse]; simp; rfl

theorem turn_fill (s : ByteArray) (arr : Array Value) (k : Nat) (hk : k < s.size) (hsz : arr.size = s.size)
    (hf : ∀ j (_ : j < k) (hj : j < s.data.toList.reverse.length), arr[j]? = some (byteV s.data.toList.reverse[j])) :
    ∀ j (_ : j < k + 1) (hj : j < s.data.toList.reverse.length), (arr.setIfInBounds k (byteV (s[s.size - 1 - k]'(by omega))))[j]? = some (byteV s.data.toList.reverse[j]) := by
  intro j hj hl
  rw [Array.getElem?_setIfInBounds]
  by_cases e : k = j
  · subst e
    rw [if_pos rfl, if_pos (by omega), rev_get s k hk]
  · rw [if_neg e]
    exact hf j (by omega) hl
theorem turn_fill2 (s : ByteArray) (arr : Array Value) (k : Nat) (hk : k < s.size) (hsz : arr.size = s.size)
    (hf : ∀ j (_ : s.size - k ≤ j) (hj : j < s.data.toList.reverse.length), arr[j]? = some (byteV s.data.toList.reverse[j])) :
    ∀ j (_ : s.size - (k + 1) ≤ j) (hj : j < s.data.toList.reverse.length), (arr.setIfInBounds (s.size - 1 - k) (byteV s[k]))[j]? = some (byteV s.data.toList.reverse[j]) := by
  intro j hj hl
  rw [Array.getElem?_setIfInBounds]
  by_cases e : s.size - 1 - k = j
  · subst e
    rw [if_pos rfl, if_pos (by omega), rev_get s _ (by omega)]
    congr 3
    omega
  · rw [if_neg e]
    exact hf j (by omega) hl

end Go.Proofs.Ytafngfmloiikoaa
