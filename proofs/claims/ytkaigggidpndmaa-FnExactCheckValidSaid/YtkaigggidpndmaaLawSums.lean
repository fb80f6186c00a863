/-
  WALKS: the laws FnExactConstants, FnExactCheckDigit, FnExactCheckValid. By an AI agent.
-/
import Derived.Test.YtkaigggidpndmaaSums
namespace Go.Proofs.Ytkaigggidpndmaa
open Go.RowKit

set_option maxHeartbeats 400000 in
theorem law_FnExactConstants (w : World) :
    Calls Try.prog 3 #[] w fun e w' => e = .returned (.bool true) ∧ Below w.heap.size w w' := by
  go_enter Try.func3, Try.ntmps3
  go_wp2
  go_ret
  exact ⟨rfl, Below.refl _ _⟩

set_option maxHeartbeats 400000 in
theorem law_FnExactCheckDigit (s : ByteArray) (w : World) (hs : s.size ≤ maxLen) :
    Calls Try.prog 9 #[.string s] w fun e w' => e = .returned (.bool true) ∧ Below w.heap.size w w' := by
  by_cases hb : s.size ≤ 1048576
  · go_enter Try.func9, Try.ntmps9
    go_wp2_with (first | (go_at_call 24; refine (spec_CheckDigit _ _ hs).mono ?_; rintro e w' ⟨rfl, rfl⟩) | (go_at_call 25; refine (impl_CheckDigit _ _ hs).mono ?_; rintro e w' ⟨rfl, rfl⟩))
    go_ret
    exact ⟨rfl, Below.refl _ _⟩
  · go_enter Try.func9, Try.ntmps9
    go_wp2_with fail
    go_ret
    exact ⟨rfl, Below.refl _ _⟩

set_option maxHeartbeats 400000 in
theorem law_FnExactCheckValid (s : ByteArray) (w : World) (hs : s.size ≤ maxLen) :
    Calls Try.prog 8 #[.string s] w fun e w' => e = .returned (.bool true) ∧ Below w.heap.size w w' := by
  by_cases hb : s.size ≤ 1048576
  · go_enter Try.func8, Try.ntmps8
    go_wp2_with (first | (go_at_call 22; refine (spec_CheckValid _ _ hs).mono ?_; rintro e w' ⟨rfl, rfl⟩) | (go_at_call 23; refine (impl_CheckValid _ _ hs).mono ?_; rintro e w' ⟨rfl, rfl⟩))
    go_ret
    exact ⟨rfl, Below.refl _ _⟩
  · go_enter Try.func8, Try.ntmps8
    go_wp2_with fail
    go_ret
    exact ⟨rfl, Below.refl _ _⟩

end Go.Proofs.Ytkaigggidpndmaa
