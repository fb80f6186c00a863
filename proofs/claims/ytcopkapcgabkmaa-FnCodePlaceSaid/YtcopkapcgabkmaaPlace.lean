/-
  WALKS: PlaceValid, toPlace, eqPlace. By an AI agent.
-/
import Derived.Test.YtcopkapcgabkmaaDigits
import Derived.Deep.QuietTactic
import Derived.BigQuiet
import Derived.Deep.RegionHeld3
namespace Go.Proofs.Ytcopkapcgabkmaa
open Go.RowKit

/-- What PlaceValid answers. -/
def placeB (a b c : Int) : Bool := decide (0 ≤ a) && decide (a ≤ 999) && decide (0 ≤ b) && decide (b ≤ 99) && decide (0 ≤ c) && decide (c ≤ 99)
theorem placeB_true (a b c : Int) : placeB a b c = true ↔ 0 ≤ a ∧ a ≤ 999 ∧ 0 ≤ b ∧ b ≤ 99 ∧ 0 ≤ c ∧ c ≤ 99 := by
  simp [placeB, and_assoc]
theorem placeB_false (a b c : Int) : placeB a b c = false ↔ ¬ (0 ≤ a ∧ a ≤ 999 ∧ 0 ≤ b ∧ b ≤ 99 ∧ 0 ≤ c ∧ c ≤ 99) := by
  rw [← placeB_true]; simp

abbrev vPlace (a b c : Int) : Value := .agg #[.int .i64 a, .int .i64 b, .int .i64 c]

set_option maxHeartbeats 400000 in
theorem impl_PlaceValid (a b c : Int) (w : World) :
    Calls Try.prog 23 #[vPlace a b c] w fun e w' => e = .returned (.bool (placeB a b c)) ∧ Below w.heap.size w w' := by
  go_enter Try.func23, Try.ntmps23
  go_wp2
  all_goals go_ret
  all_goals exact ⟨ret_bool (by rw [Bool.eq_iff_iff, placeB_true]; simp; omega), below_box _ _⟩

set_option maxHeartbeats 400000 in
theorem spec_PlaceValid (a b c : Int) (w : World) :
    Calls Try.prog 43 #[vPlace a b c] w fun e w' => e = .returned (.bool (placeB a b c)) ∧ Below w.heap.size w w' := by
  go_enter Try.func43, Try.ntmps43
  go_wp2
  all_goals go_ret
  all_goals exact ⟨ret_bool (by rw [Bool.eq_iff_iff, placeB_true]; simp; omega), below_box _ _⟩

set_option maxHeartbeats 400000 in
theorem eqPlace_any (a b c a' b' c' : Int) (w : World) :
    Calls Try.prog 10 #[vPlace a b c, vPlace a' b' c'] w fun e w' => e = .returned (.bool (decide (a = a' ∧ b = b' ∧ c = c'))) ∧ Below w.heap.size w w' := by
  go_enter Try.func10, Try.ntmps10
  go_wp2
  all_goals go_ret
  all_goals exact ⟨ret_bool (by simp_all), (by repeat (first | exact Below.refl _ _ | assumption | refine ext_alloc ?_ _ | refine Below.drew ?_ | refine below_drewN' ?_ _ | refine ext_set ?_ (by first | (simp; done) | (simp; omega) | omega) _ | refine ext_trans ?_ (by assumption)))⟩

end Go.Proofs.Ytcopkapcgabkmaa
