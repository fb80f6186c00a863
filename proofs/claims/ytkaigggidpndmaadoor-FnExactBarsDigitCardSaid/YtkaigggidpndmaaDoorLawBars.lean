/-
  WALKS: the laws FnExactDigitBars, FnExactBarsDigit. By an AI agent.
-/
import Derived.Test.YtkaigggidpndmaaDoorBars
namespace Go.Proofs.YtkaigggidpndmaaDoor
open Go.RowKit

set_option maxHeartbeats 400000 in
theorem law_FnExactDigitBars (d : Int) (w : World) (_ : (Lit.int .i64 d).wf = true) (hT : Tab w) :
    Calls Tryd.prog 3 #[.int .i64 d] w fun e w' => e = .returned (.bool true) ∧ Below w.heap.size w w' := by
  have HT := Lib.hid hT
  clear hT
  go_enter Tryd.func3, Tryd.ntmps3
  go_wp2_with (first | (go_at_call 5; refine (spec_DigitBars _ _).mono ?_; rintro e w1 ⟨rfl, hb1⟩) | (go_at_call 6; refine (impl_DigitBars_any _ _ (HT.out.ext hb1)).mono ?_; rintro e w2 ⟨rfl, rfl⟩))
  go_ret
  exact ⟨rfl, (by repeat (first | exact Below.refl _ _ | assumption | refine ext_alloc ?_ _ | refine Below.drew ?_ | refine ext_set ?_ (by first | (simp; done) | (simp; omega) | omega) _ | refine ext_trans ?_ (by assumption)))⟩

set_option maxHeartbeats 400000 in
theorem law_FnExactBarsDigit (s : ByteArray) (w : World) (_ : s.size ≤ maxLen) (hT : Tab w) :
    Calls Tryd.prog 4 #[.string s] w fun e w' => e = .returned (.bool true) ∧ Below w.heap.size w w' := by
  have HT := Lib.hid hT
  clear hT
  by_cases hb : s.size ≤ 1048576
  · go_enter Tryd.func4, Tryd.ntmps4
    go_wp2_with (first | (go_at_call 7; refine (spec_BarsDigit _ _).mono ?_; rintro e w1 ⟨rfl, hb1⟩) | (go_at_call 8; refine (impl_BarsDigit _ _ (HT.out.ext hb1)).mono ?_; rintro e w2 ⟨rfl, rfl⟩))
    go_ret
    exact ⟨rfl, (by repeat (first | exact Below.refl _ _ | assumption | refine ext_alloc ?_ _ | refine Below.drew ?_ | refine ext_set ?_ (by first | (simp; done) | (simp; omega) | omega) _ | refine ext_trans ?_ (by assumption)))⟩
  · go_enter Tryd.func4, Tryd.ntmps4
    go_wp2_with fail
    go_ret
    exact ⟨rfl, (by repeat (first | exact Below.refl _ _ | assumption | refine ext_alloc ?_ _ | refine Below.drew ?_ | refine ext_set ?_ (by first | (simp; done) | (simp; omega) | omega) _ | refine ext_trans ?_ (by assumption)))⟩

end Go.Proofs.YtkaigggidpndmaaDoor
