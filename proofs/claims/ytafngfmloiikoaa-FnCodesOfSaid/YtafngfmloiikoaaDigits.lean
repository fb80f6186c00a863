/-
  WALKS: allDigits, DigitsValid, CodeValid of the program and of the reference. By an AI agent.
-/
import Derived.Test.YtafngfmloiikoaaProg
import Derived.Test.YtafngfmloiikoaaPlainA
import Derived.Test.YtafngfmloiikoaaBase
import Derived.WalkKit
import Derived.WalkSpells
import Derived.WalkLawsBesides
import Derived.Lib.Hide
namespace Go.Proofs.Ytafngfmloiikoaa
open Go.RowKit

set_option maxHeartbeats 400000 in
theorem allDigits_any (s : ByteArray) (w : World) (hs : s.size ≤ maxLen) :
    Calls Try.prog 88 #[.string s] w fun e w' => e = .returned (.bool (allDig s.data.toList)) ∧ w = w' := by
  unfold maxLen at hs
  go_enter Try.func88, Try.ntmps88
  go_wp2
  go_loop [3] (fun i => ∃ k : Nat, k ≤ s.size ∧ i = .int .i64 k ∧ allDig (s.data.toList.take k) = true) (fun i => s.size - (intOf i).toNat)
  case atStart => exact ⟨0, Nat.zero_le _, rfl, rfl⟩
  case round =>
    obtain ⟨k, hk, rfl, hd⟩ := hrel
    have HD := Lib.hid hd
    clear hd
    by_cases hlt : k < s.size
    · go_wp2
      · go_ret
        exact ⟨ret_bool (allDig_stop s k hlt ‹_›).symm, rfl⟩
      · go_round
        case rel => exact ⟨k + 1, by omega, by go_num, allDig_step s k hlt HD.out (by omega) (by omega)⟩
        case measure => simp [intOf]; omega
      · go_ret
        exact ⟨ret_bool (allDig_stop s k hlt (.inl ‹_›)).symm, rfl⟩
    · go_wp2
      go_ret
      exact ⟨ret_bool (allDig_end s k hlt HD.out).symm, rfl⟩

/-- What DigitsValid answers. -/
def digsB (s : ByteArray) : Bool := decide (s.size ≤ 20) && allDig s.data.toList
/-- What CodeValid answers. -/
def codeB (s : ByteArray) : Bool := decide (s.size = 7) && allDig s.data.toList

set_option maxHeartbeats 400000 in
theorem impl_CodeValid (s : ByteArray) (w : World) (hs : s.size ≤ maxLen) :
    Calls Try.prog 72 #[.string s] w fun e w' => e = .returned (.bool (codeB s)) ∧ w = w' := by
  by_cases h20 : s.size = 7
  · have H := Lib.hid (show codeB s = allDig s.data.toList from by unfold codeB; simp [h20])
    have h7 : ((s.size : Int) == 7) = true := by simp; omega
    clear h20
    go_enter Try.func72, Try.ntmps72
    go_wp2_with (go_at_call 88; refine (allDigits_any _ _ hs).mono ?_; rintro e w' ⟨rfl, rfl⟩)
    go_ret
    exact ⟨ret_bool H.out.symm, rfl⟩
  · have H := Lib.hid (show codeB s = false from by unfold codeB; simp [h20])
    have h7 : ((s.size : Int) == 7) = false := by simp; omega
    clear h20
    go_enter Try.func72, Try.ntmps72
    go_wp2_with fail
    go_ret
    exact ⟨ret_bool H.out.symm, rfl⟩

set_option maxHeartbeats 400000 in
theorem spec_DigitsValid (s : ByteArray) (w : World) (hs : s.size ≤ maxLen) :
    Calls Try.prog 92 #[.string s] w fun e w' => e = .returned (.bool (digsB s)) ∧ w = w' := by
  unfold maxLen at hs
  go_enter Try.func92, Try.ntmps92
  go_wp2
  go_loop [3] (fun i => ∃ k : Nat, k ≤ s.size ∧ i = .int .i64 k ∧ allDig (s.data.toList.take k) = true) (fun i => s.size - (intOf i).toNat)
  case atStart => exact ⟨0, Nat.zero_le _, rfl, rfl⟩
  case round =>
    obtain ⟨k, hk, rfl, hd⟩ := hrel
    have HD := Lib.hid hd
    clear hd
    by_cases hlt : k < s.size
    · go_wp2
      · go_ret
        exact ⟨ret_bool (by simp [digsB, allDig_stop s k hlt ‹_›]), rfl⟩
      · go_round
        case rel => exact ⟨k + 1, by omega, by go_num, allDig_step s k hlt HD.out (by omega) (by omega)⟩
        case measure => simp [intOf]; omega
      · go_ret
        exact ⟨ret_bool (by simp [digsB, allDig_stop s k hlt (.inl ‹_›)]), rfl⟩
    · have H := allDig_end s k hlt HD.out
      have H2 := Lib.hid H
      clear H
      by_cases h20 : s.size ≤ 20
      · go_wp2
        go_ret
        exact ⟨ret_bool (by simp [digsB, H2.out]; omega), rfl⟩
      · go_wp2
        go_ret
        exact ⟨ret_bool (by simp [digsB, h20]; omega), rfl⟩

set_option maxHeartbeats 400000 in
theorem spec_CodeValid (s : ByteArray) (w : World) (hs : s.size ≤ maxLen) :
    Calls Try.prog 90 #[.string s] w fun e w' => e = .returned (.bool (codeB s)) ∧ w = w' := by
  by_cases hd : digsB s = true
  · have hc : codeB s = decide (s.size = 7) := by
      simp only [digsB, Bool.and_eq_true] at hd; simp [codeB, hd.2]
    have H := Lib.hid (show codeB s = ((s.size : Int) == 7) from by rw [hc, Bool.eq_iff_iff]; simp; omega)
    have HD := Lib.hid hd
    clear hc hd
    go_enter Try.func90, Try.ntmps90
    go_wp2_with (go_at_call 92; refine (spec_DigitsValid _ _ hs).mono ?_; rintro e w' ⟨rfl, rfl⟩; rw [HD.out])
    go_ret
    exact ⟨ret_bool H.out.symm, rfl⟩
  · have hc : codeB s = false := by
      cases hh : codeB s with
      | false => rfl
      | true =>
        simp [codeB] at hh
        exact absurd (by simp [digsB, hh.2]; omega) hd
    have HD := Lib.hid (show digsB s = false from by simpa using hd)
    have H := Lib.hid hc
    clear hc hd
    go_enter Try.func90, Try.ntmps90
    go_wp2_with (go_at_call 92; refine (spec_DigitsValid _ _ hs).mono ?_; rintro e w' ⟨rfl, rfl⟩; rw [HD.out])
    go_ret
    exact ⟨ret_bool H.out.symm, rfl⟩

end Go.Proofs.Ytafngfmloiikoaa
