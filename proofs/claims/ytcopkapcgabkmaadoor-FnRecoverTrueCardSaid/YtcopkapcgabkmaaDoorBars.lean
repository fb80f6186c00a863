/-
  WALKS: DigitBars, BarsDigit of the program (over the table digitBars) and of the reference. By an AI agent.
-/
import Derived.Test.YtcopkapcgabkmaaDoorProg
import Derived.Test.YtcopkapcgabkmaaDoorBase
import Derived.Test.YtcopkapcgabkmaaDoorPlainA
import Derived.WalkKit
import Derived.WalkSpells
import Derived.WalkLawsBesides
import Derived.Lib.LaidTab
import Derived.LoopN
namespace Go.Proofs.YtcopkapcgabkmaaDoor
open Go.RowKit

/-- The bars of the digits. -/
def barL : Nat → List UInt8
  | 0 => [124, 124, 46, 46, 46]
  | 1 => [46, 46, 46, 124, 124]
  | 2 => [46, 46, 124, 46, 124]
  | 3 => [46, 46, 124, 124, 46]
  | 4 => [46, 124, 46, 46, 124]
  | 5 => [46, 124, 46, 124, 46]
  | 6 => [46, 124, 124, 46, 46]
  | 7 => [124, 46, 46, 46, 124]
  | 8 => [124, 46, 46, 124, 46]
  | 9 => [124, 46, 124, 46, 46]
  | _ => []
def barS (i : Nat) : ByteArray := ⟨(barL i).toArray⟩

/-- The table's cells. -/
def Tab (w : World) : Prop := ∀ i, i < 10 → w.cell? ⟨0, i, none⟩ = some (.string (barS i))
theorem Tab.ext {w w' : World} (h : Tab w) (hb : Below w.heap.size w w') : Tab w' := fun i hi => cell_later hb (h i hi)

set_option maxHeartbeats 400000 in
theorem impl_DigitBars (d : Nat) (w : World) (hd : d < 10) (hT : Tab w) :
    Calls Tryd.prog 23 #[.int .i64 d] w fun e w' => e = .returned (.string (barS d)) ∧ w = w' := by
  have hc := hT d hd
  clear hT
  go_enter Tryd.func23, Tryd.ntmps23
  go_wp2
  go_ret
  exact ⟨rfl, rfl⟩

set_option maxHeartbeats 400000 in
theorem impl_DigitBars_out (d : Int) (w : World) (hd : d < 0 ∨ 9 < d) :
    Calls Tryd.prog 23 #[.int .i64 d] w fun e w' => e = .returned (.string ⟨#[]⟩) ∧ w = w' := by
  go_enter Tryd.func23, Tryd.ntmps23
  go_wp2
  all_goals go_ret
  all_goals exact ⟨rfl, rfl⟩

set_option maxHeartbeats 400000 in
theorem spec_l1Bars (d : Nat) (w : World) (hd : d < 10) :
    Calls Tryd.prog 36 #[.int .i64 d] w fun e w' => e = .returned (.string (barS d)) ∧ Below w.heap.size w w' := by
  have hcase : d = 0 ∨ d = 1 ∨ d = 2 ∨ d = 3 ∨ d = 4 ∨ d = 5 ∨ d = 6 ∨ d = 7 ∨ d = 8 ∨ d = 9 := by omega
  clear hd
  rcases hcase with rfl | rfl | rfl | rfl | rfl | rfl | rfl | rfl | rfl | rfl
  all_goals go_enter Tryd.func36, Tryd.ntmps36
  all_goals go_wp2
  all_goals go_ret
  all_goals exact ⟨rfl, below_box _ _⟩

/-- Which digit has these bars. -/
def barsD (b : List UInt8) : Int := match (List.range 10).find? (fun d => barL d == b) with | some d => (d : Int) | none => -1
theorem barsD_hit (b : List UInt8) (k : Nat) (hk : k < 10) (h : ∀ d, d < k → ¬ barL d = b) (he : barL k = b) : barsD b = k := by
  have : (List.range 10).find? (fun d => barL d == b) = some k := by
    rw [List.find?_range_eq_some]
    exact ⟨by simp [he], by simpa using hk, fun j hj => by simpa using h j hj⟩
  unfold barsD; rw [this]
theorem barsD_none (b : List UInt8) (h : ∀ d, d < 10 → ¬ barL d = b) : barsD b = -1 := by
  have : (List.range 10).find? (fun d => barL d == b) = none := by
    rw [List.find?_eq_none]
    intro x hx
    simpa using h x (by simpa using hx)
  unfold barsD; rw [this]
theorem barsD_cases (b : List UInt8) : barsD b = -1 ∨ ∃ k : Nat, k < 10 ∧ barsD b = k ∧ barL k = b := by
  unfold barsD
  split
  · rename_i d h
    have h1 := List.find?_some h
    have h2 := List.mem_of_find?_eq_some h
    exact .inr ⟨d, by simpa using h2, rfl, by simpa using h1⟩
  · exact .inl rfl

theorem bar_same (k : Nat) (s : ByteArray) (h : ((barS k).toList == s.toList) = true) : barL k = s.data.toList := by
  simpa [ByteArray.toList_eq, barS] using h
theorem bar_more (k : Nat) (s : ByteArray) (hn : ∀ d, d < k → ¬ barL d = s.data.toList) (h : ((barS k).toList == s.toList) = false) : ∀ d, d < k + 1 → ¬ barL d = s.data.toList := by
  intro d hd
  by_cases e : d = k
  · subst e; simpa [ByteArray.toList_eq, barS] using h
  · exact hn d (by omega)

set_option maxHeartbeats 400000 in
theorem impl_BarsDigit (s : ByteArray) (w : World) (hT : Tab w) :
    Calls Tryd.prog 25 #[.string s] w fun e w' => e = .returned (.int .i64 (barsD s.data.toList)) ∧ w = w' := by
  have HT := Lib.hid hT
  clear hT
  go_enter Tryd.func25, Tryd.ntmps25
  go_wp2
  go_loop [3] (fun i => ∃ k : Nat, k ≤ 10 ∧ i = .int .i64 k ∧ ∀ d, d < k → ¬ barL d = s.data.toList) (fun i => 10 - (intOf i).toNat)
  case atStart => exact ⟨0, by omega, rfl, fun d hd => by omega⟩
  case round =>
    obtain ⟨k, hk, rfl, hno⟩ := hrel
    have HN := Lib.hid hno
    clear hno
    by_cases hlt : k < 10
    · have hc := HT.out k hlt
      go_wp2
      · go_ret
        exact ⟨ret_int (barsD_hit _ k hlt HN.out (bar_same k s ‹_›)).symm, rfl⟩
      · go_round
        case rel => exact ⟨k + 1, by omega, by go_num, bar_more k s HN.out ‹_›⟩
        case measure => simp [intOf]; omega
    · go_wp2
      go_ret
      exact ⟨ret_int (barsD_none _ (fun d hd => HN.out d (by omega))).symm, rfl⟩

set_option maxHeartbeats 400000 in
theorem spec_BarsDigit (s : ByteArray) (w : World) :
    Calls Tryd.prog 28 #[.string s] w fun e w' => e = .returned (.int .i64 (barsD s.data.toList)) ∧ Below w.heap.size w w' := by
  go_enter Tryd.func28, Tryd.ntmps28
  go_wp2
  go_loopw [3] (fun i wr => ∃ k : Nat, k ≤ 10 ∧ i = .int .i64 k ∧ (∀ d, d < k → ¬ barL d = s.data.toList) ∧ Below w.heap.size w wr) (fun i _ => 10 - (intOf i).toNat)
  case atStart => exact ⟨0, by omega, rfl, fun d hd => by omega, Below.refl _ _⟩
  case round =>
    obtain ⟨k, hk, rfl, hno, hbel⟩ := hrel
    have HN := Lib.hid hno
    clear hno
    by_cases hlt : k < 10
    · go_wp2_with (go_at_call 36; refine (spec_l1Bars _ _ hlt).mono ?_; rintro e w' ⟨rfl, hb1⟩)
      · go_ret
        exact ⟨ret_int (barsD_hit _ k hlt HN.out (bar_same k s ‹_›)).symm, (by repeat (first | exact Below.refl _ _ | assumption | refine ext_alloc ?_ _ | refine Below.drew ?_ | refine below_drewN' ?_ _ | refine ext_set ?_ (by first | (simp; done) | (simp; omega) | omega) _ | refine ext_trans ?_ (by assumption)))⟩
      · go_roundw
        case rel => exact ⟨k + 1, by omega, by go_num, bar_more k s HN.out ‹_›, (by repeat (first | exact Below.refl _ _ | assumption | refine ext_alloc ?_ _ | refine Below.drew ?_ | refine below_drewN' ?_ _ | refine ext_set ?_ (by first | (simp; done) | (simp; omega) | omega) _ | refine ext_trans ?_ (by assumption)))⟩
        case measure => simp [intOf]; omega
    · go_wp2
      go_ret
      exact ⟨ret_int (barsD_none _ (fun d hd => HN.out d (by omega))).symm, hbel⟩

/-- What DigitBars answers. -/
def digitBarS (d : Int) : ByteArray := if 0 ≤ d ∧ d ≤ 9 then barS d.toNat else ⟨#[]⟩

theorem impl_DigitBars_any (d : Int) (w : World) (hT : Tab w) :
    Calls Tryd.prog 23 #[.int .i64 d] w fun e w' => e = .returned (.string (digitBarS d)) ∧ w = w' := by
  by_cases h : 0 ≤ d ∧ d ≤ 9
  · obtain ⟨n, rfl⟩ := Int.eq_ofNat_of_zero_le h.1
    rw [digitBarS, if_pos h]
    exact impl_DigitBars n w (by omega) hT
  · rw [digitBarS, if_neg h]
    exact impl_DigitBars_out d w (by omega)

set_option maxHeartbeats 400000 in
theorem l1In_yes (n lo hi : Int) (w : World) (h1 : lo ≤ n) (h2 : n ≤ hi) :
    Calls Tryd.prog 46 #[.int .i64 n, .int .i64 lo, .int .i64 hi] w fun e w' => e = .returned (.bool true) ∧ w = w' := by
  have hd : decide (n ≤ hi) = true := by simpa using h2
  go_enter Tryd.func46, Tryd.ntmps46
  go_wp2
  go_ret
  exact ⟨rfl, rfl⟩
set_option maxHeartbeats 400000 in
theorem l1In_no (n lo hi : Int) (w : World) (h : n < lo ∨ hi < n) :
    Calls Tryd.prog 46 #[.int .i64 n, .int .i64 lo, .int .i64 hi] w fun e w' => e = .returned (.bool false) ∧ w = w' := by
  go_enter Tryd.func46, Tryd.ntmps46
  go_wp2
  all_goals go_ret
  all_goals exact ⟨ret_bool (by first | rfl | (simp; omega)), rfl⟩

set_option maxHeartbeats 400000 in
theorem spec_DigitBars (d : Int) (w : World) :
    Calls Tryd.prog 24 #[.int .i64 d] w fun e w' => e = .returned (.string (digitBarS d)) ∧ Below w.heap.size w w' := by
  by_cases h : 0 ≤ d ∧ d ≤ 9
  · obtain ⟨n, rfl⟩ := Int.eq_ofNat_of_zero_le h.1
    have H := Lib.hid (show digitBarS (n : Int) = barS n from by rw [digitBarS, if_pos h]; rfl)
    have hn : n < 10 := by omega
    go_enter Tryd.func24, Tryd.ntmps24
    go_wp2_with (first | (go_at_call 46; refine (l1In_yes _ _ _ _ h.1 h.2).mono ?_; rintro e w' ⟨rfl, rfl⟩) | (go_at_call 36; refine (spec_l1Bars _ _ hn).mono ?_; rintro e w' ⟨rfl, hb1⟩))
    go_ret
    exact ⟨ret_val (congrArg Value.string H.out.symm), (by repeat (first | exact Below.refl _ _ | assumption | refine ext_alloc ?_ _ | refine Below.drew ?_ | refine below_drewN' ?_ _ | refine ext_set ?_ (by first | (simp; done) | (simp; omega) | omega) _ | refine ext_trans ?_ (by assumption)))⟩
  · have H := Lib.hid (show digitBarS d = ⟨#[]⟩ from by rw [digitBarS, if_neg h])
    have h' : d < 0 ∨ 9 < d := by omega
    clear h
    go_enter Tryd.func24, Tryd.ntmps24
    go_wp2_with (go_at_call 46; refine (l1In_no _ _ _ _ h').mono ?_; rintro e w' ⟨rfl, rfl⟩)
    go_ret
    exact ⟨ret_val (congrArg Value.string H.out.symm), (by repeat (first | exact Below.refl _ _ | assumption | refine ext_alloc ?_ _ | refine Below.drew ?_ | refine below_drewN' ?_ _ | refine ext_set ?_ (by first | (simp; done) | (simp; omega) | omega) _ | refine ext_trans ?_ (by assumption)))⟩

end Go.Proofs.YtcopkapcgabkmaaDoor
