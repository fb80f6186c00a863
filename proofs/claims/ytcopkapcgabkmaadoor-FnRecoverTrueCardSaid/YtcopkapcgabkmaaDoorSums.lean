/-
  WALKS: the sum of digits, the number with digits, the check digit. By an AI agent.
-/
import Derived.Test.YtcopkapcgabkmaaDoorDigits
namespace Go.Proofs.YtcopkapcgabkmaaDoor
open Go.RowKit

/-- The sum of digits. -/
def sumD (l : List UInt8) : Int := (l.map fun c => (c.toNat : Int) - 48).sum
theorem sumD_snoc (l : List UInt8) (c : UInt8) : sumD (l ++ [c]) = sumD l + ((c.toNat : Int) - 48) := by simp [sumD]
theorem sumD_bd : ∀ (l : List UInt8), allDig l = true → 0 ≤ sumD l ∧ sumD l ≤ 9 * l.length
  | [], _ => by simp [sumD]
  | c :: l, h => by
    simp only [allDig, List.all_cons, Bool.and_eq_true] at h
    have h1 := sumD_bd l h.2
    have h2 := h.1
    simp [digB] at h2
    simp only [sumD, List.map_cons, List.sum_cons, List.length_cons] at h1 ⊢
    omega
/-- The number with digits. -/
def numD (l : List UInt8) : Int := l.foldl (fun n c => 10 * n + ((c.toNat : Int) - 48)) 0
theorem numD_snoc (l : List UInt8) (c : UInt8) : numD (l ++ [c]) = 10 * numD l + ((c.toNat : Int) - 48) := by simp [numD]

theorem allDig_take (l : List UInt8) (k : Nat) (h : allDig l = true) : allDig (l.take k) = true := by
  cases hh : allDig (l.take k) with
  | true => rfl
  | false => rw [allDig_take_false l k hh] at h; cases h
theorem digB_at (s : ByteArray) (h : allDig s.data.toList = true) (k : Nat) (hk : k < s.size) : 48 ≤ s[k].toNat ∧ s[k].toNat ≤ 57 := by
  have hm : s[k] ∈ s.data.toList := by
    rw [show s[k] = s.data[k]'(by simpa using hk) from rfl]; simp
  simp only [allDig, List.all_eq_true] at h
  have := h _ hm
  simpa [digB] using this

set_option maxHeartbeats 400000 in
theorem impl_digitSum (s : ByteArray) (w : World) (hs : s.size ≤ 1048576) (hd : allDig s.data.toList = true) :
    Calls Tryd.prog 55 #[.string s] w fun e w' => e = .returned (.int .i64 (sumD s.data.toList)) ∧ w = w' := by
  have HD := Lib.hid hd
  clear hd
  go_enter Tryd.func55, Tryd.ntmps55
  go_wp2
  go_loop [3, 4] (fun n i => ∃ k : Nat, k ≤ s.size ∧ i = .int .i64 k ∧ n = .int .i64 (sumD (s.data.toList.take k))) (fun _ i => s.size - (intOf i).toNat)
  case atStart => exact ⟨0, Nat.zero_le _, rfl, rfl⟩
  case round =>
    obtain ⟨k, hk, rfl, rfl⟩ := hrel
    have hb := sumD_bd _ (allDig_take s.data.toList k HD.out)
    have hl : (s.data.toList.take k).length ≤ k := List.length_take_le _ _
    by_cases hlt : k < s.size
    · have h48 := digB_at s HD.out k hlt
      have HS := Lib.hid (show sumD (s.data.toList.take (k + 1)) = sumD (s.data.toList.take k) + ((s[k].toNat : Int) - 48) from by rw [take_snoc s k hlt, sumD_snoc])
      go_wp2
      go_round
      case rel => exact ⟨k + 1, by omega, by go_num, by rw [HS.out]⟩
      case measure => simp [intOf]; omega
    · go_wp2
      go_ret
      exact ⟨ret_int (by rw [List.take_of_length_le (by simp; omega)]), rfl⟩

set_option maxHeartbeats 400000 in
theorem spec_l1Sum (s : ByteArray) (w : World) (hs : s.size ≤ 1048576) (hd : allDig s.data.toList = true) :
    Calls Tryd.prog 53 #[.string s] w fun e w' => e = .returned (.int .i64 (sumD s.data.toList)) ∧ w = w' := by
  have HD := Lib.hid hd
  clear hd
  go_enter Tryd.func53, Tryd.ntmps53
  go_wp2
  go_loop [3, 4] (fun n i => ∃ k : Nat, k ≤ s.size ∧ i = .int .i64 k ∧ n = .int .i64 (sumD (s.data.toList.take k))) (fun _ i => s.size - (intOf i).toNat)
  case atStart => exact ⟨0, Nat.zero_le _, rfl, rfl⟩
  case round =>
    obtain ⟨k, hk, rfl, rfl⟩ := hrel
    have hb := sumD_bd _ (allDig_take s.data.toList k HD.out)
    have hl : (s.data.toList.take k).length ≤ k := List.length_take_le _ _
    by_cases hlt : k < s.size
    · have h48 := digB_at s HD.out k hlt
      have HS := Lib.hid (show sumD (s.data.toList.take (k + 1)) = sumD (s.data.toList.take k) + (s[k].toNat : Int) - 48 from by rw [take_snoc s k hlt, sumD_snoc]; omega)
      go_wp2
      go_round
      case rel => exact ⟨k + 1, by omega, by go_num, by rw [HS.out]⟩
      case measure => simp [intOf]; omega
    · go_wp2
      go_ret
      exact ⟨ret_int (by rw [List.take_of_length_le (by simp; omega)]), rfl⟩

theorem numD_bd : ∀ (l : List UInt8), allDig l = true → l.length ≤ 3 → 0 ≤ numD l ∧ numD l ≤ 999
  | [], _, _ => by simp [numD]
  | [a], h, _ => by simp [allDig, digB] at h; simp [numD]; omega
  | [a, b], h, _ => by simp [allDig, digB] at h; simp [numD]; omega
  | [a, b, c], h, _ => by simp [allDig, digB] at h; simp [numD]; omega
  | _ :: _ :: _ :: _ :: _, _, h => by simp at h

theorem list_nil_of_size (s : ByteArray) (h : s.size = 0) : s.data.toList = [] :=
  List.eq_nil_of_length_eq_zero (by rw [Array.length_toList]; exact h)
theorem list_ne_of_size (s : ByteArray) (h : 0 < s.size) : s.data.toList.isEmpty = false := by
  rw [List.isEmpty_eq_false_iff_exists_mem]; exact List.exists_mem_of_length_pos (by simpa using h)

/-- What CheckDigit answers. -/
def chkD (s : ByteArray) : Int := if digsB s = true then (10 - sumD s.data.toList % 10) % 10 else -1
/-- What CheckValid answers. -/
def chkB (s : ByteArray) : Bool := digsB s && !s.data.toList.isEmpty && decide (sumD s.data.toList % 10 = 0)
theorem digsB_parts {s : ByteArray} (h : digsB s = true) : s.size ≤ 20 ∧ allDig s.data.toList = true := by simpa [digsB] using h

set_option maxHeartbeats 400000 in
theorem impl_CheckDigit (s : ByteArray) (w : World) (hs : s.size ≤ maxLen) :
    Calls Tryd.prog 38 #[.string s] w fun e w' => e = .returned (.int .i64 (chkD s)) ∧ w = w' := by
  cases hd : digsB s with
  | true =>
    obtain ⟨h20, hall⟩ := digsB_parts hd
    have H := Lib.hid (show chkD s = (10 - sumD s.data.toList % 10) % 10 from by simp [chkD, hd])
    have hbd := sumD_bd _ hall
    have HA := Lib.hid hall
    have HD := Lib.hid hd
    have hl : s.data.toList.length ≤ 20 := by simpa using h20
    clear hall hd
    go_enter Tryd.func38, Tryd.ntmps38
    go_wp2_with (first | (go_at_call 54; refine (impl_DigitsValid _ _ hs).mono ?_; rintro e w' ⟨rfl, rfl⟩; rw [HD.out]) | (go_at_call 55; refine (impl_digitSum _ _ (by omega) HA.out).mono ?_; rintro e w' ⟨rfl, rfl⟩))
    go_ret
    exact ⟨ret_int H.out.symm, rfl⟩
  | false =>
    have H := Lib.hid (show chkD s = -1 from by simp [chkD, hd])
    have HD := Lib.hid hd
    clear hd
    go_enter Tryd.func38, Tryd.ntmps38
    go_wp2_with (go_at_call 54; refine (impl_DigitsValid _ _ hs).mono ?_; rintro e w' ⟨rfl, rfl⟩; rw [HD.out])
    go_ret
    exact ⟨ret_int H.out.symm, rfl⟩

set_option maxHeartbeats 400000 in
theorem spec_CheckDigit (s : ByteArray) (w : World) (hs : s.size ≤ maxLen) :
    Calls Tryd.prog 37 #[.string s] w fun e w' => e = .returned (.int .i64 (chkD s)) ∧ w = w' := by
  cases hd : digsB s with
  | true =>
    obtain ⟨h20, hall⟩ := digsB_parts hd
    have H := Lib.hid (show chkD s = (10 - sumD s.data.toList % 10) % 10 from by simp [chkD, hd])
    have hbd := sumD_bd _ hall
    have HA := Lib.hid hall
    have HD := Lib.hid hd
    have hl : s.data.toList.length ≤ 20 := by simpa using h20
    clear hall hd
    go_enter Tryd.func37, Tryd.ntmps37
    go_wp2_with (first | (go_at_call 52; refine (spec_DigitsValid _ _ hs).mono ?_; rintro e w' ⟨rfl, rfl⟩; rw [HD.out]) | (go_at_call 53; refine (spec_l1Sum _ _ (by omega) HA.out).mono ?_; rintro e w' ⟨rfl, rfl⟩))
    go_ret
    exact ⟨ret_int H.out.symm, rfl⟩
  | false =>
    have H := Lib.hid (show chkD s = -1 from by simp [chkD, hd])
    have HD := Lib.hid hd
    clear hd
    go_enter Tryd.func37, Tryd.ntmps37
    go_wp2_with (go_at_call 52; refine (spec_DigitsValid _ _ hs).mono ?_; rintro e w' ⟨rfl, rfl⟩; rw [HD.out])
    go_ret
    exact ⟨ret_int H.out.symm, rfl⟩

set_option maxHeartbeats 400000 in
theorem spec_CheckValid (s : ByteArray) (w : World) (hs : s.size ≤ maxLen) :
    Calls Tryd.prog 40 #[.string s] w fun e w' => e = .returned (.bool (chkB s)) ∧ w = w' := by
  cases hd : digsB s with
  | true =>
    obtain ⟨h20, hall⟩ := digsB_parts hd
    have hbd := sumD_bd _ hall
    have HA := Lib.hid hall
    have HD := Lib.hid hd
    have hl : s.data.toList.length ≤ 20 := by simpa using h20
    by_cases h0 : 0 < s.size
    · have he := list_ne_of_size s h0
      have H := Lib.hid (show chkB s = (sumD s.data.toList % 10 == 0) from by
        simp [chkB, hd, he]; rfl)
      rw [← ByteArray.toList_eq] at he
      have he3 : ¬ s.toList = [] := fun h => by rw [h] at he; cases he
      have he2 : (!s.toList.isEmpty) = true := by rw [he]; rfl
      clear hall hd
      go_enter Tryd.func40, Tryd.ntmps40
      go_wp2_with (first | (go_at_call 52; refine (spec_DigitsValid _ _ hs).mono ?_; rintro e w' ⟨rfl, rfl⟩; rw [HD.out]) | (go_at_call 53; refine (spec_l1Sum _ _ (by omega) HA.out).mono ?_; rintro e w' ⟨rfl, rfl⟩))
      go_ret
      exact ⟨ret_bool H.out.symm, rfl⟩
    · have he0 : s.data.toList = [] := list_nil_of_size s (by omega)
      have H := Lib.hid (show chkB s = false from by simp [chkB, he0])
      rw [← ByteArray.toList_eq] at he0
      have he2 : (!s.toList.isEmpty) = false := by rw [he0]; rfl
      clear hall hd
      go_enter Tryd.func40, Tryd.ntmps40
      go_wp2_with (first | (go_at_call 52; refine (spec_DigitsValid _ _ hs).mono ?_; rintro e w' ⟨rfl, rfl⟩; rw [HD.out]))
      go_ret
      exact ⟨ret_bool H.out.symm, rfl⟩
  | false =>
    have H := Lib.hid (show chkB s = false from by simp [chkB, hd])
    have HD := Lib.hid hd
    clear hd
    go_enter Tryd.func40, Tryd.ntmps40
    go_wp2_with (go_at_call 52; refine (spec_DigitsValid _ _ hs).mono ?_; rintro e w' ⟨rfl, rfl⟩; rw [HD.out])
    go_ret
    exact ⟨ret_bool H.out.symm, rfl⟩

end Go.Proofs.YtcopkapcgabkmaaDoor
