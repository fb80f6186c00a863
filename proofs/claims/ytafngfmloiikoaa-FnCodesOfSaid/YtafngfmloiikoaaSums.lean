/-
  WALKS: the sum of digits, the number with digits, the check digit. By an AI agent.
-/
import Derived.Test.YtafngfmloiikoaaDigits
namespace Go.Proofs.Ytafngfmloiikoaa
open Go.RowKit

/-- The sum of digits. -/
def sumD (l : List UInt8) : Int := (l.map fun c => (c.toNat : Int) - 48).sum
theorem sumD_snoc (l : List UInt8) (c : UInt8) : sumD (l ++ [c]) = sumD l + ((c.toNat : Int) - 48) := by simp [sumD]
theorem sumD_bd : ∀ (l : List UInt8), allDig l = true → 0 ≤ sumD l ∧ sumD l ≤ 9 * l.length
  | [], _ => by simp [sumD]
  | c :: l, h => by
    simp only [allDig, List.all_cons, Bool.and_eq_true] at h
    have h1 := sumD_bd l h.2
    have h2 := h.1
    simp [digB] at h2
    simp only [sumD, List.map_cons, List.sum_cons, List.length_cons] at h1 ⊢
    omega
/-- The number with digits. -/
def numD (l : List UInt8) : Int := l.foldl (fun n c => 10 * n + ((c.toNat : Int) - 48)) 0
theorem numD_snoc (l : List UInt8) (c : UInt8) : numD (l ++ [c]) = 10 * numD l + ((c.toNat : Int) - 48) := by simp [numD]

theorem allDig_take (l : List UInt8) (k : Nat) (h : allDig l = true) : allDig (l.take k) = true := by
  cases hh : allDig (l.take k) with
  | true => rfl
  | false => rw [allDig_take_false l k hh] at h; cases h
theorem digB_at (s : ByteArray) (h : allDig s.data.toList = true) (k : Nat) (hk : k < s.size) : 48 ≤ s[k].toNat ∧ s[k].toNat ≤ 57 := by
  have hm : s[k] ∈ s.data.toList := by
    rw [show s[k] = s.data[k]'(by simpa using hk) from rfl]; simp
  simp only [allDig, List.all_eq_true] at h
  have := h _ hm
  simpa [digB] using this

theorem numD_bd : ∀ (l : List UInt8), allDig l = true → l.length ≤ 3 → 0 ≤ numD l ∧ numD l ≤ 999
  | [], _, _ => by simp [numD]
  | [a], h, _ => by simp [allDig, digB] at h; simp [numD]; omega
  | [a, b], h, _ => by simp [allDig, digB] at h; simp [numD]; omega
  | [a, b, c], h, _ => by simp [allDig, digB] at h; simp [numD]; omega
  | _ :: _ :: _ :: _ :: _, _, h => by simp at h

theorem list_nil_of_size (s : ByteArray) (h : s.size = 0) : s.data.toList = [] :=
  List.eq_nil_of_length_eq_zero (by rw [Array.length_toList]; exact h)
theorem list_ne_of_size (s : ByteArray) (h : 0 < s.size) : s.data.toList.isEmpty = false := by
  rw [List.isEmpty_eq_false_iff_exists_mem]; exact List.exists_mem_of_length_pos (by simpa using h)

/-- What CheckDigit answers. -/
def chkD (s : ByteArray) : Int := if digsB s = true then (10 - sumD s.data.toList % 10) % 10 else -1
/-- What CheckValid answers. -/
def chkB (s : ByteArray) : Bool := digsB s && !s.data.toList.isEmpty && decide (sumD s.data.toList % 10 = 0)
theorem digsB_parts {s : ByteArray} (h : digsB s = true) : s.size ≤ 20 ∧ allDig s.data.toList = true := by simpa [digsB] using h

end Go.Proofs.Ytafngfmloiikoaa
