/-
  PLAIN FACTS on lists of bytes: digits. No program in sight. By an AI agent.
-/
namespace Go.Proofs.Ytafngfmloiikoaa

/-- A byte is a digit. -/
def digB (c : UInt8) : Bool := decide (48 ≤ c.toNat) && decide (c.toNat ≤ 57)
/-- All bytes are digits. -/
def allDig (l : List UInt8) : Bool := l.all digB

theorem take_snoc (s : ByteArray) (k : Nat) (h : k < s.size) : s.data.toList.take (k + 1) = s.data.toList.take k ++ [s[k]] := by
  rw [List.take_succ_eq_append_getElem (by simpa using h)]; rfl

theorem allDig_snoc (l : List UInt8) (c : UInt8) : allDig (l ++ [c]) = (allDig l && digB c) := by simp [allDig]

theorem allDig_take_false (l : List UInt8) (k : Nat) (h : allDig (l.take k) = false) : allDig l = false := by
  cases hh : allDig l with
  | false => rfl
  | true =>
    have : allDig (l.take k) = true := by
      simp only [allDig, List.all_eq_true] at hh ⊢
      exact fun x hx => hh x (List.mem_of_mem_take hx)
    rw [this] at h; cases h

theorem allDig_step (s : ByteArray) (k : Nat) (h : k < s.size) (hd : allDig (s.data.toList.take k) = true) (h1 : 48 ≤ (s[k].toNat : Int)) (h2 : (s[k].toNat : Int) ≤ 57) :
    allDig (s.data.toList.take (k + 1)) = true := by
  rw [take_snoc s k h, allDig_snoc, hd, digB]
  simp; omega
theorem allDig_stop (s : ByteArray) (k : Nat) (h : k < s.size) (h1 : (s[k].toNat : Int) < 48 ∨ 57 < (s[k].toNat : Int)) :
    allDig s.data.toList = false := by
  apply allDig_take_false _ (k + 1)
  rw [take_snoc s k h, allDig_snoc]
  have : digB s[k] = false := by unfold digB; simp; omega
  rw [this]; simp
theorem allDig_end (s : ByteArray) (k : Nat) (h : ¬ k < s.size) (hd : allDig (s.data.toList.take k) = true) : allDig s.data.toList = true := by
  rwa [List.take_of_length_le (by simp; omega)] at hd

end Go.Proofs.Ytafngfmloiikoaa
