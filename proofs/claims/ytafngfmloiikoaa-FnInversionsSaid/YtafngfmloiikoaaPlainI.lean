/-
  PLAIN FACTS on inversions: a batch and its reverse. No program in sight. By an AI agent.
-/
import Derived.Test.YtafngfmloiikoaaStab
namespace Go.Proofs.Ytafngfmloiikoaa

/-- How many letters of a list have a code. -/
def sameC (c : ByteArray) (ls : List Ltr) : Nat := ls.countP fun m => m.2.toList == c.toList
/-- Pairs with equal codes. -/
def eqL : List Ltr → Nat
  | [] => 0
  | l :: ls => sameC l.2 ls + eqL ls
theorem sameC_snoc (c : ByteArray) (m : Ltr) (ls : List Ltr) : sameC c (ls ++ [m]) = sameC c ls + if (m.2.toList == c.toList) = true then 1 else 0 := by
  unfold sameC; rw [List.countP_append]; simp [List.countP_cons]
theorem sameC_le (c : ByteArray) (ls : List Ltr) : sameC c ls ≤ ls.length := List.countP_le_length
theorem eqL_snoc (x : Ltr) : ∀ ls : List Ltr, eqL (ls ++ [x]) = eqL ls + sameC x.2 ls
  | [] => by simp [eqL, sameC]
  | l :: ls => by
    have ih := eqL_snoc x ls
    have e : (x.2.toList == l.2.toList) = (l.2.toList == x.2.toList) := Bool.eq_iff_iff.2 ⟨fun h => by simp at h ⊢; exact h.symm, fun h => by simp at h ⊢; exact h.symm⟩
    simp only [List.cons_append, eqL, ih, sameC, List.countP_append, List.countP_cons, List.countP_nil, e]
    omega
theorem eqL_le : ∀ ls : List Ltr, ls.length ≤ 60 → eqL ls ≤ 60 * ls.length
  | [], _ => by simp [eqL]
  | l :: ls, h => by
    have h1 := eqL_le ls (by simp at h; omega)
    have h2 := sameC_le l.2 ls
    simp only [eqL, List.length_cons] at h ⊢
    omega
theorem tri_count (c : ByteArray) : ∀ ls : List Ltr, below c ls + above c ls + sameC c ls = ls.length
  | [] => rfl
  | l :: ls => by
    have ih := tri_count c ls
    unfold below above sameC at *
    rw [List.countP_cons, List.countP_cons, List.countP_cons, List.length_cons]
    by_cases e : l.2.toList = c.toList
    · have h1 : ltB l.2 c = false := by unfold ltB; rw [e]; exact bl_irr _
      have h2 : ltB c l.2 = false := by unfold ltB; rw [e]; exact bl_irr _
      simp [h1, h2, e]; omega
    · have h3 : (l.2.toList == c.toList) = false := by simpa using e
      cases h1 : ltB l.2 c with
      | true =>
        have h2 : ltB c l.2 = false := bl_asym _ _ h1
        simp [h2, h3]; omega
      | false =>
        have h2 : ltB c l.2 = true := bl_tri _ _ h1 e
        simp [h2, h3]; omega
def tri : Nat → Nat
  | 0 => 0
  | n + 1 => tri n + n
theorem pairs_all : ∀ ls : List Ltr, invL ls + invL ls.reverse + eqL ls = tri ls.length
  | [] => rfl
  | l :: ls => by
    have ih := pairs_all ls
    have h := tri_count l.2 ls
    have h2 : above l.2 ls.reverse = above l.2 ls := by unfold above; exact (List.reverse_perm ls).countP_eq _
    rw [List.reverse_cons, invL_snoc, h2, List.length_cons]
    simp only [invL, eqL, tri]
    omega
theorem tri_val : ∀ n : Nat, n < 61 → (n : Int) * ((n : Int) - 1) / 2 = (tri n : Int) := by decide
theorem invL_zero : ∀ ls : List Ltr, invL ls = 0 ↔ ls.Pairwise leL
  | [] => by simp [invL]
  | l :: ls => by
    have ih := invL_zero ls
    simp only [invL, Nat.add_eq_zero_iff, ih, List.pairwise_cons]
    have : below l.2 ls = 0 ↔ ∀ m ∈ ls, leL l m := by
      unfold below leL; rw [List.countP_eq_zero]; simp
    rw [this]
theorem sorted_inv {ls : List Ltr} (h : batchB ls = true) : sortedB ls = decide (invL ls = 0) := by
  rw [Bool.eq_iff_iff]; simp only [sortedB, h, Bool.true_and, decide_eq_true_eq, invL_zero, srt_iff]
theorem batch_reverse (ls : List Ltr) : batchB ls.reverse = batchB ls := batchB_perm (List.reverse_perm ls)

end Go.Proofs.Ytafngfmloiikoaa
