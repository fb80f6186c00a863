/-
  WALKS: Inversions of the program and of the reference; its exact law. By an AI agent.
-/
import Derived.Test.YtkbbnobchmlmdaaFind
namespace Go.Proofs.Ytkbbnobchmlmdaa
open Go.RowKit

/-- How many letters of a list stand below / above a code. -/
def below (c : ByteArray) (ls : List Ltr) : Nat := ls.countP fun m => ltB m.2 c
def above (c : ByteArray) (ls : List Ltr) : Nat := ls.countP fun m => ltB c m.2
/-- Pairs in the wrong order. -/
def invL : List Ltr → Nat
  | [] => 0
  | l :: ls => below l.2 ls + invL ls
theorem invL_snoc (x : Ltr) : ∀ ls : List Ltr, invL (ls ++ [x]) = invL ls + above x.2 ls
  | [] => by simp [invL, below, above]
  | l :: ls => by
    have ih := invL_snoc x ls
    simp only [List.cons_append, invL, ih, below, above, List.countP_append, List.countP_cons, List.countP_nil]
    omega
theorem below_cons (c : ByteArray) (m : Ltr) (ls : List Ltr) : below c (m :: ls) = below c ls + if ltB m.2 c = true then 1 else 0 := by
  unfold below; rw [List.countP_cons]
theorem above_snoc (c : ByteArray) (m : Ltr) (ls : List Ltr) : above c (ls ++ [m]) = above c ls + if ltB c m.2 = true then 1 else 0 := by
  unfold above; rw [List.countP_append]; simp [List.countP_cons]
theorem below_le (c : ByteArray) (ls : List Ltr) : below c ls ≤ ls.length := List.countP_le_length
theorem above_le (c : ByteArray) (ls : List Ltr) : above c ls ≤ ls.length := List.countP_le_length
theorem invL_le : ∀ ls : List Ltr, ls.length ≤ 60 → invL ls ≤ 60 * ls.length
  | [], _ => by simp [invL]
  | l :: ls, h => by
    have h1 := invL_le ls (by simp at h; omega)
    have h2 := below_le l.2 ls
    simp only [invL, List.length_cons] at h ⊢
    omega
theorem bl_tri : ∀ x y : List UInt8, Op.bytesLess x y = false → x ≠ y → Op.bytesLess y x = true
  | [], [], _, h => absurd rfl h
  | [], _ :: _, h, _ => by simp [Op.bytesLess] at h
  | _ :: _, [], _, _ => rfl
  | a :: x, b :: y, h, hne => by
    simp only [Op.bytesLess, Bool.or_eq_false_iff, decide_eq_false_iff_not, Bool.and_eq_false_iff, beq_eq_false_iff_ne] at h
    simp only [Op.bytesLess, Bool.or_eq_true, decide_eq_true_eq, Bool.and_eq_true, beq_iff_eq]
    obtain ⟨h1, h2⟩ := h
    rw [UInt8.lt_iff_toNat_lt] at h1 ⊢
    by_cases e : a = b
    · subst e
      right
      refine ⟨rfl, bl_tri x y ?_ (fun e => hne (by rw [e]))⟩
      rcases h2 with h2 | h2
      · exact absurd rfl h2
      · exact h2
    · left
      have : a.toNat ≠ b.toNat := fun e2 => e (UInt8.toNat_inj.1 e2)
      omega
theorem bl_asym : ∀ x y : List UInt8, Op.bytesLess x y = true → Op.bytesLess y x = false
  | [], [], h => by simp [Op.bytesLess] at h
  | [], _ :: _, _ => rfl
  | _ :: _, [], h => by simp [Op.bytesLess] at h
  | a :: x, b :: y, h => by
    simp only [Op.bytesLess, Bool.or_eq_true, decide_eq_true_eq, Bool.and_eq_true, beq_iff_eq] at h
    simp only [Op.bytesLess, Bool.or_eq_false_iff, decide_eq_false_iff_not, Bool.and_eq_false_iff, beq_eq_false_iff_ne]
    rw [UInt8.lt_iff_toNat_lt] at h ⊢
    rcases h with h | ⟨rfl, h⟩
    · exact ⟨by omega, .inl (fun e => by subst e; omega)⟩
    · exact ⟨by omega, .inr (bl_asym x y h)⟩
theorem bl_irr (x : List UInt8) : Op.bytesLess x x = false := by
  cases h : Op.bytesLess x x with
  | false => rfl
  | true => have := bl_asym x x h; rw [h] at this; cases this
/-- Greater is the other way round. -/
theorem gt_lt (a b : ByteArray) : (!(Op.bytesLess a.toList b.toList || a.toList == b.toList)) = ltB b a := by
  unfold ltB
  cases h1 : Op.bytesLess a.toList b.toList with
  | true => rw [bl_asym _ _ h1]; rfl
  | false =>
    by_cases e : a.toList = b.toList
    · rw [e, bl_irr]; simp
    · rw [bl_tri _ _ h1 e]; simp [e]
/-- What Inversions answers. -/
def invV (ls : List Ltr) : Int := if batchB ls = true then (invL ls : Int) else -1

end Go.Proofs.Ytkbbnobchmlmdaa
