/-
  MergeBatches: plain facts, and the program's walk. By an AI agent.
-/
import Derived.Test.YtkbbnobchmlmdaaRng
import Derived.Test.YtkbbnobchmlmdaaInv
namespace Go.Proofs.Ytkbbnobchmlmdaa
open Go.RowKit

def leB (a b : ByteArray) : Bool := Op.bytesLess a.toList b.toList || a.toList == b.toList
/-- Two lists merged: of equal codes the first list's come first. -/
def mergeL : List Ltr → List Ltr → List Ltr
  | [], ys => ys
  | a :: xs, [] => a :: xs
  | a :: xs, b :: ys => if leB a.2 b.2 = true then a :: mergeL xs (b :: ys) else b :: mergeL (a :: xs) ys
termination_by a b => a.length + b.length
theorem mergeL_nil (xs : List Ltr) : mergeL xs [] = xs := by cases xs <;> simp [mergeL]
theorem mergeL_left (a : Ltr) (xs : List Ltr) (b : Ltr) (ys : List Ltr) (h : leB a.2 b.2 = true) : mergeL (a :: xs) (b :: ys) = a :: mergeL xs (b :: ys) := by rw [mergeL, if_pos h]
theorem mergeL_right (a : Ltr) (xs : List Ltr) (b : Ltr) (ys : List Ltr) (h : leB a.2 b.2 = false) : mergeL (a :: xs) (b :: ys) = b :: mergeL (a :: xs) ys := by rw [mergeL, if_neg (by rw [h]; decide)]
theorem mergeL_perm : ∀ xs ys : List Ltr, List.Perm (mergeL xs ys) (xs ++ ys)
  | [], ys => by rw [mergeL]; exact List.Perm.refl _
  | a :: xs, [] => by rw [mergeL]; simp
  | a :: xs, b :: ys => by
    rw [mergeL]; split
    · exact List.Perm.cons a (mergeL_perm xs (b :: ys))
    · have h := mergeL_perm (a :: xs) ys
      exact (List.Perm.cons b h).trans (List.perm_middle.symm)
termination_by a b => a.length + b.length
theorem batchB_perm {xs ys : List Ltr} (h : List.Perm xs ys) : batchB xs = batchB ys := by
  have key : ∀ {xs ys : List Ltr}, List.Perm xs ys → batchB xs = true → batchB ys = true := by
    intro xs ys h hb
    rw [batchB_true] at hb ⊢
    refine ⟨by rw [← h.length_eq]; exact hb.1, fun l hl => hb.2.1 l (h.mem_iff.2 hl), (h.map Prod.fst).nodup_iff.1 hb.2.2⟩
  rw [Bool.eq_iff_iff]; exact ⟨key h, key h.symm⟩
def mergeOk (xs ys : List Ltr) : Bool := sortedB xs && sortedB ys && batchB (xs ++ ys)
/-- The merged letters. -/
def mergeR (xs ys : List Ltr) : List Ltr := if mergeOk xs ys = true then mergeL xs ys else []
/-- What a function that returns letters and a bool answers. -/
def Gives (ls : List Ltr) (ok : Bool) (w : World) (e : Ending) (w' : World) : Prop :=
  ∃ v, e = .returned (.tuple #[v, .bool ok]) ∧ Own w' w.heap.size v ls ∧ Below w.heap.size w w'
theorem sorted_batch {ls : List Ltr} (h : sortedB ls = true) : batchB ls = true := by simp only [sortedB, Bool.and_eq_true] at h; exact h.1
/-- What an append of a letter to a slice of the call's own leaves. -/
theorem Own.app {w w' : World} {B : Nat} {v v' : Value} {ls : List Ltr} {x : Ltr} (h : Own w B v ls) (hx : x.2.size ≤ maxLen)
    (ho : w'.ownsRow B 29 2 v' (ls.length + 1) (cellsL ls ++ [.int .i64 x.1, .string x.2])) : Own w' B v' (ls ++ [x]) := by
  refine ⟨by rw [cellsL_append, List.length_append]; exact ho, fun l hm => ?_⟩
  rcases List.mem_append.1 hm with h1 | h1
  · exact h.2 l h1
  · simp at h1; subst h1; exact hx
theorem make_cap (n m : Nat) (hn : n + m ≤ 1048576) (w : World) : ∃ cs : Array Value, cs.size = (n + m) * 2 ∧
    (Instr.makeSlice 23 (.int .i64 0) (.int .i64 ((n : Int) + (m : Int)))).run Try.prog w = .ok (.slice (some ⟨w.heap.size, 0, none⟩) 0 (n + m)) (w.alloc (.cells cs 29)) := by
  obtain ⟨i0, hi, hz0, hz1, hz2⟩ := info_parts info_letter
  refine ⟨_, ?_, run_make_rowN' 23 29 i0 _ Try.underlying23 hi hz0 .i64 .i64 0 (n + m) (Nat.zero_le _) (by rw [hz2]; omega) (by omega) w⟩
  rw [hz1]; exact size_madeCells _ _

/-- A step of a loop that appends a letter. -/
theorem own_step {W wr w4 : World} {nq : Nat} {v v' : Value} {M : List Ltr} {x : Ltr} {o : Obj} (hbel : Below W.heap.size W wr) (ho : Own wr W.heap.size v M) (hx : x.2.size ≤ maxLen)
    (hown' : w4.ownsRow W.heap.size 29 2 v' (M.length + 1) (cellsL M ++ [.int .i64 x.1, .string x.2])) (hgrow : ((wr.drewN nq).alloc o).grownBy w4 v.ownBlock) :
    Own w4 W.heap.size v' (M ++ [x]) ∧ Below W.heap.size W w4 := by
  have hb1 : Below W.heap.size W ((wr.drewN nq).alloc o) := ext_alloc (below_drewN' hbel nq) o
  have ho1 : Own ((wr.drewN nq).alloc o) W.heap.size v M := Own.ext (w := wr.drewN nq) ho (below_box _ _)
  exact ⟨ho1.app hx hown', below_app hb1 ho1 hb1.size hgrow⟩
theorem own_step0 {W wr w4 : World} {v v' : Value} {M : List Ltr} {x : Ltr} {o : Obj} (hbel : Below W.heap.size W wr) (ho : Own wr W.heap.size v M) (hx : x.2.size ≤ maxLen)
    (hown' : w4.ownsRow W.heap.size 29 2 v' (M.length + 1) (cellsL M ++ [.int .i64 x.1, .string x.2])) (hgrow : (wr.alloc o).grownBy w4 v.ownBlock) :
    Own w4 W.heap.size v' (M ++ [x]) ∧ Below W.heap.size W w4 := by
  have hb1 : Below W.heap.size W (wr.alloc o) := ext_alloc hbel o
  have ho1 : Own (wr.alloc o) W.heap.size v M := ho.ext (below_box _ _)
  exact ⟨ho1.app hx hown', below_app hb1 ho1 hb1.size hgrow⟩

end Go.Proofs.Ytkbbnobchmlmdaa
