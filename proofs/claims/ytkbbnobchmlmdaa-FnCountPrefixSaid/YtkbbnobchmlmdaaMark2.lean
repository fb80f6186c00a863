/-
  WALKS: markLetterS, heldLetterS. By an AI agent.
-/
import Derived.Test.YtkbbnobchmlmdaaMark
namespace Go.Proofs.Ytkbbnobchmlmdaa
open Go.RowKit

theorem cellsL_cons (l : Ltr) (ls : List Ltr) : cellsL (l :: ls) = .int .i64 l.1 :: .string l.2 :: cellsL ls := rfl
theorem cellsL_setId : ∀ (ls : List Ltr) (i : Nat) (x : Int) (m : Ltr), ls[i]? = some m → (cellsL ls).set (i * 2) (.int .i64 x) = cellsL (ls.set i (x, m.2))
  | [], i, x, m, h => by simp at h
  | l :: ls, 0, x, m, h => by simp at h; subst h; rfl
  | l :: ls, i + 1, x, m, h => by
    have ih := cellsL_setId ls i x m (by simpa using h)
    rw [cellsL_cons, show (i + 1) * 2 = i * 2 + 1 + 1 by omega, List.set_cons_succ, List.set_cons_succ, List.set_cons_succ, cellsL_cons, ih]
theorem cellsL_setCode : ∀ (ls : List Ltr) (i : Nat) (s : ByteArray) (m : Ltr), ls[i]? = some m → (cellsL ls).set (i * 2 + 1) (.string s) = cellsL (ls.set i (m.1, s))
  | [], i, s, m, h => by simp at h
  | l :: ls, 0, s, m, h => by simp at h; subst h; rfl
  | l :: ls, i + 1, s, m, h => by
    have ih := cellsL_setCode ls i s m (by simpa using h)
    rw [cellsL_cons, show (i + 1) * 2 + 1 = i * 2 + 1 + 1 + 1 by omega, List.set_cons_succ, List.set_cons_succ, List.set_cons_succ, cellsL_cons, ih]
/-- Where the letters of the call's own lie. -/
theorem Own.form {w : World} {B : Nat} {v : Value} {ls : List Ltr} (h : Own w B v ls) (h0 : 0 < ls.length) : ∃ g cap, v = .slice (some ⟨g, 0, none⟩) ls.length cap := by
  rcases h.1.2 with ⟨_, hn⟩ | ⟨g, cap, cur, hv, _⟩
  · omega
  · exact ⟨g, cap, hv⟩
theorem Own.cells {w : World} {B g n cap : Nat} {ls : List Ltr} (h : Own w B (.slice (some ⟨g, 0, none⟩) n cap) ls) (i : Nat) (m : Ltr) (hm : ls[i]? = some m) :
    w.cell? ⟨g, i * 2, none⟩ = some (.int .i64 m.1) ∧ w.cell? ⟨g, i * 2 + 1, none⟩ = some (.string m.2) ∧ w.frozen? ⟨g, i * 2, none⟩ = false ∧ w.frozen? ⟨g, i * 2 + 1, none⟩ = false := by
  obtain ⟨hh, he⟩ := List.getElem?_eq_some_iff.1 hm
  have ha := cellsL_at ls i hh
  have h0 := h.1.cells (g := g) rfl (i * 2) _ ha.1
  have h1 := h.1.cells (g := g) rfl (i * 2 + 1) _ ha.2
  rw [add_lit'] at h0 h1
  rw [he] at h0 h1
  refine ⟨h0, h1, ?_, ?_⟩
  · rcases h.1.2 with ⟨hv, _⟩ | ⟨g', cap', cur, hv, _, hg, _⟩
    · cases hv
    · simp at hv; obtain ⟨rfl, _, _⟩ := hv
      simp [World.frozen?, hg]
  · rcases h.1.2 with ⟨hv, _⟩ | ⟨g', cap', cur, hv, _, hg, _⟩
    · cases hv
    · simp at hv; obtain ⟨rfl, _, _⟩ := hv
      simp [World.frozen?, hg]
theorem own_set {w : World} {B g n cap : Nat} {ls ls' : List Ltr} (h : Own w B (.slice (some ⟨g, 0, none⟩) n cap) ls) (j : Nat) (u : Value) (hl : ls'.length = ls.length)
    (hc : (cellsL ls).set j u = cellsL ls') (hs : ∀ l ∈ ls', l.2.size ≤ maxLen) : Own (w.setCell ⟨g, j, none⟩ u) B (.slice (some ⟨g, 0, none⟩) n cap) ls' := by
  refine ⟨⟨by rw [cellsL_length], ?_⟩, hs⟩
  rcases h.1.2 with ⟨hv, _⟩ | ⟨g', cap', cur, hv, hb, hg, hnc, hcm, hcs, ht⟩
  · cases hv
  · simp at hv; obtain ⟨rfl, rfl, rfl⟩ := hv
    refine .inr ⟨g, cap, cur.setIfInBounds j u, by rw [hl], hb, ?_, by rw [hl]; exact hnc, hcm, by simp [hcs], ?_⟩
    · simp [World.setCell, Array.getElem?_modify, hg]
    · rw [hl, Array.toList_setIfInBounds, List.take_set, ht, hc]
theorem Own.setId {w : World} {B g n cap : Nat} {ls : List Ltr} (h : Own w B (.slice (some ⟨g, 0, none⟩) n cap) ls) (i : Nat) (m : Ltr) (hm : ls[i]? = some m) (x : Int) :
    Own (w.setCell ⟨g, i * 2, none⟩ (.int .i64 x)) B (.slice (some ⟨g, 0, none⟩) n cap) (ls.set i (x, m.2)) := by
  obtain ⟨hh, he⟩ := List.getElem?_eq_some_iff.1 hm
  refine own_set h _ _ (by simp) (cellsL_setId ls i x m hm) (fun l hl => ?_)
  rcases List.mem_or_eq_of_mem_set hl with h1 | h1
  · exact h.2 l h1
  · rw [h1]; exact h.2 m (List.mem_of_getElem? hm)
theorem Own.setCode {w : World} {B g n cap : Nat} {ls : List Ltr} (h : Own w B (.slice (some ⟨g, 0, none⟩) n cap) ls) (i : Nat) (m : Ltr) (hm : ls[i]? = some m) (s : ByteArray) (hs : s.size ≤ maxLen) :
    Own (w.setCell ⟨g, i * 2 + 1, none⟩ (.string s)) B (.slice (some ⟨g, 0, none⟩) n cap) (ls.set i (m.1, s)) := by
  obtain ⟨hh, he⟩ := List.getElem?_eq_some_iff.1 hm
  refine own_set h _ _ (by simp) (cellsL_setCode ls i s m hm) (fun l hl => ?_)
  rcases List.mem_or_eq_of_mem_set hl with h1 | h1
  · exact h.2 l h1
  · rw [h1]; exact hs

/-- The marks. -/
def mkI (x : Int) : ByteArray := mkT x.toNat
def markAt (k : Int) (i : Nat) : Ltr := (k + 2 * (i : Int), mkI (k + 2 * (i : Int) + 1))
def marks (k : Int) (n : Nat) : List Ltr := (List.range n).map (markAt k)
theorem marks_len (k : Int) (n : Nat) : (marks k n).length = n := by simp [marks]
theorem marks_succ (k : Int) (n : Nat) : marks k (n + 1) = marks k n ++ [markAt k n] := by simp [marks, List.range_succ]
theorem marks_get (k : Int) (n i : Nat) (h : i < n) : (marks k n)[i]? = some (markAt k i) := by simp [marks, h]
theorem marks_mid (k : Int) (i : Nat) (ls : List Ltr) (m : Ltr) (h : ls[i]? = some m) : (marks k i ++ ls.drop i)[i]? = some m := by
  rw [List.getElem?_append_right (by rw [marks_len]; omega), marks_len, Nat.sub_self, List.getElem?_drop, Nat.add_zero]; exact h
theorem marks_mid2 (k : Int) (i : Nat) (ls : List Ltr) (m : Ltr) (h : ls[i]? = some m) (x : Int) : ((marks k i ++ ls.drop i).set i (x, m.2))[i]? = some (x, m.2) := by
  rw [List.getElem?_set_self]
  have := (List.getElem?_eq_some_iff.1 (marks_mid k i ls m h)).1
  exact this
theorem marks_step (k : Int) (i : Nat) (ls : List Ltr) (m : Ltr) (h : ls[i]? = some m) : (((marks k i ++ ls.drop i).set i (k + 2 * (i : Int), m.2)).set i (k + 2 * (i : Int), mkI (k + 2 * (i : Int) + 1))) = marks k (i + 1) ++ ls.drop (i + 1) := by
  obtain ⟨hh, he⟩ := List.getElem?_eq_some_iff.1 h
  rw [List.set_set, marks_succ, List.set_append_right _ _ (by rw [marks_len]; omega), marks_len, Nat.sub_self, List.drop_eq_getElem_cons hh, List.set_cons_zero, List.append_assoc]
  rfl

/-- What markLetterS does. -/
def Marked (k : Int) (n : Nat) (v : Value) (B : Nat) (w : World) (e : Ending) (w' : World) : Prop :=
  e = .returned (.int .i64 (k + 2 * (n : Int))) ∧ Own w' B v (marks k n) ∧ w.grownBy w' v.ownBlock
theorem grown_set' {a b : World} {v : Value} {g n cap : Nat} (hv : v = .slice (some ⟨g, 0, none⟩) n cap) (h : a.grownBy b v.ownBlock) (j : Nat) (u : Value) : a.grownBy (b.setCell ⟨g, j, none⟩ u) v.ownBlock := by
  subst hv
  exact ⟨h.os, h.tape, h.output, by simpa [World.setCell] using h.size, fun i hi hne => (Below.heap_setCell b ⟨g, j, none⟩ u i (by
    intro e; subst e; exact hne rfl)).trans (h.block i hi hne)⟩
theorem grown_ext' {a b c : World} {row : Option Nat} (h : a.grownBy b row) (k : Below b.heap.size b c) : a.grownBy c row :=
  ⟨k.os.trans h.os, k.tape.trans h.tape, k.output.trans h.output, Nat.le_trans h.size k.size, fun i hi hne => (k.block i (Nat.lt_of_lt_of_le hi h.size)).trans (h.block i hi hne)⟩

end Go.Proofs.Ytkbbnobchmlmdaa
