/-
  WALKS: the exact laws' own helpers on letters: toLetterS, szLetterS, eqLetterS; the law FnExactBatchValid. By an AI agent.
-/
import Derived.Test.YtkbbnobchmlmdaaLet
import Derived.Laws.MakeOwn
import Derived.Laws.Entries
import Derived.Deep.AppendLies
namespace Go.Proofs.Ytkbbnobchmlmdaa
open Go.RowKit

/-- The cells of letters. -/
def cellsL (ls : List Ltr) : List Value := ls.flatMap fun l => [.int .i64 l.1, .string l.2]
theorem cellsL_length (ls : List Ltr) : (cellsL ls).length = ls.length * 2 := by
  induction ls with
  | nil => rfl
  | cons l ls ih => simp only [cellsL, List.flatMap_cons, List.length_append] at ih ⊢; rw [ih]; simp; omega
theorem cellsL_append (a b : List Ltr) : cellsL (a ++ b) = cellsL a ++ cellsL b := by simp [cellsL]
theorem cellsL_one (l : Ltr) : cellsL [l] = [.int .i64 l.1, .string l.2] := rfl
theorem cellsL_at : ∀ (ls : List Ltr) (i : Nat) (h : i < ls.length), (cellsL ls)[i * 2]? = some (.int .i64 ls[i].1) ∧ (cellsL ls)[i * 2 + 1]? = some (.string ls[i].2)
  | l :: ls, 0, _ => by simp [cellsL]
  | l :: ls, i + 1, h => by
    have ih := cellsL_at ls i (by simpa using h)
    have e : cellsL (l :: ls) = .int .i64 l.1 :: .string l.2 :: cellsL ls := rfl
    rw [e, show (i + 1) * 2 = i * 2 + 1 + 1 by omega]
    simpa using ih
theorem cellsL_oneCell (ls : List Ltr) : ∀ u ∈ cellsL ls, u.oneCell' = true := by
  intro u hu
  obtain ⟨l, _, h⟩ := List.mem_flatMap.1 hu
  simp at h
  rcases h with rfl | rfl <;> rfl

/-- A slice of letters of the call's own, from block base on. -/
def Own (w : World) (base : Nat) (v : Value) (ls : List Ltr) : Prop :=
  w.ownsRow base 29 2 v ls.length (cellsL ls) ∧ (∀ l ∈ ls, l.2.size ≤ maxLen)
theorem add_lit' (g j : Nat) : (⟨g, 0, none⟩ : Addr).add j = ⟨g, j, none⟩ := by unfold Addr.add; split <;> simp_all
theorem Own.read {w : World} {base : Nat} {v : Value} {ls : List Ltr} (h : Own w base v ls) : ∃ A cap, v = .slice A ls.length cap ∧ LS w A ls.length cap ls := by
  obtain ⟨h1, h2⟩ := h
  have hc : ∀ g, v.ownBlock = some g → ∀ j u, (cellsL ls)[j]? = some u → w.cell? ((⟨g, 0, none⟩ : Addr).add j) = some u := fun g hg => h1.cells hg
  rcases h1.2 with ⟨rfl, hn⟩ | ⟨g, cap, cur, rfl, hb, hg, hnc, hcm, _⟩
  · exact ⟨none, 0, by rw [hn], rfl, by omega, by unfold maxLen; omega, h2, fun h => by omega⟩
  · refine ⟨_, cap, rfl, rfl, hnc, hcm, h2, fun _ => ⟨g, 0, rfl, fun i hi => ?_⟩⟩
    have ha := cellsL_at ls i hi
    have h0 := hc g rfl (i * 2) _ ha.1
    have h1 := hc g rfl (i * 2 + 1) _ ha.2
    rw [add_lit'] at h0 h1
    rw [Nat.zero_add]
    exact ⟨h0, h1⟩
theorem Own.mono {w : World} {base base' : Nat} {v : Value} {ls : List Ltr} (h : Own w base v ls) (hb : base' ≤ base) : Own w base' v ls := by
  obtain ⟨⟨h1, h2⟩, h3⟩ := h
  refine ⟨⟨h1, ?_⟩, h3⟩
  rcases h2 with h2 | ⟨g, cap, cur, hv, hg, r⟩
  · exact .inl h2
  · exact .inr ⟨g, cap, cur, hv, by omega, r⟩
theorem Own.ext {w w' : World} {base : Nat} {v : Value} {ls : List Ltr} (h : Own w base v ls) (hb : Below w.heap.size w w') : Own w' base v ls :=
  ⟨h.1.kept (row := none) ⟨hb.os, hb.tape, hb.output, hb.size, fun i hi _ => hb.block i hi⟩ (by cases v.ownBlock <;> simp), h.2⟩

theorem info_letter : (Try.prog.info? 29).map (fun i => (i.zero, i.size, i.bytes)) = some (some (.agg #[.int .i64 0, .string ⟨#[]⟩]), 2, 24) := by kernel_rfl
theorem run_make_rowN' {P : Program} (t e : TypeId) (i : TypeInfo) (z : Value) (ht : P.underlying t = some (.slice e)) (hi : P.info? e = some i) (hz : i.zero = some z)
    (kl kc : IntKind) (n c : Nat) (hnc : n ≤ c) (hbytes : i.bytes * c ≤ 281474976710656) (h63 : c ≤ 9223372036854775807) (w : World) :
    (Instr.makeSlice t (.int kl (n : Int)) (.int kc (c : Int))).run P w = .ok (.slice (some ⟨w.heap.size, 0, none⟩) n c) (w.alloc (.cells (madeCells z.cells (c * i.size)) e)) := by
  have hb : (i.bytes : Int) * (c : Int) ≤ 281474976710656 := by
    have h : ((i.bytes * c : Nat) : Int) ≤ 281474976710656 := by omega
    rwa [Int.natCast_mul] at h
  have hr := run_make (P := P) w t e i z ht hi hz kl kc n c (by omega) (by omega) hb (by omega)
  simp only [Int.toNat_natCast] at hr
  exact hr
theorem make_letters (n : Nat) (hn : n ≤ 1048576) (w : World) : ∃ cs : Array Value, cs.size = n * 2 ∧
    (Instr.makeSlice 23 (.int .i64 (n : Int)) (.int .i64 (n : Int))).run Try.prog w = .ok (.slice (some ⟨w.heap.size, 0, none⟩) n n) (w.alloc (.cells cs 29)) := by
  obtain ⟨i0, hi, hz0, hz1, hz2⟩ := info_parts info_letter
  refine ⟨_, ?_, run_make_rowN' 23 29 i0 _ Try.underlying23 hi hz0 .i64 .i64 n n (Nat.le_refl _) (by rw [hz2]; omega) (by omega) w⟩
  rw [hz1]; exact size_madeCells _ _

theorem fill_two (arr : Array Value) (k n : Nat) (x y : Value) (xs : List Value) (hsz : arr.size = n * 2) (hk : k < n) (ht : arr.toList.take (k * 2) = xs) :
    ((arr.setIfInBounds (k * 2) x).setIfInBounds (k * 2 + 1) y).toList.take ((k + 1) * 2) = xs ++ [x, y] := by
  rw [← ht]
  have hl : arr.toList.length = n * 2 := by rw [Array.length_toList]; exact hsz
  simp only [Array.toList_setIfInBounds]
  apply List.ext_getElem (by simp [hsz]; omega)
  intro i h1 h2
  have hi : i < (k + 1) * 2 := by simp at h1; omega
  rw [List.getElem_take, List.getElem_set, List.getElem_set, List.getElem_append]
  by_cases e1 : i < k * 2
  · rw [if_neg (by omega), if_neg (by omega), dif_pos (by simp [hsz]; omega), List.getElem_take]
  · rw [dif_neg (by simp [hsz]; omega)]
    by_cases e2 : i = k * 2
    · subst e2
      rw [if_neg (by omega), if_pos rfl]
      simp [show min (k * 2) arr.size = k * 2 by omega]
    · obtain rfl : i = k * 2 + 1 := by omega
      rw [if_pos rfl]
      simp [show min (k * 2) arr.size = k * 2 by omega]

/-- What szLetterS reckons. -/
def szF : List Ltr → Int → Int
  | [], x => x
  | l :: ls, x => if x - l.2.size < 0 then -1 else szF ls (x - l.2.size)
def szL (ls : List Ltr) (x : Int) : Int := if x - ls.length < 0 then -1 else szF ls (x - ls.length)
theorem szL_len (ls : List Ltr) (x : Int) (h : 0 ≤ szL ls x) : (ls.length : Int) ≤ x := by
  unfold szL at h; split at h <;> omega
theorem szF_le : ∀ (ls : List Ltr) (x : Int), 0 ≤ x → szF ls x ≤ x
  | [], x, _ => Int.le_refl _
  | l :: ls, x, h => by
    simp only [szF]; split
    · omega
    · have := szF_le ls (x - l.2.size) (by omega); omega
theorem szL_le (ls : List Ltr) (x : Int) (h : 0 ≤ x) : szL ls x ≤ x := by
  unfold szL; split
  · omega
  · have := szF_le ls (x - ls.length) (by omega); omega

end Go.Proofs.Ytkbbnobchmlmdaa
