/-
  Arguments that are slices of letters, opened. By an AI agent.
-/
import Derived.Test.YtafngfmloiikoaaLet
import Derived.ProofKit
import Derived.OpenShut
import Derived.Deep.SlicePairs
import Derived.Lib.SmallJoins
namespace Go.Proofs.Ytafngfmloiikoaa
open Go.RowKit Go.ChangeShapes Go.WideShapes Go.ChangeAt Go.Deep

theorem list_of {α : Type} {Q : Nat → α → Prop} : ∀ n, (∀ i, i < n → ∃ l, Q i l) → ∃ ls : List α, ls.length = n ∧ ∀ i (h : i < ls.length), Q i ls[i]
  | 0, _ => ⟨[], rfl, fun i h => by cases h⟩
  | n + 1, h => by
    obtain ⟨ls, h1, h2⟩ := list_of n (fun i hi => h i (by omega))
    obtain ⟨l, hl⟩ := h n (by omega)
    refine ⟨ls ++ [l], by simp [h1], fun i hi => ?_⟩
    by_cases e : i < ls.length
    · rw [List.getElem_append_left e]; exact h2 i e
    · have hin : i = n := by simp at hi; omega
      subst hin
      rw [List.getElem_append_right (by omega)]; simp [h1]; exact hl

theorem open_letters {H : Type} {enc : TypeId × Value → H} {W : World} {a : Option Addr} {len cap : Nat} {d : DataW H} {p : List MemPlace}
    (h : DataW.Trod enc Try.prog W 0 (fun _ => true) true 47 (.slice a len cap) d p) : ∃ ls : List Ltr, LS W a len cap ls := by
  obtain ⟨fuel, hf⟩ := h
  rcases open_slice_pairs Try.underlying47 Try.underlying74 (by kernel_rfl) rfl rfl (by kernel_rfl) (by kernel_rfl) hf with ⟨hcs, hx⟩ | ⟨a', len', cap', m, n, V0, V1, D0, D1, P0, P1, hcs, _, hl, hm, hmm, hx, hi⟩
  · simp [Value.cells] at hcs
    obtain ⟨rfl, rfl, rfl⟩ := hcs
    exact ⟨[], rfl, Nat.le_refl _, by unfold maxLen; omega, fun l hl => (by cases hl), fun h => by omega⟩
  · simp [Value.cells] at hcs
    obtain ⟨rfl, rfl, rfl⟩ := hcs
    simp only [if_true] at hmm
    subst hmm
    have each : ∀ i, i < len → ∃ l : Ltr, W.cell? (a'.add (i * 2)) = some (.int .i64 l.1) ∧ W.cell? (a'.add (i * 2 + 1)) = some (.string l.2) ∧ l.2.size ≤ maxLen := by
      intro i hil
      obtain ⟨h0, h1, h2, h3⟩ := hi i (by omega)
      obtain ⟨x, ex, _, _⟩ := DataW.trod_int Try.underlying3 h2
      obtain ⟨s, es, _, hs⟩ := DataW.trod_string Try.underlying9 h3
      simp at ex es
      exact ⟨(x, s), by rw [h0, ex], by rw [h1, es], hs⟩
    obtain ⟨ls, h1, h2⟩ := list_of len each
    refine ⟨ls, h1, hl, hm, fun l hl => ?_, fun h0 => ?_⟩
    · obtain ⟨i, hi, rfl⟩ := List.getElem_of_mem hl
      exact (h2 i hi).2.2
    · obtain ⟨ab, ao, spot⟩ := a'
      have hspot : spot = none := by simpa [Addr.add] using World.cell?_spot (h2 0 (by omega)).1
      subst hspot
      refine ⟨ab, ao, rfl, fun i hi => ?_⟩
      have hh := h2 i hi
      rw [Addr.add_lit, Addr.add_lit] at hh
      exact ⟨hh.1, hh.2.1⟩

end Go.Proofs.Ytafngfmloiikoaa
