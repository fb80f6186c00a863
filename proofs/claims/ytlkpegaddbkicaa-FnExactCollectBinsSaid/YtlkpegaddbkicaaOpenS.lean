/-
  Arguments that are slices of slices of letters, opened. By an AI agent.
-/
import Derived.Test.YtlkpegaddbkicaaSS
import Derived.Test.YtlkpegaddbkicaaOpen
import Derived.Deep.Slices
namespace Go.Proofs.Ytlkpegaddbkicaa
open Go.RowKit Go.ChangeShapes Go.WideShapes Go.ChangeAt Go.Deep

theorem open_row {H : Type} {enc : TypeId × Value → H} {W : World} {v : Value} {fuel : Nat} {x : DataW H × List MemPlace}
    (hf : DataW.trod enc Try.prog W 0 (fun _ => true) true fuel 22 [v] = some x) : ∃ (A : Option Addr) (n cap : Nat) (ls : List Ltr), v = .slice A n cap ∧ LS W A n cap ls ∧ (A = none → cap = 0) := by
  rcases open_slice_pairs Try.underlying22 Try.underlying60 (by kernel_rfl) rfl rfl (by kernel_rfl) (by kernel_rfl) hf with ⟨hcs, hx⟩ | ⟨a', len', cap', m, n, V0, V1, D0, D1, P0, P1, hcs, _, hl, hm, hmm, hx, hi⟩
  · simp at hcs
    subst hcs
    exact ⟨none, 0, 0, [], rfl, ⟨rfl, Nat.le_refl _, by unfold maxLen; omega, fun l hl => (by cases hl), fun h => by omega⟩, fun _ => rfl⟩
  · simp at hcs
    subst hcs
    simp only [if_true] at hmm
    subst hmm
    have each : ∀ i, i < len' → ∃ l : Ltr, W.cell? (a'.add (i * 2)) = some (.int .i64 l.1) ∧ W.cell? (a'.add (i * 2 + 1)) = some (.string l.2) ∧ l.2.size ≤ maxLen := by
      intro i hil
      obtain ⟨h0, h1, h2, h3⟩ := hi i (by omega)
      obtain ⟨x, ex, _, _⟩ := DataW.trod_int Try.underlying3 h2
      obtain ⟨s, es, _, hs⟩ := DataW.trod_string Try.underlying9 h3
      simp at ex es
      exact ⟨(x, s), by rw [h0, ex], by rw [h1, es], hs⟩
    obtain ⟨ls, h1, h2⟩ := list_of len' each
    refine ⟨_, _, _, ls, rfl, ⟨h1, hl, hm, fun l hl => ?_, fun h0 => ?_⟩, fun h => by cases h⟩
    · obtain ⟨i, hi, rfl⟩ := List.getElem_of_mem hl
      exact (h2 i hi).2.2
    · obtain ⟨ab, ao, spot⟩ := a'
      have hspot : spot = none := by simpa [Addr.add] using World.cell?_spot (h2 0 (by omega)).1
      subst hspot
      refine ⟨ab, ao, rfl, fun i hi => ?_⟩
      have hh := h2 i hi
      rw [Addr.add_lit, Addr.add_lit] at hh
      exact ⟨hh.1, hh.2.1⟩

theorem open_letterss {H : Type} {enc : TypeId × Value → H} {W : World} {a : Option Addr} {len cap : Nat} {d : DataW H} {p : List MemPlace}
    (h : DataW.Trod enc Try.prog W 0 (fun _ => true) true 36 (.slice a len cap) d p) : ∃ bss : List (List Ltr), LSS W a len cap bss := by
  obtain ⟨fuel, hf⟩ := h
  rcases open_slice1 Try.underlying36 (by kernel_rfl) hf with ⟨hcs, hx⟩ | ⟨a', len', cap', m, n, V, D, Pl, hcs, _, hl, hm, hmm, hx, hi⟩
  · simp [Value.cells] at hcs
    obtain ⟨rfl, rfl, rfl⟩ := hcs
    exact ⟨[], rfl, Nat.le_refl _, by unfold maxLen; omega, fun h => by omega⟩
  · simp [Value.cells] at hcs
    obtain ⟨rfl, rfl, rfl⟩ := hcs
    simp only [if_true] at hmm
    subst hmm
    have each : ∀ i, i < len → ∃ b : List Ltr, ∃ (A' : Option Addr) (n' c' : Nat), W.cell? (a'.add i) = some (.slice A' n' c') ∧ LS W A' n' c' b ∧ (A' = none → c' = 0) := by
      intro i hil
      obtain ⟨h0, h1⟩ := hi i (by omega)
      obtain ⟨A', n', c', ls, e, h2, h3⟩ := open_row h1
      exact ⟨ls, A', n', c', by rw [h0, e], h2, h3⟩
    obtain ⟨bss, h1, h2⟩ := list_of len each
    refine ⟨bss, h1, hl, hm, fun h0 => ?_⟩
    obtain ⟨ab, ao, spot⟩ := a'
    obtain ⟨A0, n0, c0, hc0, _⟩ := h2 0 (by omega)
    have hspot : spot = none := by simpa [Addr.add] using World.cell?_spot hc0
    subst hspot
    refine ⟨ab, ao, rfl, fun i b hib => ?_⟩
    obtain ⟨hi', rfl⟩ := List.getElem?_eq_some_iff.1 hib
    have hh := h2 i hi'
    rw [Addr.add_lit] at hh
    exact hh

end Go.Proofs.Ytlkpegaddbkicaa
