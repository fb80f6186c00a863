/-
  THE TABLE digitBars: what the row's list gives, and a world for the witness. By an AI agent.
-/
import Derived.Test.YtcopkapcgabkmaaDoorRows
import Derived.Test.YtcopkapcgabkmaaDoorBars
import Derived.ProofKit
import Derived.Lib.LaidTab
namespace Go.Proofs.YtcopkapcgabkmaaDoor
open Go.RowKit Go.ChangeShapes Go.WideShapes

/-- An array of strings that reads as a list of byte lists holds these strings, cell for cell. -/
theorem cells_of_strs {H : Type} {enc : TypeId × Value → H} {P : Program} {w : World} {base : Nat} {sp : Nat → Bool} {held : Bool} {fuel : Nat} {t e : TypeId} {n : Nat} {cs : List Value} {zs : List (List UInt8)} {p : List MemPlace}
    (ht : P.underlying t = some (.array n e)) (he : P.underlying e = some .string) (hce : P.cellsOf e = 1) (hct : P.cellsOf t = n)
    (h : DataW.trod enc P w base sp held fuel t cs = some (.agg (zs.map fun z => .lit (.string z)), p)) : ∀ (i : Nat) (z : List UInt8), zs[i]? = some z → cs[i]? = some (.string ⟨z.toArray⟩) := by
  cases fuel with
  | zero => simp [DataW.trod] at h
  | succ fuel =>
    simp only [DataW.trod, ht, hce, hct, Nat.mul_one] at h
    split at h
    · obtain ⟨xs, hm, hx⟩ := Option.map_eq_some_iff.1 h
      have hxs : xs.map (·.1) = zs.map fun z => (DataW.lit (.string z) : DataW H) := by
        have := congrArg Prod.fst hx
        simpa using this
      have hxl : xs.length = n := by simpa using Lib.mapM_length hm
      have hzl : zs.length = n := by
        have := congrArg List.length hxs
        simp at this
        omega
      intro i z hz
      have hi : i < n := by have := (List.getElem?_eq_some_iff.1 hz).1; omega
      obtain ⟨b, hb, hf⟩ := Lib.mapM_at hm i i (by simp [hi])
      obtain ⟨s, hc, rfl, _⟩ := DataW.trod_string he hf
      have h1 : cs[i]? = some (.string s) := by
        have := congrArg (·[0]?) hc
        simpa [List.getElem?_take, List.getElem?_drop] using this
      have h2 : (xs.map (·.1))[i]? = some (DataW.lit (.string s.data.toList) : DataW H) := by simp [hb]
      rw [hxs, List.getElem?_map, hz] at h2
      simp only [Option.map_some, Option.some.injEq, DataW.lit.injEq, Lit.string.injEq] at h2
      rw [h1, h2]
    · cases h

theorem table_of_laid {W : World} {g : Nat} (hg : Tryd.prog.globalNamed "loop.example/sortingoffice/impl.digitBars" = some g) (hty : (Tryd.prog.globals[g]?).map (·.type) = some 42)
    (h : laidMetH Tryd.prog [("loop.example/sortingoffice/impl.digitBars", Rows.laid_loop_example_sortingoffice_impl_digitBars)] W) (hg0 : g = 0 := by rfl) : Tab W := by
  subst hg0
  have h' : laidMet Tryd.prog [("loop.example/sortingoffice/impl.digitBars", Rows.laid_loop_example_sortingoffice_impl_digitBars)] W := h
  obtain ⟨ps, ⟨g', t', cs, fuel, p, q, hg', ht', hvar, hd, _, _⟩, _⟩ := h'
  obtain rfl := Option.some.inj (hg.symm.trans hg')
  obtain rfl := Option.some.inj (hty.symm.trans ht')
  have hcs := cells_of_strs (zs := (List.range 10).map barL) Tryd.underlying42 Tryd.underlying9 (by kernel_rfl) (by kernel_rfl) hd
  intro i hi
  rw [World.var?_cell hg hvar i]
  have := hcs i (barL i) (by simp [hi])
  simpa [barS] using this

/-- A world for the witness: the settled one, the table holding what its initialiser lays. -/
noncomputable def laidWorld (os : Os) : World :=
  { World.holding Tryd.prog os ⟨#[], #[], []⟩ with heap := (World.holding Tryd.prog os ⟨#[], #[], []⟩).heap.modify 0 fun
      | .cells _ t frozen => .cells #[.string (barS 0), .string (barS 1), .string (barS 2), .string (barS 3), .string (barS 4), .string (barS 5), .string (barS 6), .string (barS 7), .string (barS 8), .string (barS 9)] t frozen
      | o => o }

end Go.Proofs.YtcopkapcgabkmaaDoor
