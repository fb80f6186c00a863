/-
  WALKS: VaryingDigits of both sides. By an AI agent.
-/
import Derived.Test.YtafngfmloiikoaaOwnI
import Derived.Test.YtafngfmloiikoaaMerge2
namespace Go.Proofs.Ytafngfmloiikoaa
open Go.RowKit

/-- The byte of a code at a digit, as a number. -/
def dig (c : ByteArray) (d : Nat) : Nat := if h : d < c.size then c[d].toNat else 0
theorem dig_eq (c : ByteArray) (d : Nat) (h : d < c.size) : c[d].toNat = dig c d := by unfold dig; rw [dif_pos h]
/-- Whether codes differ in a digit. -/
def varyB (ls : List Ltr) (d : Nat) : Bool := ls.any fun l => dig l.2 d != dig (ls.headD (0, ⟨#[]⟩)).2 d
def varyTo (ls : List Ltr) (d : Nat) : List Int := ((List.range d).filter (varyB ls)).map fun (i : Nat) => (i : Int)
theorem varyTo_succ (ls : List Ltr) (d : Nat) : varyTo ls (d + 1) = varyTo ls d ++ if varyB ls d = true then [(d : Int)] else [] := by
  unfold varyTo; rw [List.range_succ, List.filter_append, List.map_append]; cases h : varyB ls d <;> simp [h]
theorem varyTo_le (ls : List Ltr) (d : Nat) : (varyTo ls d).length ≤ d := by
  unfold varyTo; rw [List.length_map]; exact Nat.le_trans (List.length_filter_le _ _) (by simp)
def varyL (ls : List Ltr) : List Int := if batchB ls = true then varyTo ls 7 else []
theorem batch_code {ls : List Ltr} (h : batchB ls = true) {l : Ltr} {k : Nat} (hl : ls[k]? = some l) : l.2.size = 7 := by
  have := ((batchB_true ls).1 h).2.1 l (List.mem_of_getElem? hl)
  simp [okL, codeB] at this
  exact this.2.1
theorem info_int : (Try.prog.info? 3).map (fun i => (i.zero, i.size, i.bytes)) = some (some (.int .i64 0), 1, 8) := by kernel_rfl
/-- A number in a new block of its own. -/
theorem int_at (w : World) (x : Int) (t : TypeId) (g : Nat) (hg : g = w.heap.size) : ∀ j u, ([.int .i64 x] : List Value)[j]? = some u → (w.alloc (.cells #[.int .i64 x] t)).cell? ((⟨g, 0, none⟩ : Addr).add j) = some u := by
  intro j u hj
  subst hg
  have hr := Row.made w t #[.int .i64 x]
  rw [add_lit', hr.cell]
  simpa using hj
theorem int_one (x : Int) : ∀ u ∈ ([.int .i64 x] : List Value), u.oneCell' = true := by
  intro u hu; simp at hu; subst hu; rfl
theorem OwnI.app {w' : World} {B : Nat} {v' : Value} {xs : List Int} {x : Int}
    (ho : w'.ownsRow B 3 1 v' (xs.length + 1) (cellsI xs ++ [.int .i64 x])) : OwnI w' B v' (xs ++ [x]) := by
  have e : cellsI (xs ++ [x]) = cellsI xs ++ [.int .i64 x] := by simp [cellsI]
  unfold OwnI; rw [e, List.length_append]; exact ho
/-- What VaryingDigits answers. -/
def Varies (ls : List Ltr) (w : World) (e : Ending) (w' : World) : Prop :=
  ∃ v, e = .returned v ∧ OwnI w' w.heap.size v (varyL ls) ∧ Below w.heap.size w w'
theorem vary_stop (ls : List Ltr) (d k : Nat) (l l0 : Ltr) (h0 : ls[0]? = some l0) (hl : ls[k]? = some l) (h : dig l.2 d ≠ dig l0.2 d) : varyB ls d = true := by
  have e : ls.headD (0, ⟨#[]⟩) = l0 := by cases ls with
    | nil => simp at h0
    | cons a b => simpa using h0
  unfold varyB; rw [List.any_eq_true]
  exact ⟨l, List.mem_of_getElem? hl, by rw [e]; simpa using h⟩
theorem vary_none (ls : List Ltr) (d : Nat) (h : ∀ (k : Nat) (l : Ltr), ls[k]? = some l → dig l.2 d = dig (ls.headD (0, ⟨#[]⟩)).2 d) : varyB ls d = false := by
  cases hv : varyB ls d with
  | false => rfl
  | true =>
    unfold varyB at hv; rw [List.any_eq_true] at hv
    obtain ⟨l, hm, hx⟩ := hv
    obtain ⟨k, hk⟩ := List.mem_iff_getElem?.1 hm
    have := h k l hk
    simp [this] at hx

end Go.Proofs.Ytafngfmloiikoaa
