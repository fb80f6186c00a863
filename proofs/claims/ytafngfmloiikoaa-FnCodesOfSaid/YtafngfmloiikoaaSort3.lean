/-
  WALKS: the comparison of letters by their codes; the library's insertion sort of a range. By an AI agent.
-/
import Derived.Test.YtafngfmloiikoaaSort1
import Derived.Shelf.SlSortCmp.QuietGrown
import Derived.Lib.Bytealg
namespace Go.Proofs.Ytafngfmloiikoaa
open Go.RowKit Go.Sort

/-- What the comparison answers. -/
def cmpI (x y : Ltr) : Int := Lib.compareBytes x.2.data.toList y.2.data.toList
theorem compare_less : ∀ a b : List UInt8, Lib.compareBytes a b < 0 ↔ Op.bytesLess a b = true
  | [], [] => by simp [Lib.compareBytes, Op.bytesLess]
  | [], _ :: _ => by simp [Lib.compareBytes, Op.bytesLess]
  | _ :: _, [] => by simp [Lib.compareBytes, Op.bytesLess]
  | a :: x, b :: y => by
    have ih := compare_less x y
    unfold Lib.compareBytes
    simp only [Op.bytesLess, Bool.or_eq_true, decide_eq_true_eq, Bool.and_eq_true, beq_iff_eq, UInt8.lt_iff_toNat_lt]
    by_cases h1 : a.toNat < b.toNat
    · rw [if_pos h1]; simp [h1]
    · rw [if_neg h1]
      by_cases h2 : b.toNat < a.toNat
      · rw [if_pos h2]
        constructor
        · intro h; omega
        · rintro (h | ⟨rfl, _⟩) <;> omega
      · rw [if_neg h2, ih]
        have : a = b := UInt8.toNat_inj.1 (by omega)
        simp [this]
theorem cmpI_less (x y : Ltr) : decide (cmpI x y < 0) = ltB x.2 y.2 := by
  rw [Bool.eq_iff_iff, decide_eq_true_eq]
  unfold cmpI ltB
  rw [compare_less, Lib.toList_data, Lib.toList_data]

set_option maxRecDepth 100000 in
set_option maxHeartbeats 1000000 in
theorem CompareString_any (a b : ByteArray) (w : World) :
    Calls Try.prog 94 #[.string a, .string b] w fun e w' => e = .returned (.int .i64 (Lib.compareBytes a.data.toList b.data.toList)) ∧ w = w' := by
  go_enter Try.func94, Try.ntmps94
  go_wp2
  rw [run_callFunc_extern Try.func99 (by kernel_rfl) (by kernel_rfl) (by kernel_rfl) (e := Extern.BytealgCompare.compare) (by kernel_rfl), Lib.run_compareString]
  simp only [Result.andThen]
  rw [Oper.upon_value]
  go_wp2
  go_ret
  exact ⟨rfl, rfl⟩

set_option maxHeartbeats 1000000 in
theorem Compare_any (a b : ByteArray) (w : World) :
    Calls Try.prog 81 #[.string a, .string b] w fun e w' => e = .returned (.int .i64 (Lib.compareBytes a.data.toList b.data.toList)) ∧ w = w' := by
  go_enter Try.func81, Try.ntmps81
  go_wp2_with (go_at_call 94; refine (CompareString_any _ _ _).mono ?_; rintro e w' ⟨rfl, rfl⟩)
  go_ret
  exact ⟨rfl, rfl⟩

set_option maxHeartbeats 1000000 in
theorem cmp_any (x y : Ltr) (w : World) :
    Calls Try.prog 80 #[vL x, vL y] w fun e w' => e = .returned (.int .i64 (cmpI x y)) ∧ ∃ q os', w' = grow (w.drewN q) os' := by
  go_enter Try.func80, Try.ntmps80
  go_wp2_with (go_at_call 81; refine (Compare_any _ _ _).mono ?_; rintro e w' ⟨rfl, rfl⟩)
  go_ret
  exact ⟨rfl, 0, #[_, _], by rw [alloc_eq_grow, alloc_eq_grow, grow_grow]; rfl⟩

theorem below_grow (w : World) (n : Nat) (os : Array Obj) : Below w.heap.size w (grow (w.drewN n) os) :=
  ⟨rfl, rfl, rfl, by simp, fun k hk => heap_grow_old (w.drewN n) os hk⟩
/-- The cells of a letter in every world of a region that draws and makes memory. -/
theorem Own.cellsG {w : World} {B g n cap : Nat} {ls : List Ltr} (h : Own w B (.slice (some ⟨g, 0, none⟩) n cap) ls) (i : Nat) (m : Ltr) (hm : ls[i]? = some m) :
    (∀ q os, (grow (w.drewN q) os).cell? ⟨g, i * 2, none⟩ = some (.int .i64 m.1)) ∧ (∀ q os, (grow (w.drewN q) os).cell? ⟨g, i * 2 + 1, none⟩ = some (.string m.2)) := by
  have hg := (h.1.lt g rfl).2
  obtain ⟨c0, c1, _, _⟩ := h.cells i m hm
  exact ⟨fun q os => cell_grown (a := ⟨g, i * 2, none⟩) hg c0 q os, fun q os => cell_grown (a := ⟨g, i * 2 + 1, none⟩) hg c1 q os⟩

end Go.Proofs.Ytafngfmloiikoaa
