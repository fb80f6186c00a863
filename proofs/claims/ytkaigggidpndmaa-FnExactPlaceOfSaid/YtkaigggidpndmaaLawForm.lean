/-
  WALKS: the laws FnExactCodeOf, FnExactPlaceOf, FnExactFormatPlace. By an AI agent.
-/
import Derived.Test.YtkaigggidpndmaaForm
namespace Go.Proofs.Ytkaigggidpndmaa
open Go.RowKit

theorem eqPlace_same (a b c : Int) (w : World) :
    Calls Try.prog 30 #[vPlace a b c, vPlace a b c] w fun e w' => e = .returned (.bool true) ∧ Below w.heap.size w w' :=
  (eqPlace_any a b c a b c w).mono fun e w' ⟨he, hb⟩ => ⟨by rw [he]; simp, hb⟩

set_option maxHeartbeats 1000000 in
theorem law_FnExactCodeOf (a b c : Int) (w : World) (_ : (Lit.int .i64 a).wf = true) (_ : (Lit.int .i64 b).wf = true) (_ : (Lit.int .i64 c).wf = true) :
    Calls Try.prog 10 #[vPlace a b c] w fun e w' => e = .returned (.bool true) ∧ Below w.heap.size w w' := by
  obtain ⟨cs, ok, hcv⟩ : ∃ (cs : ByteArray) (ok : Bool), codeV a b c = .tuple #[.string cs, .bool ok] := by
    unfold codeV; split
    · exact ⟨_, _, rfl⟩
    · exact ⟨_, _, rfl⟩
  have HV := Lib.hid hcv
  clear hcv
  go_enter Try.func10, Try.ntmps10
  go_wp2_with (first | (go_at_call 16; refine (toPlace_any _ _ _ _).mono ?_; rintro e w' ⟨rfl, hb⟩; have hc := bcell hb; have hz : w.heap.size < w'.heap.size := (by have := hb.size; first | omega | (simp at this; omega))) | (go_at_call 26; refine (spec_CodeOf _ _ _ _).mono ?_; rintro e w' ⟨rfl, hb⟩; have hc := bcell hb; have hz : w.heap.size < w'.heap.size := (by have := hb.size; first | omega | (simp at this; omega)); rw [HV.out]) | (go_at_call 27; refine (impl_CodeOf _ _ _ _).mono ?_; rintro e w' ⟨rfl, hb⟩; have hc := bcell hb; have hz : w.heap.size < w'.heap.size := (by have := hb.size; first | omega | (simp at this; omega)); rw [HV.out]))
  go_ret
  exact ⟨rfl, (by repeat (first | exact Below.refl _ _ | assumption | refine ext_alloc ?_ _ | refine Below.drew ?_ | refine ext_set ?_ (by first | (simp; done) | (simp; omega) | omega) _ | refine ext_trans ?_ (by assumption)))⟩

set_option maxHeartbeats 1000000 in
theorem law_FnExactFormatPlace (a b c : Int) (w : World) (_ : (Lit.int .i64 a).wf = true) (_ : (Lit.int .i64 b).wf = true) (_ : (Lit.int .i64 c).wf = true) :
    Calls Try.prog 12 #[vPlace a b c] w fun e w' => e = .returned (.bool true) ∧ Below w.heap.size w w' := by
  go_enter Try.func12, Try.ntmps12
  go_wp2_with (first | (go_at_call 16; refine (toPlace_any _ _ _ _).mono ?_; rintro e w' ⟨rfl, hb⟩; have hc := bcell hb; have hz : w.heap.size < w'.heap.size := (by have := hb.size; first | omega | (simp at this; omega))) | (go_at_call 31; refine (spec_FormatPlace _ _ _ _).mono ?_; rintro e w' ⟨rfl, hb⟩; have hc := bcell hb; have hz : w.heap.size < w'.heap.size := (by have := hb.size; first | omega | (simp at this; omega))) | (go_at_call 32; refine (impl_FormatPlace _ _ _ _).mono ?_; rintro e w' ⟨rfl, hb⟩; have hc := bcell hb; have hz : w.heap.size < w'.heap.size := (by have := hb.size; first | omega | (simp at this; omega))))
  go_ret
  exact ⟨rfl, (by repeat (first | exact Below.refl _ _ | assumption | refine ext_alloc ?_ _ | refine Below.drew ?_ | refine ext_set ?_ (by first | (simp; done) | (simp; omega) | omega) _ | refine ext_trans ?_ (by assumption)))⟩

set_option maxHeartbeats 1000000 in
theorem law_FnExactPlaceOf (s : ByteArray) (w : World) (hs : s.size ≤ maxLen) :
    Calls Try.prog 11 #[.string s] w fun e w' => e = .returned (.bool true) ∧ Below w.heap.size w w' := by
  by_cases hb : s.size ≤ 1048576
  · obtain ⟨a, b, c, ok, hcv⟩ : ∃ (a b c : Int) (ok : Bool), placeV s = .tuple #[vPlace a b c, .bool ok] := by
      unfold placeV; split
      · exact ⟨_, _, _, _, rfl⟩
      · exact ⟨_, _, _, _, rfl⟩
    have HV := Lib.hid hcv
    clear hcv
    go_enter Try.func11, Try.ntmps11
    go_wp2_with fail
    refine (spec_PlaceOf _ _ hs).mono ?_
    rintro e w1 ⟨rfl, hb1⟩
    rw [HV.out]
    go_wp2_with fail
    refine (impl_PlaceOf _ _ hs).mono ?_
    rintro e w2 ⟨rfl, hb2⟩
    rw [HV.out]
    have hbx := (Box3.made w1 a b c 28).ext hb2
    have hbx1 := hbx.1
    have hbx2 := hbx.2.1
    have hbx3 := hbx.2.2.1
    have hz : w1.heap.size < w2.heap.size := by have := hb2.size; simp at this; omega
    clear hbx
    go_wp2_with (go_at_call 30; refine (eqPlace_same _ _ _ _).mono ?_; rintro e w3 ⟨rfl, hb3⟩)
    go_ret
    exact ⟨rfl, (by repeat (first | exact Below.refl _ _ | assumption | refine ext_alloc ?_ _ | refine Below.drew ?_ | refine ext_set ?_ (by first | (simp; done) | (simp; omega) | omega) _ | refine ext_trans ?_ (by assumption)))⟩
  · go_enter Try.func11, Try.ntmps11
    go_wp2_with fail
    go_ret
    exact ⟨rfl, (by repeat (first | exact Below.refl _ _ | assumption | refine ext_alloc ?_ _ | refine Below.drew ?_ | refine ext_set ?_ (by first | (simp; done) | (simp; omega) | omega) _ | refine ext_trans ?_ (by assumption)))⟩

end Go.Proofs.Ytkaigggidpndmaa
