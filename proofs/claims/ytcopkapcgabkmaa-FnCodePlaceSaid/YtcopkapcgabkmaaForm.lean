/-
  WALKS: FormatPlace of the program and of the reference; the laws FnExactCodeOf, FnExactPlaceOf, FnExactFormatPlace. By an AI agent.
-/
import Derived.Test.YtcopkapcgabkmaaCode
namespace Go.Proofs.Ytcopkapcgabkmaa
open Go.RowKit

def dash : ByteArray := ⟨#[45]⟩
/-- The text of a place. -/
def formL (a b c : Int) : List UInt8 := padL 3 a ++ [45] ++ padL 2 b ++ [45] ++ padL 2 c
theorem bs_form (a b c : Int) : bs (padL 3 a) ++ (⟨#[45]⟩ : ByteArray) ++ bs (padL 2 b) ++ (⟨#[45]⟩ : ByteArray) ++ bs (padL 2 c) = bs (formL a b c) := by
  rw [show (⟨#[45]⟩ : ByteArray) = bs [45] from rfl, bs_append, bs_append, bs_append, bs_append]; rfl
def formS (a b c : Int) : ByteArray := if placeB a b c = true then bs (formL a b c) else ⟨#[]⟩

set_option maxHeartbeats 1000000 in
theorem impl_FormatPlace (a b c : Int) (w : World) :
    Calls Try.prog 25 #[vPlace a b c] w fun e w' => e = .returned (.string (formS a b c)) ∧ Below w.heap.size w w' := by
  cases hv : placeB a b c with
  | true =>
    have H := Lib.hid (show formS a b c = bs (padL 3 a) ++ (⟨#[45]⟩ : ByteArray) ++ bs (padL 2 b) ++ (⟨#[45]⟩ : ByteArray) ++ bs (padL 2 c) from by rw [bs_form]; simp [formS, hv])
    have HV := Lib.hid hv
    have hp := (placeB_true a b c).1 hv
    clear hv
    obtain ⟨a0, a9, b0, b9, c0, c9⟩ := hp
    have hno1 : ¬ 9223372036854775807 < (bs (padL 3 a)).size + 1 := by simp only [bs_size, padL_length]; omega
    have hno2 : ¬ 9223372036854775807 < (bs (padL 3 a)).size + 1 + (bs (padL 2 b)).size := by simp only [bs_size, padL_length]; omega
    have hno3 : ¬ 9223372036854775807 < (bs (padL 3 a)).size + 1 + (bs (padL 2 b)).size + 1 := by simp only [bs_size, padL_length]; omega
    have hno4 : ¬ 9223372036854775807 < (bs (padL 3 a)).size + 1 + (bs (padL 2 b)).size + 1 + (bs (padL 2 c)).size := by simp only [bs_size, padL_length]; omega
    go_enter Try.func25, Try.ntmps25
    go_wp2_with (go_at_call 23; refine (impl_PlaceValid _ _ _ _).mono ?_; rintro e w1 ⟨rfl, hb⟩; rw [HV.out]; have hbox := (Box3.made w a b c 23).ext hb)
    go_region_held3 (fun x => x.cell? ⟨w.heap.size, 0, none⟩ = some (.int .i64 a) ∧ x.cell? ⟨w.heap.size, 1, none⟩ = some (.int .i64 b) ∧ x.cell? ⟨w.heap.size, 2, none⟩ = some (.int .i64 c) ∧ Below w.heap.size w x)
      (first | exact hbox.drew | assumption | exact Box3.ext ‹_› ‹_›)
      (first | (go_at_call 42; (with_reducible refine (padded3 a _ a0 a9).mono ?_); rintro e w2 ⟨rfl, hb2⟩) | (go_at_call 42; (with_reducible refine (padded2 b _ b0 b9).mono ?_); rintro e w2 ⟨rfl, hb2⟩) | (go_at_call 42; (with_reducible refine (padded2 c _ c0 c9).mono ?_); rintro e w2 ⟨rfl, hb2⟩))
    go_wp2
    go_ret
    exact ⟨ret_val (congrArg Value.string H.out.symm), (by repeat (first | exact Below.refl _ _ | assumption | refine ext_alloc ?_ _ | refine Below.drew ?_ | refine below_drewN' ?_ _ | refine ext_set ?_ (by first | (simp; done) | (simp; omega) | omega) _ | refine ext_trans ?_ (by assumption)))⟩
  | false =>
    have H := Lib.hid (show formS a b c = ⟨#[]⟩ from by simp [formS, hv])
    have HV := Lib.hid hv
    clear hv
    go_enter Try.func25, Try.ntmps25
    go_wp2_with (go_at_call 23; refine (impl_PlaceValid _ _ _ _).mono ?_; rintro e w1 ⟨rfl, hb⟩; rw [HV.out])
    go_ret
    exact ⟨ret_val (congrArg Value.string H.out.symm), (by repeat (first | exact Below.refl _ _ | assumption | refine ext_alloc ?_ _ | refine Below.drew ?_ | refine below_drewN' ?_ _ | refine ext_set ?_ (by first | (simp; done) | (simp; omega) | omega) _ | refine ext_trans ?_ (by assumption)))⟩

theorem code_sub1 (a b c : Int) : (bs (codeL a b c)).extract 0 3 = bs (padL 3 a) := by
  apply ByteArray.ext; simp [bs, codeL, padL]
theorem code_sub2 (a b c : Int) : (bs (codeL a b c)).extract 3 5 = bs (padL 2 b) := by
  apply ByteArray.ext; simp [bs, codeL, padL]
theorem code_sub3 (a b c : Int) : (bs (codeL a b c)).extract 5 (bs (codeL a b c)).size = bs (padL 2 c) := by
  rw [bs_size]; apply ByteArray.ext; simp [bs, codeL, padL]
theorem codeL_length (a b c : Int) : (codeL a b c).length = 7 := by simp [codeL, padL_length]

set_option maxHeartbeats 1000000 in
theorem spec_FormatPlace (a b c : Int) (w : World) :
    Calls Try.prog 30 #[vPlace a b c] w fun e w' => e = .returned (.string (formS a b c)) ∧ Below w.heap.size w w' := by
  cases hv : placeB a b c with
  | true =>
    obtain ⟨cs, hcs⟩ : ∃ cs, cs = bs (codeL a b c) := ⟨_, rfl⟩
    have H := Lib.hid (show formS a b c = cs.extract 0 3 ++ (⟨#[45]⟩ : ByteArray) ++ cs.extract 3 5 ++ (⟨#[45]⟩ : ByteArray) ++ cs.extract 5 cs.size from by rw [hcs, code_sub1, code_sub2, code_sub3, bs_form]; simp [formS, hv])
    have HV := Lib.hid (show codeV a b c = .tuple #[.string cs, .bool true] from by rw [hcs]; simp [codeV, hv])
    have h7 : cs.size = 7 := by rw [hcs, bs_size, codeL_length]
    have h7a : (7 : Int) ≤ (cs.size : Int) := by omega
    have h7b : cs.size ≤ 7 := by omega
    have h7c : (3 : Int) ≤ (cs.size : Int) := by omega
    have h7d : (5 : Int) ≤ (cs.size : Int) := by omega
    clear hv hcs h7
    have hno1 : ¬ 9223372036854775807 < min 3 cs.size + 1 := by omega
    have hno2 : ¬ 9223372036854775807 < min 3 cs.size + 1 + (min 5 cs.size - 3) := by omega
    have hno3 : ¬ 9223372036854775807 < min 3 cs.size + 1 + (min 5 cs.size - 3) + 1 := by omega
    have hno4 : ¬ 9223372036854775807 < min 3 cs.size + 1 + (min 5 cs.size - 3) + 1 + (cs.size - 5) := by omega
    go_enter Try.func30, Try.ntmps30
    go_wp2_with (go_at_call 22; refine (spec_CodeOf _ _ _ _).mono ?_; rintro e w1 ⟨rfl, hb⟩; rw [HV.out])
    go_region_held3 (fun _ => True) (trivial) (fail)
    go_wp2
    go_ret
    exact ⟨ret_val (congrArg Value.string H.out.symm), (by repeat (first | exact Below.refl _ _ | assumption | refine ext_alloc ?_ _ | refine Below.drew ?_ | refine below_drewN' ?_ _ | refine ext_set ?_ (by first | (simp; done) | (simp; omega) | omega) _ | refine ext_trans ?_ (by assumption)))⟩
  | false =>
    have H := Lib.hid (show formS a b c = ⟨#[]⟩ from by simp [formS, hv])
    have HV := Lib.hid (show codeV a b c = .tuple #[.string ⟨#[]⟩, .bool false] from by simp [codeV, hv])
    clear hv
    go_enter Try.func30, Try.ntmps30
    go_wp2_with (go_at_call 22; refine (spec_CodeOf _ _ _ _).mono ?_; rintro e w1 ⟨rfl, hb⟩; rw [HV.out])
    go_ret
    exact ⟨ret_val (congrArg Value.string H.out.symm), (by repeat (first | exact Below.refl _ _ | assumption | refine ext_alloc ?_ _ | refine Below.drew ?_ | refine below_drewN' ?_ _ | refine ext_set ?_ (by first | (simp; done) | (simp; omega) | omega) _ | refine ext_trans ?_ (by assumption)))⟩

end Go.Proofs.Ytcopkapcgabkmaa
