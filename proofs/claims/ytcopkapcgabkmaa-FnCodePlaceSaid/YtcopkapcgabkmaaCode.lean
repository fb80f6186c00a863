/-
  WALKS: CodeOf, PlaceOf, FormatPlace, ParsePlace of the program and of the reference. By an AI agent.
-/
import Derived.Test.YtcopkapcgabkmaaPlace
import Derived.Test.YtcopkapcgabkmaaPad
import Derived.Test.YtcopkapcgabkmaaSums
import Derived.Deep.RegionHeld3
import Derived.Lib.Strings
namespace Go.Proofs.Ytcopkapcgabkmaa
open Go.RowKit

/-- The code of a place. -/
def codeL (a b c : Int) : List UInt8 := padL 3 a ++ padL 2 b ++ padL 2 c
theorem bs_code (a b c : Int) : bs (padL 3 a) ++ bs (padL 2 b) ++ bs (padL 2 c) = bs (codeL a b c) := by
  rw [bs_append, bs_append]; rfl
def codeV (a b c : Int) : Value := if placeB a b c = true then .tuple #[.string (bs (codeL a b c)), .bool true] else .tuple #[.string ⟨#[]⟩, .bool false]

def Box3 (w x : World) (a b c : Int) : Prop := x.cell? ⟨w.heap.size, 0, none⟩ = some (.int .i64 a) ∧ x.cell? ⟨w.heap.size, 1, none⟩ = some (.int .i64 b) ∧ x.cell? ⟨w.heap.size, 2, none⟩ = some (.int .i64 c) ∧ Below w.heap.size w x
theorem Box3.ext {w x y : World} {a b c : Int} (h : Box3 w x a b c) (hb : Below x.heap.size x y) : Box3 w y a b c :=
  ⟨cell_later hb h.1, cell_later hb h.2.1, cell_later hb h.2.2.1, ext_trans h.2.2.2 hb⟩
theorem Box3.made (w : World) (a b c : Int) (t : TypeId) : Box3 w (w.alloc (.cells #[.int .i64 a, .int .i64 b, .int .i64 c] t)) a b c := by
  have h := Row.made w t #[.int .i64 a, .int .i64 b, .int .i64 c]
  exact ⟨h.cell 0, h.cell 1, h.cell 2, below_box _ _⟩
theorem Box3.drew {w x : World} {a b c : Int} (h : Box3 w x a b c) : Box3 w x.drew a b c := ⟨h.1, h.2.1, h.2.2.1, h.2.2.2.drew⟩

theorem show3 (n : Int) (w : World) (h0 : 0 ≤ n) (h9 : n ≤ 999) :
    Calls Try.prog 44 #[.int .i64 n, .int .i64 3] w fun e w' => e = .returned (.string (bs (padL 3 n))) ∧ Below w.heap.size w w' := by
  have h := spec_l1Show n 3 w h0 (by omega) (by omega)
  exact h
theorem show2 (n : Int) (w : World) (h0 : 0 ≤ n) (h9 : n ≤ 99) :
    Calls Try.prog 44 #[.int .i64 n, .int .i64 2] w fun e w' => e = .returned (.string (bs (padL 2 n))) ∧ Below w.heap.size w w' := by
  have h := spec_l1Show n 2 w h0 (by omega) (by omega)
  exact h

set_option maxHeartbeats 1000000 in
theorem impl_CodeOf (a b c : Int) (w : World) :
    Calls Try.prog 21 #[vPlace a b c] w fun e w' => e = .returned (codeV a b c) ∧ Below w.heap.size w w' := by
  cases hv : placeB a b c with
  | true =>
    have H := Lib.hid (show codeV a b c = .tuple #[.string (bs (padL 3 a) ++ bs (padL 2 b) ++ bs (padL 2 c)), .bool true] from by rw [bs_code]; simp [codeV, hv])
    have HV := Lib.hid hv
    have hp := (placeB_true a b c).1 hv
    clear hv
    obtain ⟨a0, a9, b0, b9, c0, c9⟩ := hp
    have hno1 : ¬ 9223372036854775807 < (bs (padL 3 a)).size + (bs (padL 2 b)).size := by simp only [bs_size, padL_length]; omega
    have hno2 : ¬ 9223372036854775807 < (bs (padL 3 a)).size + (bs (padL 2 b)).size + (bs (padL 2 c)).size := by simp only [bs_size, padL_length]; omega
    go_enter Try.func21, Try.ntmps21
    go_wp2_with (go_at_call 23; refine (impl_PlaceValid _ _ _ _).mono ?_; rintro e w1 ⟨rfl, hb⟩; rw [HV.out]; have hbox := (Box3.made w a b c 23).ext hb)
    go_region_held3 (fun x => x.cell? ⟨w.heap.size, 0, none⟩ = some (.int .i64 a) ∧ x.cell? ⟨w.heap.size, 1, none⟩ = some (.int .i64 b) ∧ x.cell? ⟨w.heap.size, 2, none⟩ = some (.int .i64 c) ∧ Below w.heap.size w x)
      (first | exact hbox.drew | assumption | exact Box3.ext ‹_› ‹_›)
      (first | (go_at_call 42; (with_reducible refine (padded3 a _ a0 a9).mono ?_); rintro e w2 ⟨rfl, hb2⟩) | (go_at_call 42; (with_reducible refine (padded2 b _ b0 b9).mono ?_); rintro e w2 ⟨rfl, hb2⟩) | (go_at_call 42; (with_reducible refine (padded2 c _ c0 c9).mono ?_); rintro e w2 ⟨rfl, hb2⟩))
    go_wp2
    go_ret2
    exact ⟨ret_val H.out.symm, (by repeat (first | exact Below.refl _ _ | assumption | refine ext_alloc ?_ _ | refine Below.drew ?_ | refine below_drewN' ?_ _ | refine ext_set ?_ (by first | (simp; done) | (simp; omega) | omega) _ | refine ext_trans ?_ (by assumption)))⟩
  | false =>
    have H := Lib.hid (show codeV a b c = .tuple #[.string ⟨#[]⟩, .bool false] from by simp [codeV, hv])
    have HV := Lib.hid hv
    clear hv
    go_enter Try.func21, Try.ntmps21
    go_wp2_with (go_at_call 23; refine (impl_PlaceValid _ _ _ _).mono ?_; rintro e w1 ⟨rfl, hb⟩; rw [HV.out])
    go_ret2
    exact ⟨ret_val H.out.symm, (by repeat (first | exact Below.refl _ _ | assumption | refine ext_alloc ?_ _ | refine Below.drew ?_ | refine below_drewN' ?_ _ | refine ext_set ?_ (by first | (simp; done) | (simp; omega) | omega) _ | refine ext_trans ?_ (by assumption)))⟩

set_option maxHeartbeats 1000000 in
theorem spec_CodeOf (a b c : Int) (w : World) :
    Calls Try.prog 22 #[vPlace a b c] w fun e w' => e = .returned (codeV a b c) ∧ Below w.heap.size w w' := by
  cases hv : placeB a b c with
  | true =>
    have H := Lib.hid (show codeV a b c = .tuple #[.string (bs (padL 3 a) ++ bs (padL 2 b) ++ bs (padL 2 c)), .bool true] from by rw [bs_code]; simp [codeV, hv])
    have HV := Lib.hid hv
    have hp := (placeB_true a b c).1 hv
    clear hv
    obtain ⟨a0, a9, b0, b9, c0, c9⟩ := hp
    have hno1 : ¬ 9223372036854775807 < (bs (padL 3 a)).size + (bs (padL 2 b)).size := by simp only [bs_size, padL_length]; omega
    have hno2 : ¬ 9223372036854775807 < (bs (padL 3 a)).size + (bs (padL 2 b)).size + (bs (padL 2 c)).size := by simp only [bs_size, padL_length]; omega
    go_enter Try.func22, Try.ntmps22
    go_wp2_with (go_at_call 43; refine (spec_PlaceValid _ _ _ _).mono ?_; rintro e w1 ⟨rfl, hb⟩; rw [HV.out]; have hbox := (Box3.made w a b c 23).ext hb)
    go_region_held3 (fun x => x.cell? ⟨w.heap.size, 0, none⟩ = some (.int .i64 a) ∧ x.cell? ⟨w.heap.size, 1, none⟩ = some (.int .i64 b) ∧ x.cell? ⟨w.heap.size, 2, none⟩ = some (.int .i64 c) ∧ Below w.heap.size w x)
      (first | exact hbox.drew | assumption | exact Box3.ext ‹_› ‹_›)
      (first | (go_at_call 44; (with_reducible refine (show3 a _ a0 a9).mono ?_); rintro e w2 ⟨rfl, hb2⟩) | (go_at_call 44; (with_reducible refine (show2 b _ b0 b9).mono ?_); rintro e w2 ⟨rfl, hb2⟩) | (go_at_call 44; (with_reducible refine (show2 c _ c0 c9).mono ?_); rintro e w2 ⟨rfl, hb2⟩))
    go_wp2
    go_ret2
    exact ⟨ret_val H.out.symm, (by repeat (first | exact Below.refl _ _ | assumption | refine ext_alloc ?_ _ | refine Below.drew ?_ | refine below_drewN' ?_ _ | refine ext_set ?_ (by first | (simp; done) | (simp; omega) | omega) _ | refine ext_trans ?_ (by assumption)))⟩
  | false =>
    have H := Lib.hid (show codeV a b c = .tuple #[.string ⟨#[]⟩, .bool false] from by simp [codeV, hv])
    have HV := Lib.hid hv
    clear hv
    go_enter Try.func22, Try.ntmps22
    go_wp2_with (go_at_call 43; refine (spec_PlaceValid _ _ _ _).mono ?_; rintro e w1 ⟨rfl, hb⟩; rw [HV.out])
    go_ret2
    exact ⟨ret_val H.out.symm, (by repeat (first | exact Below.refl _ _ | assumption | refine ext_alloc ?_ _ | refine Below.drew ?_ | refine below_drewN' ?_ _ | refine ext_set ?_ (by first | (simp; done) | (simp; omega) | omega) _ | refine ext_trans ?_ (by assumption)))⟩


def areaOf (s : ByteArray) : Int := numD (s.data.toList.take 3)
def walkOf (s : ByteArray) : Int := numD ((s.data.toList.drop 3).take 2)
def pointOf (s : ByteArray) : Int := numD ((s.data.toList.drop 5).take (s.size - 5))
/-- What PlaceOf answers. -/
def placeV (s : ByteArray) : Value := if codeB s = true then .tuple #[vPlace (areaOf s) (walkOf s) (pointOf s), .bool true] else .tuple #[vPlace 0 0 0, .bool false]
theorem codeB_parts {s : ByteArray} (h : codeB s = true) : s.size = 7 ∧ allDig s.data.toList = true := by simpa [codeB] using h
theorem sub_dig (s : ByteArray) (i j : Nat) (h : allDig s.data.toList = true) : allDig (s.extract i j).data.toList = true := by
  rw [Lib.extract_data]
  simp only [allDig, List.all_eq_true] at h ⊢
  exact fun x hx => h x (List.mem_of_mem_drop (List.mem_of_mem_take hx))

set_option maxHeartbeats 1000000 in
theorem impl_PlaceOf (s : ByteArray) (w : World) (hs : s.size ≤ maxLen) :
    Calls Try.prog 24 #[.string s] w fun e w' => e = .returned (placeV s) ∧ Below w.heap.size w w' := by
  cases hv : codeB s with
  | true =>
    have H := Lib.hid (show placeV s = .tuple #[vPlace (areaOf s) (walkOf s) (pointOf s), .bool true] from by simp [placeV, hv])
    have HV := Lib.hid hv
    obtain ⟨h7, hall⟩ := codeB_parts hv
    clear hv
    have A1 := Lib.hid (sub_dig s 0 3 hall)
    have A2 := Lib.hid (sub_dig s 3 5 hall)
    have A3 := Lib.hid (sub_dig s 5 s.size hall)
    have h7a : 7 ≤ s.size := by omega
    have h7b : s.size ≤ 7 := by omega
    have i3 : (3 : Int) ≤ (s.size : Int) := by omega
    have i5 : (5 : Int) ≤ (s.size : Int) := by omega
    have s1 : (s.extract 0 3).size ≤ 3 := by rw [ByteArray.size_extract]; omega
    have s2 : (s.extract 3 5).size ≤ 3 := by rw [ByteArray.size_extract]; omega
    have s3 : (s.extract 5 s.size).size ≤ 3 := by rw [ByteArray.size_extract]; omega
    clear hall h7
    go_enter Try.func24, Try.ntmps24
    go_wp2_with (go_at_call 26; refine (impl_CodeValid _ _ hs).mono ?_; rintro e w1 ⟨rfl, rfl⟩; rw [HV.out])
    go_region_held3 (fun _ => True) (trivial)
      (first | (go_at_call 45; (with_reducible refine (impl_digitsNumber (s.extract 0 3) _ s1 A1.out).mono ?_); rintro e w2 ⟨rfl, rfl⟩) | (go_at_call 45; (with_reducible refine (impl_digitsNumber (s.extract 3 5) _ s2 A2.out).mono ?_); rintro e w2 ⟨rfl, rfl⟩) | (go_at_call 45; (with_reducible refine (impl_digitsNumber (s.extract 5 s.size) _ s3 A3.out).mono ?_); rintro e w2 ⟨rfl, rfl⟩))
    go_wp2
    refine bodyPost_ret (v := .tuple #[vPlace (areaOf s) (walkOf s) (pointOf s), .bool true]) (by simp [results, Try.results24, go_sem, areaOf, walkOf, pointOf]) rfl ⟨ret_val H.out.symm, (by repeat (first | exact Below.refl _ _ | assumption | refine ext_alloc ?_ _ | refine Below.drew ?_ | refine below_drewN' ?_ _ | refine ext_set ?_ (by first | (simp; done) | (simp; omega) | omega) _ | refine ext_trans ?_ (by assumption)))⟩
  | false =>
    have H := Lib.hid (show placeV s = .tuple #[vPlace 0 0 0, .bool false] from by simp [placeV, hv])
    have HV := Lib.hid hv
    clear hv
    go_enter Try.func24, Try.ntmps24
    go_wp2_with (go_at_call 26; refine (impl_CodeValid _ _ hs).mono ?_; rintro e w1 ⟨rfl, rfl⟩; rw [HV.out])
    refine bodyPost_ret (v := .tuple #[vPlace 0 0 0, .bool false]) (by simp [results, Try.results24, go_sem]) rfl ⟨ret_val H.out.symm, (by repeat (first | exact Below.refl _ _ | assumption | refine ext_alloc ?_ _ | refine Below.drew ?_ | refine below_drewN' ?_ _ | refine ext_set ?_ (by first | (simp; done) | (simp; omega) | omega) _ | refine ext_trans ?_ (by assumption)))⟩

set_option maxHeartbeats 1000000 in
theorem spec_PlaceOf (s : ByteArray) (w : World) (hs : s.size ≤ maxLen) :
    Calls Try.prog 28 #[.string s] w fun e w' => e = .returned (placeV s) ∧ Below w.heap.size w w' := by
  cases hv : codeB s with
  | true =>
    have H := Lib.hid (show placeV s = .tuple #[vPlace (areaOf s) (walkOf s) (pointOf s), .bool true] from by simp [placeV, hv])
    have HV := Lib.hid hv
    obtain ⟨h7, hall⟩ := codeB_parts hv
    clear hv
    have A1 := Lib.hid (sub_dig s 0 3 hall)
    have A2 := Lib.hid (sub_dig s 3 5 hall)
    have A3 := Lib.hid (sub_dig s 5 s.size hall)
    have h7a : 7 ≤ s.size := by omega
    have h7b : s.size ≤ 7 := by omega
    have i3 : (3 : Int) ≤ (s.size : Int) := by omega
    have i5 : (5 : Int) ≤ (s.size : Int) := by omega
    have s1 : (s.extract 0 3).size ≤ 3 := by rw [ByteArray.size_extract]; omega
    have s2 : (s.extract 3 5).size ≤ 3 := by rw [ByteArray.size_extract]; omega
    have s3 : (s.extract 5 s.size).size ≤ 3 := by rw [ByteArray.size_extract]; omega
    clear hall h7
    go_enter Try.func28, Try.ntmps28
    go_wp2_with (go_at_call 47; refine (spec_CodeValid _ _ hs).mono ?_; rintro e w1 ⟨rfl, rfl⟩; rw [HV.out])
    go_region_held3 (fun _ => True) (trivial)
      (first | (go_at_call 48; (with_reducible refine (spec_l1Number (s.extract 0 3) _ s1 A1.out).mono ?_); rintro e w2 ⟨rfl, rfl⟩) | (go_at_call 48; (with_reducible refine (spec_l1Number (s.extract 3 5) _ s2 A2.out).mono ?_); rintro e w2 ⟨rfl, rfl⟩) | (go_at_call 48; (with_reducible refine (spec_l1Number (s.extract 5 s.size) _ s3 A3.out).mono ?_); rintro e w2 ⟨rfl, rfl⟩))
    go_wp2
    refine bodyPost_ret (v := .tuple #[vPlace (areaOf s) (walkOf s) (pointOf s), .bool true]) (by simp [results, Try.results28, go_sem, areaOf, walkOf, pointOf]) rfl ⟨ret_val H.out.symm, (by repeat (first | exact Below.refl _ _ | assumption | refine ext_alloc ?_ _ | refine Below.drew ?_ | refine below_drewN' ?_ _ | refine ext_set ?_ (by first | (simp; done) | (simp; omega) | omega) _ | refine ext_trans ?_ (by assumption)))⟩
  | false =>
    have H := Lib.hid (show placeV s = .tuple #[vPlace 0 0 0, .bool false] from by simp [placeV, hv])
    have HV := Lib.hid hv
    clear hv
    go_enter Try.func28, Try.ntmps28
    go_wp2_with (go_at_call 47; refine (spec_CodeValid _ _ hs).mono ?_; rintro e w1 ⟨rfl, rfl⟩; rw [HV.out])
    refine bodyPost_ret (v := .tuple #[vPlace 0 0 0, .bool false]) (by simp [results, Try.results28, go_sem]) rfl ⟨ret_val H.out.symm, (by repeat (first | exact Below.refl _ _ | assumption | refine ext_alloc ?_ _ | refine Below.drew ?_ | refine below_drewN' ?_ _ | refine ext_set ?_ (by first | (simp; done) | (simp; omega) | omega) _ | refine ext_trans ?_ (by assumption)))⟩


end Go.Proofs.Ytcopkapcgabkmaa
