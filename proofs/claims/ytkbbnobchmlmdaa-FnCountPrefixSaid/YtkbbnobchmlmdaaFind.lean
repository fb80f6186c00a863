/-
  WALKS: FindLetter, SortedBatch, Inversions of the program and of the reference; their exact laws. By an AI agent.
-/
import Derived.Test.YtkbbnobchmlmdaaLet2
import Derived.Sort.Walk0
namespace Go.Proofs.Ytkbbnobchmlmdaa
open Go.RowKit

/-- The index of a letter. -/
def findI : List Ltr → Int → Nat → Int
  | [], _, _ => -1
  | l :: ls, id, k => if l.1 = id then k else findI ls id (k + 1)
/-- What FindLetter answers. -/
def findL (ls : List Ltr) (id : Int) : Int := if batchB ls = true then findI ls id 0 else -1
theorem drop_at {α : Type} (ls : List α) (k : Nat) (l : α) (h : ls[k]? = some l) : ls.drop k = l :: ls.drop (k + 1) := by
  obtain ⟨hh, he⟩ := List.getElem?_eq_some_iff.1 h
  rw [List.drop_eq_getElem_cons hh, he]
theorem batch_len {ls : List Ltr} (h : batchB ls = true) : ls.length ≤ 60 := ((batchB_true ls).1 h).1

set_option maxHeartbeats 2000000 in
theorem impl_FindLetter (A : Option Addr) (n cap : Nat) (ls : List Ltr) (id : Int) (w : World) (h : LS w A n cap ls) :
    Calls Try.prog 6 #[.slice A n cap, .int .i64 id] w fun e w' => e = .returned (.int .i64 (findL ls id)) ∧ Below w.heap.size w w' := by
  have HL := Lib.hid h
  have HLEN := Lib.hid h.1
  clear h
  cases hb : batchB ls with
  | false =>
    have H := Lib.hid (show findL ls id = -1 from by simp [findL, hb])
    have HB := Lib.hid hb
    clear hb
    go_enter Try.func6, Try.ntmps6
    go_wp2_with (go_at_call 8; refine (impl_BatchValid _ _ _ _ _ HL.out).mono ?_; rintro e w1 ⟨rfl, hb1⟩; rw [HB.out])
    go_ret
    exact ⟨ret_int H.out.symm, (by repeat (first | exact Below.refl _ _ | assumption | refine ext_alloc ?_ _ | refine Below.drew ?_ | refine below_drewN' ?_ _ | refine ext_set ?_ (by first | (simp; done) | (simp; omega) | omega) _ | refine ext_trans ?_ (by assumption)))⟩
  | true =>
    have hn60 := batch_len hb
    rw [HLEN.out] at hn60
    have H := Lib.hid (show findL ls id = findI ls id 0 from by simp [findL, hb])
    have HB := Lib.hid hb
    clear hb
    go_enter Try.func6, Try.ntmps6
    go_wp2_with (go_at_call 8; refine (impl_BatchValid _ _ _ _ _ HL.out).mono ?_; rintro e w1 ⟨rfl, hb1⟩; rw [HB.out])
    go_loopw [12] (fun iv wr => ∃ k : Nat, k ≤ n ∧ iv = .int .i64 k ∧ findI (ls.drop k) id k = findI ls id 0 ∧ Below w.heap.size w wr) (fun iv _ => n - (intOf iv).toNat)
    case atStart => exact ⟨0, by omega, rfl, rfl, (by repeat (first | exact Below.refl _ _ | assumption | refine ext_alloc ?_ _ | refine Below.drew ?_ | refine below_drewN' ?_ _ | refine ext_set ?_ (by first | (simp; done) | (simp; omega) | omega) _ | refine ext_trans ?_ (by assumption)))⟩
    case round =>
      obtain ⟨k, hk, rfl, hf, hbel⟩ := hrel
      have HF := Lib.hid hf
      clear hf
      by_cases hkn : k < n
      · obtain ⟨g, off, l, rfl, hl, hlm, c0, c1⟩ := (HL.out.ext hbel).at_ k hkn
        have HF2 := Lib.hid (show findI ls id 0 = if l.1 = id then (k : Int) else findI (ls.drop (k + 1)) id (k + 1) from by rw [← HF.out, drop_at ls k l hl]; rfl)
        clear hl
        by_cases he : l.1 = id
        · have heq : (l.1 == id) = true := by simpa using he
          have HR := Lib.hid (show findI ls id 0 = k from by rw [HF2.out, if_pos he])
          clear he
          go_wp2_with fail
          go_ret
          exact ⟨ret_int (by rw [H.out, HR.out]), (by repeat (first | exact Below.refl _ _ | assumption | refine ext_alloc ?_ _ | refine Below.drew ?_ | refine below_drewN' ?_ _ | refine ext_set ?_ (by first | (simp; done) | (simp; omega) | omega) _ | refine ext_trans ?_ (by assumption)))⟩
        · have heq : (l.1 == id) = false := by simpa using he
          have HR := Lib.hid (show findI ls id 0 = findI (ls.drop (k + 1)) id (k + 1) from by rw [HF2.out, if_neg he])
          clear he
          go_wp2_with fail
          go_roundw
          case rel => exact ⟨k + 1, by omega, by go_num, HR.out.symm, (by repeat (first | exact Below.refl _ _ | assumption | refine ext_alloc ?_ _ | refine Below.drew ?_ | refine below_drewN' ?_ _ | refine ext_set ?_ (by first | (simp; done) | (simp; omega) | omega) _ | refine ext_trans ?_ (by assumption)))⟩
          case measure => simp [intOf]; omega
      · have hd : ls.drop k = [] := List.drop_eq_nil_of_le (by rw [HLEN.out]; omega)
        have HR := Lib.hid (show findI ls id 0 = -1 from by rw [← HF.out, hd]; rfl)
        clear hd
        go_wp2_with fail
        go_ret
        exact ⟨ret_int (by rw [H.out, HR.out]), hbel⟩

set_option maxHeartbeats 2000000 in
theorem spec_FindLetter (A : Option Addr) (n cap : Nat) (ls : List Ltr) (id : Int) (w : World) (h : LS w A n cap ls) :
    Calls Try.prog 7 #[.slice A n cap, .int .i64 id] w fun e w' => e = .returned (.int .i64 (findL ls id)) ∧ Below w.heap.size w w' := by
  have HL := Lib.hid h
  have HLEN := Lib.hid h.1
  clear h
  cases hb : batchB ls with
  | false =>
    have H := Lib.hid (show findL ls id = -1 from by simp [findL, hb])
    have HB := Lib.hid hb
    clear hb
    go_enter Try.func7, Try.ntmps7
    go_wp2_with fail
    go_loopw [5] (fun iv wr => iv = .int .i64 0 ∧ Below w.heap.size w wr) (fun _ _ => 0)
    case atStart => exact ⟨rfl, (by repeat (first | exact Below.refl _ _ | assumption | refine ext_alloc ?_ _ | refine Below.drew ?_ | refine below_drewN' ?_ _ | refine ext_set ?_ (by first | (simp; done) | (simp; omega) | omega) _ | refine ext_trans ?_ (by assumption)))⟩
    case round =>
      obtain ⟨rfl, hbel⟩ := hrel
      by_cases hn0 : 0 < n
      · go_wp2_with (go_at_call 15; refine (spec_BatchValid _ _ _ _ _ (HL.out.ext hbel)).mono ?_; rintro e w1 ⟨rfl, hb1⟩; rw [HB.out])
        go_ret
        exact ⟨ret_int H.out.symm, (by repeat (first | exact Below.refl _ _ | assumption | refine ext_alloc ?_ _ | refine Below.drew ?_ | refine below_drewN' ?_ _ | refine ext_set ?_ (by first | (simp; done) | (simp; omega) | omega) _ | refine ext_trans ?_ (by assumption)))⟩
      · go_wp2_with fail
        go_ret
        exact ⟨ret_int H.out.symm, (by repeat (first | exact Below.refl _ _ | assumption | refine ext_alloc ?_ _ | refine Below.drew ?_ | refine below_drewN' ?_ _ | refine ext_set ?_ (by first | (simp; done) | (simp; omega) | omega) _ | refine ext_trans ?_ (by assumption)))⟩
  | true =>
    have hn60 := batch_len hb
    rw [HLEN.out] at hn60
    have H := Lib.hid (show findL ls id = findI ls id 0 from by simp [findL, hb])
    have HB := Lib.hid hb
    clear hb
    go_enter Try.func7, Try.ntmps7
    go_wp2_with fail
    go_loopw [5] (fun iv wr => ∃ k : Nat, k ≤ n ∧ iv = .int .i64 k ∧ findI (ls.drop k) id k = findI ls id 0 ∧ Below w.heap.size w wr) (fun iv _ => n - (intOf iv).toNat)
    case atStart => exact ⟨0, by omega, rfl, rfl, (by repeat (first | exact Below.refl _ _ | assumption | refine ext_alloc ?_ _ | refine Below.drew ?_ | refine below_drewN' ?_ _ | refine ext_set ?_ (by first | (simp; done) | (simp; omega) | omega) _ | refine ext_trans ?_ (by assumption)))⟩
    case round =>
      obtain ⟨k, hk, rfl, hf, hbel⟩ := hrel
      have HF := Lib.hid hf
      clear hf
      by_cases hkn : k < n
      · have hkd : decide ((k : Int) < (n : Int)) = true := by simp; omega
        go_wp2_with fail
        refine (spec_BatchValid _ _ _ _ _ (HL.out.ext hbel)).mono ?_
        rintro e w1 ⟨rfl, hb1⟩
        rw [HB.out]
        obtain ⟨g, off, l, rfl, hl, hlm, c0, c1⟩ := ((HL.out.ext hbel).ext hb1).at_ k hkn
        have HF2 := Lib.hid (show findI ls id 0 = if l.1 = id then (k : Int) else findI (ls.drop (k + 1)) id (k + 1) from by rw [← HF.out, drop_at ls k l hl]; rfl)
        clear hl
        by_cases he : l.1 = id
        · have heq : (l.1 == id) = true := by simpa using he
          have HR := Lib.hid (show findI ls id 0 = k from by rw [HF2.out, if_pos he])
          clear he
          go_wp2_with fail
          go_ret
          exact ⟨ret_int (by rw [H.out, HR.out]), (by repeat (first | exact Below.refl _ _ | assumption | refine ext_alloc ?_ _ | refine Below.drew ?_ | refine below_drewN' ?_ _ | refine ext_set ?_ (by first | (simp; done) | (simp; omega) | omega) _ | refine ext_trans ?_ (by assumption)))⟩
        · have heq : (l.1 == id) = false := by simpa using he
          have HR := Lib.hid (show findI ls id 0 = findI (ls.drop (k + 1)) id (k + 1) from by rw [HF2.out, if_neg he])
          clear he
          go_wp2_with fail
          go_roundw
          case rel => exact ⟨k + 1, by omega, by go_num, HR.out.symm, (by repeat (first | exact Below.refl _ _ | assumption | refine ext_alloc ?_ _ | refine Below.drew ?_ | refine below_drewN' ?_ _ | refine ext_set ?_ (by first | (simp; done) | (simp; omega) | omega) _ | refine ext_trans ?_ (by assumption)))⟩
          case measure => simp [intOf]; omega
      · have hd : ls.drop k = [] := List.drop_eq_nil_of_le (by rw [HLEN.out]; omega)
        have HR := Lib.hid (show findI ls id 0 = -1 from by rw [← HF.out, hd]; rfl)
        have hkd : decide ((k : Int) < (n : Int)) = false := by simp; omega
        clear hd
        go_wp2_with fail
        go_ret
        exact ⟨ret_int (by rw [H.out, HR.out]), hbel⟩

/-- The order of codes. -/
def ltB (a b : ByteArray) : Bool := Op.bytesLess a.toList b.toList
/-- Codes ascend. -/
def srt : List Ltr → Bool
  | a :: b :: t => !ltB b.2 a.2 && srt (b :: t)
  | _ => true
/-- What SortedBatch answers. -/
def sortedB (ls : List Ltr) : Bool := batchB ls && srt ls

end Go.Proofs.Ytkbbnobchmlmdaa
