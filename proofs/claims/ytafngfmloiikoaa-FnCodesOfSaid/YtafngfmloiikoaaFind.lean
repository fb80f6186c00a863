/-
  WALKS: FindLetter, SortedBatch, Inversions of the program and of the reference; their exact laws. By an AI agent.
-/
import Derived.Test.YtafngfmloiikoaaLet2
import Derived.Sort.Walk0
namespace Go.Proofs.Ytafngfmloiikoaa
open Go.RowKit

/-- The index of a letter. -/
def findI : List Ltr → Int → Nat → Int
  | [], _, _ => -1
  | l :: ls, id, k => if l.1 = id then k else findI ls id (k + 1)
/-- What FindLetter answers. -/
def findL (ls : List Ltr) (id : Int) : Int := if batchB ls = true then findI ls id 0 else -1
theorem drop_at {α : Type} (ls : List α) (k : Nat) (l : α) (h : ls[k]? = some l) : ls.drop k = l :: ls.drop (k + 1) := by
  obtain ⟨hh, he⟩ := List.getElem?_eq_some_iff.1 h
  rw [List.drop_eq_getElem_cons hh, he]
theorem batch_len {ls : List Ltr} (h : batchB ls = true) : ls.length ≤ 60 := ((batchB_true ls).1 h).1

set_option maxHeartbeats 2000000 in
theorem impl_FindLetter (A : Option Addr) (n cap : Nat) (ls : List Ltr) (id : Int) (w : World) (h : LS w A n cap ls) :
    Calls Try.prog 63 #[.slice A n cap, .int .i64 id] w fun e w' => e = .returned (.int .i64 (findL ls id)) ∧ Below w.heap.size w w' := by
  have HL := Lib.hid h
  have HLEN := Lib.hid h.1
  clear h
  cases hb : batchB ls with
  | false =>
    have H := Lib.hid (show findL ls id = -1 from by simp [findL, hb])
    have HB := Lib.hid hb
    clear hb
    go_enter Try.func63, Try.ntmps63
    go_wp2_with (go_at_call 33; refine (impl_BatchValid _ _ _ _ _ HL.out).mono ?_; rintro e w1 ⟨rfl, hb1⟩; rw [HB.out])
    go_ret
    exact ⟨ret_int H.out.symm, (by repeat (first | exact Below.refl _ _ | assumption | refine ext_alloc ?_ _ | refine Below.drew ?_ | refine below_drewN' ?_ _ | refine ext_set ?_ (by first | (simp; done) | (simp; omega) | omega) _ | refine ext_trans ?_ (by assumption)))⟩
  | true =>
    have hn60 := batch_len hb
    rw [HLEN.out] at hn60
    have H := Lib.hid (show findL ls id = findI ls id 0 from by simp [findL, hb])
    have HB := Lib.hid hb
    clear hb
    go_enter Try.func63, Try.ntmps63
    go_wp2_with (go_at_call 33; refine (impl_BatchValid _ _ _ _ _ HL.out).mono ?_; rintro e w1 ⟨rfl, hb1⟩; rw [HB.out])
    go_loopw [12] (fun iv wr => ∃ k : Nat, k ≤ n ∧ iv = .int .i64 k ∧ findI (ls.drop k) id k = findI ls id 0 ∧ Below w.heap.size w wr) (fun iv _ => n - (intOf iv).toNat)
    case atStart => exact ⟨0, by omega, rfl, rfl, (by repeat (first | exact Below.refl _ _ | assumption | refine ext_alloc ?_ _ | refine Below.drew ?_ | refine below_drewN' ?_ _ | refine ext_set ?_ (by first | (simp; done) | (simp; omega) | omega) _ | refine ext_trans ?_ (by assumption)))⟩
    case round =>
      obtain ⟨k, hk, rfl, hf, hbel⟩ := hrel
      have HF := Lib.hid hf
      clear hf
      by_cases hkn : k < n
      · obtain ⟨g, off, l, rfl, hl, hlm, c0, c1⟩ := (HL.out.ext hbel).at_ k hkn
        have HF2 := Lib.hid (show findI ls id 0 = if l.1 = id then (k : Int) else findI (ls.drop (k + 1)) id (k + 1) from by rw [← HF.out, drop_at ls k l hl]; rfl)
        clear hl
        by_cases he : l.1 = id
        · have heq : (l.1 == id) = true := by simpa using he
          have HR := Lib.hid (show findI ls id 0 = k from by rw [HF2.out, if_pos he])
          clear he
          go_wp2_with fail
          go_ret
          exact ⟨ret_int (by rw [H.out, HR.out]), (by repeat (first | exact Below.refl _ _ | assumption | refine ext_alloc ?_ _ | refine Below.drew ?_ | refine below_drewN' ?_ _ | refine ext_set ?_ (by first | (simp; done) | (simp; omega) | omega) _ | refine ext_trans ?_ (by assumption)))⟩
        · have heq : (l.1 == id) = false := by simpa using he
          have HR := Lib.hid (show findI ls id 0 = findI (ls.drop (k + 1)) id (k + 1) from by rw [HF2.out, if_neg he])
          clear he
          go_wp2_with fail
          go_roundw
          case rel => exact ⟨k + 1, by omega, by go_num, HR.out.symm, (by repeat (first | exact Below.refl _ _ | assumption | refine ext_alloc ?_ _ | refine Below.drew ?_ | refine below_drewN' ?_ _ | refine ext_set ?_ (by first | (simp; done) | (simp; omega) | omega) _ | refine ext_trans ?_ (by assumption)))⟩
          case measure => simp [intOf]; omega
      · have hd : ls.drop k = [] := List.drop_eq_nil_of_le (by rw [HLEN.out]; omega)
        have HR := Lib.hid (show findI ls id 0 = -1 from by rw [← HF.out, hd]; rfl)
        clear hd
        go_wp2_with fail
        go_ret
        exact ⟨ret_int (by rw [H.out, HR.out]), hbel⟩

/-- The order of codes. -/
def ltB (a b : ByteArray) : Bool := Op.bytesLess a.toList b.toList
/-- Codes ascend. -/
def srt : List Ltr → Bool
  | a :: b :: t => !ltB b.2 a.2 && srt (b :: t)
  | _ => true
/-- What SortedBatch answers. -/
def sortedB (ls : List Ltr) : Bool := batchB ls && srt ls

set_option maxHeartbeats 4000000 in
theorem impl_SortedBatch (A : Option Addr) (n cap : Nat) (ls : List Ltr) (w : World) (h : LS w A n cap ls) :
    Calls Try.prog 31 #[.slice A n cap] w fun e w' => e = .returned (.bool (sortedB ls)) ∧ Below w.heap.size w w' := by
  have HL := Lib.hid h
  have HLEN := Lib.hid h.1
  clear h
  cases hb : batchB ls with
  | false =>
    have H := Lib.hid (show sortedB ls = false from by simp [sortedB, hb])
    have HB := Lib.hid hb
    clear hb
    go_enter Try.func31, Try.ntmps31
    go_wp2_with (go_at_call 33; refine (impl_BatchValid _ _ _ _ _ HL.out).mono ?_; rintro e w1 ⟨rfl, hb1⟩; rw [HB.out])
    go_ret
    exact ⟨ret_bool H.out.symm, (by repeat (first | exact Below.refl _ _ | assumption | refine ext_alloc ?_ _ | refine Below.drew ?_ | refine below_drewN' ?_ _ | refine ext_set ?_ (by first | (simp; done) | (simp; omega) | omega) _ | refine ext_trans ?_ (by assumption)))⟩
  | true =>
    have hn60 := batch_len hb
    rw [HLEN.out] at hn60
    have H := Lib.hid (show sortedB ls = srt ls from by simp [sortedB, hb])
    have HB := Lib.hid hb
    clear hb
    go_enter Try.func31, Try.ntmps31
    go_wp2_with (go_at_call 33; refine (impl_BatchValid _ _ _ _ _ HL.out).mono ?_; rintro e w1 ⟨rfl, hb1⟩; rw [HB.out])
    go_loopw [3] (fun iv wr => ∃ k : Nat, 1 ≤ k ∧ (k ≤ n ∨ k = 1) ∧ iv = .int .i64 k ∧ srt (ls.drop (k - 1)) = srt ls ∧ Below w.heap.size w wr) (fun iv _ => n - (intOf iv).toNat)
    case atStart => exact ⟨1, by omega, by omega, rfl, rfl, (by repeat (first | exact Below.refl _ _ | assumption | refine ext_alloc ?_ _ | refine Below.drew ?_ | refine below_drewN' ?_ _ | refine ext_set ?_ (by first | (simp; done) | (simp; omega) | omega) _ | refine ext_trans ?_ (by assumption)))⟩
    case round =>
      obtain ⟨k, hk1, hk, rfl, hf, hbel⟩ := hrel
      have HF := Lib.hid hf
      clear hf
      by_cases hkn : k < n
      · have hkd : decide ((k : Int) < (n : Int)) = true := by simp; omega
        have hbw := hbel
        obtain ⟨g, off, l, hA, hl, _, c0, c1⟩ := (HL.out.ext hbw).at_ k hkn
        obtain ⟨g', off', m, hA', hm, _, d0, d1⟩ := (HL.out.ext hbw).at_ (k - 1) (by omega)
        subst hA
        injection hA' with hA'
        injection hA' with hg1 hg2
        subst hg1 hg2
        have hdr : ls.drop (k - 1) = m :: l :: ls.drop (k + 1) := by
          rw [drop_at ls (k - 1) m hm, show k - 1 + 1 = k by omega, drop_at ls k l hl]
        have HS := Lib.hid (show srt ls = (!ltB l.2 m.2 && srt (ls.drop k)) from by rw [← HF.out, hdr, drop_at ls k l hl]; rfl)
        have hki : (k : Int) < (n : Int) := by omega
        have hk0 : 0 ≤ (k : Int) - 1 := by omega
        have hk2 : (k : Int) - 1 < (n : Int) := by omega
        have hkt : ((k : Int) - 1).toNat = k - 1 := by omega
        have hkw : IntKind.i64.wrap ((k : Int) - 1) = (k : Int) - 1 := IntWalk.i64_in _ (by omega)
        have hk3 : 1 ≤ (k : Int) := by omega
        clear hdr hl hm c0 d0
        cases hlt : ltB l.2 m.2 with
        | true =>
          have HR := Lib.hid (show srt ls = false from by rw [HS.out, hlt]; rfl)
          have hlt2 : Op.bytesLess l.2.toList m.2.toList = true := hlt
          clear hlt
          go_wp2_with fail
          go_quiet (fail)
          clear hkw
          go_wp2_with fail
          go_ret
          exact ⟨ret_bool (by rw [H.out, HR.out]), (by repeat (first | exact Below.refl _ _ | assumption | refine ext_alloc ?_ _ | refine Below.drew ?_ | refine below_drewN' ?_ _ | refine ext_set ?_ (by first | (simp; done) | (simp; omega) | omega) _ | refine ext_trans ?_ (by assumption)))⟩
        | false =>
          have HR := Lib.hid (show srt ls = srt (ls.drop k) from by rw [HS.out, hlt]; rfl)
          have hlt2 : Op.bytesLess l.2.toList m.2.toList = false := hlt
          clear hlt
          go_wp2_with fail
          go_quiet (fail)
          clear hkw
          go_wp2_with fail
          go_roundw
          case rel => exact ⟨k + 1, by omega, by omega, by go_num, HR.out.symm, (by repeat (first | exact Below.refl _ _ | assumption | refine ext_alloc ?_ _ | refine Below.drew ?_ | refine below_drewN' ?_ _ | refine ext_set ?_ (by first | (simp; done) | (simp; omega) | omega) _ | refine ext_trans ?_ (by assumption)))⟩
          case measure => simp [intOf]; omega
      · have hkd : decide ((k : Int) < (n : Int)) = false := by simp; omega
        have HR := Lib.hid (show srt ls = true from by
          rw [← HF.out]
          have hl : (ls.drop (k - 1)).length ≤ 1 := by rw [List.length_drop, HLEN.out]; omega
          match ls.drop (k - 1), hl with
          | [], _ => rfl
          | [x], _ => rfl)
        go_wp2_with fail
        go_ret
        exact ⟨ret_bool (by rw [H.out, HR.out]), (by repeat (first | exact Below.refl _ _ | assumption | refine ext_alloc ?_ _ | refine Below.drew ?_ | refine below_drewN' ?_ _ | refine ext_set ?_ (by first | (simp; done) | (simp; omega) | omega) _ | refine ext_trans ?_ (by assumption)))⟩

set_option maxHeartbeats 4000000 in
theorem spec_SortedBatch (A : Option Addr) (n cap : Nat) (ls : List Ltr) (w : World) (h : LS w A n cap ls) :
    Calls Try.prog 32 #[.slice A n cap] w fun e w' => e = .returned (.bool (sortedB ls)) ∧ Below w.heap.size w w' := by
  have HL := Lib.hid h
  have HLEN := Lib.hid h.1
  clear h
  cases hb : batchB ls with
  | false =>
    have H := Lib.hid (show sortedB ls = false from by simp [sortedB, hb])
    have HB := Lib.hid hb
    clear hb
    go_enter Try.func32, Try.ntmps32
    go_wp2_with fail
    go_loopw [3] (fun iv wr => iv = .int .i64 1 ∧ Below w.heap.size w wr) (fun _ _ => 0)
    case atStart => exact ⟨rfl, (by repeat (first | exact Below.refl _ _ | assumption | refine ext_alloc ?_ _ | refine Below.drew ?_ | refine below_drewN' ?_ _ | refine ext_set ?_ (by first | (simp; done) | (simp; omega) | omega) _ | refine ext_trans ?_ (by assumption)))⟩
    case round =>
      obtain ⟨rfl, hbel⟩ := hrel
      by_cases hn0 : 1 < n
      · go_wp2_with fail
        refine (spec_BatchValid _ _ _ _ _ (HL.out.ext hbel)).mono ?_
        rintro e w1 ⟨rfl, hb1⟩
        rw [HB.out]
        go_wp2_with fail
        refine (spec_BatchValid _ _ _ _ _ ((HL.out.ext hbel).ext hb1)).mono ?_
        rintro e w2 ⟨rfl, hb2⟩
        rw [HB.out]
        go_wp2_with fail
        go_ret
        exact ⟨ret_bool H.out.symm, (by repeat (first | exact Below.refl _ _ | assumption | refine ext_alloc ?_ _ | refine Below.drew ?_ | refine below_drewN' ?_ _ | refine ext_set ?_ (by first | (simp; done) | (simp; omega) | omega) _ | refine ext_trans ?_ (by assumption)))⟩
      · go_wp2_with fail
        refine (spec_BatchValid _ _ _ _ _ (HL.out.ext hbel)).mono ?_
        rintro e w1 ⟨rfl, hb1⟩
        rw [HB.out]
        go_wp2_with fail
        go_ret
        exact ⟨ret_bool H.out.symm, (by repeat (first | exact Below.refl _ _ | assumption | refine ext_alloc ?_ _ | refine Below.drew ?_ | refine below_drewN' ?_ _ | refine ext_set ?_ (by first | (simp; done) | (simp; omega) | omega) _ | refine ext_trans ?_ (by assumption)))⟩
  | true =>
    have hn60 := batch_len hb
    rw [HLEN.out] at hn60
    have H := Lib.hid (show sortedB ls = srt ls from by simp [sortedB, hb])
    have HB := Lib.hid hb
    clear hb
    go_enter Try.func32, Try.ntmps32
    go_wp2_with fail
    go_loopw [3] (fun iv wr => ∃ k : Nat, 1 ≤ k ∧ (k ≤ n ∨ k = 1) ∧ iv = .int .i64 k ∧ srt (ls.drop (k - 1)) = srt ls ∧ Below w.heap.size w wr) (fun iv _ => n - (intOf iv).toNat)
    case atStart => exact ⟨1, by omega, by omega, rfl, rfl, (by repeat (first | exact Below.refl _ _ | assumption | refine ext_alloc ?_ _ | refine Below.drew ?_ | refine below_drewN' ?_ _ | refine ext_set ?_ (by first | (simp; done) | (simp; omega) | omega) _ | refine ext_trans ?_ (by assumption)))⟩
    case round =>
      obtain ⟨k, hk1, hk, rfl, hf, hbel⟩ := hrel
      have HF := Lib.hid hf
      clear hf
      by_cases hkn : k < n
      · have hkd : decide ((k : Int) < (n : Int)) = true := by simp; omega
        go_wp2_with fail
        refine (spec_BatchValid _ _ _ _ _ (HL.out.ext hbel)).mono ?_
        rintro e w1 ⟨rfl, hb1⟩
        rw [HB.out]
        have hbw : Below w.heap.size w w1 := (by repeat (first | exact Below.refl _ _ | assumption | refine ext_alloc ?_ _ | refine Below.drew ?_ | refine below_drewN' ?_ _ | refine ext_set ?_ (by first | (simp; done) | (simp; omega) | omega) _ | refine ext_trans ?_ (by assumption)))
        obtain ⟨g, off, l, hA, hl, _, c0, c1⟩ := (HL.out.ext hbw).at_ k hkn
        obtain ⟨g', off', m, hA', hm, _, d0, d1⟩ := (HL.out.ext hbw).at_ (k - 1) (by omega)
        subst hA
        injection hA' with hA'
        injection hA' with hg1 hg2
        subst hg1 hg2
        have hdr : ls.drop (k - 1) = m :: l :: ls.drop (k + 1) := by
          rw [drop_at ls (k - 1) m hm, show k - 1 + 1 = k by omega, drop_at ls k l hl]
        have HS := Lib.hid (show srt ls = (!ltB l.2 m.2 && srt (ls.drop k)) from by rw [← HF.out, hdr, drop_at ls k l hl]; rfl)
        have hki : (k : Int) < (n : Int) := by omega
        have hk0 : 0 ≤ (k : Int) - 1 := by omega
        have hk2 : (k : Int) - 1 < (n : Int) := by omega
        have hkt : ((k : Int) - 1).toNat = k - 1 := by omega
        have hkw : IntKind.i64.wrap ((k : Int) - 1) = (k : Int) - 1 := IntWalk.i64_in _ (by omega)
        have hk3 : 1 ≤ (k : Int) := by omega
        clear hdr hl hm c0 d0
        cases hlt : ltB l.2 m.2 with
        | true =>
          have HR := Lib.hid (show srt ls = false from by rw [HS.out, hlt]; rfl)
          have hlt2 : Op.bytesLess l.2.toList m.2.toList = true := hlt
          clear hlt
          go_wp2_with fail
          go_quiet (fail)
          clear hkw
          go_wp2_with fail
          go_ret
          exact ⟨ret_bool (by rw [H.out, HR.out]), (by repeat (first | exact Below.refl _ _ | assumption | refine ext_alloc ?_ _ | refine Below.drew ?_ | refine below_drewN' ?_ _ | refine ext_set ?_ (by first | (simp; done) | (simp; omega) | omega) _ | refine ext_trans ?_ (by assumption)))⟩
        | false =>
          have HR := Lib.hid (show srt ls = srt (ls.drop k) from by rw [HS.out, hlt]; rfl)
          have hlt2 : Op.bytesLess l.2.toList m.2.toList = false := hlt
          clear hlt
          go_wp2_with fail
          go_quiet (fail)
          clear hkw
          go_wp2_with fail
          go_roundw
          case rel => exact ⟨k + 1, by omega, by omega, by go_num, HR.out.symm, (by repeat (first | exact Below.refl _ _ | assumption | refine ext_alloc ?_ _ | refine Below.drew ?_ | refine below_drewN' ?_ _ | refine ext_set ?_ (by first | (simp; done) | (simp; omega) | omega) _ | refine ext_trans ?_ (by assumption)))⟩
          case measure => simp [intOf]; omega
      · have hkd : decide ((k : Int) < (n : Int)) = false := by simp; omega
        have HR := Lib.hid (show srt ls = true from by
          rw [← HF.out]
          have hl : (ls.drop (k - 1)).length ≤ 1 := by rw [List.length_drop, HLEN.out]; omega
          match ls.drop (k - 1), hl with
          | [], _ => rfl
          | [x], _ => rfl)
        go_wp2_with fail
        refine (spec_BatchValid _ _ _ _ _ (HL.out.ext hbel)).mono ?_
        rintro e w1 ⟨rfl, hb1⟩
        rw [HB.out]
        go_wp2_with fail
        go_ret
        exact ⟨ret_bool (by rw [H.out, HR.out]), (by repeat (first | exact Below.refl _ _ | assumption | refine ext_alloc ?_ _ | refine Below.drew ?_ | refine below_drewN' ?_ _ | refine ext_set ?_ (by first | (simp; done) | (simp; omega) | omega) _ | refine ext_trans ?_ (by assumption)))⟩

end Go.Proofs.Ytafngfmloiikoaa
