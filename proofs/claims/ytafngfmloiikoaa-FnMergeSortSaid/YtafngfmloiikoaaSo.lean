/-
  WALKS: the laws' own helpers on batches: soTurned, soAll, soSorted. By an AI agent.
-/
import Derived.Test.YtafngfmloiikoaaDrawM
import Derived.Test.YtafngfmloiikoaaSort7
namespace Go.Proofs.Ytafngfmloiikoaa
open Go.RowKit

set_option maxHeartbeats 1000000 in
theorem soSorted_any (A : Option Addr) (n cap : Nat) (ls : List Ltr) (w : World) (h : LS w A n cap ls) (hnil : A = none → cap = 0) :
    Calls Try.prog 49 #[.slice A n cap] w (Makes (sortR ls) w) := by
  have HL := Lib.hid h
  have HNC := Lib.hid hnil
  clear h hnil
  go_enter Try.func49, Try.ntmps49
  go_wp2_with fail
  refine (impl_SortBatch _ _ _ _ _ HL.out HNC.out).mono ?_
  rintro e w1 ⟨v, rfl, ho, hb⟩
  have HO := Lib.hid ho
  clear ho
  go_wp2_with fail
  go_ret
  exact ⟨_, rfl, HO.out, hb⟩

set_option maxHeartbeats 2000000 in
theorem soTurned_any (A : Option Addr) (n cap : Nat) (ls : List Ltr) (w : World) (h : LS w A n cap ls) (hn : n ≤ 1000) :
    Calls Try.prog 34 #[.slice A n cap] w (Makes ls.reverse w) := by
  have HL := Lib.hid h
  have HN := Lib.hid h.1
  clear h
  obtain ⟨i0, hi, hz0, hz1, hz2⟩ := info_parts info_letter
  have HO0 := Lib.hid (own_made (w := w) (B := w.heap.size) (Nat.le_refl _))
  go_enter Try.func34, Try.ntmps34
  go_wp2_with fail
  go_loopw [3, 4] (fun v iv wr => ∃ (i : Nat) (M : List Ltr), i ≤ n ∧ iv = .int .i64 ((i : Int) - 1) ∧ M = (ls.drop i).reverse ∧ Own wr w.heap.size v M ∧ Below w.heap.size w wr) (fun _ iv _ => (intOf iv + 1).toNat)
  case atStart => exact ⟨n, [], Nat.le_refl _, rfl, by rw [List.drop_eq_nil_of_le (by rw [HN.out]; exact Nat.le_refl _)]; rfl, HO0.out, below_box _ _⟩
  case round =>
    clear HO0
    obtain ⟨i, M, hin, rfl, hM, hown, hbel⟩ := hrel
    have HO := Lib.hid hown
    have HM := Lib.hid hM
    have HLN := Lib.hid (show M.length = n - i from by rw [hM]; simp [HN.out])
    have hsize := hbel.size
    clear hown hM
    by_cases hi0 : 0 < i
    · obtain ⟨k, rfl⟩ : ∃ k, i = k + 1 := ⟨i - 1, by omega⟩
      rw [show (((k + 1 : Nat) : Int) - 1) = (k : Int) by omega]
      obtain ⟨g, off, x, rfl, hx, hxm, c0, c1⟩ := (HL.out.ext hbel).at_ k (by omega)
      have HS := Lib.hid (show M ++ [x] = (ls.drop k).reverse from by rw [HM.out, drop_at ls k x hx]; simp)
      have hkn : (k : Int) < (n : Int) := by omega
      have hii : decide (0 ≤ (k : Int)) = true := by simp
      clear hx
      go_wp2_with (at_builtin; refine wpList_append_own_at _ rfl _ _ 23 rfl w.heap.size 31 i0 _ 2 24 Try.underlying23 hi hz0 hz1 hz2 rfl (by decide) _ _ _ rfl (by exact (HO.out.1.alloc _)) ⟨wr.heap.size, 0, none⟩ 1 1 [.int .i64 x.1, .string x.2] rfl rfl (by exact (letter_at _ x _ _ (by simp))) (letter_one x) (by have := HLN.out; unfold maxLen; omega) (by have := HLN.out; omega) (by simp; omega) ?_; intro v' w4 hown' hgrow _ hloc; clear hloc; have HST := Lib.hid (own_step0 hbel HO.out hxm hown' hgrow); clear hown' hgrow)
      go_roundw
      case rel => exact ⟨k, M ++ [x], by omega, by go_num, HS.out, HST.out.1, HST.out.2⟩
      case measure => simp [intOf]
    · obtain rfl : i = 0 := by omega
      go_wp2_with fail
      go_ret
      exact ⟨_, rfl, by have := HO.out; rw [HM.out] at this; exact this, hbel⟩

/-- A batch's letters, found by their numbers in another order of it. -/
theorem all_at {xs ys : List Ltr} (hp : List.Perm xs ys) (hb : batchB ys = true) {i : Nat} {l : Ltr} (hi : xs[i]? = some l) : ∃ k : Nat, findL ys l.1 = (k : Int) ∧ ys[k]? = some l := by
  have hm : l ∈ ys := hp.mem_iff.1 (List.mem_of_getElem? hi)
  obtain ⟨k, hk⟩ := List.mem_iff_getElem?.1 hm
  exact ⟨k, find_at hb hk, hk⟩

set_option maxHeartbeats 2000000 in
theorem soAll_any (A : Option Addr) (n cap : Nat) (xs : List Ltr) (A2 : Option Addr) (m cap2 : Nat) (ys : List Ltr) (w : World) (h : LS w A n cap xs) (h2 : LS w A2 m cap2 ys) (hp : List.Perm xs ys) (hb : batchB ys = true) :
    Calls Try.prog 38 #[.slice A n cap, .slice A2 m cap2] w fun e w' => e = .returned (.bool true) ∧ Below w.heap.size w w' := by
  have HL := Lib.hid h
  have HL2 := Lib.hid h2
  have HP := Lib.hid hp
  have HB := Lib.hid hb
  obtain rfl : n = m := by rw [← h.1, ← h2.1]; exact hp.length_eq
  have hn60 := batch_len hb
  rw [h2.1] at hn60
  have HN2 := Lib.hid h2.1
  clear h h2 hp hb
  go_enter Try.func38, Try.ntmps38
  go_wp2_with fail
  go_loopw [5] (fun iv wr => ∃ i : Nat, i ≤ n ∧ iv = .int .i64 i ∧ Below w.heap.size w wr) (fun iv _ => n - (intOf iv).toNat)
  case atStart => exact ⟨0, by omega, rfl, Below.refl _ _⟩
  case round =>
    obtain ⟨i, hi, rfl, hbel⟩ := hrel
    by_cases hin : i < n
    · obtain ⟨g, off, l, rfl, hl, hlm, c0, c1⟩ := (HL.out.ext hbel).at_ i hin
      obtain ⟨k, hk, hyk⟩ := all_at HP.out HB.out hl
      have hkn : k < n := by have := (List.getElem?_eq_some_iff.1 hyk).1; rw [HN2.out] at this; exact this
      have HK := Lib.hid hk
      have HYK := Lib.hid hyk
      have hki : (k : Int) < (n : Int) := by omega
      have hii : (i : Int) < (n : Int) := by omega
      have hk0 : decide ((k : Int) < 0) = false := by simp
      clear hk hyk hl
      go_wp2_with fail
      refine (soPlace_any _ _ _ ys _ _ (HL2.out.ext hbel)).mono ?_
      rintro e w1 ⟨rfl, hb1⟩
      rw [HK.out]
      obtain ⟨g2, off2, l2, rfl, hl2, _, d0, d1⟩ := ((HL2.out.ext hbel).ext hb1).at_ k hkn
      obtain rfl : l2 = l := by rw [HYK.out] at hl2; injection hl2 with hl2; exact hl2.symm
      clear hl2
      have e0 := cell_later hb1 c0
      have e1 := cell_later hb1 c1
      clear c0 c1
      go_wp2_with fail
      go_quiet (fail)
      go_wp2_with fail
      go_roundw
      case rel => exact ⟨i + 1, by omega, by go_num, (by repeat (first | exact Below.refl _ _ | assumption | refine ext_alloc ?_ _ | refine Below.drew ?_ | refine below_drewN' ?_ _ | refine ext_set ?_ (by first | (simp; done) | (simp; omega) | omega) _ | refine ext_trans ?_ (by assumption)))⟩
      case measure => simp [intOf]; omega
    · obtain rfl : i = n := by omega
      go_wp2_with fail
      go_ret
      exact ⟨by simp, hbel⟩

end Go.Proofs.Ytafngfmloiikoaa
