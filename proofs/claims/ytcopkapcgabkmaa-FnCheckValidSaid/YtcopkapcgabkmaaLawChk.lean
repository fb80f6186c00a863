/-
  WALKS: the laws FnCheckDigit and FnCheckValid. By an AI agent.
-/
import Derived.Test.YtcopkapcgabkmaaSome
import Derived.Test.YtcopkapcgabkmaaPut
import Derived.Deep.QuietTactic
import Derived.BigQuiet
import Derived.Deep.RegionHeld3
namespace Go.Proofs.Ytcopkapcgabkmaa
open Go.RowKit

theorem digsB_snoc (s : ByteArray) (d : Int) (h : digsB s = true) (h20 : s.size < 20) (h0 : 0 ≤ d) (h9 : d ≤ 9) : digsB (s ++ bs [dgB d]) = true := by
  obtain ⟨_, ha⟩ := digsB_parts h
  simp only [digsB, size_app, ByteArray.data_append, Array.toList_append, bs_list, allDig_snoc, ha, digB_dgB d h0 h9, bs_size]
  simp; omega
theorem chkB_snoc (s : ByteArray) (x d : Int) (h : digsB s = true) (h20 : s.size < 20) (h0 : 0 ≤ x) (h9 : x ≤ 9) (hd : chkD s = d) : chkB (s ++ bs [dgB x]) = (x == d) := by
  have h1 := digsB_snoc s x h h20 h0 h9
  have hs : sumD (s ++ bs [dgB x]).data.toList = sumD s.data.toList + x := by
    simp only [ByteArray.data_append, Array.toList_append, bs_list, sumD_snoc, dgB_val x h0 h9]; omega
  have he : (s ++ bs [dgB x]).data.toList.isEmpty = false := by simp [bs_list]
  unfold chkB
  rw [h1, he, hs, Bool.eq_iff_iff]
  simp only [chkD, h, if_true] at hd
  simp; omega
theorem sumD_reverse (l : List UInt8) : sumD l.reverse = sumD l := by
  unfold sumD; rw [List.map_reverse, List.sum_reverse]
theorem turnS_size (s : ByteArray) : (turnS s).size = s.size := by
  show (bs s.data.toList.reverse).size = _
  rw [bs_size, List.length_reverse, Array.length_toList]; rfl
theorem chkD_turn (s : ByteArray) : chkD (turnS s) = chkD s := by
  have e : (turnS s).data.toList = s.data.toList.reverse := by simp [turnS]
  have hz := turnS_size s
  have hd : digsB (turnS s) = digsB s := by unfold digsB; rw [e, hz]; simp [allDig]
  unfold chkD; rw [hd, e, sumD_reverse]

set_option maxHeartbeats 2000000 in
theorem law_FnCheckDigit (a : Option Addr) (len cap : Nat) (w : World) (h : BytesIn w a len cap) :
    Calls Try.prog 5 #[.slice a len cap] w fun e w' => e = .returned (.bool true) ∧ Below w.heap.size w w' := by
  have HC := Lib.hid h
  have hlen : len ≤ 9223372036854775807 := by have := h.1; have := h.2.1; unfold maxLen at this; omega
  clear h
  by_cases hbig : len ≤ 1048576
  · go_enter Try.func5, Try.ntmps5
    go_wp2_with fail
    refine (DrawCheckDigit_any _ _ _ _ HC.out).mono ?_
    rintro e w1 ⟨_, rfl, ⟨s, rfl, hs⟩, hb1⟩
    have hsm : s.size ≤ maxLen := by unfold maxLen; omega
    cases hd : digsB s with
    | false =>
      obtain ⟨d, hdd, hdn⟩ : ∃ d, chkD s = d ∧ d < 0 := ⟨_, rfl, by simp [chkD, hd]⟩
      have HD := Lib.hid hd
      have HDD := Lib.hid hdd
      clear hd hdd
      have hg : decide ((0 : Int) ≤ d) = false := by simpa using hdn
      go_wp2_with (first | (go_at_call 16; refine (impl_CheckDigit _ _ hsm).mono ?_; rintro e w' ⟨rfl, rfl⟩; rw [HDD.out]) | (go_at_call 18; refine (spec_CheckDigit _ _ hsm).mono ?_; rintro e w' ⟨rfl, rfl⟩; rw [HDD.out]) | (go_at_call 14; refine (impl_DigitsValid _ _ hsm).mono ?_; rintro e w' ⟨rfl, rfl⟩; rw [HD.out]))
      go_ret
      exact ⟨rfl, hb1⟩
    | true =>
      obtain ⟨d, hdd, hd0, hd9⟩ : ∃ d, chkD s = d ∧ 0 ≤ d ∧ d ≤ 9 := ⟨_, rfl, by simp [chkD, hd]; omega, by simp [chkD, hd]; omega⟩
      have HD := Lib.hid hd
      have HDD := Lib.hid hdd
      clear hd hdd
      by_cases h20 : s.size = 20
      · have hg : ((s.size : Int) == 20) = true := by simp; omega
        clear h20
        go_wp2_with (first | (go_at_call 16; refine (impl_CheckDigit _ _ hsm).mono ?_; rintro e w' ⟨rfl, rfl⟩; rw [HDD.out]) | (go_at_call 18; refine (spec_CheckDigit _ _ hsm).mono ?_; rintro e w' ⟨rfl, rfl⟩; rw [HDD.out]) | (go_at_call 14; refine (impl_DigitsValid _ _ hsm).mono ?_; rintro e w' ⟨rfl, rfl⟩; rw [HD.out]))
        go_ret
        exact ⟨rfl, hb1⟩
      · have hg : ((s.size : Int) == 20) = false := by simp; omega
        have hlt : s.size < 20 := by have := (digsB_parts HD.out).1; omega
        clear h20
        go_wp2_with (first | (go_at_call 16; refine (impl_CheckDigit _ _ hsm).mono ?_; rintro e w' ⟨rfl, rfl⟩; rw [HDD.out]) | (go_at_call 18; refine (spec_CheckDigit _ _ hsm).mono ?_; rintro e w' ⟨rfl, rfl⟩; rw [HDD.out]) | (go_at_call 14; refine (impl_DigitsValid _ _ hsm).mono ?_; rintro e w' ⟨rfl, rfl⟩; rw [HD.out]))
        go_loopw [5] (fun i wr => ∃ k : Nat, k ≤ 10 ∧ i = .int .i64 k ∧ Below w.heap.size w wr) (fun i _ => 10 - (intOf i).toNat)
        case atStart => exact ⟨0, by omega, rfl, hb1⟩
        case round =>
          obtain ⟨k, hk, rfl, hbr⟩ := hrel
          by_cases hk9 : k ≤ 9
          · have hcv := one_byte (k : Int) (by omega) (by omega)
            have hno : ¬ 9223372036854775807 < s.size + (bs [dgB (k : Int)]).size := by have : (bs [dgB (k : Int)]).size = 1 := rfl; omega
            have hsm2 : (s ++ bs [dgB (k : Int)]).size ≤ maxLen := by rw [size_app, bs_size]; show s.size + 1 ≤ maxLen; unfold maxLen; omega
            have HX := Lib.hid (chkB_snoc s (k : Int) d HD.out hlt (by omega) (by omega) HDD.out)
            go_wp2_with (go_at_call 12; refine (impl_CheckValid _ _ hsm2).mono ?_; rintro e w' ⟨rfl, rfl⟩; rw [HX.out])
            go_roundw
            case rel => exact ⟨k + 1, by omega, by go_num, (by repeat (first | exact Below.refl _ _ | assumption | refine ext_alloc ?_ _ | refine Below.drew ?_ | refine below_drewN' ?_ _ | refine ext_set ?_ (by first | (simp; done) | (simp; omega) | omega) _ | refine ext_trans ?_ (by assumption)))⟩
            case measure => simp [intOf]; omega
          · have HT := Lib.hid (show chkD (turnS s) = d from by rw [chkD_turn]; exact HDD.out)
            have hts : (turnS s).size ≤ maxLen := by rw [turnS_size]; exact hsm
            have h99 : ¬ (k : Int) ≤ 9 := by omega
            go_wp2_with (first | (go_at_call 19; refine (impl_TurnBars _ _ (by omega)).mono ?_; rintro e w2 ⟨rfl, hb2⟩) | (go_at_call 16; refine (impl_CheckDigit _ _ hts).mono ?_; rintro e w' ⟨rfl, rfl⟩; rw [HT.out]))
            go_ret
            exact ⟨by simp, (by repeat (first | exact Below.refl _ _ | assumption | refine ext_alloc ?_ _ | refine Below.drew ?_ | refine below_drewN' ?_ _ | refine ext_set ?_ (by first | (simp; done) | (simp; omega) | omega) _ | refine ext_trans ?_ (by assumption)))⟩
  · go_enter Try.func5, Try.ntmps5
    go_wp2_with fail
    go_ret
    exact ⟨rfl, (by repeat (first | exact Below.refl _ _ | assumption | refine ext_alloc ?_ _ | refine Below.drew ?_ | refine below_drewN' ?_ _ | refine ext_set ?_ (by first | (simp; done) | (simp; omega) | omega) _ | refine ext_trans ?_ (by assumption)))⟩

theorem sumD_set : ∀ (l : List UInt8) (i : Nat) (c : UInt8) (h : i < l.length), sumD (l.set i c) = sumD l - ((l[i].toNat : Int) - 48) + ((c.toNat : Int) - 48)
  | x :: l, 0, c, _ => by simp [sumD]; omega
  | x :: l, i + 1, c, h => by
    have := sumD_set l i c (by simpa using h)
    simp only [sumD, List.set_cons_succ, List.map_cons, List.sum_cons, List.getElem_cons_succ] at this ⊢
    omega
theorem allDig_set (l : List UInt8) (i : Nat) (c : UInt8) (h : allDig l = true) (hc : digB c = true) : allDig (l.set i c) = true := by
  simp only [allDig, List.all_eq_true] at h ⊢
  intro x hx
  rcases List.mem_or_eq_of_mem_set hx with h1 | h1
  · exact h x h1
  · rw [h1]; exact hc
theorem digsB_put (s : ByteArray) (i : Nat) (c : UInt8) (h : digsB s = true) (hc : digB c = true) : digsB (putS s i c) = true := by
  obtain ⟨h1, h2⟩ := digsB_parts h
  simp [digsB, putS_size, putS_list, h1, allDig_set _ _ _ h2 hc]
theorem put_ne (s : ByteArray) (i : Nat) (c : UInt8) (h : 0 < s.size) : (putS s i c).data.toList.isEmpty = false :=
  list_ne_of_size _ (by rw [putS_size]; exact h)
theorem getE (s : ByteArray) (i : Nat) (h : i < s.size) : s.data.toList[i]'(by simpa using h) = s[i] := rfl
theorem digB_get (s : ByteArray) (h : allDig s.data.toList = true) (k : Nat) (hk : k < s.size) : digB s[k] = true := by
  have := digB_at s h k hk; simp [digB]; omega
/-- One changed digit is noticed. -/
theorem chkB_put (s : ByteArray) (i : Nat) (c : UInt8) (m : Nat) (hi : i < s.size) (hd : digsB s = true) (hok : chkB s = true) (hm : m < 9) (hc : (c.toNat : Int) = 48 + ((s[i].toNat : Int) - 48 + 1 + m) % 10) : chkB (putS s i c) = false := by
  obtain ⟨h1, h2⟩ := digsB_parts hd
  have hci : digB c = true := by simp [digB]; omega
  have hx := digB_at s h2 i hi
  have hs := sumD_set s.data.toList i c (by simpa using hi)
  rw [getE s i hi] at hs
  simp only [chkB, hd, Bool.and_eq_true, decide_eq_true_eq] at hok
  have hmod := hok.2
  unfold chkB
  rw [digsB_put s i c hd hci, put_ne s i c (by omega), putS_list, hs]
  simp; omega
/-- Two exchanged digits are not noticed. -/
theorem chkB_swap (s : ByteArray) (i : Nat) (hi : i < s.size) (h0 : 0 < i) (hd : digsB s = true) : chkB (putS (putS s i s[i - 1]) (i - 1) s[i]) = chkB s := by
  obtain ⟨h1, h2⟩ := digsB_parts hd
  have d1 := digB_get s h2 (i - 1) (by omega)
  have d2 := digB_get s h2 i hi
  have hs := sumD_set s.data.toList i s[i - 1] (by simpa using hi)
  have hs2 := sumD_set (s.data.toList.set i s[i - 1]) (i - 1) s[i] (by simp; omega)
  rw [getE s i hi] at hs
  rw [List.getElem_set_ne (by omega), getE s (i - 1) (by omega)] at hs2
  unfold chkB
  rw [digsB_put _ _ _ (digsB_put s i _ hd d1) d2, put_ne _ _ _ (by rw [putS_size]; omega), list_ne_of_size s (by omega), hd, putS_list, putS_list, hs2, hs]
  congr 2
  simp only [eq_iff_iff]
  omega
theorem chk_zero (s : ByteArray) (h0 : 0 < s.size) (hd : digsB s = true) : chkB s = (chkD s == 0) := by
  unfold chkB chkD
  rw [if_pos hd, hd, list_ne_of_size s h0, Bool.eq_iff_iff]
  simp; omega

/-- The byte that is put, as the law reckons it. -/
def nextB (c : UInt8) (m : Nat) : UInt8 := UInt8.ofNat (48 + ((c.toNat - 48 + 1 + m) % 10))
theorem nextB_val (c : UInt8) (m : Nat) (h : 48 ≤ c.toNat) : ((nextB c m).toNat : Int) = 48 + ((c.toNat : Int) - 48 + 1 + m) % 10 := by
  unfold nextB; rw [UInt8.toNat_ofNat']; omega

set_option maxHeartbeats 4000000 in
theorem law_FnCheckValid (a : Option Addr) (len cap : Nat) (a2 : Option Addr) (len2 cap2 : Nat) (w : World) (h : BytesIn w a len cap) (h2 : BytesIn w a2 len2 cap2) :
    Calls Try.prog 4 #[.slice a len cap, .slice a2 len2 cap2] w fun e w' => e = .returned (.bool true) ∧ Below w.heap.size w w' := by
  have HC := Lib.hid h
  have hlen : len ≤ 9223372036854775807 := by have := h.1; have := h.2.1; unfold maxLen at this; omega
  have hlen2 : len2 ≤ 9223372036854775807 := by have := h2.1; have := h2.2.1; unfold maxLen at this; omega
  clear h h2
  by_cases hbig : len ≤ 1048576 ∧ len2 ≤ 1048576
  · obtain ⟨hbig1, hbig2⟩ := hbig
    go_enter Try.func4, Try.ntmps4
    go_wp2_with fail
    refine (DrawCheckValid_any _ _ _ _ HC.out).mono ?_
    rintro e w1 ⟨_, rfl, ⟨s, rfl, hs⟩, hb1⟩
    have hsm : s.size ≤ maxLen := by unfold maxLen; omega
    obtain ⟨ok, hok⟩ : ∃ ok, chkB s = ok := ⟨_, rfl⟩
    have HOK := Lib.hid hok
    clear hok
    by_cases hd : digsB s = true ∧ 0 < s.size
    · obtain ⟨hd, h0⟩ := hd
      have HD := Lib.hid hd
      have he := list_ne_of_size s h0
      rw [← ByteArray.toList_eq] at he
      have he3 : ¬ s.toList = [] := fun h => by rw [h] at he; cases he
      clear hd
      go_wp2_with (first | (go_at_call 12; refine (impl_CheckValid _ _ hsm).mono ?_; rintro e w' ⟨rfl, rfl⟩; rw [HOK.out]) | (go_at_call 13; refine (spec_CheckValid _ _ hsm).mono ?_; rintro e w' ⟨rfl, rfl⟩; rw [HOK.out]) | (go_at_call 14; refine (impl_DigitsValid _ _ hsm).mono ?_; rintro e w' ⟨rfl, rfl⟩; rw [HD.out]))
      go_loopw [7, 8] (fun i x wr => ∃ k : Nat, k ≤ s.size ∧ i = .int .i64 k ∧ Below w.heap.size w wr) (fun i _ _ => s.size - (intOf i).toNat)
      case atStart => exact ⟨0, by omega, rfl, hb1⟩
      case round =>
        obtain ⟨k, hk, rfl, hbr⟩ := hrel
        clear he he3
        by_cases hks : k < s.size
        · have h48 := digB_at s (digsB_parts HD.out).2 k hks
          have hm9 : len2 % 9 < 9 := Nat.mod_lt _ (by omega)
          have HN := Lib.hid (show ((nextB s[k] (len2 % 9)).toNat : Int) = 48 + ((s[k].toNat : Int) - 48 + 1 + (len2 : Int) % 9) % 10 from by rw [nextB_val s[k] (len2 % 9) h48.1]; simp)
          cases ok with
          | true =>
            have HP := Lib.hid (chkB_put s k (nextB s[k] (len2 % 9)) (len2 % 9) hks HD.out HOK.out hm9 (by rw [HN.out]; simp))
            go_wp2_with fail
            rw [← HN.out]
            refine (soPut_any s k _ _ hks).mono ?_
            rintro e w2 ⟨rfl, hb2⟩
            go_wp2_with fail
            refine (impl_CheckValid _ _ (by rw [putS_size]; exact hsm)).mono ?_
            rintro e w3 ⟨rfl, rfl⟩
            rw [HP.out]
            by_cases h00 : 0 < k
            · have HSW := Lib.hid (chkB_swap s k hks h00 HD.out)
              have hi0 : 0 < (k : Int) := by omega
              have hi1 : 0 ≤ (k : Int) - 1 := by omega
              have hi2 : (k : Int) - 1 < (s.size : Int) := by omega
              have hi3 : 1 ≤ (k : Int) := by omega
              have hi4 : (k : Int) < (s.size : Int) := by omega
              have hk1 : k - 1 < s.size := by omega
              have hk1s : ((k : Int) - 1).toNat = k - 1 := by omega
              have hwr : IntKind.i64.wrap ((k : Int) - 1) = (k : Int) - 1 := IntWalk.i64_in _ (by omega)
              have hgd : decide ((0 : Int) < (k : Int)) = true := by simpa using h00
              go_wp2_with fail
              go_region_held3 (fun _ => True) (trivial) (first | (go_at_call 15; (with_reducible refine (soPut_any s k _ _ hks).mono ?_); rintro e w4 ⟨rfl, hb4⟩) | (go_at_call 15; (with_reducible refine (soPut_int _ _ _ _ hi1 (by rw [putS_size]; exact hi2)).mono ?_); rintro e w5 ⟨rfl, hb5⟩) | (go_at_call 12; refine (impl_CheckValid _ _ (by rw [putS_size, putS_size]; exact hsm)).mono ?_; rintro e w6 ⟨rfl, rfl⟩; go_must (rw [HSW.out, HOK.out])))
              all_goals
                clear hwr
                go_wp2_with fail
                go_roundw
                case rel => exact ⟨k + 1, by omega, by go_num, (by repeat (first | exact Below.refl _ _ | assumption | refine ext_alloc ?_ _ | refine Below.drew ?_ | refine below_drewN' ?_ _ | refine ext_set ?_ (by first | (simp; done) | (simp; omega) | omega) _ | refine ext_trans ?_ (by assumption)))⟩
                case measure => simp [intOf]; omega
            · have hgd : decide ((0 : Int) < (k : Int)) = false := by simpa using h00
              go_wp2_with fail
              go_quiet (fail)
              go_wp2_with fail
              go_roundw
              case rel => exact ⟨k + 1, by omega, by go_num, (by repeat (first | exact Below.refl _ _ | assumption | refine ext_alloc ?_ _ | refine Below.drew ?_ | refine below_drewN' ?_ _ | refine ext_set ?_ (by first | (simp; done) | (simp; omega) | omega) _ | refine ext_trans ?_ (by assumption)))⟩
              case measure => simp [intOf]; omega
          | false =>
            have hb2 := Below.refl wr.heap.size wr
            by_cases h00 : 0 < k
            · have HSW := Lib.hid (chkB_swap s k hks h00 HD.out)
              have hi0 : 0 < (k : Int) := by omega
              have hi1 : 0 ≤ (k : Int) - 1 := by omega
              have hi2 : (k : Int) - 1 < (s.size : Int) := by omega
              have hi3 : 1 ≤ (k : Int) := by omega
              have hi4 : (k : Int) < (s.size : Int) := by omega
              have hk1 : k - 1 < s.size := by omega
              have hk1s : ((k : Int) - 1).toNat = k - 1 := by omega
              have hwr : IntKind.i64.wrap ((k : Int) - 1) = (k : Int) - 1 := IntWalk.i64_in _ (by omega)
              have hgd : decide ((0 : Int) < (k : Int)) = true := by simpa using h00
              go_wp2_with fail
              go_region_held3 (fun _ => True) (trivial) (first | (go_at_call 15; (with_reducible refine (soPut_any s k _ _ hks).mono ?_); rintro e w4 ⟨rfl, hb4⟩) | (go_at_call 15; (with_reducible refine (soPut_int _ _ _ _ hi1 (by rw [putS_size]; exact hi2)).mono ?_); rintro e w5 ⟨rfl, hb5⟩) | (go_at_call 12; refine (impl_CheckValid _ _ (by rw [putS_size, putS_size]; exact hsm)).mono ?_; rintro e w6 ⟨rfl, rfl⟩; go_must (rw [HSW.out, HOK.out])))
              all_goals
                clear hwr
                go_wp2_with fail
                go_roundw
                case rel => exact ⟨k + 1, by omega, by go_num, (by repeat (first | exact Below.refl _ _ | assumption | refine ext_alloc ?_ _ | refine Below.drew ?_ | refine below_drewN' ?_ _ | refine ext_set ?_ (by first | (simp; done) | (simp; omega) | omega) _ | refine ext_trans ?_ (by assumption)))⟩
                case measure => simp [intOf]; omega
            · have hgd : decide ((0 : Int) < (k : Int)) = false := by simpa using h00
              go_wp2_with fail
              go_quiet (fail)
              go_wp2_with fail
              go_roundw
              case rel => exact ⟨k + 1, by omega, by go_num, (by repeat (first | exact Below.refl _ _ | assumption | refine ext_alloc ?_ _ | refine Below.drew ?_ | refine below_drewN' ?_ _ | refine ext_set ?_ (by first | (simp; done) | (simp; omega) | omega) _ | refine ext_trans ?_ (by assumption)))⟩
              case measure => simp [intOf]; omega
        · have HZ := Lib.hid (chk_zero s h0 HD.out)
          obtain ⟨d, hdd⟩ : ∃ d, chkD s = d := ⟨_, rfl⟩
          have HDD := Lib.hid hdd
          have HZ2 := Lib.hid (show ok = (d == 0) from by rw [← HDD.out, ← HZ.out]; exact HOK.out.symm)
          clear hdd
          go_wp2_with (go_at_call 16; refine (impl_CheckDigit _ _ hsm).mono ?_; rintro e w' ⟨rfl, rfl⟩; rw [HDD.out])
          go_ret
          exact ⟨ret_bool (by rw [HZ2.out]; simp), (by repeat (first | exact Below.refl _ _ | assumption | refine ext_alloc ?_ _ | refine Below.drew ?_ | refine below_drewN' ?_ _ | refine ext_set ?_ (by first | (simp; done) | (simp; omega) | omega) _ | refine ext_trans ?_ (by assumption)))⟩
    · cases hd2 : digsB s with
      | false =>
        have HD := Lib.hid hd2
        clear hd hd2
        go_wp2_with (first | (go_at_call 12; refine (impl_CheckValid _ _ hsm).mono ?_; rintro e w' ⟨rfl, rfl⟩; rw [HOK.out]) | (go_at_call 13; refine (spec_CheckValid _ _ hsm).mono ?_; rintro e w' ⟨rfl, rfl⟩; rw [HOK.out]) | (go_at_call 14; refine (impl_DigitsValid _ _ hsm).mono ?_; rintro e w' ⟨rfl, rfl⟩; rw [HD.out]))
        go_ret
        exact ⟨ret_bool (by simp), hb1⟩
      | true =>
        have he0 : s.data.toList = [] := list_nil_of_size s (by
          by_cases h0 : 0 < s.size
          · exact absurd ⟨hd2, h0⟩ hd
          · omega)
        have HD := Lib.hid hd2
        rw [← ByteArray.toList_eq] at he0
        clear hd hd2
        go_wp2_with (first | (go_at_call 12; refine (impl_CheckValid _ _ hsm).mono ?_; rintro e w' ⟨rfl, rfl⟩; rw [HOK.out]) | (go_at_call 13; refine (spec_CheckValid _ _ hsm).mono ?_; rintro e w' ⟨rfl, rfl⟩; rw [HOK.out]) | (go_at_call 14; refine (impl_DigitsValid _ _ hsm).mono ?_; rintro e w' ⟨rfl, rfl⟩; rw [HD.out]))
        go_ret
        exact ⟨ret_bool (by simp), hb1⟩
  · go_enter Try.func4, Try.ntmps4
    by_cases hb1 : len ≤ 1048576
    · have hb2 : 1048576 < len2 := by omega
      clear hbig
      go_wp2_with fail
      go_ret
      exact ⟨rfl, (by repeat (first | exact Below.refl _ _ | assumption | refine ext_alloc ?_ _ | refine Below.drew ?_ | refine below_drewN' ?_ _ | refine ext_set ?_ (by first | (simp; done) | (simp; omega) | omega) _ | refine ext_trans ?_ (by assumption)))⟩
    · clear hbig
      go_wp2_with fail
      go_ret
      exact ⟨rfl, (by repeat (first | exact Below.refl _ _ | assumption | refine ext_alloc ?_ _ | refine Below.drew ?_ | refine below_drewN' ?_ _ | refine ext_set ?_ (by first | (simp; done) | (simp; omega) | omega) _ | refine ext_trans ?_ (by assumption)))⟩

end Go.Proofs.Ytcopkapcgabkmaa
