/-
  WALKS: the laws FnDigitBars, FnBarsDigit, FnBarsRead, FnReadEither. By an AI agent.
-/
import Derived.Test.YtcopkapcgabkmaaDoorBarsQ
namespace Go.Proofs.YtcopkapcgabkmaaDoor
open Go.RowKit

theorem u8_eq_true (c d : UInt8) (h : c = d) : ((c.toNat : Int) == (d.toNat : Int)) = true := by subst h; simp
theorem u8_eq_false (c d : UInt8) (h : ¬ c = d) : ((c.toNat : Int) == (d.toNat : Int)) = false := by
  simp only [beq_eq_false_iff_ne]; intro he; apply h; apply UInt8.toNat_inj.1; omega
theorem take_cnt (s : ByteArray) (c : UInt8) (k : Nat) (hk : k < s.size) : cnt c (s.data.toList.take (k + 1)) = cnt c (s.data.toList.take k) + if s[k] = c then 1 else 0 := by
  rw [take_snoc s k hk, cnt_snoc]
theorem take_full (s : ByteArray) (k : Nat) (h : ¬ k < s.size) : s.data.toList.take k = s.data.toList := List.take_of_length_le (by simp; omega)
theorem str_true (s : ByteArray) : (s.toList == s.toList) = true := by simp

set_option maxHeartbeats 4000000 in
theorem law_FnDigitBars (a : Option Addr) (len cap : Nat) (w : World) (h : BytesIn w a len cap) (hT : Tab w) :
    Calls Tryd.prog 7 #[.slice a len cap] w fun e w' => e = .returned (.bool true) ∧ Below w.heap.size w w' := by
  have HC := Lib.hid h
  have HT := Lib.hid hT
  have hlen : len ≤ 9223372036854775807 := by have := h.1; have := h.2.1; unfold maxLen at this; omega
  clear h hT
  by_cases hbig : len ≤ 1048576
  · go_enter Tryd.func7, Tryd.ntmps7
    go_wp2_with fail
    refine (DrawDigitBars_any _ _ _ _ HC.out).mono ?_
    rintro e w1 ⟨_, rfl, ⟨d, rfl⟩, hb1⟩
    by_cases hd : 0 ≤ d ∧ d ≤ 9
    · obtain ⟨n, rfl⟩ := Int.eq_ofNat_of_zero_le hd.1
      have hn : n < 10 := by omega
      obtain ⟨b, hb⟩ : ∃ b, digitBarS (n : Int) = b := ⟨_, rfl⟩
      have hbl : b.data.toList = barL n := by rw [← hb, digitBarS, if_pos hd]; simp [barS]
      have h5 : b.size = 5 := by rw [Lib.size_eq, hbl, barL_len n hn]
      have he := list_ne_of_size b (by omega)
      rw [← ByteArray.toList_eq] at he
      have he3 : ¬ b.toList = [] := fun h => by rw [h] at he; cases he
      have HB := Lib.hid hb
      have HBL := Lib.hid hbl
      have H5 := Lib.hid h5
      have hi5 : ((b.size : Int) == 5) = true := by simp; omega
      have h5a : b.size ≤ 5 := by omega
      have h5b : 5 ≤ b.size := by omega
      have HD := Lib.hid (show barsD b.data.toList = (n : Int) from by rw [hbl]; exact barsD_barL n hn)
      clear hb hbl h5 hd
      go_wp2_with (first | (go_at_call 23; refine (impl_DigitBars_any _ _ (HT.out.ext hb1)).mono ?_; rintro e w' ⟨rfl, rfl⟩; rw [HB.out]) | (go_at_call 24; refine (spec_DigitBars _ _).mono ?_; rintro e w2 ⟨rfl, hb2⟩; rw [HB.out]))
      go_loopw [5, 6, 7] (fun lv iv xv wr => ∃ k : Nat, k ≤ b.size ∧ iv = .int .i64 k ∧ lv = .int .i64 (cnt 124 (b.data.toList.take k)) ∧ Below w.heap.size w wr) (fun _ iv _ _ => b.size - (intOf iv).toNat)
      case atStart => exact ⟨0, by omega, rfl, rfl, (by repeat (first | exact Below.refl _ _ | assumption | refine ext_alloc ?_ _ | refine Below.drew ?_ | refine below_drewN' ?_ _ | refine ext_set ?_ (by first | (simp; done) | (simp; omega) | omega) _ | refine ext_trans ?_ (by assumption)))⟩
      case round =>
        obtain ⟨k, hk, rfl, rfl, hbr⟩ := hrel
        clear he he3
        have hcl := cnt_le 124 (b.data.toList.take k)
        have hcl2 : (b.data.toList.take k).length ≤ k := List.length_take_le _ _
        obtain ⟨c, hc⟩ : ∃ c, cnt 124 (b.data.toList.take k) = c := ⟨_, rfl⟩
        rw [hc] at hcl ⊢
        have HCN := Lib.hid hc
        clear hc
        by_cases hks : k < b.size
        · have hki : (k : Int) < (b.size : Int) := by omega
          have hki0 : (0 : Int) ≤ (k : Int) := by omega
          have HST := Lib.hid (take_cnt b 124 k hks)
          have HFL := Lib.hid (show barsD (putS b k (flipC b[k])).data.toList = -1 from by
            have hf := flip_bar n hn k (by have := H5.out; omega)
            rw [← HBL.out] at hf
            rw [putS_list, show b[k] = b.data.toList.getD k 0 from by rw [List.getD_eq_getElem?_getD, List.getElem?_eq_getElem (by simpa using hks)]; rfl]
            exact hf)
          by_cases hch : b[k] = 124
          · have hq : ((b[k].toNat : Int) == 124) = true := u8_eq_true _ 124 hch
            have HF2 := Lib.hid (show flipC b[k] = 46 from by rw [flipC, if_pos hch])
            have HX := Lib.hid (show barsD (putS b k 46).data.toList = -1 from by rw [← HF2.out]; exact HFL.out)
            have HCH := Lib.hid hch
            clear hch
            go_wp2_with fail
            refine (soPut_nv b k _ 46 _ hks rfl).mono ?_
            rintro e w2 ⟨rfl, hb2⟩
            go_wp2_with fail
            refine (impl_BarsDigit _ _ ((HT.out.ext hbr).ext hb2)).mono ?_
            rintro e w3 ⟨rfl, rfl⟩
            rw [HX.out]
            go_wp2_with fail
            go_roundw
            case rel => exact ⟨k + 1, by omega, by go_num, by rw [HST.out, HCN.out, if_pos HCH.out]; go_num, (by repeat (first | exact Below.refl _ _ | assumption | refine ext_alloc ?_ _ | refine Below.drew ?_ | refine below_drewN' ?_ _ | refine ext_set ?_ (by first | (simp; done) | (simp; omega) | omega) _ | refine ext_trans ?_ (by assumption)))⟩
            case measure => simp [intOf]; omega
          · have hq : ((b[k].toNat : Int) == 124) = false := u8_eq_false _ 124 hch
            have HF2 := Lib.hid (show flipC b[k] = 124 from by rw [flipC, if_neg hch])
            have HX := Lib.hid (show barsD (putS b k 124).data.toList = -1 from by rw [← HF2.out]; exact HFL.out)
            have HCH := Lib.hid hch
            clear hch
            go_wp2_with fail
            refine (soPut_nv b k _ 124 _ hks rfl).mono ?_
            rintro e w2 ⟨rfl, hb2⟩
            go_wp2_with fail
            refine (impl_BarsDigit _ _ ((HT.out.ext hbr).ext hb2)).mono ?_
            rintro e w3 ⟨rfl, rfl⟩
            rw [HX.out]
            go_wp2_with fail
            go_roundw
            case rel => exact ⟨k + 1, by omega, by go_num, by rw [HST.out, HCN.out, if_neg HCH.out]; go_num, (by repeat (first | exact Below.refl _ _ | assumption | refine ext_alloc ?_ _ | refine Below.drew ?_ | refine below_drewN' ?_ _ | refine ext_set ?_ (by first | (simp; done) | (simp; omega) | omega) _ | refine ext_trans ?_ (by assumption)))⟩
            case measure => simp [intOf]; omega
        · have hc2 : ((c : Int) == 2) = true := by
            have := HCN.out; rw [take_full b k hks, HBL.out, (cnt_bar n hn).1] at this; subst this; rfl
          go_wp2_with (go_at_call 25; refine (impl_BarsDigit _ _ (HT.out.ext hbr)).mono ?_; rintro e w3 ⟨rfl, rfl⟩; rw [HD.out])
          go_ret
          exact ⟨ret_bool (by simp), (by repeat (first | exact Below.refl _ _ | assumption | refine ext_alloc ?_ _ | refine Below.drew ?_ | refine below_drewN' ?_ _ | refine ext_set ?_ (by first | (simp; done) | (simp; omega) | omega) _ | refine ext_trans ?_ (by assumption)))⟩
    · have HB := Lib.hid (show digitBarS d = ⟨#[]⟩ from by rw [digitBarS, if_neg hd])
      have hd2 : d < 0 ∨ 9 < d := by omega
      clear hd
      rcases hd2 with hd2 | hd2
      · have hg : decide (d < 0) = true := by simpa using hd2
        go_wp2_with (first | (go_at_call 23; refine (impl_DigitBars_any _ _ (HT.out.ext hb1)).mono ?_; rintro e w' ⟨rfl, rfl⟩; rw [HB.out]) | (go_at_call 24; refine (spec_DigitBars _ _).mono ?_; rintro e w2 ⟨rfl, hb2⟩; rw [HB.out]))
        go_ret
        exact ⟨rfl, (by repeat (first | exact Below.refl _ _ | assumption | refine ext_alloc ?_ _ | refine Below.drew ?_ | refine below_drewN' ?_ _ | refine ext_set ?_ (by first | (simp; done) | (simp; omega) | omega) _ | refine ext_trans ?_ (by assumption)))⟩
      · have hg : decide (d < 0) = false := by simp; omega
        have hg2 : decide (9 < d) = true := by simpa using hd2
        go_wp2_with (first | (go_at_call 23; refine (impl_DigitBars_any _ _ (HT.out.ext hb1)).mono ?_; rintro e w' ⟨rfl, rfl⟩; rw [HB.out]) | (go_at_call 24; refine (spec_DigitBars _ _).mono ?_; rintro e w2 ⟨rfl, hb2⟩; rw [HB.out]))
        go_ret
        exact ⟨rfl, (by repeat (first | exact Below.refl _ _ | assumption | refine ext_alloc ?_ _ | refine Below.drew ?_ | refine below_drewN' ?_ _ | refine ext_set ?_ (by first | (simp; done) | (simp; omega) | omega) _ | refine ext_trans ?_ (by assumption)))⟩
  · go_enter Tryd.func7, Tryd.ntmps7
    go_wp2_with fail
    go_ret
    exact ⟨rfl, (by repeat (first | exact Below.refl _ _ | assumption | refine ext_alloc ?_ _ | refine Below.drew ?_ | refine below_drewN' ?_ _ | refine ext_set ?_ (by first | (simp; done) | (simp; omega) | omega) _ | refine ext_trans ?_ (by assumption)))⟩

set_option maxHeartbeats 4000000 in
theorem law_FnBarsDigit (a : Option Addr) (len cap : Nat) (w : World) (h : BytesIn w a len cap) (hT : Tab w) :
    Calls Tryd.prog 8 #[.slice a len cap] w fun e w' => e = .returned (.bool true) ∧ Below w.heap.size w w' := by
  have HC := Lib.hid h
  have HT := Lib.hid hT
  have hlen : len ≤ 9223372036854775807 := by have := h.1; have := h.2.1; unfold maxLen at this; omega
  clear h hT
  by_cases hbig : len ≤ 1048576
  · go_enter Tryd.func8, Tryd.ntmps8
    go_wp2_with fail
    refine (DrawBarsDigit_any _ _ _ _ HC.out).mono ?_
    rintro e w1 ⟨_, rfl, ⟨b, rfl, hb6⟩, hb1⟩
    obtain ⟨d, hd⟩ : ∃ d, barsD b.data.toList = d := ⟨_, rfl⟩
    have HD := Lib.hid hd
    clear hd
    go_wp2_with fail
    refine (impl_BarsDigit _ _ (HT.out.ext hb1)).mono ?_
    rintro e w' ⟨rfl, rfl⟩
    rw [HD.out]
    go_wp2_with fail
    refine (spec_BarsDigit _ _).mono ?_
    rintro e w2 ⟨rfl, hb2⟩
    rw [HD.out]
    go_wp2_with fail
    go_loop [5, 6, 7] (fun lv sv iv => ∃ k : Nat, k ≤ b.size ∧ iv = .int .i64 k ∧ lv = .int .i64 (cnt 124 (b.data.toList.take k)) ∧ sv = .int .i64 (cnt 46 (b.data.toList.take k))) (fun _ _ iv => b.size - (intOf iv).toNat)
    case atStart => exact ⟨0, by omega, rfl, rfl, rfl⟩
    case round =>
      obtain ⟨k, hk, rfl, rfl, rfl⟩ := hrel
      have hcl := cnt_le 124 (b.data.toList.take k)
      have hcm := cnt_le 46 (b.data.toList.take k)
      have hcl2 : (b.data.toList.take k).length ≤ k := List.length_take_le _ _
      obtain ⟨c, hc⟩ : ∃ c, cnt 124 (b.data.toList.take k) = c := ⟨_, rfl⟩
      obtain ⟨m, hm⟩ : ∃ m, cnt 46 (b.data.toList.take k) = m := ⟨_, rfl⟩
      rw [hc] at hcl ⊢
      rw [hm] at hcm ⊢
      have HCN := Lib.hid hc
      have HMN := Lib.hid hm
      clear hc hm
      by_cases hks : k < b.size
      · have HST := Lib.hid (take_cnt b 124 k hks)
        have HSM := Lib.hid (take_cnt b 46 k hks)
        by_cases hch : b[k] = 124
        · have hq : ((b[k].toNat : Int) == 124) = true := u8_eq_true _ 124 hch
          have hq2 : ((b[k].toNat : Int) == 46) = false := by rw [hch]; rfl
          have HCH := Lib.hid hch
          have HCH2 := Lib.hid (show ¬ b[k] = 46 from by rw [hch]; decide)
          clear hch
          go_wp2_with fail
          go_round
          case rel => exact ⟨k + 1, by omega, by go_num, by rw [HST.out, HCN.out, if_pos HCH.out]; go_num, by rw [HSM.out, HMN.out, if_neg HCH2.out]; go_num⟩
          case measure => simp [intOf]; omega
        · have hq : ((b[k].toNat : Int) == 124) = false := u8_eq_false _ 124 hch
          have HCH := Lib.hid hch
          clear hch
          by_cases hch2 : b[k] = 46
          · have hq2 : ((b[k].toNat : Int) == 46) = true := u8_eq_true _ 46 hch2
            have HCH2 := Lib.hid hch2
            clear hch2
            go_wp2_with fail
            go_round
            case rel => exact ⟨k + 1, by omega, by go_num, by rw [HST.out, HCN.out, if_neg HCH.out]; go_num, by rw [HSM.out, HMN.out, if_pos HCH2.out]; go_num⟩
            case measure => simp [intOf]; omega
          · have hq2 : ((b[k].toNat : Int) == 46) = false := u8_eq_false _ 46 hch2
            have HCH2 := Lib.hid hch2
            clear hch2
            go_wp2_with fail
            go_round
            case rel => exact ⟨k + 1, by omega, by go_num, by rw [HST.out, HCN.out, if_neg HCH.out]; go_num, by rw [HSM.out, HMN.out, if_neg HCH2.out]; go_num⟩
            case measure => simp [intOf]; omega
      · have HCF := Lib.hid (show cnt 124 b.data.toList = c from by have := HCN.out; rwa [take_full b k hks] at this)
        have HMF := Lib.hid (show cnt 46 b.data.toList = m from by have := HMN.out; rwa [take_full b k hks] at this)
        have hsz : b.data.toList.length = b.size := by simp
        by_cases hd0 : 0 ≤ d
        · have hg := bars_good b.data.toList (by rw [HD.out]; exact hd0)
          have hrev := hg.2.2.2
          have hc2 : ((c : Int) == 2) = true := by have := hg.2.1; rw [HCF.out] at this; subst this; rfl
          have hm3 : ((m : Int) == 3) = true := by have := hg.2.2.1; rw [HMF.out] at this; subst this; rfl
          have hs5 : ((b.size : Int) == 5) = true := by have := hg.1; rw [hsz] at this; simp; omega
          have hdd : decide (0 ≤ d) = true := by simpa using hd0
          have HB := Lib.hid (show digitBarS d = b from by rw [← HD.out]; exact digitBar_back b (by rw [HD.out]; exact hd0))
          obtain ⟨rd, hrd⟩ : ∃ rd, barsD (turnS b).data.toList = rd := ⟨_, rfl⟩
          have hrd0 : 0 ≤ rd := by rw [← hrd]; have e : (turnS b).data.toList = b.data.toList.reverse := by simp [turnS]
                                   rw [e]; exact hrev
          have hrdd : decide (0 ≤ rd) = true := by simpa using hrd0
          have HRD := Lib.hid hrd
          clear hg hrev hrd hsz
          go_wp2_with fail
          refine (impl_DigitBars_any _ _ ((HT.out.ext hb1).ext hb2)).mono ?_
          rintro e w3 ⟨rfl, rfl⟩
          rw [HB.out]
          go_wp2_with fail
          refine (impl_TurnBars _ _ (by omega)).mono ?_
          rintro e w4 ⟨rfl, hb4⟩
          go_wp2_with fail
          refine (impl_BarsDigit _ _ (((HT.out.ext hb1).ext hb2).ext hb4)).mono ?_
          rintro e w5 ⟨rfl, rfl⟩
          rw [HRD.out]
          go_wp2_with fail
          go_ret
          exact ⟨rfl, (by repeat (first | exact Below.refl _ _ | assumption | refine ext_alloc ?_ _ | refine Below.drew ?_ | refine below_drewN' ?_ _ | refine ext_set ?_ (by first | (simp; done) | (simp; omega) | omega) _ | refine ext_trans ?_ (by assumption)))⟩
        · have hng : ¬ (b.size = 5 ∧ c = 2 ∧ m = 3) := by
            rintro ⟨x, y, z⟩
            have := good_bars b.data.toList (by rw [hsz]; exact x) (by rw [HCF.out]; exact y) (by rw [HMF.out]; exact z)
            rw [HD.out] at this; omega
          have hdd : decide (0 ≤ d) = false := by simpa using hd0
          clear hsz
          by_cases y : c = 2
          · have hc2 : ((c : Int) == 2) = true := by subst y; rfl
            by_cases z : m = 3
            · have hm3 : ((m : Int) == 3) = true := by subst z; rfl
              have hs5 : ((b.size : Int) == 5) = false := by
                simp only [beq_eq_false_iff_ne]; intro e; exact hng ⟨by omega, y, z⟩
              clear y z hng
              go_wp2_with fail
              go_ret
              exact ⟨rfl, (by repeat (first | exact Below.refl _ _ | assumption | refine ext_alloc ?_ _ | refine Below.drew ?_ | refine below_drewN' ?_ _ | refine ext_set ?_ (by first | (simp; done) | (simp; omega) | omega) _ | refine ext_trans ?_ (by assumption)))⟩
            · have hm3 : ((m : Int) == 3) = false := by simp; omega
              clear y z hng
              go_wp2_with fail
              go_ret
              exact ⟨rfl, (by repeat (first | exact Below.refl _ _ | assumption | refine ext_alloc ?_ _ | refine Below.drew ?_ | refine below_drewN' ?_ _ | refine ext_set ?_ (by first | (simp; done) | (simp; omega) | omega) _ | refine ext_trans ?_ (by assumption)))⟩
          · have hc2 : ((c : Int) == 2) = false := by simp; omega
            clear y hng
            go_wp2_with fail
            go_ret
            exact ⟨rfl, (by repeat (first | exact Below.refl _ _ | assumption | refine ext_alloc ?_ _ | refine Below.drew ?_ | refine below_drewN' ?_ _ | refine ext_set ?_ (by first | (simp; done) | (simp; omega) | omega) _ | refine ext_trans ?_ (by assumption)))⟩
  · go_enter Tryd.func8, Tryd.ntmps8
    go_wp2_with fail
    go_ret
    exact ⟨rfl, (by repeat (first | exact Below.refl _ _ | assumption | refine ext_alloc ?_ _ | refine Below.drew ?_ | refine below_drewN' ?_ _ | refine ext_set ?_ (by first | (simp; done) | (simp; omega) | omega) _ | refine ext_trans ?_ (by assumption)))⟩

set_option maxHeartbeats 4000000 in
theorem law_FnBarsRead (a : Option Addr) (len cap : Nat) (w : World) (h : BytesIn w a len cap) (hT : Tab w) :
    Calls Tryd.prog 9 #[.slice a len cap] w fun e w' => e = .returned (.bool true) ∧ Below w.heap.size w w' := by
  have HC := Lib.hid h
  have HT := Lib.hid hT
  have hlen : len ≤ 9223372036854775807 := by have := h.1; have := h.2.1; unfold maxLen at this; omega
  clear h hT
  by_cases hbig : len ≤ 1048576
  · go_enter Tryd.func9, Tryd.ntmps9
    go_wp2_with fail
    refine (DrawBarsOf_any _ _ _ _ HC.out).mono ?_
    rintro e w1 ⟨_, rfl, ⟨s, rfl, hs⟩, hb1⟩
    have hsm : s.size ≤ maxLen := by unfold maxLen; omega
    cases hv : codeB s with
    | false =>
      have HBV := Lib.hid (show barsV s = .tuple #[.string ⟨#[]⟩, .bool false] from by simp [barsV, hv])
      have HV := Lib.hid hv
      clear hv
      go_wp2_with (first | (go_at_call 15; refine (impl_BarsOf _ _ hsm (HT.out.ext hb1)).mono ?_; rintro e w' ⟨rfl, rfl⟩; rw [HBV.out]) | (go_at_call 14; refine (spec_BarsOf _ _ hsm).mono ?_; rintro e w2 ⟨rfl, hb2⟩; rw [HBV.out]) | (go_at_call 31; refine (impl_CodeValid _ _ hsm).mono ?_; rintro e w' ⟨rfl, rfl⟩; rw [HV.out]))
      go_ret
      exact ⟨rfl, (by repeat (first | exact Below.refl _ _ | assumption | refine ext_alloc ?_ _ | refine Below.drew ?_ | refine below_drewN' ?_ _ | refine ext_set ?_ (by first | (simp; done) | (simp; omega) | omega) _ | refine ext_trans ?_ (by assumption)))⟩
    | true =>
      have hz := barsL_size s hv
      have hrd := read_code s hv
      have hrc := rec_code s hv
      obtain ⟨b, hb⟩ : ∃ b, bs (barsL s) = b := ⟨_, rfl⟩
      rw [hb] at hz hrd hrc
      have HBV := Lib.hid (show barsV s = .tuple #[.string b, .bool true] from by rw [← hb]; simp [barsV, hv])
      have HRD := Lib.hid (show optV (readO b) = .tuple #[.string s, .bool true] from by rw [hrd]; simp [optV, bs_of])
      have HRC := Lib.hid (show optV (recO b) = .tuple #[.string s, .bool true] from by rw [hrc]; simp [optV, bs_of])
      have HTT := Lib.hid (turn_turn b)
      have HV := Lib.hid hv
      have hz42 : ((b.size : Int) == 42) = true := by simp; omega
      have hzb : b.size ≤ 42 := by omega
      have hzt : (turnS b).size ≤ 42 := by rw [turnS_size']; exact hzb
      clear hv hb hz hrd hrc
      go_wp2_with fail
      refine (impl_BarsOf _ _ hsm (HT.out.ext hb1)).mono ?_
      rintro e w' ⟨rfl, rfl⟩
      rw [HBV.out]
      go_wp2_with fail
      refine (spec_BarsOf _ _ hsm).mono ?_
      rintro e w2 ⟨rfl, hb2⟩
      rw [HBV.out]
      go_wp2_with fail
      refine (impl_CodeValid _ _ hsm).mono ?_
      rintro e w' ⟨rfl, rfl⟩
      rw [HV.out]
      go_wp2_with fail
      refine (impl_ReadBars _ _ ((HT.out.ext hb1).ext hb2)).mono ?_
      rintro e w3 ⟨rfl, hb3⟩
      rw [HRD.out]
      go_wp2_with fail
      refine (impl_RecoverBars _ _ (((HT.out.ext hb1).ext hb2).ext hb3)).mono ?_
      rintro e w4 ⟨rfl, hb4⟩
      rw [HRC.out]
      go_wp2_with fail
      refine (impl_TurnBars _ _ (by omega)).mono ?_
      rintro e w5 ⟨rfl, hb5⟩
      go_wp2_with fail
      refine (impl_TurnBars _ _ (by omega)).mono ?_
      rintro e w6 ⟨rfl, hb6⟩
      rw [HTT.out]
      go_wp2_with fail
      go_ret
      exact ⟨rfl, (by repeat (first | exact Below.refl _ _ | assumption | refine ext_alloc ?_ _ | refine Below.drew ?_ | refine below_drewN' ?_ _ | refine ext_set ?_ (by first | (simp; done) | (simp; omega) | omega) _ | refine ext_trans ?_ (by assumption)))⟩
  · go_enter Tryd.func9, Tryd.ntmps9
    go_wp2_with fail
    go_ret
    exact ⟨rfl, (by repeat (first | exact Below.refl _ _ | assumption | refine ext_alloc ?_ _ | refine Below.drew ?_ | refine below_drewN' ?_ _ | refine ext_set ?_ (by first | (simp; done) | (simp; omega) | omega) _ | refine ext_trans ?_ (by assumption)))⟩

end Go.Proofs.YtcopkapcgabkmaaDoor
