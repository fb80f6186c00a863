/-
  WALKS: BarsOf, groupDigit, RecoverBars of the program and of the reference. By an AI agent.
-/
import Derived.Test.YtcopkapcgabkmaaDoorBarsP
import Derived.Test.YtcopkapcgabkmaaDoorDigits
import Derived.Test.YtcopkapcgabkmaaDoorTurn
import Derived.Deep.RegionHeld3
namespace Go.Proofs.YtcopkapcgabkmaaDoor
open Go.RowKit

theorem spec_l1Bars_int (d : Int) (w : World) (h0 : 0 ≤ d) (h9 : d ≤ 9) :
    Calls Tryd.prog 36 #[.int .i64 d] w fun e w' => e = .returned (.string (digitBarS d)) ∧ Below w.heap.size w w' := by
  obtain ⟨n, rfl⟩ := Int.eq_ofNat_of_zero_le h0
  rw [digitBarS, if_pos ⟨h0, h9⟩]
  exact spec_l1Bars n w (by omega)
theorem size_digitBar (d : Int) (h0 : 0 ≤ d) (h9 : d ≤ 9) : (digitBarS d).size = 5 := by
  rw [digitBarS, if_pos ⟨h0, h9⟩]; show (bs (barL d.toNat)).size = 5; rw [bs_size, barL_len _ (by omega)]
theorem bars_end (s : ByteArray) (h : codeB s = true) : bs (124 :: s.data.toList.flatMap barC) ++ digitBarS (chkD s) ++ (⟨#[124]⟩ : ByteArray) = bs (barsL s) := by
  obtain ⟨c0, c9⟩ := chk_range s (code_digs s h)
  have e : digitBarS (chkD s) = bs (barL (chkD s).toNat) := by rw [digitBarS, if_pos ⟨c0, c9⟩]; rfl
  rw [e, show (⟨#[124]⟩ : ByteArray) = bs [124] from rfl, bs_append, bs_append]; rfl

set_option maxHeartbeats 2000000 in
theorem impl_BarsOf (s : ByteArray) (w : World) (hs : s.size ≤ maxLen) (hT : Tab w) :
    Calls Tryd.prog 15 #[.string s] w fun e w' => e = .returned (barsV s) ∧ w = w' := by
  have HT := Lib.hid hT
  clear hT
  cases hv : codeB s with
  | true =>
    have H := Lib.hid (show barsV s = .tuple #[.string (bs (barsL s)), .bool true] from by simp [barsV, hv])
    have HE := Lib.hid (bars_end s hv)
    have HV := Lib.hid hv
    obtain ⟨h7, hall⟩ := codeB_parts2 hv
    obtain ⟨c0, c9⟩ := chk_range s (code_digs s hv)
    have HA := Lib.hid hall
    have h7a : s.size ≤ 7 := by omega
    have h7b : 7 ≤ s.size := by omega
    have hcs := size_digitBar _ c0 c9
    have hcs5 : (digitBarS (chkD s)).size ≤ 5 := by omega
    clear hv h7 hall hcs
    go_enter Tryd.func15, Tryd.ntmps15
    go_wp2_with (go_at_call 31; refine (impl_CodeValid _ _ hs).mono ?_; rintro e w1 ⟨rfl, rfl⟩; rw [HV.out])
    go_loop [4, 5] (fun o i => ∃ k : Nat, k ≤ s.size ∧ i = .int .i64 k ∧ o = .string (bs (124 :: (s.data.toList.take k).flatMap barC))) (fun _ i => s.size - (intOf i).toNat)
    case atStart => exact ⟨0, by omega, rfl, rfl⟩
    case round =>
      obtain ⟨k, hk, rfl, rfl⟩ := hrel
      have hsz : (bs (124 :: (s.data.toList.take k).flatMap barC)).size ≤ 36 := by
        rw [bs_size, List.length_cons, flat_len _ (allDig_take _ _ HA.out)]
        have : (s.data.toList.take k).length ≤ k := List.length_take_le _ _
        omega
      by_cases hlt : k < s.size
      · have h48 := digB_at s HA.out k hlt
        have hdg : digB s[k] = true := by simp [digB]; omega
        have HB := Lib.hid (digitBar_c s[k] hdg)
        have HS := Lib.hid (flat_snoc s k hlt)
        have hb5 := size_digitBar ((s[k].toNat : Int) - 48) (by omega) (by omega)
        have hno : ¬ 9223372036854775807 < (bs (124 :: (s.data.toList.take k).flatMap barC)).size + (digitBarS ((s[k].toNat : Int) - 48)).size := by omega
        clear hb5 hdg
        go_wp2_with (go_at_call 23; refine (impl_DigitBars_any _ _ HT.out).mono ?_; rintro e w1 ⟨rfl, rfl⟩)
        go_round
        case rel => exact ⟨k + 1, by omega, by go_num, congrArg Value.string (by rw [HB.out, bs_append, HS.out])⟩
        case measure => simp [intOf]; omega
      · have HK := Lib.hid (show s.data.toList.take k = s.data.toList from List.take_of_length_le (by simp; omega))
        have hno1 : ¬ 9223372036854775807 < (bs (124 :: (s.data.toList.take k).flatMap barC)).size + (digitBarS (chkD s)).size := by omega
        have hno2 : ¬ 9223372036854775807 < (bs (124 :: (s.data.toList.take k).flatMap barC)).size + (digitBarS (chkD s)).size + 1 := by omega
        go_wp2_with (first | (go_at_call 38; refine (impl_CheckDigit _ _ hs).mono ?_; rintro e w1 ⟨rfl, rfl⟩) | (go_at_call 23; refine (impl_DigitBars_any _ _ HT.out).mono ?_; rintro e w1 ⟨rfl, rfl⟩))
        go_ret2
        exact ⟨ret_val (by rw [H.out, ← HE.out, HK.out]; rfl), rfl⟩
  | false =>
    have H := Lib.hid (show barsV s = .tuple #[.string ⟨#[]⟩, .bool false] from by simp [barsV, hv])
    have HV := Lib.hid hv
    clear hv
    go_enter Tryd.func15, Tryd.ntmps15
    go_wp2_with (go_at_call 31; refine (impl_CodeValid _ _ hs).mono ?_; rintro e w1 ⟨rfl, rfl⟩; rw [HV.out])
    go_ret2
    exact ⟨ret_val H.out.symm, rfl⟩

set_option maxHeartbeats 2000000 in
theorem spec_BarsOf (s : ByteArray) (w : World) (hs : s.size ≤ maxLen) :
    Calls Tryd.prog 14 #[.string s] w fun e w' => e = .returned (barsV s) ∧ Below w.heap.size w w' := by
  cases hv : codeB s with
  | true =>
    have H := Lib.hid (show barsV s = .tuple #[.string (bs (barsL s)), .bool true] from by simp [barsV, hv])
    have HE := Lib.hid (bars_end s hv)
    have HV := Lib.hid hv
    obtain ⟨h7, hall⟩ := codeB_parts2 hv
    obtain ⟨c0, c9⟩ := chk_range s (code_digs s hv)
    have HA := Lib.hid hall
    have h7a : s.size ≤ 7 := by omega
    have h7b : 7 ≤ s.size := by omega
    have hcs := size_digitBar _ c0 c9
    have hcs5 : (digitBarS (chkD s)).size ≤ 5 := by omega
    clear hv h7 hall hcs
    go_enter Tryd.func14, Tryd.ntmps14
    go_wp2_with (go_at_call 35; refine (spec_CodeValid _ _ hs).mono ?_; rintro e w1 ⟨rfl, rfl⟩; rw [HV.out])
    go_loopw [4, 5] (fun o i wr => ∃ k : Nat, k ≤ s.size ∧ i = .int .i64 k ∧ o = .string (bs (124 :: (s.data.toList.take k).flatMap barC)) ∧ Below w.heap.size w wr) (fun _ i _ => s.size - (intOf i).toNat)
    case atStart => exact ⟨0, by omega, rfl, rfl, Below.refl _ _⟩
    case round =>
      obtain ⟨k, hk, rfl, rfl, hbel⟩ := hrel
      have hsz : (bs (124 :: (s.data.toList.take k).flatMap barC)).size ≤ 36 := by
        rw [bs_size, List.length_cons, flat_len _ (allDig_take _ _ HA.out)]
        have : (s.data.toList.take k).length ≤ k := List.length_take_le _ _
        omega
      by_cases hlt : k < s.size
      · have h48 := digB_at s HA.out k hlt
        have hdg : digB s[k] = true := by simp [digB]; omega
        have HB := Lib.hid (digitBar_c s[k] hdg)
        have HS := Lib.hid (flat_snoc s k hlt)
        have hb5 := size_digitBar ((s[k].toNat : Int) - 48) (by omega) (by omega)
        have hno : ¬ 9223372036854775807 < (bs (124 :: (s.data.toList.take k).flatMap barC)).size + (digitBarS ((s[k].toNat : Int) - 48)).size := by omega
        clear hb5 hdg
        go_wp2_with (go_at_call 36; refine (spec_l1Bars_int _ _ (by omega) (by omega)).mono ?_; rintro e w1 ⟨rfl, hb1⟩)
        go_roundw
        case rel => exact ⟨k + 1, by omega, by go_num, congrArg Value.string (by rw [HB.out, bs_append, HS.out]), (by repeat (first | exact Below.refl _ _ | assumption | refine ext_alloc ?_ _ | refine Below.drew ?_ | refine below_drewN' ?_ _ | refine ext_set ?_ (by first | (simp; done) | (simp; omega) | omega) _ | refine ext_trans ?_ (by assumption)))⟩
        case measure => simp [intOf]; omega
      · have HK := Lib.hid (show s.data.toList.take k = s.data.toList from List.take_of_length_le (by simp; omega))
        have hno1 : ¬ 9223372036854775807 < (bs (124 :: (s.data.toList.take k).flatMap barC)).size + (digitBarS (chkD s)).size := by omega
        have hno2 : ¬ 9223372036854775807 < (bs (124 :: (s.data.toList.take k).flatMap barC)).size + (digitBarS (chkD s)).size + 1 := by omega
        go_wp2_with (first | (go_at_call 37; refine (spec_CheckDigit _ _ hs).mono ?_; rintro e w1 ⟨rfl, rfl⟩) | (go_at_call 36; refine (spec_l1Bars_int _ _ c0 c9).mono ?_; rintro e w1 ⟨rfl, hb1⟩))
        go_ret2
        exact ⟨ret_val (by rw [H.out, ← HE.out, HK.out]; rfl), (by repeat (first | exact Below.refl _ _ | assumption | refine ext_alloc ?_ _ | refine Below.drew ?_ | refine below_drewN' ?_ _ | refine ext_set ?_ (by first | (simp; done) | (simp; omega) | omega) _ | refine ext_trans ?_ (by assumption)))⟩
  | false =>
    have H := Lib.hid (show barsV s = .tuple #[.string ⟨#[]⟩, .bool false] from by simp [barsV, hv])
    have HV := Lib.hid hv
    clear hv
    go_enter Tryd.func14, Tryd.ntmps14
    go_wp2_with (go_at_call 35; refine (spec_CodeValid _ _ hs).mono ?_; rintro e w1 ⟨rfl, rfl⟩; rw [HV.out])
    go_ret2
    exact ⟨ret_val H.out.symm, (by repeat (first | exact Below.refl _ _ | assumption | refine ext_alloc ?_ _ | refine Below.drew ?_ | refine below_drewN' ?_ _ | refine ext_set ?_ (by first | (simp; done) | (simp; omega) | omega) _ | refine ext_trans ?_ (by assumption)))⟩

theorem gd_list (b : ByteArray) (k : Nat) : barsD (List.take 5 (List.drop (1 + k * 5) b.data.toList)) = gd b k := by
  unfold gd grp; rw [Lib.extract_data, show 6 + 5 * k - (1 + 5 * k) = 5 by omega, show 1 + k * 5 = 1 + 5 * k by omega]

set_option maxHeartbeats 1000000 in
theorem impl_groupDigit (b : ByteArray) (k : Nat) (w : World) (h42 : b.size = 42) (hk : k < 8) (hT : Tab w) :
    Calls Tryd.prog 41 #[.string b, .int .i64 k] w fun e w' => e = .returned (.int .i64 (gd b k)) ∧ w = w' := by
  have HT := Lib.hid hT
  have h1 : (1 : Int) + (k : Int) * 5 + 5 ≤ (b.size : Int) := by omega
  have h2 : b.size ≤ 42 := by omega
  have HG := Lib.hid (gd_list b k)
  clear hT h42
  go_enter Tryd.func41, Tryd.ntmps41
  go_wp2_with (go_at_call 25; refine (impl_BarsDigit _ _ HT.out).mono ?_; rintro e w1 ⟨rfl, rfl⟩)
  go_ret
  exact ⟨ret_int HG.out, rfl⟩

theorem recO_lost (b : ByteArray) (k : Nat) (u : Int) (hk : k < 8) (hl : lostG b k = some u) (hn : gd b k < 0) (hu : 0 ≤ u) : recO b = none := by
  have h1 : lostG b (k + 1) = none := by simp [lostG, hl, hn, hu]
  have h2 := lostG_none b (k + 1) 8 h1 (by omega)
  unfold recO; rw [h2]; split <;> rfl
theorem fin_fill (b : ByteArray) (u : Int) (hl : lostG b 8 = some u) (_ : 0 ≤ u) (arr : Array Value) (hsz : arr.size = 8)
    (hf : ∀ i, i < 8 → 0 ≤ gd b i → arr[i]? = some (byteV (dgB (gd b i)))) :
    ∀ j (hj : j < (((digL b 8).set u.toNat (dgB (fillD b))).take 7).length), (arr.setIfInBounds u.toNat (byteV (dgB (fillD b))))[j]? = some (byteV ((((digL b 8).set u.toNat (dgB (fillD b))).take 7)[j])) := by
  intro j hj
  obtain ⟨h1, h2, h3, h4⟩ := lostG_spec b 8 u hl
  have hj7 : j < 7 := by simp [digL_len] at hj; omega
  rw [List.getElem_take, Array.getElem?_setIfInBounds]
  by_cases e : u.toNat = j
  · subst e
    rw [if_pos rfl, if_pos (by omega), List.getElem_set_self]
  · have hg := h3 j (by omega) (by omega)
    rw [if_neg e, hf j (by omega) hg, List.getElem_set_ne e]
    simp [digL, pos, show ¬ gd b j < 0 by omega]
theorem fin_all (b : ByteArray) (u : Int) (hl : lostG b 8 = some u) (hu : ¬ 0 ≤ u) (arr : Array Value)
    (hf : ∀ i, i < 8 → 0 ≤ gd b i → arr[i]? = some (byteV (dgB (gd b i)))) :
    ∀ j (hj : j < ((digL b 8).take 7).length), arr[j]? = some (byteV (((digL b 8).take 7)[j])) := by
  intro j hj
  obtain ⟨h1, h2, h3, h4⟩ := lostG_spec b 8 u hl
  have hj7 : j < 7 := by simp [digL_len] at hj; omega
  have hg := h3 j (by omega) (by omega)
  rw [hf j (by omega) hg, List.getElem_take]
  simp [digL, pos, show ¬ gd b j < 0 by omega]

set_option maxHeartbeats 4000000 in
theorem impl_RecoverBars (b : ByteArray) (w : World) (hT : Tab w) :
    Calls Tryd.prog 17 #[.string b] w fun e w' => e = .returned (optV (recO b)) ∧ Below w.heap.size w w' := by
  have HT := Lib.hid hT
  clear hT
  have hmk : ∀ w : World, (Instr.makeSlice 27 (.int .i64 8) (.int .i64 8)).run Tryd.prog w = .ok (.slice (some ⟨w.heap.size, 0, none⟩) 8 8) (w.alloc (.cells #[.int .u8 0, .int .u8 0, .int .u8 0, .int .u8 0, .int .u8 0, .int .u8 0, .int .u8 0, .int .u8 0] 5)) := fun _ => by kernel_rfl
  by_cases h42 : b.size = 42
  · have H42 := Lib.hid h42
    have n42 : ((b.size : Int) != 42) = false := by simp; omega
    clear h42
    go_enter Tryd.func17, Tryd.ntmps17
    go_wp2_with fail
    clear hmk
    go_loopw [5, 6, 7, 8] (fun s u g d wr => ∃ (k : Nat) (arr : Array Value) (uu : Int), k ≤ 8 ∧ s = .int .i64 (sumG b k) ∧ u = .int .i64 uu ∧ g = .int .i64 k ∧ lostG b k = some uu ∧ Row wr w.heap.size 5 arr ∧ arr.size = 8 ∧ (∀ i, i < k → 0 ≤ gd b i → arr[i]? = some (byteV (dgB (gd b i)))) ∧ Below w.heap.size w wr) (fun _ _ g _ _ => 8 - (intOf g).toNat)
    case atStart => exact ⟨0, _, -1, by omega, rfl, rfl, rfl, rfl, Row.made _ _ _, rfl, fun i hi => by omega, below_box _ _⟩
    case round =>
      obtain ⟨k, arr, uu, hk, rfl, rfl, rfl, hl, hrow, hsz, hf, hbel⟩ := hrel
      have hsp := lostG_spec b k uu hl
      have hu1 := hsp.1
      have hu2 := hsp.2.1
      have hsr := sumG_range b k
      clear hsp
      have HL := Lib.hid hl
      have HR := Lib.hid hrow
      have HZ := Lib.hid hsz
      have HF := Lib.hid hf
      clear hl hrow hsz hf
      by_cases hlt : k < 8
      · have hgl := gd_lo b k
        obtain ⟨d, hd⟩ : ∃ d, gd b k = d := ⟨_, rfl⟩
        rw [hd] at hgl
        have HD := Lib.hid hd
        clear hd
        by_cases hneg : d < 0
        · by_cases hu : 0 ≤ uu
          · have HN := Lib.hid (recO_lost b k uu hlt HL.out (by rw [HD.out]; exact hneg) hu)
            go_wp2_with (go_at_call 41; refine (impl_groupDigit _ _ _ H42.out hlt (HT.out.ext hbel)).mono ?_; rintro e w1 ⟨rfl, rfl⟩; rw [HD.out])
            go_ret2
            exact ⟨ret_val (by rw [HN.out]; rfl), hbel⟩
          · have hsk : sumG b (k + 1) = sumG b k := by simp only [sumG, pos, HD.out, hneg, if_true]; omega
            have HS := Lib.hid hsk
            have HLK := Lib.hid (show lostG b (k + 1) = some (k : Int) from by simp [lostG, HL.out, HD.out, hneg]; omega)
            clear hsk
            go_wp2_with (go_at_call 41; refine (impl_groupDigit _ _ _ H42.out hlt (HT.out.ext hbel)).mono ?_; rintro e w1 ⟨rfl, rfl⟩; rw [HD.out])
            go_roundw
            case rel => exact ⟨k + 1, arr, k, by omega, by rw [HS.out], rfl, by go_num, HLK.out, HR.out, HZ.out, fun i hi h0 => HF.out i (by by_cases e : i = k; (subst e; rw [HD.out] at h0; omega); omega) h0, hbel⟩
            case measure => simp [intOf]; omega
        · have hsk : sumG b (k + 1) = sumG b k + d := by simp only [sumG, pos, HD.out, hneg, if_false]
          have HS := Lib.hid hsk
          have HLK := Lib.hid (show lostG b (k + 1) = some uu from by simp [lostG, HL.out, HD.out, hneg])
          have hcell : wr.cell? ⟨w.heap.size, k, none⟩ = some (arr.getD k undef) := by
            rw [HR.out.cell]; simp [HZ.out, hlt]
          have hfz := HR.out.frozen k
          have HBV := Lib.hid (byteV_dgB d (by omega) hgl.2)
          clear hsk
          go_wp2_with (go_at_call 41; refine (impl_groupDigit _ _ _ H42.out hlt (HT.out.ext hbel)).mono ?_; rintro e w1 ⟨rfl, rfl⟩; rw [HD.out])
          go_roundw
          case rel =>
            refine ⟨k + 1, _, uu, by omega, by rw [HS.out], rfl, by go_num, HLK.out, HR.out.put k _, by rw [Array.size_setIfInBounds]; exact HZ.out, fun i hi h0 => ?_, hbel.setCell (Nat.le_refl _) _⟩
            rw [Array.getElem?_setIfInBounds]
            by_cases e : k = i
            · subst e
              rw [if_pos rfl, if_pos (by rw [HZ.out]; exact hlt), HD.out, HBV.out]
            · rw [if_neg e]
              exact HF.out i (by omega) h0
          case measure => simp [intOf]; omega
      · obtain rfl : k = 8 := by omega
        obtain ⟨s8, hs8⟩ : ∃ s8, sumG b 8 = s8 := ⟨_, rfl⟩
        rw [hs8] at hsr ⊢
        have HS8 := Lib.hid hs8
        clear hs8
        by_cases hu : 0 ≤ uu
        · obtain ⟨n, rfl⟩ := Int.eq_ofNat_of_zero_le hu
          have hn8 : n < 8 := by omega
          have hcell : wr.cell? ⟨w.heap.size, n, none⟩ = some (arr.getD n undef) := by
            rw [HR.out.cell]; simp [HZ.out, hn8]
          have hfz := HR.out.frozen n
          have hfill : fillD b = -(s8 % 10) % 10 := by unfold fillD; rw [HS8.out]; omega
          have hbv : byteV (dgB (fillD b)) = .int .u8 (48 + -(s8 % 10) % 10) := by rw [byteV_dgB _ (fillD_range b).1 (fillD_range b).2, hfill]
          have hcv := bytes_string (wr.setCell ⟨w.heap.size, n, none⟩ (byteV (dgB (fillD b)))) ⟨w.heap.size, 0, none⟩ 7 8 (((digL b 8).set n (dgB (fillD b))).take 7) (by simp [digL_len]) (fun j hj => by
            rw [show (Addr.add ⟨w.heap.size, 0, none⟩ j : Addr) = ⟨w.heap.size, j, none⟩ by unfold Addr.add; split <;> simp_all, (HR.out.put n _).cell]
            exact fin_fill b n HL.out hu arr HZ.out HF.out j hj)
          rw [hbv] at hcv
          have HRC := Lib.hid (show recO b = some (((digL b 8).set n (dgB (fillD b))).take 7) from by
            unfold recO; rw [if_pos H42.out, HL.out]; simp)
          have hi8 : (n : Int) < 8 := by omega
          clear hfill hbv
          go_wp2_with fail
          go_ret2
          exact ⟨ret_val (by rw [HRC.out]; rfl), hbel.setCell (Nat.le_refl _) _⟩
        · by_cases h10 : s8 % 10 = 0
          · have hcv := bytes_string wr ⟨w.heap.size, 0, none⟩ 7 8 ((digL b 8).take 7) (by simp [digL_len]) (fun j hj => by
              rw [show (Addr.add ⟨w.heap.size, 0, none⟩ j : Addr) = ⟨w.heap.size, j, none⟩ by unfold Addr.add; split <;> simp_all, HR.out.cell]
              exact fin_all b uu HL.out hu arr HF.out j hj)
            have HRC := Lib.hid (show recO b = some ((digL b 8).take 7) from by
              unfold recO; rw [if_pos H42.out, HL.out]; simp [hu, HS8.out, h10])
            have hne : ((s8 % 10) != 0) = false := by simp [h10]
            clear h10
            go_wp2_with fail
            go_ret2
            exact ⟨ret_val (by rw [HRC.out]; rfl), hbel⟩
          · have HRC := Lib.hid (show recO b = none from by
              unfold recO; rw [if_pos H42.out, HL.out]; simp [hu, HS8.out, h10])
            have hne : ((s8 % 10) != 0) = true := by simp [h10]
            clear h10
            go_wp2_with fail
            go_ret2
            exact ⟨ret_val (by rw [HRC.out]; rfl), hbel⟩
  · have H := Lib.hid (show recO b = none from by unfold recO; rw [if_neg h42])
    have n42 : ((b.size : Int) != 42) = true := by simp; omega
    clear h42 hmk
    go_enter Tryd.func17, Tryd.ntmps17
    go_wp2_with fail
    go_ret2
    exact ⟨ret_val (by rw [H.out]; rfl), (by repeat (first | exact Below.refl _ _ | assumption | refine ext_alloc ?_ _ | refine Below.drew ?_ | refine below_drewN' ?_ _ | refine ext_set ?_ (by first | (simp; done) | (simp; omega) | omega) _ | refine ext_trans ?_ (by assumption)))⟩

end Go.Proofs.YtcopkapcgabkmaaDoor
