/-
  WALKS: RecoverBars of the reference; ReadBars, ReadEither of the program and of the reference. By an AI agent.
-/
import Derived.Test.YtcopkapcgabkmaaDoorBars2
namespace Go.Proofs.YtcopkapcgabkmaaDoor
open Go.RowKit

theorem grp_eq2 (b : ByteArray) (k : Nat) : b.extract (1 + 5 * k) (6 + 5 * k) = grp b k := rfl

set_option maxHeartbeats 4000000 in
theorem spec_RecoverBars (b : ByteArray) (w : World) :
    Calls Tryd.prog 16 #[.string b] w fun e w' => e = .returned (optV (recO b)) ∧ Below w.heap.size w w' := by
  by_cases h42 : b.size = 42
  · have H42 := Lib.hid h42
    have n42 : ((b.size : Int) != 42) = false := by simp; omega
    have b42 : 42 ≤ b.size := by omega
    have b42' : b.size ≤ 42 := by omega
    clear h42
    go_enter Tryd.func16, Tryd.ntmps16
    go_wp2_with fail
    go_loopw [4, 5, 6, 7] (fun s u g d wr => ∃ (k : Nat) (uu : Int), k ≤ 8 ∧ s = .string (bs (digL b k)) ∧ u = .int .i64 uu ∧ g = .int .i64 k ∧ lostG b k = some uu ∧ Below w.heap.size w wr) (fun _ _ g _ _ => 8 - (intOf g).toNat)
    case atStart => exact ⟨0, -1, by omega, rfl, rfl, rfl, rfl, Below.refl _ _⟩
    case round =>
      obtain ⟨k, uu, hk, rfl, rfl, rfl, hl, hbel⟩ := hrel
      have hsp := lostG_spec b k uu hl
      have hu1 := hsp.1
      have hu2 := hsp.2.1
      have HSP := Lib.hid hsp
      have HL := Lib.hid hl
      clear hsp hl
      have hdz : (bs (digL b k)).size ≤ k := by rw [bs_size, digL_len]; omega
      have hdz2 : k ≤ (bs (digL b k)).size := by rw [bs_size, digL_len]; omega
      by_cases hlt : k < 8
      · have hgl := gd_lo b k
        obtain ⟨d, hd⟩ : ∃ d, gd b k = d := ⟨_, rfl⟩
        rw [hd] at hgl
        have HD := Lib.hid hd
        clear hd
        have HG := Lib.hid (show barsD (b.extract (1 + 5 * k) (6 + 5 * k)).data.toList = d from HD.out)
        have hs1 : (1 : Int) + 5 * (k : Int) ≤ 6 + 5 * (k : Int) := by omega
        have hs2 : (6 : Int) + 5 * (k : Int) ≤ (b.size : Int) := by omega
        have hno : ∀ c : UInt8, ¬ 9223372036854775807 < (bs (digL b k)).size + (bs [c]).size := fun c => by have : (bs [c]).size = 1 := rfl; omega
        by_cases hneg : d < 0
        · by_cases hu : 0 ≤ uu
          · have HN := Lib.hid (recO_lost b k uu hlt HL.out (by rw [HD.out]; exact hneg) hu)
            go_wp2_with (go_at_call 28; refine (spec_BarsDigit _ _).mono ?_; rintro e w1 ⟨rfl, hb1⟩; rw [HG.out])
            go_ret2
            exact ⟨ret_val (by rw [HN.out]; rfl), (by repeat (first | exact Below.refl _ _ | assumption | refine ext_alloc ?_ _ | refine Below.drew ?_ | refine below_drewN' ?_ _ | refine ext_set ?_ (by first | (simp; done) | (simp; omega) | omega) _ | refine ext_trans ?_ (by assumption)))⟩
          · have HLK := Lib.hid (show lostG b (k + 1) = some (k : Int) from by simp [lostG, HL.out, HD.out, hneg]; omega)
            have HDL := Lib.hid (show digL b (k + 1) = digL b k ++ [dgB 0] from by rw [digL_succ, HD.out, pos, if_pos hneg])
            go_wp2_with (first | (go_at_call 28; refine (spec_BarsDigit _ _).mono ?_; rintro e w1 ⟨rfl, hb1⟩; rw [HG.out]) | (go_at_call 39; refine (l9Dec_one _ _ (by omega) (by omega)).mono ?_; rintro e w2 ⟨rfl, hb2⟩))
            go_roundw
            case rel => exact ⟨k + 1, k, by omega, congrArg Value.string (by rw [bs_append, HDL.out]), rfl, by go_num, HLK.out, (by repeat (first | exact Below.refl _ _ | assumption | refine ext_alloc ?_ _ | refine Below.drew ?_ | refine below_drewN' ?_ _ | refine ext_set ?_ (by first | (simp; done) | (simp; omega) | omega) _ | refine ext_trans ?_ (by assumption)))⟩
            case measure => simp [intOf]; omega
        · have HLK := Lib.hid (show lostG b (k + 1) = some uu from by simp [lostG, HL.out, HD.out, hneg])
          have HDL := Lib.hid (show digL b (k + 1) = digL b k ++ [dgB d] from by rw [digL_succ, HD.out, pos, if_neg hneg])
          go_wp2_with (first | (go_at_call 28; refine (spec_BarsDigit _ _).mono ?_; rintro e w1 ⟨rfl, hb1⟩; rw [HG.out]) | (go_at_call 39; refine (l9Dec_one _ _ (by omega) (by omega)).mono ?_; rintro e w2 ⟨rfl, hb2⟩))
          go_roundw
          case rel => exact ⟨k + 1, uu, by omega, congrArg Value.string (by rw [bs_append, HDL.out]), rfl, by go_num, HLK.out, (by repeat (first | exact Below.refl _ _ | assumption | refine ext_alloc ?_ _ | refine Below.drew ?_ | refine below_drewN' ?_ _ | refine ext_set ?_ (by first | (simp; done) | (simp; omega) | omega) _ | refine ext_trans ?_ (by assumption)))⟩
          case measure => simp [intOf]; omega
      · obtain rfl : k = 8 := by omega
        by_cases hu : 0 ≤ uu
        · obtain ⟨n, rfl⟩ := Int.eq_ofNat_of_zero_le hu
          have hn8 : n < 8 := by omega
          have HRC := Lib.hid (show recO b = some (((digL b 8).set n (dgB (fillD b))).take 7) from by
            unfold recO; rw [if_pos H42.out, HL.out]; simp)
          have HCF := Lib.hid (chk_fill b)
          obtain ⟨f0, f9⟩ := fillD_range b
          obtain ⟨fd, hfd⟩ : ∃ fd, fillD b = fd := ⟨_, rfl⟩
          have HFD := Lib.hid hfd
          rw [hfd] at f0 f9
          obtain ⟨ds, hds⟩ : ∃ ds, bs (digL b 8) = ds := ⟨_, rfl⟩
          rw [hds] at hdz hdz2 ⊢
          have HVD := Lib.hid (fill_valid b n hn8 (by have := HSP.out.2.2.2 hu; simpa using this))
          have HSPL := Lib.hid (show ds.extract 0 n ++ bs [dgB fd] ++ ds.extract (n + 1) ds.size = bs ((digL b 8).set n (dgB (fillD b))) from by
            rw [HFD.out, ← set_splice _ _ _ (by rw [digL_len]; exact hn8), ← bs_append, ← bs_append, ← hds]
            congr 1
            · congr 1
              apply ByteArray.ext; simp [bs]
            · apply ByteArray.ext; rw [bs_size, digL_len]; simp [bs]; exact List.take_of_length_le (by simp [digL_len]))
          have hchk : chkD ds = fd := by rw [← hds, HCF.out, HFD.out]
          have HCK := Lib.hid hchk
          have hdm : ds.size ≤ maxLen := by unfold maxLen; omega
          have hn0 : (n : Int) ≤ (ds.size : Int) := by omega
          have hn1 : (n : Int) + 1 ≤ (ds.size : Int) := by omega
          have hnw : IntKind.i64.wrap ((n : Int) + 1) = (n : Int) + 1 := IntWalk.i64_in _ (by omega)
          have hnt : ((n : Int) + 1).toNat = n + 1 := by omega
          have hnp : 0 ≤ (n : Int) + 1 := by omega
          have hno1 : ∀ c : UInt8, ¬ 9223372036854775807 < min n ds.size + (bs [c]).size := fun c => by have : (bs [c]).size = 1 := rfl; omega
          have hno2 : ∀ c : UInt8, ¬ 9223372036854775807 < min n ds.size + (bs [c]).size + (ds.size - (n + 1)) := fun c => by have : (bs [c]).size = 1 := rfl; omega
          clear hchk hds hfd
          go_wp2_with fail
          go_region_held3 (fun _ => True) (trivial) (first | (go_at_call 37; refine (spec_CheckDigit _ _ hdm).mono ?_; rintro e w3 ⟨rfl, rfl⟩; rw [HCK.out]) | (go_at_call 39; refine (l9Dec_one _ _ f0 f9).mono ?_; rintro e w4 ⟨rfl, hb4⟩))
          all_goals
            clear hnw hno1 hno2
            rw [HSPL.out]
            obtain ⟨rs, hrs⟩ : ∃ rs, bs ((digL b 8).set n (dgB (fillD b))) = rs := ⟨_, rfl⟩
            have hr8 : rs.size = 8 := by rw [← hrs, bs_size, List.length_set, digL_len]
            have hr8a : (7 : Int) ≤ (rs.size : Int) := by omega
            have hrm : rs.size ≤ maxLen := by unfold maxLen; omega
            have HV2 := Lib.hid (show chkB rs = true from by rw [← hrs]; exact HVD.out)
            have HX := Lib.hid (show rs.extract 0 7 = bs (((digL b 8).set n (dgB (fillD b))).take 7) from by
              rw [← hrs]; apply ByteArray.ext; simp [bs])
            rw [hrs]
            clear hrs hr8
            go_wp2_with (go_at_call 40; refine (spec_CheckValid _ _ hrm).mono ?_; rintro e w5 ⟨rfl, rfl⟩; rw [HV2.out])
            go_ret2
            exact ⟨ret_val (by rw [HRC.out, HX.out]; rfl), (by repeat (first | exact Below.refl _ _ | assumption | refine ext_alloc ?_ _ | refine Below.drew ?_ | refine below_drewN' ?_ _ | refine ext_set ?_ (by first | (simp; done) | (simp; omega) | omega) _ | refine ext_trans ?_ (by assumption)))⟩
        · have HVA := Lib.hid (all_valid b)
          obtain ⟨ds, hds⟩ : ∃ ds, bs (digL b 8) = ds := ⟨_, rfl⟩
          rw [hds] at hdz hdz2 ⊢
          have hdm : ds.size ≤ maxLen := by unfold maxLen; omega
          have hd7 : (7 : Int) ≤ (ds.size : Int) := by omega
          have HX := Lib.hid (show ds.extract 0 7 = bs ((digL b 8).take 7) from by
            rw [← hds]; apply ByteArray.ext; simp [bs])
          by_cases h10 : sumG b 8 % 10 = 0
          · have HRC := Lib.hid (show recO b = some ((digL b 8).take 7) from by
              unfold recO; rw [if_pos H42.out, HL.out]; simp [hu, h10])
            have HV2 := Lib.hid (show chkB ds = true from by rw [← hds, HVA.out]; simpa using h10)
            clear h10 hds
            go_wp2_with (go_at_call 40; refine (spec_CheckValid _ _ hdm).mono ?_; rintro e w5 ⟨rfl, rfl⟩; rw [HV2.out])
            go_ret2
            exact ⟨ret_val (by rw [HRC.out, HX.out]; rfl), (by repeat (first | exact Below.refl _ _ | assumption | refine ext_alloc ?_ _ | refine Below.drew ?_ | refine below_drewN' ?_ _ | refine ext_set ?_ (by first | (simp; done) | (simp; omega) | omega) _ | refine ext_trans ?_ (by assumption)))⟩
          · have HRC := Lib.hid (show recO b = none from by
              unfold recO; rw [if_pos H42.out, HL.out]; simp [hu, h10])
            have HV2 := Lib.hid (show chkB ds = false from by rw [← hds, HVA.out]; simpa using h10)
            clear h10 hds
            go_wp2_with (go_at_call 40; refine (spec_CheckValid _ _ hdm).mono ?_; rintro e w5 ⟨rfl, rfl⟩; rw [HV2.out])
            go_ret2
            exact ⟨ret_val (by rw [HRC.out]; rfl), (by repeat (first | exact Below.refl _ _ | assumption | refine ext_alloc ?_ _ | refine Below.drew ?_ | refine below_drewN' ?_ _ | refine ext_set ?_ (by first | (simp; done) | (simp; omega) | omega) _ | refine ext_trans ?_ (by assumption)))⟩
  · have H := Lib.hid (show recO b = none from by unfold recO; rw [if_neg h42])
    have n42 : ((b.size : Int) != 42) = true := by simp; omega
    clear h42
    go_enter Tryd.func16, Tryd.ntmps16
    go_wp2_with fail
    go_ret2
    exact ⟨ret_val (by rw [H.out]; rfl), (by repeat (first | exact Below.refl _ _ | assumption | refine ext_alloc ?_ _ | refine Below.drew ?_ | refine below_drewN' ?_ _ | refine ext_set ?_ (by first | (simp; done) | (simp; omega) | omega) _ | refine ext_trans ?_ (by assumption)))⟩

end Go.Proofs.YtcopkapcgabkmaaDoor
