/-
  WALKS: the laws FnReadBars, FnReadEither. By an AI agent.
-/
import Derived.Test.YtcopkapcgabkmaaDoorLawB
import Derived.Deep.QuietTactic
import Derived.BigQuiet
namespace Go.Proofs.YtcopkapcgabkmaaDoor
open Go.RowKit

set_option maxHeartbeats 4000000 in
theorem law_FnReadBars (a : Option Addr) (len cap : Nat) (w : World) (h : BytesIn w a len cap) (hT : Tab w) :
    Calls Tryd.prog 10 #[.slice a len cap] w fun e w' => e = .returned (.bool true) ∧ Below w.heap.size w w' := by
  have HC := Lib.hid h
  have HT := Lib.hid hT
  have hlen : len ≤ 9223372036854775807 := by have := h.1; have := h.2.1; unfold maxLen at this; omega
  clear h hT
  by_cases hbig : len ≤ 1048576
  · go_enter Tryd.func10, Tryd.ntmps10
    go_wp2_with fail
    refine (DrawReadBars_any _ _ _ _ HC.out).mono ?_
    rintro e w1 ⟨_, rfl, ⟨b, rfl, hs⟩, hb1⟩
    cases hr : readO b with
    | none =>
      have HR := Lib.hid (show optV (readO b) = .tuple #[.string ⟨#[]⟩, .bool false] from by rw [hr]; rfl)
      clear hr
      go_wp2_with fail
      refine (impl_ReadBars _ _ (HT.out.ext hb1)).mono ?_
      rintro e w2 ⟨rfl, hb2⟩
      rw [HR.out]
      go_wp2_with fail
      refine (spec_ReadBars _ _).mono ?_
      rintro e w3 ⟨rfl, hb3⟩
      rw [HR.out]
      go_wp2_with fail
      go_ret
      exact ⟨rfl, (by repeat (first | exact Below.refl _ _ | assumption | refine ext_alloc ?_ _ | refine Below.drew ?_ | refine below_drewN' ?_ _ | refine ext_set ?_ (by first | (simp; done) | (simp; omega) | omega) _ | refine ext_trans ?_ (by assumption)))⟩
    | some l =>
      have hbk := read_back b l hr
      obtain ⟨c, hc⟩ : ∃ c, bs l = c := ⟨_, rfl⟩
      have HR := Lib.hid (show optV (readO b) = .tuple #[.string c, .bool true] from by rw [hr, ← hc]; rfl)
      have HRL := Lib.hid hr
      rw [hc] at hbk
      have HV := Lib.hid hbk.1
      have HBV := Lib.hid (show barsV c = .tuple #[.string b, .bool true] from by simp [barsV, hbk.1, hbk.2.1])
      have hcm : c.size ≤ maxLen := by have := (codeB_parts2 hbk.1).1; unfold maxLen; omega
      clear hr hbk hc
      go_wp2_with fail
      refine (impl_ReadBars _ _ (HT.out.ext hb1)).mono ?_
      rintro e w2 ⟨rfl, hb2⟩
      rw [HR.out]
      go_wp2_with fail
      refine (spec_ReadBars _ _).mono ?_
      rintro e w3 ⟨rfl, hb3⟩
      rw [HR.out]
      have HT3 := Lib.hid (((HT.out.ext hb1).ext hb2).ext hb3)
      go_wp2_with fail
      refine (impl_BarsOf _ _ hcm HT3.out).mono ?_
      rintro e w4 ⟨rfl, rfl⟩
      rw [HBV.out]
      go_wp2_with fail
      go_loopw [10, 11, 12, 13] (fun iv xv cv bv wr => ∃ k : Nat, k ≤ b.size ∧ iv = .int .i64 k ∧ Below w.heap.size w wr) (fun iv _ _ _ _ => b.size - (intOf iv).toNat)
      case atStart => exact ⟨0, by omega, rfl, (by repeat (first | exact Below.refl _ _ | assumption | refine ext_alloc ?_ _ | refine Below.drew ?_ | refine below_drewN' ?_ _ | refine ext_set ?_ (by first | (simp; done) | (simp; omega) | omega) _ | refine ext_trans ?_ (by assumption)))⟩
      case round =>
        obtain ⟨k, hk, rfl, hbr⟩ := hrel
        by_cases hks : k < b.size
        · have hki : (k : Int) < (b.size : Int) := by omega
          have hki0 : (0 : Int) ≤ (k : Int) := by omega
          have HN := Lib.hid (show optV (readO (putS b k (flipC b[k]))) = .tuple #[.string ⟨#[]⟩, .bool false] from by rw [read_flip b l HRL.out k hks]; rfl)
          by_cases hch : b[k] = 124
          · have hq : ((b[k].toNat : Int) == 124) = true := u8_eq_true _ 124 hch
            have HF2 := Lib.hid (show flipC b[k] = 46 from by rw [flipC, if_pos hch])
            have HX := Lib.hid (show optV (readO (putS b k 46)) = .tuple #[.string ⟨#[]⟩, .bool false] from by rw [← HF2.out]; exact HN.out)
            clear hch
            go_wp2_with fail
            refine (soPut_nv b k _ 46 _ hks rfl).mono ?_
            rintro e w5 ⟨rfl, hb5⟩
            go_wp2_with fail
            refine (impl_ReadBars _ _ ((HT.out.ext hbr).ext hb5)).mono ?_
            rintro e w6 ⟨rfl, hb6⟩
            rw [HX.out]
            go_wp2_with fail
            go_roundw
            case rel => exact ⟨k + 1, by omega, by go_num, (by repeat (first | exact Below.refl _ _ | assumption | refine ext_alloc ?_ _ | refine Below.drew ?_ | refine below_drewN' ?_ _ | refine ext_set ?_ (by first | (simp; done) | (simp; omega) | omega) _ | refine ext_trans ?_ (by assumption)))⟩
            case measure => simp [intOf]; omega
          · have hq : ((b[k].toNat : Int) == 124) = false := u8_eq_false _ 124 hch
            have HF2 := Lib.hid (show flipC b[k] = 124 from by rw [flipC, if_neg hch])
            have HX := Lib.hid (show optV (readO (putS b k 124)) = .tuple #[.string ⟨#[]⟩, .bool false] from by rw [← HF2.out]; exact HN.out)
            clear hch
            go_wp2_with fail
            refine (soPut_nv b k _ 124 _ hks rfl).mono ?_
            rintro e w5 ⟨rfl, hb5⟩
            go_wp2_with fail
            refine (impl_ReadBars _ _ ((HT.out.ext hbr).ext hb5)).mono ?_
            rintro e w6 ⟨rfl, hb6⟩
            rw [HX.out]
            go_wp2_with fail
            go_roundw
            case rel => exact ⟨k + 1, by omega, by go_num, (by repeat (first | exact Below.refl _ _ | assumption | refine ext_alloc ?_ _ | refine Below.drew ?_ | refine below_drewN' ?_ _ | refine ext_set ?_ (by first | (simp; done) | (simp; omega) | omega) _ | refine ext_trans ?_ (by assumption)))⟩
            case measure => simp [intOf]; omega
        · go_wp2_with (go_at_call 31; refine (impl_CodeValid _ _ hcm).mono ?_; rintro e w' ⟨rfl, rfl⟩; rw [HV.out])
          go_ret
          exact ⟨rfl, (by repeat (first | exact Below.refl _ _ | assumption | refine ext_alloc ?_ _ | refine Below.drew ?_ | refine below_drewN' ?_ _ | refine ext_set ?_ (by first | (simp; done) | (simp; omega) | omega) _ | refine ext_trans ?_ (by assumption)))⟩
  · go_enter Tryd.func10, Tryd.ntmps10
    go_wp2_with fail
    go_ret
    exact ⟨rfl, (by repeat (first | exact Below.refl _ _ | assumption | refine ext_alloc ?_ _ | refine Below.drew ?_ | refine below_drewN' ?_ _ | refine ext_set ?_ (by first | (simp; done) | (simp; omega) | omega) _ | refine ext_trans ?_ (by assumption)))⟩

set_option maxHeartbeats 4000000 in
theorem law_FnReadEither (a : Option Addr) (len cap : Nat) (w : World) (h : BytesIn w a len cap) (hT : Tab w) :
    Calls Tryd.prog 11 #[.slice a len cap] w fun e w' => e = .returned (.bool true) ∧ Below w.heap.size w w' := by
  have HC := Lib.hid h
  have HT := Lib.hid hT
  have hlen : len ≤ 9223372036854775807 := by have := h.1; have := h.2.1; unfold maxLen at this; omega
  clear h hT
  by_cases hbig : len ≤ 1048576
  · go_enter Tryd.func11, Tryd.ntmps11
    go_wp2_with fail
    refine (DrawReadEither_any _ _ _ _ HC.out).mono ?_
    rintro e w1 ⟨_, rfl, ⟨b, rfl, hs⟩, hb1⟩
    have hs1 : b.size ≤ 1048576 := by omega
    have hs2 : (turnS b).size ≤ 1048576 := by rw [turnS_size']; exact hs1
    have htt := turn_turn b
    cases h1 : readO b with
    | none =>
      have H1 := Lib.hid (show optV (readO b) = .tuple #[.string ⟨#[]⟩, .bool false] from by rw [h1]; rfl)
      cases h2 : readO (turnS b) with
      | none =>
        have H2 := Lib.hid (show optV (readO (turnS b)) = .tuple #[.string ⟨#[]⟩, .bool false] from by rw [h2]; rfl)
        have E1 := Lib.hid (show eitherV b = .tuple #[.string ⟨#[]⟩, .bool false, .bool false] from by unfold eitherV; rw [h1, h2])
        have E2 := Lib.hid (show eitherV (turnS b) = .tuple #[.string ⟨#[]⟩, .bool false, .bool false] from by unfold eitherV; rw [htt, h1, h2])
        clear h1 h2 htt
        go_wp2_with fail
        refine (impl_ReadEither _ _ hs1 (HT.out.ext hb1)).mono ?_
        rintro e w2 ⟨rfl, hb2⟩
        rw [E1.out]
        have HT2 := Lib.hid ((HT.out.ext hb1).ext hb2)
        go_wp2_with fail
        refine (spec_ReadEither _ _ hs1).mono ?_
        rintro e w3 ⟨rfl, hb3⟩
        rw [E1.out]
        replace HT2 := Lib.hid (HT2.out.ext hb3)
        go_wp2_with fail
        refine (impl_TurnBars _ _ hs1).mono ?_
        rintro e w4 ⟨rfl, hb4⟩
        replace HT2 := Lib.hid (HT2.out.ext hb4)
        go_wp2_with fail
        refine (impl_ReadEither _ _ hs2 HT2.out).mono ?_
        rintro e w5 ⟨rfl, hb5⟩
        rw [E2.out]
        replace HT2 := Lib.hid (HT2.out.ext hb5)
        go_wp2_with fail
        refine (impl_ReadBars _ _ HT2.out).mono ?_
        rintro e w6 ⟨rfl, hb6⟩
        rw [H1.out]
        replace HT2 := Lib.hid (HT2.out.ext hb6)
        go_wp2_with fail
        refine (impl_TurnBars _ _ hs1).mono ?_
        rintro e w7 ⟨rfl, hb7⟩
        replace HT2 := Lib.hid (HT2.out.ext hb7)
        go_wp2_with fail
        refine (impl_ReadBars _ _ HT2.out).mono ?_
        rintro e w8 ⟨rfl, hb8⟩
        rw [H2.out]
        go_wp2_with fail
        go_ret
        exact ⟨by simp, (by repeat (first | exact Below.refl _ _ | assumption | refine ext_alloc ?_ _ | refine Below.drew ?_ | refine below_drewN' ?_ _ | refine ext_set ?_ (by first | (simp; done) | (simp; omega) | omega) _ | refine ext_trans ?_ (by assumption)))⟩
      | some d =>
        have H2 := Lib.hid (show optV (readO (turnS b)) = .tuple #[.string (bs d), .bool true] from by rw [h2]; rfl)
        have E1 := Lib.hid (show eitherV b = .tuple #[.string (bs d), .bool true, .bool true] from by unfold eitherV; rw [h1, h2])
        have E2 := Lib.hid (show eitherV (turnS b) = .tuple #[.string (bs d), .bool false, .bool true] from by unfold eitherV; rw [htt, h1, h2])
        clear h1 h2 htt
        go_wp2_with fail
        refine (impl_ReadEither _ _ hs1 (HT.out.ext hb1)).mono ?_
        rintro e w2 ⟨rfl, hb2⟩
        rw [E1.out]
        have HT2 := Lib.hid ((HT.out.ext hb1).ext hb2)
        go_wp2_with fail
        refine (spec_ReadEither _ _ hs1).mono ?_
        rintro e w3 ⟨rfl, hb3⟩
        rw [E1.out]
        replace HT2 := Lib.hid (HT2.out.ext hb3)
        go_wp2_with fail
        refine (impl_TurnBars _ _ hs1).mono ?_
        rintro e w4 ⟨rfl, hb4⟩
        replace HT2 := Lib.hid (HT2.out.ext hb4)
        go_wp2_with fail
        refine (impl_ReadEither _ _ hs2 HT2.out).mono ?_
        rintro e w5 ⟨rfl, hb5⟩
        rw [E2.out]
        replace HT2 := Lib.hid (HT2.out.ext hb5)
        go_wp2_with fail
        refine (impl_ReadBars _ _ HT2.out).mono ?_
        rintro e w6 ⟨rfl, hb6⟩
        rw [H1.out]
        replace HT2 := Lib.hid (HT2.out.ext hb6)
        go_wp2_with fail
        refine (impl_TurnBars _ _ hs1).mono ?_
        rintro e w7 ⟨rfl, hb7⟩
        replace HT2 := Lib.hid (HT2.out.ext hb7)
        go_wp2_with fail
        refine (impl_ReadBars _ _ HT2.out).mono ?_
        rintro e w8 ⟨rfl, hb8⟩
        rw [H2.out]
        go_wp2_with fail
        go_ret
        exact ⟨by simp, (by repeat (first | exact Below.refl _ _ | assumption | refine ext_alloc ?_ _ | refine Below.drew ?_ | refine below_drewN' ?_ _ | refine ext_set ?_ (by first | (simp; done) | (simp; omega) | omega) _ | refine ext_trans ?_ (by assumption)))⟩
    | some c =>
      have H1 := Lib.hid (show optV (readO b) = .tuple #[.string (bs c), .bool true] from by rw [h1]; rfl)
      cases h2 : readO (turnS b) with
      | none =>
        have H2 := Lib.hid (show optV (readO (turnS b)) = .tuple #[.string ⟨#[]⟩, .bool false] from by rw [h2]; rfl)
        have E1 := Lib.hid (show eitherV b = .tuple #[.string (bs c), .bool false, .bool true] from by unfold eitherV; rw [h1, h2])
        have E2 := Lib.hid (show eitherV (turnS b) = .tuple #[.string (bs c), .bool true, .bool true] from by unfold eitherV; rw [htt, h1, h2])
        clear h1 h2 htt
        go_wp2_with fail
        refine (impl_ReadEither _ _ hs1 (HT.out.ext hb1)).mono ?_
        rintro e w2 ⟨rfl, hb2⟩
        rw [E1.out]
        have HT2 := Lib.hid ((HT.out.ext hb1).ext hb2)
        go_wp2_with fail
        refine (spec_ReadEither _ _ hs1).mono ?_
        rintro e w3 ⟨rfl, hb3⟩
        rw [E1.out]
        replace HT2 := Lib.hid (HT2.out.ext hb3)
        go_wp2_with fail
        refine (impl_TurnBars _ _ hs1).mono ?_
        rintro e w4 ⟨rfl, hb4⟩
        replace HT2 := Lib.hid (HT2.out.ext hb4)
        go_wp2_with fail
        refine (impl_ReadEither _ _ hs2 HT2.out).mono ?_
        rintro e w5 ⟨rfl, hb5⟩
        rw [E2.out]
        replace HT2 := Lib.hid (HT2.out.ext hb5)
        go_wp2_with fail
        refine (impl_ReadBars _ _ HT2.out).mono ?_
        rintro e w6 ⟨rfl, hb6⟩
        rw [H1.out]
        replace HT2 := Lib.hid (HT2.out.ext hb6)
        go_wp2_with fail
        refine (impl_TurnBars _ _ hs1).mono ?_
        rintro e w7 ⟨rfl, hb7⟩
        replace HT2 := Lib.hid (HT2.out.ext hb7)
        go_wp2_with fail
        refine (impl_ReadBars _ _ HT2.out).mono ?_
        rintro e w8 ⟨rfl, hb8⟩
        rw [H2.out]
        go_wp2_with fail
        go_ret
        exact ⟨by simp, (by repeat (first | exact Below.refl _ _ | assumption | refine ext_alloc ?_ _ | refine Below.drew ?_ | refine below_drewN' ?_ _ | refine ext_set ?_ (by first | (simp; done) | (simp; omega) | omega) _ | refine ext_trans ?_ (by assumption)))⟩
      | some d =>
        have H2 := Lib.hid (show optV (readO (turnS b)) = .tuple #[.string (bs d), .bool true] from by rw [h2]; rfl)
        have E1 := Lib.hid (show eitherV b = .tuple #[.string ⟨#[]⟩, .bool false, .bool false] from by unfold eitherV; rw [h1, h2])
        have E2 := Lib.hid (show eitherV (turnS b) = .tuple #[.string ⟨#[]⟩, .bool false, .bool false] from by unfold eitherV; rw [htt, h1, h2])
        clear h1 h2 htt
        go_wp2_with fail
        refine (impl_ReadEither _ _ hs1 (HT.out.ext hb1)).mono ?_
        rintro e w2 ⟨rfl, hb2⟩
        rw [E1.out]
        have HT2 := Lib.hid ((HT.out.ext hb1).ext hb2)
        go_wp2_with fail
        refine (spec_ReadEither _ _ hs1).mono ?_
        rintro e w3 ⟨rfl, hb3⟩
        rw [E1.out]
        replace HT2 := Lib.hid (HT2.out.ext hb3)
        go_wp2_with fail
        refine (impl_TurnBars _ _ hs1).mono ?_
        rintro e w4 ⟨rfl, hb4⟩
        replace HT2 := Lib.hid (HT2.out.ext hb4)
        go_wp2_with fail
        refine (impl_ReadEither _ _ hs2 HT2.out).mono ?_
        rintro e w5 ⟨rfl, hb5⟩
        rw [E2.out]
        replace HT2 := Lib.hid (HT2.out.ext hb5)
        go_wp2_with fail
        refine (impl_ReadBars _ _ HT2.out).mono ?_
        rintro e w6 ⟨rfl, hb6⟩
        rw [H1.out]
        replace HT2 := Lib.hid (HT2.out.ext hb6)
        go_wp2_with fail
        refine (impl_TurnBars _ _ hs1).mono ?_
        rintro e w7 ⟨rfl, hb7⟩
        replace HT2 := Lib.hid (HT2.out.ext hb7)
        go_wp2_with fail
        refine (impl_ReadBars _ _ HT2.out).mono ?_
        rintro e w8 ⟨rfl, hb8⟩
        rw [H2.out]
        go_wp2_with fail
        go_ret
        exact ⟨by simp, (by repeat (first | exact Below.refl _ _ | assumption | refine ext_alloc ?_ _ | refine Below.drew ?_ | refine below_drewN' ?_ _ | refine ext_set ?_ (by first | (simp; done) | (simp; omega) | omega) _ | refine ext_trans ?_ (by assumption)))⟩
  · go_enter Tryd.func11, Tryd.ntmps11
    go_wp2_with fail
    go_ret
    exact ⟨rfl, (by repeat (first | exact Below.refl _ _ | assumption | refine ext_alloc ?_ _ | refine Below.drew ?_ | refine below_drewN' ?_ _ | refine ext_set ?_ (by first | (simp; done) | (simp; omega) | omega) _ | refine ext_trans ?_ (by assumption)))⟩

end Go.Proofs.YtcopkapcgabkmaaDoor
