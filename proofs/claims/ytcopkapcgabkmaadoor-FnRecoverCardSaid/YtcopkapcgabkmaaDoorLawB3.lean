/-
  WALKS: the law FnRecover. By an AI agent.
-/
import Derived.Test.YtcopkapcgabkmaaDoorLawB
import Derived.Deep.QuietTactic
import Derived.BigQuiet
namespace Go.Proofs.YtcopkapcgabkmaaDoor
open Go.RowKit

/-- Bars of a code of which one digit can't be read. -/
theorem hurt_rec (b x : ByteArray) (k : Nat) (l : List UInt8) (hk : k < 8) (hx : x.size = 42) (hsame : ∀ j, (j < 1 + 5 * k ∨ 6 + 5 * k ≤ j) → 1 ≤ j → j ≤ 40 → x.data.toList[j]? = b.data.toList[j]?)
    (hbad : x.data.toList[1 + 5 * k]? = some 63) (hall : ∀ j, j < 8 → 0 ≤ gd b j) (hs : sumG b 8 % 10 = 0) (h7 : digL b 7 = l) : recO x = some l ∧ readO x = none := by
  have hneg := gd_bad x k hbad
  have hj : ∀ j, j < 8 → j ≠ k → gd x j = gd b j := fun j h1 h2 => gd_same x b j (fun m hm => hsame _ (by omega) (by omega) (by omega))
  refine ⟨by rw [rec_one x b k hk hx hj hneg hall hs, h7], ?_⟩
  unfold readO
  rw [if_neg]
  rintro ⟨_, _, _, h⟩
  have := h k hk; omega
theorem put_same (x b : ByteArray) (p : Nat) (c : UInt8) (j : Nat) (h : p ≠ j) (hx : x.data.toList[j]? = b.data.toList[j]?) : (putS x p c).data.toList[j]? = b.data.toList[j]? := by
  rw [put_at, if_neg h]; exact hx

set_option maxRecDepth 100000 in
set_option maxHeartbeats 8000000 in
theorem law_FnRecover (a : Option Addr) (len cap : Nat) (a2 : Option Addr) (len2 cap2 : Nat) (w : World) (h : BytesIn w a len cap) (h2 : BytesIn w a2 len2 cap2) (hT : Tab w) :
    Calls Tryd.prog 12 #[.slice a len cap, .slice a2 len2 cap2] w fun e w' => e = .returned (.bool true) ∧ Below w.heap.size w w' := by
  have HC := Lib.hid h
  have HT := Lib.hid hT
  have hlen : len ≤ 9223372036854775807 := by have := h.1; have := h.2.1; unfold maxLen at this; omega
  have hlen2 : len2 ≤ 9223372036854775807 := by have := h2.1; have := h2.2.1; unfold maxLen at this; omega
  clear h h2 hT
  by_cases hbig : len ≤ 1048576 ∧ len2 ≤ 1048576
  · obtain ⟨hbig1, hbig2⟩ := hbig
    go_enter Tryd.func12, Tryd.ntmps12
    go_wp2_with fail
    refine (DrawBarsOf_any _ _ _ _ HC.out).mono ?_
    rintro e w1 ⟨_, rfl, ⟨s, rfl, hs⟩, hb1⟩
    have hsm : s.size ≤ maxLen := by unfold maxLen; omega
    cases hv : codeB s with
    | false =>
      have HBV := Lib.hid (show barsV s = .tuple #[.string ⟨#[]⟩, .bool false] from by simp [barsV, hv])
      clear hv
      go_wp2_with (first | (go_at_call 15; refine (impl_BarsOf _ _ hsm (HT.out.ext hb1)).mono ?_; rintro e w' ⟨rfl, rfl⟩; rw [HBV.out]) | (go_at_call 14; refine (spec_BarsOf _ _ hsm).mono ?_; rintro e w2 ⟨rfl, hb2⟩; rw [HBV.out]))
      go_ret
      exact ⟨rfl, (by repeat (first | exact Below.refl _ _ | assumption | refine ext_alloc ?_ _ | refine Below.drew ?_ | refine below_drewN' ?_ _ | refine ext_set ?_ (by first | (simp; done) | (simp; omega) | omega) _ | refine ext_trans ?_ (by assumption)))⟩
    | true =>
      have hz := barsL_size s hv
      have HG := Lib.hid (gd_all s hv)
      have HS10 := Lib.hid (sum_code s hv)
      have HD7 := Lib.hid (digL_code7 s hv)
      obtain ⟨b, hb⟩ : ∃ b, bs (barsL s) = b := ⟨_, rfl⟩
      rw [hb] at hz HG HS10 HD7
      have HBV := Lib.hid (show barsV s = .tuple #[.string b, .bool true] from by rw [← hb]; simp [barsV, hv])
      have HZ := Lib.hid hz
      clear hv hb hz
      go_wp2_with (first | (go_at_call 15; refine (impl_BarsOf _ _ hsm (HT.out.ext hb1)).mono ?_; rintro e w' ⟨rfl, rfl⟩; rw [HBV.out]) | (go_at_call 14; refine (spec_BarsOf _ _ hsm).mono ?_; rintro e w2 ⟨rfl, hb2⟩; rw [HBV.out]))
      go_loopw [10, 11, 12, 13, 14, 15, 16, 17, 18, 19] (fun kv x1 x2 x3 x4 x5 x6 x7 x8 x9 wr => ∃ k : Nat, k ≤ 8 ∧ kv = .int .i64 k ∧ Below w.heap.size w wr) (fun kv _ _ _ _ _ _ _ _ _ _ => 8 - (intOf kv).toNat)
      case atStart => exact ⟨0, by omega, rfl, (by repeat (first | exact Below.refl _ _ | assumption | refine ext_alloc ?_ _ | refine Below.drew ?_ | refine below_drewN' ?_ _ | refine ext_set ?_ (by first | (simp; done) | (simp; omega) | omega) _ | refine ext_trans ?_ (by assumption)))⟩
      case round =>
        obtain ⟨k, hk, rfl, hbr⟩ := hrel
        by_cases hk8 : k < 8
        · obtain ⟨wo, hwo⟩ : ∃ wo : World, wo = wr := ⟨_, rfl⟩
          subst hwo
          have hk8d : decide ((k : Int) < 8) = true := by simp; omega
          go_wp2_with fail
          go_loopw [11, 12] (fun xv iv wr => ∃ (x : ByteArray) (i : Nat), xv = .string x ∧ iv = .int .i64 i ∧ i ≤ 5 ∧ x.size = 42 ∧ (∀ j, (j < 1 + 5 * k ∨ 6 + 5 * k ≤ j) → x.data.toList[j]? = b.data.toList[j]?) ∧ (0 < i → x.data.toList[1 + 5 * k]? = some 63) ∧ Below w.heap.size w wr) (fun _ iv _ => 5 - (intOf iv).toNat)
          case atStart => exact ⟨b, 0, rfl, rfl, by omega, HZ.out, fun _ _ => rfl, fun h => by omega, hbr⟩
          case round =>
            obtain ⟨x, i, rfl, rfl, hi5, hx42, hsame, hbad, hbi⟩ := hrel
            have HX := Lib.hid hx42
            have HSM := Lib.hid hsame
            have HBD := Lib.hid hbad
            have hx1 : x.size ≤ 42 := by omega
            have hx2 : 42 ≤ x.size := by omega
            clear hx42 hsame hbad
            by_cases hi : i < 5
            · have hp0 : (0 : Int) ≤ 1 + 5 * (k : Int) + (i : Int) := by omega
              have hp1 : 1 + 5 * (k : Int) + (i : Int) < (x.size : Int) := by omega
              have HP := Lib.hid (show (1 + 5 * (k : Int) + (i : Int)).toNat = 1 + 5 * k + i from by omega)
              by_cases hi0 : i = 0
              · have hz0 : ((i : Int) == 0) = true := by simp; omega
                have HI := Lib.hid hi0
                clear hi0
                go_wp2_with fail
                refine (soPut_val x _ _ 63 _ hp0 hp1 rfl).mono ?_
                rintro e w5 ⟨rfl, hb5⟩
                go_wp2_with fail
                go_roundw
                case rel =>
                  refine ⟨_, i + 1, rfl, by go_num, by omega, by rw [putS_size]; exact HX.out, fun j hj => put_same _ _ _ _ _ (by rw [HP.out]; omega) (HSM.out j hj), fun _ => ?_, (by repeat (first | exact Below.refl _ _ | assumption | refine ext_alloc ?_ _ | refine Below.drew ?_ | refine below_drewN' ?_ _ | refine ext_set ?_ (by first | (simp; done) | (simp; omega) | omega) _ | refine ext_trans ?_ (by assumption)))⟩
                  rw [put_at, HP.out, if_pos (by have := HI.out; omega), if_pos (by omega)]
                case measure => simp [intOf]; omega
              · have hz0 : ((i : Int) == 0) = false := by simp; omega
                have HI := Lib.hid hi0
                have hik : (i : Int) * (k : Int) ≤ 40 := by
                  have : i * k ≤ 5 * 8 := Nat.mul_le_mul (by omega) (by omega)
                  have h2 : ((i * k : Nat) : Int) ≤ 40 := by omega
                  simpa using h2
                have hik0 : 0 ≤ (i : Int) * (k : Int) := Int.mul_nonneg (by omega) (by omega)
                clear hi0
                go_wp2_with fail
                · refine (soPut_val x _ _ 63 _ hp0 hp1 rfl).mono ?_
                  rintro e w5 ⟨rfl, hb5⟩
                  go_wp2_with fail
                  go_roundw
                  case rel =>
                    refine ⟨_, i + 1, rfl, by go_num, by omega, by rw [putS_size]; exact HX.out, fun j hj => put_same _ _ _ _ _ (by rw [HP.out]; omega) (HSM.out j hj), fun _ => ?_, (by repeat (first | exact Below.refl _ _ | assumption | refine ext_alloc ?_ _ | refine Below.drew ?_ | refine below_drewN' ?_ _ | refine ext_set ?_ (by first | (simp; done) | (simp; omega) | omega) _ | refine ext_trans ?_ (by assumption)))⟩
                    rw [put_at, HP.out, if_neg (by have := HI.out; omega)]
                    exact HBD.out (by have := HI.out; omega)
                  case measure => simp [intOf]; omega
                · go_roundw
                  case rel =>
                    exact ⟨x, i + 1, rfl, by go_num, by omega, HX.out, HSM.out, fun _ => HBD.out (by have := HI.out; omega), (by repeat (first | exact Below.refl _ _ | assumption | refine ext_alloc ?_ _ | refine Below.drew ?_ | refine below_drewN' ?_ _ | refine ext_set ?_ (by first | (simp; done) | (simp; omega) | omega) _ | refine ext_trans ?_ (by assumption)))⟩
                  case measure => simp [intOf]; omega
            · have hbd := HBD.out (by omega)
              have hrec := hurt_rec b x k _ hk8 HX.out (fun j h1 _ _ => HSM.out j h1) hbd HG.out HS10.out HD7.out
              have HRX := Lib.hid (show optV (recO x) = .tuple #[.string s, .bool true] from by rw [hrec.1]; simp [optV, bs_of])
              have HRN := Lib.hid (show optV (readO x) = .tuple #[.string ⟨#[]⟩, .bool false] from by rw [hrec.2]; rfl)
              have hrecy := hurt_rec b (putS (putS x 0 63) 41 46) k _ hk8 (by rw [putS_size, putS_size]; exact HX.out) (fun j h1 h2 h3 => put_same _ _ _ _ _ (by omega) (put_same _ _ _ _ _ (by omega) (HSM.out j h1))) (by rw [put_at, if_neg (by omega), put_at, if_neg (by omega)]; exact hbd) HG.out HS10.out HD7.out
              have HRY := Lib.hid (show optV (recO (putS (putS x 0 63) 41 46)) = .tuple #[.string s, .bool true] from by rw [hrecy.1]; simp [optV, bs_of])
              clear hbd hrec hrecy
              go_wp2_with fail
              refine (soPut_val x 0 63 63 _ (by omega) (by omega) rfl).mono ?_
              rintro e w5 ⟨rfl, hb5⟩
              go_wp2_with fail
              refine (soPut_val (putS x 0 63) 41 46 46 _ (by omega) (by rw [putS_size]; omega) rfl).mono ?_
              rintro e w6 ⟨rfl, hb6⟩
              have HT2 := Lib.hid (((HT.out.ext hbi).ext hb5).ext hb6)
              go_wp2_with fail
              refine (impl_RecoverBars _ _ HT2.out).mono ?_
              rintro e w7 ⟨rfl, hb7⟩
              rw [HRX.out]
              replace HT2 := Lib.hid (HT2.out.ext hb7)
              go_wp2_with fail
              refine (impl_RecoverBars (putS (putS x 0 63) 41 46) _ HT2.out).mono ?_
              rintro e w8 ⟨rfl, hb8⟩
              rw [HRY.out]
              replace HT2 := Lib.hid (HT2.out.ext hb8)
              go_wp2_with fail
              refine (impl_ReadBars _ _ HT2.out).mono ?_
              rintro e w9 ⟨rfl, hb9⟩
              rw [HRN.out]
              go_wp2_with fail
              go_roundw
              case rel => exact ⟨k + 1, by omega, by go_num, (by repeat (first | exact Below.refl _ _ | assumption | refine ext_alloc ?_ _ | refine Below.drew ?_ | refine below_drewN' ?_ _ | refine ext_set ?_ (by first | (simp; done) | (simp; omega) | omega) _ | refine ext_trans ?_ (by assumption)))⟩
              case measure => simp [intOf]; omega
        · go_wp2_with fail
          go_ret
          exact ⟨rfl, (by repeat (first | exact Below.refl _ _ | assumption | refine ext_alloc ?_ _ | refine Below.drew ?_ | refine below_drewN' ?_ _ | refine ext_set ?_ (by first | (simp; done) | (simp; omega) | omega) _ | refine ext_trans ?_ (by assumption)))⟩
  · go_enter Tryd.func12, Tryd.ntmps12
    by_cases hb1 : len ≤ 1048576
    · have hb2 : 1048576 < len2 := by omega
      clear hbig
      go_wp2_with fail
      go_ret
      exact ⟨rfl, (by repeat (first | exact Below.refl _ _ | assumption | refine ext_alloc ?_ _ | refine Below.drew ?_ | refine below_drewN' ?_ _ | refine ext_set ?_ (by first | (simp; done) | (simp; omega) | omega) _ | refine ext_trans ?_ (by assumption)))⟩
    · clear hbig
      go_wp2_with fail
      go_ret
      exact ⟨rfl, (by repeat (first | exact Below.refl _ _ | assumption | refine ext_alloc ?_ _ | refine Below.drew ?_ | refine below_drewN' ?_ _ | refine ext_set ?_ (by first | (simp; done) | (simp; omega) | omega) _ | refine ext_trans ?_ (by assumption)))⟩

end Go.Proofs.YtcopkapcgabkmaaDoor
