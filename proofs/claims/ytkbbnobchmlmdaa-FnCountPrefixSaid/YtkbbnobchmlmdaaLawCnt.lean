/-
  THE LAW FnCountPrefix: the walk. By an AI agent.
-/
import Derived.Test.YtkbbnobchmlmdaaDrawM
import Derived.Test.YtkbbnobchmlmdaaPlainP
namespace Go.Proofs.Ytkbbnobchmlmdaa
open Go.RowKit

theorem cntV_more {ls : List Ltr} {p : ByteArray} (h : splitOk ls p = true) (h7 : p.size < 7) (k : Nat) (hk : k < 10) :
    cntV ls (p ++ bs [dgB (k : Int)]) = ((withP ls (p ++ bs [dgB (k : Int)])).length : Int) := by
  have hb : batchB ls = true ∧ prefB p = true := by simpa [splitOk] using h
  have : splitOk ls (p ++ bs [dgB (k : Int)]) = true := by unfold splitOk; rw [hb.1, prefB_more p k hk hb.2 h7]; rfl
  unfold cntV; rw [if_pos this]

set_option maxHeartbeats 4000000 in
theorem law_FnCountPrefix (a : Option Addr) (len cap : Nat) (w : World) (h : BytesIn w a len cap) :
    Calls Try.prog 4 #[.slice a len cap] w fun e w' => e = .returned (.bool true) ∧ Below w.heap.size w w' := by
  have HC := Lib.hid h
  have hlen : len ≤ 9223372036854775807 := by have := h.1; have := h.2.1; unfold maxLen at this; omega
  clear h
  by_cases hbig : len ≤ 1048576
  · go_enter Try.func4, Try.ntmps4
    go_wp2_with fail
    refine (DrawCountPrefix_any _ _ _ _ HC.out).mono ?_
    rintro e w1 ⟨v, ls, _, rfl, ho, hl61, ⟨p, rfl, hp8⟩, hb1⟩
    obtain ⟨A, c, rfl, hls⟩ := ho.read
    obtain ⟨n, hn⟩ : ∃ n, ls.length = n := ⟨_, rfl⟩
    rw [hn] at hls hl61 ⊢
    have HN := Lib.hid hn
    have HL := Lib.hid hls
    have hpm : p.size ≤ maxLen := by unfold maxLen; omega
    have HP := Lib.hid hpm
    clear ho hls hn hpm
    obtain ⟨K, hK⟩ : ∃ K, cntV ls p = K := ⟨_, rfl⟩
    have HK := Lib.hid hK
    go_wp2_with fail
    refine (impl_CountPrefix _ _ _ _ _ _ HL.out HP.out).mono ?_
    rintro e w2 ⟨rfl, hb2⟩
    rw [HK.out]
    replace HL := Lib.hid (HL.out.ext hb2)
    go_wp2_with fail
    refine (spec_CountPrefix _ _ _ _ _ _ HL.out HP.out).mono ?_
    rintro e w3 ⟨rfl, hb3⟩
    rw [HK.out]
    replace HL := Lib.hid (HL.out.ext hb3)
    cases hbb : splitOk ls p with
    | false =>
      have hK1 : K = -1 := by rw [← HK.out]; simp [cntV, hbb]
      subst hK1
      clear hbb hK
      go_wp2_with fail
      refine (spec_CountPrefix _ _ _ _ _ _ HL.out HP.out).mono ?_
      rintro e w4 ⟨rfl, hb4⟩
      rw [HK.out]
      go_wp2_with fail
      go_ret
      exact ⟨rfl, (by repeat (first | exact Below.refl _ _ | assumption | refine ext_alloc ?_ _ | refine Below.drew ?_ | refine below_drewN' ?_ _ | refine ext_set ?_ (by first | (simp; done) | (simp; omega) | omega) _ | refine ext_trans ?_ (by assumption)))⟩
    | true =>
      have hK1 : K = ((withP ls p).length : Int) := by rw [← HK.out]; simp [cntV, hbb]
      obtain ⟨q, hq⟩ : ∃ q, (withP ls p).length = q := ⟨_, rfl⟩
      rw [hq] at hK1
      subst hK1
      have HQ := Lib.hid hq
      have hq61 : q ≤ 61 := by have := withP_le ls p; have := HN.out; omega
      have HB := Lib.hid hbb
      have HBB := Lib.hid (show batchB ls = true from by have : batchB ls = true ∧ prefB p = true := by simpa [splitOk] using hbb
                                                         exact this.1)
      clear hbb hK hq
      have hq0 : decide ((q : Int) < 0) = false := by simp
      by_cases h7 : p.size = 7
      · have h7d : ((p.size : Int) == 7) = true := by simp; omega
        go_wp2_with fail
        refine (spec_CountPrefix _ _ _ _ _ _ HL.out HP.out).mono ?_
        rintro e w4 ⟨rfl, hb4⟩
        rw [HK.out]
        go_wp2_with fail
        go_ret
        exact ⟨rfl, (by repeat (first | exact Below.refl _ _ | assumption | refine ext_alloc ?_ _ | refine Below.drew ?_ | refine below_drewN' ?_ _ | refine ext_set ?_ (by first | (simp; done) | (simp; omega) | omega) _ | refine ext_trans ?_ (by assumption)))⟩
      · have hp7 : p.size < 7 := by
          have : batchB ls = true ∧ prefB p = true := by simpa [splitOk] using HB.out
          have := this.2
          simp [prefB] at this
          omega
        have h7d : ((p.size : Int) == 7) = false := by simp; omega
        have hbw : Below w.heap.size w w3 := (by repeat (first | exact Below.refl _ _ | assumption | refine ext_alloc ?_ _ | refine Below.drew ?_ | refine below_drewN' ?_ _ | refine ext_set ?_ (by first | (simp; done) | (simp; omega) | omega) _ | refine ext_trans ?_ (by assumption)))
        have HZ := Lib.hid (cntD_zero ls p (fun l hl => (batch_dig2 HBB.out hl p.size hp7).1))
        have HT := Lib.hid (cntD_ten ls p (fun l hl => (batch_dig2 HBB.out hl p.size hp7).2))
        have HS7 := Lib.hid (show ∀ l ∈ ls, l.2.size = 7 from fun l hl => by obtain ⟨k, hk⟩ := List.mem_iff_getElem?.1 hl; exact batch_code HBB.out hk)
        clear hb1 hb2 hb3
        go_wp2_with fail
        go_loopw [6, 7] (fun sv dv wr => ∃ d : Nat, d ≤ 10 ∧ sv = .int .i64 (cntD ls p d : Nat) ∧ dv = .int .i64 d ∧ Below w3.heap.size w3 wr) (fun _ dv _ => 10 - (intOf dv).toNat)
        case atStart => exact ⟨0, by omega, by rw [HZ.out]; rfl, rfl, Below.refl _ _⟩
        case round =>
          obtain ⟨d, hd, rfl, rfl, hbel⟩ := hrel
          have hle := cntD_le ls p d
          rw [HN.out] at hle
          by_cases hd10 : d < 10
          · have HM := Lib.hid (cntV_more HB.out hp7 d hd10)
            have hsu := cntD_succ p d hd10 hp7 ls HS7.out
            have hle2 := withP_le ls (p ++ bs [dgB (d : Int)])
            rw [HN.out] at hle2
            obtain ⟨m, hm⟩ : ∃ m, (withP ls (p ++ bs [dgB (d : Int)])).length = m := ⟨_, rfl⟩
            obtain ⟨s, hs⟩ : ∃ s, cntD ls p d = s := ⟨_, rfl⟩
            rw [hm] at hsu hle2
            rw [hs] at hsu hle ⊢
            have HSU := Lib.hid hsu
            have HMM := Lib.hid hm
            have hcv := one_byte (d : Int) (by omega) (by omega)
            have hdd : decide ((d : Int) ≤ 9) = true := by simp; omega
            have hno : ¬ 9223372036854775807 < p.size + 1 := by omega
            have HPP := Lib.hid (show (p ++ bs [dgB (d : Int)]).size ≤ maxLen from by rw [app_size, bs_size]; unfold maxLen; simp; omega)
            clear hsu hm hs
            go_wp2_with fail
            refine (impl_CountPrefix _ _ _ _ _ _ (HL.out.ext (by repeat (first | exact Below.refl _ _ | assumption | refine ext_alloc ?_ _ | refine Below.drew ?_ | refine below_drewN' ?_ _ | refine ext_set ?_ (by first | (simp; done) | (simp; omega) | omega) _ | refine ext_trans ?_ (by assumption)))) HPP.out).mono ?_
            rintro e w5 ⟨rfl, hb5⟩
            rw [HM.out, HMM.out]
            go_wp2_with fail
            go_roundw
            case rel => exact ⟨d + 1, by omega, by rw [HSU.out]; go_num, by go_num, (by repeat (first | exact Below.refl _ _ | assumption | refine ext_alloc ?_ _ | refine Below.drew ?_ | refine below_drewN' ?_ _ | refine ext_set ?_ (by first | (simp; done) | (simp; omega) | omega) _ | refine ext_trans ?_ (by assumption)))⟩
            case measure => simp [intOf]; omega
          · obtain rfl : d = 10 := by omega
            rw [HT.out, HQ.out]
            have HPE := Lib.hid (show (⟨#[]⟩ : ByteArray).size ≤ maxLen from by show 0 ≤ maxLen; omega)
            have HNE := Lib.hid (cntV_none ls HBB.out)
            rw [HN.out] at HNE
            go_wp2_with fail
            refine (impl_CountPrefix _ _ _ _ _ _ (HL.out.ext hbel) HPE.out).mono ?_
            rintro e w5 ⟨rfl, hb5⟩
            rw [HNE.out]
            go_wp2_with fail
            go_ret
            exact ⟨rfl, (by repeat (first | exact Below.refl _ _ | assumption | refine ext_alloc ?_ _ | refine Below.drew ?_ | refine below_drewN' ?_ _ | refine ext_set ?_ (by first | (simp; done) | (simp; omega) | omega) _ | refine ext_trans ?_ (by assumption)))⟩
  · go_enter Try.func4, Try.ntmps4
    go_wp2_with fail
    go_ret
    exact ⟨rfl, (by repeat (first | exact Below.refl _ _ | assumption | refine ext_alloc ?_ _ | refine Below.drew ?_ | refine below_drewN' ?_ _ | refine ext_set ?_ (by first | (simp; done) | (simp; omega) | omega) _ | refine ext_trans ?_ (by assumption)))⟩

end Go.Proofs.Ytkbbnobchmlmdaa
