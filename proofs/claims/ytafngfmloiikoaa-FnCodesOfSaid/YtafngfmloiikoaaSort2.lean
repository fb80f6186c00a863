/-
  WALKS: the library's rotation of two neighbouring ranges of letters. By an AI agent.
-/
import Derived.Test.YtafngfmloiikoaaSort1
namespace Go.Proofs.Ytafngfmloiikoaa
open Go.RowKit

set_option maxHeartbeats 4000000 in
theorem rotate_any (B g n cap : Nat) (X U V Y : List Ltr) (a m b : Nat) (cf : Value) (w : World) (h : Own w B (.slice (some ⟨g, 0, none⟩) n cap) (X ++ U ++ V ++ Y))
    (ha : X.length = a) (hm : a + U.length = m) (hb : m + V.length = b) (hU : 0 < U.length) (hV : 0 < V.length) (hn : n ≤ 100) :
    Calls Try.prog 101 #[.slice (some ⟨g, 0, none⟩) n cap, .int .i64 a, .int .i64 m, .int .i64 b, cf] w (Sorts B g n cap (X ++ V ++ U ++ Y) w) := by
  have HO0 := Lib.hid h
  have hlen : (X ++ U ++ V ++ Y).length = n := h.len.symm
  have hbn : b ≤ n := by simp at hlen; omega
  have HA := Lib.hid ha
  have HMM := Lib.hid hm
  have HB := Lib.hid hb
  have ham : a ≤ m := by omega
  have hmb : m ≤ b := by omega
  clear h hlen ha
  obtain ⟨i0, hi0⟩ : ∃ i, U.length = i := ⟨_, rfl⟩
  obtain ⟨j0, hj0⟩ : ∃ j, V.length = j := ⟨_, rfl⟩
  have e1 : (m : Int) - (a : Int) = (i0 : Int) := by omega
  have e2 : (b : Int) - (m : Int) = (j0 : Int) := by omega
  have HI0 := Lib.hid hi0
  have HJ0 := Lib.hid hj0
  have HE1 := Lib.hid e1
  have HE2 := Lib.hid e2
  have hi0' : 0 < i0 := by omega
  have hj0' : 0 < j0 := by omega
  have hi0m : i0 ≤ m := by omega
  have hj0b : m + j0 ≤ n := by omega
  clear hm hb hi0 hj0 hU hV e1 e2
  go_enter Try.func101, Try.ntmps101
  go_wp2_with fail
  rw [HE1.out, HE2.out]
  go_loopw [10, 11] (fun iv jv wr => ∃ (i j : Nat) (P U' V' Q : List Ltr), iv = .int .i64 i ∧ jv = .int .i64 j ∧ 0 < i ∧ 0 < j ∧ i ≤ m ∧ m + j ≤ n ∧ U'.length = i ∧ V'.length = j ∧ P.length + i = m ∧ P ++ V' ++ U' ++ Q = X ++ V ++ U ++ Y ∧ Own wr B (.slice (some ⟨g, 0, none⟩) n cap) (P ++ U' ++ V' ++ Q) ∧ w.grownBy wr (some g)) (fun iv jv _ => (intOf iv).toNat + (intOf jv).toNat)
  case atStart => exact ⟨i0, j0, X, U, V, Y, rfl, rfl, hi0', hj0', hi0m, hj0b, HI0.out, HJ0.out, by have := HA.out; have := HMM.out; have := HI0.out; omega, rfl, HO0.out, grown_refl _ _⟩
  case round =>
    obtain ⟨i, j, P, U', V', Q, rfl, rfl, hi1, hj1, him, hjn, hlu, hlv, hlp, heq, hown, hgr⟩ := hrel
    have HO := Lib.hid hown
    have HG := Lib.hid hgr
    have HQ := Lib.hid heq
    have hmi : ((m : Int) - (i : Int)) = ((m - i : Nat) : Int) := by omega
    have HMI := Lib.hid hmi
    have HLP := Lib.hid (show P.length = m - i from by omega)
    have HLU := Lib.hid hlu
    have HLV := Lib.hid hlv
    clear hown hgr heq hmi hlu hlv hlp
    by_cases hij : i = j
    · subst hij
      have hd : ((i : Int) != (i : Int)) = false := by simp
      go_wp2_with fail
      rw [HMI.out]
      refine (swapRange_any B g n cap P U' [] V' Q (m - i) m i cf _ (by simpa using HO.out) HLP.out HLU.out HLV.out (by simp; omega) hn).mono ?_
      rintro e w1 ⟨rfl, ho1, hg1⟩
      go_wp2_with fail
      go_end0
      exact ⟨rfl, by rw [← HQ.out]; simpa using ho1, grown_tr HG.out hg1⟩
    · have hd : ((i : Int) != (j : Int)) = true := by simp; omega
      by_cases hgt : j < i
      · have hgd : decide ((j : Int) < (i : Int)) = true := by simp; omega
        obtain ⟨U1, U2, hU12, hU1⟩ := parts U' j (by rw [HLU.out]; omega)
        have HU2 := Lib.hid (show U2.length = i - j from by have := HLU.out; rw [hU12] at this; simp at this; omega)
        have HU1 := Lib.hid hU1
        have HUU := Lib.hid hU12
        clear hU1 hU12
        have HIJ := Lib.hid (show ((i : Int) - (j : Int)) = ((i - j : Nat) : Int) by omega)
        go_wp2_with fail
        rw [HMI.out]
        refine (swapRange_any B g n cap P U1 U2 V' Q (m - i) m j cf _ (by have := HO.out; rw [HUU.out] at this; simpa using this) HLP.out HU1.out HLV.out (by rw [HU2.out]; omega) hn).mono ?_
        rintro e w1 ⟨rfl, ho1, hg1⟩
        have HO1 := Lib.hid ho1
        have HG1 := Lib.hid (grown_tr HG.out hg1)
        clear ho1 hg1
        go_wp2_with fail
        go_roundw
        case rel =>
          refine ⟨i - j, j, P ++ V', U2, U1, Q, by rw [HIJ.out], rfl, by omega, by omega, by omega, by omega, HU2.out, HU1.out, by simp [HLP.out, HLV.out]; omega, ?_, by simpa using HO1.out, HG1.out⟩
          have := HQ.out; rw [HUU.out] at this; simpa using this
        case measure => simp [intOf]; omega
      · have hgd : decide ((j : Int) < (i : Int)) = false := by simp; omega
        obtain ⟨V1, V2, hV12, hV1⟩ := parts V' (j - i) (by rw [HLV.out]; omega)
        have HV2 := Lib.hid (show V2.length = i from by have := HLV.out; rw [hV12] at this; simp at this; omega)
        have HV1 := Lib.hid hV1
        have HVV := Lib.hid hV12
        clear hV1 hV12
        have HIJ := Lib.hid (show ((j : Int) - (i : Int)) = ((j - i : Nat) : Int) by omega)
        have HMJ := Lib.hid (show ((m : Int) + (j : Int) - (i : Int)) = ((m + j - i : Nat) : Int) by omega)
        go_wp2_with fail
        rw [HMI.out, HMJ.out]
        refine (swapRange_any B g n cap P U' V1 V2 Q (m - i) (m + j - i) i cf _ (by have := HO.out; rw [HVV.out] at this; simpa using this) HLP.out HLU.out HV2.out (by rw [HV1.out]; omega) hn).mono ?_
        rintro e w1 ⟨rfl, ho1, hg1⟩
        have HO1 := Lib.hid ho1
        have HG1 := Lib.hid (grown_tr HG.out hg1)
        clear ho1 hg1
        go_wp2_with fail
        go_roundw
        case rel =>
          refine ⟨i, j - i, P, V2, V1, U' ++ Q, rfl, by rw [HIJ.out], by omega, by omega, by omega, by omega, HV2.out, HV1.out, by rw [HLP.out]; omega, ?_, by simpa using HO1.out, HG1.out⟩
          have := HQ.out; rw [HVV.out] at this; simpa using this
        case measure => simp [intOf]; omega

end Go.Proofs.Ytafngfmloiikoaa
