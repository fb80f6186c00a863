/-
  THE LAW FnInversions: the walk. By an AI agent.
-/
import Derived.Test.YtafngfmloiikoaaDrawO
import Derived.Test.YtafngfmloiikoaaSo
import Derived.Test.YtafngfmloiikoaaPlainI
namespace Go.Proofs.Ytafngfmloiikoaa
open Go.RowKit

theorem prod_bd : ∀ n : Nat, n < 61 → 0 ≤ (n : Int) * ((n : Int) - 1) ∧ (n : Int) * ((n : Int) - 1) ≤ 3600 := by decide

set_option maxRecDepth 100000 in
set_option maxHeartbeats 8000000 in
theorem law_FnInversions (a : Option Addr) (len cap : Nat) (w : World) (h : BytesIn w a len cap) :
    Calls Try.prog 6 #[.slice a len cap] w fun e w' => e = .returned (.bool true) ∧ Below w.heap.size w w' := by
  have HC := Lib.hid h
  have hlen : len ≤ 9223372036854775807 := by have := h.1; have := h.2.1; unfold maxLen at this; omega
  clear h
  by_cases hbig : len ≤ 1048576
  · go_enter Try.func6, Try.ntmps6
    go_wp2_with fail
    refine (DrawInversions_any _ _ _ _ HC.out).mono ?_
    rintro e w1 ⟨v, ls, rfl, ho, hl61, hb1⟩
    obtain ⟨A, c, rfl, hls⟩ := ho.read
    obtain ⟨n, hn⟩ : ∃ n, ls.length = n := ⟨_, rfl⟩
    rw [hn] at hls hl61 ⊢
    have HN := Lib.hid hn
    have HL := Lib.hid hls
    have HBW := Lib.hid hb1
    clear ho hls hn hb1
    obtain ⟨K, hK⟩ : ∃ K, invV ls = K := ⟨_, rfl⟩
    have HK := Lib.hid hK
    go_wp2_with fail
    refine (impl_Inversions _ _ _ _ _ HL.out).mono ?_
    rintro e w2 ⟨rfl, hb2⟩
    rw [HK.out]
    replace HL := Lib.hid (HL.out.ext hb2)
    replace HBW := Lib.hid (ext_trans HBW.out hb2)
    clear hb2
    go_wp2_with fail
    refine (spec_Inversions _ _ _ _ _ HL.out).mono ?_
    rintro e w3 ⟨rfl, hb3⟩
    rw [HK.out]
    replace HL := Lib.hid (HL.out.ext hb3)
    replace HBW := Lib.hid (ext_trans HBW.out hb3)
    clear hb3
    go_wp2_with fail
    refine (impl_SortedBatch _ _ _ _ _ HL.out).mono ?_
    rintro e w4 ⟨rfl, hb4⟩
    replace HL := Lib.hid (HL.out.ext hb4)
    replace HBW := Lib.hid (ext_trans HBW.out hb4)
    clear hb4
    obtain ⟨t, ht⟩ : ∃ t, sortedB ls = t := ⟨_, rfl⟩
    rw [ht]
    have HT := Lib.hid ht
    clear ht
    go_wp2_with fail
    refine (spec_SortedBatch _ _ _ _ _ HL.out).mono ?_
    rintro e w5 ⟨rfl, hb5⟩
    rw [HT.out]
    replace HL := Lib.hid (HL.out.ext hb5)
    replace HBW := Lib.hid (ext_trans HBW.out hb5)
    clear hb5
    cases hbb : batchB ls with
    | false =>
      have hK1 : K = -1 := by rw [← HK.out]; simp [invV, hbb]
      subst hK1
      have HB := Lib.hid hbb
      clear hbb hK
      go_wp2_with fail
      refine (spec_Inversions _ _ _ _ _ HL.out).mono ?_
      rintro e w6 ⟨rfl, hb6⟩
      rw [HK.out]
      replace HL := Lib.hid (HL.out.ext hb6)
      replace HBW := Lib.hid (ext_trans HBW.out hb6)
      clear hb6
      go_wp2_with fail
      refine (impl_SortedBatch _ _ _ _ _ HL.out).mono ?_
      rintro e w7 ⟨rfl, hb7⟩
      rw [HT.out]
      replace HL := Lib.hid (HL.out.ext hb7)
      replace HBW := Lib.hid (ext_trans HBW.out hb7)
      clear hb7
      go_wp2_with fail
      refine (spec_SortedBatch _ _ _ _ _ HL.out).mono ?_
      rintro e w8 ⟨rfl, hb8⟩
      rw [HT.out]
      replace HL := Lib.hid (HL.out.ext hb8)
      replace HBW := Lib.hid (ext_trans HBW.out hb8)
      clear hb8
      go_wp2_with fail
      refine (impl_BatchValid _ _ _ _ _ HL.out).mono ?_
      rintro e w9 ⟨rfl, hb9⟩
      rw [HB.out]
      replace HBW := Lib.hid (ext_trans HBW.out hb9)
      clear hb9
      go_wp2_with fail
      go_ret
      exact ⟨rfl, HBW.out⟩
    | true =>
      have hK1 : K = (invL ls : Nat) := by rw [← HK.out]; simp [invV, hbb]
      have hil := invL_le ls (batch_len hbb)
      have hn60 := batch_len hbb
      have HPA := Lib.hid (pairs_all ls)
      have HSI := Lib.hid (sorted_inv hbb)
      obtain ⟨q, hq⟩ : ∃ q, invL ls = q := ⟨_, rfl⟩
      rw [hq] at hK1 hil HSI HPA
      have HQ := Lib.hid hq
      subst hK1
      rw [HN.out] at hil hn60 HPA
      have hq36 : q ≤ 3600 := by omega
      have hq0 : decide ((q : Int) < 0) = false := by simp
      have HB := Lib.hid hbb
      clear hbb hK hq hil
      go_wp2_with fail
      refine (soTurned_any _ _ _ _ _ HL.out (by omega)).mono ?_
      rintro e w6 ⟨v6, rfl, ho6, hb6⟩
      obtain ⟨A6, c6, rfl, hl6⟩ := ho6.read
      rw [List.length_reverse, HN.out] at hl6 ⊢
      have HL6 := Lib.hid hl6
      replace HL := Lib.hid (HL.out.ext hb6)
      replace HBW := Lib.hid (ext_trans HBW.out hb6)
      clear hb6 ho6 hl6
      have hrb : batchB ls.reverse = true := by rw [batch_reverse]; exact HB.out
      have hir := invL_le ls.reverse (batch_len hrb)
      obtain ⟨m, hm⟩ : ∃ m, invL ls.reverse = m := ⟨_, rfl⟩
      have HIR := Lib.hid (show invV ls.reverse = (m : Int) from by simp [invV, hrb, hm])
      rw [hm, List.length_reverse, HN.out] at hir
      rw [hm] at HPA
      have hm36 : m ≤ 3600 := by omega
      clear hrb hm hir
      go_wp2_with fail
      refine (impl_Inversions _ _ _ _ _ HL6.out).mono ?_
      rintro e w7 ⟨rfl, hb7⟩
      rw [HIR.out]
      replace HL := Lib.hid (HL.out.ext hb7)
      replace HBW := Lib.hid (ext_trans HBW.out hb7)
      clear hb7 HL6
      go_wp2_with fail
      go_loopw [6, 7] (fun ev iv wr => ∃ i E : Nat, i ≤ n ∧ iv = .int .i64 i ∧ ev = .int .i64 E ∧ eqL (ls.take i) = E ∧ Below w7.heap.size w7 wr) (fun _ iv _ => n - (intOf iv).toNat)
      case atStart => exact ⟨0, 0, by omega, rfl, rfl, rfl, Below.refl _ _⟩
      case round =>
        obtain ⟨i, E, hin, rfl, rfl, hE, hbel⟩ := hrel
        have hE36 : E ≤ 3600 := by
          have := eqL_le (ls.take i) (by have := List.length_take_le i ls; have := HN.out; simp; omega)
          have h2 : (ls.take i).length ≤ i := List.length_take_le i ls
          omega
        have HEE := Lib.hid hE
        clear hE
        by_cases hi : i < n
        · obtain ⟨g, off, l, hA, hl, _, c0, c1⟩ := (HL.out.ext hbel).at_ i hi
          have HLI := Lib.hid hl
          have HES := Lib.hid (show eqL (ls.take (i + 1)) = E + sameC l.2 (ls.take i) from by rw [take_snoc' ls i l hl, eqL_snoc, HEE.out])
          have hid' : decide ((i : Int) < (n : Int)) = true := by simp; omega
          have hii : (i : Int) < (n : Int) := by omega
          clear hl c0 c1
          go_wp2_with fail
          go_loopw [6, 8] (fun ev kv wr => ∃ k S : Nat, k ≤ i ∧ kv = .int .i64 k ∧ ev = .int .i64 ((E : Int) + (S : Int)) ∧ sameC l.2 (ls.take k) = S ∧ Below w7.heap.size w7 wr) (fun _ kv _ => i - (intOf kv).toNat)
          case atStart => exact ⟨0, 0, by omega, rfl, by simp, rfl, hbel⟩
          case round =>
            clear hbel
            obtain ⟨k, S, hki, rfl, rfl, hS, hbel⟩ := hrel
            have hS60 : S ≤ 60 := by
              have := sameC_le l.2 (ls.take k)
              have h2 : (ls.take k).length ≤ k := List.length_take_le k ls
              omega
            have HSS := Lib.hid hS
            clear hS
            by_cases hk : k < i
            · obtain ⟨g', off', y, hA', hy, _, d0, d1⟩ := (HL.out.ext hbel).at_ k (by omega)
              obtain ⟨g2, off2, l2, hA2, hl2, _, c0, c1⟩ := (HL.out.ext hbel).at_ i hi
              subst hA
              injection hA' with hA'
              injection hA' with hg1 hg2
              subst hg1 hg2
              injection hA2 with hA2
              injection hA2 with hg1 hg2
              subst hg1 hg2
              obtain rfl : l2 = l := by rw [HLI.out] at hl2; injection hl2 with hl2; exact hl2.symm
              have hsn := sameC_snoc l2.2 y (ls.take k)
              rw [← take_snoc' ls k y hy, HSS.out] at hsn
              have HSN := Lib.hid hsn
              have hkd : decide ((k : Int) < (i : Int)) = true := by simp; omega
              have hkn : (k : Int) < (n : Int) := by omega
              clear hsn hy hl2 c0 d0
              cases hc : (y.2.toList == l2.2.toList) with
              | true =>
                have HS1 := Lib.hid (show sameC l2.2 (ls.take (k + 1)) = S + 1 from by rw [HSN.out, hc]; rfl)
                go_wp2_with fail
                go_quiet (fail)
                go_wp2_with fail
                go_roundw
                case rel => exact ⟨k + 1, S + 1, by omega, by go_num, by go_num, HS1.out, (by repeat (first | exact Below.refl _ _ | assumption | refine ext_alloc ?_ _ | refine Below.drew ?_ | refine below_drewN' ?_ _ | refine ext_set ?_ (by first | (simp; done) | (simp; omega) | omega) _ | refine ext_trans ?_ (by assumption)))⟩
                case measure => simp [intOf]; omega
              | false =>
                have HS1 := Lib.hid (show sameC l2.2 (ls.take (k + 1)) = S from by rw [HSN.out, hc]; rfl)
                go_wp2_with fail
                go_quiet (fail)
                go_wp2_with fail
                go_roundw
                case rel => exact ⟨k + 1, S, by omega, by go_num, rfl, HS1.out, (by repeat (first | exact Below.refl _ _ | assumption | refine ext_alloc ?_ _ | refine Below.drew ?_ | refine below_drewN' ?_ _ | refine ext_set ?_ (by first | (simp; done) | (simp; omega) | omega) _ | refine ext_trans ?_ (by assumption)))⟩
                case measure => simp [intOf]; omega
            · obtain rfl : k = i := by omega
              have hkd : decide ((k : Int) < (k : Int)) = false := by simp
              go_wp2_with fail
              go_roundw
              case rel => exact ⟨k + 1, E + S, by omega, by go_num, by go_num, by rw [HES.out, HSS.out], hbel⟩
              case measure => simp [intOf]; omega
        · obtain rfl : i = n := by omega
          have hid' : decide ((i : Int) < (i : Int)) = false := by simp
          have hEL : eqL ls = E := by rw [← HEE.out, List.take_of_length_le (by rw [HN.out]; exact Nat.le_refl _)]
          rw [hEL] at HPA
          obtain ⟨hp0, hp1⟩ := prod_bd i (by omega)
          have hfin : ((q : Int) + (m : Int) + (E : Int) == (i : Int) * ((i : Int) - 1) / 2) = true := by
            rw [tri_val i (by omega)]
            have := HPA.out
            simp; omega
          replace HL := Lib.hid (HL.out.ext hbel)
          replace HBW := Lib.hid (ext_trans HBW.out hbel)
          rw [HT.out] at HSI
          clear hEL hbel
          go_wp2_with fail
          refine (impl_SortedBatch _ _ _ _ _ HL.out).mono ?_
          rintro e w8 ⟨rfl, hb8⟩
          rw [HT.out, HSI.out]
          replace HBW := Lib.hid (ext_trans HBW.out hb8)
          clear hb8
          by_cases hqz : q = 0
          · subst hqz
            have hfin2 : ((m : Int) + (E : Int) == (i : Int) * ((i : Int) - 1) / 2) = true := by
              have h := hfin
              rw [show ((0 : Nat) : Int) = 0 from rfl, Int.zero_add] at h
              exact h
            go_wp2_with fail
            go_ret
            exact ⟨rfl, HBW.out⟩
          · have hqz1 : ((q : Int) == 0) = false := by simp; omega
            have hqz2 : decide (q = 0) = false := by simp; omega
            rw [hqz2]
            go_wp2_with fail
            go_ret
            exact ⟨rfl, HBW.out⟩
  · go_enter Try.func6, Try.ntmps6
    go_wp2_with fail
    go_ret
    exact ⟨rfl, (by repeat (first | exact Below.refl _ _ | assumption | refine ext_alloc ?_ _ | refine Below.drew ?_ | refine below_drewN' ?_ _ | refine ext_set ?_ (by first | (simp; done) | (simp; omega) | omega) _ | refine ext_trans ?_ (by assumption)))⟩

end Go.Proofs.Ytafngfmloiikoaa
