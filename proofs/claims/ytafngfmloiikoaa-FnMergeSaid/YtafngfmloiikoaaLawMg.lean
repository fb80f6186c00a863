/-
  THE LAW FnMerge: the walk. By an AI agent.
-/
import Derived.Test.YtafngfmloiikoaaDrawQ
import Derived.Test.YtafngfmloiikoaaSo
namespace Go.Proofs.Ytafngfmloiikoaa
open Go.RowKit

theorem mergeOk_parts {xs ys : List Ltr} (h : mergeOk xs ys = true) : sortedB xs = true ∧ sortedB ys = true ∧ batchB (xs ++ ys) = true := by
  simp only [mergeOk, Bool.and_eq_true] at h; exact ⟨h.1.1, h.1.2, h.2⟩
theorem sortedB_pair {xs : List Ltr} (h : sortedB xs = true) : xs.Pairwise leL := by
  simp only [sortedB, Bool.and_eq_true] at h; exact (srt_iff xs).1 h.2
theorem merge_sortR {xs ys : List Ltr} (h : mergeOk xs ys = true) : sortR (xs ++ ys) = mergeR xs ys := by
  obtain ⟨h1, h2, h3⟩ := mergeOk_parts h
  rw [sortR_true h3, mergeR, if_pos h]
  exact ((mergeL_Stb (sortedB_pair h1) (sortedB_pair h2)).eq).symm
theorem merge_none {xs ys : List Ltr} (h : mergeOk xs ys = true) : mergeOk (mergeR xs ys) [] = true ∧ mergeR (mergeR xs ys) [] = mergeR xs ys := by
  obtain ⟨h1, h2, h3⟩ := mergeOk_parts h
  have hb : batchB (mergeR xs ys) = true := by rw [mergeR, if_pos h, batchB_perm (mergeL_perm xs ys)]; exact h3
  have hs : sortedB (mergeR xs ys) = true := by
    simp only [sortedB, hb, Bool.true_and, srt_iff]
    rw [mergeR, if_pos h]
    exact mergeL_sorted _ _ (sortedB_pair h1) (sortedB_pair h2)
  have hk : mergeOk (mergeR xs ys) [] = true := by
    simp only [mergeOk, hs, List.append_nil, hb, Bool.and_true, Bool.true_and]; rfl
  exact ⟨hk, by rw [mergeR, if_pos hk, mergeL_nil]⟩
theorem mergeR_len {xs ys : List Ltr} (h : mergeOk xs ys = true) : (mergeR xs ys).length = xs.length + ys.length := by
  rw [mergeR, if_pos h, (mergeL_perm xs ys).length_eq, List.length_append]

set_option maxRecDepth 100000 in
set_option maxHeartbeats 8000000 in
theorem law_FnMerge (a : Option Addr) (len cap : Nat) (w : World) (h : BytesIn w a len cap) :
    Calls Try.prog 9 #[.slice a len cap] w fun e w' => e = .returned (.bool true) ∧ Below w.heap.size w w' := by
  have HC := Lib.hid h
  have hlen : len ≤ 9223372036854775807 := by have := h.1; have := h.2.1; unfold maxLen at this; omega
  clear h
  by_cases hbig : len ≤ 1048576
  · go_enter Try.func9, Try.ntmps9
    go_wp2_with fail
    refine (DrawMergeBatches_any _ _ _ _ HC.out).mono ?_
    rintro e w1 ⟨v1, xs, v2, ys, rfl, ho1, ho2, hx61, hy61, hb1⟩
    obtain ⟨A1, c1, rfl, hl1⟩ := ho1.read
    obtain ⟨A2, c2, rfl, hl2⟩ := ho2.read
    have HN1 := Lib.hid ho1.nilcap
    have HN2 := Lib.hid ho2.nilcap
    obtain ⟨n, hn⟩ : ∃ n, xs.length = n := ⟨_, rfl⟩
    obtain ⟨m, hm⟩ : ∃ m, ys.length = m := ⟨_, rfl⟩
    rw [hn] at hl1 hx61 ⊢
    rw [hm] at hl2 hy61 ⊢
    have HXN := Lib.hid hn
    have HYM := Lib.hid hm
    have HL1 := Lib.hid hl1
    have HL2 := Lib.hid hl2
    have HBW := Lib.hid hb1
    clear ho1 ho2 hl1 hl2 hn hm hb1
    go_wp2_with fail
    refine (impl_MergeBatches _ _ _ _ _ _ _ _ _ HL1.out HL2.out).mono ?_
    rintro e w2 ⟨v3, rfl, ho3, hb2⟩
    obtain ⟨A3, c3, rfl, hl3⟩ := ho3.read
    replace HL1 := Lib.hid (HL1.out.ext hb2)
    replace HL2 := Lib.hid (HL2.out.ext hb2)
    replace HBW := Lib.hid (ext_trans HBW.out hb2)
    have HL3 := Lib.hid hl3
    clear hb2 ho3 hl3
    go_wp2_with fail
    refine (spec_MergeBatches _ _ _ _ _ _ _ _ _ HL1.out HL2.out HN1.out HN2.out (by omega) (by omega)).mono ?_
    rintro e w3 ⟨v4, rfl, ho4, hb3⟩
    obtain ⟨A4, c4, rfl, hl4⟩ := ho4.read
    replace HL1 := Lib.hid (HL1.out.ext hb3)
    replace HL2 := Lib.hid (HL2.out.ext hb3)
    replace HL3 := Lib.hid (HL3.out.ext hb3)
    replace HBW := Lib.hid (ext_trans HBW.out hb3)
    have HL4 := Lib.hid hl4
    clear hb3 ho4 hl4
    obtain ⟨q, hq⟩ : ∃ q, (mergeR xs ys).length = q := ⟨_, rfl⟩
    rw [hq] at HL3 HL4 ⊢
    have HQ := Lib.hid hq
    clear hq
    go_wp2_with fail
    refine (soBatch_same _ _ _ _ _ _ _ _ HL3.out HL4.out).mono ?_
    rintro e w4 ⟨rfl, hb4⟩
    replace HL1 := Lib.hid (HL1.out.ext hb4)
    replace HL2 := Lib.hid (HL2.out.ext hb4)
    replace HL3 := Lib.hid (HL3.out.ext hb4)
    replace HL4 := Lib.hid (HL4.out.ext hb4)
    replace HBW := Lib.hid (ext_trans HBW.out hb4)
    clear hb4
    cases hbb : mergeOk xs ys with
    | false =>
      clear hbb
      go_wp2_with fail
      refine (soBatch_same _ _ _ _ _ _ _ _ HL3.out HL4.out).mono ?_
      rintro e w5 ⟨rfl, hb5⟩
      replace HBW := Lib.hid (ext_trans HBW.out hb5)
      clear hb5
      go_wp2_with fail
      go_ret
      exact ⟨rfl, HBW.out⟩
    | true =>
      have HSR := Lib.hid (merge_sortR hbb)
      have HMN := Lib.hid (merge_none hbb)
      have HQL := Lib.hid (show q = n + m from by rw [← HQ.out, mergeR_len hbb, HXN.out, HYM.out])
      clear hbb HL4
      obtain ⟨v5, w5, hr5, ho5, hb5, _, _⟩ := own_apps (W := w4) (below_box w4 (.cells #[] 31)) (own_made (Nat.le_refl _)) (HL1.out.ext (below_box _ _)) HN1.out (by simp; omega) 23
      rw [List.nil_append] at ho5
      obtain ⟨v6, w6, hr6, ho6, hb6, _, _⟩ := own_apps (W := w4) hb5 ho5 (HL2.out.ext hb5) HN2.out (by rw [HXN.out]; omega) 23
      have HR5 := Lib.hid hr5
      obtain ⟨A6, c6, rfl, hl6⟩ := ho6.read
      have HN6 := Lib.hid ho6.nilcap
      obtain ⟨L6, hL6⟩ : ∃ L, (xs ++ ys).length = L := ⟨_, rfl⟩
      rw [hL6] at hr6 hl6
      have HR6 := Lib.hid hr6
      clear hL6
      have HL6 := Lib.hid hl6
      have HL3w := Lib.hid (HL3.out.ext hb6)
      have HBW6 := Lib.hid (ext_trans HBW.out hb6)
      clear hr5 hr6 ho5 ho6 hb5 hb6 hl6 HL1 HL2
      go_wp2_with (first | (at_builtin; refine wpList_append_run rfl (.tmp 53) (.tmp 54) 23 rfl _ _ v5 w5 rfl rfl (by exact HR5.out) ?_) | (at_builtin; refine wpList_append_run rfl (.tmp 55) (.tmp 56) 23 rfl _ _ (.slice A6 L6 c6) w6 rfl rfl (by exact HR6.out) ?_))
      refine (impl_MergeBatches _ _ _ _ _ _ _ _ _ HL3w.out (LS.empty _ none 0 (by unfold maxLen; omega))).mono ?_
      rintro e w7 ⟨v7, rfl, ho7, hb7⟩
      rw [HMN.out.2] at ho7
      rw [HMN.out.1]
      obtain ⟨A7, c7, rfl, hl7⟩ := ho7.read
      rw [HQ.out] at hl7 ⊢
      have HL7 := Lib.hid hl7
      have HL3x := Lib.hid (HL3w.out.ext hb7)
      replace HL6 := Lib.hid (HL6.out.ext hb7)
      replace HBW6 := Lib.hid (ext_trans HBW6.out hb7)
      clear hb7 ho7 hl7 HL3w
      go_wp2_with fail
      refine (soSorted_any _ _ _ _ _ HL6.out HN6.out).mono ?_
      rintro e w8 ⟨v8, rfl, ho8, hb8⟩
      rw [HSR.out] at ho8
      obtain ⟨A8, c8, rfl, hl8⟩ := ho8.read
      rw [HQ.out] at hl8 ⊢
      have HL8 := Lib.hid hl8
      replace HL7 := Lib.hid (HL7.out.ext hb8)
      replace HL3x := Lib.hid (HL3x.out.ext hb8)
      replace HBW6 := Lib.hid (ext_trans HBW6.out hb8)
      clear hb8 ho8 hl8 HL6
      go_wp2_with fail
      refine (soBatch_same _ _ _ _ _ _ _ _ HL3x.out HL8.out).mono ?_
      rintro e w9 ⟨rfl, hb9⟩
      replace HL7 := Lib.hid (HL7.out.ext hb9)
      replace HL3x := Lib.hid (HL3x.out.ext hb9)
      replace HBW6 := Lib.hid (ext_trans HBW6.out hb9)
      clear hb9 HL8
      go_wp2_with fail
      refine (soBatch_same _ _ _ _ _ _ _ _ HL7.out HL3x.out).mono ?_
      rintro e w10 ⟨rfl, hb10⟩
      replace HBW6 := Lib.hid (ext_trans HBW6.out hb10)
      clear hb10
      have hql := HQL.out
      have hqe : ((q : Int) == (n : Int) + (m : Int)) = true := by simp; omega
      clear hql
      go_wp2_with fail
      go_ret
      exact ⟨rfl, HBW6.out⟩
  · go_enter Try.func9, Try.ntmps9
    go_wp2_with fail
    go_ret
    exact ⟨rfl, (by repeat (first | exact Below.refl _ _ | assumption | refine ext_alloc ?_ _ | refine Below.drew ?_ | refine below_drewN' ?_ _ | refine ext_set ?_ (by first | (simp; done) | (simp; omega) | omega) _ | refine ext_trans ?_ (by assumption)))⟩

end Go.Proofs.Ytafngfmloiikoaa
