/-
  THE LAW FnMergeSort: plain facts and the walk. By an AI agent.
-/
import Derived.Test.YtafngfmloiikoaaDrawN
import Derived.Test.YtafngfmloiikoaaSo
import Derived.Test.YtafngfmloiikoaaPlainS
import Derived.Test.YtafngfmloiikoaaRot
namespace Go.Proofs.Ytafngfmloiikoaa
open Go.RowKit

theorem batch_sub {xs ys : List Ltr} (h : xs.Sublist ys) (hb : batchB ys = true) : batchB xs = true := by
  rw [batchB_true] at hb ⊢
  exact ⟨Nat.le_trans h.length_le hb.1, fun l hl => hb.2.1 l (h.subset hl), List.Pairwise.sublist (h.map Prod.fst) hb.2.2⟩
theorem ms_parts {ls : List Ltr} (hb : batchB ls = true) (k : Nat) : mergeOk (sortR (ls.take k)) (sortR (ls.drop k)) = true ∧ mergeR (sortR (ls.take k)) (sortR (ls.drop k)) = sortR ls := by
  have b1 := batch_sub (List.take_sublist k ls) hb
  have b2 := batch_sub (List.drop_sublist k ls) hb
  have hk : mergeOk (sortR (ls.take k)) (sortR (ls.drop k)) = true := by
    rw [sortR_true b1, sortR_true b2]
    simp only [mergeOk, stabL_sortedB b1, stabL_sortedB b2, Bool.true_and]
    rw [batchB_perm ((stabL_perm _).append (stabL_perm _)), List.take_append_drop]; exact hb
  refine ⟨hk, ?_⟩
  rw [mergeR, if_pos hk, sortR_true b1, sortR_true b2, sortR_true hb, stabL_app, List.take_append_drop]
theorem own_flat {w : World} {B : Nat} {A : Option Addr} {n cap : Nat} {ls : List Ltr} (h : Own w B (.slice A n cap) ls) : ∀ ad, A = some ad → ∃ g off : Nat, ad = ⟨g, off, none⟩ := by
  intro ad hA
  rcases h.1.2 with ⟨hv, _⟩ | ⟨g, cap', cur, hv, _⟩
  · simp at hv; rw [hA] at hv; cases hv.1
  · simp at hv; rw [hA] at hv; injection hv.1 with h1; exact ⟨g, 0, h1⟩
theorem LS.head {w : World} {A : Option Addr} {n cap : Nat} {ls : List Ltr} (h : LS w A n cap ls) (k : Nat) (hk : k ≤ n) : LS w A k cap (ls.take k) := by
  obtain ⟨h1, h2, h3, h4, h5⟩ := h
  refine ⟨by rw [List.length_take]; omega, by omega, h3, fun l hl => h4 l (List.mem_of_mem_take hl), fun h0 => ?_⟩
  obtain ⟨g, off, ha, hc⟩ := h5 (by omega)
  refine ⟨g, off, ha, fun i hi => ?_⟩
  have hi' : i < ls.length := by simp at hi; omega
  have := hc i hi'
  rw [List.getElem_take]; exact this
theorem LS.rest {w : World} {g off n cap : Nat} {ls : List Ltr} (h : LS w (some ⟨g, off, none⟩) n cap ls) (k : Nat) (hk : k ≤ n) : LS w (some ⟨g, off + k * 2, none⟩) (n - k) (cap - k) (ls.drop k) := by
  obtain ⟨h1, h2, h3, h4, h5⟩ := h
  refine ⟨by rw [List.length_drop]; omega, by omega, by omega, fun l hl => h4 l (List.mem_of_mem_drop hl), fun h0 => ⟨g, off + k * 2, rfl, fun i hi => ?_⟩⟩
  obtain ⟨g', off', ha, hc⟩ := h5 (by omega)
  simp at ha
  obtain ⟨rfl, rfl⟩ := ha
  have hi' : k + i < ls.length := by simp at hi; omega
  have := hc (k + i) hi'
  rw [List.getElem_drop, show off + k * 2 + i * 2 = off + (k + i) * 2 by omega]
  exact this

set_option maxRecDepth 100000 in
set_option maxHeartbeats 8000000 in
theorem law_FnMergeSort (a : Option Addr) (len cap : Nat) (a2 : Option Addr) (len2 cap2 : Nat) (w : World) (h : BytesIn w a len cap) (h2 : BytesIn w a2 len2 cap2) :
    Calls Try.prog 11 #[.slice a len cap, .slice a2 len2 cap2] w fun e w' => e = .returned (.bool true) ∧ Below w.heap.size w w' := by
  have HC := Lib.hid h
  have hlen : len ≤ 9223372036854775807 := by have := h.1; have := h.2.1; unfold maxLen at this; omega
  have hlen2 : len2 ≤ 9223372036854775807 := by have := h2.1; have := h2.2.1; unfold maxLen at this; omega
  clear h h2
  by_cases hbig : len ≤ 1048576
  · have hbd : decide ((1048576 : Int) < (len : Int)) = false := by simp; omega
    by_cases hbig2 : len2 ≤ 1048576
    · have hbd2 : decide ((1048576 : Int) < (len2 : Int)) = false := by simp; omega
      go_enter Try.func11, Try.ntmps11
      go_wp2_with fail
      refine (DrawSortBatch_any _ _ _ _ HC.out).mono ?_
      rintro e w1 ⟨v, ls, rfl, ho, hl61, hb1⟩
      obtain ⟨A, c, rfl, hls⟩ := ho.read
      obtain ⟨n, hn⟩ : ∃ n, ls.length = n := ⟨_, rfl⟩
      have HNC := Lib.hid ho.nilcap
      have HF := Lib.hid (own_flat ho)
      rw [hn] at hls hl61 ⊢
      have HN := Lib.hid hn
      have HL := Lib.hid hls
      have HBW := Lib.hid hb1
      clear ho hls hn hb1
      go_wp2_with fail
      refine (impl_SortBatch _ _ _ _ _ HL.out HNC.out).mono ?_
      rintro e w2 ⟨v2, rfl, ho2, hb2⟩
      obtain ⟨A2, c2, rfl, hl2⟩ := ho2.read
      replace HL := Lib.hid (HL.out.ext hb2)
      replace HBW := Lib.hid (ext_trans HBW.out hb2)
      have HL2 := Lib.hid hl2
      clear hb2 ho2 hl2
      go_wp2_with fail
      refine (spec_SortBatch _ _ _ _ _ HL.out HNC.out).mono ?_
      rintro e w3 ⟨v3, rfl, ho3, hb3⟩
      obtain ⟨A3, c3, rfl, hl3⟩ := ho3.read
      replace HL := Lib.hid (HL.out.ext hb3)
      replace HL2 := Lib.hid (HL2.out.ext hb3)
      replace HBW := Lib.hid (ext_trans HBW.out hb3)
      have HL3 := Lib.hid hl3
      clear hb3 ho3 hl3
      obtain ⟨m, hm⟩ : ∃ m, (sortR ls).length = m := ⟨_, rfl⟩
      rw [hm] at HL2 HL3 ⊢
      have HM := Lib.hid hm
      clear hm
      go_wp2_with fail
      refine (soBatch_same _ _ _ _ _ _ _ _ HL2.out HL3.out).mono ?_
      rintro e w4 ⟨rfl, hb4⟩
      replace HL := Lib.hid (HL.out.ext hb4)
      replace HL2 := Lib.hid (HL2.out.ext hb4)
      replace HL3 := Lib.hid (HL3.out.ext hb4)
      replace HBW := Lib.hid (ext_trans HBW.out hb4)
      clear hb4
      cases hbb : batchB ls with
      | false =>
        clear hbb
        go_wp2_with fail
        refine (soBatch_same _ _ _ _ _ _ _ _ HL2.out HL3.out).mono ?_
        rintro e w5 ⟨rfl, hb5⟩
        replace HBW := Lib.hid (ext_trans HBW.out hb5)
        clear hb5
        go_wp2_with fail
        go_ret
        exact ⟨rfl, HBW.out⟩
      | true =>
        have HB := Lib.hid hbb
        obtain ⟨k, hk⟩ : ∃ k, len2 % (n + 1) = k := ⟨_, rfl⟩
        have hkn : k ≤ n := by have := Nat.mod_lt len2 (show 0 < n + 1 by omega); omega
        have HK := Lib.hid (show ((len2 : Int) % ((n : Int) + 1)) = (k : Int) by subst hk; simp)
        have HP := Lib.hid (ms_parts hbb k)
        have hnc : n ≤ c := HL.out.2.1
        clear hbb hk HL3
        have hn1 : ((n : Int) + 1 == 0) = false := by simp; omega
        have HLT := Lib.hid (show LS w4.drew A k c (ls.take k) from (HL.out.head k hkn).ext (Below.drew (Below.refl _ _)))
        have HNT := Lib.hid HNC.out
        have hkc : k ≤ c := by omega
        have hknd : (k : Int) ≤ (n : Int) := by omega
        have hkcd : (k : Int) ≤ (c : Int) := by omega
        go_wp2_with fail
        rw [HK.out]
        cases A with
        | none =>
          obtain rfl : c = 0 := HNC.out rfl
          obtain rfl : n = 0 := by omega
          obtain rfl : k = 0 := by omega
          obtain rfl : ls = [] := List.eq_nil_of_length_eq_zero HN.out
          replace HLT := Lib.hid (show LS w4.drew none 0 0 [] from LS.empty _ _ _ (by unfold maxLen; omega))
          replace HP := Lib.hid (show mergeOk (sortR []) (sortR []) = true ∧ mergeR (sortR []) (sortR []) = sortR [] from HP.out)
          go_region_held3 (fun _ => True) (trivial) (first
          | (go_at_call 49; (with_reducible refine (soSorted_any none 0 0 [] _ ?_ (fun _ => rfl)).mono ?_); (first | (with_reducible exact HLT.out) | (with_reducible exact HLT.out.ext hbX)); rintro e wX ⟨vX, rfl, hoX, hbX⟩; obtain ⟨AX, cX, rfl, hlX⟩ := hoX.read; clear hoX)
          | (go_at_call 47; (with_reducible refine (impl_MergeBatches _ _ _ (sortR []) _ _ _ (sortR []) _ ?_ ?_).mono ?_); (first | (with_reducible exact hlX) | (refine LS.ext ?_ hbX; with_reducible assumption)); (first | (with_reducible exact hlX) | (refine LS.ext ?_ hbX; with_reducible assumption)); rintro e wM ⟨vM, rfl, hoM, hbM⟩))
          all_goals
            rw [HP.out.1]
            rw [HP.out.2] at hoM
            obtain ⟨AM, cM, rfl, hlM⟩ := hoM.read
            rw [HM.out] at hlM ⊢
            have HLM := Lib.hid hlM
            have hb5 : Below w4.heap.size w4 wM := by first | exact ext_trans (ext_trans (ext_trans (Below.drew (Below.refl _ _)) (by assumption)) (by assumption)) hbM | exact (by repeat (first | exact Below.refl _ _ | assumption | refine ext_alloc ?_ _ | refine Below.drew ?_ | refine below_drewN' ?_ _ | refine ext_set ?_ (by first | (simp; done) | (simp; omega) | omega) _ | refine ext_trans ?_ (by assumption)))
            have HL2M := Lib.hid (HL2.out.ext hb5)
            have HBM := Lib.hid (ext_trans HBW.out hb5)
            clear hlM hoM hb5
            go_wp2_with fail
            refine (soBatch_same _ _ _ _ _ _ _ _ HLM.out HL2M.out).mono ?_
            rintro e w9 ⟨rfl, hb9⟩
            replace HBM := Lib.hid (ext_trans HBM.out hb9)
            clear hb9
            go_wp2_with fail
            go_ret
            exact ⟨rfl, HBM.out⟩
        | some ad =>
          have hoff : ∃ g off : Nat, ad = ⟨g, off, none⟩ := HF.out ad rfl
          obtain ⟨g, off, rfl⟩ := hoff
          by_cases hck : c = k
          · have hck' : k = c := hck.symm
            have hnk' : k = n := by omega
            clear hck
            subst hck' hnk'
            have HLD := Lib.hid (show LS w4.drew (some ⟨g, off, none⟩) 0 0 (ls.drop k) from by
              rw [List.drop_eq_nil_of_le (by rw [HN.out]; exact Nat.le_refl _)]; exact LS.empty _ _ _ (by unfold maxLen; omega))
            have HND := Lib.hid (show (some (⟨g, off, none⟩ : Addr)) = none → 0 = 0 from fun h => by cases h)
            go_region_held3 (fun _ => True) (trivial) (first
          | (go_at_call 49; (with_reducible refine (soSorted_any (some ⟨g, off, none⟩) k k (ls.take k) _ ?_ HNT.out).mono ?_); (first | (with_reducible exact HLT.out) | (with_reducible exact HLT.out.ext hbX)); rintro e wX ⟨vX, rfl, hoX, hbX⟩; obtain ⟨AX, cX, rfl, hlX⟩ := hoX.read; clear hoX)
          | (go_at_call 49; (with_reducible refine (soSorted_any (some ⟨g, off, none⟩) 0 0 (ls.drop k) _ ?_ (fun _ => rfl)).mono ?_); (first | (with_reducible exact HLD.out) | (with_reducible exact HLD.out.ext hbX)); rintro e wX ⟨vX, rfl, hoX, hbX⟩; obtain ⟨AX, cX, rfl, hlX⟩ := hoX.read; clear hoX)
          | (go_at_call 47; (with_reducible refine (impl_MergeBatches _ _ _ (sortR (ls.take k)) _ _ _ (sortR (ls.drop k)) _ ?_ ?_).mono ?_); (first | (with_reducible exact hlX) | (refine LS.ext ?_ hbX; with_reducible assumption)); (first | (with_reducible exact hlX) | (refine LS.ext ?_ hbX; with_reducible assumption)); rintro e wM ⟨vM, rfl, hoM, hbM⟩))
            all_goals
              rw [HP.out.1]
              rw [HP.out.2] at hoM
              obtain ⟨AM, cM, rfl, hlM⟩ := hoM.read
              rw [HM.out] at hlM ⊢
              have HLM := Lib.hid hlM
              have hb5 : Below w4.heap.size w4 wM := by first | exact ext_trans (ext_trans (ext_trans (Below.drew (Below.refl _ _)) (by assumption)) (by assumption)) hbM | exact (by repeat (first | exact Below.refl _ _ | assumption | refine ext_alloc ?_ _ | refine Below.drew ?_ | refine below_drewN' ?_ _ | refine ext_set ?_ (by first | (simp; done) | (simp; omega) | omega) _ | refine ext_trans ?_ (by assumption)))
              have HL2M := Lib.hid (HL2.out.ext hb5)
              have HBM := Lib.hid (ext_trans HBW.out hb5)
              clear hlM hoM hb5
              go_wp2_with fail
              refine (soBatch_same _ _ _ _ _ _ _ _ HLM.out HL2M.out).mono ?_
              rintro e w9 ⟨rfl, hb9⟩
              replace HBM := Lib.hid (ext_trans HBM.out hb9)
              clear hb9
              go_wp2_with fail
              go_ret
              exact ⟨rfl, HBM.out⟩
          · have HLD := Lib.hid (show LS w4.drew (some ⟨g, off + k * 2, none⟩) (n - k) (c - k) (ls.drop k) from (HL.out.rest k hkn).ext (Below.drew (Below.refl _ _)))
            have HND := Lib.hid (show (some (⟨g, off + k * 2, none⟩ : Addr)) = none → c - k = 0 from fun h => by cases h)
            have hck2 : ¬ c - k = 0 := by omega
            go_region_held3 (fun _ => True) (trivial) (first
          | (go_at_call 49; (with_reducible refine (soSorted_any (some ⟨g, off, none⟩) k c (ls.take k) _ ?_ HNT.out).mono ?_); (first | (with_reducible exact HLT.out) | (with_reducible exact HLT.out.ext hbX)); rintro e wX ⟨vX, rfl, hoX, hbX⟩; obtain ⟨AX, cX, rfl, hlX⟩ := hoX.read; clear hoX)
          | (go_at_call 49; (with_reducible refine (soSorted_any (some ⟨g, off + k * 2, none⟩) (n - k) (c - k) (ls.drop k) _ ?_ HND.out).mono ?_); (first | (with_reducible exact HLD.out) | (with_reducible exact HLD.out.ext hbX)); rintro e wX ⟨vX, rfl, hoX, hbX⟩; obtain ⟨AX, cX, rfl, hlX⟩ := hoX.read; clear hoX)
          | (go_at_call 47; (with_reducible refine (impl_MergeBatches _ _ _ (sortR (ls.take k)) _ _ _ (sortR (ls.drop k)) _ ?_ ?_).mono ?_); (first | (with_reducible exact hlX) | (refine LS.ext ?_ hbX; with_reducible assumption)); (first | (with_reducible exact hlX) | (refine LS.ext ?_ hbX; with_reducible assumption)); rintro e wM ⟨vM, rfl, hoM, hbM⟩))
            all_goals
              rw [HP.out.1]
              rw [HP.out.2] at hoM
              obtain ⟨AM, cM, rfl, hlM⟩ := hoM.read
              rw [HM.out] at hlM ⊢
              have HLM := Lib.hid hlM
              have hb5 : Below w4.heap.size w4 wM := by first | exact ext_trans (ext_trans (ext_trans (Below.drew (Below.refl _ _)) (by assumption)) (by assumption)) hbM | exact (by repeat (first | exact Below.refl _ _ | assumption | refine ext_alloc ?_ _ | refine Below.drew ?_ | refine below_drewN' ?_ _ | refine ext_set ?_ (by first | (simp; done) | (simp; omega) | omega) _ | refine ext_trans ?_ (by assumption)))
              have HL2M := Lib.hid (HL2.out.ext hb5)
              have HBM := Lib.hid (ext_trans HBW.out hb5)
              clear hlM hoM hb5
              go_wp2_with fail
              refine (soBatch_same _ _ _ _ _ _ _ _ HLM.out HL2M.out).mono ?_
              rintro e w9 ⟨rfl, hb9⟩
              replace HBM := Lib.hid (ext_trans HBM.out hb9)
              clear hb9
              go_wp2_with fail
              go_ret
              exact ⟨rfl, HBM.out⟩
    · have hbd2 : decide ((1048576 : Int) < (len2 : Int)) = true := by simp; omega
      go_enter Try.func11, Try.ntmps11
      go_wp2_with fail
      go_ret
      exact ⟨rfl, (by repeat (first | exact Below.refl _ _ | assumption | refine ext_alloc ?_ _ | refine Below.drew ?_ | refine below_drewN' ?_ _ | refine ext_set ?_ (by first | (simp; done) | (simp; omega) | omega) _ | refine ext_trans ?_ (by assumption)))⟩
  · have hbd : decide ((1048576 : Int) < (len : Int)) = true := by simp; omega
    go_enter Try.func11, Try.ntmps11
    go_wp2_with fail
    go_ret
    exact ⟨rfl, (by repeat (first | exact Below.refl _ _ | assumption | refine ext_alloc ?_ _ | refine Below.drew ?_ | refine below_drewN' ?_ _ | refine ext_set ?_ (by first | (simp; done) | (simp; omega) | omega) _ | refine ext_trans ?_ (by assumption)))⟩

end Go.Proofs.Ytafngfmloiikoaa
