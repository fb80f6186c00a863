/-
  THE LAW FnSplit: the walk. By an AI agent.
-/
import Derived.Test.YtafngfmloiikoaaDrawM
import Derived.Test.YtafngfmloiikoaaMark
namespace Go.Proofs.Ytafngfmloiikoaa
open Go.RowKit

theorem filter_at {α : Type} (f : α → Bool) (ls : List α) (j : Nat) (l : α) (h : ls[j]? = some l) (hf : f l = true) : (ls.filter f)[((ls.take j).filter f).length]? = some l := by
  obtain ⟨hh, he⟩ := List.getElem?_eq_some_iff.1 h
  have e : ls = ls.take j ++ l :: ls.drop (j + 1) := by rw [← he, ← List.drop_eq_getElem_cons hh, List.take_append_drop]
  have e2 : ls.filter f = (ls.take j).filter f ++ l :: (ls.drop (j + 1)).filter f := by
    conv => lhs; rw [e]
    rw [List.filter_append, List.filter_cons_of_pos hf]
  rw [e2]; simp
theorem without_len (ls : List Ltr) (p : ByteArray) : (without ls p).length ≤ ls.length := List.length_filter_le _ _
theorem begins_sz {c p : ByteArray} (h : p.size ≤ c.size) : beginsB c p = ((c.extract 0 p.size).toList == p.toList) := by simp [beginsB, h]

set_option maxRecDepth 100000 in
set_option maxHeartbeats 8000000 in
theorem law_FnSplit (a : Option Addr) (len cap : Nat) (w : World) (h : BytesIn w a len cap) :
    Calls Try.prog 4 #[.slice a len cap] w fun e w' => e = .returned (.bool true) ∧ Below w.heap.size w w' := by
  have HC := Lib.hid h
  have hlen : len ≤ 9223372036854775807 := by have := h.1; have := h.2.1; unfold maxLen at this; omega
  clear h
  by_cases hbig : len ≤ 1048576
  · go_enter Try.func4, Try.ntmps4
    go_wp2_with fail
    refine (DrawSplitBatch_any _ _ _ _ HC.out).mono ?_
    rintro e w1 ⟨v, ls, _, rfl, ho, hl61, ⟨p, rfl, hp8⟩, hb1⟩
    obtain ⟨A, c, rfl, hls⟩ := ho.read
    obtain ⟨n, hn⟩ : ∃ n, ls.length = n := ⟨_, rfl⟩
    rw [hn] at hls hl61 ⊢
    have HN := Lib.hid hn
    have HL := Lib.hid hls
    have HBW := Lib.hid hb1
    have hpm : p.size ≤ maxLen := by unfold maxLen; omega
    have HP := Lib.hid hpm
    clear ho hls hn hb1 hpm
    go_wp2_with fail
    refine (impl_SplitBatch _ _ _ _ _ _ HL.out HP.out).mono ?_
    rintro e w2 ⟨v1, v2, rfl, ho2, hb2⟩
    obtain ⟨A1, c1, rfl, hl1⟩ := ho2.1.read
    obtain ⟨A2, c2, rfl, hl2⟩ := ho2.2.1.read
    replace HL := Lib.hid (HL.out.ext hb2)
    replace HBW := Lib.hid (ext_trans HBW.out hb2)
    have HL1 := Lib.hid hl1
    have HL2 := Lib.hid hl2
    clear hb2 ho2 hl1 hl2
    go_wp2_with fail
    refine (spec_SplitBatch _ _ _ _ _ _ HL.out HP.out).mono ?_
    rintro e w3 ⟨v3, v4, rfl, ho3, hb3⟩
    obtain ⟨A3, c3, rfl, hl3⟩ := ho3.1.read
    obtain ⟨A4, c4, rfl, hl4⟩ := ho3.2.1.read
    replace HL := Lib.hid (HL.out.ext hb3)
    replace HL1 := Lib.hid (HL1.out.ext hb3)
    replace HL2 := Lib.hid (HL2.out.ext hb3)
    replace HBW := Lib.hid (ext_trans HBW.out hb3)
    have HL3 := Lib.hid hl3
    have HL4 := Lib.hid hl4
    clear hb3 ho3 hl3 hl4
    obtain ⟨q1, hq1⟩ : ∃ m, (splitA ls p).length = m := ⟨_, rfl⟩
    obtain ⟨q2, hq2⟩ : ∃ m, (splitB ls p).length = m := ⟨_, rfl⟩
    rw [hq1] at HL1 HL3 ⊢
    rw [hq2] at HL2 HL4 ⊢
    have HQ1 := Lib.hid hq1
    have HQ2 := Lib.hid hq2
    clear hq1 hq2
    go_wp2_with fail
    refine (soBatch_same _ _ _ _ _ _ _ _ HL1.out HL3.out).mono ?_
    rintro e w4 ⟨rfl, hb4⟩
    replace HL := Lib.hid (HL.out.ext hb4)
    replace HL1 := Lib.hid (HL1.out.ext hb4)
    replace HL2 := Lib.hid (HL2.out.ext hb4)
    replace HL3 := Lib.hid (HL3.out.ext hb4)
    replace HL4 := Lib.hid (HL4.out.ext hb4)
    replace HBW := Lib.hid (ext_trans HBW.out hb4)
    clear hb4
    go_wp2_with fail
    refine (soBatch_same _ _ _ _ _ _ _ _ HL2.out HL4.out).mono ?_
    rintro e w5 ⟨rfl, hb5⟩
    replace HL := Lib.hid (HL.out.ext hb5)
    replace HL1 := Lib.hid (HL1.out.ext hb5)
    replace HL2 := Lib.hid (HL2.out.ext hb5)
    replace HL3 := Lib.hid (HL3.out.ext hb5)
    replace HL4 := Lib.hid (HL4.out.ext hb5)
    replace HBW := Lib.hid (ext_trans HBW.out hb5)
    clear hb5
    obtain ⟨K, hK⟩ : ∃ K, cntV ls p = K := ⟨_, rfl⟩
    have HK := Lib.hid hK
    cases hbb : splitOk ls p with
    | false =>
      clear hbb hK
      go_wp2_with fail
      refine (soBatch_same _ _ _ _ _ _ _ _ HL1.out HL3.out).mono ?_
      rintro e w6 ⟨rfl, hb6⟩
      replace HL := Lib.hid (HL.out.ext hb6)
      replace HL2 := Lib.hid (HL2.out.ext hb6)
      replace HL4 := Lib.hid (HL4.out.ext hb6)
      replace HBW := Lib.hid (ext_trans HBW.out hb6)
      clear hb6
      go_wp2_with fail
      refine (soBatch_same _ _ _ _ _ _ _ _ HL2.out HL4.out).mono ?_
      rintro e w7 ⟨rfl, hb7⟩
      replace HL := Lib.hid (HL.out.ext hb7)
      replace HBW := Lib.hid (ext_trans HBW.out hb7)
      clear hb7
      go_wp2_with fail
      refine (impl_CountPrefix _ _ _ _ _ _ HL.out HP.out).mono ?_
      rintro e w8 ⟨rfl, hb8⟩
      rw [HK.out]
      replace HL := Lib.hid (HL.out.ext hb8)
      replace HBW := Lib.hid (ext_trans HBW.out hb8)
      clear hb8
      go_wp2_with fail
      refine (spec_CountPrefix _ _ _ _ _ _ HL.out HP.out).mono ?_
      rintro e w9 ⟨rfl, hb9⟩
      rw [HK.out]
      replace HBW := Lib.hid (ext_trans HBW.out hb9)
      clear hb9
      go_wp2_with fail
      go_ret
      exact ⟨rfl, HBW.out⟩
    | true =>
      have hbp : batchB ls = true ∧ prefB p = true := by simpa [splitOk] using hbb
      have HB := Lib.hid hbp.1
      have hp7 : p.size ≤ 7 := by have := hbp.2; simp [prefB] at this; omega
      have HA := Lib.hid (show splitA ls p = withP ls p from if_pos hbb)
      have HBB := Lib.hid (show splitB ls p = without ls p from if_pos hbb)
      have hq1n : q1 ≤ n := by rw [← HQ1.out, HA.out, ← HN.out]; exact withP_le ls p
      have hq2n : q2 ≤ n := by rw [← HQ2.out, HBB.out, ← HN.out]; exact without_le ls p
      have hn60 := batch_len hbp.1
      rw [HN.out] at hn60
      have HKQ := Lib.hid (show cntV ls p = (q1 : Int) from by rw [← HQ1.out, HA.out]; simp [cntV, hbb])
      clear hbb hK hbp HL3 HL4
      go_wp2_with fail
      go_loopw [11, 12, 13] (fun iv kv nv wr => ∃ j i k : Nat, j ≤ n ∧ nv = .int .i64 j ∧ iv = .int .i64 i ∧ kv = .int .i64 k ∧ (withP (ls.take j) p).length = i ∧ (without (ls.take j) p).length = k ∧ Below w5.heap.size w5 wr) (fun _ _ nv _ => n - (intOf nv).toNat)
      case atStart => exact ⟨0, 0, 0, by omega, rfl, rfl, rfl, rfl, rfl, Below.refl _ _⟩
      case round =>
        obtain ⟨j, i, k, hj, rfl, rfl, rfl, hi, hk, hbel⟩ := hrel
        have hij : i ≤ j := by rw [← hi]; exact Nat.le_trans (withP_le _ p) (List.length_take_le j ls)
        have hkj : k ≤ j := by rw [← hk]; exact Nat.le_trans (without_le _ p) (List.length_take_le j ls)
        have HI := Lib.hid hi
        have HKK := Lib.hid hk
        clear hi hk
        by_cases hjn : j < n
        · obtain ⟨g, off, l, hA, hl, _, c0, c1⟩ := (HL.out.ext hbel).at_ j hjn
          have hl7 := batch_code HB.out hl
          have HW := Lib.hid (withP_snoc (ls.take j) p l)
          have HWO := Lib.hid (without_snoc (ls.take j) p l)
          rw [← take_snoc' ls j l hl] at HW HWO
          have hbs := begins_sz (c := l.2) (p := p) (by omega)
          have hps : (p.size : Int) ≤ (l.2.size : Int) := by omega
          have hjd : decide ((j : Int) < (n : Int)) = true := by simp; omega
          have hjj : (j : Int) < (n : Int) := by omega
          have HLJ := Lib.hid hl
          cases hc : beginsB l.2 p with
          | true =>
            have hg := filter_at (fun l => beginsB l.2 p) ls j l hl hc
            have hg2 : (splitA ls p)[i]? = some l := by rw [HA.out, ← HI.out]; exact hg
            have hiq : i < q1 := by rw [← HQ1.out]; exact (List.getElem?_eq_some_iff.1 hg2).1
            obtain ⟨g1, off1, l1, hA1, hl1, _, d0, d1⟩ := (HL1.out.ext hbel).at_ i hiq
            subst hA hA1
            obtain rfl : l1 = l := by rw [hg2] at hl1; injection hl1 with hl1; exact hl1.symm
            have HI1 := Lib.hid (show (withP (ls.take (j + 1)) p).length = i + 1 from by rw [HW.out, hc, List.length_append, HI.out]; rfl)
            have HK1 := Lib.hid (show (without (ls.take (j + 1)) p).length = k from by rw [HWO.out, hc, List.length_append, HKK.out]; rfl)
            have hcc : ((l1.2.extract 0 p.size).toList == p.toList) = true := by rw [← hbs]; exact hc
            have hid' : decide ((q1 : Int) ≤ (i : Int)) = false := by simp; omega
            have hii : (i : Int) < (q1 : Int) := by omega
            clear hl hl1 hl7 hg hg2 hbs hc
            go_wp2_with fail
            go_quiet (fail)
            go_wp2_with fail
            go_roundw
            case rel => exact ⟨j + 1, i + 1, k, by omega, by go_num, by go_num, rfl, HI1.out, HK1.out, (by repeat (first | exact Below.refl _ _ | assumption | refine ext_alloc ?_ _ | refine Below.drew ?_ | refine below_drewN' ?_ _ | refine ext_set ?_ (by first | (simp; done) | (simp; omega) | omega) _ | refine ext_trans ?_ (by assumption)))⟩
            case measure => simp [intOf]; omega
          | false =>
            have hg := filter_at (fun l => !beginsB l.2 p) ls j l hl (by simp [hc])
            have hg2 : (splitB ls p)[k]? = some l := by rw [HBB.out, ← HKK.out]; exact hg
            have hkq : k < q2 := by rw [← HQ2.out]; exact (List.getElem?_eq_some_iff.1 hg2).1
            obtain ⟨g1, off1, l1, hA1, hl1, _, d0, d1⟩ := (HL2.out.ext hbel).at_ k hkq
            subst hA hA1
            obtain rfl : l1 = l := by rw [hg2] at hl1; injection hl1 with hl1; exact hl1.symm
            have HI1 := Lib.hid (show (withP (ls.take (j + 1)) p).length = i from by rw [HW.out, hc, List.length_append, HI.out]; rfl)
            have HK1 := Lib.hid (show (without (ls.take (j + 1)) p).length = k + 1 from by rw [HWO.out, hc, List.length_append, HKK.out]; rfl)
            have hcc : ((l1.2.extract 0 p.size).toList == p.toList) = false := by rw [← hbs]; exact hc
            have hid' : decide ((q2 : Int) ≤ (k : Int)) = false := by simp; omega
            have hii : (k : Int) < (q2 : Int) := by omega
            clear hl hl1 hl7 hg hg2 hbs hc
            go_wp2_with fail
            go_quiet (fail)
            go_wp2_with fail
            go_roundw
            case rel => exact ⟨j + 1, i, k + 1, by omega, by go_num, rfl, by go_num, HI1.out, HK1.out, (by repeat (first | exact Below.refl _ _ | assumption | refine ext_alloc ?_ _ | refine Below.drew ?_ | refine below_drewN' ?_ _ | refine ext_set ?_ (by first | (simp; done) | (simp; omega) | omega) _ | refine ext_trans ?_ (by assumption)))⟩
            case measure => simp [intOf]; omega
        · obtain rfl : j = n := by omega
          have hjd : decide ((j : Int) < (j : Int)) = false := by simp
          have hT : ls.take j = ls := List.take_of_length_le (by rw [HN.out]; exact Nat.le_refl _)
          obtain rfl : i = q1 := by rw [← HQ1.out, HA.out, ← HI.out, hT]
          obtain rfl : k = q2 := by rw [← HQ2.out, HBB.out, ← HKK.out, hT]
          replace HL := Lib.hid (HL.out.ext hbel)
          replace HBW := Lib.hid (ext_trans HBW.out hbel)
          clear hT hbel
          go_wp2_with fail
          refine (impl_CountPrefix _ _ _ _ _ _ HL.out HP.out).mono ?_
          rintro e w6 ⟨rfl, hb6⟩
          rw [HKQ.out]
          replace HBW := Lib.hid (ext_trans HBW.out hb6)
          clear hb6
          go_wp2_with fail
          go_ret
          exact ⟨rfl, HBW.out⟩
  · go_enter Try.func4, Try.ntmps4
    go_wp2_with fail
    go_ret
    exact ⟨rfl, (by repeat (first | exact Below.refl _ _ | assumption | refine ext_alloc ?_ _ | refine Below.drew ?_ | refine below_drewN' ?_ _ | refine ext_set ?_ (by first | (simp; done) | (simp; omega) | omega) _ | refine ext_trans ?_ (by assumption)))⟩

end Go.Proofs.Ytafngfmloiikoaa
