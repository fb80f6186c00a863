/-
  THE LAW FnPasses: the walk. By an AI agent.
-/
import Derived.Test.YtafngfmloiikoaaDrawN
import Derived.Test.YtafngfmloiikoaaPlainPs
namespace Go.Proofs.Ytafngfmloiikoaa
open Go.RowKit

theorem ext_drop (c : ByteArray) (d : Nat) : (c.extract d c.size).toList = c.toList.drop d := by
  rw [Lib.extract_toList, Lib.toList_data]
  exact List.take_of_length_le (by rw [List.length_drop, Lib.size_eq]; exact Nat.le_refl _)
theorem pas_near {ls : List Ltr} (hb : batchB ls = true) {d : Nat} (hd : d < 7) {i : Nat} {x y : Ltr} (hx : (pas ls (7 - d))[i]? = some x) (hy : (pas ls (7 - d))[i + 1]? = some y) :
    Op.bytesLess (y.2.extract d y.2.size).toList (x.2.extract d x.2.size).toList = false := by
  have hs := pas_sorted hb (7 - d) (by omega)
  rw [show 7 - (7 - d) = d by omega] at hs
  have h := List.Pairwise.sublist (two_sub _ _ _ _ hx hy) hs
  simp at h
  rw [ext_drop, ext_drop]
  exact h
theorem pas_next {ls : List Ltr} (hb : batchB ls = true) {d : Nat} (hd : d < 7) : passR (pas ls (7 - (d + 1))) (d : Int) = pas ls (7 - d) := by
  rw [passR_nat (pas_batch hb _ (by omega)) hd]
  have e : 7 - d = (7 - (d + 1)) + 1 := by omega
  rw [e]
  show _ = passL (pas ls (7 - (d + 1))) (6 - (7 - (d + 1)))
  rw [show 6 - (7 - (d + 1)) = d by omega]

set_option maxRecDepth 100000 in
set_option maxHeartbeats 8000000 in
theorem law_FnPasses (a : Option Addr) (len cap : Nat) (w : World) (h : BytesIn w a len cap) :
    Calls Try.prog 10 #[.slice a len cap] w fun e w' => e = .returned (.bool true) ∧ Below w.heap.size w w' := by
  have HC := Lib.hid h
  have hlen : len ≤ 9223372036854775807 := by have := h.1; have := h.2.1; unfold maxLen at this; omega
  clear h
  by_cases hbig : len ≤ 1048576
  · go_enter Try.func10, Try.ntmps10
    go_wp2_with fail
    refine (DrawSortBatch_any _ _ _ _ HC.out).mono ?_
    rintro e w1 ⟨v, ls, rfl, ho, hl61, hb1⟩
    obtain ⟨A, c, rfl, hls⟩ := ho.read
    obtain ⟨n, hn⟩ : ∃ n, ls.length = n := ⟨_, rfl⟩
    have HNC := Lib.hid ho.nilcap
    rw [hn] at hls hl61 ⊢
    have HN := Lib.hid hn
    have HL := Lib.hid hls
    have HBW := Lib.hid hb1
    clear ho hls hn hb1
    go_wp2_with fail
    refine (impl_SortBatch _ _ _ _ _ HL.out HNC.out).mono ?_
    rintro e w2 ⟨v2, rfl, ho2, hb2⟩
    obtain ⟨A2, c2, rfl, hl2⟩ := ho2.read
    replace HL := Lib.hid (HL.out.ext hb2)
    replace HBW := Lib.hid (ext_trans HBW.out hb2)
    have HL2 := Lib.hid hl2
    clear hb2 ho2 hl2
    go_wp2_with fail
    refine (spec_SortBatch _ _ _ _ _ HL.out HNC.out).mono ?_
    rintro e w3 ⟨v3, rfl, ho3, hb3⟩
    obtain ⟨A3, c3, rfl, hl3⟩ := ho3.read
    replace HL := Lib.hid (HL.out.ext hb3)
    replace HL2 := Lib.hid (HL2.out.ext hb3)
    replace HBW := Lib.hid (ext_trans HBW.out hb3)
    have HL3 := Lib.hid hl3
    clear hb3 ho3 hl3
    obtain ⟨m, hm⟩ : ∃ m, (sortR ls).length = m := ⟨_, rfl⟩
    rw [hm] at HL2 HL3 ⊢
    have HM := Lib.hid hm
    clear hm
    go_wp2_with fail
    refine (soBatch_same _ _ _ _ _ _ _ _ HL2.out HL3.out).mono ?_
    rintro e w4 ⟨rfl, hb4⟩
    replace HL := Lib.hid (HL.out.ext hb4)
    replace HL2 := Lib.hid (HL2.out.ext hb4)
    replace HL3 := Lib.hid (HL3.out.ext hb4)
    replace HBW := Lib.hid (ext_trans HBW.out hb4)
    clear hb4
    cases hbb : batchB ls with
    | false =>
      clear hbb
      go_wp2_with fail
      refine (soBatch_same _ _ _ _ _ _ _ _ HL2.out HL3.out).mono ?_
      rintro e w5 ⟨rfl, hb5⟩
      replace HBW := Lib.hid (ext_trans HBW.out hb5)
      clear hb5
      go_wp2_with fail
      go_ret
      exact ⟨rfl, HBW.out⟩
    | true =>
      have HB := Lib.hid hbb
      have HE := Lib.hid (show sortR ls = pas ls 7 from by rw [sortR_true hbb, ← sortL_stab hbb, sortL_pas])
      clear hbb HL3
      go_wp2_with fail
      go_loopw [8, 9] (fun yv dv wr => ∃ (t : Nat) (Ay : Option Addr) (cy : Nat), t ≤ 7 ∧ dv = .int .i64 ((t : Int) - 1) ∧ yv = .slice Ay n cy ∧ LS wr Ay n cy (pas ls (7 - t)) ∧ Below w4.heap.size w4 wr) (fun _ dv _ => (intOf dv + 1).toNat)
      case atStart => exact ⟨7, A, c, by omega, rfl, rfl, HL.out, Below.refl _ _⟩
      case round =>
        clear HL
        obtain ⟨t, Ay, cy, ht, rfl, rfl, hly, hbel⟩ := hrel
        have HY := Lib.hid hly
        have HBE := Lib.hid hbel
        clear hly hbel
        by_cases ht0 : 0 < t
        · obtain ⟨d, rfl⟩ : ∃ d, t = d + 1 := ⟨t - 1, by omega⟩
          rw [show (((d + 1 : Nat) : Int) - 1) = (d : Int) by omega]
          have hd : d < 7 := by omega
          have HNX := Lib.hid (pas_next HB.out hd)
          have hii : decide (0 ≤ (d : Int)) = true := by simp
          go_wp2_with fail
          refine (impl_SortPass _ _ _ _ _ _ HY.out).mono ?_
          rintro e w5 ⟨v5, rfl, ho5, hb5⟩
          rw [HNX.out] at ho5
          obtain ⟨A5, c5, rfl, hl5⟩ := ho5.read
          have HLN := Lib.hid (show (pas ls (7 - d)).length = n from by
            have h1 := (passL_perm (pas ls (7 - (d + 1))) d (batch_digs (pas_batch HB.out _ (by omega)) _ hd)).length_eq
            rw [← passR_nat (pas_batch HB.out _ (by omega)) hd, HNX.out] at h1
            rw [h1]; exact HY.out.1)
          rw [HLN.out] at hl5 ⊢
          have HL5 := Lib.hid hl5
          have HB5 := Lib.hid (ext_trans HBE.out hb5)
          clear hl5 ho5 hb5 HY HBE
          go_wp2_with fail
          go_loopw [10] (fun iv wr => ∃ i : Nat, 1 ≤ i ∧ (i ≤ n ∨ i = 1) ∧ iv = .int .i64 i ∧ Below w5.heap.size w5 wr) (fun iv _ => n - (intOf iv).toNat)
          case atStart => exact ⟨1, by omega, by omega, rfl, Below.refl _ _⟩
          case round =>
            obtain ⟨i, hi1, hi, rfl, hbi⟩ := hrel
            by_cases him : i < n
            · obtain ⟨p, rfl⟩ : ∃ p, i = p + 1 := ⟨i - 1, by omega⟩
              obtain ⟨g, off, y, hA, hy, _, c0, c1⟩ := (HL5.out.ext hbi).at_ (p + 1) him
              obtain ⟨g', off', x, hA', hx, _, d0, d1⟩ := (HL5.out.ext hbi).at_ p (by omega)
              subst hA
              injection hA' with hA'
              injection hA' with hg1 hg2
              subst hg1 hg2
              have hlt := pas_near HB.out hd hx hy
              have hpb := pas_batch HB.out (7 - d) (by omega)
              have hdx : (d : Int) ≤ (x.2.size : Int) := by have := batch_sz hpb x (List.mem_of_getElem? hx); omega
              have hdy : (d : Int) ≤ (y.2.size : Int) := by have := batch_sz hpb y (List.mem_of_getElem? hy); omega
              have hpd : decide ((p : Int) + 1 < (n : Int)) = true := by simp; omega
              have hpm : (p : Int) + 1 < (n : Int) := by omega
              have hpm2 : (p : Int) < (n : Int) := by omega
              have p0 : (0 : Int) ≤ (p : Int) + 1 := by omega
              clear hx hy hpb c0 d0
              go_wp2_with fail
              have hwp : IntKind.i64.wrap (p : Int) = (p : Int) := IntWalk.i64_in _ (by omega)
              have e0 : ((p : Int) + 1).toNat = p + 1 := by omega
              go_quiet (fail)
              clear hwp e0
              go_wp2_with fail
              go_roundw
              case rel => exact ⟨p + 1 + 1, by omega, by omega, by go_num, (by repeat (first | exact Below.refl _ _ | assumption | refine ext_alloc ?_ _ | refine Below.drew ?_ | refine below_drewN' ?_ _ | refine ext_set ?_ (by first | (simp; done) | (simp; omega) | omega) _ | refine ext_trans ?_ (by assumption)))⟩
              case measure => simp [intOf]; omega
            · have hpd : decide ((i : Int) < (n : Int)) = false := by simp; omega
              go_wp2_with fail
              go_roundw
              case rel => exact ⟨d, A5, c5, by omega, by go_num, rfl, HL5.out.ext hbi, ext_trans HB5.out hbi⟩
              case measure => simp [intOf]
        · obtain rfl : t = 0 := by omega
          have HYE := Lib.hid (show LS wr Ay n cy (sortR ls) from by rw [HE.out]; exact HY.out)
          have HL2w := Lib.hid (HL2.out.ext HBE.out)
          replace HBW := Lib.hid (ext_trans HBW.out HBE.out)
          clear HY
          go_wp2_with fail
          refine (soBatch_same _ _ _ _ _ _ _ _ HYE.out HL2w.out).mono ?_
          rintro e w6 ⟨rfl, hb6⟩
          replace HBW := Lib.hid (ext_trans HBW.out hb6)
          clear hb6
          go_wp2_with fail
          go_ret
          exact ⟨rfl, HBW.out⟩
  · go_enter Try.func10, Try.ntmps10
    go_wp2_with fail
    go_ret
    exact ⟨rfl, (by repeat (first | exact Below.refl _ _ | assumption | refine ext_alloc ?_ _ | refine Below.drew ?_ | refine below_drewN' ?_ _ | refine ext_set ?_ (by first | (simp; done) | (simp; omega) | omega) _ | refine ext_trans ?_ (by assumption)))⟩

end Go.Proofs.Ytafngfmloiikoaa
