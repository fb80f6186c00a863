/-
  THE LAW FnSortPass: the walk. By an AI agent.
-/
import Derived.Test.YtafngfmloiikoaaDrawN
import Derived.Test.YtafngfmloiikoaaKeep
import Derived.Test.YtafngfmloiikoaaPlainPs
namespace Go.Proofs.Ytafngfmloiikoaa
open Go.RowKit

set_option maxRecDepth 100000 in
set_option maxHeartbeats 8000000 in
theorem law_FnSortPass (a : Option Addr) (len cap : Nat) (w : World) (h : BytesIn w a len cap) :
    Calls Try.prog 7 #[.slice a len cap] w fun e w' => e = .returned (.bool true) ∧ Below w.heap.size w w' := by
  have HC := Lib.hid h
  have hlen : len ≤ 9223372036854775807 := by have := h.1; have := h.2.1; unfold maxLen at this; omega
  clear h
  by_cases hbig : len ≤ 1048576
  · go_enter Try.func7, Try.ntmps7
    go_wp2_with fail
    refine (DrawSortPass_any _ _ _ _ HC.out).mono ?_
    rintro e w1 ⟨v, ls, _, rfl, ho, hl61, ⟨di, rfl⟩, hb1⟩
    obtain ⟨A, c, rfl, hls⟩ := ho.read
    obtain ⟨n, hn⟩ : ∃ n, ls.length = n := ⟨_, rfl⟩
    rw [hn] at hls hl61 ⊢
    have HN := Lib.hid hn
    have HL := Lib.hid hls
    have HBW := Lib.hid hb1
    clear ho hls hn hb1
    go_wp2_with fail
    refine (impl_SortPass _ _ _ _ _ _ HL.out).mono ?_
    rintro e w2 ⟨v2, rfl, ho2, hb2⟩
    obtain ⟨A2, c2, rfl, hl2⟩ := ho2.read
    replace HL := Lib.hid (HL.out.ext hb2)
    replace HBW := Lib.hid (ext_trans HBW.out hb2)
    have HL2 := Lib.hid hl2
    clear hb2 ho2 hl2
    go_wp2_with fail
    refine (spec_SortPass _ _ _ _ _ _ HL.out).mono ?_
    rintro e w3 ⟨v3, rfl, ho3, hb3⟩
    obtain ⟨A3, c3, rfl, hl3⟩ := ho3.read
    replace HL := Lib.hid (HL.out.ext hb3)
    replace HL2 := Lib.hid (HL2.out.ext hb3)
    replace HBW := Lib.hid (ext_trans HBW.out hb3)
    have HL3 := Lib.hid hl3
    clear hb3 ho3 hl3
    have hsl := passR_len ls di
    obtain ⟨m, hm⟩ : ∃ m, (passR ls di).length = m := ⟨_, rfl⟩
    rw [hm] at HL2 HL3 hsl ⊢
    have HM := Lib.hid hm
    rw [HN.out] at hsl
    clear hm
    go_wp2_with fail
    refine (soBatch_same _ _ _ _ _ _ _ _ HL2.out HL3.out).mono ?_
    rintro e w4 ⟨rfl, hb4⟩
    replace HL := Lib.hid (HL.out.ext hb4)
    replace HL2 := Lib.hid (HL2.out.ext hb4)
    replace HL3 := Lib.hid (HL3.out.ext hb4)
    replace HBW := Lib.hid (ext_trans HBW.out hb4)
    clear hb4
    cases hbb : binOk ls di with
    | false =>
      clear hbb
      go_wp2_with fail
      refine (soBatch_same _ _ _ _ _ _ _ _ HL2.out HL3.out).mono ?_
      rintro e w5 ⟨rfl, hb5⟩
      replace HBW := Lib.hid (ext_trans HBW.out hb5)
      clear hb5
      go_wp2_with fail
      go_ret
      exact ⟨rfl, HBW.out⟩
    | true =>
      obtain ⟨hB, hd0, hd7⟩ := binOk_parts hbb
      obtain ⟨d, rfl⟩ : ∃ d : Nat, di = d := ⟨di.toNat, by omega⟩
      have hd : d < 7 := by omega
      have HB := Lib.hid hB
      have HE := Lib.hid (passR_nat hB hd)
      have HT := Lib.hid (show passR (passR ls (d : Int)) (d : Int) = passR ls (d : Int) from by rw [passR_nat hB hd]; exact passR_twice hB hd)
      clear hbb HL3 hB hd0 hd7
      go_wp2_with fail
      refine (impl_SortPass _ _ _ _ _ _ HL2.out).mono ?_
      rintro e w5 ⟨v5, rfl, ho5, hb5⟩
      rw [HT.out] at ho5
      obtain ⟨A5, c5, rfl, hl5⟩ := ho5.read
      rw [HM.out] at hl5 ⊢
      replace HL := Lib.hid (HL.out.ext hb5)
      replace HL2 := Lib.hid (HL2.out.ext hb5)
      replace HBW := Lib.hid (ext_trans HBW.out hb5)
      have HL5 := Lib.hid hl5
      clear hb5 ho5 hl5
      go_wp2_with fail
      go_loopw [11] (fun iv wr => ∃ i : Nat, 1 ≤ i ∧ (i ≤ m ∨ i = 1) ∧ iv = .int .i64 i ∧ Below w5.heap.size w5 wr) (fun iv _ => m - (intOf iv).toNat)
      case atStart => exact ⟨1, by omega, by omega, rfl, Below.refl _ _⟩
      case round =>
        obtain ⟨i, hi1, hi, rfl, hbel⟩ := hrel
        by_cases him : i < m
        · obtain ⟨p, rfl⟩ : ∃ p, i = p + 1 := ⟨i - 1, by omega⟩
          obtain ⟨g, off, y, hA, hy, _, c0, c1⟩ := (HL2.out.ext hbel).at_ (p + 1) him
          obtain ⟨g', off', x, hA', hx, _, d0, d1⟩ := (HL2.out.ext hbel).at_ p (by omega)
          subst hA
          injection hA' with hA'
          injection hA' with hg1 hg2
          subst hg1 hg2
          rw [HE.out] at hx hy
          have hdg := passL_near hx hy
          have hpb := passL_batch HB.out d hd
          have hdx : d < x.2.size := dig_lt hpb (List.mem_of_getElem? hx) d hd
          have hdy : d < y.2.size := dig_lt hpb (List.mem_of_getElem? hy) d hd
          have ex := dig_eq x.2 d hdx
          have ey := dig_eq y.2 d hdy
          have hpd : decide ((p : Int) + 1 < (m : Int)) = true := by simp; omega
          have hpm : (p : Int) + 1 < (m : Int) := by omega
          have hpm2 : (p : Int) < (m : Int) := by omega
          have p0 : (0 : Int) ≤ (p : Int) + 1 := by omega
          have hgt1 : decide ((y.2[d].toNat : Int) < (x.2[d].toNat : Int)) = false := by simp; omega
          have hgt2 : decide (y.2[d].toNat < x.2[d].toNat) = false := by simp; omega
          by_cases hcode : dig x.2 d = dig y.2 d
          · have hpl := passL_place HB.out hd hx hy hcode
            have hpd2 : decide (findL ls y.1 < findL ls x.1) = false := by simp; omega
            have heq : ((x.2[d].toNat : Int) == (y.2[d].toNat : Int)) = true := by rw [ex, ey, hcode]; simp
            have HLX := Lib.hid (show LS wr.drew A n c ls from (HL.out.ext hbel).ext (Below.drew (Below.refl _ _)))
            have HBI := Lib.hid (show Below w5.heap.size w5 wr.drew from Below.drew hbel)
            clear hx hy hcode hpl hbel hpb ex ey hdg
            go_wp2_with fail
            have hwp : IntKind.i64.wrap (p : Int) = (p : Int) := IntWalk.i64_in _ (by omega)
            have e0 : ((p : Int) + 1).toNat = p + 1 := by omega
            go_region_held3 (fun u => u.cell? ⟨g, off + (p + 1) * 2, none⟩ = some (.int .i64 y.1) ∧ u.cell? ⟨g, off + p * 2, none⟩ = some (.int .i64 x.1) ∧ Hid (LS u A n c ls) ∧ Hid (Below w5.heap.size w5 u)) (first | exact ⟨c0, d0, HLX, HBI⟩ | assumption | exact keep6' hb6 (by assumption)) (first | (go_at_call 19; refine (soPlace_any _ _ _ ls _ _ (ls4 (by assumption))).mono ?_; rintro e w6 ⟨rfl, hb6⟩))
            clear hwp e0
            go_wp2_with fail
            go_roundw
            case rel => exact ⟨p + 1 + 1, by omega, by omega, by go_num, bl4 (by assumption)⟩
            case measure => simp [intOf]; omega
          · have heq : ((x.2[d].toNat : Int) == (y.2[d].toNat : Int)) = false := by rw [ex, ey]; simp; omega
            clear hx hy hcode hpb ex ey hdg
            go_wp2_with fail
            go_quiet (fail)
            go_wp2_with fail
            go_roundw
            case rel => exact ⟨p + 1 + 1, by omega, by omega, by go_num, (by repeat (first | exact Below.refl _ _ | assumption | refine ext_alloc ?_ _ | refine Below.drew ?_ | refine below_drewN' ?_ _ | refine ext_set ?_ (by first | (simp; done) | (simp; omega) | omega) _ | refine ext_trans ?_ (by assumption)))⟩
            case measure => simp [intOf]; omega
        · have hpd : decide ((i : Int) < (m : Int)) = false := by simp; omega
          replace HL := Lib.hid (HL.out.ext hbel)
          replace HL2 := Lib.hid (HL2.out.ext hbel)
          replace HL5 := Lib.hid (HL5.out.ext hbel)
          replace HBW := Lib.hid (ext_trans HBW.out hbel)
          have HP := Lib.hid (show List.Perm (passR ls (d : Int)) ls from by rw [HE.out]; exact passL_perm ls d (batch_digs HB.out d hd))
          clear hbel
          go_wp2_with fail
          refine (soAll_any _ _ _ _ _ _ _ _ _ HL2.out HL.out HP.out HB.out).mono ?_
          rintro e w6 ⟨rfl, hb6⟩
          replace HL2 := Lib.hid (HL2.out.ext hb6)
          replace HL5 := Lib.hid (HL5.out.ext hb6)
          replace HBW := Lib.hid (ext_trans HBW.out hb6)
          clear hb6
          go_wp2_with fail
          refine (soBatch_same _ _ _ _ _ _ _ _ HL5.out HL2.out).mono ?_
          rintro e w7 ⟨rfl, hb7⟩
          replace HBW := Lib.hid (ext_trans HBW.out hb7)
          clear hb7
          go_wp2_with fail
          go_ret
          exact ⟨rfl, HBW.out⟩
  · go_enter Try.func7, Try.ntmps7
    go_wp2_with fail
    go_ret
    exact ⟨rfl, (by repeat (first | exact Below.refl _ _ | assumption | refine ext_alloc ?_ _ | refine Below.drew ?_ | refine below_drewN' ?_ _ | refine ext_set ?_ (by first | (simp; done) | (simp; omega) | omega) _ | refine ext_trans ?_ (by assumption)))⟩

end Go.Proofs.Ytafngfmloiikoaa
