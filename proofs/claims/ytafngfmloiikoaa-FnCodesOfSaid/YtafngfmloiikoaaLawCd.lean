/-
  THE LAW FnCodesOf: the walk. By an AI agent.
-/
import Derived.Test.YtafngfmloiikoaaDrawN
import Derived.Test.YtafngfmloiikoaaCodes
import Derived.Test.YtafngfmloiikoaaLater
namespace Go.Proofs.Ytafngfmloiikoaa
open Go.RowKit

theorem take_sum_le {α : Type} (f : α → Nat) (C : List α) (k : Nat) : ((C.take k).map f).sum ≤ (C.map f).sum := by
  have e := congrArg (fun x => (x.map f).sum) (List.take_append_drop k C)
  simp only [List.map_append, List.sum_append] at e
  omega
theorem count_bare (A : Option Addr) (n cap : Nat) (ls : List Ltr) (x : ByteArray) (q : Nat) (w : World) (h : LS w A n cap ls) (hx : x.size ≤ maxLen) (hq : cntV ls x = (q : Int)) :
    Calls Try.prog 23 #[.slice A n cap, .string x] w fun e w' => e = .returned (.int .i64 q) ∧ Below w.heap.size w w' :=
  (impl_CountPrefix _ _ _ ls _ _ h hx).mono fun e w' ⟨he, hb⟩ => ⟨by rw [he, hq], hb⟩
set_option maxRecDepth 100000 in
set_option maxHeartbeats 8000000 in
theorem law_FnCodesOf (a : Option Addr) (len cap : Nat) (w : World) (h : BytesIn w a len cap) :
    Calls Try.prog 14 #[.slice a len cap] w fun e w' => e = .returned (.bool true) ∧ Below w.heap.size w w' := by
  have HC := Lib.hid h
  have hlen : len ≤ 9223372036854775807 := by have := h.1; have := h.2.1; unfold maxLen at this; omega
  clear h
  by_cases hbig : len ≤ 1048576
  · go_enter Try.func14, Try.ntmps14
    go_wp2_with fail
    refine (DrawCodesOf_any _ _ _ _ HC.out).mono ?_
    rintro e w1 ⟨v, ls, rfl, ho, hl61, hb1⟩
    obtain ⟨A, c, rfl, hls⟩ := ho.read
    obtain ⟨n, hn⟩ : ∃ n, ls.length = n := ⟨_, rfl⟩
    have HNC := Lib.hid ho.nilcap
    rw [hn] at hls hl61 ⊢
    have HN := Lib.hid hn
    have HL := Lib.hid hls
    have HBW := Lib.hid hb1
    clear ho hls hn hb1
    go_wp2_with fail
    refine (impl_CodesOf _ _ _ _ _ HL.out HNC.out (by omega)).mono ?_
    rintro e w2 ⟨v2, rfl, ho2, hb2⟩
    obtain ⟨A2, c2, rfl, _⟩ := ho2.read
    replace HL := Lib.hid (HL.out.ext hb2)
    replace HBW := Lib.hid (ext_trans HBW.out hb2)
    have HO2 := Lib.hid ho2
    clear hb2 ho2
    go_wp2_with fail
    refine (spec_CodesOf _ _ _ _ _ HL.out HNC.out (by omega)).mono ?_
    rintro e w3 ⟨v3, rfl, ho3, hb3⟩
    obtain ⟨A3, c3, rfl, _⟩ := ho3.read
    replace HL := Lib.hid (HL.out.ext hb3)
    replace HO2 := Lib.hid (HO2.out.ext hb3)
    replace HBW := Lib.hid (ext_trans HBW.out hb3)
    have HO3 := Lib.hid ho3
    clear hb3 ho3
    have hml := codesR_le ls
    obtain ⟨m, hm⟩ : ∃ m, (codesR ls).length = m := ⟨_, rfl⟩
    rw [hm] at HO2 HO3 hml ⊢
    have HM := Lib.hid hm
    rw [HN.out] at hml
    clear hm
    go_wp2_with fail
    refine (impl_BatchValid _ _ _ _ _ HL.out).mono ?_
    rintro e w4 ⟨rfl, hb4⟩
    replace HL := Lib.hid (HL.out.ext hb4)
    replace HO2 := Lib.hid (HO2.out.ext hb4)
    replace HO3 := Lib.hid (HO3.out.ext hb4)
    replace HBW := Lib.hid (ext_trans HBW.out hb4)
    clear hb4
    cases hbb : batchB ls with
    | false =>
      clear hbb
      go_wp2_with fail
      go_ret
      exact ⟨rfl, HBW.out⟩
    | true =>
      have HB := Lib.hid hbb
      have HCF := Lib.hid (codes_facts hbb)
      have hn60 := batch_len hbb
      rw [HN.out] at hn60
      clear hbb
      go_wp2_with fail
      go_loopw [6, 7] (fun sv iv wr => ∃ i S : Nat, i ≤ m ∧ iv = .int .i64 i ∧ sv = .int .i64 S ∧ (((codesR ls).take i).map fun c => (ofC c ls).length).sum = S ∧ Below w4.heap.size w4 wr) (fun _ iv _ => m - (intOf iv).toNat)
      case atStart => exact ⟨0, 0, by omega, rfl, rfl, rfl, Below.refl _ _⟩
      case round =>
        obtain ⟨i, S, hi, rfl, rfl, hS, hbel⟩ := hrel
        have hS60 : S ≤ 60 := by
          have h1 := take_sum_le (fun c => (ofC c ls).length) (codesR ls) i
          have h2 := HCF.out.2.2
          have h3 := HN.out
          omega
        have HSS := Lib.hid hS
        clear hS
        by_cases him : i < m
        · obtain ⟨g, x, hA, hx, c0⟩ := (HO2.out.ext hbel).at_ i him
          obtain ⟨g3, x3, hA3, hx3, d0⟩ := (HO3.out.ext hbel).at_ i him
          obtain rfl : x3 = x := by rw [hx] at hx3; injection hx3 with h; exact h.symm
          obtain ⟨hcv, hq1, hq7⟩ := cntV_code HB.out (HCF.out.2.1 x3 (List.mem_of_getElem? hx))
          have HSN := Lib.hid (sum_take (fun c => (ofC c ls).length) (codesR ls) i x3 hx)
          have hSn := take_sum_le (fun c => (ofC c ls).length) (codesR ls) (i + 1)
          rw [HSN.out, HSS.out, HCF.out.2.2, HN.out] at hSn
          obtain ⟨q, hq⟩ : ∃ q, (ofC x3 ls).length = q := ⟨_, rfl⟩
          have HCV := Lib.hid (show cntV ls x3 = (q : Int) from by rw [hcv, hq])
          have HQS := Lib.hid (show (((codesR ls).take (i + 1)).map fun c => (ofC c ls).length).sum = S + q from by rw [HSN.out, HSS.out, hq])
          have hSn2 : S + q ≤ n := by rw [← hq]; exact hSn
          rw [hq] at hq1
          have hxm : x3.size ≤ maxLen := by unfold maxLen; omega
          have HXM := Lib.hid hxm
          have hqd : decide ((q : Int) < 1) = false := by simp; omega
          have hqd2 : decide (q < 1) = false := by simp; omega
          have hqd3 : ¬ q = 0 := by omega
          have hqd4 : decide (q = 0) = false := by simp; omega
          have hidd : decide ((i : Int) < (m : Int)) = true := by simp; omega
          have hii : (i : Int) < (m : Int) := by omega
          have HLX := Lib.hid (show LS wr A n c ls from HL.out.ext hbel)
          have HX := Lib.hid hx
          have HFC := Lib.hid (fun p : LaterW wr => later_of (count_bare _ _ _ _ _ _ _ (HLX.out.ext p.ok) HXM.out HCV.out))
          clear hcv hq hSn hx hx3 hxm
          by_cases hi0 : i = 0
          · subst hi0
            have hm0 : (0 : Int) < (m : Int) := by omega
            have hm0d : decide ((0 : Int) < (m : Int)) = true := by simp; omega
            have hm0e : decide (0 < m) = true := by simp; omega
            subst hA hA3
            go_wp2_with fail
            have k0 : ∀ p : LaterW wr, p.u.cell? ⟨g, 0, none⟩ = some (.string x3) := fun p => cell_later p.ok c0
            have k1 : ∀ p : LaterW wr, p.u.cell? ⟨g3, 0, none⟩ = some (.string x3) := fun p => cell_later p.ok d0
            refine wp_region_later (by kernel_rfl) (by kernel_rfl) ?_; (repeat (go_big_quiet_step (first | (go_at_call 23; exact HFC.out _)))); refine wpQuiet_nil ?_; intro uL hL
            clear k0 k1
            have HB5 := Lib.hid (show Below w4.heap.size w4 uL from ext_trans hbel hL)
            have c5 : uL.cell? ⟨g, 0, none⟩ = some (.string x3) := ((HO2.out.ext HB5.out).cells 0 x3 HX.out).1
            have HL5 := Lib.hid (HL.out.ext HB5.out)
            go_wp2_with fail
            refine (impl_CountPrefix _ _ _ ls _ _ HL5.out HXM.out).mono ?_
            rintro e w6 ⟨rfl, hb6⟩
            rw [HCV.out]
            clear c5
            go_wp2_with fail
            go_roundw
            case rel => exact ⟨0 + 1, S + q, by omega, by first | go_num | rfl, by go_num, HQS.out, ext_trans HB5.out hb6⟩
            case measure => first | (simp [intOf]; omega) | (simp [intOf]; done)
          · obtain ⟨p, rfl⟩ : ∃ p, i = p + 1 := ⟨i - 1, by omega⟩
            obtain ⟨g2, y, hA2, hy, e0⟩ := (HO2.out.ext hbel).at_ p (by omega)
            subst hA hA3
            injection hA2 with hA2
            injection hA2 with hg1
            subst hg1
            have hup := codes_up HB.out hy HX.out
            have hle3 : Op.bytesLess x3.toList y.toList = false := bl_asym _ _ hup
            have hle4 : (x3.toList == y.toList) = false := by
              cases hc : (x3.toList == y.toList) with
              | false => rfl
              | true =>
                have : x3.toList = y.toList := by simpa using hc
                unfold ltB at hup; rw [this, bl_irr] at hup; cases hup
            have hle2 : (Op.bytesLess x3.toList y.toList || x3.toList == y.toList) = false := by rw [hle3, hle4]; rfl
            have hp0 : (0 : Int) < (p : Int) + 1 := by omega
            have hp0d : decide ((0 : Int) < (p : Int) + 1) = true := by first | (simp; done) | (simp; omega)
            have p0 : (0 : Int) ≤ (p : Int) + 1 := by omega
            have hpm : (p : Int) < (m : Int) := by omega
            have hpm1 : (p : Int) + 1 < (m : Int) := by omega
            clear hi0 hy hup
            go_wp2_with fail
            have hwp : IntKind.i64.wrap (p : Int) = (p : Int) := IntWalk.i64_in _ (by omega)
            have ee0 : ((p : Int) + 1).toNat = p + 1 := by omega
            have k0 : ∀ q : LaterW wr, q.u.cell? ⟨g, p + 1, none⟩ = some (.string x3) := fun q => cell_later q.ok c0
            have k1 : ∀ q : LaterW wr, q.u.cell? ⟨g3, p + 1, none⟩ = some (.string x3) := fun q => cell_later q.ok d0
            have k2 : ∀ q : LaterW wr, q.u.cell? ⟨g, p, none⟩ = some (.string y) := fun q => cell_later q.ok e0
            refine wp_region_later (by kernel_rfl) (by kernel_rfl) ?_; (repeat (go_big_quiet_step (first | (go_at_call 23; exact HFC.out _)))); refine wpQuiet_nil ?_; intro uL hL
            clear k0 k1 k2
            have HB5 := Lib.hid (show Below w4.heap.size w4 uL from ext_trans hbel hL)
            have c5 : uL.cell? ⟨g, p + 1, none⟩ = some (.string x3) := ((HO2.out.ext HB5.out).cells (p + 1) x3 HX.out).1
            have HL5 := Lib.hid (HL.out.ext HB5.out)
            clear hwp ee0
            go_wp2_with fail
            refine (impl_CountPrefix _ _ _ ls _ _ HL5.out HXM.out).mono ?_
            rintro e w6 ⟨rfl, hb6⟩
            rw [HCV.out]
            clear c5
            go_wp2_with fail
            go_roundw
            case rel => exact ⟨p + 1 + 1, S + q, by omega, by go_num, by go_num, HQS.out, ext_trans HB5.out hb6⟩
            case measure => simp [intOf]; omega
        · obtain rfl : i = m := by omega
          have hidd : decide ((i : Int) < (i : Int)) = false := by simp
          obtain rfl : S = n := by rw [← HSS.out, List.take_of_length_le (by rw [HM.out]; exact Nat.le_refl _), HCF.out.2.2, HN.out]
          replace HBW := Lib.hid (ext_trans HBW.out hbel)
          clear hbel
          go_wp2_with fail
          go_ret
          exact ⟨rfl, HBW.out⟩
  · go_enter Try.func14, Try.ntmps14
    go_wp2_with fail
    go_ret
    exact ⟨rfl, (by repeat (first | exact Below.refl _ _ | assumption | refine ext_alloc ?_ _ | refine Below.drew ?_ | refine below_drewN' ?_ _ | refine ext_set ?_ (by first | (simp; done) | (simp; omega) | omega) _ | refine ext_trans ?_ (by assumption)))⟩

end Go.Proofs.Ytafngfmloiikoaa
