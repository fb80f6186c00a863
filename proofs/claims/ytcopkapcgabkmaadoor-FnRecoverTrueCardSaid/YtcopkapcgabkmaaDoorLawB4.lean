/-
  WALKS: the law FnRecoverTrue. By an AI agent.
-/
import Derived.Test.YtcopkapcgabkmaaDoorLawB
import Derived.Deep.QuietTactic
import Derived.BigQuiet
namespace Go.Proofs.YtcopkapcgabkmaaDoor
open Go.RowKit

set_option maxRecDepth 100000 in
set_option maxHeartbeats 8000000 in
theorem law_FnRecoverTrue (a : Option Addr) (len cap : Nat) (w : World) (h : BytesIn w a len cap) (hT : Tab w) :
    Calls Tryd.prog 13 #[.slice a len cap] w fun e w' => e = .returned (.bool true) ∧ Below w.heap.size w w' := by
  have HC := Lib.hid h
  have HT := Lib.hid hT
  have hlen : len ≤ 9223372036854775807 := by have := h.1; have := h.2.1; unfold maxLen at this; omega
  clear h hT
  by_cases hbig : len ≤ 1048576
  · go_enter Tryd.func13, Tryd.ntmps13
    go_wp2_with fail
    refine (DrawRecoverBars_any _ _ _ _ HC.out).mono ?_
    rintro e w1 ⟨_, rfl, ⟨b, rfl, hs⟩, hb1⟩
    cases hr : recO b with
    | none =>
      have HR := Lib.hid (show optV (recO b) = .tuple #[.string ⟨#[]⟩, .bool false] from by rw [hr]; rfl)
      clear hr
      go_wp2_with fail
      refine (impl_RecoverBars _ _ (HT.out.ext hb1)).mono ?_
      rintro e w2 ⟨rfl, hb2⟩
      rw [HR.out]
      go_wp2_with fail
      refine (spec_RecoverBars _ _).mono ?_
      rintro e w3 ⟨rfl, hb3⟩
      rw [HR.out]
      go_wp2_with fail
      go_ret
      exact ⟨rfl, (by repeat (first | exact Below.refl _ _ | assumption | refine ext_alloc ?_ _ | refine Below.drew ?_ | refine below_drewN' ?_ _ | refine ext_set ?_ (by first | (simp; done) | (simp; omega) | omega) _ | refine ext_trans ?_ (by assumption)))⟩
    | some l =>
      obtain ⟨h42, hcb, hnegs, hgr⟩ := rec_true b l hr
      have hz := barsL_size _ hcb
      obtain ⟨c, hc⟩ : ∃ c, bs l = c := ⟨_, rfl⟩
      rw [hc] at hcb hgr hz
      obtain ⟨al, hal⟩ : ∃ al, bs (barsL c) = al := ⟨_, rfl⟩
      rw [hal] at hgr hz
      have HR := Lib.hid (show optV (recO b) = .tuple #[.string c, .bool true] from by rw [hr, ← hc]; rfl)
      have HBV := Lib.hid (show barsV c = .tuple #[.string al, .bool true] from by rw [← hal]; simp [barsV, hcb])
      have HV := Lib.hid hcb
      have HGR := Lib.hid hgr
      have hcm : c.size ≤ maxLen := by have := (codeB_parts2 hcb).1; unfold maxLen; omega
      have b1 : b.size ≤ 42 := by omega
      have b2 : 42 ≤ b.size := by omega
      have a1 : al.size ≤ 42 := by omega
      have a2 : 42 ≤ al.size := by omega
      clear hr hcb hgr hc hal h42 hz
      go_wp2_with fail
      refine (impl_RecoverBars _ _ (HT.out.ext hb1)).mono ?_
      rintro e w2 ⟨rfl, hb2⟩
      rw [HR.out]
      go_wp2_with fail
      refine (spec_RecoverBars _ _).mono ?_
      rintro e w3 ⟨rfl, hb3⟩
      rw [HR.out]
      go_wp2_with fail
      refine (impl_BarsOf _ _ hcm (((HT.out.ext hb1).ext hb2).ext hb3)).mono ?_
      rintro e w4 ⟨rfl, rfl⟩
      rw [HBV.out]
      go_wp2_with fail
      go_loopw [10, 11, 12] (fun lv kv dv wr => ∃ k : Nat, k ≤ 8 ∧ kv = .int .i64 k ∧ lv = .int .i64 (negs b k) ∧ Below w.heap.size w wr) (fun _ kv _ _ => 8 - (intOf kv).toNat)
      case atStart => exact ⟨0, by omega, rfl, rfl, (by repeat (first | exact Below.refl _ _ | assumption | refine ext_alloc ?_ _ | refine Below.drew ?_ | refine below_drewN' ?_ _ | refine ext_set ?_ (by first | (simp; done) | (simp; omega) | omega) _ | refine ext_trans ?_ (by assumption)))⟩
      case round =>
        obtain ⟨k, hk, rfl, rfl, hbr⟩ := hrel
        have hnl := negs_le b k
        obtain ⟨n, hn⟩ : ∃ n, negs b k = n := ⟨_, rfl⟩
        rw [hn] at hnl ⊢
        have HN := Lib.hid hn
        clear hn
        by_cases hk8 : k < 8
        · obtain ⟨d, hd⟩ : ∃ d, gd b k = d := ⟨_, rfl⟩
          have HD := Lib.hid hd
          clear hd
          have HG := Lib.hid (show barsD (b.extract (1 + 5 * k) (6 + 5 * k)).data.toList = d from HD.out)
          have hs2 : (6 : Int) + 5 * (k : Int) ≤ (b.size : Int) := by omega
          have hs3 : (6 : Int) + 5 * (k : Int) ≤ (al.size : Int) := by omega
          by_cases hneg : d < 0
          · have HNS := Lib.hid (show negs b (k + 1) = n + 1 from by simp only [negs, HN.out, HD.out, if_pos hneg])
            go_wp2_with (go_at_call 25; refine (impl_BarsDigit _ _ (HT.out.ext hbr)).mono ?_; rintro e w5 ⟨rfl, rfl⟩; rw [HG.out])
            go_roundw
            case rel => exact ⟨k + 1, by omega, by go_num, by rw [HNS.out]; go_num, (by repeat (first | exact Below.refl _ _ | assumption | refine ext_alloc ?_ _ | refine Below.drew ?_ | refine below_drewN' ?_ _ | refine ext_set ?_ (by first | (simp; done) | (simp; omega) | omega) _ | refine ext_trans ?_ (by assumption)))⟩
            case measure => simp [intOf]; omega
          · have HNS := Lib.hid (show negs b (k + 1) = n from by simp only [negs, HN.out, HD.out, if_neg hneg, Nat.add_zero])
            have hgk : al.extract (1 + 5 * k) (6 + 5 * k) = b.extract (1 + 5 * k) (6 + 5 * k) := HGR.out k hk8 (by rw [HD.out]; omega)
            have heq : ((b.extract (1 + 5 * k) (6 + 5 * k)).toList == (al.extract (1 + 5 * k) (6 + 5 * k)).toList) = true := by rw [hgk]; simp
            clear hgk
            have q1 : IntKind.i64.wrap (5 * (k : Int)) = 5 * (k : Int) := IntWalk.i64_in _ (by omega)
            have q2 : IntKind.i64.wrap (1 + 5 * (k : Int)) = 1 + 5 * (k : Int) := IntWalk.i64_in _ (by omega)
            have q3 : IntKind.i64.wrap (6 + 5 * (k : Int)) = 6 + 5 * (k : Int) := IntWalk.i64_in _ (by omega)
            have p1 : (0 : Int) ≤ 1 + 5 * (k : Int) := by omega
            have p2 : (1 : Int) + 5 * (k : Int) ≤ 6 + 5 * (k : Int) := by omega
            have t1 : (1 + 5 * (k : Int)).toNat = 1 + 5 * k := by omega
            have t2 : (6 + 5 * (k : Int)).toNat = 6 + 5 * k := by omega
            go_wp2_with (go_at_call 25; refine (impl_BarsDigit _ _ (HT.out.ext hbr)).mono ?_; rintro e w5 ⟨rfl, rfl⟩; rw [HG.out])
            go_quiet (fail)
            clear q1 q2 q3
            go_wp2_with fail
            go_roundw
            case rel => exact ⟨k + 1, by omega, by go_num, by rw [HNS.out], (by repeat (first | exact Below.refl _ _ | assumption | refine ext_alloc ?_ _ | refine Below.drew ?_ | refine below_drewN' ?_ _ | refine ext_set ?_ (by first | (simp; done) | (simp; omega) | omega) _ | refine ext_trans ?_ (by assumption)))⟩
            case measure => simp [intOf]; omega
        · obtain rfl : k = 8 := by omega
          have hn1 : n ≤ 1 := by rw [← HN.out]; exact hnegs
          have hnd : decide ((n : Int) ≤ 1) = true := by simp; omega
          go_wp2_with (go_at_call 31; refine (impl_CodeValid _ _ hcm).mono ?_; rintro e w' ⟨rfl, rfl⟩; rw [HV.out])
          go_ret
          exact ⟨rfl, (by repeat (first | exact Below.refl _ _ | assumption | refine ext_alloc ?_ _ | refine Below.drew ?_ | refine below_drewN' ?_ _ | refine ext_set ?_ (by first | (simp; done) | (simp; omega) | omega) _ | refine ext_trans ?_ (by assumption)))⟩
  · go_enter Tryd.func13, Tryd.ntmps13
    go_wp2_with fail
    go_ret
    exact ⟨rfl, (by repeat (first | exact Below.refl _ _ | assumption | refine ext_alloc ?_ _ | refine Below.drew ?_ | refine below_drewN' ?_ _ | refine ext_set ?_ (by first | (simp; done) | (simp; omega) | omega) _ | refine ext_trans ?_ (by assumption)))⟩

end Go.Proofs.YtcopkapcgabkmaaDoor
