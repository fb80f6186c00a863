/-
  WALKS: the law FnExactCollectBins. By an AI agent.
-/
import Derived.Test.YtlkpegaddbkicaaPass
import Derived.Test.YtlkpegaddbkicaaSS2
namespace Go.Proofs.Ytlkpegaddbkicaa
open Go.RowKit

theorem collR_len (bss : List (List Ltr)) : (collR bss).length ≤ bss.flatten.length := by
  unfold collR; split
  · exact Nat.le_refl _
  · exact Nat.zero_le _
theorem flat_mem_le : ∀ (bss : List (List Ltr)) (b : List Ltr), b ∈ bss → b.length ≤ bss.flatten.length
  | c :: cs, b, h => by
    rw [List.flatten_cons, List.length_append]
    rcases List.mem_cons.1 h with h1 | h1
    · subst h1; omega
    · have := flat_mem_le cs b h1; omega

set_option maxRecDepth 100000 in
set_option maxHeartbeats 8000000 in
theorem law_FnExactCollectBins (A : Option Addr) (n cap : Nat) (bss : List (List Ltr)) (w : World) (h : LSS w A n cap bss) :
    Calls Try.prog 5 #[.slice A n cap] w fun e w' => e = .returned (.bool true) ∧ Below w.heap.size w w' := by
  have HL := Lib.hid h
  have HLEN := Lib.hid h.1
  clear h
  obtain ⟨z, hz⟩ : ∃ z, szSS bss 1048576 = z := ⟨_, rfl⟩
  have HZ := Lib.hid hz
  clear hz
  by_cases hneg : z < 0
  · go_enter Try.func5, Try.ntmps5
    go_wp2_with (go_at_call 26; refine (szLetterSS_any _ _ _ _ _ _ HL.out (by omega) (by omega)).mono ?_; rintro e w1 ⟨rfl, hb1⟩; rw [HZ.out])
    go_ret
    exact ⟨rfl, (by repeat (first | exact Below.refl _ _ | assumption | refine ext_alloc ?_ _ | refine Below.drew ?_ | refine below_drewN' ?_ _ | refine ext_set ?_ (by first | (simp; done) | (simp; omega) | omega) _ | refine ext_trans ?_ (by assumption)))⟩
  · have hsz := szSS_len bss 1048576 (by rw [HZ.out]; omega)
    have hn : n ≤ 1048576 := by rw [← HLEN.out]; omega
    have hfl : bss.flatten.length ≤ 1048576 := by omega
    have HB := Lib.hid (show ∀ b ∈ bss, b.length ≤ 1048576 from fun b hb => Nat.le_trans (flat_mem_le bss b hb) hfl)
    have HF := Lib.hid (show bss.flatten.length ≤ 4194304 from by omega)
    clear hsz
    have HBW := Lib.hid (Below.refl w.heap.size w)
    go_enter Try.func5, Try.ntmps5
    go_wp2_with fail
    refine (szLetterSS_any _ _ _ _ _ _ HL.out (by omega) (by omega)).mono ?_
    rintro e w1 ⟨rfl, hb⟩
    replace HBW := Lib.hid (ext_trans HBW.out hb)
    have hm1 := hb.size
    clear hb
    rw [HZ.out]
    go_wp2_with fail
    have hszt := HBW.out.size
    refine (toLetterSS_any _ _ _ _ _ (HL.out.ext HBW.out) hn HB.out).mono ?_
    rintro e w2 ⟨vvt, vst, rfl, ho, hb⟩
    replace HBW := Lib.hid (ext_trans HBW.out hb)
    have hm2 := hb.size
    clear hb
    have Rt := ho.rng
    replace ho := ho.mono hszt
    obtain ⟨At, ct, rfl, _, _⟩ := ho.read
    have Ht := Lib.hid ho
    clear ho
    go_wp2_with fail
    have hsza := HBW.out.size
    refine (spec_CollectBins _ _ _ _ _ Ht.out.lss.1 HF.out).mono ?_
    rintro e w3 ⟨vv, rfl, ho, hb⟩
    replace Ht := Lib.hid (Ht.out.ext hb)
    replace HBW := Lib.hid (ext_trans HBW.out hb)
    have hm3 := hb.size
    clear hb
    have Ra := own_rng ho
    replace ho := ho.mono hsza
    obtain ⟨Aa, ca, rfl, _⟩ := ho.read
    have Ha := Lib.hid ho
    clear ho
    clear Ht
    go_wp2_with fail
    have hszx := HBW.out.size
    refine (toLetterSS_any _ _ _ _ _ (HL.out.ext HBW.out) hn HB.out).mono ?_
    rintro e w4 ⟨vvx, vsx, rfl, ho, hb⟩
    replace Ha := Lib.hid (Ha.out.ext hb)
    replace HBW := Lib.hid (ext_trans HBW.out hb)
    have hm4 := hb.size
    clear hb
    have Rx := ho.rng
    replace ho := ho.mono hszx
    obtain ⟨Ax, cx, rfl, _, _⟩ := ho.read
    have Hx := Lib.hid ho
    clear ho
    go_wp2_with fail
    have hszg := HBW.out.size
    refine (impl_CollectBins _ _ _ _ _ Hx.out.lss.1).mono ?_
    rintro e w5 ⟨vv, rfl, ho, hb⟩
    replace Ha := Lib.hid (Ha.out.ext hb)
    replace Hx := Lib.hid (Hx.out.ext hb)
    replace HBW := Lib.hid (ext_trans HBW.out hb)
    have hm5 := hb.size
    clear hb
    have Rg := own_rng ho
    replace ho := ho.mono hszg
    obtain ⟨Ag, cg, rfl, _⟩ := ho.read
    have Hg := Lib.hid ho
    clear ho
    have q1 : (bss.flatten.length : Int) ≤ 1048576 := by omega
    have q3 : ((collR bss).length : Int) ≤ 1048576 := by have := collR_len bss; omega
    go_wp2_with fail
    refine (eqLetterS_same _ _ _ _ _ _ _ _ Hg.out.ls Ha.out.ls).mono ?_
    rintro e w6 ⟨rfl, hb⟩
    replace Ha := Lib.hid (Ha.out.ext hb)
    replace Hx := Lib.hid (Hx.out.ext hb)
    replace Hg := Lib.hid (Hg.out.ext hb)
    replace HBW := Lib.hid (ext_trans HBW.out hb)
    have hm6 := hb.size
    clear hb
    go_wp2_with fail
    have hszp := HBW.out.size
    refine (toLetterSS_any _ _ _ _ _ (HL.out.ext HBW.out) hn HB.out).mono ?_
    rintro e w7 ⟨vvp, vsp, rfl, ho, hb⟩
    replace Ha := Lib.hid (Ha.out.ext hb)
    replace Hx := Lib.hid (Hx.out.ext hb)
    replace Hg := Lib.hid (Hg.out.ext hb)
    replace HBW := Lib.hid (ext_trans HBW.out hb)
    have hm7 := hb.size
    clear hb
    have Rp := ho.rng
    replace ho := ho.mono hszp
    obtain ⟨Ap, cp, rfl, _, _⟩ := ho.read
    have Hp := Lib.hid ho
    clear ho
    go_wp2_with fail
    refine (eqLetterSS_same _ _ _ _ _ _ _ _ Hx.out.lss.1 Hp.out.lss.1).mono ?_
    rintro e w8 ⟨rfl, hb⟩
    replace Ha := Lib.hid (Ha.out.ext hb)
    replace Hx := Lib.hid (Hx.out.ext hb)
    replace Hg := Lib.hid (Hg.out.ext hb)
    replace Hp := Lib.hid (Hp.out.ext hb)
    replace HBW := Lib.hid (ext_trans HBW.out hb)
    have hm8 := hb.size
    clear hb
    clear Hp
    go_wp2_with fail
    refine (markLetterSS_any 1 _ _ _ _ _ _ _ Hx.out Rx (by omega) (by omega)).mono ?_
    rintro e w9 ⟨rfl, ho, hc⟩
    replace Ha := Lib.hid (Ha.out.chg hc Ra (by omega))
    replace Hg := Lib.hid (Hg.out.chg hc Rg (by omega))
    replace HBW := Lib.hid (below_chg HBW.out hc (by omega))
    replace Hx := Lib.hid ho
    have hm9 := hc.size
    clear ho hc
    go_wp2_with fail
    refine (eqLetterS_same _ _ _ _ _ _ _ _ Hg.out.ls Ha.out.ls).mono ?_
    rintro e w10 ⟨rfl, hb⟩
    replace Ha := Lib.hid (Ha.out.ext hb)
    replace Hx := Lib.hid (Hx.out.ext hb)
    replace Hg := Lib.hid (Hg.out.ext hb)
    replace HBW := Lib.hid (ext_trans HBW.out hb)
    have hm10 := hb.size
    clear hb
    clear Hx
    go_wp2_with fail
    refine (markLetterS_any 1 _ _ _ _ Hg.out (by omega) (by omega)).mono ?_
    rintro e w11 ⟨rfl, ho, hg⟩
    have hc := Chg.ofGrown hg Rg
    replace Ha := Lib.hid (Ha.out.chg hc Ra (by omega))
    replace HBW := Lib.hid (below_chg HBW.out hc (by omega))
    replace Hg := Lib.hid ho
    have hm11 := hc.size
    clear ho hc hg
    go_wp2_with fail
    refine (heldLetterS_any 1 _ _ _ _ Hg.out.ls (by omega) (by omega)).mono ?_
    rintro e w12 ⟨rfl, hb⟩
    replace Ha := Lib.hid (Ha.out.ext hb)
    replace Hg := Lib.hid (Hg.out.ext hb)
    replace HBW := Lib.hid (ext_trans HBW.out hb)
    have hm12 := hb.size
    clear hb
    go_wp2_with fail
    have hszr := HBW.out.size
    refine (toLetterSS_any _ _ _ _ _ (HL.out.ext HBW.out) hn HB.out).mono ?_
    rintro e w13 ⟨vvr, vsr, rfl, ho, hb⟩
    replace Ha := Lib.hid (Ha.out.ext hb)
    replace Hg := Lib.hid (Hg.out.ext hb)
    replace HBW := Lib.hid (ext_trans HBW.out hb)
    have hm13 := hb.size
    clear hb
    have Rr := ho.rng
    replace ho := ho.mono hszr
    obtain ⟨Ar, cr, rfl, _, _⟩ := ho.read
    have Hr := Lib.hid ho
    clear ho
    go_wp2_with fail
    have hszk := HBW.out.size
    refine (impl_CollectBins _ _ _ _ _ Hr.out.lss.1).mono ?_
    rintro e w14 ⟨vv, rfl, ho, hb⟩
    replace Ha := Lib.hid (Ha.out.ext hb)
    replace Hg := Lib.hid (Hg.out.ext hb)
    replace Hr := Lib.hid (Hr.out.ext hb)
    replace HBW := Lib.hid (ext_trans HBW.out hb)
    have hm14 := hb.size
    clear hb
    have Rk := own_rng ho
    replace ho := ho.mono hszk
    obtain ⟨Ak, ck, rfl, _⟩ := ho.read
    have Hk := Lib.hid ho
    clear ho
    clear Hr
    go_wp2_with fail
    refine (eqLetterS_same _ _ _ _ _ _ _ _ Hk.out.ls Ha.out.ls).mono ?_
    rintro e w15 ⟨rfl, hb⟩
    replace Ha := Lib.hid (Ha.out.ext hb)
    replace Hg := Lib.hid (Hg.out.ext hb)
    replace Hk := Lib.hid (Hk.out.ext hb)
    replace HBW := Lib.hid (ext_trans HBW.out hb)
    have hm15 := hb.size
    clear hb
    go_wp2_with fail
    refine (heldLetterS_any 1 _ _ _ _ Hg.out.ls (by omega) (by omega)).mono ?_
    rintro e w16 ⟨rfl, hb⟩
    replace Ha := Lib.hid (Ha.out.ext hb)
    replace Hg := Lib.hid (Hg.out.ext hb)
    replace Hk := Lib.hid (Hk.out.ext hb)
    replace HBW := Lib.hid (ext_trans HBW.out hb)
    have hm16 := hb.size
    clear hb
    go_wp2_with fail
    go_ret
    exact ⟨rfl, HBW.out⟩

end Go.Proofs.Ytlkpegaddbkicaa
