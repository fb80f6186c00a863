/-
  WALKS: the law FnExactMergeBatches. By an AI agent.
-/
import Derived.Test.YtagoihjmedbfeaaMerge2
namespace Go.Proofs.Ytagoihjmedbfeaa
open Go.RowKit

theorem mergeR_le (xs ys : List Ltr) : (mergeR xs ys).length ≤ xs.length + ys.length := by
  unfold mergeR; split
  · rw [(mergeL_perm xs ys).length_eq, List.length_append]; exact Nat.le_refl _
  · exact Nat.zero_le _

set_option maxRecDepth 100000 in
set_option maxHeartbeats 8000000 in
theorem law_FnExactMergeBatches (A : Option Addr) (n cap : Nat) (xs : List Ltr) (A2 : Option Addr) (m cap2 : Nat) (ys : List Ltr) (w : World) (h : LS w A n cap xs) (h2 : LS w A2 m cap2 ys) :
    Calls Try.prog 10 #[.slice A n cap, .slice A2 m cap2] w fun e w' => e = .returned (.bool true) ∧ Below w.heap.size w w' := by
  have HL := Lib.hid h
  have HLEN := Lib.hid h.1
  have HL2 := Lib.hid h2
  have HLEN2 := Lib.hid h2.1
  clear h h2
  obtain ⟨z, hz⟩ : ∃ z, szL xs 1048576 = z := ⟨_, rfl⟩
  have hz1 := szL_le xs 1048576 (by omega)
  rw [hz] at hz1
  have HZ := Lib.hid hz
  clear hz
  by_cases hneg : z < 0
  · go_enter Try.func10, Try.ntmps10
    go_wp2_with (go_at_call 15; refine (szLetterS_any _ _ _ _ _ _ HL.out (by omega) (by omega)).mono ?_; rintro e w1 ⟨rfl, hb1⟩; rw [HZ.out])
    go_ret
    exact ⟨rfl, (by repeat (first | exact Below.refl _ _ | assumption | refine ext_alloc ?_ _ | refine Below.drew ?_ | refine below_drewN' ?_ _ | refine ext_set ?_ (by first | (simp; done) | (simp; omega) | omega) _ | refine ext_trans ?_ (by assumption)))⟩
  · have hn : n ≤ 1048576 := by have := szL_len xs 1048576 (by rw [HZ.out]; omega); rw [HLEN.out] at this; omega
    obtain ⟨z2, hz2⟩ : ∃ z2, szL ys z = z2 := ⟨_, rfl⟩
    have HZ2 := Lib.hid hz2
    clear hz2
    by_cases hneg2 : z2 < 0
    · go_enter Try.func10, Try.ntmps10
      go_wp2_with fail
      refine (szLetterS_any _ _ _ _ _ _ HL.out (by omega) (by omega)).mono ?_
      rintro e w1 ⟨rfl, hb1⟩
      rw [HZ.out]
      go_wp2_with fail
      refine (szLetterS_any _ _ _ _ _ _ (HL2.out.ext hb1) (by omega) hz1).mono ?_
      rintro e w2 ⟨rfl, hb2⟩
      rw [HZ2.out]
      go_wp2_with fail
      go_ret
      exact ⟨rfl, (by repeat (first | exact Below.refl _ _ | assumption | refine ext_alloc ?_ _ | refine Below.drew ?_ | refine below_drewN' ?_ _ | refine ext_set ?_ (by first | (simp; done) | (simp; omega) | omega) _ | refine ext_trans ?_ (by assumption)))⟩
    · have hm : m ≤ 1048576 := by have := szL_len ys z (by rw [HZ2.out]; omega); rw [HLEN2.out] at this; omega
      have HBW := Lib.hid (Below.refl w.heap.size w)
      go_enter Try.func10, Try.ntmps10
      go_wp2_with fail
      refine (szLetterS_any _ _ _ _ _ _ HL.out (by omega) (by omega)).mono ?_
      rintro e w1 ⟨rfl, hb⟩
      replace HBW := Lib.hid (ext_trans HBW.out hb)
      have hm1 := hb.size
      clear hb
      rw [HZ.out]
      go_wp2_with fail
      refine (szLetterS_any _ _ _ _ _ _ (HL2.out.ext HBW.out) (by omega) hz1).mono ?_
      rintro e w2 ⟨rfl, hb⟩
      replace HBW := Lib.hid (ext_trans HBW.out hb)
      have hm2 := hb.size
      clear hb
      rw [HZ2.out]
      go_wp2_with fail
      have hszt := HBW.out.size
      refine (toLetterS_any _ _ _ _ _ (HL.out.ext HBW.out) hn).mono ?_
      rintro e w3 ⟨⟨_, rfl, ho⟩, hb⟩
      replace HBW := Lib.hid (ext_trans HBW.out hb)
      have hm3 := hb.size
      clear hb
      have Rt := own_rng ho
      replace ho := ho.mono hszt
      obtain ⟨At, ct, rfl, _⟩ := ho.read
      have Ht := Lib.hid ho
      clear ho
      go_wp2_with fail
      have hszu := HBW.out.size
      refine (toLetterS_any _ _ _ _ _ (HL2.out.ext HBW.out) hm).mono ?_
      rintro e w4 ⟨⟨_, rfl, ho⟩, hb⟩
      replace Ht := Lib.hid (Ht.out.ext hb)
      replace HBW := Lib.hid (ext_trans HBW.out hb)
      have hm4 := hb.size
      clear hb
      have Ru := own_rng ho
      replace ho := ho.mono hszu
      obtain ⟨Au, cu, rfl, _⟩ := ho.read
      have Hu := Lib.hid ho
      clear ho
      go_wp2_with fail
      have hsza := HBW.out.size
      refine (spec_MergeBatches _ _ _ _ _ _ _ _ _ Ht.out.ls Hu.out.ls Ht.out.nilcap Hu.out.nilcap (by rw [HLEN.out]; exact hn) (by rw [HLEN2.out]; exact hm)).mono ?_
      rintro e w5 ⟨vv, rfl, ho, hb⟩
      replace Ht := Lib.hid (Ht.out.ext hb)
      replace Hu := Lib.hid (Hu.out.ext hb)
      replace HBW := Lib.hid (ext_trans HBW.out hb)
      have hm5 := hb.size
      clear hb
      have Ra := own_rng ho
      replace ho := ho.mono hsza
      obtain ⟨Aa, ca, rfl, _⟩ := ho.read
      have Ha := Lib.hid ho
      clear ho
      clear Ht
      clear Hu
      go_wp2_with fail
      have hszx := HBW.out.size
      refine (toLetterS_any _ _ _ _ _ (HL.out.ext HBW.out) hn).mono ?_
      rintro e w6 ⟨⟨_, rfl, ho⟩, hb⟩
      replace Ha := Lib.hid (Ha.out.ext hb)
      replace HBW := Lib.hid (ext_trans HBW.out hb)
      have hm6 := hb.size
      clear hb
      have Rx := own_rng ho
      replace ho := ho.mono hszx
      obtain ⟨Ax, cx, rfl, _⟩ := ho.read
      have Hx := Lib.hid ho
      clear ho
      go_wp2_with fail
      have hszy := HBW.out.size
      refine (toLetterS_any _ _ _ _ _ (HL2.out.ext HBW.out) hm).mono ?_
      rintro e w7 ⟨⟨_, rfl, ho⟩, hb⟩
      replace Ha := Lib.hid (Ha.out.ext hb)
      replace Hx := Lib.hid (Hx.out.ext hb)
      replace HBW := Lib.hid (ext_trans HBW.out hb)
      have hm7 := hb.size
      clear hb
      have Ry := own_rng ho
      replace ho := ho.mono hszy
      obtain ⟨Ay, cy, rfl, _⟩ := ho.read
      have Hy := Lib.hid ho
      clear ho
      go_wp2_with fail
      have hszg := HBW.out.size
      refine (impl_MergeBatches _ _ _ _ _ _ _ _ _ Hx.out.ls Hy.out.ls).mono ?_
      rintro e w8 ⟨vv, rfl, ho, hb⟩
      replace Ha := Lib.hid (Ha.out.ext hb)
      replace Hx := Lib.hid (Hx.out.ext hb)
      replace Hy := Lib.hid (Hy.out.ext hb)
      replace HBW := Lib.hid (ext_trans HBW.out hb)
      have hm8 := hb.size
      clear hb
      have Rg := own_rng ho
      replace ho := ho.mono hszg
      obtain ⟨Ag, cg, rfl, _⟩ := ho.read
      have Hg := Lib.hid ho
      clear ho
      have q1 : (xs.length : Int) ≤ 1048576 := by rw [HLEN.out]; omega
      have q2 : (ys.length : Int) ≤ 1048576 := by rw [HLEN2.out]; omega
      have q3 : ((mergeR xs ys).length : Int) ≤ 2097152 := by have := mergeR_le xs ys; omega
      go_wp2_with fail
      refine (eqLetterS_same _ _ _ _ _ _ _ _ Hg.out.ls Ha.out.ls).mono ?_
      rintro e w9 ⟨rfl, hb⟩
      replace Ha := Lib.hid (Ha.out.ext hb)
      replace Hx := Lib.hid (Hx.out.ext hb)
      replace Hy := Lib.hid (Hy.out.ext hb)
      replace Hg := Lib.hid (Hg.out.ext hb)
      replace HBW := Lib.hid (ext_trans HBW.out hb)
      have hm9 := hb.size
      clear hb
      go_wp2_with fail
      have hszp := HBW.out.size
      refine (toLetterS_any _ _ _ _ _ (HL.out.ext HBW.out) hn).mono ?_
      rintro e w10 ⟨⟨_, rfl, ho⟩, hb⟩
      replace Ha := Lib.hid (Ha.out.ext hb)
      replace Hx := Lib.hid (Hx.out.ext hb)
      replace Hy := Lib.hid (Hy.out.ext hb)
      replace Hg := Lib.hid (Hg.out.ext hb)
      replace HBW := Lib.hid (ext_trans HBW.out hb)
      have hm10 := hb.size
      clear hb
      have Rp := own_rng ho
      replace ho := ho.mono hszp
      obtain ⟨Ap, cp, rfl, _⟩ := ho.read
      have Hp := Lib.hid ho
      clear ho
      go_wp2_with fail
      refine (eqLetterS_same _ _ _ _ _ _ _ _ Hx.out.ls Hp.out.ls).mono ?_
      rintro e w11 ⟨rfl, hb⟩
      replace Ha := Lib.hid (Ha.out.ext hb)
      replace Hx := Lib.hid (Hx.out.ext hb)
      replace Hy := Lib.hid (Hy.out.ext hb)
      replace Hg := Lib.hid (Hg.out.ext hb)
      replace Hp := Lib.hid (Hp.out.ext hb)
      replace HBW := Lib.hid (ext_trans HBW.out hb)
      have hm11 := hb.size
      clear hb
      clear Hp
      go_wp2_with fail
      have hszq := HBW.out.size
      refine (toLetterS_any _ _ _ _ _ (HL2.out.ext HBW.out) hm).mono ?_
      rintro e w12 ⟨⟨_, rfl, ho⟩, hb⟩
      replace Ha := Lib.hid (Ha.out.ext hb)
      replace Hx := Lib.hid (Hx.out.ext hb)
      replace Hy := Lib.hid (Hy.out.ext hb)
      replace Hg := Lib.hid (Hg.out.ext hb)
      replace HBW := Lib.hid (ext_trans HBW.out hb)
      have hm12 := hb.size
      clear hb
      have Rq := own_rng ho
      replace ho := ho.mono hszq
      obtain ⟨Aq, cq, rfl, _⟩ := ho.read
      have Hq := Lib.hid ho
      clear ho
      go_wp2_with fail
      refine (eqLetterS_same _ _ _ _ _ _ _ _ Hy.out.ls Hq.out.ls).mono ?_
      rintro e w13 ⟨rfl, hb⟩
      replace Ha := Lib.hid (Ha.out.ext hb)
      replace Hx := Lib.hid (Hx.out.ext hb)
      replace Hy := Lib.hid (Hy.out.ext hb)
      replace Hg := Lib.hid (Hg.out.ext hb)
      replace Hq := Lib.hid (Hq.out.ext hb)
      replace HBW := Lib.hid (ext_trans HBW.out hb)
      have hm13 := hb.size
      clear hb
      clear Hq
      go_wp2_with fail
      refine (markLetterS_any 1 _ _ _ _ Hx.out (by omega) (by omega)).mono ?_
      rintro e w14 ⟨rfl, ho, hg⟩
      replace Ha := Lib.hid (Ha.out.kept hg (rng_ne Ra Rx (by omega)))
      replace Hy := Lib.hid (Hy.out.kept hg (rng_ne Ry Rx (by omega)))
      replace Hg := Lib.hid (Hg.out.kept hg (rng_ne Rg Rx (by omega)))
      replace HBW := Lib.hid (below_own HBW.out Hx.out hg)
      replace Hx := Lib.hid ho
      have hm14 := hg.size
      clear ho hg
      go_wp2_with fail
      refine (markLetterS_any _ _ _ _ _ Hy.out (by omega) (by omega)).mono ?_
      rintro e w15 ⟨rfl, ho, hg⟩
      replace Ha := Lib.hid (Ha.out.kept hg (rng_ne Ra Ry (by omega)))
      replace Hx := Lib.hid (Hx.out.kept hg (rng_ne Rx Ry (by omega)))
      replace Hg := Lib.hid (Hg.out.kept hg (rng_ne Rg Ry (by omega)))
      replace HBW := Lib.hid (below_own HBW.out Hy.out hg)
      replace Hy := Lib.hid ho
      have hm15 := hg.size
      clear ho hg
      go_wp2_with fail
      refine (eqLetterS_same _ _ _ _ _ _ _ _ Hg.out.ls Ha.out.ls).mono ?_
      rintro e w16 ⟨rfl, hb⟩
      replace Ha := Lib.hid (Ha.out.ext hb)
      replace Hx := Lib.hid (Hx.out.ext hb)
      replace Hy := Lib.hid (Hy.out.ext hb)
      replace Hg := Lib.hid (Hg.out.ext hb)
      replace HBW := Lib.hid (ext_trans HBW.out hb)
      have hm16 := hb.size
      clear hb
      clear Hx
      clear Hy
      go_wp2_with fail
      refine (markLetterS_any 1 _ _ _ _ Hg.out (by omega) (by omega)).mono ?_
      rintro e w17 ⟨rfl, ho, hg⟩
      replace Ha := Lib.hid (Ha.out.kept hg (rng_ne Ra Rg (by omega)))
      replace HBW := Lib.hid (below_own HBW.out Hg.out hg)
      replace Hg := Lib.hid ho
      have hm17 := hg.size
      clear ho hg
      go_wp2_with fail
      refine (heldLetterS_any 1 _ _ _ _ Hg.out.ls (by omega) (by omega)).mono ?_
      rintro e w18 ⟨rfl, hb⟩
      replace Ha := Lib.hid (Ha.out.ext hb)
      replace Hg := Lib.hid (Hg.out.ext hb)
      replace HBW := Lib.hid (ext_trans HBW.out hb)
      have hm18 := hb.size
      clear hb
      go_wp2_with fail
      have hszr := HBW.out.size
      refine (toLetterS_any _ _ _ _ _ (HL.out.ext HBW.out) hn).mono ?_
      rintro e w19 ⟨⟨_, rfl, ho⟩, hb⟩
      replace Ha := Lib.hid (Ha.out.ext hb)
      replace Hg := Lib.hid (Hg.out.ext hb)
      replace HBW := Lib.hid (ext_trans HBW.out hb)
      have hm19 := hb.size
      clear hb
      have Rr := own_rng ho
      replace ho := ho.mono hszr
      obtain ⟨Ar, cr, rfl, _⟩ := ho.read
      have Hr := Lib.hid ho
      clear ho
      go_wp2_with fail
      have hszs := HBW.out.size
      refine (toLetterS_any _ _ _ _ _ (HL2.out.ext HBW.out) hm).mono ?_
      rintro e w20 ⟨⟨_, rfl, ho⟩, hb⟩
      replace Ha := Lib.hid (Ha.out.ext hb)
      replace Hg := Lib.hid (Hg.out.ext hb)
      replace Hr := Lib.hid (Hr.out.ext hb)
      replace HBW := Lib.hid (ext_trans HBW.out hb)
      have hm20 := hb.size
      clear hb
      have Rs := own_rng ho
      replace ho := ho.mono hszs
      obtain ⟨As, cs, rfl, _⟩ := ho.read
      have Hs := Lib.hid ho
      clear ho
      go_wp2_with fail
      have hszk := HBW.out.size
      refine (impl_MergeBatches _ _ _ _ _ _ _ _ _ Hr.out.ls Hs.out.ls).mono ?_
      rintro e w21 ⟨vv, rfl, ho, hb⟩
      replace Ha := Lib.hid (Ha.out.ext hb)
      replace Hg := Lib.hid (Hg.out.ext hb)
      replace Hr := Lib.hid (Hr.out.ext hb)
      replace Hs := Lib.hid (Hs.out.ext hb)
      replace HBW := Lib.hid (ext_trans HBW.out hb)
      have hm21 := hb.size
      clear hb
      have Rk := own_rng ho
      replace ho := ho.mono hszk
      obtain ⟨Ak, ck, rfl, _⟩ := ho.read
      have Hk := Lib.hid ho
      clear ho
      clear Hr
      clear Hs
      go_wp2_with fail
      refine (eqLetterS_same _ _ _ _ _ _ _ _ Hk.out.ls Ha.out.ls).mono ?_
      rintro e w22 ⟨rfl, hb⟩
      replace Ha := Lib.hid (Ha.out.ext hb)
      replace Hg := Lib.hid (Hg.out.ext hb)
      replace Hk := Lib.hid (Hk.out.ext hb)
      replace HBW := Lib.hid (ext_trans HBW.out hb)
      have hm22 := hb.size
      clear hb
      go_wp2_with fail
      refine (heldLetterS_any 1 _ _ _ _ Hg.out.ls (by omega) (by omega)).mono ?_
      rintro e w23 ⟨rfl, hb⟩
      replace Ha := Lib.hid (Ha.out.ext hb)
      replace Hg := Lib.hid (Hg.out.ext hb)
      replace Hk := Lib.hid (Hk.out.ext hb)
      replace HBW := Lib.hid (ext_trans HBW.out hb)
      have hm23 := hb.size
      clear hb
      go_wp2_with fail
      go_ret
      exact ⟨rfl, HBW.out⟩

end Go.Proofs.Ytagoihjmedbfeaa
