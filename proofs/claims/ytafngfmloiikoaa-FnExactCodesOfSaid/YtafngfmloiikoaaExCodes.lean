/-
  WALKS: the law FnExactCodesOf. By an AI agent.
-/
import Derived.Test.YtafngfmloiikoaaCodes
import Derived.Test.YtafngfmloiikoaaMark2
namespace Go.Proofs.Ytafngfmloiikoaa
open Go.RowKit

set_option maxRecDepth 100000 in
set_option maxHeartbeats 8000000 in
theorem law_FnExactCodesOf (A : Option Addr) (n cap : Nat) (ls : List Ltr) (w : World) (h : LS w A n cap ls) :
    Calls Try.prog 13 #[.slice A n cap] w fun e w' => e = .returned (.bool true) ∧ Below w.heap.size w w' := by
  have HL := Lib.hid h
  have HLEN := Lib.hid h.1
  clear h
  obtain ⟨z, hz⟩ : ∃ z, szL ls 1048576 = z := ⟨_, rfl⟩
  have HZ := Lib.hid hz
  clear hz
  by_cases hneg : z < 0
  · go_enter Try.func13, Try.ntmps13
    go_wp2_with (go_at_call 39; refine (szLetterS_any _ _ _ _ _ _ HL.out (by omega) (by omega)).mono ?_; rintro e w1 ⟨rfl, hb1⟩; rw [HZ.out])
    go_ret
    exact ⟨rfl, (by repeat (first | exact Below.refl _ _ | assumption | refine ext_alloc ?_ _ | refine Below.drew ?_ | refine below_drewN' ?_ _ | refine ext_set ?_ (by first | (simp; done) | (simp; omega) | omega) _ | refine ext_trans ?_ (by assumption)))⟩
  · have hn : n ≤ 1048576 := by have := szL_len ls 1048576 (by rw [HZ.out]; omega); rw [HLEN.out] at this; omega
    have HBW := Lib.hid (Below.refl w.heap.size w)
    go_enter Try.func13, Try.ntmps13
    go_wp2_with fail
    refine (szLetterS_any _ _ _ _ _ _ HL.out (by omega) (by omega)).mono ?_
    rintro e w1 ⟨rfl, hb⟩
    replace HBW := Lib.hid (ext_trans HBW.out hb)
    have hm1 := hb.size
    clear hb
    rw [HZ.out]
    go_wp2_with fail
    have hszt := HBW.out.size
    refine (toLetterS_any _ _ _ _ _ (HL.out.ext HBW.out) hn).mono ?_
    rintro e w2 ⟨⟨_, rfl, ho⟩, hb⟩
    replace HBW := Lib.hid (ext_trans HBW.out hb)
    have hm2 := hb.size
    clear hb
    have Rt := own_rng ho
    replace ho := ho.mono hszt
    obtain ⟨At, ct, rfl, _⟩ := ho.read
    have Ht := Lib.hid ho
    clear ho
    go_wp2_with fail
    have hsza := HBW.out.size
    refine (spec_CodesOf _ _ _ _ _ Ht.out.ls Ht.out.nilcap (by rw [HLEN.out]; omega)).mono ?_
    rintro e w3 ⟨vv, rfl, ho, hb⟩
    replace Ht := Lib.hid (Ht.out.ext hb)
    replace HBW := Lib.hid (ext_trans HBW.out hb)
    have hm3 := hb.size
    clear hb
    have Ra := ownT_rng ho
    replace ho := ho.mono hsza
    obtain ⟨Aa, ca, rfl, _⟩ := ho.read
    have Ha := Lib.hid ho
    clear ho
    clear Ht
    go_wp2_with fail
    have hszx := HBW.out.size
    refine (toLetterS_any _ _ _ _ _ (HL.out.ext HBW.out) hn).mono ?_
    rintro e w4 ⟨⟨_, rfl, ho⟩, hb⟩
    replace Ha := Lib.hid (Ha.out.ext hb)
    replace HBW := Lib.hid (ext_trans HBW.out hb)
    have hm4 := hb.size
    clear hb
    have Rx := own_rng ho
    replace ho := ho.mono hszx
    obtain ⟨Ax, cx, rfl, _⟩ := ho.read
    have Hx := Lib.hid ho
    clear ho
    go_wp2_with fail
    have hszg := HBW.out.size
    refine (impl_CodesOf _ _ _ _ _ Hx.out.ls Hx.out.nilcap (by rw [HLEN.out]; omega)).mono ?_
    rintro e w5 ⟨vv, rfl, ho, hb⟩
    replace Ha := Lib.hid (Ha.out.ext hb)
    replace Hx := Lib.hid (Hx.out.ext hb)
    replace HBW := Lib.hid (ext_trans HBW.out hb)
    have hm5 := hb.size
    clear hb
    have Rg := ownT_rng ho
    replace ho := ho.mono hszg
    obtain ⟨Ag, cg, rfl, _⟩ := ho.read
    have Hg := Lib.hid ho
    clear ho
    have q1 : (ls.length : Int) ≤ 1048576 := by rw [HLEN.out]; omega
    have q3 : ((codesR ls).length : Int) ≤ 1048576 := by have := codesR_le ls; omega
    go_wp2_with fail
    refine (eqStringS_same _ _ _ _ _ _ _ _ _ _ Hg.out Ha.out).mono ?_
    rintro e w6 ⟨rfl, hb⟩
    replace Ha := Lib.hid (Ha.out.ext hb)
    replace Hx := Lib.hid (Hx.out.ext hb)
    replace Hg := Lib.hid (Hg.out.ext hb)
    replace HBW := Lib.hid (ext_trans HBW.out hb)
    have hm6 := hb.size
    clear hb
    go_wp2_with fail
    have hszp := HBW.out.size
    refine (toLetterS_any _ _ _ _ _ (HL.out.ext HBW.out) hn).mono ?_
    rintro e w7 ⟨⟨_, rfl, ho⟩, hb⟩
    replace Ha := Lib.hid (Ha.out.ext hb)
    replace Hx := Lib.hid (Hx.out.ext hb)
    replace Hg := Lib.hid (Hg.out.ext hb)
    replace HBW := Lib.hid (ext_trans HBW.out hb)
    have hm7 := hb.size
    clear hb
    have Rp := own_rng ho
    replace ho := ho.mono hszp
    obtain ⟨Ap, cp, rfl, _⟩ := ho.read
    have Hp := Lib.hid ho
    clear ho
    go_wp2_with fail
    refine (eqLetterS_same _ _ _ _ _ _ _ _ Hx.out.ls Hp.out.ls).mono ?_
    rintro e w8 ⟨rfl, hb⟩
    replace Ha := Lib.hid (Ha.out.ext hb)
    replace Hx := Lib.hid (Hx.out.ext hb)
    replace Hg := Lib.hid (Hg.out.ext hb)
    replace Hp := Lib.hid (Hp.out.ext hb)
    replace HBW := Lib.hid (ext_trans HBW.out hb)
    have hm8 := hb.size
    clear hb
    clear Hp
    go_wp2_with fail
    refine (markLetterS_any 1 _ _ _ _ Hx.out (by omega) (by omega)).mono ?_
    rintro e w9 ⟨rfl, ho, hg⟩
    replace Ha := Lib.hid (Ha.out.kept hg (rng_ne Ra Rx (by omega)))
    replace Hg := Lib.hid (Hg.out.kept hg (rng_ne Rg Rx (by omega)))
    replace HBW := Lib.hid (below_own HBW.out Hx.out hg)
    replace Hx := Lib.hid ho
    have hm9 := hg.size
    clear ho hg
    go_wp2_with fail
    refine (eqStringS_same _ _ _ _ _ _ _ _ _ _ Hg.out Ha.out).mono ?_
    rintro e w10 ⟨rfl, hb⟩
    replace Ha := Lib.hid (Ha.out.ext hb)
    replace Hx := Lib.hid (Hx.out.ext hb)
    replace Hg := Lib.hid (Hg.out.ext hb)
    replace HBW := Lib.hid (ext_trans HBW.out hb)
    have hm10 := hb.size
    clear hb
    clear Hx
    go_wp2_with fail
    refine (markStringS_any 1 _ _ _ _ Hg.out (by omega) (by omega)).mono ?_
    rintro e w11 ⟨rfl, ho, hg⟩
    replace Ha := Lib.hid (Ha.out.kept hg (rng_ne Ra Rg (by omega)))
    replace HBW := Lib.hid (below_ownT HBW.out Hg.out hg)
    replace Hg := Lib.hid ho
    have hm11 := hg.size
    clear ho hg
    go_wp2_with fail
    refine (heldStringS_any 1 _ _ _ _ _ Hg.out (by omega) (by omega)).mono ?_
    rintro e w12 ⟨rfl, hb⟩
    replace Ha := Lib.hid (Ha.out.ext hb)
    replace Hg := Lib.hid (Hg.out.ext hb)
    replace HBW := Lib.hid (ext_trans HBW.out hb)
    have hm12 := hb.size
    clear hb
    go_wp2_with fail
    have hszr := HBW.out.size
    refine (toLetterS_any _ _ _ _ _ (HL.out.ext HBW.out) hn).mono ?_
    rintro e w13 ⟨⟨_, rfl, ho⟩, hb⟩
    replace Ha := Lib.hid (Ha.out.ext hb)
    replace Hg := Lib.hid (Hg.out.ext hb)
    replace HBW := Lib.hid (ext_trans HBW.out hb)
    have hm13 := hb.size
    clear hb
    have Rr := own_rng ho
    replace ho := ho.mono hszr
    obtain ⟨Ar, cr, rfl, _⟩ := ho.read
    have Hr := Lib.hid ho
    clear ho
    go_wp2_with fail
    have hszk := HBW.out.size
    refine (impl_CodesOf _ _ _ _ _ Hr.out.ls Hr.out.nilcap (by rw [HLEN.out]; omega)).mono ?_
    rintro e w14 ⟨vv, rfl, ho, hb⟩
    replace Ha := Lib.hid (Ha.out.ext hb)
    replace Hg := Lib.hid (Hg.out.ext hb)
    replace Hr := Lib.hid (Hr.out.ext hb)
    replace HBW := Lib.hid (ext_trans HBW.out hb)
    have hm14 := hb.size
    clear hb
    have Rk := ownT_rng ho
    replace ho := ho.mono hszk
    obtain ⟨Ak, ck, rfl, _⟩ := ho.read
    have Hk := Lib.hid ho
    clear ho
    clear Hr
    go_wp2_with fail
    refine (eqStringS_same _ _ _ _ _ _ _ _ _ _ Hk.out Ha.out).mono ?_
    rintro e w15 ⟨rfl, hb⟩
    replace Ha := Lib.hid (Ha.out.ext hb)
    replace Hg := Lib.hid (Hg.out.ext hb)
    replace Hk := Lib.hid (Hk.out.ext hb)
    replace HBW := Lib.hid (ext_trans HBW.out hb)
    have hm15 := hb.size
    clear hb
    go_wp2_with fail
    refine (heldStringS_any 1 _ _ _ _ _ Hg.out (by omega) (by omega)).mono ?_
    rintro e w16 ⟨rfl, hb⟩
    replace Ha := Lib.hid (Ha.out.ext hb)
    replace Hg := Lib.hid (Hg.out.ext hb)
    replace Hk := Lib.hid (Hk.out.ext hb)
    replace HBW := Lib.hid (ext_trans HBW.out hb)
    have hm16 := hb.size
    clear hb
    go_wp2_with fail
    go_ret
    exact ⟨rfl, HBW.out⟩

end Go.Proofs.Ytafngfmloiikoaa
