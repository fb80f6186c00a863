/-
  WALKS: the law FnExactSplitBatch. By an AI agent.
-/
import Derived.Test.YtagoihjmedbfeaaRng
namespace Go.Proofs.Ytagoihjmedbfeaa
open Go.RowKit

theorem splitA_le (ls : List Ltr) (p : ByteArray) : (splitA ls p).length ≤ ls.length := by
  unfold splitA; split
  · exact withP_le ls p
  · exact Nat.zero_le _
theorem splitB_le (ls : List Ltr) (p : ByteArray) : (splitB ls p).length ≤ ls.length := by
  unfold splitB; split
  · exact without_le ls p
  · exact Nat.zero_le _

set_option maxRecDepth 100000 in
set_option maxHeartbeats 8000000 in
theorem law_FnExactSplitBatch (A : Option Addr) (n cap : Nat) (ls : List Ltr) (p : ByteArray) (w : World) (h : LS w A n cap ls) (hp : p.size ≤ maxLen) :
    Calls Try.prog 9 #[.slice A n cap, .string p] w fun e w' => e = .returned (.bool true) ∧ Below w.heap.size w w' := by
  have HL := Lib.hid h
  have HLEN := Lib.hid h.1
  clear h
  by_cases hps : p.size ≤ 1048576
  · obtain ⟨z, hz⟩ : ∃ z, szL ls 1048576 = z := ⟨_, rfl⟩
    have HZ := Lib.hid hz
    clear hz
    by_cases hneg : z < 0
    · go_enter Try.func9, Try.ntmps9
      go_wp2_with (go_at_call 15; refine (szLetterS_any _ _ _ _ _ _ HL.out (by omega) (by omega)).mono ?_; rintro e w1 ⟨rfl, hb1⟩; rw [HZ.out])
      go_ret
      exact ⟨rfl, (by repeat (first | exact Below.refl _ _ | assumption | refine ext_alloc ?_ _ | refine Below.drew ?_ | refine below_drewN' ?_ _ | refine ext_set ?_ (by first | (simp; done) | (simp; omega) | omega) _ | refine ext_trans ?_ (by assumption)))⟩
    · have hn : n ≤ 1048576 := by have := szL_len ls 1048576 (by rw [HZ.out]; omega); rw [HLEN.out] at this; omega
      have HBW := Lib.hid (Below.refl w.heap.size w)
      obtain ⟨ok, hok⟩ : ∃ ok, splitOk ls p = ok := ⟨_, rfl⟩
      go_enter Try.func9, Try.ntmps9
      go_wp2_with fail
      refine (szLetterS_any _ _ _ _ _ _ HL.out (by omega) (by omega)).mono ?_
      rintro e w1 ⟨rfl, hb⟩
      replace HBW := Lib.hid (ext_trans HBW.out hb)
      have hm1 := hb.size
      clear hb
      rw [HZ.out]
      go_wp2_with fail
      have hszt := HBW.out.size
      refine (toLetterS_any _ _ _ _ _ (HL.out.ext HBW.out) hn).mono ?_
      rintro e w2 ⟨⟨_, rfl, ho⟩, hb⟩
      replace HBW := Lib.hid (ext_trans HBW.out hb)
      have hm2 := hb.size
      clear hb
      have Rt := own_rng ho
      replace ho := ho.mono hszt
      obtain ⟨At, ct, rfl, _⟩ := ho.read
      have Ht := Lib.hid ho
      clear ho
      go_wp2_with fail
      have hszw := HBW.out.size
      refine (spec_SplitBatch _ _ _ _ _ _ Ht.out.ls hp).mono ?_
      rintro e w3 ⟨v1, v2, rfl, ho, hb⟩
      replace Ht := Lib.hid (Ht.out.ext hb)
      replace HBW := Lib.hid (ext_trans HBW.out hb)
      have hm3 := hb.size
      clear hb
      clear Ht
      have Ra := own_rng ho.1
      have Rb := own_rng ho.2.1
      have Nab := Lib.hid ho.2.2
      have Nba := Lib.hid ho.symm.2.2
      have ha := ho.1.mono hszw
      obtain ⟨Aa, ca, rfl, _⟩ := ha.read
      have Ha := Lib.hid ha
      clear ha
      have hb := ho.2.1.mono hszw
      obtain ⟨Ab, cb, rfl, _⟩ := hb.read
      have Hb := Lib.hid hb
      clear hb
      clear ho
      go_wp2_with fail
      have hszx := HBW.out.size
      refine (toLetterS_any _ _ _ _ _ (HL.out.ext HBW.out) hn).mono ?_
      rintro e w4 ⟨⟨_, rfl, ho⟩, hb⟩
      replace Ha := Lib.hid (Ha.out.ext hb)
      replace Hb := Lib.hid (Hb.out.ext hb)
      replace HBW := Lib.hid (ext_trans HBW.out hb)
      have hm4 := hb.size
      clear hb
      have Rx := own_rng ho
      replace ho := ho.mono hszx
      obtain ⟨Ax, cx, rfl, _⟩ := ho.read
      have Hx := Lib.hid ho
      clear ho
      go_wp2_with fail
      have hszg := HBW.out.size
      refine (impl_SplitBatch _ _ _ _ _ _ Hx.out.ls hp).mono ?_
      rintro e w5 ⟨v3, v4, rfl, ho, hb⟩
      replace Ha := Lib.hid (Ha.out.ext hb)
      replace Hb := Lib.hid (Hb.out.ext hb)
      replace Hx := Lib.hid (Hx.out.ext hb)
      replace HBW := Lib.hid (ext_trans HBW.out hb)
      have hm5 := hb.size
      clear hb
      have Rg := own_rng ho.1
      have Rh := own_rng ho.2.1
      have Ngh := Lib.hid ho.2.2
      have Nhg := Lib.hid ho.symm.2.2
      have hg := ho.1.mono hszg
      obtain ⟨Ag, cg, rfl, _⟩ := hg.read
      have Hg := Lib.hid hg
      clear hg
      have hh := ho.2.1.mono hszg
      obtain ⟨Ah, ch, rfl, _⟩ := hh.read
      have Hh := Lib.hid hh
      clear hh
      clear ho
      have q1 : (ls.length : Int) ≤ 1048576 := by rw [HLEN.out]; omega
      have q2 : ((splitA ls p).length : Int) ≤ 1048576 := by have := splitA_le ls p; omega
      have q3 : ((splitB ls p).length : Int) ≤ 1048576 := by have := splitB_le ls p; omega
      go_wp2_with fail
      refine (eqLetterS_same _ _ _ _ _ _ _ _ Hg.out.ls Ha.out.ls).mono ?_
      rintro e w6 ⟨rfl, hb⟩
      replace Ha := Lib.hid (Ha.out.ext hb)
      replace Hb := Lib.hid (Hb.out.ext hb)
      replace Hx := Lib.hid (Hx.out.ext hb)
      replace Hg := Lib.hid (Hg.out.ext hb)
      replace Hh := Lib.hid (Hh.out.ext hb)
      replace HBW := Lib.hid (ext_trans HBW.out hb)
      have hm6 := hb.size
      clear hb
      go_wp2_with fail
      refine (eqLetterS_same _ _ _ _ _ _ _ _ Hh.out.ls Hb.out.ls).mono ?_
      rintro e w7 ⟨rfl, hb⟩
      replace Ha := Lib.hid (Ha.out.ext hb)
      replace Hb := Lib.hid (Hb.out.ext hb)
      replace Hx := Lib.hid (Hx.out.ext hb)
      replace Hg := Lib.hid (Hg.out.ext hb)
      replace Hh := Lib.hid (Hh.out.ext hb)
      replace HBW := Lib.hid (ext_trans HBW.out hb)
      have hm7 := hb.size
      clear hb
      go_wp2_with fail
      have hszy := HBW.out.size
      refine (toLetterS_any _ _ _ _ _ (HL.out.ext HBW.out) hn).mono ?_
      rintro e w8 ⟨⟨_, rfl, ho⟩, hb⟩
      replace Ha := Lib.hid (Ha.out.ext hb)
      replace Hb := Lib.hid (Hb.out.ext hb)
      replace Hx := Lib.hid (Hx.out.ext hb)
      replace Hg := Lib.hid (Hg.out.ext hb)
      replace Hh := Lib.hid (Hh.out.ext hb)
      replace HBW := Lib.hid (ext_trans HBW.out hb)
      have hm8 := hb.size
      clear hb
      have Ry := own_rng ho
      replace ho := ho.mono hszy
      obtain ⟨Ay, cy, rfl, _⟩ := ho.read
      have Hy := Lib.hid ho
      clear ho
      go_wp2_with fail
      refine (eqLetterS_same _ _ _ _ _ _ _ _ Hx.out.ls Hy.out.ls).mono ?_
      rintro e w9 ⟨rfl, hb⟩
      replace Ha := Lib.hid (Ha.out.ext hb)
      replace Hb := Lib.hid (Hb.out.ext hb)
      replace Hx := Lib.hid (Hx.out.ext hb)
      replace Hg := Lib.hid (Hg.out.ext hb)
      replace Hh := Lib.hid (Hh.out.ext hb)
      replace Hy := Lib.hid (Hy.out.ext hb)
      replace HBW := Lib.hid (ext_trans HBW.out hb)
      have hm9 := hb.size
      clear hb
      clear Hy
      go_wp2_with fail
      refine (markLetterS_any 1 _ _ _ _ Hx.out (by omega) (by omega)).mono ?_
      rintro e w10 ⟨rfl, ho, hg⟩
      replace Ha := Lib.hid (Ha.out.kept hg (rng_ne Ra Rx (by omega)))
      replace Hb := Lib.hid (Hb.out.kept hg (rng_ne Rb Rx (by omega)))
      replace Hg := Lib.hid (Hg.out.kept hg (rng_ne Rg Rx (by omega)))
      replace Hh := Lib.hid (Hh.out.kept hg (rng_ne Rh Rx (by omega)))
      replace HBW := Lib.hid (below_own HBW.out Hx.out hg)
      replace Hx := Lib.hid ho
      have hm10 := hg.size
      clear ho hg
      go_wp2_with fail
      refine (eqLetterS_same _ _ _ _ _ _ _ _ Hg.out.ls Ha.out.ls).mono ?_
      rintro e w11 ⟨rfl, hb⟩
      replace Ha := Lib.hid (Ha.out.ext hb)
      replace Hb := Lib.hid (Hb.out.ext hb)
      replace Hx := Lib.hid (Hx.out.ext hb)
      replace Hg := Lib.hid (Hg.out.ext hb)
      replace Hh := Lib.hid (Hh.out.ext hb)
      replace HBW := Lib.hid (ext_trans HBW.out hb)
      have hm11 := hb.size
      clear hb
      go_wp2_with fail
      refine (eqLetterS_same _ _ _ _ _ _ _ _ Hh.out.ls Hb.out.ls).mono ?_
      rintro e w12 ⟨rfl, hb⟩
      replace Ha := Lib.hid (Ha.out.ext hb)
      replace Hb := Lib.hid (Hb.out.ext hb)
      replace Hx := Lib.hid (Hx.out.ext hb)
      replace Hg := Lib.hid (Hg.out.ext hb)
      replace Hh := Lib.hid (Hh.out.ext hb)
      replace HBW := Lib.hid (ext_trans HBW.out hb)
      have hm12 := hb.size
      clear hb
      clear Hx
      go_wp2_with fail
      refine (markLetterS_any 1 _ _ _ _ Hg.out (by omega) (by omega)).mono ?_
      rintro e w13 ⟨rfl, ho, hg⟩
      replace Ha := Lib.hid (Ha.out.kept hg (rng_ne Ra Rg (by omega)))
      replace Hb := Lib.hid (Hb.out.kept hg (rng_ne Rb Rg (by omega)))
      replace Hh := Lib.hid (Hh.out.kept hg Nhg.out)
      replace HBW := Lib.hid (below_own HBW.out Hg.out hg)
      replace Hg := Lib.hid ho
      have hm13 := hg.size
      clear ho hg
      go_wp2_with fail
      refine (markLetterS_any _ _ _ _ _ Hh.out (by omega) (by omega)).mono ?_
      rintro e w14 ⟨rfl, ho, hg⟩
      replace Ha := Lib.hid (Ha.out.kept hg (rng_ne Ra Rh (by omega)))
      replace Hb := Lib.hid (Hb.out.kept hg (rng_ne Rb Rh (by omega)))
      replace Hg := Lib.hid (Hg.out.kept hg Ngh.out)
      replace HBW := Lib.hid (below_own HBW.out Hh.out hg)
      replace Hh := Lib.hid ho
      have hm14 := hg.size
      clear ho hg
      go_wp2_with fail
      refine (heldLetterS_any 1 _ _ _ _ Hg.out.ls (by omega) (by omega)).mono ?_
      rintro e w15 ⟨rfl, hb⟩
      replace Ha := Lib.hid (Ha.out.ext hb)
      replace Hb := Lib.hid (Hb.out.ext hb)
      replace Hg := Lib.hid (Hg.out.ext hb)
      replace Hh := Lib.hid (Hh.out.ext hb)
      replace HBW := Lib.hid (ext_trans HBW.out hb)
      have hm15 := hb.size
      clear hb
      go_wp2_with fail
      refine (heldLetterS_any _ _ _ _ _ Hh.out.ls (by omega) (by omega)).mono ?_
      rintro e w16 ⟨rfl, hb⟩
      replace Ha := Lib.hid (Ha.out.ext hb)
      replace Hb := Lib.hid (Hb.out.ext hb)
      replace Hg := Lib.hid (Hg.out.ext hb)
      replace Hh := Lib.hid (Hh.out.ext hb)
      replace HBW := Lib.hid (ext_trans HBW.out hb)
      have hm16 := hb.size
      clear hb
      go_wp2_with fail
      have hszz := HBW.out.size
      refine (toLetterS_any _ _ _ _ _ (HL.out.ext HBW.out) hn).mono ?_
      rintro e w17 ⟨⟨_, rfl, ho⟩, hb⟩
      replace Ha := Lib.hid (Ha.out.ext hb)
      replace Hb := Lib.hid (Hb.out.ext hb)
      replace Hg := Lib.hid (Hg.out.ext hb)
      replace Hh := Lib.hid (Hh.out.ext hb)
      replace HBW := Lib.hid (ext_trans HBW.out hb)
      have hm17 := hb.size
      clear hb
      have Rz := own_rng ho
      replace ho := ho.mono hszz
      obtain ⟨Az, cz, rfl, _⟩ := ho.read
      have Hz := Lib.hid ho
      clear ho
      go_wp2_with fail
      have hszh := HBW.out.size
      refine (impl_SplitBatch _ _ _ _ _ _ Hz.out.ls hp).mono ?_
      rintro e w18 ⟨v5, v6, rfl, ho, hb⟩
      replace Ha := Lib.hid (Ha.out.ext hb)
      replace Hb := Lib.hid (Hb.out.ext hb)
      replace Hg := Lib.hid (Hg.out.ext hb)
      replace Hh := Lib.hid (Hh.out.ext hb)
      replace Hz := Lib.hid (Hz.out.ext hb)
      replace HBW := Lib.hid (ext_trans HBW.out hb)
      have hm18 := hb.size
      clear hb
      clear Hz
      obtain ⟨Ak, ck, rfl, _⟩ := ho.1.read
      have Hk := Lib.hid ho.1
      obtain ⟨Am, cm, rfl, _⟩ := ho.2.1.read
      have Hm := Lib.hid ho.2.1
      clear ho
      go_wp2_with fail
      refine (eqLetterS_same _ _ _ _ _ _ _ _ Hk.out.ls Ha.out.ls).mono ?_
      rintro e w19 ⟨rfl, hb⟩
      replace Ha := Lib.hid (Ha.out.ext hb)
      replace Hb := Lib.hid (Hb.out.ext hb)
      replace Hg := Lib.hid (Hg.out.ext hb)
      replace Hh := Lib.hid (Hh.out.ext hb)
      replace Hk := Lib.hid (Hk.out.ext hb)
      replace Hm := Lib.hid (Hm.out.ext hb)
      replace HBW := Lib.hid (ext_trans HBW.out hb)
      have hm19 := hb.size
      clear hb
      go_wp2_with fail
      refine (eqLetterS_same _ _ _ _ _ _ _ _ Hm.out.ls Hb.out.ls).mono ?_
      rintro e w20 ⟨rfl, hb⟩
      replace Ha := Lib.hid (Ha.out.ext hb)
      replace Hb := Lib.hid (Hb.out.ext hb)
      replace Hg := Lib.hid (Hg.out.ext hb)
      replace Hh := Lib.hid (Hh.out.ext hb)
      replace Hk := Lib.hid (Hk.out.ext hb)
      replace Hm := Lib.hid (Hm.out.ext hb)
      replace HBW := Lib.hid (ext_trans HBW.out hb)
      have hm20 := hb.size
      clear hb
      go_wp2_with fail
      refine (heldLetterS_any 1 _ _ _ _ Hg.out.ls (by omega) (by omega)).mono ?_
      rintro e w21 ⟨rfl, hb⟩
      replace Ha := Lib.hid (Ha.out.ext hb)
      replace Hb := Lib.hid (Hb.out.ext hb)
      replace Hg := Lib.hid (Hg.out.ext hb)
      replace Hh := Lib.hid (Hh.out.ext hb)
      replace Hk := Lib.hid (Hk.out.ext hb)
      replace Hm := Lib.hid (Hm.out.ext hb)
      replace HBW := Lib.hid (ext_trans HBW.out hb)
      have hm21 := hb.size
      clear hb
      go_wp2_with fail
      refine (heldLetterS_any _ _ _ _ _ Hh.out.ls (by omega) (by omega)).mono ?_
      rintro e w22 ⟨rfl, hb⟩
      replace Ha := Lib.hid (Ha.out.ext hb)
      replace Hb := Lib.hid (Hb.out.ext hb)
      replace Hg := Lib.hid (Hg.out.ext hb)
      replace Hh := Lib.hid (Hh.out.ext hb)
      replace Hk := Lib.hid (Hk.out.ext hb)
      replace Hm := Lib.hid (Hm.out.ext hb)
      replace HBW := Lib.hid (ext_trans HBW.out hb)
      have hm22 := hb.size
      clear hb
      go_wp2_with fail
      go_ret
      exact ⟨rfl, HBW.out⟩
  · go_enter Try.func9, Try.ntmps9
    go_wp2_with fail
    go_ret
    exact ⟨rfl, (by repeat (first | exact Below.refl _ _ | assumption | refine ext_alloc ?_ _ | refine Below.drew ?_ | refine below_drewN' ?_ _ | refine ext_set ?_ (by first | (simp; done) | (simp; omega) | omega) _ | refine ext_trans ?_ (by assumption)))⟩

end Go.Proofs.Ytagoihjmedbfeaa
