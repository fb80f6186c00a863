/-
  WALKS: CountPrefix; the exact laws' marks: markText, markLetterS, heldLetterS. By an AI agent.
-/
import Derived.Test.YtagoihjmedbfeaaOwn
import Derived.Test.YtagoihjmedbfeaaByte
namespace Go.Proofs.Ytagoihjmedbfeaa
open Go.RowKit

/-- What CountPrefix answers. -/
def cntV (ls : List Ltr) (p : ByteArray) : Int := if splitOk ls p = true then ((withP ls p).length : Int) else -1

set_option maxHeartbeats 1000000 in
theorem impl_CountPrefix (A : Option Addr) (n cap : Nat) (ls : List Ltr) (p : ByteArray) (w : World) (h : LS w A n cap ls) (hp : p.size ≤ maxLen) :
    Calls Try.prog 27 #[.slice A n cap, .string p] w fun e w' => e = .returned (.int .i64 (cntV ls p)) ∧ Below w.heap.size w w' := by
  have HL := Lib.hid h
  clear h
  cases hok : splitOk ls p with
  | false =>
    have H := Lib.hid (show cntV ls p = -1 from by simp [cntV, hok])
    have HO := Lib.hid hok
    clear hok
    go_enter Try.func27, Try.ntmps27
    go_wp2_with fail
    refine (impl_SplitBatch _ _ _ _ _ _ HL.out hp).mono ?_
    rintro e w1 ⟨v1, v2, rfl, ht, hb1⟩
    rw [HO.out]
    go_wp2_with fail
    go_ret
    exact ⟨ret_int H.out.symm, (by repeat (first | exact Below.refl _ _ | assumption | refine ext_alloc ?_ _ | refine Below.drew ?_ | refine below_drewN' ?_ _ | refine ext_set ?_ (by first | (simp; done) | (simp; omega) | omega) _ | refine ext_trans ?_ (by assumption)))⟩
  | true =>
    have H := Lib.hid (show cntV ls p = ((splitA ls p).length : Int) from by simp [cntV, splitA, hok])
    have HO := Lib.hid hok
    clear hok
    go_enter Try.func27, Try.ntmps27
    go_wp2_with fail
    refine (impl_SplitBatch _ _ _ _ _ _ HL.out hp).mono ?_
    rintro e w1 ⟨v1, v2, rfl, ht, hb1⟩
    rw [HO.out]
    obtain ⟨A1, c1, rfl, _⟩ := ht.1.read
    clear ht
    go_wp2_with fail
    go_ret
    exact ⟨ret_int H.out.symm, (by repeat (first | exact Below.refl _ _ | assumption | refine ext_alloc ?_ _ | refine Below.drew ?_ | refine below_drewN' ?_ _ | refine ext_set ?_ (by first | (simp; done) | (simp; omega) | omega) _ | refine ext_trans ?_ (by assumption)))⟩

set_option maxHeartbeats 1000000 in
theorem spec_CountPrefix (A : Option Addr) (n cap : Nat) (ls : List Ltr) (p : ByteArray) (w : World) (h : LS w A n cap ls) (hp : p.size ≤ maxLen) :
    Calls Try.prog 26 #[.slice A n cap, .string p] w fun e w' => e = .returned (.int .i64 (cntV ls p)) ∧ Below w.heap.size w w' := by
  have HL := Lib.hid h
  clear h
  cases hok : splitOk ls p with
  | false =>
    have H := Lib.hid (show cntV ls p = -1 from by simp [cntV, hok])
    have HO := Lib.hid hok
    clear hok
    go_enter Try.func26, Try.ntmps26
    go_wp2_with fail
    refine (spec_SplitBatch _ _ _ _ _ _ HL.out hp).mono ?_
    rintro e w1 ⟨v1, v2, rfl, ht, hb1⟩
    rw [HO.out]
    go_wp2_with fail
    go_ret
    exact ⟨ret_int H.out.symm, (by repeat (first | exact Below.refl _ _ | assumption | refine ext_alloc ?_ _ | refine Below.drew ?_ | refine below_drewN' ?_ _ | refine ext_set ?_ (by first | (simp; done) | (simp; omega) | omega) _ | refine ext_trans ?_ (by assumption)))⟩
  | true =>
    have H := Lib.hid (show cntV ls p = ((splitA ls p).length : Int) from by simp [cntV, splitA, hok])
    have HO := Lib.hid hok
    clear hok
    go_enter Try.func26, Try.ntmps26
    go_wp2_with fail
    refine (spec_SplitBatch _ _ _ _ _ _ HL.out hp).mono ?_
    rintro e w1 ⟨v1, v2, rfl, ht, hb1⟩
    rw [HO.out]
    obtain ⟨A1, c1, rfl, _⟩ := ht.1.read
    clear ht
    go_wp2_with fail
    go_ret
    exact ⟨ret_int H.out.symm, (by repeat (first | exact Below.refl _ _ | assumption | refine ext_alloc ?_ _ | refine Below.drew ?_ | refine below_drewN' ?_ _ | refine ext_set ?_ (by first | (simp; done) | (simp; omega) | omega) _ | refine ext_trans ?_ (by assumption)))⟩

set_option maxHeartbeats 2000000 in
theorem law_FnExactCountPrefix (A : Option Addr) (n cap : Nat) (ls : List Ltr) (p : ByteArray) (w : World) (h : LS w A n cap ls) (hp : p.size ≤ maxLen) :
    Calls Try.prog 7 #[.slice A n cap, .string p] w fun e w' => e = .returned (.bool true) ∧ Below w.heap.size w w' := by
  have HL := Lib.hid h
  have HLEN := Lib.hid h.1
  clear h
  by_cases hps : p.size ≤ 1048576
  · obtain ⟨z, hz⟩ : ∃ z, szL ls 1048576 = z := ⟨_, rfl⟩
    have HZ := Lib.hid hz
    clear hz
    by_cases hneg : z < 0
    · go_enter Try.func7, Try.ntmps7
      go_wp2_with (go_at_call 15; refine (szLetterS_any _ _ _ _ _ _ HL.out (by omega) (by omega)).mono ?_; rintro e w1 ⟨rfl, hb1⟩; rw [HZ.out])
      go_ret
      exact ⟨rfl, (by repeat (first | exact Below.refl _ _ | assumption | refine ext_alloc ?_ _ | refine Below.drew ?_ | refine below_drewN' ?_ _ | refine ext_set ?_ (by first | (simp; done) | (simp; omega) | omega) _ | refine ext_trans ?_ (by assumption)))⟩
    · have hn : n ≤ 1048576 := by have := szL_len ls 1048576 (by rw [HZ.out]; omega); rw [HLEN.out] at this; omega
      go_enter Try.func7, Try.ntmps7
      go_wp2_with fail
      refine (szLetterS_any _ _ _ _ _ _ HL.out (by omega) (by omega)).mono ?_
      rintro e w1 ⟨rfl, hb1⟩
      rw [HZ.out]
      go_wp2_with fail
      refine (toLetterS_any _ _ _ _ _ (HL.out.ext hb1) hn).mono ?_
      rintro e w2 ⟨⟨_, rfl, ho2⟩, hb2⟩
      obtain ⟨A2, c2, rfl, hl2⟩ := ho2.read
      go_wp2_with fail
      refine (spec_CountPrefix _ _ _ _ _ _ hl2 hp).mono ?_
      rintro e w3 ⟨rfl, hb3⟩
      go_wp2_with fail
      refine (toLetterS_any _ _ _ _ _ (((HL.out.ext hb1).ext hb2).ext hb3) hn).mono ?_
      rintro e w4 ⟨⟨_, rfl, ho4⟩, hb4⟩
      obtain ⟨A4, c4, rfl, hl4⟩ := ho4.read
      go_wp2_with fail
      refine (impl_CountPrefix _ _ _ _ _ _ hl4 hp).mono ?_
      rintro e w5 ⟨rfl, hb5⟩
      go_wp2_with fail
      refine (toLetterS_any _ _ _ _ _ (((((HL.out.ext hb1).ext hb2).ext hb3).ext hb4).ext hb5) hn).mono ?_
      rintro e w6 ⟨⟨_, rfl, ho6⟩, hb6⟩
      obtain ⟨A6, c6, rfl, hl6⟩ := ho6.read
      go_wp2_with fail
      refine (eqLetterS_same _ _ _ _ _ _ _ _ ((hl4.ext hb5).ext hb6) hl6).mono ?_
      rintro e w7 ⟨rfl, hb7⟩
      go_wp2_with fail
      go_ret
      exact ⟨rfl, (by repeat (first | exact Below.refl _ _ | assumption | refine ext_alloc ?_ _ | refine Below.drew ?_ | refine below_drewN' ?_ _ | refine ext_set ?_ (by first | (simp; done) | (simp; omega) | omega) _ | refine ext_trans ?_ (by assumption)))⟩
  · go_enter Try.func7, Try.ntmps7
    go_wp2_with fail
    go_ret
    exact ⟨rfl, (by repeat (first | exact Below.refl _ _ | assumption | refine ext_alloc ?_ _ | refine Below.drew ?_ | refine below_drewN' ?_ _ | refine ext_set ?_ (by first | (simp; done) | (simp; omega) | omega) _ | refine ext_trans ?_ (by assumption)))⟩


/-- The digits of a number, in front of others. -/
def decF : Nat → Nat → List UInt8 → List UInt8
  | 0, _, acc => acc
  | f + 1, k, acc => if k = 0 then acc else decF f (k / 10) (dgB ((k : Int) % 10) :: acc)
/-- What markText answers. -/
def mkT (k : Nat) : ByteArray := if k = 0 then ⟨#[109, 48]⟩ else bs (109 :: decF k k [])
theorem decF_len : ∀ (f k : Nat) (acc : List UInt8), k ≤ f → (decF f k acc).length ≤ acc.length + k
  | 0, k, acc, h => by simp [decF]
  | f + 1, k, acc, h => by
    simp only [decF]; split
    · omega
    · have := decF_len f (k / 10) (dgB ((k : Int) % 10) :: acc) (by omega)
      simp only [List.length_cons] at this; omega
theorem mkT_size (k : Nat) (h : k ≤ 1000000000) : (mkT k).size ≤ maxLen := by
  unfold mkT maxLen; split
  · show 2 ≤ _; omega
  · rw [bs_size, List.length_cons]; have := decF_len k k [] (Nat.le_refl _); simp at this; omega

set_option maxHeartbeats 2000000 in
theorem markText_any (k : Nat) (w : World) (hk : k ≤ 1000000000) :
    Calls Try.prog 58 #[.int .i64 k] w fun e w' => e = .returned (.string (mkT k)) ∧ Below w.heap.size w w' := by
  by_cases h0 : k = 0
  · have H := Lib.hid (show mkT k = ⟨#[109, 48]⟩ from by simp [mkT, h0])
    have hle : (k : Int) ≤ 0 := by omega
    clear h0
    go_enter Try.func58, Try.ntmps58
    go_wp2_with fail
    go_ret
    exact ⟨ret_val (congrArg Value.string H.out.symm), (by repeat (first | exact Below.refl _ _ | assumption | refine ext_alloc ?_ _ | refine Below.drew ?_ | refine below_drewN' ?_ _ | refine ext_set ?_ (by first | (simp; done) | (simp; omega) | omega) _ | refine ext_trans ?_ (by assumption)))⟩
  · have H := Lib.hid (show mkT k = bs (109 :: decF k k []) from by simp [mkT, h0])
    have hle : 0 < (k : Int) := by omega
    clear h0
    go_enter Try.func58, Try.ntmps58
    go_wp2_with fail
    go_loopw [0, 3] (fun kv ov wr => ∃ (m f : Nat) (acc : List UInt8), kv = .int .i64 m ∧ ov = .string (bs acc) ∧ m ≤ f ∧ m + acc.length ≤ k ∧ decF f m acc = decF k k [] ∧ Below w.heap.size w wr) (fun kv _ _ => (intOf kv).toNat)
    case atStart => exact ⟨k, k, [], rfl, rfl, by omega, by simp, rfl, Below.refl _ _⟩
    case round =>
      obtain ⟨m, f, acc, rfl, rfl, hmf, hlen, hd, hbel⟩ := hrel
      have HD := Lib.hid hd
      have hsz : (bs acc).size ≤ 1000000000 := by rw [bs_size]; omega
      clear hd
      by_cases hm : 0 < m
      · obtain ⟨f', rfl⟩ : ∃ f', f = f' + 1 := ⟨f - 1, by omega⟩
        have hcv := one_byte ((m : Int) % 10) (by omega) (by omega)
        have hno : ¬ 9223372036854775807 < (bs [dgB ((m : Int) % 10)]).size + (bs acc).size := by have : (bs [dgB ((m : Int) % 10)]).size = 1 := rfl; omega
        have HD2 := Lib.hid (show decF f' (m / 10) (dgB ((m : Int) % 10) :: acc) = decF k k [] from by rw [← HD.out]; simp only [decF]; rw [if_neg (by omega)])
        go_wp2_with fail
        go_roundw
        case rel => exact ⟨m / 10, f', _, by simp, congrArg Value.string (by rw [bs_append]; rfl), by omega, by simp only [List.length_cons]; omega, HD2.out, (by repeat (first | exact Below.refl _ _ | assumption | refine ext_alloc ?_ _ | refine Below.drew ?_ | refine below_drewN' ?_ _ | refine ext_set ?_ (by first | (simp; done) | (simp; omega) | omega) _ | refine ext_trans ?_ (by assumption)))⟩
        case measure => simp [intOf]; omega
      · have HE := Lib.hid (show acc = decF k k [] from by
          rw [← HD.out]; cases f with
          | zero => rfl
          | succ f => simp only [decF]; rw [if_pos (by omega)])
        have hno : ¬ 9223372036854775807 < 1 + (bs acc).size := by omega
        go_wp2_with fail
        go_ret
        exact ⟨ret_val (congrArg Value.string (by rw [H.out, ← HE.out, show (⟨#[109]⟩ : ByteArray) = bs [109] from rfl, bs_append]; rfl)), (by repeat (first | exact Below.refl _ _ | assumption | refine ext_alloc ?_ _ | refine Below.drew ?_ | refine below_drewN' ?_ _ | refine ext_set ?_ (by first | (simp; done) | (simp; omega) | omega) _ | refine ext_trans ?_ (by assumption)))⟩

end Go.Proofs.Ytagoihjmedbfeaa
