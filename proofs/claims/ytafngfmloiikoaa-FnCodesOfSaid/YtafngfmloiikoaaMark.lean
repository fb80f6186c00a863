/-
  WALKS: CountPrefix; the exact laws' marks: markText, markLetterS, heldLetterS. By an AI agent.
-/
import Derived.Test.YtafngfmloiikoaaOwn
import Derived.Test.YtafngfmloiikoaaByte
namespace Go.Proofs.Ytafngfmloiikoaa
open Go.RowKit

/-- What CountPrefix answers. -/
def cntV (ls : List Ltr) (p : ByteArray) : Int := if splitOk ls p = true then ((withP ls p).length : Int) else -1

set_option maxHeartbeats 1000000 in
theorem impl_CountPrefix (A : Option Addr) (n cap : Nat) (ls : List Ltr) (p : ByteArray) (w : World) (h : LS w A n cap ls) (hp : p.size ≤ maxLen) :
    Calls Try.prog 23 #[.slice A n cap, .string p] w fun e w' => e = .returned (.int .i64 (cntV ls p)) ∧ Below w.heap.size w w' := by
  have HL := Lib.hid h
  clear h
  cases hok : splitOk ls p with
  | false =>
    have H := Lib.hid (show cntV ls p = -1 from by simp [cntV, hok])
    have HO := Lib.hid hok
    clear hok
    go_enter Try.func23, Try.ntmps23
    go_wp2_with fail
    refine (impl_SplitBatch _ _ _ _ _ _ HL.out hp).mono ?_
    rintro e w1 ⟨v1, v2, rfl, ht, hb1⟩
    rw [HO.out]
    go_wp2_with fail
    go_ret
    exact ⟨ret_int H.out.symm, (by repeat (first | exact Below.refl _ _ | assumption | refine ext_alloc ?_ _ | refine Below.drew ?_ | refine below_drewN' ?_ _ | refine ext_set ?_ (by first | (simp; done) | (simp; omega) | omega) _ | refine ext_trans ?_ (by assumption)))⟩
  | true =>
    have H := Lib.hid (show cntV ls p = ((splitA ls p).length : Int) from by simp [cntV, splitA, hok])
    have HO := Lib.hid hok
    clear hok
    go_enter Try.func23, Try.ntmps23
    go_wp2_with fail
    refine (impl_SplitBatch _ _ _ _ _ _ HL.out hp).mono ?_
    rintro e w1 ⟨v1, v2, rfl, ht, hb1⟩
    rw [HO.out]
    obtain ⟨A1, c1, rfl, _⟩ := ht.1.read
    clear ht
    go_wp2_with fail
    go_ret
    exact ⟨ret_int H.out.symm, (by repeat (first | exact Below.refl _ _ | assumption | refine ext_alloc ?_ _ | refine Below.drew ?_ | refine below_drewN' ?_ _ | refine ext_set ?_ (by first | (simp; done) | (simp; omega) | omega) _ | refine ext_trans ?_ (by assumption)))⟩

set_option maxHeartbeats 1000000 in
theorem spec_CountPrefix (A : Option Addr) (n cap : Nat) (ls : List Ltr) (p : ByteArray) (w : World) (h : LS w A n cap ls) (hp : p.size ≤ maxLen) :
    Calls Try.prog 24 #[.slice A n cap, .string p] w fun e w' => e = .returned (.int .i64 (cntV ls p)) ∧ Below w.heap.size w w' := by
  have HL := Lib.hid h
  clear h
  cases hok : splitOk ls p with
  | false =>
    have H := Lib.hid (show cntV ls p = -1 from by simp [cntV, hok])
    have HO := Lib.hid hok
    clear hok
    go_enter Try.func24, Try.ntmps24
    go_wp2_with fail
    refine (spec_SplitBatch _ _ _ _ _ _ HL.out hp).mono ?_
    rintro e w1 ⟨v1, v2, rfl, ht, hb1⟩
    rw [HO.out]
    go_wp2_with fail
    go_ret
    exact ⟨ret_int H.out.symm, (by repeat (first | exact Below.refl _ _ | assumption | refine ext_alloc ?_ _ | refine Below.drew ?_ | refine below_drewN' ?_ _ | refine ext_set ?_ (by first | (simp; done) | (simp; omega) | omega) _ | refine ext_trans ?_ (by assumption)))⟩
  | true =>
    have H := Lib.hid (show cntV ls p = ((splitA ls p).length : Int) from by simp [cntV, splitA, hok])
    have HO := Lib.hid hok
    clear hok
    go_enter Try.func24, Try.ntmps24
    go_wp2_with fail
    refine (spec_SplitBatch _ _ _ _ _ _ HL.out hp).mono ?_
    rintro e w1 ⟨v1, v2, rfl, ht, hb1⟩
    rw [HO.out]
    obtain ⟨A1, c1, rfl, _⟩ := ht.1.read
    clear ht
    go_wp2_with fail
    go_ret
    exact ⟨ret_int H.out.symm, (by repeat (first | exact Below.refl _ _ | assumption | refine ext_alloc ?_ _ | refine Below.drew ?_ | refine below_drewN' ?_ _ | refine ext_set ?_ (by first | (simp; done) | (simp; omega) | omega) _ | refine ext_trans ?_ (by assumption)))⟩


/-- The digits of a number, in front of others. -/
def decF : Nat → Nat → List UInt8 → List UInt8
  | 0, _, acc => acc
  | f + 1, k, acc => if k = 0 then acc else decF f (k / 10) (dgB ((k : Int) % 10) :: acc)
/-- What markText answers. -/
def mkT (k : Nat) : ByteArray := if k = 0 then ⟨#[109, 48]⟩ else bs (109 :: decF k k [])
theorem decF_len : ∀ (f k : Nat) (acc : List UInt8), k ≤ f → (decF f k acc).length ≤ acc.length + k
  | 0, k, acc, h => by simp [decF]
  | f + 1, k, acc, h => by
    simp only [decF]; split
    · omega
    · have := decF_len f (k / 10) (dgB ((k : Int) % 10) :: acc) (by omega)
      simp only [List.length_cons] at this; omega
theorem mkT_size (k : Nat) (h : k ≤ 1000000000) : (mkT k).size ≤ maxLen := by
  unfold mkT maxLen; split
  · show 2 ≤ _; omega
  · rw [bs_size, List.length_cons]; have := decF_len k k [] (Nat.le_refl _); simp at this; omega

set_option maxHeartbeats 2000000 in
theorem markText_any (k : Nat) (w : World) (hk : k ≤ 1000000000) :
    Calls Try.prog 83 #[.int .i64 k] w fun e w' => e = .returned (.string (mkT k)) ∧ Below w.heap.size w w' := by
  by_cases h0 : k = 0
  · have H := Lib.hid (show mkT k = ⟨#[109, 48]⟩ from by simp [mkT, h0])
    have hle : (k : Int) ≤ 0 := by omega
    clear h0
    go_enter Try.func83, Try.ntmps83
    go_wp2_with fail
    go_ret
    exact ⟨ret_val (congrArg Value.string H.out.symm), (by repeat (first | exact Below.refl _ _ | assumption | refine ext_alloc ?_ _ | refine Below.drew ?_ | refine below_drewN' ?_ _ | refine ext_set ?_ (by first | (simp; done) | (simp; omega) | omega) _ | refine ext_trans ?_ (by assumption)))⟩
  · have H := Lib.hid (show mkT k = bs (109 :: decF k k []) from by simp [mkT, h0])
    have hle : 0 < (k : Int) := by omega
    clear h0
    go_enter Try.func83, Try.ntmps83
    go_wp2_with fail
    go_loopw [0, 3] (fun kv ov wr => ∃ (m f : Nat) (acc : List UInt8), kv = .int .i64 m ∧ ov = .string (bs acc) ∧ m ≤ f ∧ m + acc.length ≤ k ∧ decF f m acc = decF k k [] ∧ Below w.heap.size w wr) (fun kv _ _ => (intOf kv).toNat)
    case atStart => exact ⟨k, k, [], rfl, rfl, by omega, by simp, rfl, Below.refl _ _⟩
    case round =>
      obtain ⟨m, f, acc, rfl, rfl, hmf, hlen, hd, hbel⟩ := hrel
      have HD := Lib.hid hd
      have hsz : (bs acc).size ≤ 1000000000 := by rw [bs_size]; omega
      clear hd
      by_cases hm : 0 < m
      · obtain ⟨f', rfl⟩ : ∃ f', f = f' + 1 := ⟨f - 1, by omega⟩
        have hcv := one_byte ((m : Int) % 10) (by omega) (by omega)
        have hno : ¬ 9223372036854775807 < (bs [dgB ((m : Int) % 10)]).size + (bs acc).size := by have : (bs [dgB ((m : Int) % 10)]).size = 1 := rfl; omega
        have HD2 := Lib.hid (show decF f' (m / 10) (dgB ((m : Int) % 10) :: acc) = decF k k [] from by rw [← HD.out]; simp only [decF]; rw [if_neg (by omega)])
        go_wp2_with fail
        go_roundw
        case rel => exact ⟨m / 10, f', _, by simp, congrArg Value.string (by rw [bs_append]; rfl), by omega, by simp only [List.length_cons]; omega, HD2.out, (by repeat (first | exact Below.refl _ _ | assumption | refine ext_alloc ?_ _ | refine Below.drew ?_ | refine below_drewN' ?_ _ | refine ext_set ?_ (by first | (simp; done) | (simp; omega) | omega) _ | refine ext_trans ?_ (by assumption)))⟩
        case measure => simp [intOf]; omega
      · have HE := Lib.hid (show acc = decF k k [] from by
          rw [← HD.out]; cases f with
          | zero => rfl
          | succ f => simp only [decF]; rw [if_pos (by omega)])
        have hno : ¬ 9223372036854775807 < 1 + (bs acc).size := by omega
        go_wp2_with fail
        go_ret
        exact ⟨ret_val (congrArg Value.string (by rw [H.out, ← HE.out, show (⟨#[109]⟩ : ByteArray) = bs [109] from rfl, bs_append]; rfl)), (by repeat (first | exact Below.refl _ _ | assumption | refine ext_alloc ?_ _ | refine Below.drew ?_ | refine below_drewN' ?_ _ | refine ext_set ?_ (by first | (simp; done) | (simp; omega) | omega) _ | refine ext_trans ?_ (by assumption)))⟩

end Go.Proofs.Ytafngfmloiikoaa
