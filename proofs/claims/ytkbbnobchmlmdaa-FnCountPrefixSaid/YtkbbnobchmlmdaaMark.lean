/-
  WALKS: CountPrefix; the exact laws' marks: markText, markLetterS, heldLetterS. By an AI agent.
-/
import Derived.Test.YtkbbnobchmlmdaaOwn
import Derived.Test.YtkbbnobchmlmdaaByte
namespace Go.Proofs.Ytkbbnobchmlmdaa
open Go.RowKit

/-- What CountPrefix answers. -/
def cntV (ls : List Ltr) (p : ByteArray) : Int := if splitOk ls p = true then ((withP ls p).length : Int) else -1

set_option maxHeartbeats 1000000 in
theorem impl_CountPrefix (A : Option Addr) (n cap : Nat) (ls : List Ltr) (p : ByteArray) (w : World) (h : LS w A n cap ls) (hp : p.size ≤ maxLen) :
    Calls Try.prog 10 #[.slice A n cap, .string p] w fun e w' => e = .returned (.int .i64 (cntV ls p)) ∧ Below w.heap.size w w' := by
  have HL := Lib.hid h
  clear h
  cases hok : splitOk ls p with
  | false =>
    have H := Lib.hid (show cntV ls p = -1 from by simp [cntV, hok])
    have HO := Lib.hid hok
    clear hok
    go_enter Try.func10, Try.ntmps10
    go_wp2_with fail
    refine (impl_SplitBatch _ _ _ _ _ _ HL.out hp).mono ?_
    rintro e w1 ⟨v1, v2, rfl, ht, hb1⟩
    rw [HO.out]
    go_wp2_with fail
    go_ret
    exact ⟨ret_int H.out.symm, (by repeat (first | exact Below.refl _ _ | assumption | refine ext_alloc ?_ _ | refine Below.drew ?_ | refine below_drewN' ?_ _ | refine ext_set ?_ (by first | (simp; done) | (simp; omega) | omega) _ | refine ext_trans ?_ (by assumption)))⟩
  | true =>
    have H := Lib.hid (show cntV ls p = ((splitA ls p).length : Int) from by simp [cntV, splitA, hok])
    have HO := Lib.hid hok
    clear hok
    go_enter Try.func10, Try.ntmps10
    go_wp2_with fail
    refine (impl_SplitBatch _ _ _ _ _ _ HL.out hp).mono ?_
    rintro e w1 ⟨v1, v2, rfl, ht, hb1⟩
    rw [HO.out]
    obtain ⟨A1, c1, rfl, _⟩ := ht.1.read
    clear ht
    go_wp2_with fail
    go_ret
    exact ⟨ret_int H.out.symm, (by repeat (first | exact Below.refl _ _ | assumption | refine ext_alloc ?_ _ | refine Below.drew ?_ | refine below_drewN' ?_ _ | refine ext_set ?_ (by first | (simp; done) | (simp; omega) | omega) _ | refine ext_trans ?_ (by assumption)))⟩

set_option maxHeartbeats 1000000 in
theorem spec_CountPrefix (A : Option Addr) (n cap : Nat) (ls : List Ltr) (p : ByteArray) (w : World) (h : LS w A n cap ls) (hp : p.size ≤ maxLen) :
    Calls Try.prog 11 #[.slice A n cap, .string p] w fun e w' => e = .returned (.int .i64 (cntV ls p)) ∧ Below w.heap.size w w' := by
  have HL := Lib.hid h
  clear h
  cases hok : splitOk ls p with
  | false =>
    have H := Lib.hid (show cntV ls p = -1 from by simp [cntV, hok])
    have HO := Lib.hid hok
    clear hok
    go_enter Try.func11, Try.ntmps11
    go_wp2_with fail
    refine (spec_SplitBatch _ _ _ _ _ _ HL.out hp).mono ?_
    rintro e w1 ⟨v1, v2, rfl, ht, hb1⟩
    rw [HO.out]
    go_wp2_with fail
    go_ret
    exact ⟨ret_int H.out.symm, (by repeat (first | exact Below.refl _ _ | assumption | refine ext_alloc ?_ _ | refine Below.drew ?_ | refine below_drewN' ?_ _ | refine ext_set ?_ (by first | (simp; done) | (simp; omega) | omega) _ | refine ext_trans ?_ (by assumption)))⟩
  | true =>
    have H := Lib.hid (show cntV ls p = ((splitA ls p).length : Int) from by simp [cntV, splitA, hok])
    have HO := Lib.hid hok
    clear hok
    go_enter Try.func11, Try.ntmps11
    go_wp2_with fail
    refine (spec_SplitBatch _ _ _ _ _ _ HL.out hp).mono ?_
    rintro e w1 ⟨v1, v2, rfl, ht, hb1⟩
    rw [HO.out]
    obtain ⟨A1, c1, rfl, _⟩ := ht.1.read
    clear ht
    go_wp2_with fail
    go_ret
    exact ⟨ret_int H.out.symm, (by repeat (first | exact Below.refl _ _ | assumption | refine ext_alloc ?_ _ | refine Below.drew ?_ | refine below_drewN' ?_ _ | refine ext_set ?_ (by first | (simp; done) | (simp; omega) | omega) _ | refine ext_trans ?_ (by assumption)))⟩


/-- The digits of a number, in front of others. -/
def decF : Nat → Nat → List UInt8 → List UInt8
  | 0, _, acc => acc
  | f + 1, k, acc => if k = 0 then acc else decF f (k / 10) (dgB ((k : Int) % 10) :: acc)
/-- What markText answers. -/
def mkT (k : Nat) : ByteArray := if k = 0 then ⟨#[109, 48]⟩ else bs (109 :: decF k k [])
theorem decF_len : ∀ (f k : Nat) (acc : List UInt8), k ≤ f → (decF f k acc).length ≤ acc.length + k
  | 0, k, acc, h => by simp [decF]
  | f + 1, k, acc, h => by
    simp only [decF]; split
    · omega
    · have := decF_len f (k / 10) (dgB ((k : Int) % 10) :: acc) (by omega)
      simp only [List.length_cons] at this; omega
theorem mkT_size (k : Nat) (h : k ≤ 1000000000) : (mkT k).size ≤ maxLen := by
  unfold mkT maxLen; split
  · show 2 ≤ _; omega
  · rw [bs_size, List.length_cons]; have := decF_len k k [] (Nat.le_refl _); simp at this; omega

end Go.Proofs.Ytkbbnobchmlmdaa
