/-
  WALKS: numbers with leading zeros; decimal numbers of one digit. By an AI agent.
-/
import Derived.Test.YtafngfmloiikoaaTurn
import Derived.LoopN
namespace Go.Proofs.Ytafngfmloiikoaa
open Go.RowKit



/-- The last digits of a number. -/
def padL : Nat → Int → List UInt8
  | 0, _ => []
  | k + 1, n => padL k (n / 10) ++ [dgB (n % 10)]
def divN : Nat → Int → Int
  | 0, n => n
  | k + 1, n => divN k n / 10
theorem divN_succ (k : Nat) : ∀ n : Int, divN (k + 1) n = divN k (n / 10) := by
  induction k with
  | zero => intro n; rfl
  | succ k ih => intro n; rw [divN, ih, divN]
theorem divN_nonneg (k : Nat) : ∀ n : Int, 0 ≤ n → 0 ≤ divN k n ∧ divN k n ≤ n := by
  induction k with
  | zero => intro n h; simp [divN]; omega
  | succ k ih => intro n h; have := ih n h; rw [divN]; omega
theorem padL_cons (k : Nat) : ∀ n : Int, padL (k + 1) n = dgB (divN k n % 10) :: padL k n := by
  induction k with
  | zero => intro n; simp [padL, divN]
  | succ k ih => intro n; rw [padL, ih, padL, divN_succ]; simp
theorem padL_length (k : Nat) : ∀ n : Int, (padL k n).length = k := by
  induction k with
  | zero => intro n; rfl
  | succ k ih => intro n; simp [padL, ih]
theorem padL_digits (k : Nat) : ∀ n : Int, allDig (padL k n) = true := by
  induction k with
  | zero => intro n; rfl
  | succ k ih => intro n; rw [padL, allDig_snoc, ih, digB_dgB _ (by omega) (by omega)]; rfl


set_option maxHeartbeats 400000 in
theorem l9Dec_one (n : Int) (w : World) (h0 : 0 ≤ n) (h9 : n ≤ 9) :
    Calls Try.prog 100 #[.int .i64 n] w fun e w' => e = .returned (.string (bs [dgB n])) ∧ Below w.heap.size w w' := by
  have hcv := one_byte n h0 h9
  go_enter Try.func100, Try.ntmps100
  go_wp2_with fail
  refine wp_loop_rounds 1 ?_
  rw [rounds_succ]
  go_wp2_with fail
  go_ret
  exact ⟨ret_val (congrArg Value.string (by simp [bs_append_nil])), below_box _ _⟩

set_option maxHeartbeats 400000 in
theorem spec_l1Show (n : Int) (size : Nat) (w : World) (h0 : 0 ≤ n) (h9 : n ≤ 1000000000) (hs : size ≤ 20) :
    Calls Try.prog 96 #[.int .i64 n, .int .i64 size] w fun e w' => e = .returned (.string (bs (padL size n))) ∧ Below w.heap.size w w' := by
  go_enter Try.func96, Try.ntmps96
  go_wp2
  go_loopw [0, 5, 6] (fun m o i wr => ∃ k : Nat, k ≤ size ∧ i = .int .i64 k ∧ m = .int .i64 (divN k n) ∧ o = .string (bs (padL k n)) ∧ Below w.heap.size w wr) (fun _ _ i _ => size - (intOf i).toNat)
  case atStart => exact ⟨0, Nat.zero_le _, rfl, rfl, rfl, Below.refl _ _⟩
  case round =>
    obtain ⟨k, hk, rfl, rfl, rfl, hbel⟩ := hrel
    have hd := divN_nonneg k n h0
    by_cases hlt : k < size
    · have HP := Lib.hid (padL_cons k n)
      have hl : (bs (padL k n)).size ≤ 20 := by rw [bs_size, padL_length]; omega
      have hno : ¬ 9223372036854775807 < (bs [dgB (divN k n % 10)]).size + (bs (padL k n)).size := by
        have : (bs [dgB (divN k n % 10)]).size = 1 := bs_size _
        omega
      go_wp2_with (go_at_call 100; refine (l9Dec_one _ _ (by omega) (by omega)).mono ?_; rintro e w' ⟨rfl, hb1⟩)
      go_roundw
      case rel => exact ⟨k + 1, by omega, by go_num, rfl, congrArg Value.string (by rw [bs_append, HP.out]; rfl), (by repeat (first | exact Below.refl _ _ | assumption | refine ext_alloc ?_ _ | refine Below.drew ?_ | refine below_drewN' ?_ _ | refine ext_set ?_ (by first | (simp; done) | (simp; omega) | omega) _ | refine ext_trans ?_ (by assumption)))⟩
      case measure => simp [intOf]; omega
    · obtain rfl : k = size := by omega
      go_wp2
      go_ret
      exact ⟨rfl, hbel⟩

end Go.Proofs.Ytafngfmloiikoaa
