/-
  WALKS: numbers with leading zeros; decimal numbers of one digit. By an AI agent.
-/
import Derived.Test.YtcopkapcgabkmaaDoorTurn
import Derived.LoopN
namespace Go.Proofs.YtcopkapcgabkmaaDoor
open Go.RowKit

/-- The byte of a digit. -/
def dgB (d : Int) : UInt8 := UInt8.ofNat (48 + d).toNat
theorem dgB_val (d : Int) (h0 : 0 ≤ d) (h9 : d ≤ 9) : ((dgB d).toNat : Int) = 48 + d := by
  unfold dgB
  rw [UInt8.toNat_ofNat']
  omega
theorem byteV_dgB (d : Int) (h0 : 0 ≤ d) (h9 : d ≤ 9) : byteV (dgB d) = .int .u8 (48 + d) := by
  unfold byteV; rw [dgB_val d h0 h9]

/-- A string of bytes. -/
def bs (l : List UInt8) : ByteArray := ⟨l.toArray⟩
theorem bs_list (l : List UInt8) : (bs l).data.toList = l := by simp [bs]
theorem bs_size (l : List UInt8) : (bs l).size = l.length := by simp [bs, ByteArray.size]
theorem bs_append (l m : List UInt8) : bs l ++ bs m = bs (l ++ m) := by
  apply ByteArray.ext; simp [bs]
theorem bs_append_nil (l : List UInt8) : bs l ++ (⟨#[]⟩ : ByteArray) = bs l := by
  have h := bs_append l []
  simpa [bs] using h
theorem bs_of (s : ByteArray) : bs s.data.toList = s := by simp [bs]

/-- The last digits of a number. -/
def padL : Nat → Int → List UInt8
  | 0, _ => []
  | k + 1, n => padL k (n / 10) ++ [dgB (n % 10)]
def divN : Nat → Int → Int
  | 0, n => n
  | k + 1, n => divN k n / 10
theorem divN_succ (k : Nat) : ∀ n : Int, divN (k + 1) n = divN k (n / 10) := by
  induction k with
  | zero => intro n; rfl
  | succ k ih => intro n; rw [divN, ih, divN]
theorem divN_nonneg (k : Nat) : ∀ n : Int, 0 ≤ n → 0 ≤ divN k n ∧ divN k n ≤ n := by
  induction k with
  | zero => intro n h; simp [divN]; omega
  | succ k ih => intro n h; have := ih n h; rw [divN]; omega
theorem padL_cons (k : Nat) : ∀ n : Int, padL (k + 1) n = dgB (divN k n % 10) :: padL k n := by
  induction k with
  | zero => intro n; simp [padL, divN]
  | succ k ih => intro n; rw [padL, ih, padL, divN_succ]; simp
theorem padL_length (k : Nat) : ∀ n : Int, (padL k n).length = k := by
  induction k with
  | zero => intro n; rfl
  | succ k ih => intro n; simp [padL, ih]
theorem digB_dgB (d : Int) (h0 : 0 ≤ d) (h9 : d ≤ 9) : digB (dgB d) = true := by
  have := dgB_val d h0 h9
  simp [digB]; omega
theorem padL_digits (k : Nat) : ∀ n : Int, allDig (padL k n) = true := by
  induction k with
  | zero => intro n; rfl
  | succ k ih => intro n; rw [padL, allDig_snoc, ih, digB_dgB _ (by omega) (by omega)]; rfl

/-- One byte as a string. -/
theorem one_byte (n : Int) (h0 : 0 ≤ n) (h9 : n ≤ 9) (w : World) : (convert 27 9 (.slice (some ⟨w.heap.size, 0, none⟩) 1 1)).run Tryd.prog (w.alloc (.cells #[.int .u8 (48 + n)] 5)) = .ok (.string (bs [dgB n])) (w.alloc (.cells #[.int .u8 (48 + n)] 5)) := by
  refine bytes_string _ _ 1 1 [dgB n] rfl (fun j hj => ?_)
  have hr := Row.made w 5 #[.int .u8 (48 + n)]
  have hj3 : j < 1 := hj
  rw [show (Addr.add ⟨w.heap.size, 0, none⟩ j : Addr) = ⟨w.heap.size, j, none⟩ by unfold Addr.add; split <;> simp_all, hr.cell]
  match j, hj3 with
  | 0, _ => exact congrArg some (byteV_dgB _ (by omega) (by omega)).symm

set_option maxHeartbeats 400000 in
theorem l9Dec_one (n : Int) (w : World) (h0 : 0 ≤ n) (h9 : n ≤ 9) :
    Calls Tryd.prog 39 #[.int .i64 n] w fun e w' => e = .returned (.string (bs [dgB n])) ∧ Below w.heap.size w w' := by
  have hcv := one_byte n h0 h9
  go_enter Tryd.func39, Tryd.ntmps39
  go_wp2_with fail
  refine wp_loop_rounds 1 ?_
  rw [rounds_succ]
  go_wp2_with fail
  go_ret
  exact ⟨ret_val (congrArg Value.string (by simp [bs_append_nil])), below_box _ _⟩

set_option maxHeartbeats 400000 in
theorem spec_l1Show (n : Int) (size : Nat) (w : World) (h0 : 0 ≤ n) (h9 : n ≤ 1000000000) (hs : size ≤ 20) :
    Calls Tryd.prog 57 #[.int .i64 n, .int .i64 size] w fun e w' => e = .returned (.string (bs (padL size n))) ∧ Below w.heap.size w w' := by
  go_enter Tryd.func57, Tryd.ntmps57
  go_wp2
  go_loopw [0, 5, 6] (fun m o i wr => ∃ k : Nat, k ≤ size ∧ i = .int .i64 k ∧ m = .int .i64 (divN k n) ∧ o = .string (bs (padL k n)) ∧ Below w.heap.size w wr) (fun _ _ i _ => size - (intOf i).toNat)
  case atStart => exact ⟨0, Nat.zero_le _, rfl, rfl, rfl, Below.refl _ _⟩
  case round =>
    obtain ⟨k, hk, rfl, rfl, rfl, hbel⟩ := hrel
    have hd := divN_nonneg k n h0
    by_cases hlt : k < size
    · have HP := Lib.hid (padL_cons k n)
      have hl : (bs (padL k n)).size ≤ 20 := by rw [bs_size, padL_length]; omega
      have hno : ¬ 9223372036854775807 < (bs [dgB (divN k n % 10)]).size + (bs (padL k n)).size := by
        have : (bs [dgB (divN k n % 10)]).size = 1 := bs_size _
        omega
      go_wp2_with (go_at_call 39; refine (l9Dec_one _ _ (by omega) (by omega)).mono ?_; rintro e w' ⟨rfl, hb1⟩)
      go_roundw
      case rel => exact ⟨k + 1, by omega, by go_num, rfl, congrArg Value.string (by rw [bs_append, HP.out]; rfl), (by repeat (first | exact Below.refl _ _ | assumption | refine ext_alloc ?_ _ | refine Below.drew ?_ | refine below_drewN' ?_ _ | refine ext_set ?_ (by first | (simp; done) | (simp; omega) | omega) _ | refine ext_trans ?_ (by assumption)))⟩
      case measure => simp [intOf]; omega
    · obtain rfl : k = size := by omega
      go_wp2
      go_ret
      exact ⟨rfl, hbel⟩

end Go.Proofs.YtcopkapcgabkmaaDoor
