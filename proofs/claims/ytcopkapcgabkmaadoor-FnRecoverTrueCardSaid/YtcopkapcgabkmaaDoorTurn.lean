/-
  WALKS: TurnBars of the program and of the reference. By an AI agent.
-/
import Derived.Test.YtcopkapcgabkmaaDoorDigits
import Derived.Deep.OwnRows
import Derived.Laws.IdiomStrings
namespace Go.Proofs.YtcopkapcgabkmaaDoor
open Go.RowKit

/-- Bytes in reverse order. -/
def turnS (s : ByteArray) : ByteArray := ⟨s.data.toList.reverse.toArray⟩

theorem info_u8 : (Tryd.prog.info? 5).map (fun i => (i.zero, i.size, i.bytes)) = some (some (.int .u8 0), 1, 1) := by kernel_rfl
theorem make_bytes (n : Nat) (hn : n ≤ 281474976710656) (w : World) :
    (Instr.makeSlice 27 (.int .i64 (n : Int)) (.int .i64 (n : Int))).run Tryd.prog w = .ok (.slice (some ⟨w.heap.size, 0, none⟩) n n) (w.alloc (.cells (madeCells #[.int .u8 0] n) 5)) :=
  Go.run_make_row' 27 5 (.int .u8 0) 1 Tryd.underlying27 info_u8 rfl .i64 .i64 n (by omega) (by omega) w
theorem bytes_string (w : World) (a : Addr) (n cap : Nat) (l : List UInt8) (hn : l.length = n) (hc : ∀ j (hj : j < l.length), w.cell? (a.add j) = some (byteV l[j])) :
    (convert 27 9 (.slice (some a) n cap)).run Tryd.prog w = .ok (.string ⟨l.toArray⟩) w := by
  subst hn
  exact run_convert_bytes_back w 27 9 5 a cap l Tryd.underlying27 Tryd.underlying5 Tryd.underlying9 hc

theorem rev_get (s : ByteArray) (k : Nat) (hk : k < s.size) : s.data.toList.reverse[k]'(by simpa using hk) = s[s.size - 1 - k]'(by omega) := by
  rw [List.getElem_reverse]; simp; rfl

theorem turn_fill (s : ByteArray) (arr : Array Value) (k : Nat) (hk : k < s.size) (hsz : arr.size = s.size)
    (hf : ∀ j (_ : j < k) (hj : j < s.data.toList.reverse.length), arr[j]? = some (byteV s.data.toList.reverse[j])) :
    ∀ j (_ : j < k + 1) (hj : j < s.data.toList.reverse.length), (arr.setIfInBounds k (byteV (s[s.size - 1 - k]'(by omega))))[j]? = some (byteV s.data.toList.reverse[j]) := by
  intro j hj hl
  rw [Array.getElem?_setIfInBounds]
  by_cases e : k = j
  · subst e
    rw [if_pos rfl, if_pos (by omega), rev_get s k hk]
  · rw [if_neg e]
    exact hf j (by omega) hl
theorem turn_fill2 (s : ByteArray) (arr : Array Value) (k : Nat) (hk : k < s.size) (hsz : arr.size = s.size)
    (hf : ∀ j (_ : s.size - k ≤ j) (hj : j < s.data.toList.reverse.length), arr[j]? = some (byteV s.data.toList.reverse[j])) :
    ∀ j (_ : s.size - (k + 1) ≤ j) (hj : j < s.data.toList.reverse.length), (arr.setIfInBounds (s.size - 1 - k) (byteV s[k]))[j]? = some (byteV s.data.toList.reverse[j]) := by
  intro j hj hl
  rw [Array.getElem?_setIfInBounds]
  by_cases e : s.size - 1 - k = j
  · subst e
    rw [if_pos rfl, if_pos (by omega), rev_get s _ (by omega)]
    congr 3
    omega
  · rw [if_neg e]
    exact hf j (by omega) hl

set_option maxHeartbeats 400000 in
theorem spec_TurnBars (s : ByteArray) (w : World) (hs : s.size ≤ 1048576) :
    Calls Tryd.prog 42 #[.string s] w fun e w' => e = .returned (.string (turnS s)) ∧ Below w.heap.size w w' := by
  have hmk := make_bytes s.size (by omega)
  go_enter Tryd.func42, Tryd.ntmps42
  go_wp2
  go_loopw [4] (fun i wr => ∃ (k : Nat) (arr : Array Value), k ≤ s.size ∧ i = .int .i64 k ∧ Row wr w.heap.size 5 arr ∧ arr.size = s.size ∧ (∀ j (_ : j < k) (hs : j < s.data.toList.reverse.length), arr[j]? = some (byteV s.data.toList.reverse[j])) ∧ Below w.heap.size w wr) (fun i _ => s.size - (intOf i).toNat)
  case atStart => exact ⟨0, _, Nat.zero_le _, rfl, Row.made _ _ _, size_madeCells _ _, fun j hj => by omega, below_box _ _⟩
  case round =>
    obtain ⟨k, arr, hk, rfl, hrow, hsz, hfill, hbel⟩ := hrel
    by_cases hlt : k < s.size
    · obtain ⟨v, hcell⟩ : ∃ v, wr.cell? ⟨w.heap.size, k, none⟩ = some v := ⟨arr[k]'(by omega), by rw [hrow.cell]; simp [hsz, hlt]⟩
      have hfz := hrow.frozen k
      have HR := Lib.hid hrow
      have HS := Lib.hid hsz
      have HF := Lib.hid hfill
      clear hrow hsz hfill
      go_wp2
      go_roundw
      case rel => exact ⟨k + 1, _, by omega, by go_num, HR.out.put k _, by rw [Array.size_setIfInBounds]; exact HS.out, turn_fill s arr k hlt HS.out HF.out, hbel.setCell (Nat.le_refl _) _⟩
      case measure => simp [intOf]; omega
    · have hcv := bytes_string wr ⟨w.heap.size, 0, none⟩ s.size s.size s.data.toList.reverse (by simp) (fun j hj => by
        have hj' : j < s.size := by simpa using hj
        rw [show (Addr.add ⟨w.heap.size, 0, none⟩ j : Addr) = ⟨w.heap.size, j, none⟩ by unfold Addr.add; split <;> simp_all, hrow.cell, hfill j (by omega) hj])
      clear hrow hsz hfill
      go_wp2
      go_ret
      exact ⟨rfl, hbel⟩

set_option maxHeartbeats 400000 in
theorem impl_TurnBars (s : ByteArray) (w : World) (hs : s.size ≤ 1048576) :
    Calls Tryd.prog 29 #[.string s] w fun e w' => e = .returned (.string (turnS s)) ∧ Below w.heap.size w w' := by
  have hmk := make_bytes s.size (by omega)
  go_enter Tryd.func29, Tryd.ntmps29
  go_wp2
  go_loopw [4] (fun i wr => ∃ (k : Nat) (arr : Array Value), k ≤ s.size ∧ i = .int .i64 k ∧ Row wr w.heap.size 5 arr ∧ arr.size = s.size ∧ (∀ j (_ : s.size - k ≤ j) (hs : j < s.data.toList.reverse.length), arr[j]? = some (byteV s.data.toList.reverse[j])) ∧ Below w.heap.size w wr) (fun i _ => s.size - (intOf i).toNat)
  case atStart => exact ⟨0, _, Nat.zero_le _, rfl, Row.made _ _ _, size_madeCells _ _, fun j hj hl => by simp at hl; omega, below_box _ _⟩
  case round =>
    obtain ⟨k, arr, hk, rfl, hrow, hsz, hfill, hbel⟩ := hrel
    by_cases hlt : k < s.size
    · obtain ⟨v, hcell⟩ : ∃ v, wr.cell? ⟨w.heap.size, s.size - 1 - k, none⟩ = some v := ⟨arr[s.size - 1 - k]'(by omega), by rw [hrow.cell]; exact Array.getElem?_eq_getElem _⟩
      have hfz := hrow.frozen (s.size - 1 - k)
      have HR := Lib.hid hrow
      have HS := Lib.hid hsz
      have HF := Lib.hid hfill
      clear hrow hsz hfill
      go_wp2
      go_roundw
      case rel => exact ⟨k + 1, _, by omega, by go_num, HR.out.put _ _, by rw [Array.size_setIfInBounds]; exact HS.out, turn_fill2 s arr k hlt HS.out HF.out, hbel.setCell (Nat.le_refl _) _⟩
      case measure => simp [intOf]; omega
    · have hcv := bytes_string wr ⟨w.heap.size, 0, none⟩ s.size s.size s.data.toList.reverse (by simp) (fun j hj => by
        have hj' : j < s.size := by simpa using hj
        rw [show (Addr.add ⟨w.heap.size, 0, none⟩ j : Addr) = ⟨w.heap.size, j, none⟩ by unfold Addr.add; split <;> simp_all, hrow.cell, hfill j (by omega) hj])
      clear hrow hsz hfill
      go_wp2
      go_ret
      exact ⟨rfl, hbel⟩

end Go.Proofs.YtcopkapcgabkmaaDoor
