/-
  BYTES as strings, where the reference's numbers are not at hand. By an AI agent.
-/
import Derived.Test.YtafngfmloiikoaaDigits
import Derived.Laws.IdiomStrings
namespace Go.Proofs.Ytafngfmloiikoaa
open Go.RowKit

/-- The byte of a digit. -/
def dgB (d : Int) : UInt8 := UInt8.ofNat (48 + d).toNat
theorem dgB_val (d : Int) (h0 : 0 ≤ d) (h9 : d ≤ 9) : ((dgB d).toNat : Int) = 48 + d := by
  unfold dgB
  rw [UInt8.toNat_ofNat']
  omega
theorem byteV_dgB (d : Int) (h0 : 0 ≤ d) (h9 : d ≤ 9) : byteV (dgB d) = .int .u8 (48 + d) := by
  unfold byteV; rw [dgB_val d h0 h9]

/-- A string of bytes. -/
def bs (l : List UInt8) : ByteArray := ⟨l.toArray⟩
theorem bs_list (l : List UInt8) : (bs l).data.toList = l := by simp [bs]
theorem bs_size (l : List UInt8) : (bs l).size = l.length := by simp [bs, ByteArray.size]
theorem bs_append (l m : List UInt8) : bs l ++ bs m = bs (l ++ m) := by
  apply ByteArray.ext; simp [bs]
theorem bs_append_nil (l : List UInt8) : bs l ++ (⟨#[]⟩ : ByteArray) = bs l := by
  have h := bs_append l []
  simpa [bs] using h
theorem bs_of (s : ByteArray) : bs s.data.toList = s := by simp [bs]

theorem digB_dgB (d : Int) (h0 : 0 ≤ d) (h9 : d ≤ 9) : digB (dgB d) = true := by
  have := dgB_val d h0 h9
  simp [digB]; omega

theorem bytes_string (w : World) (a : Addr) (n cap : Nat) (l : List UInt8) (hn : l.length = n) (hc : ∀ j (hj : j < l.length), w.cell? (a.add j) = some (byteV l[j])) :
    (convert 22 9 (.slice (some a) n cap)).run Try.prog w = .ok (.string ⟨l.toArray⟩) w := by
  subst hn
  exact run_convert_bytes_back w 22 9 5 a cap l Try.underlying22 Try.underlying5 Try.underlying9 hc

/-- One byte as a string. -/
theorem one_byte (n : Int) (h0 : 0 ≤ n) (h9 : n ≤ 9) (w : World) : (convert 22 9 (.slice (some ⟨w.heap.size, 0, none⟩) 1 1)).run Try.prog (w.alloc (.cells #[.int .u8 (48 + n)] 5)) = .ok (.string (bs [dgB n])) (w.alloc (.cells #[.int .u8 (48 + n)] 5)) := by
  refine bytes_string _ _ 1 1 [dgB n] rfl (fun j hj => ?_)
  have hr := Row.made w 5 #[.int .u8 (48 + n)]
  have hj3 : j < 1 := hj
  rw [show (Addr.add ⟨w.heap.size, 0, none⟩ j : Addr) = ⟨w.heap.size, j, none⟩ by unfold Addr.add; split <;> simp_all, hr.cell]
  match j, hj3 with
  | 0, _ => exact congrArg some (byteV_dgB _ (by omega) (by omega)).symm

end Go.Proofs.Ytafngfmloiikoaa
