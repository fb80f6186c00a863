/-
  WALKS: soPut, a string with another byte in a place. By an AI agent.
-/
import Derived.Test.YtcopkapcgabkmaaDoorTurn
import Derived.Test.YtcopkapcgabkmaaDoorPad
import Derived.Lib.ConvBytes
namespace Go.Proofs.YtcopkapcgabkmaaDoor
open Go.RowKit

/-- A string with another byte in a place. -/
def putS (s : ByteArray) (k : Nat) (c : UInt8) : ByteArray := bs (s.data.toList.set k c)
theorem putS_size (s : ByteArray) (k : Nat) (c : UInt8) : (putS s k c).size = s.size := by simp [putS, bs_size]
theorem putS_list (s : ByteArray) (k : Nat) (c : UInt8) : (putS s k c).data.toList = s.data.toList.set k c := bs_list _

theorem conv_bytes (s : ByteArray) (w : World) : ∃ (x : World) (cap : Nat) (cs : Array Value), (convert 9 27 (.string s)).run Tryd.prog w = .ok (.slice (some ⟨w.heap.size, 0, none⟩) s.size cap) x ∧
    s.size ≤ cap ∧ x.heap[w.heap.size]? = some (.cells cs 5 (cs.size, cs.size + 1)) ∧ s.size ≤ cs.size ∧ (∀ j, j < s.size → cs[j]? = some (byteV (s.data.toList.getD j 0))) ∧ Below w.heap.size w x ∧ w.heap.size < x.heap.size := by
  refine ⟨Lib.bytesWorld w 5 s, _, Lib.bytesCells w 5 s, Lib.run_convert_string_bytes w 9 27 5 s Tryd.underlying9 Tryd.underlying27 Tryd.underlying5, grownCap_ge _ _ _ _, Lib.bytesWorld_at_new _ _ _, ?_, ?_, ?_, ?_⟩
  · simp [Lib.bytesCells]
  · intro j hj
    have h := Lib.bytesWorld_cell w 5 s j hj
    rw [cell_of_row _ _ _ _ _ _ (Lib.bytesWorld_at_new w 5 s)] at h
    exact h
  · refine ⟨?_, ?_, ?_, by rw [Lib.bytesWorld_size]; omega, fun k hk => Lib.bytesWorld_at_old _ _ _ _ hk⟩
    · simp [Lib.bytesWorld, World.freeze]; rfl
    · simp [Lib.bytesWorld, World.freeze]
    · simp [Lib.bytesWorld, World.freeze]; rfl
  · rw [Lib.bytesWorld_size]; omega

set_option maxHeartbeats 1000000 in
theorem soPut_any (s : ByteArray) (k : Nat) (c : UInt8) (w : World) (hk : k < s.size) :
    Calls Tryd.prog 26 #[.string s, .int .i64 k, .int .u8 (c.toNat : Int)] w fun e w' => e = .returned (.string (putS s k c)) ∧ Below w.heap.size w w' := by
  obtain ⟨x, cap, cs, hcv, hcap, hrow, hsz, hcs, hb, hz⟩ := conv_bytes s w
  have hc : x.cell? ⟨w.heap.size, k, none⟩ = some (byteV (s.data.toList.getD k 0)) := (cell_of_row _ _ _ _ _ _ hrow).trans (hcs k hk)
  have hf : x.frozen? ⟨w.heap.size, k, none⟩ = false := by
    simp [World.frozen?, hrow]; omega
  have hback : (convert 27 9 (.slice (some ⟨w.heap.size, 0, none⟩) s.size cap)).run Tryd.prog (x.setCell ⟨w.heap.size, k, none⟩ (.int .u8 (c.toNat : Int))) = .ok (.string (putS s k c)) (x.setCell ⟨w.heap.size, k, none⟩ (.int .u8 (c.toNat : Int))) := by
    refine bytes_string _ _ _ _ _ (by simp) (fun j hj => ?_)
    have hj' : j < s.size := by simpa using hj
    rw [show (Addr.add ⟨w.heap.size, 0, none⟩ j : Addr) = ⟨w.heap.size, j, none⟩ by unfold Addr.add; split <;> simp_all]
    have hrow2 : (x.setCell ⟨w.heap.size, k, none⟩ (.int .u8 (c.toNat : Int))).heap[w.heap.size]? = some (.cells (cs.setIfInBounds k (.int .u8 (c.toNat : Int))) 5 (cs.size, cs.size + 1)) := by
      simp [World.setCell, Array.getElem?_modify, hrow]
    rw [cell_of_row _ _ _ _ _ _ hrow2, Array.getElem?_setIfInBounds]
    by_cases e : k = j
    · subst e
      rw [if_pos rfl, if_pos (by omega)]
      simp [byteV]
    · rw [if_neg e, hcs j hj', List.getElem_set_ne e]
      congr 2
      rw [List.getD_eq_getElem?_getD, List.getElem?_eq_getElem (by simpa using hj')]
      rfl
  have hki : (k : Int) < (s.size : Int) := by omega
  clear hrow hcs hsz
  go_enter Tryd.func26, Tryd.ntmps26
  go_wp2_with fail
  go_ret
  exact ⟨rfl, hb.setCell (Nat.le_refl _) _⟩

theorem soPut_int (s : ByteArray) (i : Int) (c : UInt8) (w : World) (h0 : 0 ≤ i) (hi : i < s.size) :
    Calls Tryd.prog 26 #[.string s, .int .i64 i, .int .u8 (c.toNat : Int)] w fun e w' => e = .returned (.string (putS s i.toNat c)) ∧ Below w.heap.size w w' := by
  obtain ⟨k, rfl⟩ := Int.eq_ofNat_of_zero_le h0
  exact soPut_any s k c w (by omega)

theorem soPut_val (s : ByteArray) (i n : Int) (c : UInt8) (w : World) (h0 : 0 ≤ i) (hi : i < s.size) (hn : (c.toNat : Int) = n) :
    Calls Tryd.prog 26 #[.string s, .int .i64 i, .int .u8 n] w fun e w' => e = .returned (.string (putS s i.toNat c)) ∧ Below w.heap.size w w' := by
  subst hn
  exact soPut_int s i c w h0 hi

theorem soPut_nv (s : ByteArray) (k : Nat) (n : Int) (c : UInt8) (w : World) (hk : k < s.size) (hn : (c.toNat : Int) = n) :
    Calls Tryd.prog 26 #[.string s, .int .i64 k, .int .u8 n] w fun e w' => e = .returned (.string (putS s k c)) ∧ Below w.heap.size w w' := by
  subst hn
  exact soPut_any s k c w hk

end Go.Proofs.YtcopkapcgabkmaaDoor
