/-
  PLAIN FACTS on a pass: neighbours, their digits and places. No program in sight. By an AI agent.
-/
import Derived.Test.YtafngfmloiikoaaStab2
namespace Go.Proofs.Ytafngfmloiikoaa

theorem passL_near {ls : List Ltr} {d i : Nat} {x y : Ltr} (hx : (passL ls d)[i]? = some x) (hy : (passL ls d)[i + 1]? = some y) : dig x.2 d ≤ dig y.2 d := by
  have h := two_sub _ _ _ _ hx hy
  have := List.Pairwise.sublist h (passL_digs ls d)
  simp at this
  exact this
theorem passL_place {ls : List Ltr} {d : Nat} (hb : batchB ls = true) (hd : d < 7) {i : Nat} {x y : Ltr} (hx : (passL ls d)[i]? = some x) (hy : (passL ls d)[i + 1]? = some y) (he : dig x.2 d = dig y.2 d) : findL ls x.1 < findL ls y.1 := by
  have h := two_sub _ _ _ _ hx hy
  have hm : x ∈ ls := (passL_perm ls d (batch_digs hb d hd)).mem_iff.1 (List.mem_of_getElem? hx)
  obtain ⟨k, hk, hdk⟩ := batch_digs hb d hd x hm
  have h2 : (binL [x, y] d k).Sublist (binL (passL ls d) d k) := h.filter _
  rw [passL_binL ls d k hk] at h2
  have e : binL [x, y] d k = [x, y] := by simp [binL, ← he, hdk]
  rw [e] at h2
  exact place_lt hb (h2.trans List.filter_sublist)
theorem passR_nat {ls : List Ltr} {d : Nat} (hb : batchB ls = true) (hd : d < 7) : passR ls (d : Int) = passL ls d := by
  have : binOk ls (d : Int) = true := by simp [binOk, hb]; omega
  simp [passR, this]
theorem passR_twice {ls : List Ltr} {d : Nat} (hb : batchB ls = true) (hd : d < 7) : passR (passL ls d) (d : Int) = passL ls d := by
  rw [passR_nat (passL_batch hb d hd) hd, passL_twice]
theorem dig_lt {ls : List Ltr} (hb : batchB ls = true) {l : Ltr} (hl : l ∈ ls) (d : Nat) (hd : d < 7) : d < l.2.size := by rw [batch_sz hb l hl]; exact hd

end Go.Proofs.Ytafngfmloiikoaa
