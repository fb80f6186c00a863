/-
  PLAIN FACTS on a sorted batch: neighbours and their places. No program in sight. By an AI agent.
-/
import Derived.Test.YtafngfmloiikoaaStab2
namespace Go.Proofs.Ytafngfmloiikoaa

theorem stabL_near {ls : List Ltr} {i : Nat} {x y : Ltr} (hx : (stabL ls)[i]? = some x) (hy : (stabL ls)[i + 1]? = some y) : ltB y.2 x.2 = false := by
  have hs := (stabL_Stb ls).sorted
  have h := two_sub _ _ _ _ hx hy
  have := List.Pairwise.sublist h hs
  simp at this
  exact this
theorem stabL_place {ls : List Ltr} (hb : batchB ls = true) {i : Nat} {x y : Ltr} (hx : (stabL ls)[i]? = some x) (hy : (stabL ls)[i + 1]? = some y) (he : y.2 = x.2) : findL ls x.1 < findL ls y.1 := by
  have h := two_sub _ _ _ _ hx hy
  have h2 : (ofC x.2 [x, y]).Sublist (ofC x.2 (stabL ls)) := h.filter _
  rw [(stabL_Stb ls).same x.2] at h2
  have e : ofC x.2 [x, y] = [x, y] := by simp [ofC, he]
  rw [e] at h2
  exact place_lt hb (h2.trans (ofC_sub _ _))
theorem stabL_sortedB {ls : List Ltr} (hb : batchB ls = true) : sortedB (stabL ls) = true := by
  simp only [sortedB, stabL_batch hb, Bool.true_and, srt_iff]; exact (stabL_Stb ls).sorted
theorem stabL_twice (ls : List Ltr) : stabL (stabL ls) = stabL ls := ((Stb.refl (stabL_Stb ls).sorted).eq).symm
theorem sortR_stab {ls : List Ltr} (hb : batchB ls = true) : sortR (stabL ls) = stabL ls := by
  rw [sortR_true (stabL_batch hb), stabL_twice]
theorem stabL_length (ls : List Ltr) : (stabL ls).length = ls.length := (stabL_perm ls).length_eq

end Go.Proofs.Ytafngfmloiikoaa
