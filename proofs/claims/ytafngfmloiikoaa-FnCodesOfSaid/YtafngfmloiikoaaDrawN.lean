/-
  WALKS: the Draw functions of one batch, of two, and of bins. By an AI agent.
-/
import Derived.Test.YtafngfmloiikoaaDrawM
import Derived.Test.YtafngfmloiikoaaSort7
namespace Go.Proofs.Ytafngfmloiikoaa
open Go.RowKit

/-- What a Draw function of a batch answers. -/
def DrawnOne (w : World) (e : Ending) (w' : World) : Prop :=
  ∃ v ls, e = .returned v ∧ Own w' w.heap.size v ls ∧ ls.length ≤ 61 ∧ Below w.heap.size w w'

set_option maxHeartbeats 1000000 in
theorem DrawSortBatch_any (a : Option Addr) (len cap : Nat) (w : World) (h : BytesIn w a len cap) :
    Calls Try.prog 50 #[.slice a len cap] w (DrawnOne w) := by
  have HC := Lib.hid h
  clear h
  go_enter Try.func50, Try.ntmps50
  go_wp2_with fail; refine (l9Open_any _ _ _ _ HC.out).mono ?_; rintro e w1 ⟨r, rfl, hr, hle, hb⟩; have HS := Lib.hid (Src.mk1 hr hle hb); clear hr hb
  go_wp2_with fail
  refine (l2Open_any r _ _ HS.out.1 (by omega)).mono ?_
  rintro e w2 ⟨v, ls, rfl, ho, hl, hr, hg⟩
  have hs1 := HS.out.2.2.size
  have HO := Lib.hid (ho.mono hs1)
  replace HS := Lib.hid (HS.out.got hr hg)
  clear ho hr hg
  go_wp2_with fail
  go_ret
  exact ⟨_, ls, rfl, HO.out, hl, HS.out.2.2⟩

set_option maxHeartbeats 1000000 in
theorem DrawCodesOf_any (a : Option Addr) (len cap : Nat) (w : World) (h : BytesIn w a len cap) :
    Calls Try.prog 56 #[.slice a len cap] w (DrawnOne w) := by
  have HC := Lib.hid h
  clear h
  go_enter Try.func56, Try.ntmps56
  go_wp2_with fail; refine (l9Open_any _ _ _ _ HC.out).mono ?_; rintro e w1 ⟨r, rfl, hr, hle, hb⟩; have HS := Lib.hid (Src.mk1 hr hle hb); clear hr hb
  go_wp2_with fail
  refine (l2Open_any r _ _ HS.out.1 (by omega)).mono ?_
  rintro e w2 ⟨v, ls, rfl, ho, hl, hr, hg⟩
  have hs1 := HS.out.2.2.size
  have HO := Lib.hid (ho.mono hs1)
  replace HS := Lib.hid (HS.out.got hr hg)
  clear ho hr hg
  go_wp2_with fail
  go_ret
  exact ⟨_, ls, rfl, HO.out, hl, HS.out.2.2⟩

end Go.Proofs.Ytafngfmloiikoaa
