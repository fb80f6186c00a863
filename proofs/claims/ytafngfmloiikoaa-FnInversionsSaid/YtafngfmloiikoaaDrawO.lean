/-
  WALKS: the Draw functions of batches that may be sorted. By an AI agent.
-/
import Derived.Test.YtafngfmloiikoaaDrawN
namespace Go.Proofs.Ytafngfmloiikoaa
open Go.RowKit

set_option maxHeartbeats 1000000 in
theorem DrawSortedBatch_any (a : Option Addr) (len cap : Nat) (w : World) (h : BytesIn w a len cap) :
    Calls Try.prog 71 #[.slice a len cap] w (DrawnOne w) := by
  have HC := Lib.hid h
  clear h
  go_enter Try.func71, Try.ntmps71
  go_wp2_with fail; refine (l9Open_any _ _ _ _ HC.out).mono ?_; rintro e w1 ⟨r, rfl, hr, hle, hb⟩; have HS := Lib.hid (Src.mk1 hr hle hb); clear hr hb
  go_wp2_with fail
  refine (l2Open_any r _ _ HS.out.1 (by omega)).mono ?_
  rintro e w2 ⟨v, ls, rfl, ho, hl, hr, hg⟩
  have hr1 := HS.out.1.lt
  have hs1 := HS.out.2.2.size
  obtain ⟨A, c, rfl, hls⟩ := ho.read
  have HNC := Lib.hid ho.nilcap
  have HLS := Lib.hid hls
  have HO := Lib.hid ho
  replace HS := Lib.hid (HS.out.got hr hg)
  have hw2r := HS.out.1.lt
  clear ho hr hg hls
  go_wp2_with fail
  refine (spec_SortBatch _ _ _ _ _ HLS.out HNC.out).mono ?_
  rintro e w3 ⟨v3, rfl, ho3, hb3⟩
  have hs2 := HS.out.2.2.size
  have HO3 := Lib.hid ho3
  replace HO := Lib.hid (HO.out.ext hb3)
  replace HS := Lib.hid (HS.out.ext hb3)
  have hsr := sortR_len ls
  clear ho3 hb3 HLS
  cases hbb : batchB ls with
  | false =>
    clear hbb
    go_wp2_with fail
    go_ret
    exact ⟨_, ls, rfl, HO.out.mono hs1, hl, HS.out.2.2⟩
  | true =>
    clear hbb
    go_wp2_with fail
    refine (pick_lit r _ _ _ HS.out.1 (by omega) (by omega)).mono ?_
    rintro e w4 ⟨_, rfl, ⟨m, rfl, hm⟩, hr, hg⟩
    replace HO := Lib.hid (HO.out.got hg hr1)
    replace HO3 := Lib.hid (HO3.out.got hg hw2r)
    replace HS := Lib.hid (HS.out.got hr hg)
    clear hr hg
    by_cases h0 : m = 0
    · subst h0
      go_wp2_with fail
      go_ret
      exact ⟨_, ls, rfl, HO.out.mono hs1, hl, HS.out.2.2⟩
    · have hmd : ((m : Int) == 0) = false := by simp; omega
      go_wp2_with fail
      go_ret
      exact ⟨_, sortR ls, rfl, HO3.out.mono hs2, by omega, HS.out.2.2⟩

set_option maxHeartbeats 1000000 in
theorem DrawInversions_any (a : Option Addr) (len cap : Nat) (w : World) (h : BytesIn w a len cap) :
    Calls Try.prog 28 #[.slice a len cap] w (DrawnOne w) := by
  have HC := Lib.hid h
  clear h
  go_enter Try.func28, Try.ntmps28
  go_wp2_with fail
  refine (DrawSortedBatch_any _ _ _ _ HC.out).mono ?_
  rintro e w2 ⟨v, ls, rfl, ho, hl, hb⟩
  have HO := Lib.hid ho
  clear ho
  go_wp2_with fail
  go_ret
  exact ⟨_, ls, rfl, HO.out, hl, hb⟩

end Go.Proofs.Ytafngfmloiikoaa
