/-
  WALKS: the Draw functions of batches with a further argument; soBatch, soPlace. By an AI agent.
-/
import Derived.Test.YtafngfmloiikoaaDrawL
import Derived.Test.YtafngfmloiikoaaOwnI
import Derived.Deep.RegionLaw
import Derived.Deep.DrawnRows
namespace Go.Proofs.Ytafngfmloiikoaa
open Go.RowKit

attribute [local go_sem ↓] Go.wp_at_zero Go.wp_at_succ

/-- What a Draw function of a batch and a further argument answers. -/
def DrawnL (R : Value → Prop) (w : World) (e : Ending) (w' : World) : Prop :=
  ∃ v ls x, e = .returned (.tuple #[v, x]) ∧ Own w' w.heap.size v ls ∧ ls.length ≤ 61 ∧ R x ∧ Below w.heap.size w w'
def AnyInt (x : Value) : Prop := ∃ i : Int, x = .int .i64 i

set_option maxHeartbeats 1000000 in
theorem DrawSplitBatch_any (a : Option Addr) (len cap : Nat) (w : World) (h : BytesIn w a len cap) :
    Calls Try.prog 20 #[.slice a len cap] w (DrawnL (Str 8) w) := by
  have HC := Lib.hid h
  clear h
  go_enter Try.func20, Try.ntmps20
  go_wp2_with fail; refine (l9Open_any _ _ _ _ HC.out).mono ?_; rintro e w1 ⟨r, rfl, hr, hle, hb⟩; have HS := Lib.hid (Src.mk1 hr hle hb); clear hr hb
  go_wp2_with fail
  refine (l2Open_any r _ _ HS.out.1 (by omega)).mono ?_
  rintro e w2 ⟨v, ls, rfl, ho, hl, hr, hg⟩
  have hr1 := HS.out.1.lt
  have hs1 := HS.out.2.2.size
  have HO := Lib.hid ho
  replace HS := Lib.hid (HS.out.got hr hg)
  clear ho hr hg
  go_wp2_with fail
  refine (l2Head_any r _ _ HS.out.1 (by omega)).mono ?_
  rintro e w3 ⟨_, rfl, ⟨p, rfl, hp⟩, hr, hg⟩
  replace HO := Lib.hid ((HO.out.got hg hr1).mono hs1)
  replace HS := Lib.hid (HS.out.got hr hg)
  clear hr hg
  go_wp2_with fail
  go_ret2
  exact ⟨_, ls, _, rfl, HO.out, hl, ⟨p, rfl, hp⟩, HS.out.2.2⟩

set_option maxHeartbeats 1000000 in
theorem DrawBinPass_any (a : Option Addr) (len cap : Nat) (w : World) (h : BytesIn w a len cap) :
    Calls Try.prog 15 #[.slice a len cap] w (DrawnL AnyInt w) := by
  have HC := Lib.hid h
  clear h
  go_enter Try.func15, Try.ntmps15
  go_wp2_with fail; refine (l9Open_any _ _ _ _ HC.out).mono ?_; rintro e w1 ⟨r, rfl, hr, hle, hb⟩; have HS := Lib.hid (Src.mk1 hr hle hb); clear hr hb
  go_wp2_with fail
  refine (l2Open_any r _ _ HS.out.1 (by omega)).mono ?_
  rintro e w2 ⟨v, ls, rfl, ho, hl, hr, hg⟩
  have hr1 := HS.out.1.lt
  have hs1 := HS.out.2.2.size
  have HO := Lib.hid ho
  replace HS := Lib.hid (HS.out.got hr hg)
  clear ho hr hg
  go_wp2_with fail
  refine (pick_lit r _ _ _ HS.out.1 (by omega) (by omega)).mono ?_
  rintro e w3 ⟨_, rfl, ⟨m, rfl, hm⟩, hr, hg⟩
  replace HO := Lib.hid (HO.out.got hg hr1)
  replace HS := Lib.hid (HS.out.got hr hg)
  clear hr hg
  by_cases h0 : m = 0
  · subst h0
    go_wp2_with fail
    refine (num_any r _ _ [-1, 7, 9223372036854775807] _ (HS.out.1.alloc _) (by omega) (by decide) (Row.made _ _ _) (Nat.ne_of_gt HS.out.1.lt) _).mono ?_
    rintro e w4 ⟨_, rfl, ⟨x, hx, rfl⟩, hr, hg⟩
    replace HO := Lib.hid (((HO.out.ext (below_box _ _)).got hg hr1).mono hs1)
    replace HS := Lib.hid ((HS.out.alloc _).got hr hg)
    clear hr hg hx
    go_wp2_with fail
    go_ret2
    exact ⟨_, ls, _, rfl, HO.out, hl, ⟨x, rfl⟩, HS.out.2.2⟩
  · have hmd : ((m : Int) == 0) = false := by simp; omega
    go_wp2_with fail
    refine (pick_lit r _ _ _ HS.out.1 (by omega) (by omega)).mono ?_
    rintro e w4 ⟨_, rfl, ⟨q, rfl, hq⟩, hr, hg⟩
    replace HO := Lib.hid ((HO.out.got hg hr1).mono hs1)
    replace HS := Lib.hid (HS.out.got hr hg)
    clear hr hg
    go_wp2_with fail
    go_ret2
    exact ⟨_, ls, _, rfl, HO.out, hl, ⟨_, rfl⟩, HS.out.2.2⟩

set_option maxHeartbeats 1000000 in
theorem DrawSortPass_any (a : Option Addr) (len cap : Nat) (w : World) (h : BytesIn w a len cap) :
    Calls Try.prog 35 #[.slice a len cap] w (DrawnL AnyInt w) := by
  have HC := Lib.hid h
  clear h
  go_enter Try.func35, Try.ntmps35
  go_wp2_with fail
  refine (DrawBinPass_any _ _ _ _ HC.out).mono ?_
  rintro e w1 ⟨v, ls, _, rfl, ho, hl, ⟨p, rfl⟩, hb⟩
  have HO := Lib.hid ho
  clear ho
  go_wp2_with fail
  go_ret2
  exact ⟨_, ls, _, rfl, HO.out, hl, ⟨p, rfl⟩, hb⟩

set_option maxHeartbeats 2000000 in
theorem soBatch_same (A : Option Addr) (n cap : Nat) (A2 : Option Addr) (n2 cap2 : Nat) (ls : List Ltr) (w : World) (h : LS w A n cap ls) (h2 : LS w A2 n2 cap2 ls) :
    Calls Try.prog 18 #[.slice A n cap, .slice A2 n2 cap2] w fun e w' => e = .returned (.bool true) ∧ Below w.heap.size w w' := by
  obtain rfl : n2 = n := h2.1.symm.trans h.1
  have HL := Lib.hid h
  have HL2 := Lib.hid h2
  have HLEN := Lib.hid h.1
  have hcap := h.2.1
  have hmax := h.2.2.1
  unfold maxLen at hmax
  clear h h2
  go_enter Try.func18, Try.ntmps18
  go_wp2_with fail
  go_loopw [5] (fun iv wr => ∃ k : Nat, k ≤ n2 ∧ iv = .int .i64 k ∧ Below w.heap.size w wr) (fun iv _ => n2 - (intOf iv).toNat)
  case atStart => exact ⟨0, by omega, rfl, Below.refl _ _⟩
  case round =>
    obtain ⟨k, hk, rfl, hbel⟩ := hrel
    by_cases hkn : k < n2
    · obtain ⟨g, off, l, rfl, hl, hlm, c0, c1⟩ := (HL.out.ext hbel).at_ k hkn
      obtain ⟨g2, off2, l2, rfl, hl2, _, d0, d1⟩ := (HL2.out.ext hbel).at_ k hkn
      obtain rfl : l2 = l := by rw [hl] at hl2; injection hl2 with hl2; exact hl2.symm
      have hki : (k : Int) < (n2 : Int) := by omega
      clear hl hl2
      go_wp2_with fail
      go_quiet (fail)
      go_wp2_with fail
      go_roundw
      case rel => exact ⟨k + 1, by omega, by go_num, (by repeat (first | exact Below.refl _ _ | assumption | refine ext_alloc ?_ _ | refine Below.drew ?_ | refine below_drewN' ?_ _ | refine ext_set ?_ (by first | (simp; done) | (simp; omega) | omega) _ | refine ext_trans ?_ (by assumption)))⟩
      case measure => simp [intOf]; omega
    · go_wp2_with fail
      go_ret
      exact ⟨rfl, hbel⟩

set_option maxHeartbeats 1000000 in
theorem soPlace_any (A : Option Addr) (n cap : Nat) (ls : List Ltr) (id : Int) (w : World) (h : LS w A n cap ls) :
    Calls Try.prog 19 #[.slice A n cap, .int .i64 id] w fun e w' => e = .returned (.int .i64 (findL ls id)) ∧ Below w.heap.size w w' := by
  have HL := Lib.hid h
  clear h
  go_enter Try.func19, Try.ntmps19
  go_wp2_with (go_at_call 63; refine (impl_FindLetter _ _ _ _ _ _ HL.out).mono ?_; rintro e w1 ⟨rfl, hb1⟩)
  go_ret
  exact ⟨rfl, (by repeat (first | exact Below.refl _ _ | assumption | refine ext_alloc ?_ _ | refine Below.drew ?_ | refine below_drewN' ?_ _ | refine ext_set ?_ (by first | (simp; done) | (simp; omega) | omega) _ | refine ext_trans ?_ (by assumption)))⟩

end Go.Proofs.Ytafngfmloiikoaa
