/-
  WALKS: the Draw functions of batches with a further argument; soBatch, soPlace. By an AI agent.
-/
import Derived.Test.YtkbbnobchmlmdaaDrawL
import Derived.Test.YtkbbnobchmlmdaaOwnI
import Derived.Deep.RegionLaw
import Derived.Deep.DrawnRows
namespace Go.Proofs.Ytkbbnobchmlmdaa
open Go.RowKit

attribute [local go_sem ↓] Go.wp_at_zero Go.wp_at_succ

/-- What a Draw function of a batch and a further argument answers. -/
def DrawnL (R : Value → Prop) (w : World) (e : Ending) (w' : World) : Prop :=
  ∃ v ls x, e = .returned (.tuple #[v, x]) ∧ Own w' w.heap.size v ls ∧ ls.length ≤ 61 ∧ R x ∧ Below w.heap.size w w'
def AnyInt (x : Value) : Prop := ∃ i : Int, x = .int .i64 i

set_option maxHeartbeats 1000000 in
theorem DrawSplitBatch_any (a : Option Addr) (len cap : Nat) (w : World) (h : BytesIn w a len cap) :
    Calls Try.prog 17 #[.slice a len cap] w (DrawnL (Str 8) w) := by
  have HC := Lib.hid h
  clear h
  go_enter Try.func17, Try.ntmps17
  go_wp2_with fail; refine (l9Open_any _ _ _ _ HC.out).mono ?_; rintro e w1 ⟨r, rfl, hr, hle, hb⟩; have HS := Lib.hid (Src.mk1 hr hle hb); clear hr hb
  go_wp2_with fail
  refine (l2Open_any r _ _ HS.out.1 (by omega)).mono ?_
  rintro e w2 ⟨v, ls, rfl, ho, hl, hr, hg⟩
  have hr1 := HS.out.1.lt
  have hs1 := HS.out.2.2.size
  have HO := Lib.hid ho
  replace HS := Lib.hid (HS.out.got hr hg)
  clear ho hr hg
  go_wp2_with fail
  refine (l2Head_any r _ _ HS.out.1 (by omega)).mono ?_
  rintro e w3 ⟨_, rfl, ⟨p, rfl, hp⟩, hr, hg⟩
  replace HO := Lib.hid ((HO.out.got hg hr1).mono hs1)
  replace HS := Lib.hid (HS.out.got hr hg)
  clear hr hg
  go_wp2_with fail
  go_ret2
  exact ⟨_, ls, _, rfl, HO.out, hl, ⟨p, rfl, hp⟩, HS.out.2.2⟩

set_option maxHeartbeats 1000000 in
theorem DrawCountPrefix_any (a : Option Addr) (len cap : Nat) (w : World) (h : BytesIn w a len cap) :
    Calls Try.prog 9 #[.slice a len cap] w (DrawnL (Str 8) w) := by
  have HC := Lib.hid h
  clear h
  go_enter Try.func9, Try.ntmps9
  go_wp2_with fail
  refine (DrawSplitBatch_any _ _ _ _ HC.out).mono ?_
  rintro e w1 ⟨v, ls, _, rfl, ho, hl, ⟨p, rfl, hp⟩, hb⟩
  have HO := Lib.hid ho
  clear ho
  go_wp2_with fail
  go_ret2
  exact ⟨_, ls, _, rfl, HO.out, hl, ⟨p, rfl, hp⟩, hb⟩

set_option maxHeartbeats 2000000 in
theorem DrawFindLetter_any (a : Option Addr) (len cap : Nat) (w : World) (h : BytesIn w a len cap) :
    Calls Try.prog 5 #[.slice a len cap] w (DrawnL AnyInt w) := by
  have HC := Lib.hid h
  clear h
  go_enter Try.func5, Try.ntmps5
  go_wp2_with fail; refine (l9Open_any _ _ _ _ HC.out).mono ?_; rintro e w1 ⟨r, rfl, hr, hle, hb⟩; have HS := Lib.hid (Src.mk1 hr hle hb); clear hr hb
  go_wp2_with fail
  refine (l2Open_any r _ _ HS.out.1 (by omega)).mono ?_
  rintro e w2 ⟨v, ls, rfl, ho, hl, hr, hg⟩
  have hr1 := HS.out.1.lt
  have hs1 := HS.out.2.2.size
  obtain ⟨A, c, rfl, _⟩ := ho.read
  obtain ⟨n, hn⟩ : ∃ n, ls.length = n := ⟨_, rfl⟩
  rw [hn] at ho hl ⊢
  have HN := Lib.hid hn
  have HO := Lib.hid ho
  replace HS := Lib.hid (HS.out.got hr hg)
  clear ho hr hg hn
  by_cases hn0 : n = 0
  · subst hn0
    go_wp2_with fail
    refine (pick_lit r _ _ _ HS.out.1 (by omega) (by omega)).mono ?_
    rintro e w4 ⟨_, rfl, ⟨q, rfl, hq⟩, hr, hg⟩
    replace HO := Lib.hid ((HO.out.got hg hr1).mono hs1)
    replace HS := Lib.hid (HS.out.got hr hg)
    clear hr hg
    go_wp2_with fail
    go_ret2
    exact ⟨_, ls, _, rfl, HO.out, by have := HN.out; omega, ⟨_, rfl⟩, HS.out.2.2⟩
  · have hnd : ((n : Int) == 0) = false := by simp; omega
    go_wp2_with fail
    refine (pick_lit r _ _ _ HS.out.1 (by omega) (by omega)).mono ?_
    rintro e w3 ⟨_, rfl, ⟨m, rfl, hm⟩, hr, hg⟩
    replace HO := Lib.hid (HO.out.got hg hr1)
    replace HS := Lib.hid (HS.out.got hr hg)
    clear hr hg
    by_cases h0 : m = 0
    · subst h0
      go_wp2_with fail
      refine (pick_lit r _ _ _ HS.out.1 (by omega) (by omega)).mono ?_
      rintro e w4 ⟨_, rfl, ⟨q, rfl, hq⟩, hr, hg⟩
      replace HO := Lib.hid ((HO.out.got hg hr1).mono hs1)
      replace HS := Lib.hid (HS.out.got hr hg)
      clear hr hg
      go_wp2_with fail
      go_ret2
      exact ⟨_, ls, _, rfl, HO.out, by have := HN.out; omega, ⟨_, rfl⟩, HS.out.2.2⟩
    · have hmd : ((m : Int) == 0) = false := by simp; omega
      obtain ⟨g, cap', hA⟩ := HO.out.form (by have := HN.out; omega)
      simp at hA
      obtain ⟨rfl, hx1, hx2⟩ := hA
      clear hx1 hx2
      have hn1 : (1 : Int) ≤ (n : Int) := by omega
      go_wp2_with fail
      go_region_law (first | (go_simp; go_at_call 14; refine (pick_lit r _ _ _ (by exact HS.out.1) (by omega) hn1).mono ?_; rintro e w4 ⟨_, rfl, ⟨q, rfl, hq⟩, hr, hg0⟩; have hg : w3.grownBy w4 (some r) := ⟨hg0.os, hg0.tape, hg0.output, hg0.size, hg0.block⟩; clear hg0; obtain ⟨l, hlq⟩ : ∃ l, ls[q]? = some l := ⟨ls[q]'(by have := HN.out; omega), List.getElem?_eq_getElem _⟩; obtain ⟨c0, c1, f0, f1⟩ := (HO.out.got hg hr1).cells q l hlq))
      all_goals
        replace HO := Lib.hid ((HO.out.got hg hr1).mono hs1)
        replace HS := Lib.hid (HS.out.got hr hg)
        clear hr hg
        go_wp2_with fail
        go_ret2
        exact ⟨_, ls, _, rfl, HO.out, by have := HN.out; omega, ⟨_, rfl⟩, HS.out.2.2⟩

end Go.Proofs.Ytkbbnobchmlmdaa
