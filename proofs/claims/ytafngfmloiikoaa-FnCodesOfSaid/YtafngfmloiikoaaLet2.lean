/-
  WALKS: the exact laws' own helpers on letters: toLetterS, szLetterS, eqLetterS; the law FnExactBatchValid. By an AI agent.
-/
import Derived.Test.YtafngfmloiikoaaLet
import Derived.Laws.MakeOwn
import Derived.Laws.Entries
import Derived.Deep.AppendLies
namespace Go.Proofs.Ytafngfmloiikoaa
open Go.RowKit

/-- The cells of letters. -/
def cellsL (ls : List Ltr) : List Value := ls.flatMap fun l => [.int .i64 l.1, .string l.2]
theorem cellsL_length (ls : List Ltr) : (cellsL ls).length = ls.length * 2 := by
  induction ls with
  | nil => rfl
  | cons l ls ih => simp only [cellsL, List.flatMap_cons, List.length_append] at ih ⊢; rw [ih]; simp; omega
theorem cellsL_append (a b : List Ltr) : cellsL (a ++ b) = cellsL a ++ cellsL b := by simp [cellsL]
theorem cellsL_one (l : Ltr) : cellsL [l] = [.int .i64 l.1, .string l.2] := rfl
theorem cellsL_at : ∀ (ls : List Ltr) (i : Nat) (h : i < ls.length), (cellsL ls)[i * 2]? = some (.int .i64 ls[i].1) ∧ (cellsL ls)[i * 2 + 1]? = some (.string ls[i].2)
  | l :: ls, 0, _ => by simp [cellsL]
  | l :: ls, i + 1, h => by
    have ih := cellsL_at ls i (by simpa using h)
    have e : cellsL (l :: ls) = .int .i64 l.1 :: .string l.2 :: cellsL ls := rfl
    rw [e, show (i + 1) * 2 = i * 2 + 1 + 1 by omega]
    simpa using ih
theorem cellsL_oneCell (ls : List Ltr) : ∀ u ∈ cellsL ls, u.oneCell' = true := by
  intro u hu
  obtain ⟨l, _, h⟩ := List.mem_flatMap.1 hu
  simp at h
  rcases h with rfl | rfl <;> rfl

/-- A slice of letters of the call's own, from block base on. -/
def Own (w : World) (base : Nat) (v : Value) (ls : List Ltr) : Prop :=
  w.ownsRow base 31 2 v ls.length (cellsL ls) ∧ (∀ l ∈ ls, l.2.size ≤ maxLen)
theorem add_lit' (g j : Nat) : (⟨g, 0, none⟩ : Addr).add j = ⟨g, j, none⟩ := by unfold Addr.add; split <;> simp_all
theorem Own.read {w : World} {base : Nat} {v : Value} {ls : List Ltr} (h : Own w base v ls) : ∃ A cap, v = .slice A ls.length cap ∧ LS w A ls.length cap ls := by
  obtain ⟨h1, h2⟩ := h
  have hc : ∀ g, v.ownBlock = some g → ∀ j u, (cellsL ls)[j]? = some u → w.cell? ((⟨g, 0, none⟩ : Addr).add j) = some u := fun g hg => h1.cells hg
  rcases h1.2 with ⟨rfl, hn⟩ | ⟨g, cap, cur, rfl, hb, hg, hnc, hcm, _⟩
  · exact ⟨none, 0, by rw [hn], rfl, by omega, by unfold maxLen; omega, h2, fun h => by omega⟩
  · refine ⟨_, cap, rfl, rfl, hnc, hcm, h2, fun _ => ⟨g, 0, rfl, fun i hi => ?_⟩⟩
    have ha := cellsL_at ls i hi
    have h0 := hc g rfl (i * 2) _ ha.1
    have h1 := hc g rfl (i * 2 + 1) _ ha.2
    rw [add_lit'] at h0 h1
    rw [Nat.zero_add]
    exact ⟨h0, h1⟩
theorem Own.mono {w : World} {base base' : Nat} {v : Value} {ls : List Ltr} (h : Own w base v ls) (hb : base' ≤ base) : Own w base' v ls := by
  obtain ⟨⟨h1, h2⟩, h3⟩ := h
  refine ⟨⟨h1, ?_⟩, h3⟩
  rcases h2 with h2 | ⟨g, cap, cur, hv, hg, r⟩
  · exact .inl h2
  · exact .inr ⟨g, cap, cur, hv, by omega, r⟩
theorem Own.ext {w w' : World} {base : Nat} {v : Value} {ls : List Ltr} (h : Own w base v ls) (hb : Below w.heap.size w w') : Own w' base v ls :=
  ⟨h.1.kept (row := none) ⟨hb.os, hb.tape, hb.output, hb.size, fun i hi _ => hb.block i hi⟩ (by cases v.ownBlock <;> simp), h.2⟩

theorem info_letter : (Try.prog.info? 31).map (fun i => (i.zero, i.size, i.bytes)) = some (some (.agg #[.int .i64 0, .string ⟨#[]⟩]), 2, 24) := by kernel_rfl
theorem run_make_rowN' {P : Program} (t e : TypeId) (i : TypeInfo) (z : Value) (ht : P.underlying t = some (.slice e)) (hi : P.info? e = some i) (hz : i.zero = some z)
    (kl kc : IntKind) (n c : Nat) (hnc : n ≤ c) (hbytes : i.bytes * c ≤ 281474976710656) (h63 : c ≤ 9223372036854775807) (w : World) :
    (Instr.makeSlice t (.int kl (n : Int)) (.int kc (c : Int))).run P w = .ok (.slice (some ⟨w.heap.size, 0, none⟩) n c) (w.alloc (.cells (madeCells z.cells (c * i.size)) e)) := by
  have hb : (i.bytes : Int) * (c : Int) ≤ 281474976710656 := by
    have h : ((i.bytes * c : Nat) : Int) ≤ 281474976710656 := by omega
    rwa [Int.natCast_mul] at h
  have hr := run_make (P := P) w t e i z ht hi hz kl kc n c (by omega) (by omega) hb (by omega)
  simp only [Int.toNat_natCast] at hr
  exact hr
theorem make_letters (n : Nat) (hn : n ≤ 1048576) (w : World) : ∃ cs : Array Value, cs.size = n * 2 ∧
    (Instr.makeSlice 23 (.int .i64 (n : Int)) (.int .i64 (n : Int))).run Try.prog w = .ok (.slice (some ⟨w.heap.size, 0, none⟩) n n) (w.alloc (.cells cs 31)) := by
  obtain ⟨i0, hi, hz0, hz1, hz2⟩ := info_parts info_letter
  refine ⟨_, ?_, run_make_rowN' 23 31 i0 _ Try.underlying23 hi hz0 .i64 .i64 n n (Nat.le_refl _) (by rw [hz2]; omega) (by omega) w⟩
  rw [hz1]; exact size_madeCells _ _

set_option maxHeartbeats 1000000 in
theorem toLetter_any (l : Ltr) (w : World) :
    Calls Try.prog 77 #[vL l] w fun e w' => e = .returned (vL l) ∧ Below w.heap.size w w' := by
  go_enter Try.func77, Try.ntmps77
  go_wp2
  exact bodyPost_ret (v := vL l) (by simp [results, Try.results77, go_sem]) rfl ⟨rfl, (by repeat (first | exact Below.refl _ _ | assumption | refine ext_alloc ?_ _ | refine Below.drew ?_ | refine below_drewN' ?_ _ | refine ext_set ?_ (by first | (simp; done) | (simp; omega) | omega) _ | refine ext_trans ?_ (by assumption)))⟩

theorem fill_two (arr : Array Value) (k n : Nat) (x y : Value) (xs : List Value) (hsz : arr.size = n * 2) (hk : k < n) (ht : arr.toList.take (k * 2) = xs) :
    ((arr.setIfInBounds (k * 2) x).setIfInBounds (k * 2 + 1) y).toList.take ((k + 1) * 2) = xs ++ [x, y] := by
  rw [← ht]
  have hl : arr.toList.length = n * 2 := by rw [Array.length_toList]; exact hsz
  simp only [Array.toList_setIfInBounds]
  apply List.ext_getElem (by simp [hsz]; omega)
  intro i h1 h2
  have hi : i < (k + 1) * 2 := by simp at h1; omega
  rw [List.getElem_take, List.getElem_set, List.getElem_set, List.getElem_append]
  by_cases e1 : i < k * 2
  · rw [if_neg (by omega), if_neg (by omega), dif_pos (by simp [hsz]; omega), List.getElem_take]
  · rw [dif_neg (by simp [hsz]; omega)]
    by_cases e2 : i = k * 2
    · subst e2
      rw [if_neg (by omega), if_pos rfl]
      simp [show min (k * 2) arr.size = k * 2 by omega]
    · obtain rfl : i = k * 2 + 1 := by omega
      rw [if_pos rfl]
      simp [show min (k * 2) arr.size = k * 2 by omega]

set_option maxHeartbeats 2000000 in
theorem toLetterS_any (A : Option Addr) (n cap : Nat) (ls : List Ltr) (w : World) (h : LS w A n cap ls) (hn : n ≤ 1048576) :
    Calls Try.prog 41 #[.slice A n cap] w fun e w' => (∃ v, e = .returned v ∧ Own w' w.heap.size v ls) ∧ Below w.heap.size w w' := by
  have HL := Lib.hid h
  have HLEN := Lib.hid h.1
  have HSZ := Lib.hid h.2.2.2.1
  clear h
  obtain ⟨cs, hcs, hmk⟩ := make_letters n hn w
  have HCS := Lib.hid hcs
  clear hcs
  go_enter Try.func41, Try.ntmps41
  go_wp2_with fail
  go_loopw [4] (fun iv wr => ∃ (k : Nat) (arr : Array Value), k ≤ n ∧ iv = .int .i64 k ∧ Row wr w.heap.size 31 arr ∧ arr.size = n * 2 ∧ arr.toList.take (k * 2) = cellsL (ls.take k) ∧ Below w.heap.size w wr) (fun iv _ => n - (intOf iv).toNat)
  case atStart => exact ⟨0, cs, by omega, rfl, Row.made _ _ _, HCS.out, by simp [cellsL], below_box _ _⟩
  case round =>
    obtain ⟨k, arr, hk, rfl, hrow, hsz, hfill, hbel⟩ := hrel
    have HR := Lib.hid hrow
    have HZ := Lib.hid hsz
    have HF := Lib.hid hfill
    clear hrow hsz hfill
    by_cases hkn : k < n
    · obtain ⟨g, off, l, rfl, hl, hlm, c0, c1⟩ := (HL.out.ext hbel).at_ k hkn
      have HLK := Lib.hid hl
      clear hl
      go_wp2_with fail
      refine (toLetter_any l _).mono ?_
      rintro e w2 ⟨rfl, hb2⟩
      have HR2 := Lib.hid (HR.out.ext hb2)
      obtain ⟨v0, e0⟩ : ∃ v, w2.cell? ⟨w.heap.size, k * 2, none⟩ = some v := ⟨arr[k * 2]'(by have := HZ.out; omega), by rw [HR2.out.cell]; exact Array.getElem?_eq_getElem _⟩
      obtain ⟨v1, e1⟩ : ∃ v, w2.cell? ⟨w.heap.size, k * 2 + 1, none⟩ = some v := ⟨arr[k * 2 + 1]'(by have := HZ.out; omega), by rw [HR2.out.cell]; exact Array.getElem?_eq_getElem _⟩
      have f0 := HR2.out.frozen (k * 2)
      have f1 := HR2.out.frozen (k * 2 + 1)
      go_wp2_with fail
      go_roundw
      case rel =>
        refine ⟨k + 1, _, by omega, by go_num, (HR2.out.put _ _).put _ _, by simp [HZ.out], ?_, (by repeat (first | exact Below.refl _ _ | assumption | refine ext_alloc ?_ _ | refine Below.drew ?_ | refine below_drewN' ?_ _ | refine ext_set ?_ (by first | (simp; done) | (simp; omega) | omega) _ | refine ext_trans ?_ (by assumption)))⟩
        rw [fill_two arr k n _ _ _ HZ.out hkn HF.out, take_snoc' ls k l HLK.out, cellsL_append]; rfl
      case measure => simp [intOf]; omega
    · go_wp2_with fail
      go_ret
      refine ⟨⟨.slice (some ⟨w.heap.size, 0, none⟩) n n, rfl, ⟨by rw [cellsL_length], .inr ⟨w.heap.size, n, arr, by rw [HLEN.out], Nat.le_refl _, HR.out, by rw [HLEN.out]; exact Nat.le_refl _, by unfold maxLen; omega, HZ.out, ?_⟩⟩, HSZ.out⟩, hbel⟩
      have hh := HF.out
      rw [show k = n by omega, List.take_of_length_le (l := ls) (by rw [HLEN.out]; exact Nat.le_refl _)] at hh
      rw [HLEN.out]; exact hh

/-- What szLetterS reckons. -/
def szF : List Ltr → Int → Int
  | [], x => x
  | l :: ls, x => if x - l.2.size < 0 then -1 else szF ls (x - l.2.size)
def szL (ls : List Ltr) (x : Int) : Int := if x - ls.length < 0 then -1 else szF ls (x - ls.length)
theorem szL_len (ls : List Ltr) (x : Int) (h : 0 ≤ szL ls x) : (ls.length : Int) ≤ x := by
  unfold szL at h; split at h <;> omega
theorem szF_le : ∀ (ls : List Ltr) (x : Int), 0 ≤ x → szF ls x ≤ x
  | [], x, _ => Int.le_refl _
  | l :: ls, x, h => by
    simp only [szF]; split
    · omega
    · have := szF_le ls (x - l.2.size) (by omega); omega
theorem szL_le (ls : List Ltr) (x : Int) (h : 0 ≤ x) : szL ls x ≤ x := by
  unfold szL; split
  · omega
  · have := szF_le ls (x - ls.length) (by omega); omega

set_option maxHeartbeats 1000000 in
theorem szLetter_any (l : Ltr) (x : Int) (w : World) (hx0 : 0 ≤ x) (hx : x ≤ 1048576) (hl : l.2.size ≤ maxLen) :
    Calls Try.prog 75 #[vL l, .int .i64 x] w fun e w' => e = .returned (.int .i64 (if x - l.2.size < 0 then -1 else x - l.2.size)) ∧ Below w.heap.size w w' := by
  unfold maxLen at hl
  by_cases hneg : x - l.2.size < 0
  · have H := Lib.hid (show (if x - (l.2.size : Int) < 0 then (-1 : Int) else x - l.2.size) = -1 from if_pos hneg)
    go_enter Try.func75, Try.ntmps75
    go_wp2
    go_ret
    exact ⟨ret_int (by first | rfl | exact H.out.symm), (by repeat (first | exact Below.refl _ _ | assumption | refine ext_alloc ?_ _ | refine Below.drew ?_ | refine below_drewN' ?_ _ | refine ext_set ?_ (by first | (simp; done) | (simp; omega) | omega) _ | refine ext_trans ?_ (by assumption)))⟩
  · have H := Lib.hid (show (if x - (l.2.size : Int) < 0 then (-1 : Int) else x - l.2.size) = x - l.2.size from if_neg hneg)
    go_enter Try.func75, Try.ntmps75
    go_wp2
    go_ret
    exact ⟨ret_int (by first | rfl | exact H.out.symm), (by repeat (first | exact Below.refl _ _ | assumption | refine ext_alloc ?_ _ | refine Below.drew ?_ | refine below_drewN' ?_ _ | refine ext_set ?_ (by first | (simp; done) | (simp; omega) | omega) _ | refine ext_trans ?_ (by assumption)))⟩

set_option maxHeartbeats 2000000 in
theorem szLetterS_any (A : Option Addr) (n cap : Nat) (ls : List Ltr) (x : Int) (w : World) (h : LS w A n cap ls) (hx0 : 0 ≤ x) (hx : x ≤ 1048576) :
    Calls Try.prog 39 #[.slice A n cap, .int .i64 x] w fun e w' => e = .returned (.int .i64 (szL ls x)) ∧ Below w.heap.size w w' := by
  have HL := Lib.hid h
  have HLEN := Lib.hid h.1
  have hcap := h.2.1
  have hmax := h.2.2.1
  unfold maxLen at hmax
  clear h
  by_cases hneg : x - n < 0
  · have H := Lib.hid (show szL ls x = -1 from by unfold szL; rw [HLEN.out, if_pos hneg])
    go_enter Try.func39, Try.ntmps39
    go_wp2_with fail
    go_ret
    exact ⟨ret_int H.out.symm, (by repeat (first | exact Below.refl _ _ | assumption | refine ext_alloc ?_ _ | refine Below.drew ?_ | refine below_drewN' ?_ _ | refine ext_set ?_ (by first | (simp; done) | (simp; omega) | omega) _ | refine ext_trans ?_ (by assumption)))⟩
  · have H := Lib.hid (show szL ls x = szF ls (x - n) from by unfold szL; rw [HLEN.out, if_neg hneg])
    have hnd : decide (x - (n : Int) < 0) = false := by simpa using hneg
    go_enter Try.func39, Try.ntmps39
    go_wp2_with fail
    go_loopw [1, 5] (fun lv iv wr => ∃ (k : Nat) (y : Int), k ≤ n ∧ iv = .int .i64 k ∧ lv = .int .i64 y ∧ 0 ≤ y ∧ y ≤ 1048576 ∧ szF (ls.drop k) y = szF ls (x - n) ∧ Below w.heap.size w wr) (fun _ iv _ => n - (intOf iv).toNat)
    case atStart => exact ⟨0, x - n, by omega, rfl, rfl, by omega, by omega, rfl, Below.refl _ _⟩
    case round =>
      obtain ⟨k, y, hk, rfl, rfl, hy0, hy, hsz, hbel⟩ := hrel
      have HS := Lib.hid hsz
      clear hsz
      by_cases hkn : k < n
      · obtain ⟨g, off, l, rfl, hl, hlm, c0, c1⟩ := (HL.out.ext hbel).at_ k hkn
        have hdr : ls.drop k = l :: ls.drop (k + 1) := by
          obtain ⟨hh, he⟩ := List.getElem?_eq_some_iff.1 hl
          rw [List.drop_eq_getElem_cons hh, he]
        have HS2 := Lib.hid (show szF ls (x - n) = if y - l.2.size < 0 then -1 else szF (ls.drop (k + 1)) (y - l.2.size) from by rw [← HS.out, hdr]; rfl)
        clear hl hdr
        by_cases hng : y - l.2.size < 0
        · have HI := Lib.hid (show (if y - (l.2.size : Int) < 0 then (-1 : Int) else y - l.2.size) = -1 from if_pos hng)
          have HS3 := Lib.hid (show szF ls (x - n) = -1 from by rw [HS2.out, if_pos hng])
          go_wp2_with (go_at_call 75; refine (szLetter_any _ _ _ hy0 hy hlm).mono ?_; rintro e w2 ⟨rfl, hb2⟩; rw [HI.out])
          go_ret
          exact ⟨ret_int (by rw [H.out, HS3.out]), (by repeat (first | exact Below.refl _ _ | assumption | refine ext_alloc ?_ _ | refine Below.drew ?_ | refine below_drewN' ?_ _ | refine ext_set ?_ (by first | (simp; done) | (simp; omega) | omega) _ | refine ext_trans ?_ (by assumption)))⟩
        · have HI := Lib.hid (show (if y - (l.2.size : Int) < 0 then (-1 : Int) else y - l.2.size) = y - l.2.size from if_neg hng)
          have HS3 := Lib.hid (show szF ls (x - n) = szF (ls.drop (k + 1)) (y - l.2.size) from by rw [HS2.out, if_neg hng])
          obtain ⟨z, hz⟩ : ∃ z, y - l.2.size = z := ⟨_, rfl⟩
          have HZ := Lib.hid hz
          have hz0 : 0 ≤ z := by omega
          have hz1 : z ≤ 1048576 := by omega
          clear hz
          go_wp2_with (go_at_call 75; refine (szLetter_any _ _ _ hy0 hy hlm).mono ?_; rintro e w2 ⟨rfl, hb2⟩; rw [HI.out, HZ.out])
          go_roundw
          case rel => exact ⟨k + 1, z, by omega, by go_num, rfl, hz0, hz1, by rw [HS3.out, HZ.out], (by repeat (first | exact Below.refl _ _ | assumption | refine ext_alloc ?_ _ | refine Below.drew ?_ | refine below_drewN' ?_ _ | refine ext_set ?_ (by first | (simp; done) | (simp; omega) | omega) _ | refine ext_trans ?_ (by assumption)))⟩
          case measure => simp [intOf]; omega
      · have hd : ls.drop k = [] := List.drop_eq_nil_of_le (by rw [HLEN.out]; omega)
        have HS3 := Lib.hid (show szF ls (x - n) = y from by rw [← HS.out, hd]; rfl)
        clear hd
        go_wp2_with fail
        go_ret
        exact ⟨ret_int (by rw [H.out, HS3.out]), hbel⟩

set_option maxHeartbeats 1000000 in
theorem eqLetter_same (l : Ltr) (w : World) :
    Calls Try.prog 82 #[vL l, vL l] w fun e w' => e = .returned (.bool true) ∧ Below w.heap.size w w' := by
  go_enter Try.func82, Try.ntmps82
  go_wp2
  go_ret
  exact ⟨rfl, (by repeat (first | exact Below.refl _ _ | assumption | refine ext_alloc ?_ _ | refine Below.drew ?_ | refine below_drewN' ?_ _ | refine ext_set ?_ (by first | (simp; done) | (simp; omega) | omega) _ | refine ext_trans ?_ (by assumption)))⟩

set_option maxHeartbeats 2000000 in
theorem eqLetterS_same (A : Option Addr) (n cap : Nat) (A2 : Option Addr) (n2 cap2 : Nat) (ls : List Ltr) (w : World) (h : LS w A n cap ls) (h2 : LS w A2 n2 cap2 ls) :
    Calls Try.prog 43 #[.slice A n cap, .slice A2 n2 cap2] w fun e w' => e = .returned (.bool true) ∧ Below w.heap.size w w' := by
  obtain rfl : n2 = n := h2.1.symm.trans h.1
  have HL := Lib.hid h
  have HL2 := Lib.hid h2
  have HLEN := Lib.hid h.1
  have hcap := h.2.1
  have hmax := h.2.2.1
  unfold maxLen at hmax
  clear h h2
  go_enter Try.func43, Try.ntmps43
  go_wp2_with fail
  go_loopw [5] (fun iv wr => ∃ k : Nat, k ≤ n2 ∧ iv = .int .i64 k ∧ Below w.heap.size w wr) (fun iv _ => n2 - (intOf iv).toNat)
  case atStart => exact ⟨0, by omega, rfl, Below.refl _ _⟩
  case round =>
    obtain ⟨k, hk, rfl, hbel⟩ := hrel
    by_cases hkn : k < n2
    · obtain ⟨g, off, l, rfl, hl, hlm, c0, c1⟩ := (HL.out.ext hbel).at_ k hkn
      obtain ⟨g2, off2, l2, rfl, hl2, _, d0, d1⟩ := (HL2.out.ext hbel).at_ k hkn
      obtain rfl : l2 = l := by rw [hl] at hl2; injection hl2 with hl2; exact hl2.symm
      have hki : (k : Int) < (n2 : Int) := by omega
      clear hl hl2
      go_wp2_with fail
      go_region_held3 (fun x => x.cell? ⟨g, off + k * 2, none⟩ = some (.int .i64 l2.1) ∧ x.cell? ⟨g, off + k * 2 + 1, none⟩ = some (.string l2.2) ∧ x.cell? ⟨g2, off2 + k * 2, none⟩ = some (.int .i64 l2.1) ∧ x.cell? ⟨g2, off2 + k * 2 + 1, none⟩ = some (.string l2.2)) (first | exact ⟨c0, c1, d0, d1⟩ | assumption | exact ⟨cell_later hb2 c0, cell_later hb2 c1, cell_later hb2 d0, cell_later hb2 d1⟩) (first | (go_at_call 82; refine (eqLetter_same l2 _).mono ?_; rintro e w2 ⟨rfl, hb2⟩))
      go_wp2_with fail
      go_roundw
      case rel => exact ⟨k + 1, by omega, by go_num, (by repeat (first | exact Below.refl _ _ | assumption | refine ext_alloc ?_ _ | refine Below.drew ?_ | refine below_drewN' ?_ _ | refine ext_set ?_ (by first | (simp; done) | (simp; omega) | omega) _ | refine ext_trans ?_ (by assumption)))⟩
      case measure => simp [intOf]; omega
    · go_wp2_with fail
      go_ret
      exact ⟨rfl, hbel⟩

end Go.Proofs.Ytafngfmloiikoaa
