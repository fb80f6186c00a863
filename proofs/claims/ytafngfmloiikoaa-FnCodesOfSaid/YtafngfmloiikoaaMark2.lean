/-
  WALKS: markLetterS, heldLetterS. By an AI agent.
-/
import Derived.Test.YtafngfmloiikoaaMark
namespace Go.Proofs.Ytafngfmloiikoaa
open Go.RowKit

theorem cellsL_cons (l : Ltr) (ls : List Ltr) : cellsL (l :: ls) = .int .i64 l.1 :: .string l.2 :: cellsL ls := rfl
theorem cellsL_setId : ∀ (ls : List Ltr) (i : Nat) (x : Int) (m : Ltr), ls[i]? = some m → (cellsL ls).set (i * 2) (.int .i64 x) = cellsL (ls.set i (x, m.2))
  | [], i, x, m, h => by simp at h
  | l :: ls, 0, x, m, h => by simp at h; subst h; rfl
  | l :: ls, i + 1, x, m, h => by
    have ih := cellsL_setId ls i x m (by simpa using h)
    rw [cellsL_cons, show (i + 1) * 2 = i * 2 + 1 + 1 by omega, List.set_cons_succ, List.set_cons_succ, List.set_cons_succ, cellsL_cons, ih]
theorem cellsL_setCode : ∀ (ls : List Ltr) (i : Nat) (s : ByteArray) (m : Ltr), ls[i]? = some m → (cellsL ls).set (i * 2 + 1) (.string s) = cellsL (ls.set i (m.1, s))
  | [], i, s, m, h => by simp at h
  | l :: ls, 0, s, m, h => by simp at h; subst h; rfl
  | l :: ls, i + 1, s, m, h => by
    have ih := cellsL_setCode ls i s m (by simpa using h)
    rw [cellsL_cons, show (i + 1) * 2 + 1 = i * 2 + 1 + 1 + 1 by omega, List.set_cons_succ, List.set_cons_succ, List.set_cons_succ, cellsL_cons, ih]
/-- Where the letters of the call's own lie. -/
theorem Own.form {w : World} {B : Nat} {v : Value} {ls : List Ltr} (h : Own w B v ls) (h0 : 0 < ls.length) : ∃ g cap, v = .slice (some ⟨g, 0, none⟩) ls.length cap := by
  rcases h.1.2 with ⟨_, hn⟩ | ⟨g, cap, cur, hv, _⟩
  · omega
  · exact ⟨g, cap, hv⟩
theorem Own.cells {w : World} {B g n cap : Nat} {ls : List Ltr} (h : Own w B (.slice (some ⟨g, 0, none⟩) n cap) ls) (i : Nat) (m : Ltr) (hm : ls[i]? = some m) :
    w.cell? ⟨g, i * 2, none⟩ = some (.int .i64 m.1) ∧ w.cell? ⟨g, i * 2 + 1, none⟩ = some (.string m.2) ∧ w.frozen? ⟨g, i * 2, none⟩ = false ∧ w.frozen? ⟨g, i * 2 + 1, none⟩ = false := by
  obtain ⟨hh, he⟩ := List.getElem?_eq_some_iff.1 hm
  have ha := cellsL_at ls i hh
  have h0 := h.1.cells (g := g) rfl (i * 2) _ ha.1
  have h1 := h.1.cells (g := g) rfl (i * 2 + 1) _ ha.2
  rw [add_lit'] at h0 h1
  rw [he] at h0 h1
  refine ⟨h0, h1, ?_, ?_⟩
  · rcases h.1.2 with ⟨hv, _⟩ | ⟨g', cap', cur, hv, _, hg, _⟩
    · cases hv
    · simp at hv; obtain ⟨rfl, _, _⟩ := hv
      simp [World.frozen?, hg]
  · rcases h.1.2 with ⟨hv, _⟩ | ⟨g', cap', cur, hv, _, hg, _⟩
    · cases hv
    · simp at hv; obtain ⟨rfl, _, _⟩ := hv
      simp [World.frozen?, hg]
theorem own_set {w : World} {B g n cap : Nat} {ls ls' : List Ltr} (h : Own w B (.slice (some ⟨g, 0, none⟩) n cap) ls) (j : Nat) (u : Value) (hl : ls'.length = ls.length)
    (hc : (cellsL ls).set j u = cellsL ls') (hs : ∀ l ∈ ls', l.2.size ≤ maxLen) : Own (w.setCell ⟨g, j, none⟩ u) B (.slice (some ⟨g, 0, none⟩) n cap) ls' := by
  refine ⟨⟨by rw [cellsL_length], ?_⟩, hs⟩
  rcases h.1.2 with ⟨hv, _⟩ | ⟨g', cap', cur, hv, hb, hg, hnc, hcm, hcs, ht⟩
  · cases hv
  · simp at hv; obtain ⟨rfl, rfl, rfl⟩ := hv
    refine .inr ⟨g, cap, cur.setIfInBounds j u, by rw [hl], hb, ?_, by rw [hl]; exact hnc, hcm, by simp [hcs], ?_⟩
    · simp [World.setCell, Array.getElem?_modify, hg]
    · rw [hl, Array.toList_setIfInBounds, List.take_set, ht, hc]
theorem Own.setId {w : World} {B g n cap : Nat} {ls : List Ltr} (h : Own w B (.slice (some ⟨g, 0, none⟩) n cap) ls) (i : Nat) (m : Ltr) (hm : ls[i]? = some m) (x : Int) :
    Own (w.setCell ⟨g, i * 2, none⟩ (.int .i64 x)) B (.slice (some ⟨g, 0, none⟩) n cap) (ls.set i (x, m.2)) := by
  obtain ⟨hh, he⟩ := List.getElem?_eq_some_iff.1 hm
  refine own_set h _ _ (by simp) (cellsL_setId ls i x m hm) (fun l hl => ?_)
  rcases List.mem_or_eq_of_mem_set hl with h1 | h1
  · exact h.2 l h1
  · rw [h1]; exact h.2 m (List.mem_of_getElem? hm)
theorem Own.setCode {w : World} {B g n cap : Nat} {ls : List Ltr} (h : Own w B (.slice (some ⟨g, 0, none⟩) n cap) ls) (i : Nat) (m : Ltr) (hm : ls[i]? = some m) (s : ByteArray) (hs : s.size ≤ maxLen) :
    Own (w.setCell ⟨g, i * 2 + 1, none⟩ (.string s)) B (.slice (some ⟨g, 0, none⟩) n cap) (ls.set i (m.1, s)) := by
  obtain ⟨hh, he⟩ := List.getElem?_eq_some_iff.1 hm
  refine own_set h _ _ (by simp) (cellsL_setCode ls i s m hm) (fun l hl => ?_)
  rcases List.mem_or_eq_of_mem_set hl with h1 | h1
  · exact h.2 l h1
  · rw [h1]; exact hs

/-- The marks. -/
def mkI (x : Int) : ByteArray := mkT x.toNat
def markAt (k : Int) (i : Nat) : Ltr := (k + 2 * (i : Int), mkI (k + 2 * (i : Int) + 1))
def marks (k : Int) (n : Nat) : List Ltr := (List.range n).map (markAt k)
theorem marks_len (k : Int) (n : Nat) : (marks k n).length = n := by simp [marks]
theorem marks_succ (k : Int) (n : Nat) : marks k (n + 1) = marks k n ++ [markAt k n] := by simp [marks, List.range_succ]
theorem marks_get (k : Int) (n i : Nat) (h : i < n) : (marks k n)[i]? = some (markAt k i) := by simp [marks, h]
theorem marks_mid (k : Int) (i : Nat) (ls : List Ltr) (m : Ltr) (h : ls[i]? = some m) : (marks k i ++ ls.drop i)[i]? = some m := by
  rw [List.getElem?_append_right (by rw [marks_len]; omega), marks_len, Nat.sub_self, List.getElem?_drop, Nat.add_zero]; exact h
theorem marks_mid2 (k : Int) (i : Nat) (ls : List Ltr) (m : Ltr) (h : ls[i]? = some m) (x : Int) : ((marks k i ++ ls.drop i).set i (x, m.2))[i]? = some (x, m.2) := by
  rw [List.getElem?_set_self]
  have := (List.getElem?_eq_some_iff.1 (marks_mid k i ls m h)).1
  exact this
theorem marks_step (k : Int) (i : Nat) (ls : List Ltr) (m : Ltr) (h : ls[i]? = some m) : (((marks k i ++ ls.drop i).set i (k + 2 * (i : Int), m.2)).set i (k + 2 * (i : Int), mkI (k + 2 * (i : Int) + 1))) = marks k (i + 1) ++ ls.drop (i + 1) := by
  obtain ⟨hh, he⟩ := List.getElem?_eq_some_iff.1 h
  rw [List.set_set, marks_succ, List.set_append_right _ _ (by rw [marks_len]; omega), marks_len, Nat.sub_self, List.drop_eq_getElem_cons hh, List.set_cons_zero, List.append_assoc]
  rfl

theorem markText_int (x : Int) (w : World) (h0 : 0 ≤ x) (h9 : x ≤ 1000000000) :
    Calls Try.prog 83 #[.int .i64 x] w fun e w' => e = .returned (.string (mkI x)) ∧ Below w.heap.size w w' := by
  obtain ⟨k, rfl⟩ := Int.eq_ofNat_of_zero_le h0
  exact markText_any k w (by omega)
theorem mkI_size (x : Int) (h0 : 0 ≤ x) (h9 : x ≤ 1000000000) : (mkI x).size ≤ maxLen := mkT_size _ (by omega)

/-- What markLetterS does. -/
def Marked (k : Int) (n : Nat) (v : Value) (B : Nat) (w : World) (e : Ending) (w' : World) : Prop :=
  e = .returned (.int .i64 (k + 2 * (n : Int))) ∧ Own w' B v (marks k n) ∧ w.grownBy w' v.ownBlock
theorem grown_set' {a b : World} {v : Value} {g n cap : Nat} (hv : v = .slice (some ⟨g, 0, none⟩) n cap) (h : a.grownBy b v.ownBlock) (j : Nat) (u : Value) : a.grownBy (b.setCell ⟨g, j, none⟩ u) v.ownBlock := by
  subst hv
  exact ⟨h.os, h.tape, h.output, by simpa [World.setCell] using h.size, fun i hi hne => (Below.heap_setCell b ⟨g, j, none⟩ u i (by
    intro e; subst e; exact hne rfl)).trans (h.block i hi hne)⟩
theorem grown_ext' {a b c : World} {row : Option Nat} (h : a.grownBy b row) (k : Below b.heap.size b c) : a.grownBy c row :=
  ⟨k.os.trans h.os, k.tape.trans h.tape, k.output.trans h.output, Nat.le_trans h.size k.size, fun i hi hne => (k.block i (Nat.lt_of_lt_of_le hi h.size)).trans (h.block i hi hne)⟩

set_option maxHeartbeats 2000000 in
theorem markLetterS_any (k : Int) (B : Nat) (v : Value) (ls : List Ltr) (w : World) (h : Own w B v ls) (hk0 : 0 ≤ k) (hk : k + 2 * (ls.length : Int) ≤ 100000000) :
    Calls Try.prog 44 #[v, .int .i64 k] w (Marked k ls.length v B w) := by
  obtain ⟨A, cap, rfl, hls⟩ := h.read
  clear hls
  obtain ⟨n, hn⟩ : ∃ n, n = ls.length := ⟨_, rfl⟩
  rw [← hn] at hk h ⊢
  have HN := Lib.hid hn
  have HO := Lib.hid h
  clear hn h
  go_enter Try.func44, Try.ntmps44
  go_wp2_with fail
  go_loopw [1, 5] (fun kv iv wr => ∃ i : Nat, i ≤ n ∧ kv = .int .i64 (k + 2 * (i : Int)) ∧ iv = .int .i64 i ∧ Own wr B (.slice A n cap) (marks k i ++ ls.drop i) ∧ w.grownBy wr (Value.ownBlock (.slice A n cap))) (fun _ iv _ => n - (intOf iv).toNat)
  case atStart => exact ⟨0, by omega, by simp, rfl, by simpa [marks] using HO.out, World.grownBy.refl _ _⟩
  case round =>
    obtain ⟨i, hi, rfl, rfl, hown, hg⟩ := hrel
    have HW := Lib.hid hown
    have HG := Lib.hid hg
    clear hown hg
    by_cases hin : i < n
    · obtain ⟨g, cap', hA⟩ := HO.out.form (by have := HN.out; omega)
      simp at hA
      obtain ⟨rfl, hx1, hx2⟩ := hA
      clear hx1 hx2
      obtain ⟨m, hm⟩ : ∃ m, ls[i]? = some m := ⟨ls[i]'(by have := HN.out; omega), List.getElem?_eq_getElem _⟩
      obtain ⟨c0, c1, f0, f1⟩ := HW.out.cells i m (marks_mid k i ls m hm)
      have HM := Lib.hid hm
      have H1 := Lib.hid (HW.out.setId i m (marks_mid k i ls m hm) (k + 2 * (i : Int)))
      have HG1 := Lib.hid (grown_set' rfl HG.out (i * 2) (.int .i64 (k + 2 * (i : Int))))
      clear hm
      go_wp2_with fail
      refine (markText_int _ _ (by omega) (by omega)).mono ?_
      rintro e w2 ⟨rfl, hb2⟩
      have H2 := Lib.hid (H1.out.ext hb2)
      have HG2 := Lib.hid (grown_ext' HG1.out hb2)
      obtain ⟨d0, d1, e0, e1⟩ := H2.out.cells i _ (marks_mid2 k i ls m HM.out _)
      have H3 := Lib.hid (H2.out.setCode i _ (marks_mid2 k i ls m HM.out _) (mkI (k + 2 * (i : Int) + 1)) (mkI_size _ (by omega) (by omega)))
      have HG3 := Lib.hid (grown_set' rfl HG2.out (i * 2 + 1) (.string (mkI (k + 2 * (i : Int) + 1))))
      clear c0 c1 f0 f1 H1 HG1 hb2
      go_wp2_with fail
      go_roundw
      case rel =>
        refine ⟨i + 1, by omega, by go_num, by go_num, ?_, HG3.out⟩
        rw [← marks_step k i ls m HM.out]; exact H3.out
      case measure => simp [intOf]; omega
    · obtain rfl : i = n := by omega
      go_wp2_with fail
      go_ret
      refine ⟨rfl, ?_, HG.out⟩
      have := HW.out
      rwa [List.drop_eq_nil_of_le (by have := HN.out; omega), List.append_nil] at this

set_option maxHeartbeats 2000000 in
theorem heldLetterS_any (k : Int) (A : Option Addr) (n cap : Nat) (w : World) (h : LS w A n cap (marks k n)) (hk0 : 0 ≤ k) (hk : k + 2 * (n : Int) ≤ 100000000) :
    Calls Try.prog 45 #[.slice A n cap, .int .i64 k] w fun e w' => e = .returned (.int .i64 (k + 2 * (n : Int))) ∧ Below w.heap.size w w' := by
  have HL := Lib.hid h
  have hcap := h.2.1
  have hmax := h.2.2.1
  unfold maxLen at hmax
  clear h
  go_enter Try.func45, Try.ntmps45
  go_wp2_with fail
  go_loopw [1, 5] (fun kv iv wr => ∃ i : Nat, i ≤ n ∧ kv = .int .i64 (k + 2 * (i : Int)) ∧ iv = .int .i64 i ∧ Below w.heap.size w wr) (fun _ iv _ => n - (intOf iv).toNat)
  case atStart => exact ⟨0, by omega, by simp, rfl, Below.refl _ _⟩
  case round =>
    obtain ⟨i, hi, rfl, rfl, hbel⟩ := hrel
    by_cases hin : i < n
    · obtain ⟨g, off, l, rfl, hl, hlm, c0, c1⟩ := (HL.out.ext hbel).at_ i hin
      rw [marks_get k n i hin] at hl
      injection hl with hl
      have hl1 : l.1 = k + 2 * (i : Int) := by rw [← hl]; rfl
      have hl2 : l.2 = mkI (k + 2 * (i : Int) + 1) := by rw [← hl]; rfl
      rw [hl1] at c0
      rw [hl2] at c1
      have hii : (i : Int) < (n : Int) := by omega
      clear hl hl1 hl2
      go_wp2_with fail
      go_region_held3 (fun x => x.cell? ⟨g, off + i * 2 + 1, none⟩ = some (.string (mkI (k + 2 * (i : Int) + 1)))) (first | exact c1 | assumption | exact cell_later hb2 c1) (first | (go_at_call 83; refine (markText_int _ _ (by omega) (by omega)).mono ?_; rintro e w2 ⟨rfl, hb2⟩))
      go_wp2_with fail
      go_roundw
      case rel => exact ⟨i + 1, by omega, by go_num, by go_num, (by repeat (first | exact Below.refl _ _ | assumption | refine ext_alloc ?_ _ | refine Below.drew ?_ | refine below_drewN' ?_ _ | refine ext_set ?_ (by first | (simp; done) | (simp; omega) | omega) _ | refine ext_trans ?_ (by assumption)))⟩
      case measure => simp [intOf]; omega
    · obtain rfl : i = n := by omega
      go_wp2_with fail
      go_ret
      exact ⟨rfl, hbel⟩

end Go.Proofs.Ytafngfmloiikoaa
