/-
  WALKS: FormatBatch of the reference. By an AI agent.
-/
import Derived.Test.YtkbbnobchmlmdaaDoorFB
namespace Go.Proofs.YtkbbnobchmlmdaaDoor
open Go.RowKit

theorem keepP {u v x : World} {a0 a1 : Addr} {v0 v1 : Value} (hb : Below u.heap.size u v) (h : u.cell? a0 = some v0 ∧ u.cell? a1 = some v1 ∧ Hid (Below x.heap.size x u)) : v.cell? a0 = some v0 ∧ v.cell? a1 = some v1 ∧ Hid (Below x.heap.size x v) :=
  ⟨cell_later hb h.1, cell_later hb h.2.1, Lib.hid (ext_trans h.2.2.out hb)⟩
theorem blP {u x : World} {a0 a1 : Addr} {v0 v1 : Value} (h : u.cell? a0 = some v0 ∧ u.cell? a1 = some v1 ∧ Hid (Below x.heap.size x u)) : Below x.heap.size x u := h.2.2.out
theorem fmtL_ne {ls : List Ltr} (h : ls ≠ []) : fmtL ls ≠ [] := by
  cases ls with
  | nil => exact absurd rfl h
  | cons l ls =>
    unfold fmtL
    rw [List.map_cons, Lib.join_cons]
    intro e
    have := congrArg List.length e
    simp [fmt1] at this
theorem batch_fmt {ls : List Ltr} (h : batchB ls = true) : ∀ l ∈ ls, l.1 ≤ 9999 ∧ l.2.size = 7 := fun l hl => by
  obtain ⟨k, hk⟩ := List.mem_iff_getElem?.1 hl
  exact ⟨(batch_id h hk).2.1, (batch_id h hk).2.2⟩
theorem text_first (d : List UInt8) (s : ByteArray) : bs d ++ (⟨#[58]⟩ : ByteArray) ++ s = bs (d ++ [58] ++ s.data.toList) := by
  rw [show (⟨#[58]⟩ : ByteArray) = bs [58] from rfl, bs_append]
  conv => lhs; rw [← bs_of s]
  rw [bs_append]
theorem text_next (o d : List UInt8) (s : ByteArray) : bs o ++ (⟨#[32]⟩ : ByteArray) ++ bs d ++ (⟨#[58]⟩ : ByteArray) ++ s = bs (o ++ [32] ++ (d ++ [58] ++ s.data.toList)) := by
  rw [show (⟨#[58]⟩ : ByteArray) = bs [58] from rfl, show (⟨#[32]⟩ : ByteArray) = bs [32] from rfl, bs_append, bs_append, bs_append]
  conv => lhs; rw [← bs_of s]
  rw [bs_append]; simp

set_option maxHeartbeats 4000000 in
theorem spec_FormatBatch (A : Option Addr) (n cap : Nat) (ls : List Ltr) (w : World) (h : LS w A n cap ls) :
    Calls Tryd.prog 5 #[.slice A n cap] w fun e w' => e = .returned (.string (bs (fbL ls))) ∧ Below w.heap.size w w' := by
  have HL := Lib.hid h
  have HN := Lib.hid h.1
  clear h
  cases hb : batchB ls with
  | false =>
    have HB := Lib.hid hb
    have HF := Lib.hid (show fbL ls = [] from by simp [fbL, hb])
    clear hb
    go_enter Tryd.func5, Tryd.ntmps5
    go_wp2_with (go_at_call 10; refine (spec_BatchValid _ _ _ _ _ HL.out).mono ?_; rintro e w1 ⟨rfl, hb1⟩; rw [HB.out])
    go_ret
    exact ⟨ret_val (by rw [HF.out]; rfl), (by repeat (first | exact Below.refl _ _ | assumption | refine ext_alloc ?_ _ | refine Below.drew ?_ | refine below_drewN' ?_ _ | refine ext_set ?_ (by first | (simp; done) | (simp; omega) | omega) _ | refine ext_trans ?_ (by assumption)))⟩
  | true =>
    have HB := Lib.hid hb
    have hn60 := batch_len hb
    rw [HN.out] at hn60
    have HF := Lib.hid (show fbL ls = if fmtL ls = [] then [45] else fmtL ls from by
      by_cases e : ls = []
      · subst e; simp [fbL, hb, fmtL, Lib.join_nil]
      · simp [fbL, hb, e, fmtL_ne e])
    clear hb
    go_enter Tryd.func5, Tryd.ntmps5
    go_wp2_with fail
    refine (spec_BatchValid _ _ _ _ _ HL.out).mono ?_
    rintro e w1 ⟨rfl, hb1⟩
    rw [HB.out]
    replace HL := Lib.hid (HL.out.ext hb1)
    go_wp2_with fail
    go_loopw [3, 4] (fun ov iv wr => ∃ (i : Nat) (o : List UInt8), i ≤ n ∧ iv = .int .i64 i ∧ ov = .string (bs o) ∧ fmtL (ls.take i) = o ∧ Below w1.heap.size w1 wr) (fun _ iv _ => n - (intOf iv).toNat)
    case atStart => exact ⟨0, [], by omega, rfl, rfl, rfl, Below.refl _ _⟩
    case round =>
      obtain ⟨i, o, hi, rfl, rfl, ho, hbel⟩ := hrel
      have HO := Lib.hid ho
      have hol : (bs o).size ≤ 780 := by
        rw [bs_size, ← ho]
        have h1 := fmtL_len (ls := ls.take i) (fun l hl => batch_fmt HB.out l (List.mem_of_mem_take hl))
        have h2 := List.length_take_le i ls
        omega
      clear ho
      by_cases hin : i < n
      · obtain ⟨g, off, l, rfl, hl, hlm, c0, c1⟩ := (HL.out.ext hbel).at_ i hin
        obtain ⟨hl1, hl2, hl7⟩ := batch_id HB.out hl
        obtain ⟨m, hm⟩ : ∃ m : Nat, l.1 = m := ⟨l.1.toNat, by omega⟩
        have hm9 : m < 10000 := by omega
        have hdl := dec_len hm9
        obtain ⟨dl, hdl2⟩ : ∃ dl, Lib.decDigits m = dl := ⟨_, rfl⟩
        have hds : (bs dl).size ≤ 4 := by rw [bs_size, ← hdl2]; exact hdl
        have hfm : fmt1 l = dl ++ [58] ++ l.2.data.toList := by unfold fmt1; rw [hm, Int.toNat_natCast, hdl2]
        rw [hm] at c0
        have HD := Lib.hid hdl2
        have hls : l.2.size ≤ 7 := by omega
        have hidd : decide ((i : Int) < (n : Int)) = true := by simp; omega
        have hii : (i : Int) < (n : Int) := by omega
        have HBI := Lib.hid (show Below w1.heap.size w1 wr.drew from Below.drew hbel)
        by_cases hi0 : i = 0
        · have HS := Lib.hid (show fmtL (ls.take (i + 1)) = dl ++ [58] ++ l.2.data.toList from by
            rw [take_snoc' ls i l hl, hi0, List.take_zero, List.nil_append, fmtL_one, hfm])
          have HOE := Lib.hid (show o = [] from by rw [← HO.out, hi0]; rfl)
          have hi0n : decide (0 < i) = false := by simp; omega
          have hi0d : decide ((0 : Int) < (i : Int)) = false := by simp; omega
          have hn1 : ¬ 9223372036854775807 < (bs o).size + (bs dl).size := by omega
          have hn2 : ¬ 9223372036854775807 < (bs o).size + (bs dl).size + 1 := by omega
          have hn3 : ¬ 9223372036854775807 < (bs o).size + (bs dl).size + 1 + l.2.size := by omega
          clear hl hi0 hfm hm hdl2 hl7 hdl
          go_wp2_with fail
          go_region_held3 (fun u => u.cell? ⟨g, off + i * 2, none⟩ = some (.int .i64 m) ∧ u.cell? ⟨g, off + i * 2 + 1, none⟩ = some (.string l.2) ∧ Hid (Below w1.heap.size w1 u)) (first | exact ⟨c0, c1, HBI⟩ | assumption | exact keepP hb5 (by assumption)) (first | (go_at_call 11; refine (l9Dec_any m _ hm9).mono ?_; rintro e w5 ⟨rfl, hb5⟩; rw [HD.out]))
          go_wp2_with fail
          go_roundw
          case rel => exact ⟨i + 1, _, by omega, by go_num, congrArg Value.string (by rw [HOE.out, bs_append]; exact text_first _ _), HS.out, blP (by assumption)⟩
          case measure => simp [intOf]; omega
        · have HS := Lib.hid (show fmtL (ls.take (i + 1)) = o ++ [32] ++ (dl ++ [58] ++ l.2.data.toList) from by
            rw [take_snoc' ls i l hl, fmtL_snoc _ _ (fun e => by have := congrArg List.length e; rw [List.length_take, HN.out, List.length_nil] at this; omega), HO.out, hfm])
          have hi0n : decide (0 < i) = true := by simp; omega
          have hi0d : decide ((0 : Int) < (i : Int)) = true := by simp; omega
          have hn0 : ¬ 9223372036854775807 < (bs o).size + 1 := by omega
          have hn1 : ¬ 9223372036854775807 < (bs o).size + 1 + (bs dl).size := by omega
          have hn2 : ¬ 9223372036854775807 < (bs o).size + 1 + (bs dl).size + 1 := by omega
          have hn3 : ¬ 9223372036854775807 < (bs o).size + 1 + (bs dl).size + 1 + l.2.size := by omega
          clear hl hi0 hfm hm hdl2 hl7 hdl
          go_wp2_with fail
          go_region_held3 (fun u => u.cell? ⟨g, off + i * 2, none⟩ = some (.int .i64 m) ∧ u.cell? ⟨g, off + i * 2 + 1, none⟩ = some (.string l.2) ∧ Hid (Below w1.heap.size w1 u)) (first | exact ⟨c0, c1, HBI⟩ | assumption | exact keepP hb5 (by assumption)) (first | (go_at_call 11; refine (l9Dec_any m _ hm9).mono ?_; rintro e w5 ⟨rfl, hb5⟩; rw [HD.out]))
          go_wp2_with fail
          go_roundw
          case rel => exact ⟨i + 1, _, by omega, by go_num, congrArg Value.string (text_next _ _ _), HS.out, blP (by assumption)⟩
          case measure => simp [intOf]; omega
      · obtain rfl : i = n := by omega
        have hidd : decide ((i : Int) < (i : Int)) = false := by simp
        have HE := Lib.hid (show o = fmtL ls from by rw [← HO.out, List.take_of_length_le (by rw [HN.out]; exact Nat.le_refl _)])
        go_wp2_with fail
        refine (l2Dash_any o _).mono ?_
        rintro e w6 ⟨rfl, rfl⟩
        have hfin : (if o = [] then [45] else o) = fbL ls := by rw [HF.out, HE.out]
        rw [hfin]
        clear hfin
        go_wp2_with fail
        go_ret
        exact ⟨rfl, (by repeat (first | exact Below.refl _ _ | assumption | refine ext_alloc ?_ _ | refine Below.drew ?_ | refine below_drewN' ?_ _ | refine ext_set ?_ (by first | (simp; done) | (simp; omega) | omega) _ | refine ext_trans ?_ (by assumption)))⟩

end Go.Proofs.YtkbbnobchmlmdaaDoor
