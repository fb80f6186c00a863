/-
  WALKS: FormatBatch of the program; the law FnExactFormatBatch. By an AI agent.
-/
import Derived.Test.YtkbbnobchmlmdaaDoorFB2
import Derived.Deep.RegionLaw
namespace Go.Proofs.YtkbbnobchmlmdaaDoor
open Go.RowKit

/-- The table that the library's Itoa reads, wherever a call of this law has come. -/
def Pow (w : World) : Prop := ∀ w', Below w.heap.size w w' → Lib.TabIs Tryd.prog w' "internal/strconv.uint64pow10" .u64 Lib.pow10Tab
theorem pow_ext {w w' : World} (h : Pow w) (hb : Below w.heap.size w w') : Pow w' := fun u hu => h u (ext_trans hb hu)
theorem below_grow (w : World) (n : Nat) (os : Array Obj) : Below w.heap.size w (Sort.grow (w.drewN n) os) :=
  ⟨rfl, rfl, rfl, by simp, fun k hk => Sort.heap_grow_old (w.drewN n) os hk⟩
theorem Itoa_nat (m : Nat) (w : World) (hm : m < 10000) (htab : Lib.TabIs Tryd.prog w "internal/strconv.uint64pow10" .u64 Lib.pow10Tab) :
    Calls Tryd.prog 15 #[.int .i64 m] w fun e w' => e = .returned (.string (bs (Lib.decDigits m))) ∧ Below w.heap.size w w' :=
  (Itoa_any m (by omega) (by omega) w htab).mono fun e w' ⟨he, k, os, hw⟩ => by
    subst hw
    refine ⟨?_, below_grow w k os⟩
    rw [he]
    have : Lib.itoa (m : Int) = Lib.decDigits m := by unfold Lib.itoa; rw [if_neg (by omega), Int.toNat_natCast]
    rw [this]; rfl
theorem info_str : (Tryd.prog.info? 9).map (fun i => (i.zero, i.size, i.bytes)) = some (some (.string ⟨#[]⟩), 1, 16) := by kernel_rfl
theorem make_strs (n : Nat) (hn : n ≤ 1048576) (w : World) : ∃ cs : Array Value, cs.size = n ∧
    (Instr.makeSlice 37 (.int .i64 (n : Int)) (.int .i64 (n : Int))).run Tryd.prog w = .ok (.slice (some ⟨w.heap.size, 0, none⟩) n n) (w.alloc (.cells cs 9)) := by
  obtain ⟨i0, hi, hz0, hz1, hz2⟩ := info_parts info_str
  refine ⟨_, ?_, run_make_rowN' 37 9 i0 _ Tryd.underlying37 hi hz0 .i64 .i64 n n (Nat.le_refl _) (by rw [hz2]; omega) (by omega) w⟩
  rw [hz1]; simpa using size_madeCells _ _
theorem fill_one (arr : Array Value) (k n : Nat) (x : Value) (xs : List Value) (hsz : arr.size = n) (hk : k < n) (ht : arr.toList.take k = xs) : (arr.setIfInBounds k x).toList.take (k + 1) = xs ++ [x] := by
  rw [← ht, Array.toList_setIfInBounds]
  have hl : k < arr.toList.length := by rw [Array.length_toList]; omega
  rw [List.take_succ_eq_append_getElem (by simpa using hl)]
  rw [List.getElem_set_self, List.take_set_of_le (Nat.le_refl _)]

theorem Join_any (g n c : Nat) (ls : List Ltr) (w : World) (hn : ls.length = n) (hnc : n ≤ c) (hg : g < w.heap.size) (hc : ∀ (j : Nat) (l : Ltr), ls[j]? = some l → w.cell? ⟨g, j, none⟩ = some (.string (bs (fmt1 l)))) (hl : (fmtL ls).length ≤ 1000) (h60 : n ≤ 60) :
    Calls Tryd.prog 16 #[.slice (some ⟨g, 0, none⟩) n c, .string ⟨#[32]⟩] w fun e w' => e = .returned (.string (bs (fmtL ls))) ∧ Below w.heap.size w w' := by
  have e : (ls.map fun l => bs (fmt1 l)).map (fun x : ByteArray => x.data.toList) = ls.map fmt1 := by
    rw [List.map_map]; apply List.map_congr_left; intro l _; exact bs_list _
  have HJ := Any.strings_Join Tryd.laysJoin extraB g 0 c (ls.map fun l => bs (fmt1 l)) ⟨#[32]⟩ w (fun j x hx => by
      rw [List.getElem?_map] at hx
      obtain ⟨l, hl, rfl⟩ := Option.map_eq_some_iff.1 hx
      rw [Nat.zero_add]; exact hc j l hl) hg (by rw [List.length_map]; omega) (by rw [List.length_map]; omega) (by rw [e]; exact Nat.le_trans hl (by omega))
  rw [List.length_map, hn, e] at HJ
  exact HJ

set_option maxRecDepth 100000 in
set_option maxHeartbeats 4000000 in
theorem impl_FormatBatch (A : Option Addr) (n cap : Nat) (ls : List Ltr) (w : World) (h : LS w A n cap ls) (hT : Pow w) :
    Calls Tryd.prog 7 #[.slice A n cap] w fun e w' => e = .returned (.string (bs (fbL ls))) ∧ Below w.heap.size w w' := by
  have HL := Lib.hid h
  have HN := Lib.hid h.1
  have HT := Lib.hid hT
  clear h hT
  cases hb : batchB ls with
  | false =>
    have HB := Lib.hid hb
    have HF := Lib.hid (show fbL ls = [] from by simp [fbL, hb])
    clear hb
    go_enter Tryd.func7, Tryd.ntmps7
    go_wp2_with (go_at_call 14; refine (impl_BatchValid _ _ _ _ _ HL.out).mono ?_; rintro e w1 ⟨rfl, hb1⟩; rw [HB.out])
    go_ret
    exact ⟨ret_val (by rw [HF.out]; rfl), (by repeat (first | exact Below.refl _ _ | assumption | refine ext_alloc ?_ _ | refine Below.drew ?_ | refine below_drewN' ?_ _ | refine ext_set ?_ (by first | (simp; done) | (simp; omega) | omega) _ | refine ext_trans ?_ (by assumption)))⟩
  | true =>
    have HB := Lib.hid hb
    have hn60 := batch_len hb
    rw [HN.out] at hn60
    by_cases hn0 : n = 0
    · have HF := Lib.hid (show fbL ls = [45] from by
        have : ls = [] := List.eq_nil_of_length_eq_zero (by rw [HN.out]; exact hn0)
        subst this; simp [fbL, hb])
      have hnd : ((n : Int) == 0) = true := by simp; omega
      clear hb hn0
      go_enter Tryd.func7, Tryd.ntmps7
      go_wp2_with (go_at_call 14; refine (impl_BatchValid _ _ _ _ _ HL.out).mono ?_; rintro e w1 ⟨rfl, hb1⟩; rw [HB.out])
      go_ret
      exact ⟨ret_val (by rw [HF.out]; rfl), (by repeat (first | exact Below.refl _ _ | assumption | refine ext_alloc ?_ _ | refine Below.drew ?_ | refine below_drewN' ?_ _ | refine ext_set ?_ (by first | (simp; done) | (simp; omega) | omega) _ | refine ext_trans ?_ (by assumption)))⟩
    · have HF := Lib.hid (show fbL ls = fmtL ls from by
        have : ls ≠ [] := fun e => hn0 (by rw [← HN.out, e]; rfl)
        simp [fbL, hb, this])
      have hnd : ((n : Int) == 0) = false := by simp; omega
      clear hb
      go_enter Tryd.func7, Tryd.ntmps7
      go_wp2_with fail
      refine (impl_BatchValid _ _ _ _ _ HL.out).mono ?_
      rintro e w1 ⟨rfl, hb1⟩
      rw [HB.out]
      replace HL := Lib.hid (HL.out.ext hb1)
      have HB1 := Lib.hid hb1
      obtain ⟨cs, hcs, hmk⟩ := make_strs n (by omega) w1
      have HCS := Lib.hid hcs
      clear hcs hb1
      go_wp2_with fail
      clear hmk
      go_loopw [17] (fun iv wr => ∃ (k : Nat) (arr : Array Value), k ≤ n ∧ iv = .int .i64 k ∧ Row wr w1.heap.size 9 arr ∧ arr.size = n ∧ arr.toList.take k = (ls.take k).map (fun l => Value.string (bs (fmt1 l))) ∧ Below w1.heap.size w1 wr) (fun iv _ => n - (intOf iv).toNat)
      case atStart => exact ⟨0, cs, by omega, rfl, Row.made _ _ _, HCS.out, by simp, below_box _ _⟩
      case round =>
        obtain ⟨k, arr, hk, rfl, hrow, hsz, hfill, hbel⟩ := hrel
        have HR := Lib.hid hrow
        have HZ := Lib.hid hsz
        have HFI := Lib.hid hfill
        have hlt := hrow.lt
        clear hrow hsz hfill
        by_cases hkn : k < n
        · obtain ⟨g, off, l, rfl, hl, hlm, c0, c1⟩ := (HL.out.ext hbel).at_ k hkn
          obtain ⟨hl1, hl2, hl7⟩ := batch_id HB.out hl
          obtain ⟨m, hm⟩ : ∃ m : Nat, l.1 = m := ⟨l.1.toNat, by omega⟩
          have hm9 : m < 10000 := by omega
          have hdl := dec_len hm9
          obtain ⟨dl, hdl2⟩ : ∃ dl, Lib.decDigits m = dl := ⟨_, rfl⟩
          have hds : (bs dl).size ≤ 4 := by rw [bs_size, ← hdl2]; exact hdl
          have HFM := Lib.hid (show bs (fmt1 l) = bs dl ++ (⟨#[58]⟩ : ByteArray) ++ l.2 from by unfold fmt1; rw [hm, Int.toNat_natCast, hdl2, text_first])
          rw [hm] at c0
          have HD := Lib.hid hdl2
          have HLK := Lib.hid hl
          have hls : l.2.size ≤ 7 := by omega
          have hn1 : ¬ 9223372036854775807 < (bs dl).size + 1 := by omega
          have hn2 : ¬ 9223372036854775807 < (bs dl).size + 1 + l.2.size := by omega
          have b0 : (wr.alloc (.cells #[.int .i64 m, .string l.2] 34)).cell? ⟨wr.heap.size, 0, none⟩ = some (.int .i64 m) := (Row.made wr _ #[.int .i64 m, .string l.2]).cell 0
          have b1 : (wr.alloc (.cells #[.int .i64 m, .string l.2] 34)).cell? ⟨wr.heap.size, 1, none⟩ = some (.string l.2) := (Row.made wr _ #[.int .i64 m, .string l.2]).cell 1
          have HBX := Lib.hid (show Below w1.heap.size w1 (wr.alloc (.cells #[.int .i64 m, .string l.2] 34)).drew from Below.drew (ext_alloc hbel _))
          have HRX := Lib.hid (show Row (wr.alloc (.cells #[.int .i64 m, .string l.2] 34)).drew w1.heap.size 9 arr from HR.out.ext (Below.drew (below_box _ _)))
          have HTX := Lib.hid (HT.out _ (show Below w.heap.size w (wr.alloc (.cells #[.int .i64 m, .string l.2] 34)).drew from ext_trans HB1.out HBX.out))
          have hki : (k : Int) < (n : Int) := by omega
          have hkar : k < arr.size := by have := HZ.out; omega
          have hbsz := hbel.size
          clear hl hm hdl2 hl7 hdl
          go_wp2_with fail
          go_region_law (first | (go_simp; go_at_call 15; refine (Itoa_nat m _ hm9 HTX.out).mono ?_; rintro e w5 ⟨rfl, hb5⟩; rw [HD.out]; have d1 := cell_later hb5 b1; have HR5 := Lib.hid (HRX.out.ext hb5); obtain ⟨v0, e0⟩ : ∃ v, w5.cell? ⟨w1.heap.size, k, none⟩ = some v := ⟨arr[k], by rw [HR5.out.cell]; exact Array.getElem?_eq_getElem _⟩; have f0 := HR5.out.frozen k))
          all_goals
            clear d1 e0 f0
            go_wp2_with fail
            go_roundw
            case rel =>
              refine ⟨k + 1, _, by omega, by go_num, HR5.out.put k _, by rw [Array.size_setIfInBounds]; exact HZ.out, ?_, (by repeat (first | exact Below.refl _ _ | assumption | refine ext_alloc ?_ _ | refine Below.drew ?_ | refine below_drewN' ?_ _ | refine ext_set ?_ (by first | (simp; done) | (simp; omega) | omega) _ | refine ext_trans ?_ (by assumption)))⟩
              rw [fill_one arr k n _ _ HZ.out hkn HFI.out, take_snoc' ls k l HLK.out, List.map_append, List.map_cons, HFM.out]; rfl
            case measure => simp [intOf]; omega
        · obtain rfl : k = n := by omega
          have hkd : decide ((k : Int) < (k : Int)) = false := by simp
          have hg := HR.out.lt
          have HJ := Lib.hid (Join_any w1.heap.size k k ls wr HN.out (Nat.le_refl _) hg (fun j l hl => by
              have hj : j < k := by have := (List.getElem?_eq_some_iff.1 hl).1; rw [HN.out] at this; exact this
              rw [HR.out.cell j]
              have h1 := HFI.out
              have h2 : (arr.toList.take k)[j]? = some (Value.string (bs (fmt1 l))) := by
                rw [h1, List.getElem?_map, List.getElem?_take, if_pos hj, hl]; rfl
              rw [List.getElem?_take, if_pos hj] at h2
              simpa using h2) (by
              have := fmtL_len (batch_fmt HB.out)
              rw [HN.out] at this; omega) hn60)
          go_wp2_with fail
          refine HJ.out.mono ?_
          rintro e w6 ⟨rfl, hb6⟩
          rw [← HF.out]
          go_wp2_with fail
          go_ret
          exact ⟨rfl, ext_trans HB1.out (ext_trans hbel hb6)⟩

set_option maxHeartbeats 2000000 in
theorem law_FnExactFormatBatch (A : Option Addr) (n cap : Nat) (ls : List Ltr) (w : World) (h : LS w A n cap ls) (hT : Pow w) :
    Calls Tryd.prog 3 #[.slice A n cap] w fun e w' => e = .returned (.bool true) ∧ Below w.heap.size w w' := by
  have HL := Lib.hid h
  have HLEN := Lib.hid h.1
  have HT := Lib.hid hT
  clear h hT
  obtain ⟨z, hz⟩ : ∃ z, szL ls 1048576 = z := ⟨_, rfl⟩
  have HZ := Lib.hid hz
  clear hz
  by_cases hneg : z < 0
  · go_enter Tryd.func3, Tryd.ntmps3
    go_wp2_with (go_at_call 4; refine (szLetterS_any _ _ _ _ _ _ HL.out (by omega) (by omega)).mono ?_; rintro e w1 ⟨rfl, hb1⟩; rw [HZ.out])
    go_ret
    exact ⟨rfl, (by repeat (first | exact Below.refl _ _ | assumption | refine ext_alloc ?_ _ | refine Below.drew ?_ | refine below_drewN' ?_ _ | refine ext_set ?_ (by first | (simp; done) | (simp; omega) | omega) _ | refine ext_trans ?_ (by assumption)))⟩
  · have hn : n ≤ 1048576 := by have := szL_len ls 1048576 (by rw [HZ.out]; omega); rw [HLEN.out] at this; omega
    go_enter Tryd.func3, Tryd.ntmps3
    go_wp2_with fail
    refine (szLetterS_any _ _ _ _ _ _ HL.out (by omega) (by omega)).mono ?_
    rintro e w1 ⟨rfl, hb1⟩
    rw [HZ.out]
    go_wp2_with fail
    refine (toLetterS_any _ _ _ _ _ (HL.out.ext hb1) hn).mono ?_
    rintro e w2 ⟨⟨_, rfl, ho2⟩, hb2⟩
    obtain ⟨A2, c2, rfl, hl2⟩ := ho2.read
    go_wp2_with fail
    refine (spec_FormatBatch _ _ _ _ _ hl2).mono ?_
    rintro e w3 ⟨rfl, hb3⟩
    go_wp2_with fail
    refine (toLetterS_any _ _ _ _ _ (((HL.out.ext hb1).ext hb2).ext hb3) hn).mono ?_
    rintro e w4 ⟨⟨_, rfl, ho4⟩, hb4⟩
    obtain ⟨A4, c4, rfl, hl4⟩ := ho4.read
    go_wp2_with fail
    refine (impl_FormatBatch _ _ _ _ _ hl4 (pow_ext HT.out (by repeat (first | exact Below.refl _ _ | assumption | refine ext_alloc ?_ _ | refine Below.drew ?_ | refine below_drewN' ?_ _ | refine ext_set ?_ (by first | (simp; done) | (simp; omega) | omega) _ | refine ext_trans ?_ (by assumption))))).mono ?_
    rintro e w5 ⟨rfl, hb5⟩
    go_wp2_with fail
    refine (toLetterS_any _ _ _ _ _ (((((HL.out.ext hb1).ext hb2).ext hb3).ext hb4).ext hb5) hn).mono ?_
    rintro e w6 ⟨⟨_, rfl, ho6⟩, hb6⟩
    obtain ⟨A6, c6, rfl, hl6⟩ := ho6.read
    go_wp2_with fail
    refine (eqLetterS_same _ _ _ _ _ _ _ _ ((hl4.ext hb5).ext hb6) hl6).mono ?_
    rintro e w7 ⟨rfl, hb7⟩
    go_wp2_with fail
    go_ret
    exact ⟨rfl, (by repeat (first | exact Below.refl _ _ | assumption | refine ext_alloc ?_ _ | refine Below.drew ?_ | refine below_drewN' ?_ _ | refine ext_set ?_ (by first | (simp; done) | (simp; omega) | omega) _ | refine ext_trans ?_ (by assumption)))⟩

end Go.Proofs.YtkbbnobchmlmdaaDoor
