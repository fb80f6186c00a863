/-
  PLAIN FACTS on the text of a batch, and the reference's walks (l9Dec, l2Dash, FormatBatch). By an AI agent.
-/
import Derived.Test.YtkbbnobchmlmdaaDoorLet2
import Derived.Test.YtkbbnobchmlmdaaDoorByte
import Derived.Test.YtkbbnobchmlmdaaDoorLay
import Derived.Lib.Join
import Derived.Lib.Strings
namespace Go.Proofs.YtkbbnobchmlmdaaDoor
open Go.RowKit

theorem drop_at {α : Type} (ls : List α) (k : Nat) (l : α) (h : ls[k]? = some l) : ls.drop k = l :: ls.drop (k + 1) := by
  obtain ⟨hh, he⟩ := List.getElem?_eq_some_iff.1 h
  rw [List.drop_eq_getElem_cons hh, he]
theorem batch_len {ls : List Ltr} (h : batchB ls = true) : ls.length ≤ 60 := ((batchB_true ls).1 h).1
theorem batch_id {ls : List Ltr} (h : batchB ls = true) {l : Ltr} {k : Nat} (hl : ls[k]? = some l) : 1 ≤ l.1 ∧ l.1 ≤ 9999 ∧ l.2.size = 7 := by
  have := ((batchB_true ls).1 h).2.1 l (List.mem_of_getElem? hl)
  simp [okL, codeB] at this
  exact ⟨this.1.1, this.1.2, this.2.1⟩
theorem join_snoc (sep x : List UInt8) : ∀ xs : List (List UInt8), xs ≠ [] → Lib.join (xs ++ [x]) sep = Lib.join xs sep ++ sep ++ x
  | [], h => absurd rfl h
  | y :: ys, _ => by rw [List.cons_append, Lib.join_cons, Lib.join_cons]; simp [Lib.joinTail]
/-- A letter's text. -/
def fmt1 (l : Ltr) : List UInt8 := Lib.decDigits l.1.toNat ++ [58] ++ l.2.data.toList
def fmtL (ls : List Ltr) : List UInt8 := Lib.join (ls.map fmt1) [32]
theorem fmtL_snoc (ls : List Ltr) (l : Ltr) (h : ls ≠ []) : fmtL (ls ++ [l]) = fmtL ls ++ [32] ++ fmt1 l := by
  unfold fmtL; rw [List.map_append]; exact join_snoc _ _ _ (by simpa using h)
theorem fmtL_one (l : Ltr) : fmtL [l] = fmt1 l := Lib.join_one _ _
theorem dec_ten {k : Nat} (h : 10 ≤ k) : Lib.decDigits k = Lib.decDigits (k / 10) ++ [UInt8.ofNat (48 + k % 10)] := by
  rw [Lib.decDigits, dif_neg (by omega)]
theorem dec_one {k : Nat} (h : k < 10) : Lib.decDigits k = [UInt8.ofNat (48 + k)] := by
  rw [Lib.decDigits, dif_pos h]
theorem dec_len {k : Nat} (h : k < 10000) : (Lib.decDigits k).length ≤ 4 := by
  by_cases h1 : k < 10
  · rw [dec_one h1]; simp
  · rw [dec_ten (by omega)]
    by_cases h2 : k / 10 < 10
    · rw [dec_one h2]; simp
    · rw [dec_ten (by omega)]
      by_cases h3 : k / 10 / 10 < 10
      · rw [dec_one h3]; simp
      · rw [dec_ten (by omega), dec_one (show k / 10 / 10 / 10 < 10 by omega)]; simp
theorem fmt1_len {l : Ltr} (h : l.1 ≤ 9999) (h7 : l.2.size = 7) : (fmt1 l).length ≤ 12 := by
  have := dec_len (k := l.1.toNat) (by omega)
  have h8 : l.2.data.toList.length = 7 := by rw [Array.length_toList]; exact h7
  simp only [fmt1, List.length_append, h8, List.length_singleton]; omega
theorem fmtL_len : ∀ {ls : List Ltr}, (∀ l ∈ ls, l.1 ≤ 9999 ∧ l.2.size = 7) → (fmtL ls).length ≤ 13 * ls.length
  | [], _ => by simp [fmtL, Lib.join_nil]
  | l :: ls, h => by
    have h1 := fmt1_len (h l (by simp)).1 (h l (by simp)).2
    have key : ∀ ms : List Ltr, (∀ m ∈ ms, m.1 ≤ 9999 ∧ m.2.size = 7) → (Lib.joinTail [32] (ms.map fmt1)).length ≤ 13 * ms.length := by
      intro ms
      induction ms with
      | nil => intro _; simp [Lib.joinTail]
      | cons m ms ih =>
        intro hm
        have a := fmt1_len (hm m (by simp)).1 (hm m (by simp)).2
        have b := ih (fun x hx => hm x (List.mem_cons_of_mem _ hx))
        have e : Lib.joinTail [32] ((m :: ms).map fmt1) = ([32] ++ fmt1 m) ++ Lib.joinTail [32] (ms.map fmt1) := by simp [Lib.joinTail]
        rw [e]
        simp only [List.length_append, List.length_cons, List.length_nil]
        omega
    have e : fmtL (l :: ls) = fmt1 l ++ Lib.joinTail [32] (ls.map fmt1) := by unfold fmtL; rw [List.map_cons, Lib.join_cons]
    have := key ls (fun x hx => h x (List.mem_cons_of_mem _ hx))
    rw [e, List.length_append, List.length_cons]; omega
/-- What FormatBatch answers. -/
def fbL (ls : List Ltr) : List UInt8 := if batchB ls = true then (if ls = [] then [45] else fmtL ls) else []
theorem dgB_ofNat (k : Nat) : dgB (k : Int) = UInt8.ofNat (48 + k) := by
  unfold dgB; congr 1
theorem dgB_mod (k : Nat) : dgB ((k : Int) % 10) = UInt8.ofNat (48 + k % 10) := by
  rw [show (k : Int) % 10 = ((k % 10 : Nat) : Int) by omega]; exact dgB_ofNat _
theorem bs_nil : (bs []) = ⟨#[]⟩ := rfl

set_option maxHeartbeats 2000000 in
theorem l9Dec_any (m : Nat) (w : World) (h9 : m < 10000) :
    Calls Tryd.prog 11 #[.int .i64 m] w fun e w' => e = .returned (.string (bs (Lib.decDigits m))) ∧ Below w.heap.size w w' := by
  have hm0 : decide ((m : Int) < -9223372036854775807) = false := by first | (simp; done) | (simp; omega)
  have hm1 : decide ((m : Int) < 0) = false := by simp
  have hlm := dec_len h9
  go_enter Tryd.func11, Tryd.ntmps11
  go_wp2_with fail
  go_loopw [0, 3] (fun kv ov wr => ∃ (k : Nat) (o : List UInt8), kv = .int .i64 k ∧ ov = .string (bs o) ∧ k ≤ m ∧ Lib.decDigits k ++ o = Lib.decDigits m ∧ Below w.heap.size w wr) (fun kv _ _ => (intOf kv).toNat)
  case atStart => exact ⟨m, [], rfl, rfl, Nat.le_refl _, by simp, Below.refl _ _⟩
  case round =>
    obtain ⟨k, o, rfl, rfl, hkm, hdec, hbel⟩ := hrel
    have HD := Lib.hid hdec
    have hol : o.length ≤ 4 := by have := congrArg List.length hdec; rw [List.length_append] at this; omega
    have hos : (bs o).size ≤ 4 := by rw [bs_size]; exact hol
    clear hdec
    by_cases h10 : 9 < k
    · have hkd : decide ((9 : Int) < (k : Int)) = true := by simp; omega
      have hcv := one_byte ((k : Int) % 10) (by omega) (by omega) wr
      have HS := Lib.hid (show Lib.decDigits (k / 10) ++ (dgB ((k : Int) % 10) :: o) = Lib.decDigits m from by
        have e := dec_ten (k := k) (by omega)
        rw [← HD.out, e, dgB_mod]; simp)
      have hno : ¬ 9223372036854775807 < (bs [dgB ((k : Int) % 10)]).size + (bs o).size := by
        have : (bs [dgB ((k : Int) % 10)]).size = 1 := bs_size _
        omega
      go_wp2_with fail
      go_roundw
      case rel => exact ⟨k / 10, _, by go_num, congrArg Value.string (bs_append _ _), by omega, HS.out, (by repeat (first | exact Below.refl _ _ | assumption | refine ext_alloc ?_ _ | refine Below.drew ?_ | refine below_drewN' ?_ _ | refine ext_set ?_ (by first | (simp; done) | (simp; omega) | omega) _ | refine ext_trans ?_ (by assumption)))⟩
      case measure => simp [intOf]; omega
    · have hkd : decide ((9 : Int) < (k : Int)) = false := by simp; omega
      have hcv := one_byte (k : Int) (by omega) (by omega) wr
      have HS := Lib.hid (show dgB (k : Int) :: o = Lib.decDigits m from by
        rw [← HD.out, dec_one (by omega), dgB_ofNat]; simp)
      have hno : ¬ 9223372036854775807 < (bs [dgB (k : Int)]).size + (bs o).size := by
        have : (bs [dgB (k : Int)]).size = 1 := bs_size _
        omega
      go_wp2_with fail
      go_ret
      exact ⟨ret_val (congrArg Value.string (by rw [bs_append, ← HS.out]; rfl)), (by repeat (first | exact Below.refl _ _ | assumption | refine ext_alloc ?_ _ | refine Below.drew ?_ | refine below_drewN' ?_ _ | refine ext_set ?_ (by first | (simp; done) | (simp; omega) | omega) _ | refine ext_trans ?_ (by assumption)))⟩

set_option maxHeartbeats 1000000 in
theorem l2Dash_any (l : List UInt8) (w : World) :
    Calls Tryd.prog 12 #[.string (bs l)] w fun e w' => e = .returned (.string (bs (if l = [] then [45] else l))) ∧ w = w' := by
  by_cases h : l = []
  · subst h
    have hd2 : (bs ([] : List UInt8)).toList.isEmpty = true := by rw [Lib.toList_data]; rfl
    have hd3 : (bs ([] : List UInt8)).toList = [] := by rw [Lib.toList_data]; rfl
    go_enter Tryd.func12, Tryd.ntmps12
    go_wp2
    go_ret
    exact ⟨rfl, rfl⟩
  · have H := Lib.hid (show (if l = [] then [45] else l) = l from if_neg h)
    have hd : ((bs l).toList == []) = false := by
      rw [Lib.toList_data, bs_list]; simpa using h
    have hd2 : (bs l).toList.isEmpty = false := by rw [Lib.toList_data, bs_list]; simpa using h
    have hd3 : ¬ (bs l).toList = [] := by rw [Lib.toList_data, bs_list]; exact h
    go_enter Tryd.func12, Tryd.ntmps12
    go_wp2
    go_ret
    exact ⟨by first | rfl | exact ret_val (by rw [H.out]), rfl⟩

end Go.Proofs.YtkbbnobchmlmdaaDoor
