/-
  WALKS: the reference's drawn codes and strings (l1Some, l1Bad, l9Many and the Draw functions of strings). Only totality, sizes and what memory is touched. By an AI agent.
-/
import Derived.Test.YtafngfmloiikoaaDraw
import Derived.Test.YtafngfmloiikoaaPad
import Derived.Test.YtafngfmloiikoaaSums
import Derived.Deep.RegionHeld3
namespace Go.Proofs.Ytafngfmloiikoaa
open Go.RowKit

/-- A string of n digits. -/
def DigS (n : Nat) (v : Value) : Prop := ∃ l : List UInt8, v = .string (bs l) ∧ l.length = n ∧ allDig l = true
theorem allDig_append (l m : List UInt8) : allDig (l ++ m) = (allDig l && allDig m) := by simp [allDig]
theorem digS_code (a b c : Int) : DigS 7 (.string (bs (padL 3 a) ++ bs (padL 2 b) ++ bs (padL 2 c))) :=
  ⟨padL 3 a ++ padL 2 b ++ padL 2 c, by rw [bs_append, bs_append], by simp [padL_length], by simp [allDig_append, padL_digits]⟩

theorem sh3 (n : Int) (w : World) (h0 : 0 ≤ n) (h9 : n ≤ 1000000000) :
    Calls Try.prog 96 #[.int .i64 n, .int .i64 3] w fun e w' => e = .returned (.string (bs (padL 3 n))) ∧ Below w.heap.size w w' := spec_l1Show n 3 w h0 h9 (by omega)
theorem sh2 (n : Int) (w : World) (h0 : 0 ≤ n) (h9 : n ≤ 1000000000) :
    Calls Try.prog 96 #[.int .i64 n, .int .i64 2] w fun e w' => e = .returned (.string (bs (padL 2 n))) ∧ Below w.heap.size w w' := spec_l1Show n 2 w h0 h9 (by omega)
theorem sh7 (n : Int) (w : World) (h0 : 0 ≤ n) (h9 : n ≤ 1000000000) :
    Calls Try.prog 96 #[.int .i64 n, .int .i64 7] w fun e w' => e = .returned (.string (bs (padL 7 n))) ∧ Below w.heap.size w w' := spec_l1Show n 7 w h0 h9 (by omega)

set_option maxHeartbeats 2000000 in
theorem l1Some_any (r P : Nat) (w : World) (h : Rd w r P) (hP : P ≤ 900000) :
    Calls Try.prog 87 #[.pointer (some ⟨r, 0, none⟩)] w (Got (DigS 7) r (P + 8) w) := by
  have hlt := h.lt
  have HR := Lib.hid h
  clear h
  go_enter Try.func87, Try.ntmps87
  go_wp2_with fail
  refine (num_any r P w.heap.size [120, 121, 7, 999] _ (HR.out.alloc _) (by omega) (by decide) (Row.made w _ _) (by omega) _).mono ?_
  rintro e w1 ⟨_, rfl, ⟨x, hx, rfl⟩, hr1, hg1⟩
  have hx0 : 0 ≤ x ∧ x ≤ 999 := by simp at hx; omega
  obtain ⟨hx0, hx9⟩ := hx0
  have HR1 := Lib.hid hr1
  have HG1 := Lib.hid (grown_trans' (World.grownBy_alloc w _ (some r)) hg1)
  have hlt1 := hr1.lt
  clear hx hr1 hg1
  go_wp2_with fail
  refine (num_any r (P + 1) w1.heap.size [1, 2, 10, 99] _ (HR1.out.alloc _) (by omega) (by decide) (Row.made w1 _ _) (by omega) _).mono ?_
  rintro e w2 ⟨_, rfl, ⟨y, hy, rfl⟩, hr2, hg2⟩
  have hy0 : 0 ≤ y ∧ y ≤ 99 := by simp at hy; omega
  obtain ⟨hy0, hy9⟩ := hy0
  have HR2 := Lib.hid hr2
  have HG2 := Lib.hid (grown_trans' (grown_alloc HG1.out _) hg2)
  clear hy hr2 hg2 HR1 HG1 HR
  go_wp2_with fail
  refine (sh3 x _ hx0 (by omega)).mono ?_
  rintro e w3 ⟨rfl, hb3⟩
  have HR3 := Lib.hid (HR2.out.ext hb3)
  have HG3 := Lib.hid (grown_ext HG2.out hb3)
  clear HR2 HG2 hb3
  go_wp2_with fail
  refine (sh2 y _ hy0 (by omega)).mono ?_
  rintro e w4 ⟨rfl, hb4⟩
  have HR4 := Lib.hid (HR3.out.ext hb4)
  have HG4 := Lib.hid (grown_ext HG3.out hb4)
  clear HR3 HG3 hb4
  have hno1 : ¬ 9223372036854775807 < (bs (padL 3 x)).size + (bs (padL 2 y)).size := by simp only [bs_size, padL_length]; omega
  go_wp2_with fail
  refine (pick_lit r (P + 2) 14 _ HR4.out (by omega) (by omega)).mono ?_
  rintro e w5 ⟨_, rfl, ⟨m, rfl, hm⟩, hr5, hg5⟩
  have HR5 := Lib.hid hr5
  have HG5 := Lib.hid (grown_trans' HG4.out hg5)
  clear HR4 HG4 hr5 hg5
  go_wp2_with fail
  refine (sh2 (m : Int) _ (by omega) (by omega)).mono ?_
  rintro e w6 ⟨rfl, hb6⟩
  have HR6 := Lib.hid (HR5.out.ext hb6)
  have HG6 := Lib.hid (grown_ext HG5.out hb6)
  clear HR5 HG5 hb6
  have hno2 : ¬ 9223372036854775807 < (bs (padL 3 x)).size + (bs (padL 2 y)).size + (bs (padL 2 (m : Int))).size := by simp only [bs_size, padL_length]; omega
  go_wp2_with fail
  refine (pick_lit r (P + 3) 4 _ HR6.out (by omega) (by omega)).mono ?_
  rintro e w7 ⟨_, rfl, ⟨q, rfl, hq⟩, hr7, hg7⟩
  have HR7 := Lib.hid hr7
  have HG7 := Lib.hid (grown_trans' HG6.out hg7)
  clear HR6 HG6 hr7 hg7
  by_cases hq0 : q = 0
  · have hqb : ((q : Int) == 0) = true := by simp [hq0]
    clear hq0
    go_wp2_with fail
    refine (pick_lit r (P + 4) 256 _ HR7.out (by omega) (by omega)).mono ?_
    rintro e w8 ⟨_, rfl, ⟨t1, rfl, ht1⟩, hr8, hg8⟩
    have HR8 := Lib.hid hr8
    have HG8 := Lib.hid (grown_trans' HG7.out hg8)
    clear HR7 HG7 hr8 hg8
    go_wp2_with fail
    refine (pick_lit r (P + 5) 256 _ HR8.out (by omega) (by omega)).mono ?_
    rintro e w9 ⟨_, rfl, ⟨t2, rfl, ht2⟩, hr9, hg9⟩
    have HR9 := Lib.hid hr9
    have HG9 := Lib.hid (grown_trans' HG8.out hg9)
    clear HR8 HG8 hr9 hg9
    obtain ⟨u, hu, hub⟩ : ∃ u : Nat, wrap64 ((t1 : Int) * (t2 : Int)) = (u : Int) ∧ u ≤ 255 * 255 := by
      have hm1 : t1 * t2 ≤ 255 * 255 := Nat.mul_le_mul (by omega) (by omega)
      exact ⟨t1 * t2, w64 _ (by omega), hm1⟩
    go_wp2_with fail
    rw [hu]
    refine (pick_lit r (P + 6) 150 _ HR9.out (by omega) (by omega)).mono ?_
    rintro e w10 ⟨_, rfl, ⟨t3, rfl, ht3⟩, hr10, hg10⟩
    have HR10 := Lib.hid hr10
    have HG10 := Lib.hid (grown_trans' HG9.out hg10)
    clear HR9 HG9 hr10 hg10 hu
    obtain ⟨v, hv, hvb⟩ : ∃ v : Nat, wrap64 ((u : Int) * (t3 : Int)) = (v : Int) ∧ v ≤ 255 * 255 * 149 := by
      have hm1 : u * t3 ≤ 255 * 255 * 149 := Nat.mul_le_mul (by omega) (by omega)
      exact ⟨u * t3, w64 _ (by omega), hm1⟩
    go_wp2_with fail
    rw [hv]
    refine (pick_lit r (P + 7) 256 _ HR10.out (by omega) (by omega)).mono ?_
    rintro e w11 ⟨_, rfl, ⟨t4, rfl, ht4⟩, hr11, hg11⟩
    have HR11 := Lib.hid hr11
    have HG11 := Lib.hid (grown_trans' HG10.out hg11)
    clear HR10 HG10 hr11 hg11 hv
    go_wp2_with fail
    refine (sh7 _ _ (by omega) (by omega)).mono ?_
    rintro e w12 ⟨rfl, hb12⟩
    have HR12 := Lib.hid (HR11.out.ext hb12)
    have HG12 := Lib.hid (grown_ext HG11.out hb12)
    clear HR11 HG11 hb12
    go_wp2_with fail
    go_ret
    exact ⟨_, rfl, ⟨_, rfl, padL_length _ _, padL_digits _ _⟩, HR12.out.mono (by omega), HG12.out⟩
  · have hqb : ((q : Int) == 0) = false := by simp; omega
    clear hq0
    go_wp2_with fail
    go_ret
    exact ⟨_, rfl, digS_code _ _ _, HR7.out.mono (by omega), HG7.out⟩

/-- A string of at most n bytes. -/
def Str (n : Nat) (v : Value) : Prop := ∃ s : ByteArray, v = .string s ∧ s.size ≤ n

theorem size_app (a b : ByteArray) : (a ++ b).size = a.size + b.size := ByteArray.size_append

set_option maxHeartbeats 2000000 in
theorem l1Bad_any (r P n : Nat) (s : ByteArray) (w : World) (h : Rd w r P) (hP : P ≤ 900000) (h1 : 1 ≤ s.size) (hn : s.size ≤ n) (hn2 : n ≤ 1000) :
    Calls Try.prog 95 #[.pointer (some ⟨r, 0, none⟩), .string s] w (Got (Str (n + 1)) r (P + 1) w) := by
  have HS := Lib.hid (Sub.mk1 h)
  clear h
  have hi : (1 : Int) ≤ (s.size : Int) := by omega
  have hno1 : ¬ 9223372036854775807 < s.size + 1 := by omega
  have hno2 : ¬ 9223372036854775807 < s.size - 1 + 1 := by omega
  go_enter Try.func95, Try.ntmps95
  go_wp2_with fail; refine (pick_lit r _ 40 _ HS.out.1 (by omega) (by omega)).mono ?_; rintro e w1 ⟨_, rfl, ⟨m, rfl, hm⟩, hr, hg⟩; replace HS := Lib.hid (HS.out.got hr hg); clear hr hg
  go_wp2_with fail
  · go_ret
    exact HS.out.fin ⟨_, rfl, by rw [size_app]; show s.size + 1 ≤ _; omega⟩ (Nat.le_refl _)
  · go_ret
    exact HS.out.fin ⟨_, rfl, by rw [size_app, ByteArray.size_extract]; show _ + 1 ≤ _; omega⟩ (Nat.le_refl _)
  · go_ret
    exact HS.out.fin ⟨_, rfl, Nat.zero_le _⟩ (Nat.le_refl _)
  · go_ret
    exact HS.out.fin ⟨_, rfl, by omega⟩ (Nat.le_refl _)

theorem many_odd (o t k : Nat) (h : o + t * k ≤ 21) (hk : k % 2 = 1) : o + t + (t + t) * (k / 2) ≤ 21 := by
  obtain ⟨j, hj⟩ : ∃ j, j = k / 2 := ⟨_, rfl⟩
  rw [show k = 2 * j + 1 by omega, Nat.mul_add, Nat.mul_one, ← Nat.mul_assoc, Nat.mul_comm t 2, Nat.mul_assoc] at h
  rw [← hj, Nat.add_mul]; omega
theorem many_even (o t k : Nat) (h : o + t * k ≤ 21) (hk : k % 2 = 0) : o + (t + t) * (k / 2) ≤ 21 := by
  obtain ⟨j, hj⟩ : ∃ j, j = k / 2 := ⟨_, rfl⟩
  rw [show k = 2 * j by omega, ← Nat.mul_assoc, Nat.mul_comm t 2, Nat.mul_assoc] at h
  rw [← hj, Nat.add_mul]; omega
theorem many_le (o t k : Nat) (h : o + t * k ≤ 21) (hk : 0 < k) : t ≤ 21 ∧ o ≤ 21 := by
  have := Nat.le_mul_of_pos_right t hk; omega

def SomeStr (n : Nat) (w : World) (e : Ending) (w' : World) : Prop := (∃ v, e = .returned v ∧ Str n v) ∧ w = w'

theorem chkD_digs (l : List UInt8) (h7 : l.length ≤ 20) (hd : allDig l = true) : 0 ≤ chkD (bs l) ∧ chkD (bs l) ≤ 9 := by
  have : digsB (bs l) = true := by simp [digsB, bs_size, bs_list, h7, hd]
  unfold chkD; rw [if_pos this]; omega

end Go.Proofs.Ytafngfmloiikoaa
