/-
  WALKS: Inversions of the program and of the reference; its exact law. By an AI agent.
-/
import Derived.Test.YtafngfmloiikoaaFind
namespace Go.Proofs.Ytafngfmloiikoaa
open Go.RowKit

/-- How many letters of a list stand below / above a code. -/
def below (c : ByteArray) (ls : List Ltr) : Nat := ls.countP fun m => ltB m.2 c
def above (c : ByteArray) (ls : List Ltr) : Nat := ls.countP fun m => ltB c m.2
/-- Pairs in the wrong order. -/
def invL : List Ltr → Nat
  | [] => 0
  | l :: ls => below l.2 ls + invL ls
theorem invL_snoc (x : Ltr) : ∀ ls : List Ltr, invL (ls ++ [x]) = invL ls + above x.2 ls
  | [] => by simp [invL, below, above]
  | l :: ls => by
    have ih := invL_snoc x ls
    simp only [List.cons_append, invL, ih, below, above, List.countP_append, List.countP_cons, List.countP_nil]
    omega
theorem below_cons (c : ByteArray) (m : Ltr) (ls : List Ltr) : below c (m :: ls) = below c ls + if ltB m.2 c = true then 1 else 0 := by
  unfold below; rw [List.countP_cons]
theorem above_snoc (c : ByteArray) (m : Ltr) (ls : List Ltr) : above c (ls ++ [m]) = above c ls + if ltB c m.2 = true then 1 else 0 := by
  unfold above; rw [List.countP_append]; simp [List.countP_cons]
theorem below_le (c : ByteArray) (ls : List Ltr) : below c ls ≤ ls.length := List.countP_le_length
theorem above_le (c : ByteArray) (ls : List Ltr) : above c ls ≤ ls.length := List.countP_le_length
theorem invL_le : ∀ ls : List Ltr, ls.length ≤ 60 → invL ls ≤ 60 * ls.length
  | [], _ => by simp [invL]
  | l :: ls, h => by
    have h1 := invL_le ls (by simp at h; omega)
    have h2 := below_le l.2 ls
    simp only [invL, List.length_cons] at h ⊢
    omega
theorem bl_tri : ∀ x y : List UInt8, Op.bytesLess x y = false → x ≠ y → Op.bytesLess y x = true
  | [], [], _, h => absurd rfl h
  | [], _ :: _, h, _ => by simp [Op.bytesLess] at h
  | _ :: _, [], _, _ => rfl
  | a :: x, b :: y, h, hne => by
    simp only [Op.bytesLess, Bool.or_eq_false_iff, decide_eq_false_iff_not, Bool.and_eq_false_iff, beq_eq_false_iff_ne] at h
    simp only [Op.bytesLess, Bool.or_eq_true, decide_eq_true_eq, Bool.and_eq_true, beq_iff_eq]
    obtain ⟨h1, h2⟩ := h
    rw [UInt8.lt_iff_toNat_lt] at h1 ⊢
    by_cases e : a = b
    · subst e
      right
      refine ⟨rfl, bl_tri x y ?_ (fun e => hne (by rw [e]))⟩
      rcases h2 with h2 | h2
      · exact absurd rfl h2
      · exact h2
    · left
      have : a.toNat ≠ b.toNat := fun e2 => e (UInt8.toNat_inj.1 e2)
      omega
theorem bl_asym : ∀ x y : List UInt8, Op.bytesLess x y = true → Op.bytesLess y x = false
  | [], [], h => by simp [Op.bytesLess] at h
  | [], _ :: _, _ => rfl
  | _ :: _, [], h => by simp [Op.bytesLess] at h
  | a :: x, b :: y, h => by
    simp only [Op.bytesLess, Bool.or_eq_true, decide_eq_true_eq, Bool.and_eq_true, beq_iff_eq] at h
    simp only [Op.bytesLess, Bool.or_eq_false_iff, decide_eq_false_iff_not, Bool.and_eq_false_iff, beq_eq_false_iff_ne]
    rw [UInt8.lt_iff_toNat_lt] at h ⊢
    rcases h with h | ⟨rfl, h⟩
    · exact ⟨by omega, .inl (fun e => by subst e; omega)⟩
    · exact ⟨by omega, .inr (bl_asym x y h)⟩
theorem bl_irr (x : List UInt8) : Op.bytesLess x x = false := by
  cases h : Op.bytesLess x x with
  | false => rfl
  | true => have := bl_asym x x h; rw [h] at this; cases this
/-- Greater is the other way round. -/
theorem gt_lt (a b : ByteArray) : (!(Op.bytesLess a.toList b.toList || a.toList == b.toList)) = ltB b a := by
  unfold ltB
  cases h1 : Op.bytesLess a.toList b.toList with
  | true => rw [bl_asym _ _ h1]; rfl
  | false =>
    by_cases e : a.toList = b.toList
    · rw [e, bl_irr]; simp
    · rw [bl_tri _ _ h1 e]; simp [e]
/-- What Inversions answers. -/
def invV (ls : List Ltr) : Int := if batchB ls = true then (invL ls : Int) else -1

set_option maxHeartbeats 4000000 in
theorem impl_Inversions (A : Option Addr) (n cap : Nat) (ls : List Ltr) (w : World) (h : LS w A n cap ls) :
    Calls Try.prog 29 #[.slice A n cap] w fun e w' => e = .returned (.int .i64 (invV ls)) ∧ Below w.heap.size w w' := by
  have HL := Lib.hid h
  have HLEN := Lib.hid h.1
  clear h
  cases hb : batchB ls with
  | false =>
    have H := Lib.hid (show invV ls = -1 from by simp [invV, hb])
    have HB := Lib.hid hb
    clear hb
    go_enter Try.func29, Try.ntmps29
    go_wp2_with (go_at_call 33; refine (impl_BatchValid _ _ _ _ _ HL.out).mono ?_; rintro e w1 ⟨rfl, hb1⟩; rw [HB.out])
    go_ret
    exact ⟨ret_int H.out.symm, (by repeat (first | exact Below.refl _ _ | assumption | refine ext_alloc ?_ _ | refine Below.drew ?_ | refine below_drewN' ?_ _ | refine ext_set ?_ (by first | (simp; done) | (simp; omega) | omega) _ | refine ext_trans ?_ (by assumption)))⟩
  | true =>
    have hn60 := batch_len hb
    have hil := invL_le ls hn60
    rw [HLEN.out] at hn60 hil
    have H := Lib.hid (show invV ls = (invL ls : Int) from by simp [invV, hb])
    have HB := Lib.hid hb
    clear hb
    go_enter Try.func29, Try.ntmps29
    go_wp2_with (go_at_call 33; refine (impl_BatchValid _ _ _ _ _ HL.out).mono ?_; rintro e w1 ⟨rfl, hb1⟩; rw [HB.out])
    go_loopw [3, 11] (fun cv iv wr => ∃ k c : Nat, k ≤ n ∧ iv = .int .i64 k ∧ cv = .int .i64 c ∧ c + invL (ls.drop k) = invL ls ∧ Below w.heap.size w wr) (fun _ iv _ => n - (intOf iv).toNat)
    case atStart => exact ⟨0, 0, by omega, rfl, rfl, by simp, (by repeat (first | exact Below.refl _ _ | assumption | refine ext_alloc ?_ _ | refine Below.drew ?_ | refine below_drewN' ?_ _ | refine ext_set ?_ (by first | (simp; done) | (simp; omega) | omega) _ | refine ext_trans ?_ (by assumption)))⟩
    case round =>
      obtain ⟨k, c, hk, rfl, rfl, hf, hbel⟩ := hrel
      obtain ⟨wo, rfl⟩ : ∃ wo : World, wo = wr := ⟨_, rfl⟩
      have HF := Lib.hid hf
      clear hf
      by_cases hkn : k < n
      · have hkd : decide ((k : Int) < (n : Int)) = true := by simp; omega
        obtain ⟨g, off, l, hA, hl, _, c0, c1⟩ := (HL.out.ext hbel).at_ k hkn
        have HLK := Lib.hid hl
        have HF2 := Lib.hid (show c + (below l.2 (ls.drop (k + 1)) + invL (ls.drop (k + 1))) = invL ls from by rw [← HF.out, drop_at ls k l hl]; rfl)
        subst hA
        clear hl c0 c1
        go_wp2_with fail
        go_loopw [3, 5] (fun cv jv wr => ∃ j d : Nat, k + 1 ≤ j ∧ j ≤ n ∧ jv = .int .i64 j ∧ cv = .int .i64 d ∧ d + below l.2 (ls.drop j) + invL (ls.drop (k + 1)) = invL ls ∧ Below w.heap.size w wr) (fun _ jv _ => n - (intOf jv).toNat)
        case atStart => exact ⟨k + 1, c, by omega, by omega, by go_num, rfl, by rw [← HF2.out]; omega, (by repeat (first | exact Below.refl _ _ | assumption | refine ext_alloc ?_ _ | refine Below.drew ?_ | refine below_drewN' ?_ _ | refine ext_set ?_ (by first | (simp; done) | (simp; omega) | omega) _ | refine ext_trans ?_ (by assumption)))⟩
        case round =>
          obtain ⟨j, d, hj1, hj2, rfl, rfl, hg, hbi⟩ := hrel
          have HG := Lib.hid hg
          have hdb : d ≤ 60 * n := by omega
          clear hg
          by_cases hjn : j < n
          · have hjd : decide ((j : Int) < (n : Int)) = true := by simp; omega
            obtain ⟨g', off', m, hA', hm, _, d0, d1⟩ := (HL.out.ext hbi).at_ j hjn
            injection hA' with hA'
            injection hA' with hg1 hg2
            subst hg1 hg2
            obtain ⟨g', off', l', hA', hl', _, c0, c1⟩ := (HL.out.ext hbi).at_ k hkn
            injection hA' with hA'
            injection hA' with hg1 hg2
            subst hg1 hg2
            obtain rfl : l' = l := by rw [HLK.out] at hl'; injection hl' with hl'; exact hl'.symm
            have HG2 := Lib.hid (show d + (below l'.2 (ls.drop (j + 1)) + if ltB m.2 l'.2 = true then 1 else 0) + invL (ls.drop (k + 1)) = invL ls from by rw [← HG.out, drop_at ls j m hm, below_cons])
            have hki : (k : Int) < (n : Int) := by omega
            have hji : (j : Int) < (n : Int) := by omega
            clear hl' hm c0 d0
            cases hlt : ltB m.2 l'.2 with
            | true =>
              have HR := Lib.hid (show d + 1 + below l'.2 (ls.drop (j + 1)) + invL (ls.drop (k + 1)) = invL ls from by have := HG2.out; rw [hlt, if_pos rfl] at this; omega)
              have hlt2 : Op.bytesLess m.2.toList l'.2.toList = true := hlt
              clear hlt
              go_wp2_with fail
              go_quiet (fail)
              go_wp2_with fail
              go_roundw
              case rel => exact ⟨j + 1, d + 1, by omega, by omega, by go_num, by go_num, HR.out, (by repeat (first | exact Below.refl _ _ | assumption | refine ext_alloc ?_ _ | refine Below.drew ?_ | refine below_drewN' ?_ _ | refine ext_set ?_ (by first | (simp; done) | (simp; omega) | omega) _ | refine ext_trans ?_ (by assumption)))⟩
              case measure => simp [intOf]; omega
            | false =>
              have HR := Lib.hid (show d + below l'.2 (ls.drop (j + 1)) + invL (ls.drop (k + 1)) = invL ls from by have := HG2.out; rw [hlt, if_neg (by decide)] at this; omega)
              have hlt2 : Op.bytesLess m.2.toList l'.2.toList = false := hlt
              clear hlt
              go_wp2_with fail
              go_quiet (fail)
              go_wp2_with fail
              go_roundw
              case rel => exact ⟨j + 1, d, by omega, by omega, by go_num, rfl, HR.out, (by repeat (first | exact Below.refl _ _ | assumption | refine ext_alloc ?_ _ | refine Below.drew ?_ | refine below_drewN' ?_ _ | refine ext_set ?_ (by first | (simp; done) | (simp; omega) | omega) _ | refine ext_trans ?_ (by assumption)))⟩
              case measure => simp [intOf]; omega
          · have hjd : decide ((j : Int) < (n : Int)) = false := by simp; omega
            have hd : ls.drop j = [] := List.drop_eq_nil_of_le (by rw [HLEN.out]; omega)
            have HR := Lib.hid (show d + invL (ls.drop (k + 1)) = invL ls from by have := HG.out; rw [hd] at this; simpa [below] using this)
            clear hd
            go_wp2_with fail
            go_roundw
            case rel => exact ⟨k + 1, d, by omega, by go_num, rfl, HR.out, (by repeat (first | exact Below.refl _ _ | assumption | refine ext_alloc ?_ _ | refine Below.drew ?_ | refine below_drewN' ?_ _ | refine ext_set ?_ (by first | (simp; done) | (simp; omega) | omega) _ | refine ext_trans ?_ (by assumption)))⟩
            case measure => simp [intOf]; omega
      · have hkd : decide ((k : Int) < (n : Int)) = false := by simp; omega
        have hd : ls.drop k = [] := List.drop_eq_nil_of_le (by rw [HLEN.out]; omega)
        have HR := Lib.hid (show invL ls = c from by rw [← HF.out, hd]; simp [invL])
        clear hd
        go_wp2_with fail
        go_ret
        exact ⟨ret_int (by rw [H.out, HR.out]), (by repeat (first | exact Below.refl _ _ | assumption | refine ext_alloc ?_ _ | refine Below.drew ?_ | refine below_drewN' ?_ _ | refine ext_set ?_ (by first | (simp; done) | (simp; omega) | omega) _ | refine ext_trans ?_ (by assumption)))⟩

set_option maxHeartbeats 4000000 in
theorem spec_Inversions (A : Option Addr) (n cap : Nat) (ls : List Ltr) (w : World) (h : LS w A n cap ls) :
    Calls Try.prog 30 #[.slice A n cap] w fun e w' => e = .returned (.int .i64 (invV ls)) ∧ Below w.heap.size w w' := by
  have HL := Lib.hid h
  have HLEN := Lib.hid h.1
  clear h
  cases hb : batchB ls with
  | false =>
    have H := Lib.hid (show invV ls = -1 from by simp [invV, hb])
    have HB := Lib.hid hb
    clear hb
    go_enter Try.func30, Try.ntmps30
    go_wp2_with (go_at_call 67; refine (spec_BatchValid _ _ _ _ _ HL.out).mono ?_; rintro e w1 ⟨rfl, hb1⟩; rw [HB.out])
    go_ret
    exact ⟨ret_int H.out.symm, (by repeat (first | exact Below.refl _ _ | assumption | refine ext_alloc ?_ _ | refine Below.drew ?_ | refine below_drewN' ?_ _ | refine ext_set ?_ (by first | (simp; done) | (simp; omega) | omega) _ | refine ext_trans ?_ (by assumption)))⟩
  | true =>
    have hn60 := batch_len hb
    rw [HLEN.out] at hn60
    have H := Lib.hid (show invV ls = (invL ls : Int) from by simp [invV, hb])
    have HB := Lib.hid hb
    clear hb
    go_enter Try.func30, Try.ntmps30
    go_wp2_with (go_at_call 67; refine (spec_BatchValid _ _ _ _ _ HL.out).mono ?_; rintro e w1 ⟨rfl, hb1⟩; rw [HB.out])
    go_loopw [3, 4] (fun cv iv wr => ∃ k c : Nat, k ≤ n ∧ iv = .int .i64 k ∧ cv = .int .i64 c ∧ c = invL (ls.take k) ∧ Below w.heap.size w wr) (fun _ iv _ => n - (intOf iv).toNat)
    case atStart => exact ⟨0, 0, by omega, rfl, rfl, by simp [invL], (by repeat (first | exact Below.refl _ _ | assumption | refine ext_alloc ?_ _ | refine Below.drew ?_ | refine below_drewN' ?_ _ | refine ext_set ?_ (by first | (simp; done) | (simp; omega) | omega) _ | refine ext_trans ?_ (by assumption)))⟩
    case round =>
      obtain ⟨k, c, hk, rfl, rfl, hf, hbel⟩ := hrel
      obtain ⟨wo, rfl⟩ : ∃ wo : World, wo = wr := ⟨_, rfl⟩
      have hcb := invL_le (ls.take k) (by have := List.length_take_le k ls; omega)
      have hcl := List.length_take_le k ls
      rw [← hf] at hcb
      have HF := Lib.hid hf
      clear hf
      by_cases hkn : k < n
      · have hkd : decide ((k : Int) < (n : Int)) = true := by simp; omega
        obtain ⟨g, off, l, hA, hl, _, c0, c1⟩ := (HL.out.ext hbel).at_ k hkn
        have HLK := Lib.hid hl
        have HF2 := Lib.hid (show invL (ls.take (k + 1)) = c + above l.2 (ls.take k) from by rw [take_snoc' ls k l hl, invL_snoc, HF.out])
        subst hA
        clear hl c0 c1
        go_wp2_with fail
        go_loopw [3, 5] (fun cv jv wr => ∃ j d : Nat, j ≤ k ∧ jv = .int .i64 j ∧ cv = .int .i64 d ∧ d = c + above l.2 (ls.take j) ∧ Below w.heap.size w wr) (fun _ jv _ => k - (intOf jv).toNat)
        case atStart => exact ⟨0, c, by omega, rfl, rfl, by simp [above], (by repeat (first | exact Below.refl _ _ | assumption | refine ext_alloc ?_ _ | refine Below.drew ?_ | refine below_drewN' ?_ _ | refine ext_set ?_ (by first | (simp; done) | (simp; omega) | omega) _ | refine ext_trans ?_ (by assumption)))⟩
        case round =>
          obtain ⟨j, d, hj2, rfl, rfl, hg, hbi⟩ := hrel
          have hal := above_le l.2 (ls.take j)
          have hal2 := List.length_take_le j ls
          have hdb : d ≤ 60 * n + n := by rw [hg]; omega
          have HG := Lib.hid hg
          clear hg
          by_cases hjn : j < k
          · have hjd : decide ((j : Int) < (k : Int)) = true := by simp; omega
            obtain ⟨g', off', m, hA', hm, _, d0, d1⟩ := (HL.out.ext hbi).at_ j (by omega)
            injection hA' with hA'
            injection hA' with hg1 hg2
            subst hg1 hg2
            obtain ⟨g', off', l', hA', hl', _, c0, c1⟩ := (HL.out.ext hbi).at_ k hkn
            injection hA' with hA'
            injection hA' with hg1 hg2
            subst hg1 hg2
            obtain rfl : l' = l := by rw [HLK.out] at hl'; injection hl' with hl'; exact hl'.symm
            have HG2 := Lib.hid (show c + above l'.2 (ls.take (j + 1)) = d + if ltB l'.2 m.2 = true then 1 else 0 from by rw [take_snoc' ls j m hm, above_snoc, HG.out]; omega)
            have hki : (k : Int) < (n : Int) := by omega
            have hji : (j : Int) < (n : Int) := by omega
            have hgl := gt_lt m.2 l'.2
            clear hl' hm c0 d0
            cases hlt : ltB l'.2 m.2 with
            | true =>
              have HR := Lib.hid (show d + 1 = c + above l'.2 (ls.take (j + 1)) from by rw [HG2.out, hlt]; rfl)
              rw [hlt] at hgl
              have hg3 : (Op.bytesLess m.2.toList l'.2.toList || m.2.toList == l'.2.toList) = false := by revert hgl; cases (Op.bytesLess m.2.toList l'.2.toList || m.2.toList == l'.2.toList) <;> simp
              have hg4 : Op.bytesLess m.2.toList l'.2.toList = false := by simp at hg3; exact hg3.1
              have hg5 : (m.2.toList == l'.2.toList) = false := by rw [hg4] at hg3; simpa using hg3
              clear hlt hgl hg3
              go_wp2_with fail
              go_quiet (fail)
              go_wp2_with fail
              go_roundw
              case rel => exact ⟨j + 1, d + 1, by omega, by go_num, by go_num, HR.out, (by repeat (first | exact Below.refl _ _ | assumption | refine ext_alloc ?_ _ | refine Below.drew ?_ | refine below_drewN' ?_ _ | refine ext_set ?_ (by first | (simp; done) | (simp; omega) | omega) _ | refine ext_trans ?_ (by assumption)))⟩
              case measure => simp [intOf]; omega
            | false =>
              have HR := Lib.hid (show d = c + above l'.2 (ls.take (j + 1)) from by rw [HG2.out, hlt]; rfl)
              rw [hlt] at hgl
              have hg3 : (Op.bytesLess m.2.toList l'.2.toList || m.2.toList == l'.2.toList) = true := by revert hgl; cases (Op.bytesLess m.2.toList l'.2.toList || m.2.toList == l'.2.toList) <;> simp
              clear hlt hgl
              go_wp2_with fail
              go_quiet (fail)
              go_wp2_with fail
              go_roundw
              case rel => exact ⟨j + 1, d, by omega, by go_num, rfl, HR.out, (by repeat (first | exact Below.refl _ _ | assumption | refine ext_alloc ?_ _ | refine Below.drew ?_ | refine below_drewN' ?_ _ | refine ext_set ?_ (by first | (simp; done) | (simp; omega) | omega) _ | refine ext_trans ?_ (by assumption)))⟩
              case measure => simp [intOf]; omega
          · have hjd : decide ((j : Int) < (k : Int)) = false := by simp; omega
            have HR := Lib.hid (show d = invL (ls.take (k + 1)) from by rw [HF2.out, HG.out, show j = k by omega])
            go_wp2_with fail
            go_roundw
            case rel => exact ⟨k + 1, d, by omega, by go_num, rfl, HR.out, (by repeat (first | exact Below.refl _ _ | assumption | refine ext_alloc ?_ _ | refine Below.drew ?_ | refine below_drewN' ?_ _ | refine ext_set ?_ (by first | (simp; done) | (simp; omega) | omega) _ | refine ext_trans ?_ (by assumption)))⟩
            case measure => simp [intOf]; omega
      · have hkd : decide ((k : Int) < (n : Int)) = false := by simp; omega
        have HR := Lib.hid (show invL ls = c from by rw [HF.out, List.take_of_length_le (by rw [HLEN.out]; omega)])
        go_wp2_with fail
        go_ret
        exact ⟨ret_int (by rw [H.out, HR.out]), (by repeat (first | exact Below.refl _ _ | assumption | refine ext_alloc ?_ _ | refine Below.drew ?_ | refine below_drewN' ?_ _ | refine ext_set ?_ (by first | (simp; done) | (simp; omega) | omega) _ | refine ext_trans ?_ (by assumption)))⟩

end Go.Proofs.Ytafngfmloiikoaa
