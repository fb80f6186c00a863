/-
  WALKS: VaryingDigits of the reference. By an AI agent.
-/
import Derived.Test.YtlkpegaddbkicaaVary
namespace Go.Proofs.Ytlkpegaddbkicaa
open Go.RowKit

/-- Whether the first letters' codes differ in a digit from the first. -/
def varyK (ls : List Ltr) (d k : Nat) : Bool := (ls.take k).any fun l => dig l.2 d != dig (ls.headD (0, ⟨#[]⟩)).2 d
theorem varyK_one (ls : List Ltr) (d : Nat) : varyK ls d 1 = false := by cases ls <;> simp [varyK]
theorem varyK_all (ls : List Ltr) (d k : Nat) (h : ls.length ≤ k) : varyK ls d k = varyB ls d := by unfold varyK varyB; rw [List.take_of_length_le h]
theorem head_at (ls : List Ltr) (l0 : Ltr) (h : ls[0]? = some l0) : ls.headD (0, ⟨#[]⟩) = l0 := by
  cases ls with
  | nil => simp at h
  | cons a b => simpa using h
theorem varyK_succ (ls : List Ltr) (d k : Nat) (l l0 : Ltr) (hl : ls[k]? = some l) (h0 : ls[0]? = some l0) : varyK ls d (k + 1) = (varyK ls d k || (dig l.2 d != dig l0.2 d)) := by
  unfold varyK; rw [take_snoc' ls k l hl, List.any_append, head_at ls l0 h0]; simp
theorem OwnI.made (w : World) (B : Nat) (hB : B ≤ w.heap.size) : OwnI (w.alloc (.cells #[] 3)) B (.slice (some ⟨w.heap.size, 0, none⟩) 0 0) [] := by
  have h := World.ownsRow_made (base := B) (size := 1) (e := 3) w #[] 0 hB (by unfold maxLen; omega) rfl
  simpa [OwnI, cellsI] using h

set_option maxHeartbeats 4000000 in
theorem spec_VaryingDigits (A : Option Addr) (n cap : Nat) (ls : List Ltr) (w : World) (h : LS w A n cap ls) :
    Calls Try.prog 65 #[.slice A n cap] w (Varies ls w) := by
  have HL := Lib.hid h
  have HLEN := Lib.hid h.1
  have hcap := h.2.1
  have hmax := h.2.2.1
  unfold maxLen at hmax
  clear h
  obtain ⟨i0, hi, hz0, hz1, hz2⟩ := info_parts info_int
  cases hb : batchB ls with
  | false =>
    have H := Lib.hid (show varyL ls = [] from by simp [varyL, hb])
    have HB := Lib.hid hb
    clear hb
    go_enter Try.func65, Try.ntmps65
    go_wp2_with fail
    go_loopw [3, 4] (fun v dv wr => dv = .int .i64 0 ∧ OwnI wr w.heap.size v [] ∧ Below w.heap.size w wr) (fun _ _ _ => 0)
    case atStart => exact ⟨rfl, OwnI.made _ _ (Nat.le_refl _), (by repeat (first | exact Below.refl _ _ | assumption | refine ext_alloc ?_ _ | refine Below.drew ?_ | refine below_drewN' ?_ _ | refine ext_set ?_ (by first | (simp; done) | (simp; omega) | omega) _ | refine ext_trans ?_ (by assumption)))⟩
    case round =>
      obtain ⟨rfl, hown, hbel⟩ := hrel
      have HO := Lib.hid hown
      clear hown
      go_wp2_with (go_at_call 63; refine (spec_BatchValid _ _ _ _ _ (HL.out.ext hbel)).mono ?_; rintro e w1 ⟨rfl, hb1⟩; rw [HB.out])
      go_ret
      exact ⟨_, rfl, by rw [H.out]; exact HO.out.ext hb1, (by repeat (first | exact Below.refl _ _ | assumption | refine ext_alloc ?_ _ | refine Below.drew ?_ | refine below_drewN' ?_ _ | refine ext_set ?_ (by first | (simp; done) | (simp; omega) | omega) _ | refine ext_trans ?_ (by assumption)))⟩
  | true =>
    have hn60 := batch_len hb
    rw [HLEN.out] at hn60
    have H := Lib.hid (show varyL ls = varyTo ls 7 from by simp [varyL, hb])
    have HB := Lib.hid hb
    clear hb
    go_enter Try.func65, Try.ntmps65
    go_wp2_with fail
    go_loopw [3, 4] (fun v dv wr => ∃ d : Nat, d ≤ 7 ∧ dv = .int .i64 d ∧ OwnI wr w.heap.size v (varyTo ls d) ∧ Below w.heap.size w wr) (fun _ dv _ => 7 - (intOf dv).toNat)
    case atStart => exact ⟨0, by omega, rfl, OwnI.made _ _ (Nat.le_refl _), (by repeat (first | exact Below.refl _ _ | assumption | refine ext_alloc ?_ _ | refine Below.drew ?_ | refine below_drewN' ?_ _ | refine ext_set ?_ (by first | (simp; done) | (simp; omega) | omega) _ | refine ext_trans ?_ (by assumption)))⟩
    case round =>
      obtain ⟨d, hd, rfl, hown, hbel⟩ := hrel
      have HO := Lib.hid hown
      clear hown
      have hvl := varyTo_le ls d
      by_cases hd7 : d < 7
      · have hdd : decide ((d : Int) < 7) = true := by simp; omega
        go_wp2_with (go_at_call 63; refine (spec_BatchValid _ _ _ _ _ (HL.out.ext hbel)).mono ?_; rintro e w1 ⟨rfl, hb1⟩; rw [HB.out])
        have HO1 := Lib.hid (HO.out.ext hb1)
        have hbel1 := ext_trans hbel hb1
        obtain ⟨wo, rfl⟩ : ∃ wo : World, wo = wr := ⟨_, rfl⟩
        obtain ⟨v, rfl⟩ : ∃ v, v = u3 := ⟨_, rfl⟩
        go_loopw [5, 6] (fun bv iv wr2 => ∃ k : Nat, 1 ≤ k ∧ (k ≤ n ∨ k = 1) ∧ iv = .int .i64 k ∧ bv = .bool (varyK ls d k) ∧ OwnI wr2 w.heap.size v (varyTo ls d) ∧ Below w.heap.size w wr2) (fun _ iv _ => n - (intOf iv).toNat)
        case atStart => exact ⟨1, by omega, by omega, rfl, by rw [varyK_one], HO1.out, hbel1⟩
        case round =>
          obtain ⟨k, hk1, hk, rfl, rfl, hown, hbi⟩ := hrel
          have HI := Lib.hid hown
          clear hown
          have hsize := hbi.size
          by_cases hkn : k < n
          · have hkd : decide ((k : Int) < (n : Int)) = true := by simp; omega
            obtain ⟨g, off, l, rfl, hl, hlm, c0, c1⟩ := (HL.out.ext hbi).at_ k hkn
            obtain ⟨g', off', l0, hA', hl0, _, b0, b1⟩ := (HL.out.ext hbi).at_ 0 (by omega)
            injection hA' with hA'
            injection hA' with hg1 hg2
            subst hg1 hg2
            have h7 := batch_code HB.out hl
            have h70 := batch_code HB.out hl0
            have hdl : d < l.2.size := by omega
            have hdl0 : d < l0.2.size := by omega
            have hnp : 0 < n := by omega
            have b2 : wr.cell? ⟨g, off + 1, none⟩ = some (.string l0.2) := by simpa using b1
            have HVK := Lib.hid (varyK_succ ls d k l l0 hl hl0)
            have HQ := Lib.hid (dig_eq l.2 d hdl)
            have HQ0 := Lib.hid (dig_eq l0.2 d hdl0)
            have hki : (k : Int) < (n : Int) := by omega
            clear hl hl0 h7 h70 b0 b1 c0
            cases hvk : varyK ls d k with
            | true =>
              have HN := Lib.hid (show varyK ls d (k + 1) = true from by rw [HVK.out, hvk]; rfl)
              clear hvk
              go_wp2_with fail
              go_quiet (fail)
              go_wp2_with fail
              go_roundw
              case rel => exact ⟨k + 1, by omega, by omega, by go_num, by rw [HN.out], HI.out.ext (below_drewN' (Below.refl _ _) _), (by repeat (first | exact Below.refl _ _ | assumption | refine ext_alloc ?_ _ | refine Below.drew ?_ | refine below_drewN' ?_ _ | refine ext_set ?_ (by first | (simp; done) | (simp; omega) | omega) _ | refine ext_trans ?_ (by assumption)))⟩
              case measure => simp [intOf]; omega
            | false =>
              by_cases hne : dig l.2 d = dig l0.2 d
              · have hnb : ((l.2[d].toNat : Int) != (l0.2[d].toNat : Int)) = false := by rw [HQ.out, HQ0.out, hne]; simp
                have HN := Lib.hid (show varyK ls d (k + 1) = false from by rw [HVK.out, hvk, hne]; simp)
                clear hne hvk
                go_wp2_with fail
                go_quiet (fail)
                go_wp2_with fail
                go_roundw
                case rel => exact ⟨k + 1, by omega, by omega, by go_num, by rw [HN.out], HI.out.ext (below_drewN' (Below.refl _ _) _), (by repeat (first | exact Below.refl _ _ | assumption | refine ext_alloc ?_ _ | refine Below.drew ?_ | refine below_drewN' ?_ _ | refine ext_set ?_ (by first | (simp; done) | (simp; omega) | omega) _ | refine ext_trans ?_ (by assumption)))⟩
                case measure => simp [intOf]; omega
              · have hnb : ((l.2[d].toNat : Int) != (l0.2[d].toNat : Int)) = true := by rw [HQ.out, HQ0.out]; simp; omega
                have HN := Lib.hid (show varyK ls d (k + 1) = true from by rw [HVK.out, hvk]; simpa using hne)
                clear hne hvk
                go_wp2_with fail
                go_quiet (fail)
                go_wp2_with fail
                go_roundw
                case rel => exact ⟨k + 1, by omega, by omega, by go_num, by rw [HN.out], HI.out.ext (below_drewN' (Below.refl _ _) _), (by repeat (first | exact Below.refl _ _ | assumption | refine ext_alloc ?_ _ | refine Below.drew ?_ | refine below_drewN' ?_ _ | refine ext_set ?_ (by first | (simp; done) | (simp; omega) | omega) _ | refine ext_trans ?_ (by assumption)))⟩
                case measure => simp [intOf]; omega
          · have hkd : decide ((k : Int) < (n : Int)) = false := by simp; omega
            have HVA := Lib.hid (varyK_all ls d k (by have := HLEN.out; omega))
            cases hvk : varyK ls d k with
            | true =>
              have HV := Lib.hid (show varyTo ls (d + 1) = varyTo ls d ++ [(d : Int)] from by rw [varyTo_succ, ← HVA.out, hvk]; simp)
              clear hvk
              go_wp2_with (at_builtin; refine wpList_append_own_at _ rfl _ _ 69 rfl w.heap.size 3 i0 _ 1 8 Try.underlying69 hi hz0 hz1 hz2 rfl (by decide) _ _ _ rfl (by exact World.ownsRow.alloc HI.out _) ⟨wr.heap.size, 0, none⟩ 1 1 [.int .i64 (d : Int)] rfl rfl (int_at _ _ _ _ (by simp)) (int_one _) (by unfold maxLen; omega) (by omega) (by simp; omega) ?_; intro v' w4 hown' hgrow _ hloc)
              have HO2 := Lib.hid (OwnI.app hown')
              have hb4 := (ext_alloc hbi _).grown hgrow (by simp; omega) (fun k hk => (World.ownsRow.lt HI.out k hk).1)
              clear hown' hgrow hloc
              go_wp2_with fail
              go_roundw
              case rel => exact ⟨d + 1, by omega, by go_num, by rw [HV.out]; exact HO2.out, hb4⟩
              case measure => simp [intOf]; omega
            | false =>
              have HV := Lib.hid (show varyTo ls (d + 1) = varyTo ls d from by rw [varyTo_succ, ← HVA.out, hvk]; simp)
              clear hvk
              go_wp2_with fail
              go_roundw
              case rel => exact ⟨d + 1, by omega, by go_num, by rw [HV.out]; exact HI.out, hbi⟩
              case measure => simp [intOf]; omega
      · have hdd : decide ((d : Int) < 7) = false := by simp; omega
        obtain rfl : d = 7 := by omega
        go_wp2_with fail
        go_ret
        exact ⟨_, rfl, by rw [H.out]; exact HO.out, hbel⟩

end Go.Proofs.Ytlkpegaddbkicaa
