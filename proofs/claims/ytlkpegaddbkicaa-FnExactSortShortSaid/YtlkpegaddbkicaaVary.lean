/-
  WALKS: VaryingDigits of both sides. By an AI agent.
-/
import Derived.Test.YtlkpegaddbkicaaOwnI
import Derived.Test.YtlkpegaddbkicaaMerge2
namespace Go.Proofs.Ytlkpegaddbkicaa
open Go.RowKit

/-- The byte of a code at a digit, as a number. -/
def dig (c : ByteArray) (d : Nat) : Nat := if h : d < c.size then c[d].toNat else 0
theorem dig_eq (c : ByteArray) (d : Nat) (h : d < c.size) : c[d].toNat = dig c d := by unfold dig; rw [dif_pos h]
/-- Whether codes differ in a digit. -/
def varyB (ls : List Ltr) (d : Nat) : Bool := ls.any fun l => dig l.2 d != dig (ls.headD (0, ⟨#[]⟩)).2 d
def varyTo (ls : List Ltr) (d : Nat) : List Int := ((List.range d).filter (varyB ls)).map fun (i : Nat) => (i : Int)
theorem varyTo_succ (ls : List Ltr) (d : Nat) : varyTo ls (d + 1) = varyTo ls d ++ if varyB ls d = true then [(d : Int)] else [] := by
  unfold varyTo; rw [List.range_succ, List.filter_append, List.map_append]; cases h : varyB ls d <;> simp [h]
theorem varyTo_le (ls : List Ltr) (d : Nat) : (varyTo ls d).length ≤ d := by
  unfold varyTo; rw [List.length_map]; exact Nat.le_trans (List.length_filter_le _ _) (by simp)
def varyL (ls : List Ltr) : List Int := if batchB ls = true then varyTo ls 7 else []
theorem batch_code {ls : List Ltr} (h : batchB ls = true) {l : Ltr} {k : Nat} (hl : ls[k]? = some l) : l.2.size = 7 := by
  have := ((batchB_true ls).1 h).2.1 l (List.mem_of_getElem? hl)
  simp [okL, codeB] at this
  exact this.2.1
theorem info_int : (Try.prog.info? 3).map (fun i => (i.zero, i.size, i.bytes)) = some (some (.int .i64 0), 1, 8) := by kernel_rfl
/-- A number in a new block of its own. -/
theorem int_at (w : World) (x : Int) (t : TypeId) (g : Nat) (hg : g = w.heap.size) : ∀ j u, ([.int .i64 x] : List Value)[j]? = some u → (w.alloc (.cells #[.int .i64 x] t)).cell? ((⟨g, 0, none⟩ : Addr).add j) = some u := by
  intro j u hj
  subst hg
  have hr := Row.made w t #[.int .i64 x]
  rw [add_lit', hr.cell]
  simpa using hj
theorem int_one (x : Int) : ∀ u ∈ ([.int .i64 x] : List Value), u.oneCell' = true := by
  intro u hu; simp at hu; subst hu; rfl
theorem OwnI.app {w' : World} {B : Nat} {v' : Value} {xs : List Int} {x : Int}
    (ho : w'.ownsRow B 3 1 v' (xs.length + 1) (cellsI xs ++ [.int .i64 x])) : OwnI w' B v' (xs ++ [x]) := by
  have e : cellsI (xs ++ [x]) = cellsI xs ++ [.int .i64 x] := by simp [cellsI]
  unfold OwnI; rw [e, List.length_append]; exact ho
/-- What VaryingDigits answers. -/
def Varies (ls : List Ltr) (w : World) (e : Ending) (w' : World) : Prop :=
  ∃ v, e = .returned v ∧ OwnI w' w.heap.size v (varyL ls) ∧ Below w.heap.size w w'
theorem vary_stop (ls : List Ltr) (d k : Nat) (l l0 : Ltr) (h0 : ls[0]? = some l0) (hl : ls[k]? = some l) (h : dig l.2 d ≠ dig l0.2 d) : varyB ls d = true := by
  have e : ls.headD (0, ⟨#[]⟩) = l0 := by cases ls with
    | nil => simp at h0
    | cons a b => simpa using h0
  unfold varyB; rw [List.any_eq_true]
  exact ⟨l, List.mem_of_getElem? hl, by rw [e]; simpa using h⟩
theorem vary_none (ls : List Ltr) (d : Nat) (h : ∀ (k : Nat) (l : Ltr), ls[k]? = some l → dig l.2 d = dig (ls.headD (0, ⟨#[]⟩)).2 d) : varyB ls d = false := by
  cases hv : varyB ls d with
  | false => rfl
  | true =>
    unfold varyB at hv; rw [List.any_eq_true] at hv
    obtain ⟨l, hm, hx⟩ := hv
    obtain ⟨k, hk⟩ := List.mem_iff_getElem?.1 hm
    have := h k l hk
    simp [this] at hx

set_option maxHeartbeats 4000000 in
theorem impl_VaryingDigits (A : Option Addr) (n cap : Nat) (ls : List Ltr) (w : World) (h : LS w A n cap ls) :
    Calls Try.prog 67 #[.slice A n cap] w (Varies ls w) := by
  have HL := Lib.hid h
  have HLEN := Lib.hid h.1
  clear h
  obtain ⟨i0, hi, hz0, hz1, hz2⟩ := info_parts info_int
  cases hb : batchB ls with
  | false =>
    have H := Lib.hid (show varyL ls = [] from by simp [varyL, hb])
    have HB := Lib.hid hb
    clear hb
    go_enter Try.func67, Try.ntmps67
    go_wp2_with (go_at_call 35; refine (impl_BatchValid _ _ _ _ _ HL.out).mono ?_; rintro e w1 ⟨rfl, hb1⟩; rw [HB.out])
    go_ret
    exact ⟨_, rfl, by rw [H.out]; exact OwnI.nil _ _, (by repeat (first | exact Below.refl _ _ | assumption | refine ext_alloc ?_ _ | refine Below.drew ?_ | refine below_drewN' ?_ _ | refine ext_set ?_ (by first | (simp; done) | (simp; omega) | omega) _ | refine ext_trans ?_ (by assumption)))⟩
  | true =>
    have hn60 := batch_len hb
    rw [HLEN.out] at hn60
    have H := Lib.hid (show varyL ls = varyTo ls 7 from by simp [varyL, hb])
    have HB := Lib.hid hb
    clear hb
    go_enter Try.func67, Try.ntmps67
    go_wp2_with (go_at_call 35; refine (impl_BatchValid _ _ _ _ _ HL.out).mono ?_; rintro e w1 ⟨rfl, hb1⟩; rw [HB.out])
    go_loopw [3, 4] (fun v dv wr => ∃ d : Nat, d ≤ 7 ∧ dv = .int .i64 d ∧ OwnI wr w.heap.size v (varyTo ls d) ∧ Below w.heap.size w wr) (fun _ dv _ => 7 - (intOf dv).toNat)
    case atStart => exact ⟨0, by omega, rfl, OwnI.nil _ _, (by repeat (first | exact Below.refl _ _ | assumption | refine ext_alloc ?_ _ | refine Below.drew ?_ | refine below_drewN' ?_ _ | refine ext_set ?_ (by first | (simp; done) | (simp; omega) | omega) _ | refine ext_trans ?_ (by assumption)))⟩
    case round =>
      obtain ⟨d, hd, rfl, hown, hbel⟩ := hrel
      have HO := Lib.hid hown
      clear hown
      have hvl := varyTo_le ls d
      by_cases hd7 : d < 7
      · have hdd : decide ((d : Int) < 7) = true := by simp; omega
        go_wp2_with fail
        go_loopw [3, 16] (fun v iv wr2 => ∃ k : Nat, k ≤ n ∧ iv = .int .i64 k ∧ (∀ (j : Nat) (l : Ltr), j < k → ls[j]? = some l → dig l.2 d = dig (ls.headD (0, ⟨#[]⟩)).2 d) ∧ OwnI wr2 w.heap.size v (varyTo ls d) ∧ Below w.heap.size w wr2) (fun _ iv _ => n - (intOf iv).toNat)
        case atStart => exact ⟨0, by omega, rfl, fun j l hj => by omega, HO.out, hbel⟩
        case round =>
          obtain ⟨k, hk, rfl, hsame, hown, hbi⟩ := hrel
          have HS := Lib.hid hsame
          have HI := Lib.hid hown
          clear hsame hown
          have hsize := hbi.size
          by_cases hkn : k < n
          · have hkd : decide ((k : Int) < (n : Int)) = true := by simp; omega
            obtain ⟨g, off, l, rfl, hl, hlm, c0, c1⟩ := (HL.out.ext hbi).at_ k hkn
            obtain ⟨g', off', l0, hA', hl0, _, b0, b1⟩ := (HL.out.ext hbi).at_ 0 (by omega)
            injection hA' with hA'
            injection hA' with hg1 hg2
            subst hg1 hg2
            have h7 := batch_code HB.out hl
            have h70 := batch_code HB.out hl0
            have hdl : d < l.2.size := by omega
            have hdl0 : d < l0.2.size := by omega
            have hnp : 0 < n := by omega
            have b2 : wr.cell? ⟨g, off + 1, none⟩ = some (.string l0.2) := by simpa using b1
            have b3 : (wr.alloc (.cells #[.int .i64 l.1, .string l.2] 48)).cell? ⟨g, off + 1, none⟩ = some (.string l0.2) := cell_later (below_box _ _) b2
            have HLK := Lib.hid hl
            have HL0 := Lib.hid hl0
            have HQ := Lib.hid (dig_eq l.2 d hdl)
            have HQ0 := Lib.hid (dig_eq l0.2 d hdl0)
            clear hl hl0 h7 h70 b0 b1
            by_cases hne : dig l.2 d = dig l0.2 d
            · have hnb : ((l.2[d].toNat : Int) != (l0.2[d].toNat : Int)) = false := by rw [HQ.out, HQ0.out, hne]; simp
              have HE := Lib.hid hne
              clear hne
              go_wp2_with fail
              go_quiet (fail)
              go_wp2_with fail
              go_roundw
              case rel =>
                refine ⟨k + 1, by omega, by go_num, fun j m hj hm => ?_, HI.out.ext (below_drewN' (below_box _ _) _), (by repeat (first | exact Below.refl _ _ | assumption | refine ext_alloc ?_ _ | refine Below.drew ?_ | refine below_drewN' ?_ _ | refine ext_set ?_ (by first | (simp; done) | (simp; omega) | omega) _ | refine ext_trans ?_ (by assumption)))⟩
                by_cases hjk : j < k
                · exact HS.out j m hjk hm
                · obtain rfl : j = k := by omega
                  rw [HLK.out] at hm
                  injection hm with hm
                  subst hm
                  rw [HE.out]
                  have := HL0.out
                  cases ls with
                  | nil => simp at this
                  | cons a b => simp at this; subst this; rfl
              case measure => simp [intOf]; omega
            · have hnb : ((l.2[d].toNat : Int) != (l0.2[d].toNat : Int)) = true := by rw [HQ.out, HQ0.out]; simp; omega
              have HV := Lib.hid (show varyTo ls (d + 1) = varyTo ls d ++ [(d : Int)] from by rw [varyTo_succ, vary_stop ls d k l l0 HL0.out HLK.out hne]; simp)
              clear hne
              go_wp2_with fail
              go_quiet (fail)
              go_wp2_with (at_builtin; refine wpList_append_own_at _ rfl _ _ 69 rfl w.heap.size 3 i0 _ 1 8 Try.underlying69 hi hz0 hz1 hz2 rfl (by decide) _ _ _ rfl (by exact World.ownsRow.alloc (World.ownsRow.alloc HI.out _) _) ⟨wr.heap.size + 1, 0, none⟩ 1 1 [.int .i64 (d : Int)] rfl rfl (int_at _ _ _ _ (by simp)) (int_one _) (by unfold maxLen; omega) (by omega) (by simp; omega) ?_; intro v' w4 hown' hgrow _ hloc)
              have HO2 := Lib.hid (OwnI.app hown')
              have hb4 := (ext_alloc (below_drewN' (ext_alloc hbi _) _) _).grown hgrow (by simp; omega) (fun k hk => (World.ownsRow.lt HI.out k hk).1)
              clear hown' hgrow hloc
              go_wp2_with fail
              go_roundw
              case rel => exact ⟨d + 1, by omega, by go_num, by rw [HV.out]; exact HO2.out, hb4⟩
              case measure => simp [intOf]; omega
          · have hkd : decide ((k : Int) < (n : Int)) = false := by simp; omega
            have HV := Lib.hid (show varyTo ls (d + 1) = varyTo ls d from by
              rw [varyTo_succ, vary_none ls d (fun j l hl => HS.out j l (by have := (List.getElem?_eq_some_iff.1 hl).1; have := HLEN.out; omega) hl)]; simp)
            go_wp2_with fail
            go_roundw
            case rel => exact ⟨d + 1, by omega, by go_num, by rw [HV.out]; exact HI.out, hbi⟩
            case measure => simp [intOf]; omega
      · have hdd : decide ((d : Int) < 7) = false := by simp; omega
        obtain rfl : d = 7 := by omega
        go_wp2_with fail
        go_ret
        exact ⟨_, rfl, by rw [H.out]; exact HO.out, hbel⟩

end Go.Proofs.Ytlkpegaddbkicaa
