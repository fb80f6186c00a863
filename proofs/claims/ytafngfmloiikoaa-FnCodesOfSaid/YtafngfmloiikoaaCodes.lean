/-
  WALKS: CodesOf of both sides. By an AI agent.
-/
import Derived.Test.YtafngfmloiikoaaCod
import Derived.Test.YtafngfmloiikoaaOwnT
import Derived.Test.YtafngfmloiikoaaSort7
namespace Go.Proofs.Ytafngfmloiikoaa
open Go.RowKit

theorem info_strT : (Try.prog.info? 9).map (fun i => (i.zero, i.size, i.bytes)) = some (some (.string ⟨#[]⟩), 1, 16) := by kernel_rfl
theorem str_at (w : World) (x : ByteArray) (t : TypeId) (g : Nat) (hg : g = w.heap.size) : ∀ j u, ([.string x] : List Value)[j]? = some u → (w.alloc (.cells #[.string x] t)).cell? ((⟨g, 0, none⟩ : Addr).add j) = some u := by
  intro j u hj
  subst hg
  have hr := Row.made w t #[.string x]
  rw [add_lit', hr.cell]
  simpa using hj
theorem str_one (x : ByteArray) : ∀ u ∈ ([.string x] : List Value), u.oneCell' = true := by
  intro u hu; simp at hu; subst hu; rfl
theorem OwnT.app {w' : World} {B : Nat} {v' : Value} {xs : List ByteArray} {x : ByteArray}
    (ho : w'.ownsRow B 9 1 v' (xs.length + 1) (cellsT xs ++ [.string x])) : OwnT w' B v' (xs ++ [x]) := by
  have e : cellsT (xs ++ [x]) = cellsT xs ++ [.string x] := by simp [cellsT]
  unfold OwnT; rw [e, List.length_append]; exact ho
/-- What CodesOf answers. -/
def Codes (ls : List Ltr) (w : World) (e : Ending) (w' : World) : Prop :=
  ∃ v, e = .returned v ∧ OwnT w' w.heap.size v (codesR ls) ∧ Below w.heap.size w w'

/-- A sorted list kept beside an append to another slice. -/
theorem kept_disj {x y : World} {B : Nat} {v v' zv : Value} {zs : List Ltr} (hz : Own x B zv zs) (hd : ∀ g, v.ownBlock = some g → zv.ownBlock ≠ some g) (hg : x.grownBy y v.ownBlock) (hl : v'.ownBlock = v.ownBlock ∨ v'.ownBlock = some x.heap.size) :
    Own y B zv zs ∧ ∀ g, v'.ownBlock = some g → zv.ownBlock ≠ some g := by
  refine ⟨hz.kept hg (fun g hv he => hd g he hv), fun g hv he => ?_⟩
  rcases hl with hl | hl
  · rw [hl] at hv; exact hd g hv he
  · rw [hl] at hv; injection hv with hv
    have := (hz.1.lt g he).2; omega

set_option maxRecDepth 100000 in
set_option maxHeartbeats 8000000 in
theorem impl_CodesOf (A : Option Addr) (n cap : Nat) (ls : List Ltr) (w : World) (h : LS w A n cap ls) (hnil : A = none → cap = 0) (hn100 : n ≤ 1048576) :
    Calls Try.prog 52 #[.slice A n cap] w (Codes ls w) := by
  have HL := Lib.hid h
  have HNC := Lib.hid hnil
  have HN := Lib.hid h.1
  clear h hnil
  obtain ⟨i0, hi, hz0, hz1, hz2⟩ := info_parts info_strT
  go_enter Try.func52, Try.ntmps52
  go_wp2_with fail
  refine (impl_SortBatch _ _ _ _ _ HL.out HNC.out).mono ?_
  rintro e w1 ⟨v1, rfl, ho1, hb1⟩
  have HT0 := Lib.hid (OwnT.nil w1 w.heap.size)
  have HD0 := Lib.hid (show ∀ g, (Value.slice none 0 0).ownBlock = some g → v1.ownBlock ≠ some g from fun g hg => by simp [Value.ownBlock] at hg)
  have HB1 := Lib.hid hb1
  obtain ⟨zs, hzs⟩ : ∃ zs, sortR ls = zs := ⟨_, rfl⟩
  have hsl := sortR_len ls
  have HE := Lib.hid (show codesR ls = cod zs zs.length from by unfold codesR; rw [hzs])
  rw [hzs] at ho1 hsl
  obtain ⟨A1, c1, rfl, _⟩ := ho1.read
  obtain ⟨m, hm⟩ : ∃ m, zs.length = m := ⟨_, rfl⟩
  rw [hm] at ho1 hsl HE HD0 ⊢
  rw [HN.out] at hsl
  have HM := Lib.hid hm
  have HZ0 := Lib.hid ho1
  clear ho1 hb1 hzs hm HL HNC
  go_wp2_with fail
  go_loopw [5, 15] (fun v iv wr => ∃ k : Nat, k ≤ m ∧ iv = .int .i64 k ∧ OwnT wr w.heap.size v (cod zs k) ∧ Own wr w.heap.size (.slice A1 m c1) zs ∧ (∀ g, v.ownBlock = some g → (Value.slice A1 m c1).ownBlock ≠ some g) ∧ Below w.heap.size w wr) (fun _ iv _ => m - (intOf iv).toNat)
  case atStart => exact ⟨0, by omega, rfl, HT0.out, HZ0.out, HD0.out, HB1.out⟩
  case round =>
    clear HT0 HZ0 HD0
    obtain ⟨k, hk, rfl, hown, hzo, hdj, hbel⟩ := hrel
    have HO := Lib.hid hown
    have HZ := Lib.hid hzo
    have HDJ := Lib.hid hdj
    have hcl := cod_le zs k
    have hsize := hbel.size
    clear hown hzo hdj
    by_cases hkm : k < m
    · obtain ⟨g, off, l, hA, hl, _, c0, c1'⟩ := HZ.out.ls.at_ k hkm
      have HCD := Lib.hid (cdAt_eq hl)
      have HSC := Lib.hid (cod_succ zs k)
      have hkd : decide ((k : Int) < (m : Int)) = true := by simp; omega
      have hki : (k : Int) < (m : Int) := by omega
      by_cases hk0 : k = 0
      · have HNEW := Lib.hid (show cod zs (k + 1) = cod zs k ++ [l.2] from by rw [HSC.out, if_pos (by simp [newAt, hk0]), HCD.out])
        have hkz : ((k : Int) == 0) = true := by simp; omega
        subst hA
        clear hk0 hl
        go_wp2_with fail
        go_quiet (fail)
        go_wp2_with (at_builtin; refine wpList_append_own_at _ rfl _ _ 56 rfl w.heap.size 9 i0 _ 1 16 Try.underlying56 hi hz0 hz1 hz2 rfl (by decide) _ _ _ rfl (by exact World.ownsRow.alloc (World.ownsRow.alloc HO.out _) _) ⟨wr.heap.size + 1, 0, none⟩ 1 1 [.string l.2] rfl rfl (str_at _ _ _ _ (by simp)) (str_one _) (by unfold maxLen; omega) (by omega) (by simp; omega) ?_; intro v' w4 hown' hgrow _ hloc)
        have HO2 := Lib.hid (OwnT.app hown')
        have hb4 := (ext_alloc (below_drewN' (ext_alloc hbel _) _) _).grown hgrow (by simp; omega) (fun k hk => (World.ownsRow.lt HO.out k hk).1)
        have HZ4 := Lib.hid (kept_disj (((HZ.out.ext (below_box _ _)).drewN).ext (below_box _ _)) HDJ.out hgrow hloc)
        clear hown' hgrow hloc
        go_wp2_with fail
        go_roundw
        case rel => exact ⟨k + 1, by omega, by go_num, by rw [HNEW.out]; exact HO2.out, HZ4.out.1, HZ4.out.2, hb4⟩
        case measure => simp [intOf]; omega
      · obtain ⟨p, rfl⟩ : ∃ p, k = p + 1 := ⟨k - 1, by omega⟩
        obtain ⟨g', off', l0, hA', hl0, _, d0, d1⟩ := HZ.out.ls.at_ p (by omega)
        subst hA
        injection hA' with hA'
        injection hA' with hg1 hg2
        subst hg1 hg2
        have HCP := Lib.hid (cdAt_eq hl0)
        have hkz : ((p : Int) + 1 == 0) = false := by simp; omega
        have hkz2 : (((p + 1 : Nat) : Int) == 0) = false := by simp; omega
        have hpm : (p : Int) < (m : Int) := by omega
        have hpm1 : (p : Int) + 1 < (m : Int) := by omega
        have p0 : (0 : Int) ≤ (p : Int) + 1 := by omega
        have d2 : (wr.alloc (.cells #[.int .i64 l.1, .string l.2] 31)).cell? ⟨g, off + p * 2 + 1, none⟩ = some (.string l0.2) := cell_later (below_box _ _) d1
        cases hc : (l.2.toList == l0.2.toList) with
        | false =>
          have HNEW := Lib.hid (show cod zs (p + 1 + 1) = cod zs (p + 1) ++ [l.2] from by
            rw [HSC.out, if_pos (by simp only [newAt, Nat.add_sub_cancel, HCD.out, HCP.out, hc]; simp), HCD.out])
          have hne : (l.2.toList != l0.2.toList) = true := by unfold bne; rw [hc]; rfl
          clear hl hl0
          go_wp2_with fail
          have hwp : IntKind.i64.wrap (p : Int) = (p : Int) := IntWalk.i64_in _ (by omega)
          have e0 : ((p : Int) + 1).toNat = p + 1 := by omega
          go_quiet (fail)
          clear hwp e0
          go_wp2_with (at_builtin; refine wpList_append_own_at _ rfl _ _ 56 rfl w.heap.size 9 i0 _ 1 16 Try.underlying56 hi hz0 hz1 hz2 rfl (by decide) _ _ _ rfl (by exact World.ownsRow.alloc (World.ownsRow.alloc HO.out _) _) ⟨wr.heap.size + 1, 0, none⟩ 1 1 [.string l.2] rfl rfl (str_at _ _ _ _ (by simp)) (str_one _) (by unfold maxLen; omega) (by omega) (by simp; omega) ?_; intro v' w4 hown' hgrow _ hloc)
          have HO2 := Lib.hid (OwnT.app hown')
          have hb4 := (ext_alloc (below_drewN' (ext_alloc hbel _) _) _).grown hgrow (by simp; omega) (fun k hk => (World.ownsRow.lt HO.out k hk).1)
          have HZ4 := Lib.hid (kept_disj (((HZ.out.ext (below_box _ _)).drewN).ext (below_box _ _)) HDJ.out hgrow hloc)
          clear hown' hgrow hloc
          go_wp2_with fail
          go_roundw
          case rel => exact ⟨p + 1 + 1, by omega, by go_num, by rw [HNEW.out]; exact HO2.out, HZ4.out.1, HZ4.out.2, hb4⟩
          case measure => simp [intOf]; omega
        | true =>
          have HNEW := Lib.hid (show cod zs (p + 1 + 1) = cod zs (p + 1) from by
            rw [HSC.out, if_neg (by simp only [newAt, Nat.add_sub_cancel, HCD.out, HCP.out, hc]; simp), List.append_nil])
          have hne : (l.2.toList != l0.2.toList) = false := by unfold bne; rw [hc]; rfl
          clear hl hl0
          go_wp2_with fail
          have hwp : IntKind.i64.wrap (p : Int) = (p : Int) := IntWalk.i64_in _ (by omega)
          have e0 : ((p : Int) + 1).toNat = p + 1 := by omega
          go_quiet (fail)
          clear hwp e0
          go_wp2_with fail
          go_roundw
          case rel => exact ⟨p + 1 + 1, by omega, by go_num, by rw [HNEW.out]; exact HO.out.ext (below_drewN' (below_box _ _) _), HZ.out.ext (below_drewN' (below_box _ _) _), HDJ.out, (by repeat (first | exact Below.refl _ _ | assumption | refine ext_alloc ?_ _ | refine Below.drew ?_ | refine below_drewN' ?_ _ | refine ext_set ?_ (by first | (simp; done) | (simp; omega) | omega) _ | refine ext_trans ?_ (by assumption)))⟩
          case measure => simp [intOf]; omega
    · obtain rfl : k = m := by omega
      have hkd : decide ((k : Int) < (k : Int)) = false := by simp
      go_wp2_with fail
      go_ret
      exact ⟨_, rfl, by rw [HE.out]; exact HO.out, hbel⟩

set_option maxRecDepth 100000 in
set_option maxHeartbeats 8000000 in
theorem spec_CodesOf (A : Option Addr) (n cap : Nat) (ls : List Ltr) (w : World) (h : LS w A n cap ls) (hnil : A = none → cap = 0) (hn100 : n ≤ 1048576) :
    Calls Try.prog 51 #[.slice A n cap] w (Codes ls w) := by
  have HL := Lib.hid h
  have HNC := Lib.hid hnil
  have HN := Lib.hid h.1
  clear h hnil
  obtain ⟨i0, hi, hz0, hz1, hz2⟩ := info_parts info_strT
  go_enter Try.func51, Try.ntmps51
  go_wp2_with fail
  refine (spec_SortBatch _ _ _ _ _ (HL.out.ext (below_box _ _)) HNC.out).mono ?_
  rintro e w1 ⟨v1, rfl, ho1, hb1⟩
  have HT0 := Lib.hid (OwnT.ext (show OwnT (w.alloc (.cells #[] 9)) w.heap.size (.slice (some ⟨w.heap.size, 0, none⟩) 0 0) [] from World.ownsRow_made w #[] 0 (Nat.le_refl _) (by unfold maxLen; omega) rfl) hb1)
  have hs0 : (w.alloc (.cells #[] 9)).heap.size = w.heap.size + 1 := by simp
  have HD0 := Lib.hid (show ∀ g, (Value.slice (some ⟨w.heap.size, 0, none⟩) 0 0).ownBlock = some g → v1.ownBlock ≠ some g from fun g hg he => by
    simp [Value.ownBlock] at hg
    have := (ho1.1.lt g he).1; omega)
  have HB1 := Lib.hid (ext_trans (below_box w _) hb1)
  replace ho1 := ho1.mono (show w.heap.size ≤ _ by rw [hs0]; omega)
  obtain ⟨zs, hzs⟩ : ∃ zs, sortR ls = zs := ⟨_, rfl⟩
  have hsl := sortR_len ls
  have HE := Lib.hid (show codesR ls = cod zs zs.length from by unfold codesR; rw [hzs])
  rw [hzs] at ho1 hsl
  obtain ⟨A1, c1, rfl, _⟩ := ho1.read
  obtain ⟨m, hm⟩ : ∃ m, zs.length = m := ⟨_, rfl⟩
  rw [hm] at ho1 hsl HE HD0 ⊢
  rw [HN.out] at hsl
  have HM := Lib.hid hm
  have HZ0 := Lib.hid ho1
  clear ho1 hb1 hzs hm HL HNC
  go_wp2_with fail
  go_loopw [3, 6] (fun v iv wr => ∃ k : Nat, k ≤ m ∧ iv = .int .i64 k ∧ OwnT wr w.heap.size v (cod zs k) ∧ Own wr w.heap.size (.slice A1 m c1) zs ∧ (∀ g, v.ownBlock = some g → (Value.slice A1 m c1).ownBlock ≠ some g) ∧ Below w.heap.size w wr) (fun _ iv _ => m - (intOf iv).toNat)
  case atStart => exact ⟨0, by omega, rfl, HT0.out, HZ0.out, HD0.out, HB1.out⟩
  case round =>
    clear HT0 HZ0 HD0
    obtain ⟨k, hk, rfl, hown, hzo, hdj, hbel⟩ := hrel
    have HO := Lib.hid hown
    have HZ := Lib.hid hzo
    have HDJ := Lib.hid hdj
    have hcl := cod_le zs k
    have hsize := hbel.size
    clear hown hzo hdj
    by_cases hkm : k < m
    · obtain ⟨g, off, l, hA, hl, _, c0, c1'⟩ := HZ.out.ls.at_ k hkm
      have HCD := Lib.hid (cdAt_eq hl)
      have HSC := Lib.hid (cod_succ zs k)
      have hkd : decide ((k : Int) < (m : Int)) = true := by simp; omega
      have hki : (k : Int) < (m : Int) := by omega
      by_cases hk0 : k = 0
      · have HNEW := Lib.hid (show cod zs (k + 1) = cod zs k ++ [l.2] from by rw [HSC.out, if_pos (by simp [newAt, hk0]), HCD.out])
        have hkz : ((k : Int) == 0) = true := by simp; omega
        subst hA
        clear hk0 hl
        go_wp2_with fail
        go_quiet (fail)
        go_wp2_with (at_builtin; refine wpList_append_own_at _ rfl _ _ 56 rfl w.heap.size 9 i0 _ 1 16 Try.underlying56 hi hz0 hz1 hz2 rfl (by decide) _ _ _ rfl (by exact World.ownsRow.alloc HO.out _) ⟨wr.heap.size, 0, none⟩ 1 1 [.string l.2] rfl rfl (str_at _ _ _ _ (by simp)) (str_one _) (by unfold maxLen; omega) (by omega) (by simp; omega) ?_; intro v' w4 hown' hgrow _ hloc)
        have HO2 := Lib.hid (OwnT.app hown')
        have hb4 := (ext_alloc (below_drewN' hbel _) _).grown hgrow (by simp; omega) (fun k hk => (World.ownsRow.lt HO.out k hk).1)
        have HZ4 := Lib.hid (kept_disj ((HZ.out.drewN).ext (below_box _ _)) HDJ.out hgrow hloc)
        clear hown' hgrow hloc
        go_wp2_with fail
        go_roundw
        case rel => exact ⟨k + 1, by omega, by go_num, by rw [HNEW.out]; exact HO2.out, HZ4.out.1, HZ4.out.2, hb4⟩
        case measure => simp [intOf]; omega
      · obtain ⟨p, rfl⟩ : ∃ p, k = p + 1 := ⟨k - 1, by omega⟩
        obtain ⟨g', off', l0, hA', hl0, _, d0, d1⟩ := HZ.out.ls.at_ p (by omega)
        subst hA
        injection hA' with hA'
        injection hA' with hg1 hg2
        subst hg1 hg2
        have HCP := Lib.hid (cdAt_eq hl0)
        have hkz : ((p : Int) + 1 == 0) = false := by simp; omega
        have hkz2 : (((p + 1 : Nat) : Int) == 0) = false := by simp; omega
        have hpm : (p : Int) < (m : Int) := by omega
        have hpm1 : (p : Int) + 1 < (m : Int) := by omega
        have p0 : (0 : Int) ≤ (p : Int) + 1 := by omega
        cases hc : (l.2.toList == l0.2.toList) with
        | false =>
          have HNEW := Lib.hid (show cod zs (p + 1 + 1) = cod zs (p + 1) ++ [l.2] from by
            rw [HSC.out, if_pos (by simp only [newAt, Nat.add_sub_cancel, HCD.out, HCP.out, hc]; simp), HCD.out])
          have hne : (l.2.toList != l0.2.toList) = true := by unfold bne; rw [hc]; rfl
          clear hl hl0
          go_wp2_with fail
          have hwp : IntKind.i64.wrap (p : Int) = (p : Int) := IntWalk.i64_in _ (by omega)
          have e0 : ((p : Int) + 1).toNat = p + 1 := by omega
          go_quiet (fail)
          clear hwp e0
          go_wp2_with (at_builtin; refine wpList_append_own_at _ rfl _ _ 56 rfl w.heap.size 9 i0 _ 1 16 Try.underlying56 hi hz0 hz1 hz2 rfl (by decide) _ _ _ rfl (by exact World.ownsRow.alloc HO.out _) ⟨wr.heap.size, 0, none⟩ 1 1 [.string l.2] rfl rfl (str_at _ _ _ _ (by simp)) (str_one _) (by unfold maxLen; omega) (by omega) (by simp; omega) ?_; intro v' w4 hown' hgrow _ hloc)
          have HO2 := Lib.hid (OwnT.app hown')
          have hb4 := (ext_alloc (below_drewN' hbel _) _).grown hgrow (by simp; omega) (fun k hk => (World.ownsRow.lt HO.out k hk).1)
          have HZ4 := Lib.hid (kept_disj ((HZ.out.drewN).ext (below_box _ _)) HDJ.out hgrow hloc)
          clear hown' hgrow hloc
          go_wp2_with fail
          go_roundw
          case rel => exact ⟨p + 1 + 1, by omega, by go_num, by rw [HNEW.out]; exact HO2.out, HZ4.out.1, HZ4.out.2, hb4⟩
          case measure => simp [intOf]; omega
        | true =>
          have HNEW := Lib.hid (show cod zs (p + 1 + 1) = cod zs (p + 1) from by
            rw [HSC.out, if_neg (by simp only [newAt, Nat.add_sub_cancel, HCD.out, HCP.out, hc]; simp), List.append_nil])
          have hne : (l.2.toList != l0.2.toList) = false := by unfold bne; rw [hc]; rfl
          clear hl hl0
          go_wp2_with fail
          have hwp : IntKind.i64.wrap (p : Int) = (p : Int) := IntWalk.i64_in _ (by omega)
          have e0 : ((p : Int) + 1).toNat = p + 1 := by omega
          go_quiet (fail)
          clear hwp e0
          go_wp2_with fail
          go_roundw
          case rel => exact ⟨p + 1 + 1, by omega, by go_num, by rw [HNEW.out]; exact HO.out.ext (below_drewN' (Below.refl _ _) _), HZ.out.ext (below_drewN' (Below.refl _ _) _), HDJ.out, (by repeat (first | exact Below.refl _ _ | assumption | refine ext_alloc ?_ _ | refine Below.drew ?_ | refine below_drewN' ?_ _ | refine ext_set ?_ (by first | (simp; done) | (simp; omega) | omega) _ | refine ext_trans ?_ (by assumption)))⟩
          case measure => simp [intOf]; omega
    · obtain rfl : k = m := by omega
      have hkd : decide ((k : Int) < (k : Int)) = false := by simp
      go_wp2_with fail
      go_ret
      exact ⟨_, rfl, by rw [HE.out]; exact HO.out, hbel⟩

end Go.Proofs.Ytafngfmloiikoaa
