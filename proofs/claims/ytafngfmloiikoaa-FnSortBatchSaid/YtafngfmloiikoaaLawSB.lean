/-
  THE LAW FnSortBatch: the walk. By an AI agent.
-/
import Derived.Test.YtafngfmloiikoaaDrawN
import Derived.Test.YtafngfmloiikoaaSo
import Derived.Test.YtafngfmloiikoaaPlainS
namespace Go.Proofs.Ytafngfmloiikoaa
open Go.RowKit

/-- Four cells and a batch, kept by whatever makes new memory alone. -/
theorem keep6 {u v x : World} {a0 a1 a2 a3 : Addr} {v0 v1 v2 v3 : Value} {A : Option Addr} {n c : Nat} {ls : List Ltr} (hb : Below u.heap.size u v)
    (h : u.cell? a0 = some v0 ∧ u.cell? a1 = some v1 ∧ u.cell? a2 = some v2 ∧ u.cell? a3 = some v3 ∧ Hid (LS u A n c ls) ∧ Hid (Below x.heap.size x u)) :
    v.cell? a0 = some v0 ∧ v.cell? a1 = some v1 ∧ v.cell? a2 = some v2 ∧ v.cell? a3 = some v3 ∧ Hid (LS v A n c ls) ∧ Hid (Below x.heap.size x v) :=
  ⟨cell_later hb h.1, cell_later hb h.2.1, cell_later hb h.2.2.1, cell_later hb h.2.2.2.1, Lib.hid (h.2.2.2.2.1.out.ext hb), Lib.hid (ext_trans h.2.2.2.2.2.out hb)⟩
theorem ls6 {u x : World} {a0 a1 a2 a3 : Addr} {v0 v1 v2 v3 : Value} {A : Option Addr} {n c : Nat} {ls : List Ltr}
    (h : u.cell? a0 = some v0 ∧ u.cell? a1 = some v1 ∧ u.cell? a2 = some v2 ∧ u.cell? a3 = some v3 ∧ Hid (LS u A n c ls) ∧ Hid (Below x.heap.size x u)) : LS u A n c ls := h.2.2.2.2.1.out
theorem bl6 {u x : World} {a0 a1 a2 a3 : Addr} {v0 v1 v2 v3 : Value} {A : Option Addr} {n c : Nat} {ls : List Ltr}
    (h : u.cell? a0 = some v0 ∧ u.cell? a1 = some v1 ∧ u.cell? a2 = some v2 ∧ u.cell? a3 = some v3 ∧ Hid (LS u A n c ls) ∧ Hid (Below x.heap.size x u)) : Below x.heap.size x u := h.2.2.2.2.2.out

set_option maxRecDepth 100000 in
set_option maxHeartbeats 8000000 in
theorem law_FnSortBatch (a : Option Addr) (len cap : Nat) (w : World) (h : BytesIn w a len cap) :
    Calls Try.prog 12 #[.slice a len cap] w fun e w' => e = .returned (.bool true) ∧ Below w.heap.size w w' := by
  have HC := Lib.hid h
  have hlen : len ≤ 9223372036854775807 := by have := h.1; have := h.2.1; unfold maxLen at this; omega
  clear h
  by_cases hbig : len ≤ 1048576
  · go_enter Try.func12, Try.ntmps12
    go_wp2_with fail
    refine (DrawSortBatch_any _ _ _ _ HC.out).mono ?_
    rintro e w1 ⟨v, ls, rfl, ho, hl61, hb1⟩
    obtain ⟨A, c, rfl, hls⟩ := ho.read
    obtain ⟨n, hn⟩ : ∃ n, ls.length = n := ⟨_, rfl⟩
    have HNC := Lib.hid ho.nilcap
    rw [hn] at hls hl61 ⊢
    have HN := Lib.hid hn
    have HL := Lib.hid hls
    have HBW := Lib.hid hb1
    clear ho hls hn hb1
    go_wp2_with fail
    refine (impl_SortBatch _ _ _ _ _ HL.out HNC.out).mono ?_
    rintro e w2 ⟨v2, rfl, ho2, hb2⟩
    obtain ⟨A2, c2, rfl, hl2⟩ := ho2.read
    replace HL := Lib.hid (HL.out.ext hb2)
    replace HBW := Lib.hid (ext_trans HBW.out hb2)
    have HL2 := Lib.hid hl2
    have HNC2 := Lib.hid ho2.nilcap
    clear hb2 ho2 hl2
    go_wp2_with fail
    refine (spec_SortBatch _ _ _ _ _ HL.out HNC.out).mono ?_
    rintro e w3 ⟨v3, rfl, ho3, hb3⟩
    obtain ⟨A3, c3, rfl, hl3⟩ := ho3.read
    replace HL := Lib.hid (HL.out.ext hb3)
    replace HL2 := Lib.hid (HL2.out.ext hb3)
    replace HBW := Lib.hid (ext_trans HBW.out hb3)
    have HL3 := Lib.hid hl3
    clear hb3 ho3 hl3
    have hsl := sortR_len ls
    obtain ⟨m, hm⟩ : ∃ m, (sortR ls).length = m := ⟨_, rfl⟩
    rw [hm] at HL2 HL3 hsl ⊢
    have HM := Lib.hid hm
    rw [HN.out] at hsl
    clear hm
    go_wp2_with fail
    refine (soBatch_same _ _ _ _ _ _ _ _ HL2.out HL3.out).mono ?_
    rintro e w4 ⟨rfl, hb4⟩
    replace HL := Lib.hid (HL.out.ext hb4)
    replace HL2 := Lib.hid (HL2.out.ext hb4)
    replace HL3 := Lib.hid (HL3.out.ext hb4)
    replace HBW := Lib.hid (ext_trans HBW.out hb4)
    clear hb4
    cases hbb : batchB ls with
    | false =>
      clear hbb
      go_wp2_with fail
      refine (soBatch_same _ _ _ _ _ _ _ _ HL2.out HL3.out).mono ?_
      rintro e w5 ⟨rfl, hb5⟩
      replace HBW := Lib.hid (ext_trans HBW.out hb5)
      clear hb5
      go_wp2_with fail
      go_ret
      exact ⟨rfl, HBW.out⟩
    | true =>
      have HB := Lib.hid hbb
      have HE := Lib.hid (sortR_true hbb)
      clear hbb HL3
      go_wp2_with fail
      go_loopw [8] (fun iv wr => ∃ i : Nat, 1 ≤ i ∧ (i ≤ m ∨ i = 1) ∧ iv = .int .i64 i ∧ Below w4.heap.size w4 wr) (fun iv _ => m - (intOf iv).toNat)
      case atStart => exact ⟨1, by omega, by omega, rfl, Below.refl _ _⟩
      case round =>
        obtain ⟨i, hi1, hi, rfl, hbel⟩ := hrel
        have HBI := Lib.hid hbel
        by_cases him : i < m
        · obtain ⟨p, rfl⟩ : ∃ p, i = p + 1 := ⟨i - 1, by omega⟩
          obtain ⟨g, off, y, hA, hy, _, c0, c1⟩ := (HL2.out.ext hbel).at_ (p + 1) him
          obtain ⟨g', off', x, hA', hx, _, d0, d1⟩ := (HL2.out.ext hbel).at_ p (by omega)
          subst hA
          injection hA' with hA'
          injection hA' with hg1 hg2
          subst hg1 hg2
          rw [HE.out] at hx hy
          have hlt := stabL_near hx hy
          have hlt2 : Op.bytesLess y.2.toList x.2.toList = false := hlt
          have hpd : decide ((p : Int) + 1 < (m : Int)) = true := by simp; omega
          have hpm : (p : Int) + 1 < (m : Int) := by omega
          have hpm2 : (p : Int) < (m : Int) := by omega
          have hwp : IntKind.i64.wrap (p : Int) = (p : Int) := IntWalk.i64_in _ (by omega)
          have p0 : (0 : Int) ≤ (p : Int) + 1 := by omega
          have e0 : ((p : Int) + 1).toNat = p + 1 := by omega
          by_cases hcode : y.2 = x.2
          · have hpl := stabL_place HB.out hx hy hcode
            have hpd2 : decide (findL ls y.1 < findL ls x.1) = false := by simp; omega
            have heq : (y.2.toList == x.2.toList) = true := by rw [hcode]; simp
            have HLX := Lib.hid (show LS wr.drew A n c ls from (HL.out.ext hbel).ext (Below.drew (Below.refl _ _)))
            replace HBI := Lib.hid (show Below w4.heap.size w4 wr.drew from Below.drew hbel)
            clear hx hy hlt hcode hpl hbel
            go_wp2_with fail
            go_region_held3 (fun u => u.cell? ⟨g, off + (p + 1) * 2, none⟩ = some (.int .i64 y.1) ∧ u.cell? ⟨g, off + (p + 1) * 2 + 1, none⟩ = some (.string y.2) ∧ u.cell? ⟨g, off + p * 2, none⟩ = some (.int .i64 x.1) ∧ u.cell? ⟨g, off + p * 2 + 1, none⟩ = some (.string x.2) ∧ Hid (LS u A n c ls) ∧ Hid (Below w4.heap.size w4 u)) (first | exact ⟨c0, c1, d0, d1, HLX, HBI⟩ | assumption | exact keep6 hb5 (by assumption)) (first | (go_at_call 19; refine (soPlace_any _ _ _ ls _ _ (ls6 (by assumption))).mono ?_; rintro e w5 ⟨rfl, hb5⟩))
            clear hwp e0
            go_wp2_with fail
            go_roundw
            case rel => exact ⟨p + 1 + 1, by omega, by omega, by go_num, bl6 (by assumption)⟩
            case measure => simp [intOf]; omega
          · have heq : (y.2.toList == x.2.toList) = false := by simp; exact fun e => hcode (code_ext e)
            clear hx hy hlt hcode
            go_wp2_with fail
            go_quiet (fail)
            clear hwp e0
            go_wp2_with fail
            go_roundw
            case rel => exact ⟨p + 1 + 1, by omega, by omega, by go_num, (by repeat (first | exact Below.refl _ _ | assumption | refine ext_alloc ?_ _ | refine Below.drew ?_ | refine below_drewN' ?_ _ | refine ext_set ?_ (by first | (simp; done) | (simp; omega) | omega) _ | refine ext_trans ?_ (by assumption)))⟩
            case measure => simp [intOf]; omega
        · have hpd : decide ((i : Int) < (m : Int)) = false := by simp; omega
          replace HL := Lib.hid (HL.out.ext hbel)
          replace HL2 := Lib.hid (HL2.out.ext hbel)
          replace HBW := Lib.hid (ext_trans HBW.out hbel)
          have HP := Lib.hid (show List.Perm (sortR ls) ls from by rw [HE.out]; exact stabL_perm ls)
          have HSB := Lib.hid (show sortedB (sortR ls) = true from by rw [HE.out]; exact stabL_sortedB HB.out)
          have HRR := Lib.hid (show sortR (sortR ls) = sortR ls from by rw [HE.out]; exact sortR_stab HB.out)
          clear hbel
          go_wp2_with fail
          refine (soAll_any _ _ _ _ _ _ _ _ _ HL2.out HL.out HP.out HB.out).mono ?_
          rintro e w5 ⟨rfl, hb5⟩
          replace HL2 := Lib.hid (HL2.out.ext hb5)
          replace HBW := Lib.hid (ext_trans HBW.out hb5)
          clear hb5
          go_wp2_with fail
          refine (impl_SortedBatch _ _ _ _ _ HL2.out).mono ?_
          rintro e w6 ⟨rfl, hb6⟩
          rw [HSB.out]
          replace HL2 := Lib.hid (HL2.out.ext hb6)
          replace HBW := Lib.hid (ext_trans HBW.out hb6)
          clear hb6
          go_wp2_with fail
          refine (soSorted_any _ _ _ _ _ HL2.out HNC2.out).mono ?_
          rintro e w7 ⟨v7, rfl, ho7, hb7⟩
          rw [HRR.out] at ho7
          obtain ⟨A7, c7, rfl, hl7⟩ := ho7.read
          rw [HM.out] at hl7 ⊢
          have HL7 := Lib.hid hl7
          replace HL2 := Lib.hid (HL2.out.ext hb7)
          replace HBW := Lib.hid (ext_trans HBW.out hb7)
          clear hb7 ho7 hl7
          go_wp2_with fail
          refine (soBatch_same _ _ _ _ _ _ _ _ HL7.out HL2.out).mono ?_
          rintro e w8 ⟨rfl, hb8⟩
          replace HBW := Lib.hid (ext_trans HBW.out hb8)
          clear hb8
          go_wp2_with fail
          go_ret
          exact ⟨rfl, HBW.out⟩
  · go_enter Try.func12, Try.ntmps12
    go_wp2_with fail
    go_ret
    exact ⟨rfl, (by repeat (first | exact Below.refl _ _ | assumption | refine ext_alloc ?_ _ | refine Below.drew ?_ | refine below_drewN' ?_ _ | refine ext_set ?_ (by first | (simp; done) | (simp; omega) | omega) _ | refine ext_trans ?_ (by assumption)))⟩

end Go.Proofs.Ytafngfmloiikoaa
