/-
  WALKS: the library's merging of two neighbouring ranges of letters in place. By an AI agent.
-/
import Derived.Test.YtafngfmloiikoaaSort5
import Derived.Deep.DeepCutAuto
namespace Go.Proofs.Ytafngfmloiikoaa
open Go.RowKit Go.Sort

/-- The statement of merging in place, for ranges of some length. -/
def SymN (N : Nat) : Prop := ∀ (B g n cap : Nat) (X L R Y : List Ltr) (a m b : Nat) (w : World), b - a ≤ N → Own w B (.slice (some ⟨g, 0, none⟩) n cap) (X ++ L ++ R ++ Y) →
    X.length = a → a + L.length = m → m + R.length = b → 0 < L.length → 0 < R.length → L.Pairwise leL → R.Pairwise leL → n ≤ 100 →
    Calls Try.prog 98 #[.slice (some ⟨g, 0, none⟩) n cap, .int .i64 a, .int .i64 m, .int .i64 b, .func (.func 80) #[] #[]] w (Sorts B g n cap (X ++ mergeL L R ++ Y) w)
/-- How far the search for the place of the rotation has come. -/
def LoS (ls : List Ltr) (n0 s0 s : Nat) : Prop := s = s0 ∨ ∃ x y, ls[s - 1]? = some x ∧ ls[n0 - s]? = some y ∧ leL x y
def HiS (ls : List Ltr) (n0 r0 r : Nat) : Prop := r = r0 ∨ ∃ x y, ls[r]? = some x ∧ ls[n0 - 1 - r]? = some y ∧ ltB y.2 x.2 = true
/-- Where the search begins. -/
def From (a m b mid s0 r0 : Nat) : Prop := (mid < m ∧ s0 = mid + m - b ∧ r0 = mid) ∨ (m ≤ mid ∧ s0 = a ∧ r0 = m)

set_option maxHeartbeats 16000000 in
set_option maxRecDepth 1000000 in
theorem symMid_any (N : Nat) (IH : SymN N) (B g n cap : Nat) (X L R Y : List Ltr) (a m b : Nat) (w : World) (hN : b - a ≤ N + 1) (h : Own w B (.slice (some ⟨g, 0, none⟩) n cap) (X ++ L ++ R ++ Y))
    (ha : X.length = a) (hm : a + L.length = m) (hb : m + R.length = b) (hL1 : 1 < L.length) (hR1 : 1 < R.length) (hL : L.Pairwise leL) (hR : R.Pairwise leL) (hn : n ≤ 100) :
    Calls Try.prog 98 #[.slice (some ⟨g, 0, none⟩) n cap, .int .i64 a, .int .i64 m, .int .i64 b, .func (.func 80) #[] #[]] w (Sorts B g n cap (X ++ mergeL L R ++ Y) w) := by
  have mixed : Try.prog.follows .mixedOrders = true := by kernel_rfl
  have HIH := Lib.hid IH
  have HO0 := Lib.hid h
  have hlen : (X ++ L ++ R ++ Y).length = n := h.len.symm
  have hbn : b ≤ n := by simp at hlen; omega
  have hmb : m + 1 < b := by omega
  have ham : a + 1 < m := by omega
  have HA := Lib.hid ha
  have HM := Lib.hid hm
  have HB := Lib.hid hb
  have HLS := Lib.hid hL
  have HRS := Lib.hid hR
  have HN := Lib.hid hlen
  have ham1 : ((m : Int) - (a : Int) == 1) = false := by simp; omega
  have hbm1 : ((b : Int) - (m : Int) == 1) = false := by simp; omega
  clear IH h hlen ha hb hL hm hL1 hR1 hR
  obtain ⟨ls, hls⟩ : ∃ ls, X ++ L ++ R ++ Y = ls := ⟨_, rfl⟩
  rw [hls] at HO0 HN
  have HLL := Lib.hid hls
  obtain ⟨mid, hmid⟩ : ∃ q, (a + b) / 2 = q := ⟨_, rfl⟩
  have HMID := Lib.hid (show ((a : Int) + (b : Int)) / 2 = (mid : Int) by omega)
  obtain ⟨n0, hn0⟩ : ∃ q, mid + m = q := ⟨_, rfl⟩
  have HN0 := Lib.hid (show ((mid : Int) + (m : Int)) = (n0 : Int) by omega)
  have HN0' := Lib.hid hn0
  have ham2 : a < mid := by omega
  have hbm2 : mid < b := by omega
  have hmid1 : 2 * mid ≤ a + b := by omega
  have hmid2 : a + b ≤ 2 * mid + 1 := by omega
  have hn0a : n0 ≤ 200 := by omega
  have hn0b : m ≤ n0 := by omega
  clear hls hmid hn0
  go_enter Try.func98, Try.ntmps98
  go_upto_if 140 with fail
  rw [HMID.out, HN0.out]
  go_cut [20, 21] (fun sv rv wx => ∃ s0 r0 : Nat, sv = .int .i64 s0 ∧ rv = .int .i64 r0 ∧ From a m b mid s0 r0 ∧ w = wx)
  case first =>
    by_cases hgt : mid < m
    · have hgd : decide ((mid : Int) < (m : Int)) = true := by simp; omega
      have HS := Lib.hid (show ((n0 : Int) - (b : Int)) = ((mid + m - b : Nat) : Int) by have := HN0'.out; omega)
      go_wp2_with fail
      go_meet
      exact ⟨mid + m - b, mid, by rw [HS.out], rfl, .inl ⟨hgt, rfl, rfl⟩, rfl⟩
    · have hgd : decide ((mid : Int) < (m : Int)) = false := by simp; omega
      go_wp2_with fail
      go_meet
      exact ⟨a, m, rfl, rfl, .inr ⟨by omega, rfl, rfl⟩, rfl⟩
  case rest =>
    as_aux_lemma =>
      obtain ⟨s0, r0, rfl, rfl, hfrom, rfl⟩ := hcut
      have HFR := Lib.hid hfrom
      have hs0 : a ≤ s0 := by rcases hfrom with ⟨h1, h2, h3⟩ | ⟨h1, h2, h3⟩ <;> omega
      have hsr0 : s0 ≤ r0 := by rcases hfrom with ⟨h1, h2, h3⟩ | ⟨h1, h2, h3⟩ <;> omega
      have hr0m : r0 ≤ m := by rcases hfrom with ⟨h1, h2, h3⟩ | ⟨h1, h2, h3⟩ <;> omega
      have hr0d : r0 ≤ mid := by rcases hfrom with ⟨h1, h2, h3⟩ | ⟨h1, h2, h3⟩ <;> omega
      have hs0b : mid + m ≤ b + s0 := by rcases hfrom with ⟨h1, h2, h3⟩ | ⟨h1, h2, h3⟩ <;> omega
      clear hfrom
      obtain ⟨p, hp⟩ : ∃ q, n0 - 1 = q := ⟨_, rfl⟩
      have HPE := Lib.hid (show ((n0 : Int) - 1) = (p : Int) by omega)
      have HPN := Lib.hid (show p + 1 = n0 by omega)
      clear hp
      go_wp2_with fail
      rw [HPE.out]
      go_loopw [20, 21] (fun sv rv wr => ∃ s r : Nat, sv = .int .i64 s ∧ rv = .int .i64 r ∧ s0 ≤ s ∧ s ≤ r ∧ r ≤ r0 ∧ LoS ls n0 s0 s ∧ HiS ls n0 r0 r ∧ Own wr B (.slice (some ⟨g, 0, none⟩) n cap) ls ∧ w.grownBy wr (some g)) (fun sv rv _ => (intOf rv).toNat - (intOf sv).toNat)
      case atStart => exact ⟨s0, r0, rfl, rfl, Nat.le_refl _, hsr0, Nat.le_refl _, .inl rfl, .inl rfl, HO0.out, grown_refl _ _⟩
      case round =>
        as_aux_lemma =>
          obtain ⟨s, r, rfl, rfl, hs1, hsr, hr1, hlo, hhi, hown, hgr⟩ := hrel
          have HO := Lib.hid hown
          have HG := Lib.hid hgr
          have HLO := Lib.hid hlo
          have HHI := Lib.hid hhi
          clear hown hgr hlo hhi HO0
          by_cases hlt : s < r
          · obtain ⟨c, hc⟩ : ∃ q, (s + r) / 2 = q := ⟨_, rfl⟩
            have HQE := Lib.hid (show ((s : Int) + (r : Int)) / 2 = (c : Int) by omega)
            have hsc : s ≤ c := by omega
            have hcr : c < r := by omega
            clear hc
            have hn0v := HN0'.out
            have hpnv := HPN.out
            obtain ⟨d, hd⟩ : ∃ q, p - c = q := ⟨_, rfl⟩
            have hde : (p : Int) - (c : Int) = (d : Int) := by omega
            have hdn : d < n := by omega
            have hdw : IntKind.i64.wrap (d : Int) = (d : Int) := IntWalk.i64_in _ (by omega)
            have HD := Lib.hid (show n0 - 1 - c = d by omega)
            have HD2 := Lib.hid (show n0 - (c + 1) = d by omega)
            have hcn : (c : Int) < (n : Int) := by omega
            have hdn2 : (d : Int) < (n : Int) := by omega
            have hsd' : decide ((s : Int) < (r : Int)) = true := by simp; omega
            obtain ⟨x, hx⟩ : ∃ x, ls[c]? = some x := ⟨ls[c]'(by have := HN.out; omega), List.getElem?_eq_getElem _⟩
            obtain ⟨y, hy⟩ : ∃ y, ls[d]? = some y := ⟨ls[d]'(by have := HN.out; omega), List.getElem?_eq_getElem _⟩
            have HX := Lib.hid hx
            have HY := Lib.hid hy
            obtain ⟨c0, c1⟩ := HO.out.cellsG c x hx
            obtain ⟨d0, d1⟩ := HO.out.cellsG d y hy
            clear hx hy hd hn0v hpnv
            cases hc : ltB y.2 x.2 with
            | false =>
              have hcd : decide (cmpI y x < 0) = false := by rw [cmpI_less]; exact hc
              have HC := Lib.hid hc
              clear hc
              go_wp2_with fail
              rw [HQE.out]
              go_quiet_grown (first | (go_at_call 80; exact Calls.grown_of (cmp_any y x _)))
              clear c0 c1 d0 d1 hdw hde
              go_wp2_with fail
              go_roundw
              case rel => exact ⟨c + 1, r, by go_num, rfl, by omega, by omega, by omega, .inr ⟨x, y, by simpa using HX.out, by rw [HD2.out]; exact HY.out, HC.out⟩, HHI.out, HO.out.ext (below_grow wr nq osq), grown_ext' HG.out (below_grow _ _ _)⟩
              case measure => simp [intOf]; omega
            | true =>
              have hcd : decide (cmpI y x < 0) = true := by rw [cmpI_less]; exact hc
              have HC := Lib.hid hc
              clear hc
              go_wp2_with fail
              rw [HQE.out]
              go_quiet_grown (first | (go_at_call 80; exact Calls.grown_of (cmp_any y x _)))
              clear c0 c1 d0 d1 hdw hde
              go_wp2_with fail
              go_roundw
              case rel => exact ⟨s, c, rfl, rfl, by omega, by omega, by omega, HLO.out, .inr ⟨x, y, HX.out, by rw [HD.out]; exact HY.out, HC.out⟩, HO.out.ext (below_grow wr nq osq), grown_ext' HG.out (below_grow _ _ _)⟩
              case measure => simp [intOf]; omega
          · obtain rfl : s = r := by omega
            have hsd' : decide ((s : Int) < (s : Int)) = false := by simp
            have hn0v := HN0'.out
            obtain ⟨e, he⟩ : ∃ q, n0 - s = q := ⟨_, rfl⟩
            have HE := Lib.hid (show ((n0 : Int) - (s : Int)) = (e : Int) by omega)
            have hme : m ≤ e := by omega
            have heb : e ≤ b := by omega
            have hes : s + e = mid + m := by omega
            obtain ⟨L1, L2, hL12, hL1⟩ := parts L (s - a) (by have := HM.out; omega)
            obtain ⟨R1, R2, hR12, hR1⟩ := parts R (e - m) (by have := HB.out; omega)
            have kL1 : a + L1.length = s := by omega
            have kL2 : s + L2.length = m := by have h3 := HM.out; rw [hL12] at h3; simp at h3; omega
            have kR1 : m + R1.length = e := by omega
            have kR2 : e + R2.length = b := by have h3 := HB.out; rw [hR12] at h3; simp at h3; omega
            have hls : ls = X ++ (L1 ++ L2) ++ (R1 ++ R2) ++ Y := by rw [← HLL.out, hL12, hR12]
            have sL := HLS.out
            rw [hL12] at sL
            have sR := HRS.out
            rw [hR12] at sR
            obtain ⟨sL1, sL2, _⟩ := List.pairwise_append.1 sL
            obtain ⟨sR1, sR2, _⟩ := List.pairwise_append.1 sR
            have k1 := sym_le (X := X) (L1 := L1) (L2 := L2) (R1 := R1) (R2 := R2) (Y := Y) (s := s) (e := e) sL1 sR2 (by rw [HA.out]; exact kL1) (by omega) (by
              rcases HLO.out with h | ⟨x, y, h1, h2, h3⟩
              · rcases HFR.out with ⟨g1, g2, g3⟩ | ⟨g1, g2, g3⟩
                · right; left; exact nil_of (by omega)
                · left; exact nil_of (by omega)
              · right; right; exact ⟨x, y, by rw [← hls]; exact h1, by rw [← hls, ← he]; exact h2, h3⟩)
            have k2 := sym_lt (X := X) (L1 := L1) (L2 := L2) (R1 := R1) (R2 := R2) (Y := Y) (s := s) (e := e) sL2 sR1 (by rw [HA.out]; exact kL1) (by omega) (by
              rcases HHI.out with h | ⟨x, y, h1, h2, h3⟩
              · rcases HFR.out with ⟨g1, g2, g3⟩ | ⟨g1, g2, g3⟩
                · right; left; exact nil_of (by omega)
                · left; exact nil_of (by omega)
              · right; right; exact ⟨x, y, by rw [← hls]; exact h1, by rw [← hls, show e - 1 = n0 - 1 - s by omega]; exact h2, h3⟩)
            have HF := Lib.hid (show mergeL L R = mergeL L1 R1 ++ mergeL L2 R2 from by rw [hL12, hR12]; exact merge_split sL sR k1 k2)
            have HO1 := Lib.hid (show Own wr B (.slice (some ⟨g, 0, none⟩) n cap) (X ++ L1 ++ L2 ++ R1 ++ R2 ++ Y) from by have := HO.out; rw [hls] at this; simpa using this)
            have KL1 := Lib.hid kL1
            have KL2 := Lib.hid kL2
            have KR1 := Lib.hid kR1
            have KR2 := Lib.hid kR2
            have SS := Lib.hid (And.intro (And.intro sL1 sL2) (And.intro sR1 sR2))
            have hsm : s ≤ m := by omega
            have hsa : a ≤ s := by omega
            have hsd : s ≤ mid := by omega
            clear hn0v he hL12 hL1 hR12 hR1 kL1 kL2 kR1 kR2 hls sL sR sL1 sL2 sR1 sR2 k1 k2 HO
            obtain ⟨t1, ht1⟩ : ∃ t : Bool, decide (s < m ∧ m < e) = t := ⟨_, rfl⟩
            have HT1 := Lib.hid ht1
            clear ht1
            go_upto_region 39 with fail
            rw [HE.out]
            go_cut [185] (fun sv wx => sv = .bool t1 ∧ wr = wx)
            case first =>
              by_cases h1 : s < m
              · have hd1 : decide ((s : Int) < (m : Int)) = true := by simp; omega
                by_cases h2 : m < e
                · have hd2 : decide ((m : Int) < (e : Int)) = true := by simp; omega
                  have ht : t1 = true := by rw [← HT1.out]; simp; omega
                  go_wp2_with fail
                  go_meet
                  exact ⟨by rw [ht], rfl⟩
                · have hd2 : decide ((m : Int) < (e : Int)) = false := by simp; omega
                  have ht : t1 = false := by rw [← HT1.out]; simp; omega
                  go_wp2_with fail
                  go_meet
                  exact ⟨by rw [ht], rfl⟩
              · have hd1 : decide ((s : Int) < (m : Int)) = false := by simp; omega
                have ht : t1 = false := by rw [← HT1.out]; simp; omega
                go_wp2_with fail
                go_meet
                exact ⟨by rw [ht], rfl⟩
            case rest =>
              as_aux_lemma =>
                obtain ⟨rfl, rfl⟩ := hcut
                go_upto_if 185 with fail
                go_cut [] (fun wx => Own wx B (.slice (some ⟨g, 0, none⟩) n cap) (X ++ L1 ++ R1 ++ L2 ++ R2 ++ Y) ∧ w.grownBy wx (some g))
                case first =>
                  cases t1 with
                  | true =>
                    have hg : s < m ∧ m < e := by have := HT1.out; simpa using this
                    go_wp2_with fail
                    refine (rotate_any B g n cap (X ++ L1) L2 R1 (R2 ++ Y) s m e _ _ (by simpa using HO1.out) (by have := KL1.out; simp [HA.out]; exact this) KL2.out KR1.out (by have := KL2.out; omega) (by have := KR1.out; omega) hn).mono ?_
                    rintro e' w1 ⟨rfl, ho1, hg1⟩
                    go_wp2_with fail
                    go_meet
                    exact ⟨by simpa using ho1, grown_tr HG.out hg1⟩
                  | false =>
                    have hg : ¬ (s < m ∧ m < e) := by have := HT1.out; simpa using this
                    have hr : L2 = [] ∨ R1 = [] := by
                      by_cases h1 : s < m
                      · right; exact nil_of (by have := KR1.out; omega)
                      · left; exact nil_of (by have := KL2.out; omega)
                    go_wp2_with fail
                    go_meet
                    refine ⟨?_, HG.out⟩
                    have := HO1.out
                    rcases hr with hr | hr
                    · rw [hr] at this ⊢; simpa using this
                    · rw [hr] at this ⊢; simpa using this
                case rest =>
                  as_aux_lemma =>
                    obtain ⟨hown, hgr⟩ := hcut
                    have HO2 := Lib.hid hown
                    have HG2 := Lib.hid hgr
                    clear hown hgr HO1 HG
                    obtain ⟨t2, ht2⟩ : ∃ t : Bool, decide (a < s ∧ s < mid) = t := ⟨_, rfl⟩
                    have HT2 := Lib.hid ht2
                    clear ht2
                    go_upto_region 41 with fail
                    go_cut [199] (fun sv wx => sv = .bool t2 ∧ wc = wx)
                    case first =>
                      by_cases h1 : a < s
                      · have hd1 : decide ((a : Int) < (s : Int)) = true := by simp; omega
                        by_cases h2 : s < mid
                        · have hd2 : decide ((s : Int) < (mid : Int)) = true := by simp; omega
                          have ht : t2 = true := by rw [← HT2.out]; simp; omega
                          go_wp2_with fail
                          go_meet
                          exact ⟨by rw [ht], rfl⟩
                        · have hd2 : decide ((s : Int) < (mid : Int)) = false := by simp; omega
                          have ht : t2 = false := by rw [← HT2.out]; simp; omega
                          go_wp2_with fail
                          go_meet
                          exact ⟨by rw [ht], rfl⟩
                      · have hd1 : decide ((a : Int) < (s : Int)) = false := by simp; omega
                        have ht : t2 = false := by rw [← HT2.out]; simp; omega
                        go_wp2_with fail
                        go_meet
                        exact ⟨by rw [ht], rfl⟩
                    case rest =>
                      as_aux_lemma =>
                        obtain ⟨rfl, rfl⟩ := hcut
                        go_upto_if 199 with fail
                        go_cut [] (fun wx => Own wx B (.slice (some ⟨g, 0, none⟩) n cap) (X ++ mergeL L1 R1 ++ L2 ++ R2 ++ Y) ∧ w.grownBy wx (some g))
                        case first =>
                          cases t2 with
                          | true =>
                            have hg : a < s ∧ s < mid := by have := HT2.out; simpa using this
                            go_wp2_with fail
                            refine (HIH.out B g n cap X L1 R1 (L2 ++ R2 ++ Y) a s mid _ (by omega) (by simpa using HO2.out) HA.out KL1.out (by have := KR1.out; omega) (by have := KL1.out; omega) (by have := KR1.out; omega) SS.out.1.1 SS.out.2.1 hn).mono ?_
                            rintro e' w1 ⟨rfl, ho1, hg1⟩
                            go_wp2_with fail
                            go_meet
                            exact ⟨by simpa using ho1, grown_tr HG2.out hg1⟩
                          | false =>
                            have hg : ¬ (a < s ∧ s < mid) := by have := HT2.out; simpa using this
                            have hr : R1 = [] ∨ L1 = [] := by
                              by_cases h1 : a < s
                              · left; exact nil_of (by have := KR1.out; omega)
                              · right; exact nil_of (by have := KL1.out; omega)
                            go_wp2_with fail
                            go_meet
                            refine ⟨?_, HG2.out⟩
                            have := HO2.out
                            rcases hr with hr | hr
                            · rw [hr] at this ⊢; rw [mergeL_nil]; simpa using this
                            · rw [hr] at this ⊢; simpa [mergeL] using this
                        case rest =>
                          as_aux_lemma =>
                            obtain ⟨hown, hgr⟩ := hcut
                            have HO3 := Lib.hid hown
                            have HG3 := Lib.hid hgr
                            clear hown hgr HO2 HG2
                            by_cases h1 : mid < e
                            · have hd1 : decide ((mid : Int) < (e : Int)) = true := by simp; omega
                              by_cases h2 : e < b
                              · have hd2 : decide ((e : Int) < (b : Int)) = true := by simp; omega
                                go_wp2_with fail
                                refine (HIH.out B g n cap (X ++ mergeL L1 R1) L2 R2 Y mid e b _ (by omega) (by simpa using HO3.out) (by have := KL1.out; have := KR1.out; simp [(mergeL_perm L1 R1).length_eq, HA.out]; omega) (by have := KL2.out; omega) KR2.out (by have := KL2.out; omega) (by have := KR2.out; omega) SS.out.1.2 SS.out.2.2 hn).mono ?_
                                rintro e' w1 ⟨rfl, ho1, hg1⟩
                                go_wp2_with fail
                                go_end0
                                exact ⟨rfl, by rw [HF.out]; simpa using ho1, grown_tr HG3.out hg1⟩
                              · have hd2 : decide ((e : Int) < (b : Int)) = false := by simp; omega
                                have hr : R2 = [] := nil_of (by have := KR2.out; omega)
                                go_wp2_with fail
                                go_end0
                                exact ⟨rfl, by rw [HF.out]; have := HO3.out; rw [hr] at this ⊢; rw [mergeL_nil L2]; simpa using this, HG3.out⟩
                            · have hd1 : decide ((mid : Int) < (e : Int)) = false := by simp; omega
                              have hr : L2 = [] := nil_of (by have := KL2.out; omega)
                              go_wp2_with fail
                              go_end0
                              exact ⟨rfl, by rw [HF.out]; have := HO3.out; rw [hr] at this ⊢; simpa [mergeL] using this, HG3.out⟩

/-- Merging two neighbouring ranges in place. -/
theorem sym_all : ∀ N, SymN N
  | 0 => by
    intro B g n cap X L R Y a m b w hN h ha hm hb hL hR
    omega
  | N + 1 => by
    intro B g n cap X L R Y a m b w hN h ha hm hb hL hR sL sR hn
    by_cases h1 : L.length = 1
    · obtain ⟨x, rfl⟩ := List.length_eq_one_iff.1 h1
      exact symLeft_any B g n cap X R Y x a m b w h ha (by simpa using hm) hb sR hn
    · by_cases h2 : R.length = 1
      · obtain ⟨x, rfl⟩ := List.length_eq_one_iff.1 h2
        exact symRight_any B g n cap X L Y x a m b w h ha hm (by simpa using hb) (by omega) sL hn
      · exact symMid_any N (sym_all N) B g n cap X L R Y a m b w (by omega) h ha hm hb (by omega) (by omega) sL sR hn

end Go.Proofs.Ytafngfmloiikoaa
