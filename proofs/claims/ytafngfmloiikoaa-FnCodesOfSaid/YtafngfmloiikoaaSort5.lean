/-
  WALKS: the library's merging of a range of letters with a single letter behind it. By an AI agent.
-/
import Derived.Test.YtafngfmloiikoaaSort4
namespace Go.Proofs.Ytafngfmloiikoaa
open Go.RowKit Go.Sort

set_option maxHeartbeats 8000000 in
set_option maxRecDepth 100000 in
theorem symRight_any (B g n cap : Nat) (X L Y : List Ltr) (x : Ltr) (a m b : Nat) (w : World) (h : Own w B (.slice (some ⟨g, 0, none⟩) n cap) (X ++ L ++ [x] ++ Y))
    (ha : X.length = a) (hm : a + L.length = m) (hb : m + 1 = b) (h1 : 1 < L.length) (hL : L.Pairwise leL) (hn : n ≤ 100) :
    Calls Try.prog 98 #[.slice (some ⟨g, 0, none⟩) n cap, .int .i64 a, .int .i64 m, .int .i64 b, .func (.func 80) #[] #[]] w (Sorts B g n cap (X ++ mergeL L [x] ++ Y) w) := by
  have mixed : Try.prog.follows .mixedOrders = true := by kernel_rfl
  have HO0 := Lib.hid h
  have hlen : (X ++ L ++ [x] ++ Y).length = n := h.len.symm
  have hbn : b ≤ n := by simp at hlen; omega
  have hmb : m < b := by omega
  have ham : a + 1 < m := by omega
  have HA := Lib.hid ha
  have HM := Lib.hid hm
  have HL := Lib.hid hL
  have HX := Lib.hid (show (X ++ L ++ [x] ++ Y)[m]? = some x from by rw [show X ++ L ++ [x] ++ Y = (X ++ L) ++ x :: Y by simp]; exact get_mid (by simp; omega))
  have hN := Lib.hid hlen
  have hmn : (m : Int) < (n : Int) := by omega
  have ham1 : ((m : Int) - (a : Int) == 1) = false := by simp; omega
  have hbm1 : ((b : Int) - (m : Int) == 1) = true := by simp; omega
  clear h hlen ha hb hL hm h1
  obtain ⟨ls, hls⟩ : ∃ ls, X ++ L ++ [x] ++ Y = ls := ⟨_, rfl⟩
  rw [hls] at HO0 HX hN
  have HLS := Lib.hid hls
  clear hls
  go_enter Try.func98, Try.ntmps98
  go_wp2_with fail
  go_loopw [14, 15] (fun iv jv wr => ∃ i j : Nat, iv = .int .i64 i ∧ jv = .int .i64 j ∧ a ≤ i ∧ i ≤ j ∧ j ≤ m ∧ LoLe ls a i x ∧ HiLt ls m j x ∧ Own wr B (.slice (some ⟨g, 0, none⟩) n cap) ls ∧ w.grownBy wr (some g)) (fun iv jv _ => (intOf jv).toNat - (intOf iv).toNat)
  case atStart => exact ⟨a, m, rfl, rfl, Nat.le_refl _, by omega, Nat.le_refl _, .inl rfl, .inl rfl, HO0.out, grown_refl _ _⟩
  case round =>
    obtain ⟨i, j, rfl, rfl, hai, hij, hjb, hlo, hhi, hown, hgr⟩ := hrel
    have HO := Lib.hid hown
    have HG := Lib.hid hgr
    have HLO := Lib.hid hlo
    have HHI := Lib.hid hhi
    clear hown hgr hlo hhi HO0
    by_cases hlt : i < j
    · obtain ⟨q, hq⟩ : ∃ q, (i + j) / 2 = q := ⟨_, rfl⟩
      have hqe : ((i : Int) + (j : Int)) / 2 = (q : Int) := by omega
      have HQE := Lib.hid hqe
      have hiq : i ≤ q := by omega
      have hqj : q < j := by omega
      have hqn : (q : Int) < (n : Int) := by omega
      have hid' : decide ((i : Int) < (j : Int)) = true := by simp; omega
      obtain ⟨y, hy⟩ : ∃ y, ls[q]? = some y := ⟨ls[q]'(by have := hN.out; omega), List.getElem?_eq_getElem _⟩
      have HY := Lib.hid hy
      obtain ⟨c0, c1⟩ := HO.out.cellsG q y hy
      obtain ⟨d0, d1⟩ := HO.out.cellsG m x HX.out
      clear hq hqe hy
      cases hc : ltB x.2 y.2 with
      | false =>
        have hcd : decide (cmpI x y < 0) = false := by rw [cmpI_less]; exact hc
        have HC := Lib.hid hc
        clear hc
        go_wp2_with fail
        rw [HQE.out]
        go_quiet_grown (first | (go_at_call 80; exact Calls.grown_of (cmp_any x y _)))
        clear c0 c1 d0 d1
        go_wp2_with fail
        go_roundw
        case rel => exact ⟨q + 1, j, by go_num, rfl, by omega, by omega, by omega, .inr ⟨y, by simpa using HY.out, HC.out⟩, HHI.out, HO.out.ext (below_grow wr nq osq), grown_ext' HG.out (below_grow _ _ _)⟩
        case measure => simp [intOf]; omega
      | true =>
        have hcd : decide (cmpI x y < 0) = true := by rw [cmpI_less]; exact hc
        have HC := Lib.hid hc
        clear hc
        go_wp2_with fail
        rw [HQE.out]
        go_quiet_grown (first | (go_at_call 80; exact Calls.grown_of (cmp_any x y _)))
        clear c0 c1 d0 d1
        go_wp2_with fail
        go_roundw
        case rel => exact ⟨i, q, rfl, rfl, by omega, by omega, by omega, HLO.out, .inr ⟨y, HY.out, HC.out⟩, HO.out.ext (below_grow wr nq osq), grown_ext' HG.out (below_grow _ _ _)⟩
        case measure => simp [intOf]; omega
    · obtain rfl : i = j := by omega
      have hid' : decide ((i : Int) < (i : Int)) = false := by simp
      obtain ⟨L1, L2, hL12, hL1⟩ := parts L (i - a) (by have := HM.out; omega)
      have HL12 := Lib.hid hL12
      have HL1 := Lib.hid (show a + L1.length = i from by omega)
      have HL2 := Lib.hid (show i + L2.length = m from by have h3 := HM.out; rw [hL12] at h3; simp at h3; omega)
      have hls : ls = X ++ (L1 ++ L2) ++ ([x] ++ Y) := by rw [← HLS.out, hL12]; simp
      have hLs := HL.out
      rw [hL12] at hLs
      obtain ⟨s1, s2, _⟩ := List.pairwise_append.1 hLs
      have hl1 : X.length + L1.length = i := by have := HL1.out; rw [HA.out]; exact this
      have k1 := cut_lo2 (X := X) (S1 := L1) (S2 := L2) (Y := [x] ++ Y) (x := x) s1 hl1 (by
        rcases HLO.out with h | ⟨y, h1, h2⟩
        · left; exact nil_of (by have := HL1.out; omega)
        · right; exact ⟨y, by rw [← hls]; exact h1, h2⟩)
      have k2 := cut_hi2 (X := X) (S1 := L1) (S2 := L2) (Y := [x] ++ Y) (x := x) s2 hl1 (by
        rcases HHI.out with h | ⟨y, h1, h2⟩
        · left; exact nil_of (by have := HL2.out; omega)
        · right; exact ⟨y, by rw [← hls]; exact h1, h2⟩)
      have HF := Lib.hid (show mergeL L [x] = L1 ++ x :: L2 from by rw [hL12]; exact one_right hLs k1 k2)
      have HO2 := Lib.hid (show Own wr B (.slice (some ⟨g, 0, none⟩) n cap) (X ++ L1 ++ L2 ++ x :: ([] ++ Y)) from by have := HO.out; rw [hls] at this; simpa using this)
      clear hL12 hL1 hls hLs s1 s2 hl1 k1 k2 HO
      go_wp2_with fail
      go_loopw [17] (fun kv wr => ∃ (k : Nat) (P Q : List Ltr), kv = .int .i64 k ∧ P ++ Q = L2 ∧ i + P.length = k ∧ Own wr B (.slice (some ⟨g, 0, none⟩) n cap) (X ++ L1 ++ P ++ x :: (Q ++ Y)) ∧ w.grownBy wr (some g)) (fun kv _ => (intOf kv).toNat)
      case atStart => exact ⟨m, L2, [], rfl, by simp, HL2.out, by simpa using HO2.out, HG.out⟩
      case round =>
        clear HO2 HG
        obtain ⟨k, P, Q, rfl, hPQ, hk, hown, hgr⟩ := hrel
        have HG := Lib.hid hgr
        have HPQ := Lib.hid hPQ
        have HK := Lib.hid hk
        have hkm : k ≤ m := by have h1 := HL2.out; rw [← hPQ] at h1; simp at h1; omega
        have HO := Lib.hid hown
        clear hgr hPQ hk hown
        rcases snoc_cases P with rfl | ⟨P', y, rfl⟩
        · obtain rfl : k = i := by have := HK.out; simp at this; omega
          have hkd : decide ((k : Int) < (k : Int)) = false := by simp
          go_wp2_with fail
          go_end0
          refine ⟨rfl, ?_, HG.out⟩
          rw [HF.out, ← HPQ.out]; simpa using HO.out
        · obtain ⟨p, hp⟩ : ∃ p, i + P'.length = p := ⟨_, rfl⟩
          obtain rfl : k = p + 1 := by have := HK.out; simp at this; omega
          have hkd : decide ((i : Int) < (p : Int) + 1) = true := by simp; omega
          have l1 : (X ++ L1 ++ P').length = p := by have := HL1.out; simp [HA.out]; omega
          have e1 : X ++ L1 ++ (P' ++ [y]) ++ x :: (Q ++ Y) = (X ++ L1 ++ P') ++ y :: x :: (Q ++ Y) := by simp
          have e2 : X ++ L1 ++ P' ++ x :: ((y :: Q) ++ Y) = (X ++ L1 ++ P') ++ x :: y :: (Q ++ Y) := by simp
          have hown := HO.out
          rw [e1] at hown
          have gy := get_mid (Q := x :: (Q ++ Y)) (x := y) l1
          have gx := get_next (x := y) (y := x) (Q := Q ++ Y) l1
          obtain ⟨c0, c1, f0, f1⟩ := hown.cells p y gy
          obtain ⟨d0, d1, g0, g1⟩ := hown.cells (p + 1) x gx
          have HS2 := Lib.hid (Own.swap hown.drew (p + 1) p x y gx gy (by omega))
          rw [swap_near l1, ← e2] at HS2
          have HG3 := Lib.hid (grown_swap (gdrew HG.out) (p + 1) p x y)
          have HP := Lib.hid hp
          have hkn : (p : Int) + 1 < (n : Int) := by omega
          have hkn2 : (p : Int) < (n : Int) := by omega
          clear l1 e1 e2 hown gx gy HO HG hp
          go_wp2_with fail
          go_big_region
          all_goals
            go_wp2_with fail
            go_roundw
            case rel => exact ⟨p, P', y :: Q, by first | rfl | go_num, by rw [← HPQ.out]; simp, HP.out, HS2.out, HG3.out⟩
            case measure => first | (simp [intOf]; done) | (simp [intOf]; omega)

end Go.Proofs.Ytafngfmloiikoaa
