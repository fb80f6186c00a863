/-
  WALKS: the library's merging of two neighbouring ranges of letters in place, one of them a single letter. By an AI agent.
-/
import Derived.Test.YtafngfmloiikoaaSort3b
import Derived.Test.YtafngfmloiikoaaSort2
namespace Go.Proofs.Ytafngfmloiikoaa
open Go.RowKit Go.Sort

/-- How far a search for a letter has come. -/
def LoLt (ls : List Ltr) (lo i : Nat) (x : Ltr) : Prop := i = lo ∨ ∃ y, ls[i - 1]? = some y ∧ ltB y.2 x.2 = true
def HiLe (ls : List Ltr) (hi j : Nat) (x : Ltr) : Prop := j = hi ∨ ∃ y, ls[j]? = some y ∧ leL x y
def LoLe (ls : List Ltr) (lo i : Nat) (x : Ltr) : Prop := i = lo ∨ ∃ y, ls[i - 1]? = some y ∧ leL y x
def HiLt (ls : List Ltr) (hi j : Nat) (x : Ltr) : Prop := j = hi ∨ ∃ y, ls[j]? = some y ∧ ltB x.2 y.2 = true

set_option maxHeartbeats 8000000 in
set_option maxRecDepth 100000 in
theorem symLeft_any (B g n cap : Nat) (X R Y : List Ltr) (x : Ltr) (a m b : Nat) (w : World) (h : Own w B (.slice (some ⟨g, 0, none⟩) n cap) (X ++ [x] ++ R ++ Y))
    (ha : X.length = a) (hm : a + 1 = m) (hb : m + R.length = b) (hR : R.Pairwise leL) (hn : n ≤ 100) :
    Calls Try.prog 98 #[.slice (some ⟨g, 0, none⟩) n cap, .int .i64 a, .int .i64 m, .int .i64 b, .func (.func 80) #[] #[]] w (Sorts B g n cap (X ++ mergeL [x] R ++ Y) w) := by
  have mixed : Try.prog.follows .mixedOrders = true := by kernel_rfl
  have HO0 := Lib.hid h
  have hlen : (X ++ [x] ++ R ++ Y).length = n := h.len.symm
  have hbn : b ≤ n := by simp at hlen; omega
  have hmb : m ≤ b := by omega
  have ham : a < m := by omega
  have HA := Lib.hid ha
  have HB := Lib.hid hb
  have HR := Lib.hid hR
  have HX := Lib.hid (show (X ++ [x] ++ R ++ Y)[a]? = some x from by rw [show X ++ [x] ++ R ++ Y = X ++ x :: (R ++ Y) by simp]; exact get_mid ha)
  have HM := Lib.hid hm
  have ham1 : ((m : Int) - (a : Int) == 1) = true := by simp; omega
  have hN := Lib.hid hlen
  have han : (a : Int) < (n : Int) := by omega
  clear h hlen ha hb hR hm
  obtain ⟨ls, hls⟩ : ∃ ls, X ++ [x] ++ R ++ Y = ls := ⟨_, rfl⟩
  rw [hls] at HO0 HX hN
  have HLS := Lib.hid hls
  clear hls
  go_enter Try.func98, Try.ntmps98
  go_wp2_with fail
  go_loopw [10, 11] (fun iv jv wr => ∃ i j : Nat, iv = .int .i64 i ∧ jv = .int .i64 j ∧ m ≤ i ∧ i ≤ j ∧ j ≤ b ∧ LoLt ls m i x ∧ HiLe ls b j x ∧ Own wr B (.slice (some ⟨g, 0, none⟩) n cap) ls ∧ w.grownBy wr (some g)) (fun iv jv _ => (intOf jv).toNat - (intOf iv).toNat)
  case atStart => exact ⟨m, b, rfl, rfl, Nat.le_refl _, hmb, Nat.le_refl _, .inl rfl, .inl rfl, HO0.out, grown_refl _ _⟩
  case round =>
    obtain ⟨i, j, rfl, rfl, hai, hij, hjb, hlo, hhi, hown, hgr⟩ := hrel
    have HO := Lib.hid hown
    have HG := Lib.hid hgr
    have HLO := Lib.hid hlo
    have HHI := Lib.hid hhi
    clear hown hgr hlo hhi HO0
    by_cases hlt : i < j
    · obtain ⟨q, hq⟩ : ∃ q, (i + j) / 2 = q := ⟨_, rfl⟩
      have hqe : ((i : Int) + (j : Int)) / 2 = (q : Int) := by omega
      have HQE := Lib.hid hqe
      have hiq : i ≤ q := by omega
      have hqj : q < j := by omega
      have hqn : (q : Int) < (n : Int) := by omega
      have hid' : decide ((i : Int) < (j : Int)) = true := by simp; omega
      obtain ⟨y, hy⟩ : ∃ y, ls[q]? = some y := ⟨ls[q]'(by have := hN.out; omega), List.getElem?_eq_getElem _⟩
      have HY := Lib.hid hy
      obtain ⟨c0, c1⟩ := HO.out.cellsG q y hy
      obtain ⟨d0, d1⟩ := HO.out.cellsG a x HX.out
      clear hq hqe hy
      cases hc : ltB y.2 x.2 with
      | true =>
        have hcd : decide (cmpI y x < 0) = true := by rw [cmpI_less]; exact hc
        have HC := Lib.hid hc
        clear hc
        go_wp2_with fail
        rw [HQE.out]
        go_quiet_grown (first | (go_at_call 80; exact Calls.grown_of (cmp_any y x _)))
        clear c0 c1 d0 d1
        go_wp2_with fail
        go_roundw
        case rel => exact ⟨q + 1, j, by go_num, rfl, by omega, by omega, by omega, .inr ⟨y, by simpa using HY.out, HC.out⟩, HHI.out, HO.out.ext (below_grow wr nq osq), grown_ext' HG.out (below_grow _ _ _)⟩
        case measure => simp [intOf]; omega
      | false =>
        have hcd : decide (cmpI y x < 0) = false := by rw [cmpI_less]; exact hc
        have HC := Lib.hid hc
        clear hc
        go_wp2_with fail
        rw [HQE.out]
        go_quiet_grown (first | (go_at_call 80; exact Calls.grown_of (cmp_any y x _)))
        clear c0 c1 d0 d1
        go_wp2_with fail
        go_roundw
        case rel => exact ⟨i, q, rfl, rfl, by omega, by omega, by omega, HLO.out, .inr ⟨y, HY.out, HC.out⟩, HO.out.ext (below_grow wr nq osq), grown_ext' HG.out (below_grow _ _ _)⟩
        case measure => simp [intOf]; omega
    · obtain rfl : i = j := by omega
      have hid' : decide ((i : Int) < (i : Int)) = false := by simp
      obtain ⟨R1, R2, hR12, hR1⟩ := parts R (i - m) (by have := HB.out; omega)
      have HR12 := Lib.hid hR12
      have HR1 := Lib.hid (show m + R1.length = i from by omega)
      have hls : ls = (X ++ [x]) ++ (R1 ++ R2) ++ Y := by rw [← HLS.out, hR12]
      have hRs := HR.out
      rw [hR12] at hRs
      obtain ⟨s1, s2, _⟩ := List.pairwise_append.1 hRs
      have hl1 : (X ++ [x]).length + R1.length = i := by have := HR1.out; have := HM.out; simp [HA.out]; omega
      have k1 := cut_lo (X := X ++ [x]) (S1 := R1) (S2 := R2) (Y := Y) (x := x) s1 hl1 (by
        rcases HLO.out with h | ⟨y, h1, h2⟩
        · left; exact nil_of (by have := HR1.out; omega)
        · right; exact ⟨y, by rw [← hls]; exact h1, h2⟩)
      have k2 := cut_hi (X := X ++ [x]) (S1 := R1) (S2 := R2) (Y := Y) (x := x) s2 hl1 (by
        rcases HHI.out with h | ⟨y, h1, h2⟩
        · left; exact nil_of (by have h3 := HB.out; rw [hR12] at h3; have := HR1.out; simp at h3; omega)
        · right; exact ⟨y, by rw [← hls]; exact h1, h2⟩)
      have HF := Lib.hid (show mergeL [x] R = R1 ++ x :: R2 from by rw [hR12]; exact one_left hRs k1 k2)
      have HO2 := Lib.hid (show Own wr B (.slice (some ⟨g, 0, none⟩) n cap) (X ++ [] ++ x :: (R1 ++ R2 ++ Y)) from by have := HO.out; rw [hls] at this; simpa using this)
      have hi1 : a < i := by have := HM.out; omega
      clear hR12 hR1 hls hRs s1 s2 hl1 k1 k2 HO
      go_wp2_with fail
      go_loopw [13] (fun kv wr => ∃ (k : Nat) (P Q : List Ltr), kv = .int .i64 k ∧ P ++ Q = R1 ∧ a + P.length = k ∧ Own wr B (.slice (some ⟨g, 0, none⟩) n cap) (X ++ P ++ x :: (Q ++ R2 ++ Y)) ∧ w.grownBy wr (some g)) (fun kv _ => i - (intOf kv).toNat)
      case atStart => exact ⟨a, [], R1, rfl, rfl, rfl, by simpa using HO2.out, HG.out⟩
      case round =>
        clear HO2 HG
        obtain ⟨k, P, Q, rfl, hPQ, hk, hown, hgr⟩ := hrel
        have HG := Lib.hid hgr
        have HPQ := Lib.hid hPQ
        have HK := Lib.hid hk
        have hqi : k + Q.length + 1 = i := by have h1 := HR1.out; have := HM.out; rw [← hPQ] at h1; simp at h1; omega
        have HQI := Lib.hid hqi
        have hki : k < i := by omega
        have HO := Lib.hid hown
        clear hgr hPQ hk hqi hown
        cases Q with
        | nil =>
          have hkd : decide ((k : Int) < (i : Int) - 1) = false := by have := HQI.out; simp at this; simp; omega
          go_wp2_with fail
          go_end0
          refine ⟨rfl, ?_, HG.out⟩
          rw [HF.out, ← HPQ.out]; simpa using HO.out
        | cons y Q' =>
          have hkd : decide ((k : Int) < (i : Int) - 1) = true := by have := HQI.out; simp at this; simp; omega
          have hQl : k + 1 < i := by have := HQI.out; simp at this; omega
          have l1 : (X ++ P).length = k := by have := HK.out; simp [HA.out]; omega
          have e1 : X ++ P ++ x :: (y :: Q' ++ R2 ++ Y) = (X ++ P) ++ x :: y :: (Q' ++ R2 ++ Y) := by simp
          have e2 : X ++ (P ++ [y]) ++ x :: (Q' ++ R2 ++ Y) = (X ++ P) ++ y :: x :: (Q' ++ R2 ++ Y) := by simp
          have hown := HO.out
          rw [e1] at hown
          have gx := get_mid (Q := y :: (Q' ++ R2 ++ Y)) (x := x) l1
          have gy := get_next (x := x) (y := y) (Q := Q' ++ R2 ++ Y) l1
          obtain ⟨c0, c1, f0, f1⟩ := hown.cells k x gx
          obtain ⟨d0, d1, g0, g1⟩ := hown.cells (k + 1) y gy
          have HS2 := Lib.hid (Own.swap hown.drew k (k + 1) x y gx gy (by omega))
          rw [swap_near2 l1, ← e2] at HS2
          have HG3 := Lib.hid (grown_swap (gdrew HG.out) k (k + 1) x y)
          have hkn : (k : Int) + 1 < (n : Int) := by omega
          have hkn2 : (k : Int) < (n : Int) := by omega
          clear l1 e1 e2 hown gx gy HO HG
          go_wp2_with fail
          go_big_region
          all_goals
            go_wp2_with fail
            go_roundw
            case rel => exact ⟨k + 1, P ++ [y], Q', by go_num, by rw [← HPQ.out]; simp, by have := HK.out; simp; omega, HS2.out, HG3.out⟩
            case measure => simp [intOf]; omega

end Go.Proofs.Ytafngfmloiikoaa
