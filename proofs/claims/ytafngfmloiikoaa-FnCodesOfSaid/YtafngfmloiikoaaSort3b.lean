/-
  WALKS: the library's insertion sort of a range of letters. By an AI agent.
-/
import Derived.Test.YtafngfmloiikoaaSort3
namespace Go.Proofs.Ytafngfmloiikoaa
open Go.RowKit Go.Sort

theorem Own.drewN {w : World} {B n : Nat} {v : Value} {ls : List Ltr} (h : Own w B v ls) : Own (w.drewN n) B v ls := h
theorem gdrewN {a b : World} {o : Option Nat} (h : a.grownBy b o) (n : Nat) : a.grownBy (b.drewN n) o := ⟨h.os, h.tape, h.output, h.size, h.block⟩

set_option maxHeartbeats 8000000 in
theorem insertion_any (B g n cap : Nat) (X L Y : List Ltr) (a b : Nat) (w : World) (h : Own w B (.slice (some ⟨g, 0, none⟩) n cap) (X ++ L ++ Y))
    (ha : X.length = a) (hb : a + L.length = b) (hn : n ≤ 100) :
    Calls Try.prog 97 #[.slice (some ⟨g, 0, none⟩) n cap, .int .i64 a, .int .i64 b, .func (.func 80) #[] #[]] w (Sorts B g n cap (X ++ stabL L ++ Y) w) := by
  have mixed : Try.prog.follows .mixedOrders = true := by kernel_rfl
  have HO0 := Lib.hid h
  have hlen : (X ++ L ++ Y).length = n := h.len.symm
  have hbn : b ≤ n := by simp at hlen; omega
  have hab : a ≤ b := by omega
  have HA := Lib.hid ha
  have HB := Lib.hid hb
  have HN := Lib.hid hlen
  clear h hlen ha hb
  by_cases hL : L.length = 0
  · have hl := nil_of hL
    subst hl
    have hba : b = a := by have := HB.out; simp at this; omega
    subst hba
    have hd : decide ((b : Int) + 1 < (b : Int)) = false := by simp; omega
    go_enter Try.func97, Try.ntmps97
    go_wp2_with fail
    go_loopw [8] (fun iv wr => iv = .int .i64 ((b : Int) + 1) ∧ Own wr B (.slice (some ⟨g, 0, none⟩) n cap) (X ++ [] ++ Y) ∧ w.grownBy wr (some g)) (fun _ _ => 0)
    case atStart => exact ⟨rfl, HO0.out, grown_refl _ _⟩
    case round =>
      obtain ⟨rfl, hown, hgr⟩ := hrel
      have HO := Lib.hid hown
      have HG := Lib.hid hgr
      clear hown hgr
      go_wp2_with fail
      go_end0
      exact ⟨rfl, HO.out, HG.out⟩
  · cases L with
    | nil => exact absurd rfl hL
    | cons l0 L0 =>
      go_enter Try.func97, Try.ntmps97
      go_wp2_with fail
      go_loopw [8] (fun iv wr => ∃ (i : Nat) (L1 S T : List Ltr), iv = .int .i64 i ∧ a < i ∧ i ≤ b ∧ a + S.length = i ∧ L1 ++ T = l0 :: L0 ∧ Stb L1 S ∧ Own wr B (.slice (some ⟨g, 0, none⟩) n cap) (X ++ S ++ T ++ Y) ∧ w.grownBy wr (some g)) (fun iv _ => b - (intOf iv).toNat)
      case atStart => exact ⟨a + 1, [l0], [l0], L0, by go_num, by omega, by have := HB.out; simp at this; omega, by simp, rfl, Stb.refl (by simp), by simpa using HO0.out, grown_refl _ _⟩
      case round =>
        obtain ⟨i, L1, S, T, rfl, hai, hib, hSl, hLT, hst, hown, hgr⟩ := hrel
        have HO := Lib.hid hown
        have HG := Lib.hid hgr
        have HS := Lib.hid hSl
        have HLT := Lib.hid hLT
        have HST := Lib.hid hst
        have hTl : i + T.length = b := by
          have h1 := HB.out; have h2 := hst.perm.length_eq; rw [← hLT] at h1; simp at h1; omega
        have HTL := Lib.hid hTl
        clear hown hgr hSl hLT hst hTl HO0
        by_cases hlt : i < b
        · have hid' : decide ((i : Int) < (b : Int)) = true := by simp; omega
          cases T with
          | nil => exact absurd HTL.out (by simp; omega)
          | cons x T' =>
            go_wp2_with fail
            go_loopw [9] (fun jv wr => ∃ (j : Nat) (P Q : List Ltr), jv = .int .i64 j ∧ a + P.length = j ∧ P ++ Q = S ∧ (∀ q ∈ Q, ltB x.2 q.2 = true) ∧ Own wr B (.slice (some ⟨g, 0, none⟩) n cap) (X ++ P ++ x :: (Q ++ T' ++ Y)) ∧ w.grownBy wr (some g)) (fun jv _ => (intOf jv).toNat)
            case atStart => exact ⟨i, S, [], rfl, HS.out, by simp, fun q hq => (by cases hq), by simpa using HO.out, HG.out⟩
            case round =>
              clear HO HG
              obtain ⟨j, P, Q, rfl, hPl, hPQ, hQ, hown, hgr⟩ := hrel
              have HO := Lib.hid hown
              have HG := Lib.hid hgr
              have HP := Lib.hid hPl
              have HPQ := Lib.hid hPQ
              have HQ := Lib.hid hQ
              have hji : j ≤ i := by have := HS.out; rw [← hPQ] at this; simp at this; omega
              clear hown hgr hPl hPQ hQ
              rcases snoc_cases P with rfl | ⟨P', y, rfl⟩
              · obtain rfl : j = a := by have := HP.out; simp at this; omega
                have hjd : decide ((j : Int) < (j : Int)) = false := by simp
                go_wp2_with fail
                go_quiet (fail)
                go_wp2_with fail
                go_roundw
                case rel =>
                  refine ⟨i + 1, L1 ++ [x], x :: Q, T', by go_num, by omega, by omega, ?_, by rw [← HLT.out]; simp, ?_, by have := HO.out; simpa using Own.drewN (n := nq) this, gdrewN HG.out _⟩
                  · have := HS.out; rw [← HPQ.out] at this; simp at this ⊢; omega
                  · have := insert_Stb (A := []) (B := Q) (x := x) (by rw [HPQ.out]; exact HST.out) (fun _ h => by cases h) HQ.out
                    exact this
                case measure => simp [intOf]; omega
              · have hPl : a + P'.length + 1 = j := by have := HP.out; simp at this; omega
                have l1 : (X ++ P').length = a + P'.length := by simp [HA.out]
                obtain ⟨p, hp⟩ : ∃ p, a + P'.length = p := ⟨_, rfl⟩
                rw [hp] at l1 hPl
                obtain rfl := hPl
                have e1 : X ++ (P' ++ [y]) ++ x :: (Q ++ T' ++ Y) = (X ++ P') ++ y :: x :: (Q ++ T' ++ Y) := by simp
                have e2 : X ++ P' ++ x :: ((y :: Q) ++ T' ++ Y) = (X ++ P') ++ x :: y :: (Q ++ T' ++ Y) := by simp
                have hown := HO.out
                rw [e1] at hown
                have gy := get_mid (Q := x :: (Q ++ T' ++ Y)) (x := y) l1
                have gx := get_next (x := y) (y := x) (Q := Q ++ T' ++ Y) l1
                obtain ⟨c0, c1⟩ := hown.cellsG p y gy
                obtain ⟨d0, d1⟩ := hown.cellsG (p + 1) x gx
                have HOW := Lib.hid hown
                have HL1 := Lib.hid l1
                have HGY := Lib.hid gy
                have HGX := Lib.hid gx
                have HE2 := Lib.hid e2
                have HPP := Lib.hid hp
                have hap : a ≤ p := by omega
                have hjd : decide ((a : Int) < (p : Int) + 1) = true := by simp; omega
                have hjd2 : decide ((a : Int) < ((p + 1 : Nat) : Int)) = true := by simp; omega
                have hpn : (p : Int) + 1 < (n : Int) := by omega
                have hpn2 : (p : Int) < (n : Int) := by omega
                clear hown l1 e1 e2 gy gx hp
                cases hc : ltB x.2 y.2 with
                | true =>
                  have hcd : decide (cmpI x y < 0) = true := by rw [cmpI_less]; exact hc
                  have HC := Lib.hid hc
                  clear hc
                  go_wp2_with fail
                  have hwp : IntKind.i64.wrap (p : Int) = (p : Int) := IntWalk.i64_in _ (by omega)
                  have p0 : (0 : Int) ≤ (p : Int) + 1 := by omega
                  have e0 : ((p : Int) + 1).toNat = p + 1 := by omega
                  go_quiet_grown (first | (go_at_call 80; exact Calls.grown_of (cmp_any x y _)))
                  have HO2 := Lib.hid (HOW.out.ext (below_grow wr nq osq))
                  have HG2 := Lib.hid (grown_ext' HG.out (below_grow wr nq osq))
                  clear c0 c1 d0 d1 hwp e0
                  generalize grow (wr.drewN nq) osq = wq at HO2 HG2 ⊢
                  obtain ⟨c0, c1, f0, f1⟩ := HO2.out.cells p y HGY.out
                  obtain ⟨d0, d1, g0, g1⟩ := HO2.out.cells (p + 1) x HGX.out
                  have HS2 := Lib.hid (Own.swap HO2.out.drew (p + 1) p x y HGX.out HGY.out (by omega))
                  rw [swap_near HL1.out, ← HE2.out] at HS2
                  have HG3 := Lib.hid (grown_swap (gdrew HG2.out) (p + 1) p x y)
                  go_wp2_with fail
                  go_big_region
                  all_goals
                    go_wp2_with fail
                    go_roundw
                    case rel =>
                      refine ⟨p, P', y :: Q, by first | rfl | go_num, HPP.out, by rw [← HPQ.out]; simp, fun q hq => ?_, HS2.out, HG3.out⟩
                      rcases List.mem_cons.1 hq with rfl | hq
                      · exact HC.out
                      · exact HQ.out q hq
                    case measure => first | (simp [intOf]; done) | (simp [intOf]; omega)
                | false =>
                  have hcd : decide (cmpI x y < 0) = false := by rw [cmpI_less]; exact hc
                  have HC := Lib.hid hc
                  clear hc
                  go_wp2_with fail
                  have hwp : IntKind.i64.wrap (p : Int) = (p : Int) := IntWalk.i64_in _ (by omega)
                  have p0 : (0 : Int) ≤ (p : Int) + 1 := by omega
                  have e0 : ((p : Int) + 1).toNat = p + 1 := by omega
                  go_quiet_grown (first | (go_at_call 80; exact Calls.grown_of (cmp_any x y _)))
                  clear c0 c1 d0 d1 hwp e0
                  go_wp2_with fail
                  go_roundw
                  case rel =>
                    refine ⟨i + 1, L1 ++ [x], (P' ++ [y]) ++ x :: Q, T', by go_num, by omega, by omega, ?_, by rw [← HLT.out]; simp, ?_, by have := HOW.out.ext (below_grow wr nq osq); simpa using this, grown_ext' HG.out (below_grow _ _ _)⟩
                    · have := HS.out; rw [← HPQ.out] at this; simp at this ⊢; omega
                    · refine insert_Stb (A := P' ++ [y]) (B := Q) (x := x) (by rw [HPQ.out]; exact HST.out) (fun q hq => ?_) HQ.out
                      have hs := HST.out.sorted
                      rw [← HPQ.out] at hs
                      exact leL_trans (last_ge (List.pairwise_append.1 hs).1 q hq) HC.out
                  case measure => simp [intOf]; omega
        · have hid' : decide ((i : Int) < (b : Int)) = false := by simp; omega
          have hT : T = [] := nil_of (by have := HTL.out; omega)
          subst hT
          have HE := Lib.hid (show S = stabL (l0 :: L0) from by have h1 := HLT.out; rw [List.append_nil] at h1; rw [← h1]; exact HST.out.eq)
          go_wp2_with fail
          go_end0
          exact ⟨rfl, by rw [← HE.out]; simpa using HO.out, HG.out⟩

end Go.Proofs.Ytafngfmloiikoaa
