/-
  WALKS: the library's exchange and rotation of ranges of letters. By an AI agent.
-/
import Derived.Test.YtafngfmloiikoaaRot
import Derived.Test.YtafngfmloiikoaaMark2
import Derived.BigRegion
namespace Go.Proofs.Ytafngfmloiikoaa
open Go.RowKit

/-- What a sort of a slice in place leaves. -/
def Sorts (B g n cap : Nat) (ls' : List Ltr) (w : World) (e : Ending) (w' : World) : Prop :=
  e = .returned (.tuple #[]) ∧ Own w' B (.slice (some ⟨g, 0, none⟩) n cap) ls' ∧ w.grownBy w' (some g)
theorem grown_g {a b : World} {g : Nat} (h : a.grownBy b (some g)) (j : Nat) (u : Value) : a.grownBy (b.setCell ⟨g, j, none⟩ u) (some g) :=
  grown_set' (v := .slice (some ⟨g, 0, none⟩) 0 0) rfl h j u
theorem gdrew {a b : World} {o : Option Nat} (h : a.grownBy b o) : a.grownBy b.drew o := ⟨h.os, h.tape, h.output, h.size, h.block⟩
theorem grown_refl (a : World) (o : Option Nat) : a.grownBy a o := ⟨rfl, rfl, rfl, Nat.le_refl _, fun _ _ _ => rfl⟩
theorem grown_tr {a b c : World} {g : Option Nat} (h : a.grownBy b g) (k : b.grownBy c g) : a.grownBy c g :=
  ⟨k.os.trans h.os, k.tape.trans h.tape, k.output.trans h.output, Nat.le_trans h.size k.size, fun i hi hne => (k.block i (Nat.lt_of_lt_of_le hi h.size) hne).trans (h.block i hi hne)⟩
theorem Own.drew {w : World} {B : Nat} {v : Value} {ls : List Ltr} (h : Own w B v ls) : Own w.drew B v ls := h
theorem Own.put {w : World} {B g n cap : Nat} {ls : List Ltr} (h : Own w B (.slice (some ⟨g, 0, none⟩) n cap) ls) (i : Nat) (m : Ltr) (hm : ls[i]? = some m) (x : Ltr) (hx : x.2.size ≤ maxLen) :
    Own ((w.setCell ⟨g, i * 2, none⟩ (.int .i64 x.1)).setCell ⟨g, i * 2 + 1, none⟩ (.string x.2)) B (.slice (some ⟨g, 0, none⟩) n cap) (ls.set i x) := by
  have h1 := h.setId i m hm x.1
  have hlt := (List.getElem?_eq_some_iff.1 hm).1
  have h2 := h1.setCode i (x.1, m.2) (by simp [hlt]) x.2 hx
  rwa [List.set_set] at h2
/-- The cells of two letters that are to be exchanged. -/
theorem Own.swap {w : World} {B g n cap : Nat} {ls : List Ltr} (h : Own w B (.slice (some ⟨g, 0, none⟩) n cap) ls) (i j : Nat) (x y : Ltr) (hx : ls[i]? = some x) (hy : ls[j]? = some y) (hij : i ≠ j) :
    Own ((((w.setCell ⟨g, i * 2, none⟩ (.int .i64 y.1)).setCell ⟨g, i * 2 + 1, none⟩ (.string y.2)).setCell ⟨g, j * 2, none⟩ (.int .i64 x.1)).setCell ⟨g, j * 2 + 1, none⟩ (.string x.2)) B (.slice (some ⟨g, 0, none⟩) n cap) ((ls.set i y).set j x) :=
  (h.put i x hx y (h.2 y (List.mem_of_getElem? hy))).put j y (by rw [List.getElem?_set_ne hij]; exact hy) x (h.2 x (List.mem_of_getElem? hx))
theorem grown_swap {a w : World} {g : Nat} (h : a.grownBy w (some g)) (i j : Nat) (x y : Ltr) :
    a.grownBy ((((w.setCell ⟨g, i * 2, none⟩ (.int .i64 y.1)).setCell ⟨g, i * 2 + 1, none⟩ (.string y.2)).setCell ⟨g, j * 2, none⟩ (.int .i64 x.1)).setCell ⟨g, j * 2 + 1, none⟩ (.string x.2)) (some g) :=
  grown_g (grown_g (grown_g (grown_g h _ _) _ _) _ _) _ _

set_option maxHeartbeats 4000000 in
theorem swapRange_any (B g n cap : Nat) (P U M V Q : List Ltr) (a b k : Nat) (cf : Value) (w : World) (h : Own w B (.slice (some ⟨g, 0, none⟩) n cap) (P ++ U ++ M ++ V ++ Q))
    (ha : P.length = a) (hU : U.length = k) (hV : V.length = k) (hb : a + k + M.length = b) (hn : n ≤ 100) :
    Calls Try.prog 102 #[.slice (some ⟨g, 0, none⟩) n cap, .int .i64 a, .int .i64 b, .int .i64 k, cf] w (Sorts B g n cap (P ++ V ++ M ++ U ++ Q) w) := by
  have HO0 := Lib.hid h
  have hlen : (P ++ U ++ M ++ V ++ Q).length = n := h.len.symm
  have hbk : b + k ≤ n := by simp at hlen; omega
  have HA := Lib.hid ha
  have HU := Lib.hid hU
  have HV := Lib.hid hV
  have HM := Lib.hid hb
  have hak : a + k ≤ b := by omega
  clear h hlen ha hU hV hb
  go_enter Try.func102, Try.ntmps102
  go_wp2_with fail
  go_loopw [10] (fun iv wr => ∃ i : Nat, i ≤ k ∧ iv = .int .i64 i ∧ Own wr B (.slice (some ⟨g, 0, none⟩) n cap) (P ++ V.take i ++ U.drop i ++ M ++ U.take i ++ V.drop i ++ Q) ∧ w.grownBy wr (some g)) (fun iv _ => k - (intOf iv).toNat)
  case atStart => exact ⟨0, by omega, rfl, by simpa using HO0.out, grown_refl _ _⟩
  case round =>
    obtain ⟨i, hi, rfl, hown, hgr⟩ := hrel
    by_cases hik : i < k
    · obtain ⟨x, hx⟩ : ∃ x, U[i]? = some x := ⟨U[i]'(by have := HU.out; omega), List.getElem?_eq_getElem _⟩
      obtain ⟨y, hy⟩ : ∃ y, V[i]? = some y := ⟨V[i]'(by have := HV.out; omega), List.getElem?_eq_getElem _⟩
      have e1 : P ++ V.take i ++ U.drop i ++ M ++ U.take i ++ V.drop i ++ Q = (P ++ V.take i) ++ x :: ((U.drop (i + 1) ++ M ++ U.take i) ++ y :: (V.drop (i + 1) ++ Q)) := by
        rw [drop_at U i x hx, drop_at V i y hy]; simp
      have e2 : P ++ V.take (i + 1) ++ U.drop (i + 1) ++ M ++ U.take (i + 1) ++ V.drop (i + 1) ++ Q = (P ++ V.take i) ++ y :: ((U.drop (i + 1) ++ M ++ U.take i) ++ x :: (V.drop (i + 1) ++ Q)) := by
        rw [take_snoc' U i x hx, take_snoc' V i y hy]; simp
      have l1 : (P ++ V.take i).length = a + i := by simp [HA.out, HV.out]; omega
      have l2 : a + i + 1 + (U.drop (i + 1) ++ M ++ U.take i).length = b + i := by have := HM.out; simp [HU.out]; omega
      rw [e1] at hown
      have hgx := get_mid (Q := (U.drop (i + 1) ++ M ++ U.take i) ++ y :: (V.drop (i + 1) ++ Q)) (x := x) l1
      have hgy := get_far (x := x) (y := y) (Q := V.drop (i + 1) ++ Q) l1 l2
      have hne : a + i ≠ b + i := by omega
      have HS := Lib.hid (Own.swap hown.drew (a + i) (b + i) x y hgx hgy hne)
      rw [swap_far l1 l2, ← e2] at HS
      have HG := Lib.hid (grown_swap (gdrew hgr) (a + i) (b + i) x y)
      obtain ⟨c0, c1, f0, f1⟩ := hown.cells (a + i) x hgx
      obtain ⟨d0, d1, g0, g1⟩ := hown.cells (b + i) y hgy
      have hai : (a : Int) + (i : Int) < (n : Int) := by omega
      have hbi : (b : Int) + (i : Int) < (n : Int) := by omega
      have hkd : decide ((i : Int) < (k : Int)) = true := by simp; omega
      clear hx hy e1 e2 l1 l2 hown hgx hgy hgr
      go_wp2_with fail
      go_big_region
      all_goals
        go_wp2_with fail
        go_roundw
        case rel => exact ⟨i + 1, by omega, by go_num, HS.out, HG.out⟩
        case measure => simp [intOf]; omega
    · have hkd : decide ((i : Int) < (k : Int)) = false := by simp; omega
      obtain rfl : i = k := by omega
      have HG := Lib.hid hgr
      have HS := Lib.hid hown
      clear hown hgr
      go_wp2_with fail
      go_end0
      refine ⟨rfl, ?_, HG.out⟩
      have := HS.out
      rwa [List.take_of_length_le (by rw [HV.out]; exact Nat.le_refl _), List.drop_eq_nil_of_le (by rw [HU.out]; exact Nat.le_refl _), List.take_of_length_le (by rw [HU.out]; exact Nat.le_refl _), List.drop_eq_nil_of_le (by rw [HV.out]; exact Nat.le_refl _), List.append_nil, List.append_nil] at this

end Go.Proofs.Ytafngfmloiikoaa
