/-
  STRINGS of the call's own; eqStringS, markStringS, heldStringS. By an AI agent.
-/
import Derived.Test.YtafngfmloiikoaaRng
namespace Go.Proofs.Ytafngfmloiikoaa
open Go.RowKit

def cellsT (xs : List ByteArray) : List Value := xs.map Value.string
theorem cellsT_len (xs : List ByteArray) : (cellsT xs).length = xs.length := by simp [cellsT]
/-- A slice of strings of the call's own, from block B on. -/
def OwnT (w : World) (B : Nat) (v : Value) (xs : List ByteArray) : Prop := w.ownsRow B 9 1 v xs.length (cellsT xs)
theorem OwnT.ext {w w' : World} {B : Nat} {v : Value} {xs : List ByteArray} (h : OwnT w B v xs) (hb : Below w.heap.size w w') : OwnT w' B v xs :=
  World.ownsRow.kept (row := none) h ⟨hb.os, hb.tape, hb.output, hb.size, fun i hi _ => hb.block i hi⟩ (by cases v.ownBlock <;> simp)
theorem OwnT.kept {w w' : World} {B : Nat} {v : Value} {xs : List ByteArray} {row : Option Nat} (h : OwnT w B v xs) (hg : w.grownBy w' row) (hne : ∀ g, v.ownBlock = some g → row ≠ some g) : OwnT w' B v xs :=
  World.ownsRow.kept h hg (by cases hv : v.ownBlock with
    | none => exact .inl rfl
    | some g => exact .inr (fun e => hne g hv e.symm))
theorem OwnT.mono {w : World} {B B' : Nat} {v : Value} {xs : List ByteArray} (h : OwnT w B v xs) (hb : B' ≤ B) : OwnT w B' v xs := by
  obtain ⟨h1, h2⟩ := h
  refine ⟨h1, ?_⟩
  rcases h2 with h2 | ⟨g, cap, cur, hv, hg, r⟩
  · exact .inl h2
  · exact .inr ⟨g, cap, cur, hv, by omega, r⟩
theorem OwnT.nil (w : World) (B : Nat) : OwnT w B (.slice none 0 0) [] := World.ownsRow_nil _ _ _ _
theorem OwnT.read {w : World} {B : Nat} {v : Value} {xs : List ByteArray} (h : OwnT w B v xs) : ∃ A cap, v = .slice A xs.length cap ∧ xs.length ≤ maxLen := by
  rcases h.2 with ⟨rfl, hn⟩ | ⟨g, cap, cur, rfl, hb, hg, hnc, hcm, _⟩
  · exact ⟨none, 0, by rw [hn], by rw [hn]; unfold maxLen; omega⟩
  · exact ⟨_, cap, rfl, by omega⟩
theorem OwnT.form {w : World} {B : Nat} {v : Value} {xs : List ByteArray} (h : OwnT w B v xs) (h0 : 0 < xs.length) : ∃ g cap, v = .slice (some ⟨g, 0, none⟩) xs.length cap := by
  rcases h.2 with ⟨_, hn⟩ | ⟨g, cap, cur, hv, _⟩
  · omega
  · exact ⟨g, cap, hv⟩
theorem OwnT.len {w : World} {B : Nat} {A : Option Addr} {n cap : Nat} {xs : List ByteArray} (h : OwnT w B (.slice A n cap) xs) : n = xs.length := by
  obtain ⟨A', c', he, _⟩ := h.read
  simp at he
  exact he.2.1
theorem ownT_rng {w : World} {B : Nat} {v : Value} {xs : List ByteArray} (h : OwnT w B v xs) : Rng B w.heap.size v := fun g hg => World.ownsRow.lt h g hg
theorem below_ownT {W w w' : World} {v : Value} {xs : List ByteArray} (hb : Below W.heap.size W w) (ho : OwnT w W.heap.size v xs) (hg : w.grownBy w' v.ownBlock) : Below W.heap.size W w' :=
  hb.grown hg hb.size (fun k hk => (World.ownsRow.lt ho k hk).1)
theorem OwnT.cells {w : World} {B g n cap : Nat} {xs : List ByteArray} (h : OwnT w B (.slice (some ⟨g, 0, none⟩) n cap) xs) (i : Nat) (m : ByteArray) (hm : xs[i]? = some m) :
    w.cell? ⟨g, i, none⟩ = some (.string m) ∧ w.frozen? ⟨g, i, none⟩ = false := by
  have h0 := World.ownsRow.cells h (g := g) rfl i (.string m) (by simp [cellsT, hm])
  rw [add_lit'] at h0
  refine ⟨h0, ?_⟩
  rcases h.2 with ⟨hv, _⟩ | ⟨g', cap', cur, hv, _, hg, _⟩
  · cases hv
  · simp at hv; obtain ⟨rfl, _, _⟩ := hv
    simp [World.frozen?, hg]
/-- The number at an index. -/
theorem OwnT.at_ {w : World} {B : Nat} {A : Option Addr} {n cap : Nat} {xs : List ByteArray} (h : OwnT w B (.slice A n cap) xs) (i : Nat) (hi : i < n) :
    ∃ g m, A = some ⟨g, 0, none⟩ ∧ xs[i]? = some m ∧ w.cell? ⟨g, i, none⟩ = some (.string m) := by
  have hl := h.len
  obtain ⟨g, cap', hv⟩ := h.form (by omega)
  simp at hv
  obtain ⟨rfl, _, _⟩ := hv
  have hx : xs[i]? = some (xs[i]'(by omega)) := List.getElem?_eq_getElem _
  exact ⟨g, _, rfl, hx, (h.cells i _ hx).1⟩
theorem OwnT.set {w : World} {B g n cap : Nat} {xs : List ByteArray} (h : OwnT w B (.slice (some ⟨g, 0, none⟩) n cap) xs) (i : Nat) (x : ByteArray) :
    OwnT (w.setCell ⟨g, i, none⟩ (.string x)) B (.slice (some ⟨g, 0, none⟩) n cap) (xs.set i x) := by
  refine ⟨by rw [cellsT_len]; omega, ?_⟩
  rcases h.2 with ⟨hv, _⟩ | ⟨g', cap', cur, hv, hb, hg, hnc, hcm, hcs, ht⟩
  · cases hv
  · simp at hv; obtain ⟨rfl, rfl, rfl⟩ := hv
    refine .inr ⟨g, cap, cur.setIfInBounds i (.string x), by simp, hb, ?_, by simpa using hnc, hcm, by simp [hcs], ?_⟩
    · simp [World.setCell, Array.getElem?_modify, hg]
    · rw [List.length_set, Array.toList_setIfInBounds, List.take_set, ht]; simp [cellsT, List.map_set]

set_option maxHeartbeats 2000000 in
theorem eqStringS_same (B B2 : Nat) (A : Option Addr) (n cap : Nat) (A2 : Option Addr) (n2 cap2 : Nat) (xs : List ByteArray) (w : World) (h : OwnT w B (.slice A n cap) xs) (h2 : OwnT w B2 (.slice A2 n2 cap2) xs) :
    Calls Try.prog 53 #[.slice A n cap, .slice A2 n2 cap2] w fun e w' => e = .returned (.bool true) ∧ Below w.heap.size w w' := by
  obtain rfl : n2 = n := h2.len.trans h.len.symm
  have hmax : n2 ≤ maxLen := by obtain ⟨_, _, _, hx⟩ := h.read; have := h.len; omega
  have HL := Lib.hid h
  have HL2 := Lib.hid h2
  unfold maxLen at hmax
  clear h h2
  go_enter Try.func53, Try.ntmps53
  go_wp2_with fail
  go_loopw [5] (fun iv wr => ∃ k : Nat, k ≤ n2 ∧ iv = .int .i64 k ∧ Below w.heap.size w wr) (fun iv _ => n2 - (intOf iv).toNat)
  case atStart => exact ⟨0, by omega, rfl, Below.refl _ _⟩
  case round =>
    obtain ⟨k, hk, rfl, hbel⟩ := hrel
    by_cases hkn : k < n2
    · obtain ⟨g, m, rfl, hm, c0⟩ := (HL.out.ext hbel).at_ k hkn
      obtain ⟨g2, m2, rfl, hm2, d0⟩ := (HL2.out.ext hbel).at_ k hkn
      obtain rfl : m2 = m := by rw [hm] at hm2; injection hm2 with hm2; exact hm2.symm
      have hki : (k : Int) < (n2 : Int) := by omega
      clear hm hm2
      go_wp2_with fail
      go_quiet (fail)
      go_wp2_with fail
      go_roundw
      case rel => exact ⟨k + 1, by omega, by go_num, (by repeat (first | exact Below.refl _ _ | assumption | refine ext_alloc ?_ _ | refine Below.drew ?_ | refine below_drewN' ?_ _ | refine ext_set ?_ (by first | (simp; done) | (simp; omega) | omega) _ | refine ext_trans ?_ (by assumption)))⟩
      case measure => simp [intOf]; omega
    · go_wp2_with fail
      go_ret
      exact ⟨rfl, hbel⟩

def marksT (k : Int) (n : Nat) : List ByteArray := (List.range n).map fun (i : Nat) => mkI (k + (i : Int))
theorem marksT_len (k : Int) (n : Nat) : (marksT k n).length = n := by simp [marksT]
theorem marksT_succ (k : Int) (n : Nat) : marksT k (n + 1) = marksT k n ++ [mkI (k + (n : Int))] := by simp [marksT, List.range_succ]
theorem marksT_mid (k : Int) (i : Nat) (xs : List ByteArray) (m : ByteArray) (h : xs[i]? = some m) : (marksT k i ++ xs.drop i)[i]? = some m := by
  rw [List.getElem?_append_right (by rw [marksT_len]; omega), marksT_len, Nat.sub_self, List.getElem?_drop, Nat.add_zero]; exact h
theorem marksT_step (k : Int) (i : Nat) (xs : List ByteArray) (m : ByteArray) (h : xs[i]? = some m) : (marksT k i ++ xs.drop i).set i (mkI (k + (i : Int))) = marksT k (i + 1) ++ xs.drop (i + 1) := by
  obtain ⟨hh, he⟩ := List.getElem?_eq_some_iff.1 h
  rw [marksT_succ, List.set_append_right _ _ (by rw [marksT_len]; omega), marksT_len, Nat.sub_self, List.drop_eq_getElem_cons hh, List.set_cons_zero, List.append_assoc]
  rfl
theorem marksT_get (k : Int) (n i : Nat) (h : i < n) : (marksT k n)[i]? = some (mkI (k + (i : Int))) := by simp [marksT, h]
def MarkedT (k : Int) (n : Nat) (v : Value) (B : Nat) (w : World) (e : Ending) (w' : World) : Prop :=
  e = .returned (.int .i64 (k + (n : Int))) ∧ OwnT w' B v (marksT k n) ∧ w.grownBy w' v.ownBlock

set_option maxHeartbeats 2000000 in
theorem markStringS_any (k : Int) (B : Nat) (v : Value) (xs : List ByteArray) (w : World) (h : OwnT w B v xs) (hk0 : 0 ≤ k) (hk : k + (xs.length : Int) ≤ 100000000) :
    Calls Try.prog 54 #[v, .int .i64 k] w (MarkedT k xs.length v B w) := by
  obtain ⟨A, cap, rfl, hls⟩ := h.read
  clear hls
  obtain ⟨n, hn⟩ : ∃ n, n = xs.length := ⟨_, rfl⟩
  rw [← hn] at hk h ⊢
  have HN := Lib.hid hn
  have HO := Lib.hid h
  clear hn h
  go_enter Try.func54, Try.ntmps54
  go_wp2_with fail
  go_loopw [1, 5] (fun kv iv wr => ∃ i : Nat, i ≤ n ∧ kv = .int .i64 (k + (i : Int)) ∧ iv = .int .i64 i ∧ OwnT wr B (.slice A n cap) (marksT k i ++ xs.drop i) ∧ w.grownBy wr (Value.ownBlock (.slice A n cap))) (fun _ iv _ => n - (intOf iv).toNat)
  case atStart => exact ⟨0, by omega, by simp, rfl, by simpa [marksT] using HO.out, World.grownBy.refl _ _⟩
  case round =>
    obtain ⟨i, hi, rfl, rfl, hown, hg⟩ := hrel
    have HW := Lib.hid hown
    have HG := Lib.hid hg
    clear hown hg
    by_cases hin : i < n
    · obtain ⟨g, cap', hA⟩ := HO.out.form (by have := HN.out; omega)
      simp at hA
      obtain ⟨rfl, hx1, hx2⟩ := hA
      clear hx1 hx2
      obtain ⟨m, hm⟩ : ∃ m, xs[i]? = some m := ⟨xs[i]'(by have := HN.out; omega), List.getElem?_eq_getElem _⟩
      have HM := Lib.hid hm
      clear hm
      have hii : (i : Int) < (n : Int) := by omega
      go_wp2_with fail
      refine (markText_int _ _ (by omega) (by omega)).mono ?_
      rintro e w2 ⟨rfl, hb2⟩
      have H2 := Lib.hid (HW.out.ext hb2)
      have HG2 := Lib.hid (grown_ext' HG.out hb2)
      obtain ⟨c0, f0⟩ := H2.out.cells i m (marksT_mid k i xs m HM.out)
      have H1 := Lib.hid (H2.out.set i (mkI (k + (i : Int))))
      have HG1 := Lib.hid (grown_set' rfl HG2.out i (.string (mkI (k + (i : Int)))))
      clear hb2
      go_wp2_with fail
      go_roundw
      case rel =>
        refine ⟨i + 1, by omega, by go_num, by go_num, ?_, HG1.out⟩
        rw [← marksT_step k i xs m HM.out]; exact H1.out
      case measure => simp [intOf]; omega
    · obtain rfl : i = n := by omega
      go_wp2_with fail
      go_ret
      refine ⟨rfl, ?_, HG.out⟩
      have := HW.out
      rwa [List.drop_eq_nil_of_le (by have := HN.out; omega), List.append_nil] at this

set_option maxHeartbeats 2000000 in
theorem heldStringS_any (k : Int) (B : Nat) (A : Option Addr) (n cap : Nat) (w : World) (h : OwnT w B (.slice A n cap) (marksT k n)) (hk0 : 0 ≤ k) (hk : k + (n : Int) ≤ 100000000) :
    Calls Try.prog 55 #[.slice A n cap, .int .i64 k] w fun e w' => e = .returned (.int .i64 (k + (n : Int))) ∧ Below w.heap.size w w' := by
  have HL := Lib.hid h
  clear h
  go_enter Try.func55, Try.ntmps55
  go_wp2_with fail
  go_loopw [1, 5] (fun kv iv wr => ∃ i : Nat, i ≤ n ∧ kv = .int .i64 (k + (i : Int)) ∧ iv = .int .i64 i ∧ Below w.heap.size w wr) (fun _ iv _ => n - (intOf iv).toNat)
  case atStart => exact ⟨0, by omega, by simp, rfl, Below.refl _ _⟩
  case round =>
    obtain ⟨i, hi, rfl, rfl, hbel⟩ := hrel
    by_cases hin : i < n
    · obtain ⟨g, m, rfl, hm, c0⟩ := (HL.out.ext hbel).at_ i hin
      rw [marksT_get k n i hin] at hm
      injection hm with hm
      rw [← hm] at c0
      have hii : (i : Int) < (n : Int) := by omega
      clear hm
      go_wp2_with fail
      go_region_held3 (fun u => u.cell? ⟨g, i, none⟩ = some (.string (mkI (k + (i : Int))))) (first | exact c0 | assumption | exact cell_later hb2 c0) (first | (go_at_call 83; refine (markText_int _ _ (by omega) (by omega)).mono ?_; rintro e w2 ⟨rfl, hb2⟩))
      go_wp2_with fail
      go_roundw
      case rel => exact ⟨i + 1, by omega, by go_num, by go_num, (by repeat (first | exact Below.refl _ _ | assumption | refine ext_alloc ?_ _ | refine Below.drew ?_ | refine below_drewN' ?_ _ | refine ext_set ?_ (by first | (simp; done) | (simp; omega) | omega) _ | refine ext_trans ?_ (by assumption)))⟩
      case measure => simp [intOf]; omega
    · obtain rfl : i = n := by omega
      go_wp2_with fail
      go_ret
      exact ⟨rfl, hbel⟩

end Go.Proofs.Ytafngfmloiikoaa
