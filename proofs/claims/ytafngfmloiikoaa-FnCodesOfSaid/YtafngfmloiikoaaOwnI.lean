/-
  NUMBERS of the call's own; eqIntS, markIntS, heldIntS. By an AI agent.
-/
import Derived.Test.YtafngfmloiikoaaRng
namespace Go.Proofs.Ytafngfmloiikoaa
open Go.RowKit

def cellsI (xs : List Int) : List Value := xs.map (Value.int .i64)
theorem cellsI_len (xs : List Int) : (cellsI xs).length = xs.length := by simp [cellsI]
/-- A slice of numbers of the call's own, from block B on. -/
def OwnI (w : World) (B : Nat) (v : Value) (xs : List Int) : Prop := w.ownsRow B 3 1 v xs.length (cellsI xs)
theorem OwnI.ext {w w' : World} {B : Nat} {v : Value} {xs : List Int} (h : OwnI w B v xs) (hb : Below w.heap.size w w') : OwnI w' B v xs :=
  World.ownsRow.kept (row := none) h ⟨hb.os, hb.tape, hb.output, hb.size, fun i hi _ => hb.block i hi⟩ (by cases v.ownBlock <;> simp)
theorem OwnI.kept {w w' : World} {B : Nat} {v : Value} {xs : List Int} {row : Option Nat} (h : OwnI w B v xs) (hg : w.grownBy w' row) (hne : ∀ g, v.ownBlock = some g → row ≠ some g) : OwnI w' B v xs :=
  World.ownsRow.kept h hg (by cases hv : v.ownBlock with
    | none => exact .inl rfl
    | some g => exact .inr (fun e => hne g hv e.symm))
theorem OwnI.mono {w : World} {B B' : Nat} {v : Value} {xs : List Int} (h : OwnI w B v xs) (hb : B' ≤ B) : OwnI w B' v xs := by
  obtain ⟨h1, h2⟩ := h
  refine ⟨h1, ?_⟩
  rcases h2 with h2 | ⟨g, cap, cur, hv, hg, r⟩
  · exact .inl h2
  · exact .inr ⟨g, cap, cur, hv, by omega, r⟩
theorem OwnI.nil (w : World) (B : Nat) : OwnI w B (.slice none 0 0) [] := World.ownsRow_nil _ _ _ _
theorem OwnI.read {w : World} {B : Nat} {v : Value} {xs : List Int} (h : OwnI w B v xs) : ∃ A cap, v = .slice A xs.length cap ∧ xs.length ≤ maxLen := by
  rcases h.2 with ⟨rfl, hn⟩ | ⟨g, cap, cur, rfl, hb, hg, hnc, hcm, _⟩
  · exact ⟨none, 0, by rw [hn], by rw [hn]; unfold maxLen; omega⟩
  · exact ⟨_, cap, rfl, by omega⟩
theorem OwnI.form {w : World} {B : Nat} {v : Value} {xs : List Int} (h : OwnI w B v xs) (h0 : 0 < xs.length) : ∃ g cap, v = .slice (some ⟨g, 0, none⟩) xs.length cap := by
  rcases h.2 with ⟨_, hn⟩ | ⟨g, cap, cur, hv, _⟩
  · omega
  · exact ⟨g, cap, hv⟩
theorem OwnI.len {w : World} {B : Nat} {A : Option Addr} {n cap : Nat} {xs : List Int} (h : OwnI w B (.slice A n cap) xs) : n = xs.length := by
  obtain ⟨A', c', he, _⟩ := h.read
  simp at he
  exact he.2.1
theorem ownI_rng {w : World} {B : Nat} {v : Value} {xs : List Int} (h : OwnI w B v xs) : Rng B w.heap.size v := fun g hg => World.ownsRow.lt h g hg
theorem below_ownI {W w w' : World} {v : Value} {xs : List Int} (hb : Below W.heap.size W w) (ho : OwnI w W.heap.size v xs) (hg : w.grownBy w' v.ownBlock) : Below W.heap.size W w' :=
  hb.grown hg hb.size (fun k hk => (World.ownsRow.lt ho k hk).1)
theorem OwnI.cells {w : World} {B g n cap : Nat} {xs : List Int} (h : OwnI w B (.slice (some ⟨g, 0, none⟩) n cap) xs) (i : Nat) (m : Int) (hm : xs[i]? = some m) :
    w.cell? ⟨g, i, none⟩ = some (.int .i64 m) ∧ w.frozen? ⟨g, i, none⟩ = false := by
  have h0 := World.ownsRow.cells h (g := g) rfl i (.int .i64 m) (by simp [cellsI, hm])
  rw [add_lit'] at h0
  refine ⟨h0, ?_⟩
  rcases h.2 with ⟨hv, _⟩ | ⟨g', cap', cur, hv, _, hg, _⟩
  · cases hv
  · simp at hv; obtain ⟨rfl, _, _⟩ := hv
    simp [World.frozen?, hg]
/-- The number at an index. -/
theorem OwnI.at_ {w : World} {B : Nat} {A : Option Addr} {n cap : Nat} {xs : List Int} (h : OwnI w B (.slice A n cap) xs) (i : Nat) (hi : i < n) :
    ∃ g m, A = some ⟨g, 0, none⟩ ∧ xs[i]? = some m ∧ w.cell? ⟨g, i, none⟩ = some (.int .i64 m) := by
  have hl := h.len
  obtain ⟨g, cap', hv⟩ := h.form (by omega)
  simp at hv
  obtain ⟨rfl, _, _⟩ := hv
  have hx : xs[i]? = some (xs[i]'(by omega)) := List.getElem?_eq_getElem _
  exact ⟨g, _, rfl, hx, (h.cells i _ hx).1⟩
theorem OwnI.set {w : World} {B g n cap : Nat} {xs : List Int} (h : OwnI w B (.slice (some ⟨g, 0, none⟩) n cap) xs) (i : Nat) (x : Int) :
    OwnI (w.setCell ⟨g, i, none⟩ (.int .i64 x)) B (.slice (some ⟨g, 0, none⟩) n cap) (xs.set i x) := by
  refine ⟨by rw [cellsI_len]; omega, ?_⟩
  rcases h.2 with ⟨hv, _⟩ | ⟨g', cap', cur, hv, hb, hg, hnc, hcm, hcs, ht⟩
  · cases hv
  · simp at hv; obtain ⟨rfl, rfl, rfl⟩ := hv
    refine .inr ⟨g, cap, cur.setIfInBounds i (.int .i64 x), by simp, hb, ?_, by simpa using hnc, hcm, by simp [hcs], ?_⟩
    · simp [World.setCell, Array.getElem?_modify, hg]
    · rw [List.length_set, Array.toList_setIfInBounds, List.take_set, ht]; simp [cellsI, List.map_set]

def marksI (k : Int) (n : Nat) : List Int := (List.range n).map fun (i : Nat) => k + (i : Int)
theorem marksI_len (k : Int) (n : Nat) : (marksI k n).length = n := by simp [marksI]
theorem marksI_succ (k : Int) (n : Nat) : marksI k (n + 1) = marksI k n ++ [k + (n : Int)] := by simp [marksI, List.range_succ]
theorem marksI_mid (k : Int) (i : Nat) (xs : List Int) (m : Int) (h : xs[i]? = some m) : (marksI k i ++ xs.drop i)[i]? = some m := by
  rw [List.getElem?_append_right (by rw [marksI_len]; omega), marksI_len, Nat.sub_self, List.getElem?_drop, Nat.add_zero]; exact h
theorem marksI_step (k : Int) (i : Nat) (xs : List Int) (m : Int) (h : xs[i]? = some m) : (marksI k i ++ xs.drop i).set i (k + (i : Int)) = marksI k (i + 1) ++ xs.drop (i + 1) := by
  obtain ⟨hh, he⟩ := List.getElem?_eq_some_iff.1 h
  rw [marksI_succ, List.set_append_right _ _ (by rw [marksI_len]; omega), marksI_len, Nat.sub_self, List.drop_eq_getElem_cons hh, List.set_cons_zero, List.append_assoc]
  rfl
theorem marksI_get (k : Int) (n i : Nat) (h : i < n) : (marksI k n)[i]? = some (k + (i : Int)) := by simp [marksI, h]
def MarkedI (k : Int) (n : Nat) (v : Value) (B : Nat) (w : World) (e : Ending) (w' : World) : Prop :=
  e = .returned (.int .i64 (k + (n : Int))) ∧ OwnI w' B v (marksI k n) ∧ w.grownBy w' v.ownBlock

end Go.Proofs.Ytafngfmloiikoaa
