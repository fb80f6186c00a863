/-
  MergeBatches of the reference. By an AI agent.
-/
import Derived.Test.YtkbbnobchmlmdaaMerge
import Derived.Laws.AppendOwnNone
namespace Go.Proofs.Ytkbbnobchmlmdaa
open Go.RowKit

theorem LS.news {w : World} {ad : Addr} {n cap : Nat} {ls : List Ltr} (h : LS w (some ad) n cap ls) : ∀ j u, (cellsL ls)[j]? = some u → w.cell? (ad.add j) = some u := by
  intro j u hu
  have hj : j < ls.length * 2 := by have := (List.getElem?_eq_some_iff.1 hu).1; rwa [cellsL_length] at this
  obtain ⟨h1, h2, h3, h4, h5⟩ := h
  obtain ⟨g, off, ha, hc⟩ := h5 (by omega)
  injection ha with ha
  subst ha
  rw [show (Addr.add ⟨g, off, none⟩ j : Addr) = ⟨g, off + j, none⟩ by unfold Addr.add; split <;> simp_all]
  have hi : j / 2 < ls.length := by omega
  have hat := cellsL_at ls (j / 2) hi
  by_cases e : j % 2 = 0
  · have hj2 : j = j / 2 * 2 := by omega
    rw [hj2] at hu ⊢
    rw [hat.1] at hu
    rw [(hc (j / 2) hi).1, ← hu]
  · have hj2 : j = j / 2 * 2 + 1 := by omega
    rw [hj2] at hu ⊢
    rw [hat.2] at hu
    rw [← Nat.add_assoc, (hc (j / 2) hi).2, ← hu]
/-- What an append of letters to the first of two slices leaves. -/
theorem Two.apps {w w' : World} {B : Nat} {v1 v2 v' : Value} {l1 l2 xs : List Ltr} (h : Two w B v1 l1 v2 l2) (hx : ∀ l ∈ xs, l.2.size ≤ maxLen)
    (ho : w'.ownsRow B 29 2 v' (l1.length + xs.length) (cellsL l1 ++ cellsL xs)) (hg : w.grownBy w' v1.ownBlock) (hl : v'.ownBlock = v1.ownBlock ∨ v'.ownBlock = some w.heap.size) :
    Two w' B v' (l1 ++ xs) v2 l2 := by
  refine ⟨⟨?_, fun l hm => ?_⟩, h.2.1.kept hg (fun g hv he => h.2.2 g he hv), fun g hv he => ?_⟩
  · rw [cellsL_append, List.length_append]; exact ho
  · rcases List.mem_append.1 hm with h1 | h1
    · exact h.1.2 l h1
    · exact hx l h1
  · rcases hl with hl | hl
    · rw [hl] at hv; exact h.2.2 g hv he
    · rw [hl] at hv
      injection hv with hv
      have := (h.2.1.1.lt g he).2
      omega
/-- An append whose run is known. -/
theorem wpList_append_run {P : Program} {w : World} {ops : Array Oper} {rest : List Oper} {o : Oper} {a : Act} {Q : Exit → Act → World → Prop} (hgd : o.guard = none) (s x : Operand) (t : TypeId)
    (ho : o.op = .call { callee := .builtin .append, args := #[s, x], argTypes := #[t, t] }) (v1 v2 v' : Value) (w' : World) (h1 : a.eval s = v1) (h2 : a.eval x = v2)
    (hrun : (Builtin.append_ #[t, t] o.type #[v1, v2]).run P w = .ok v' w') (h : wpList P ops Q rest (a.put o.dst v') w') : wpList P ops Q (o :: rest) a w := by
  refine wpList_plain hgd fun K hK => ?_
  unfold Oper.wp execOp
  simp only [ho, resolve, invoke, builtin, Sem.run_bind, Sem.run_pure, Result.andThen_ok, List.map_toArray, List.map_cons, List.map_nil, h1, h2, hrun]
  exact hK _ _ h
/-- An append of letters that lie somewhere to a slice of the call's own. -/
theorem run_apps {w : World} {B : Nat} {v : Value} {ls xs : List Ltr} {A : Option Addr} {m cap : Nat} (ho : Own w B v ls) (hs : LS w A m cap xs) (hnil : A = none → cap = 0) (hB : B ≤ w.heap.size) (hlen : ls.length + m ≤ 4194304) (ty : TypeId) :
    ∃ v' w', (Builtin.append_ #[23, 23] ty #[v, .slice A m cap]).run Try.prog w = .ok v' w' ∧ w'.ownsRow B 29 2 v' (ls.length + xs.length) (cellsL ls ++ cellsL xs) ∧ w.grownBy w' v.ownBlock ∧ (v'.ownBlock = v.ownBlock ∨ v'.ownBlock = some w.heap.size) := by
  obtain ⟨i0, hi, hz0, hz1, hz2⟩ := info_parts info_letter
  have hm := hs.1
  cases A with
  | none =>
    have hm0 : m = 0 := by
      cases m with
      | zero => rfl
      | succ k => obtain ⟨g, off, h, _⟩ := hs.2.2.2.2 (by omega); cases h
    obtain rfl := hnil rfl
    subst hm0
    obtain rfl : xs = [] := List.eq_nil_of_length_eq_zero hm
    refine ⟨v, w, run_append_owned_none (P := Try.prog) (w := w) B 23 ty 29 i0 2 Try.underlying23 hi v _ _ ho.1, by simpa [cellsL] using ho.1, World.grownBy.refl _ _, .inl rfl⟩
  | some ad =>
    obtain ⟨v', w', h1, h2, h3, _, h5⟩ := run_append_own_at (P := Try.prog) w B 23 ty 29 i0 _ 2 24 Try.underlying23 hi hz0 hz1 hz2 rfl (by decide) v _ _ ho.1 ad m cap (cellsL xs) (by rw [cellsL_length, hm]) hs.news (cellsL_oneCell xs) (by unfold maxLen; omega) (by omega) hB
    exact ⟨v', w', h1, by rw [hm]; exact h2, h3, h5⟩
theorem LS.tail {w : World} {g off n cap : Nat} {x : Ltr} {ls : List Ltr} (h : LS w (some ⟨g, off, none⟩) (n + 1) cap (x :: ls)) : LS w (some ⟨g, off + 2, none⟩) n (cap - 1) ls := by
  obtain ⟨h1, h2, h3, h4, h5⟩ := h
  refine ⟨by simpa using h1, by omega, by omega, fun l hl => h4 l (List.mem_cons_of_mem _ hl), fun h0 => ⟨g, off + 2, rfl, fun i hi => ?_⟩⟩
  obtain ⟨g', off', ha, hc⟩ := h5 (by omega)
  simp at ha
  obtain ⟨rfl, rfl⟩ := ha
  have hh := hc (i + 1) (by simpa using hi)
  rw [show off + 2 + i * 2 = off + (i + 1) * 2 by omega]
  simpa using hh
theorem LS.empty (w : World) (A : Option Addr) (cap : Nat) (h : cap ≤ maxLen) : LS w A 0 cap [] := ⟨rfl, Nat.zero_le _, h, fun l hl => (by cases hl), fun h => by omega⟩
theorem Own.nilcap {w : World} {B : Nat} {A : Option Addr} {n cap : Nat} {ls : List Ltr} (h : Own w B (.slice A n cap) ls) : A = none → cap = 0 := by
  intro hA
  rcases h.1.2 with ⟨hv, _⟩ | ⟨g, cap', cur, hv, _⟩
  · simp at hv; exact hv.2.2
  · simp at hv; rw [hA] at hv; cases hv.1

def lenOf : Value → Nat | .slice _ n _ => n | _ => 0
theorem LS.first {w : World} {A : Option Addr} {n cap : Nat} {ls : List Ltr} (h : LS w A n cap ls) (h0 : 0 < n) :
    ∃ (g off : Nat) (x : Ltr) (ls' : List Ltr) (n' : Nat), A = some ⟨g, off, none⟩ ∧ n = n' + 1 ∧ ls = x :: ls' ∧ x.2.size ≤ maxLen ∧ w.cell? ⟨g, off, none⟩ = some (.int .i64 x.1) ∧ w.cell? ⟨g, off + 1, none⟩ = some (.string x.2) := by
  obtain ⟨g, off, l, hA, hl, hlm, c0, c1⟩ := h.at_ 0 h0
  match ls, hl with
  | x :: ls', hl =>
    simp at hl
    subst hl
    exact ⟨g, off, x, ls', n - 1, hA, by omega, rfl, hlm, by simpa using c0, by simpa using c1⟩

end Go.Proofs.Ytkbbnobchmlmdaa
