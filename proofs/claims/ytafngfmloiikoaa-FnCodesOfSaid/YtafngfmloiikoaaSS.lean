/-
  BINS in memory: rows of slices of letters, read and of the call's own. By an AI agent.
-/
import Derived.Test.YtafngfmloiikoaaVary
namespace Go.Proofs.Ytafngfmloiikoaa
open Go.RowKit

/-- Old blocks outside of a range are as they were. -/
structure Chg (lo hi : Nat) (w w' : World) : Prop where
  os : w'.os = w.os
  tape : w'.tape = w.tape
  output : w'.output = w.output
  size : w.heap.size ≤ w'.heap.size
  block : ∀ k, k < w.heap.size → k < lo ∨ hi ≤ k → w'.heap[k]? = w.heap[k]?
theorem Chg.refl (lo hi : Nat) (w : World) : Chg lo hi w w := ⟨rfl, rfl, rfl, Nat.le_refl _, fun _ _ _ => rfl⟩
theorem Chg.trans {lo hi : Nat} {a b c : World} (h : Chg lo hi a b) (k : Chg lo hi b c) : Chg lo hi a c :=
  ⟨k.os.trans h.os, k.tape.trans h.tape, k.output.trans h.output, Nat.le_trans h.size k.size, fun i hi hn => (k.block i (Nat.lt_of_lt_of_le hi h.size) hn).trans (h.block i hi hn)⟩
theorem Chg.ofGrown {lo hi : Nat} {w w' : World} {v : Value} (h : w.grownBy w' v.ownBlock) (r : Rng lo hi v) : Chg lo hi w w' :=
  ⟨h.os, h.tape, h.output, h.size, fun i hi hn => h.block i hi (fun e => by have := r i e.symm; omega)⟩
theorem Chg.ofExt {lo hi : Nat} {w w' : World} (h : Below w.heap.size w w') : Chg lo hi w w' := ⟨h.os, h.tape, h.output, h.size, fun i hi _ => h.block i hi⟩
theorem below_chg {W w w' : World} {lo hi : Nat} (hb : Below W.heap.size W w) (h : Chg lo hi w w') (hl : W.heap.size ≤ lo) : Below W.heap.size W w' :=
  ⟨h.os.trans hb.os, h.tape.trans hb.tape, h.output.trans hb.output, Nat.le_trans hb.size h.size, fun k hk => (h.block k (Nat.lt_of_lt_of_le hk hb.size) (.inl (by omega))).trans (hb.block k hk)⟩
theorem row_chg {w w' : World} {lo hi a b B : Nat} {e : TypeId} {size : Nat} {v : Value} {n : Nat} {xs : List Value} (h : w.ownsRow B e size v n xs) (hc : Chg lo hi w w') (r : Rng a b v) (hd : b ≤ lo ∨ hi ≤ a) : w'.ownsRow B e size v n xs := by
  obtain ⟨h1, h2⟩ := h
  refine ⟨h1, ?_⟩
  rcases h2 with h2 | ⟨g, cap, cur, hv, hb, hg, r'⟩
  · exact .inl h2
  · have hr := r g (by rw [hv]; rfl)
    have hlt : g < w.heap.size := by
      by_cases hh : g < w.heap.size
      · exact hh
      · rw [Array.getElem?_eq_none (by omega)] at hg; cases hg
    exact .inr ⟨g, cap, cur, hv, hb, by rw [hc.block g hlt (by omega)]; exact hg, r'⟩
theorem Own.chg {w w' : World} {lo hi a b B : Nat} {v : Value} {ls : List Ltr} (h : Own w B v ls) (hc : Chg lo hi w w') (r : Rng a b v) (hd : b ≤ lo ∨ hi ≤ a) : Own w' B v ls := ⟨row_chg h.1 hc r hd, h.2⟩

/-- Slices in blocks of their own, apart from each other. -/
def Apart (vs : List Value) : Prop := vs.Pairwise fun a b => ∀ g, a.ownBlock = some g → b.ownBlock ≠ some g
theorem apart_iff (vs : List Value) : Apart vs ↔ ∀ (i j : Nat) (a b : Value), vs[i]? = some a → vs[j]? = some b → i ≠ j → ∀ g, a.ownBlock = some g → b.ownBlock ≠ some g := by
  constructor
  · intro h i j a b ha hb hij g hg he
    obtain ⟨hi, ea⟩ := List.getElem?_eq_some_iff.1 ha
    obtain ⟨hj, eb⟩ := List.getElem?_eq_some_iff.1 hb
    rcases Nat.lt_or_gt_of_ne hij with hl | hl
    · exact List.pairwise_iff_getElem.1 h i j hi hj hl g (by rw [ea]; exact hg) (by rw [eb]; exact he)
    · exact List.pairwise_iff_getElem.1 h j i hj hi hl g (by rw [eb]; exact he) (by rw [ea]; exact hg)
  · intro h
    exact List.pairwise_iff_getElem.2 fun i j hi hj hl g hg he => h i j _ _ (List.getElem?_eq_getElem hi) (List.getElem?_eq_getElem hj) (by omega) g hg he

/-- A row of slices of letters of the call's own. -/
structure OwnSS (w : World) (B : Nat) (v : Value) (vs : List Value) (bss : List (List Ltr)) : Prop where
  row : w.ownsRow B 23 1 v bss.length vs
  each : ∀ (i : Nat) (u : Value) (b : List Ltr), vs[i]? = some u → bss[i]? = some b → Own w B u b
  apart : ∀ (i j : Nat) (a b : Value), vs[i]? = some a → vs[j]? = some b → i ≠ j → ∀ g, a.ownBlock = some g → b.ownBlock ≠ some g
  out : ∀ (i : Nat) (u : Value), vs[i]? = some u → ∀ g, u.ownBlock = some g → v.ownBlock ≠ some g
theorem OwnSS.vlen {w : World} {B : Nat} {v : Value} {vs : List Value} {bss : List (List Ltr)} (h : OwnSS w B v vs bss) : vs.length = bss.length := by have := h.row.1; omega
theorem OwnSS.mono {w : World} {B B' : Nat} {v : Value} {vs : List Value} {bss : List (List Ltr)} (h : OwnSS w B v vs bss) (hb : B' ≤ B) : OwnSS w B' v vs bss := by
  refine ⟨?_, fun i u b h1 h2 => (h.each i u b h1 h2).mono hb, h.apart, h.out⟩
  obtain ⟨h1, h2⟩ := h.row
  refine ⟨h1, ?_⟩
  rcases h2 with h2 | ⟨g, cap, cur, hv, hg, r⟩
  · exact .inl h2
  · exact .inr ⟨g, cap, cur, hv, by omega, r⟩
theorem OwnSS.ext {w w' : World} {B : Nat} {v : Value} {vs : List Value} {bss : List (List Ltr)} (h : OwnSS w B v vs bss) (hb : Below w.heap.size w w') : OwnSS w' B v vs bss :=
  ⟨h.row.kept (row := none) ⟨hb.os, hb.tape, hb.output, hb.size, fun i hi _ => hb.block i hi⟩ (by cases v.ownBlock <;> simp), fun i u b h1 h2 => (h.each i u b h1 h2).ext hb, h.apart, h.out⟩
def RngSS (lo hi : Nat) (v : Value) (vs : List Value) : Prop := Rng lo hi v ∧ ∀ (i : Nat) (u : Value), vs[i]? = some u → Rng lo hi u
theorem OwnSS.get {w : World} {B : Nat} {v : Value} {vs : List Value} {bss : List (List Ltr)} (h : OwnSS w B v vs bss) (i : Nat) (hi : i < bss.length) : ∃ u b, vs[i]? = some u ∧ bss[i]? = some b ∧ Own w B u b := by
  have h1 : vs[i]? = some (vs[i]'(by rw [h.vlen]; exact hi)) := List.getElem?_eq_getElem _
  have h2 : bss[i]? = some bss[i] := List.getElem?_eq_getElem _
  exact ⟨_, _, h1, h2, h.each i _ _ h1 h2⟩
theorem OwnSS.get1 {w : World} {B : Nat} {v : Value} {vs : List Value} {bss : List (List Ltr)} (h : OwnSS w B v vs bss) {i : Nat} {u : Value} (hu : vs[i]? = some u) : ∃ b, bss[i]? = some b ∧ Own w B u b := by
  have hl := (List.getElem?_eq_some_iff.1 hu).1
  obtain ⟨u', b, h1, h2, h3⟩ := h.get i (by rw [← h.vlen]; exact hl)
  rw [hu] at h1; injection h1 with h1; subst h1
  exact ⟨b, h2, h3⟩
theorem OwnSS.rng {w : World} {B : Nat} {v : Value} {vs : List Value} {bss : List (List Ltr)} (h : OwnSS w B v vs bss) : RngSS B w.heap.size v vs :=
  ⟨fun g hg => h.row.lt g hg, fun i u hu => by obtain ⟨b, _, ho⟩ := h.get1 hu; exact own_rng ho⟩
theorem OwnSS.chg {w w' : World} {lo hi a b B : Nat} {v : Value} {vs : List Value} {bss : List (List Ltr)} (h : OwnSS w B v vs bss) (hc : Chg lo hi w w') (r : RngSS a b v vs) (hd : b ≤ lo ∨ hi ≤ a) : OwnSS w' B v vs bss :=
  ⟨row_chg h.row hc r.1 hd, fun i u c h1 h2 => (h.each i u c h1 h2).chg hc (r.2 i u h1) hd, h.apart, h.out⟩
theorem OwnSS.nil (w : World) (B : Nat) : OwnSS w B (.slice none 0 0) [] [] :=
  ⟨World.ownsRow_nil _ _ _ _, fun i u b h1 => by simp at h1, fun i j a b h1 => by simp at h1, fun i u h1 => by simp at h1⟩

/-- A row of slices of letters that reads as a list of lists. -/
def LSS (w : World) (A : Option Addr) (n cap : Nat) (bss : List (List Ltr)) : Prop :=
  bss.length = n ∧ n ≤ cap ∧ cap ≤ maxLen ∧
  (0 < n → ∃ g off : Nat, A = some ⟨g, off, none⟩ ∧ ∀ (i : Nat) (b : List Ltr), bss[i]? = some b → ∃ (A' : Option Addr) (n' c' : Nat), w.cell? ⟨g, off + i, none⟩ = some (.slice A' n' c') ∧ LS w A' n' c' b ∧ (A' = none → c' = 0))
theorem LSS.ext {w w' : World} {A : Option Addr} {n cap : Nat} {bss : List (List Ltr)} (h : LSS w A n cap bss) (hb : Below w.heap.size w w') : LSS w' A n cap bss := by
  obtain ⟨h1, h2, h3, h5⟩ := h
  refine ⟨h1, h2, h3, fun h0 => ?_⟩
  obtain ⟨g, off, ha, hc⟩ := h5 h0
  refine ⟨g, off, ha, fun i b hi => ?_⟩
  obtain ⟨A', n', c', k1, k2, k3⟩ := hc i b hi
  exact ⟨A', n', c', cell_later hb k1, k2.ext hb, k3⟩
theorem LSS.at_ {w : World} {A : Option Addr} {n cap : Nat} {bss : List (List Ltr)} (h : LSS w A n cap bss) (k : Nat) (hk : k < n) :
    ∃ (g off : Nat) (b : List Ltr) (A' : Option Addr) (n' c' : Nat), A = some ⟨g, off, none⟩ ∧ bss[k]? = some b ∧ w.cell? ⟨g, off + k, none⟩ = some (.slice A' n' c') ∧ LS w A' n' c' b ∧ (A' = none → c' = 0) := by
  obtain ⟨h1, h2, h3, h5⟩ := h
  obtain ⟨g, off, ha, hc⟩ := h5 (by omega)
  have hb : bss[k]? = some (bss[k]'(by omega)) := List.getElem?_eq_getElem _
  obtain ⟨A', n', c', k1, k2, k3⟩ := hc k _ hb
  exact ⟨g, off, _, A', n', c', ha, hb, k1, k2, k3⟩
theorem OwnSS.read {w : World} {B : Nat} {v : Value} {vs : List Value} {bss : List (List Ltr)} (h : OwnSS w B v vs bss) : ∃ A cap, v = .slice A bss.length cap ∧ LSS w A bss.length cap bss ∧ (A = none → cap = 0) := by
  have hrow := h.row
  have hc : ∀ g, v.ownBlock = some g → ∀ j u, vs[j]? = some u → w.cell? ((⟨g, 0, none⟩ : Addr).add j) = some u := fun g hg => hrow.cells hg
  rcases hrow.2 with ⟨hv, hn⟩ | ⟨g, cap, cur, hv, hb, hg, hnc, hcm, _⟩
  · exact ⟨none, 0, by rw [hn]; exact hv, ⟨rfl, by omega, by unfold maxLen; omega, fun h => by omega⟩, fun _ => rfl⟩
  · refine ⟨_, cap, hv, ⟨rfl, hnc, hcm, fun _ => ⟨g, 0, rfl, fun i b hi => ?_⟩⟩, fun h => by cases h⟩
    obtain ⟨hlt, _⟩ := List.getElem?_eq_some_iff.1 hi
    obtain ⟨u, b', h1, h2, h3⟩ := h.get i hlt
    rw [hi] at h2; injection h2 with h2; subst h2
    have h0 := hc g (by rw [hv]; rfl) i _ h1
    rw [add_lit'] at h0
    obtain ⟨A', c', rfl, hl⟩ := h3.read
    rw [Nat.zero_add]
    exact ⟨A', _, c', h0, hl, h3.nilcap⟩
theorem OwnSS.lss {w : World} {B : Nat} {A : Option Addr} {n cap : Nat} {vs : List Value} {bss : List (List Ltr)} (h : OwnSS w B (.slice A n cap) vs bss) : LSS w A n cap bss ∧ n = bss.length ∧ (A = none → cap = 0) := by
  obtain ⟨A', c', he, hl, hn⟩ := h.read
  simp at he
  obtain ⟨rfl, rfl, rfl⟩ := he
  exact ⟨hl, rfl, hn⟩
theorem OwnSS.len {w : World} {B : Nat} {A : Option Addr} {n cap : Nat} {vs : List Value} {bss : List (List Ltr)} (h : OwnSS w B (.slice A n cap) vs bss) : n = bss.length := h.lss.2.1
theorem OwnSS.form {w : World} {B : Nat} {v : Value} {vs : List Value} {bss : List (List Ltr)} (h : OwnSS w B v vs bss) (h0 : 0 < bss.length) : ∃ g cap, v = .slice (some ⟨g, 0, none⟩) bss.length cap := by
  rcases h.row.2 with ⟨_, hn⟩ | ⟨g, cap, cur, hv, _⟩
  · omega
  · exact ⟨g, cap, hv⟩
theorem OwnSS.cell {w : World} {B g n cap : Nat} {vs : List Value} {bss : List (List Ltr)} (h : OwnSS w B (.slice (some ⟨g, 0, none⟩) n cap) vs bss) (i : Nat) (u : Value) (hu : vs[i]? = some u) :
    w.cell? ⟨g, i, none⟩ = some u ∧ w.frozen? ⟨g, i, none⟩ = false := by
  have h0 := h.row.cells (g := g) rfl i u hu
  rw [add_lit'] at h0
  refine ⟨h0, ?_⟩
  rcases h.row.2 with ⟨hv, _⟩ | ⟨g', cap', cur, hv, _, hg, _⟩
  · cases hv
  · simp at hv; obtain ⟨rfl, _, _⟩ := hv
    simp [World.frozen?, hg]

/-- One of the slices is turned into another, in a block of its own; then it is laid into the row. -/
theorem OwnSS.put {w w4 : World} {B g n cap : Nat} {vs : List Value} {bss : List (List Ltr)} (h : OwnSS w B (.slice (some ⟨g, 0, none⟩) n cap) vs bss) (d : Nat) (u u' : Value) (b' : List Ltr) (hd : vs[d]? = some u)
    (hg : w.grownBy w4 u.ownBlock) (ho : Own w4 B u' b') (hl : ∀ k, u'.ownBlock = some k → u.ownBlock = some k ∨ w.heap.size ≤ k) :
    OwnSS (w4.setCell ⟨g, d, none⟩ u') B (.slice (some ⟨g, 0, none⟩) n cap) (vs.set d u') (bss.set d b') := by
  have hgr : Rng B w.heap.size (.slice (some ⟨g, 0, none⟩) n cap) := h.rng.1
  have hglt : g < w.heap.size := (hgr g rfl).2
  have hgne : ∀ (i : Nat) (x : Value), vs[i]? = some x → x.ownBlock ≠ some g := fun i x hx he => h.out i x hx g he rfl
  have hu'g : u'.ownBlock ≠ some g := by
    intro he
    rcases hl g he with h1 | h1
    · exact hgne d u hd h1
    · omega
  have hset : ∀ {x : Value} {b : List Ltr}, Own w4 B x b → x.ownBlock ≠ some g → Own (w4.setCell ⟨g, d, none⟩ u') B x b := by
    intro x b hx hne
    refine ⟨⟨hx.1.1, ?_⟩, hx.2⟩
    rcases hx.1.2 with h2 | ⟨g', cap', cur, hv, hb, hg', r⟩
    · exact .inl h2
    · refine .inr ⟨g', cap', cur, hv, hb, ?_, r⟩
      rw [Below.heap_setCell w4 ⟨g, d, none⟩ u' g' (by intro e; simp at e; subst e; exact hne (by rw [hv]; rfl))]
      exact hg'
  have hblk : ∀ (i : Nat) (x : Value), vs[i]? = some x → ∀ k, x.ownBlock = some k → B ≤ k ∧ k < w.heap.size := fun i x hx k hk => h.rng.2 i x hx k hk
  have hat : ∀ (i : Nat) (x : Value), (vs.set d u')[i]? = some x → (i = d ∧ x = u') ∨ (i ≠ d ∧ vs[i]? = some x) := by
    intro i x hx
    by_cases e : i = d
    · subst e
      rw [List.getElem?_set_self (List.getElem?_eq_some_iff.1 hd).1] at hx
      injection hx with hx
      exact .inl ⟨rfl, hx.symm⟩
    · rw [List.getElem?_set_ne (by omega)] at hx
      exact .inr ⟨e, hx⟩
  refine ⟨?_, ?_, ?_, ?_⟩
  · obtain ⟨h1, h2⟩ := h.row
    refine ⟨by simpa using h1, ?_⟩
    rcases h2 with ⟨hv, _⟩ | ⟨g', cap', cur, hv, hb, hg', hnc, hcm, hcs, ht⟩
    · cases hv
    · simp at hv; obtain ⟨rfl, rfl, rfl⟩ := hv
      refine .inr ⟨g, cap, cur.setIfInBounds d u', by simp, hb, ?_, by simpa using hnc, hcm, by simp [hcs], ?_⟩
      · have : w4.heap[g]? = some (.cells cur 23 (0, 0)) := by
          rw [hg.block g hglt (fun e => hgne d u hd e.symm)]; exact hg'
        simp [World.setCell, Array.getElem?_modify, this]
      · rw [List.length_set, Array.toList_setIfInBounds, List.take_set, ht]
  · intro i x b hx hb
    rcases hat i x hx with ⟨rfl, rfl⟩ | ⟨hne, hx'⟩
    · have hdl : i < bss.length := by rw [← h.vlen]; exact (List.getElem?_eq_some_iff.1 hd).1
      rw [List.getElem?_set_self hdl] at hb
      injection hb with hb
      subst hb
      exact hset ho hu'g
    · rw [List.getElem?_set_ne (by omega)] at hb
      exact hset ((h.each i x b hx' hb).kept hg (fun k hk he => h.apart i d x u hx' hd hne k hk he)) (hgne i x hx')
  · intro i j a b ha hb hij k hk he
    rcases hat i a ha with ⟨rfl, rfl⟩ | ⟨hne, ha'⟩
    · rcases hat j b hb with ⟨rfl, rfl⟩ | ⟨hne2, hb'⟩
      · exact hij rfl
      · rcases hl k hk with h1 | h1
        · exact h.apart i j u b hd hb' hij k h1 he
        · have := (hblk j b hb' k he).2; omega
    · rcases hat j b hb with ⟨rfl, rfl⟩ | ⟨hne2, hb'⟩
      · rcases hl k he with h1 | h1
        · exact h.apart i j a u ha' hd hij k hk h1
        · have := (hblk i a ha' k hk).2; omega
      · exact h.apart i j a b ha' hb' hij k hk he
  · intro i x hx k hk he
    simp [Value.ownBlock] at he
    subst he
    rcases hat i x hx with ⟨rfl, rfl⟩ | ⟨hne, hx'⟩
    · exact hu'g hk
    · exact hgne i x hx' hk

/-- A slice in a block of its own is appended to the row. -/
theorem OwnSS.app {w w' : World} {B : Nat} {v v' u : Value} {vs : List Value} {bss : List (List Ltr)} {b : List Ltr} (h : OwnSS w B v vs bss) (hu : Own w B u b)
    (hn : ∀ (i : Nat) (x : Value), vs[i]? = some x → ∀ g, x.ownBlock = some g → u.ownBlock ≠ some g) (hv : ∀ g, v.ownBlock = some g → u.ownBlock ≠ some g)
    (ho : w'.ownsRow B 23 1 v' (bss.length + 1) (vs ++ [u])) (hg : w.grownBy w' v.ownBlock) (hl : v'.ownBlock = v.ownBlock ∨ v'.ownBlock = some w.heap.size) :
    OwnSS w' B v' (vs ++ [u]) (bss ++ [b]) := by
  have hvl := h.vlen
  have hat : ∀ (i : Nat) (x : Value), (vs ++ [u])[i]? = some x → (i = vs.length ∧ x = u) ∨ (i < vs.length ∧ vs[i]? = some x) := by
    intro i x hx
    by_cases e : i < vs.length
    · rw [List.getElem?_append_left e] at hx; exact .inr ⟨e, hx⟩
    · have hlt := (List.getElem?_eq_some_iff.1 hx).1
      simp at hlt
      obtain rfl : i = vs.length := by omega
      rw [List.getElem?_append_right (by omega)] at hx
      simp at hx
      exact .inl ⟨rfl, hx.symm⟩
  have hne : ∀ {x : Value} {c : List Ltr}, Own w B x c → (∀ g, x.ownBlock = some g → v.ownBlock ≠ some g) → Own w' B x c ∧ ∀ g, x.ownBlock = some g → v'.ownBlock ≠ some g := by
    intro x c hx hxv
    refine ⟨hx.kept hg hxv, fun g hgx he => ?_⟩
    rcases hl with h1 | h1
    · rw [h1] at he; exact hxv g hgx he
    · rw [h1] at he; injection he with he
      have := (hx.1.lt g hgx).2; omega
  refine ⟨by rw [List.length_append]; exact ho, ?_, ?_, ?_⟩
  · intro i x c hx hc
    rcases hat i x hx with ⟨rfl, rfl⟩ | ⟨hlt, hx'⟩
    · rw [hvl] at hc
      simp at hc
      subst hc
      exact (hne hu (fun g hg he => hv g he hg)).1
    · rw [List.getElem?_append_left (by omega)] at hc
      exact (hne (h.each i x c hx' hc) (h.out i x hx')).1
  · intro i j a c ha hc hij g hga he
    rcases hat i a ha with ⟨rfl, rfl⟩ | ⟨hlt, ha'⟩
    · rcases hat j c hc with ⟨rfl, rfl⟩ | ⟨hlt2, hc'⟩
      · exact hij rfl
      · exact hn j c hc' g he hga
    · rcases hat j c hc with ⟨rfl, rfl⟩ | ⟨hlt2, hc'⟩
      · exact hn i a ha' g hga he
      · exact h.apart i j a c ha' hc' hij g hga he
  · intro i x hx
    rcases hat i x hx with ⟨rfl, rfl⟩ | ⟨hlt, hx'⟩
    · exact (hne hu (fun g hg he => hv g he hg)).2
    · obtain ⟨c, _, ho'⟩ := h.get1 hx'
      exact (hne ho' (h.out i x hx')).2

end Go.Proofs.Ytafngfmloiikoaa
