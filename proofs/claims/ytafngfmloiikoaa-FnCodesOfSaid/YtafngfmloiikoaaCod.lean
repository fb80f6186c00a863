/-
  PLAIN FACTS on the different codes of a sorted batch. No program in sight. By an AI agent.
-/
import Derived.Test.YtafngfmloiikoaaStab2
import Derived.Test.YtafngfmloiikoaaPlainP
namespace Go.Proofs.Ytafngfmloiikoaa

/-- The code at a place. -/
def cdAt (zs : List Ltr) (i : Nat) : ByteArray := ((zs[i]?).getD (0, ⟨#[]⟩)).2
/-- Does another code begin there? -/
def newAt (zs : List Ltr) (i : Nat) : Bool := i == 0 || !((cdAt zs i).toList == (cdAt zs (i - 1)).toList)
/-- The different codes of the first k letters. -/
def cod (zs : List Ltr) (k : Nat) : List ByteArray := ((List.range k).filter (newAt zs)).map (cdAt zs)
/-- What CodesOf answers. -/
def codesR (ls : List Ltr) : List ByteArray := cod (sortR ls) (sortR ls).length
theorem cdAt_eq {zs : List Ltr} {i : Nat} {l : Ltr} (h : zs[i]? = some l) : cdAt zs i = l.2 := by unfold cdAt; rw [h]; rfl
theorem cod_succ (zs : List Ltr) (k : Nat) : cod zs (k + 1) = cod zs k ++ if newAt zs k = true then [cdAt zs k] else [] := by
  unfold cod; rw [List.range_succ, List.filter_append, List.map_append]
  by_cases h : newAt zs k = true
  · rw [if_pos h, List.filter_cons_of_pos h]; rfl
  · rw [if_neg h, List.filter_cons_of_neg h]; rfl
theorem cod_le (zs : List Ltr) (k : Nat) : (cod zs k).length ≤ k := by
  unfold cod; rw [List.length_map]
  exact Nat.le_trans (List.length_filter_le _ _) (by rw [List.length_range]; exact Nat.le_refl _)
theorem codesR_le (ls : List Ltr) : (codesR ls).length ≤ ls.length := Nat.le_trans (cod_le _ _) (sortR_len ls)
/-- a before b, strictly. -/
def ltC (a b : ByteArray) : Prop := ltB a b = true
theorem cod_all {zs : List Ltr} (hs : zs.Pairwise leL) : ∀ k, k ≤ zs.length → (∀ c ∈ cod zs k, ∃ i, i < k ∧ cdAt zs i = c) ∧ (∀ i, i < k → cdAt zs i ∈ cod zs k) ∧ (cod zs k).Pairwise ltC
  | 0, _ => ⟨fun c hc => by simp [cod] at hc, fun i hi => by omega, by simp [cod]⟩
  | k + 1, hk => by
    obtain ⟨h1, h2, h3⟩ := cod_all hs k (by omega)
    have le : ∀ i (hi : i < k), leL (zs[i]'(by omega)) (zs[k]'(by omega)) := fun i hi => List.pairwise_iff_getElem.1 hs i k (by omega) (by omega) hi
    have cd : ∀ i (h : i < zs.length), cdAt zs i = zs[i].2 := fun i h => cdAt_eq (List.getElem?_eq_getElem h)
    rw [cod_succ]
    by_cases hn : newAt zs k = true
    · rw [if_pos hn]
      refine ⟨fun c hc => ?_, fun i hi => ?_, ?_⟩
      · rcases List.mem_append.1 hc with hc | hc
        · obtain ⟨i, hi, he⟩ := h1 c hc; exact ⟨i, by omega, he⟩
        · simp at hc; exact ⟨k, by omega, hc.symm⟩
      · by_cases e : i = k
        · subst e; simp
        · exact List.mem_append_left _ (h2 i (by omega))
      · rw [List.pairwise_append]
        refine ⟨h3, by simp, fun c hc d hd => ?_⟩
        simp at hd; subst hd
        obtain ⟨i, hi, rfl⟩ := h1 c hc
        have hne : (cdAt zs k).toList ≠ (cdAt zs (k - 1)).toList := by
          simp only [newAt, Bool.or_eq_true, beq_iff_eq, Bool.not_eq_true', beq_eq_false_iff_ne] at hn
          rcases hn with h | h
          · omega
          · exact h
        have e1 : leL (zs[k - 1]'(by omega)) (zs[k]'(by omega)) := le (k - 1) (by omega)
        have hlt : ltB (zs[k - 1]'(by omega)).2 (zs[k]'(by omega)).2 = true := by
          refine bl_tri _ _ e1 (fun e => hne ?_)
          rw [cd k (by omega), cd (k - 1) (by omega)]; exact e
        rw [cd i (by omega), cd k (by omega)]
        by_cases e : i = k - 1
        · subst e; exact hlt
        · have e2 : leL (zs[i]'(by omega)) (zs[k - 1]'(by omega)) := List.pairwise_iff_getElem.1 hs i (k - 1) (by omega) (by omega) (by omega)
          exact le_lt e2 hlt
    · rw [if_neg hn, List.append_nil]
      have hk0 : k ≠ 0 := fun e => hn (by simp [newAt, e])
      have he : cdAt zs k = cdAt zs (k - 1) := by
        have : (cdAt zs k).toList = (cdAt zs (k - 1)).toList := by
          cases hb : (cdAt zs k).toList == (cdAt zs (k - 1)).toList with
          | true => simpa using hb
          | false => exact absurd (by simp [newAt, hb]) hn
        exact code_ext this
      refine ⟨fun c hc => by obtain ⟨i, hi, e⟩ := h1 c hc; exact ⟨i, by omega, e⟩, fun i hi => ?_, h3⟩
      by_cases e : i = k
      · subst e; rw [he]; exact h2 (i - 1) (by omega)
      · exact h2 i (by omega)
theorem ltC_ne {a b : ByteArray} (h : ltC a b) : a ≠ b := fun e => by subst e; unfold ltC ltB at h; rw [bl_irr] at h; cases h
theorem sum_one (x : ByteArray) : ∀ C : List ByteArray, C.Pairwise (· ≠ ·) → x ∈ C → (C.map fun c => if x = c then 1 else 0).sum = 1
  | [], _, h => by cases h
  | c :: C, hn, h => by
    rw [List.pairwise_cons] at hn
    rw [List.map_cons, List.sum_cons]
    by_cases e : x = c
    · subst e
      have h0 : ∀ D : List ByteArray, (∀ d ∈ D, x ≠ d) → (D.map fun c => if x = c then 1 else 0).sum = 0 := by
        intro D
        induction D with
        | nil => intro _; rfl
        | cons d D ih => intro hd; rw [List.map_cons, List.sum_cons, if_neg (hd d (by simp)), ih (fun y hy => hd y (List.mem_cons_of_mem _ hy))]
      rw [if_pos rfl, h0 C (fun d hd => hn.1 d hd)]
    · rw [if_neg e, sum_one x C hn.2 (by rcases List.mem_cons.1 h with h | h; exact absurd h e; exact h)]
theorem sum_split (x : ByteArray) (ls : List Ltr) (n : Int) : ∀ C : List ByteArray, (C.map fun c => (ofC c ((n, x) :: ls)).length).sum = (C.map fun c => if x = c then 1 else 0).sum + (C.map fun c => (ofC c ls).length).sum
  | [] => rfl
  | c :: C => by
    rw [List.map_cons, List.map_cons, List.map_cons, List.sum_cons, List.sum_cons, List.sum_cons, sum_split x ls n C, ofC_cons, List.length_append]
    by_cases e : x = c
    · rw [if_pos e, if_pos e]; simp; omega
    · rw [if_neg e, if_neg e]; simp; omega
theorem sum_all (C : List ByteArray) (hn : C.Pairwise (· ≠ ·)) : ∀ ls : List Ltr, (∀ l ∈ ls, l.2 ∈ C) → (C.map fun c => (ofC c ls).length).sum = ls.length
  | [], _ => by
    have : ∀ D : List ByteArray, (D.map fun c => (ofC c []).length).sum = 0 := by
      intro D; induction D with
      | nil => rfl
      | cons d D ih => rw [List.map_cons, List.sum_cons, ih]; rfl
    exact this C
  | (n, x) :: ls, h => by
    rw [sum_split, sum_one x C hn (h (n, x) (by simp)), sum_all C hn ls (fun l hl => h l (List.mem_cons_of_mem _ hl)), List.length_cons]; omega
/-- The codes of a batch: they ascend, each has a letter, and together they have all letters. -/
theorem codes_facts {ls : List Ltr} (hb : batchB ls = true) : (codesR ls).Pairwise ltC ∧ (∀ c ∈ codesR ls, ∃ l ∈ ls, l.2 = c) ∧ ((codesR ls).map fun c => (ofC c ls).length).sum = ls.length := by
  have hz := sortR_true hb
  obtain ⟨h1, h2, h3⟩ := cod_all (stabL_Stb ls).sorted (stabL ls).length (Nat.le_refl _)
  have e : codesR ls = cod (stabL ls) (stabL ls).length := by unfold codesR; rw [hz]
  rw [e]
  refine ⟨h3, fun c hc => ?_, sum_all _ (h3.imp (fun h => ltC_ne h)) ls (fun l hl => ?_)⟩
  · obtain ⟨i, hi, rfl⟩ := h1 c hc
    exact ⟨(stabL ls)[i], (stabL_perm ls).mem_iff.1 (List.getElem_mem hi), (cdAt_eq (List.getElem?_eq_getElem hi)).symm⟩
  · have hm := (stabL_perm ls).mem_iff.2 hl
    obtain ⟨i, hi, rfl⟩ := List.getElem_of_mem hm
    have := h2 i hi
    rwa [cdAt_eq (List.getElem?_eq_getElem hi)] at this
theorem begins_code {c p : ByteArray} (h : c.size = p.size) : beginsB c p = decide (c = p) := by
  rw [Bool.eq_iff_iff, begins_list, decide_eq_true_eq]
  have hc : c.data.toList.length = p.data.toList.length := by rw [Array.length_toList, Array.length_toList]; exact h
  rw [← hc, List.take_length]
  exact ⟨fun e => ByteArray.ext (Array.toList_inj.1 e), fun e => by rw [e]⟩
theorem withP_code {ls : List Ltr} (hb : batchB ls = true) {c : ByteArray} (hc : c.size = 7) : withP ls c = ofC c ls := by
  unfold withP ofC
  apply List.filter_congr
  intro l hl
  exact begins_code (by rw [batch_sz hb l hl, hc])
theorem code_pref {ls : List Ltr} (hb : batchB ls = true) {l : Ltr} (hl : l ∈ ls) : prefB l.2 = true ∧ l.2.size = 7 := by
  have := ((batchB_true ls).1 hb).2.1 l hl
  simp only [okL, codeB, Bool.and_eq_true, decide_eq_true_eq] at this
  simp only [prefB, Bool.and_eq_true, decide_eq_true_eq]
  exact ⟨⟨by omega, this.2.2⟩, this.2.1⟩
theorem cntV_code {ls : List Ltr} (hb : batchB ls = true) {c : ByteArray} (hc : ∃ l ∈ ls, l.2 = c) : cntV ls c = ((ofC c ls).length : Int) ∧ 1 ≤ (ofC c ls).length ∧ c.size = 7 := by
  obtain ⟨l, hl, rfl⟩ := hc
  obtain ⟨h1, h2⟩ := code_pref hb hl
  have : splitOk ls l.2 = true := by simp [splitOk, hb, h1]
  refine ⟨by unfold cntV; rw [if_pos this, withP_code hb h2], ?_, h2⟩
  have hm : l ∈ ofC l.2 ls := List.mem_filter.2 ⟨hl, by simp⟩
  exact List.length_pos_of_mem hm
theorem sum_take {α : Type} (f : α → Nat) (C : List α) (k : Nat) (c : α) (h : C[k]? = some c) : ((C.take (k + 1)).map f).sum = ((C.take k).map f).sum + f c := by
  rw [take_snoc' C k c h, List.map_append, List.sum_append]; simp
theorem codes_up {ls : List Ltr} (hb : batchB ls = true) {i : Nat} {x y : ByteArray} (hx : (codesR ls)[i]? = some x) (hy : (codesR ls)[i + 1]? = some y) : ltB x y = true := by
  have h := List.Pairwise.sublist (two_sub _ _ _ _ hx hy) (codes_facts hb).1
  simp at h
  exact h

end Go.Proofs.Ytafngfmloiikoaa
