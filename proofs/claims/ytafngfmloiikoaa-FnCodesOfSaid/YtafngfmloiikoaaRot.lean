/-
  PLAIN FACTS on the library's stable sort: insertion, exchange, rotation and merging in place, on lists of letters. No program in sight. By an AI agent.
-/
import Derived.Test.YtafngfmloiikoaaStab
namespace Go.Proofs.Ytafngfmloiikoaa

theorem get_mid {P Q : List Ltr} {x : Ltr} {k : Nat} (h : P.length = k) : (P ++ x :: Q)[k]? = some x := by subst h; simp
theorem set_mid {P Q : List Ltr} {x y : Ltr} {k : Nat} (h : P.length = k) : (P ++ x :: Q).set k y = P ++ y :: Q := by subst h; simp
/-- Two neighbours exchanged. -/
theorem swap_near {P Q : List Ltr} {x y : Ltr} {k : Nat} (h : P.length = k) : ((P ++ y :: x :: Q).set (k + 1) y).set k x = P ++ x :: y :: Q := by
  have e : P ++ y :: x :: Q = (P ++ [y]) ++ x :: Q := by simp
  rw [e, set_mid (by simp [h]), show (P ++ [y]) ++ y :: Q = P ++ y :: y :: Q by simp, set_mid h]
theorem swap_near2 {P Q : List Ltr} {x y : Ltr} {k : Nat} (h : P.length = k) : ((P ++ x :: y :: Q).set k y).set (k + 1) x = P ++ y :: x :: Q := by
  rw [set_mid h, show P ++ y :: y :: Q = (P ++ [y]) ++ y :: Q by simp, set_mid (by simp [h])]; simp
theorem swap_far {P M Q : List Ltr} {x y : Ltr} {i j : Nat} (h : P.length = i) (hj : i + 1 + M.length = j) : ((P ++ x :: (M ++ y :: Q)).set i y).set j x = P ++ y :: (M ++ x :: Q) := by
  rw [set_mid h, show P ++ y :: (M ++ y :: Q) = (P ++ y :: M) ++ y :: Q by simp, set_mid (by simp [h]; omega)]; simp
theorem get_far {P M Q : List Ltr} {x y : Ltr} {i j : Nat} (h : P.length = i) (hj : i + 1 + M.length = j) : (P ++ x :: (M ++ y :: Q))[j]? = some y := by
  rw [show P ++ x :: (M ++ y :: Q) = (P ++ x :: M) ++ y :: Q by simp]; exact get_mid (by simp [h]; omega)
theorem get_next {P Q : List Ltr} {x y : Ltr} {k : Nat} (h : P.length = k) : (P ++ x :: y :: Q)[k + 1]? = some y := by
  rw [show P ++ x :: y :: Q = (P ++ [x]) ++ y :: Q by simp]; exact get_mid (by simp [h])

theorem one_left {x : Ltr} {R1 R2 : List Ltr} (h : (R1 ++ R2).Pairwise leL) (h1 : ∀ y ∈ R1, ltB y.2 x.2 = true) (h2 : ∀ y ∈ R2, leL x y) : mergeL [x] (R1 ++ R2) = R1 ++ x :: R2 := by
  have e1 := merge_split (L1 := []) (L2 := [x]) (R1 := R1) (R2 := R2) (by simp) h (fun _ hx => by cases hx) (fun y hy z hz => by simp at hz; subst hz; exact h1 y hy)
  have e2 := merge_split (L1 := [x]) (L2 := []) (R1 := []) (R2 := R2) (by simp) (by simpa using (List.pairwise_append.1 h).2.1) (fun z hz y hy => by simp at hz; subst hz; exact h2 y hy) (fun _ hy => by cases hy)
  simp only [List.nil_append, List.append_nil] at e1 e2
  rw [e1, e2, mergeL_nil]; simp [mergeL]
theorem one_right {y : Ltr} {L1 L2 : List Ltr} (h : (L1 ++ L2).Pairwise leL) (h1 : ∀ x ∈ L1, leL x y) (h2 : ∀ x ∈ L2, ltB y.2 x.2 = true) : mergeL (L1 ++ L2) [y] = L1 ++ y :: L2 := by
  have e1 := merge_split (L1 := L1) (L2 := L2) (R1 := [y]) (R2 := []) h (by simp) (fun _ _ _ hx => by cases hx) (fun z hz x hx => by simp at hz; subst hz; exact h2 x hx)
  have e2 := merge_split (L1 := L1) (L2 := []) (R1 := []) (R2 := [y]) (by simpa using (List.pairwise_append.1 h).1) (by simp) (fun x hx z hz => by simp at hz; subst hz; exact h1 x hx) (fun _ hy => by cases hy)
  simp only [List.nil_append, List.append_nil] at e1 e2
  rw [e1, e2, mergeL_nil, mergeL_nil]; simp [mergeL]
theorem last_ge {A : List Ltr} {x : Ltr} (h : (A ++ [x]).Pairwise leL) : ∀ a ∈ A ++ [x], leL a x := by
  intro a ha
  rcases List.mem_append.1 ha with ha | ha
  · exact (List.pairwise_append.1 h).2.2 a ha x (by simp)
  · simp at ha; subst ha; exact leL_refl _
theorem head_le {B : List Ltr} {y : Ltr} (h : (y :: B).Pairwise leL) : ∀ b ∈ y :: B, leL y b := by
  intro b hb
  rcases List.mem_cons.1 hb with rfl | hb
  · exact leL_refl _
  · exact (List.pairwise_cons.1 h).1 b hb
theorem snoc_cases (A : List Ltr) : A = [] ∨ ∃ B x, A = B ++ [x] := by
  cases h : A.reverse with
  | nil => left; simpa using h
  | cons x B => right; exact ⟨B.reverse, x, by have := congrArg List.reverse h; simpa using this⟩

/-- What a search in two sorted parts found: the first part's heads stand ahead of the second's tails. -/
theorem sym_le {X L1 L2 R1 R2 Y : List Ltr} {s e : Nat} (hL : L1.Pairwise leL) (hR : R2.Pairwise leL) (hs : X.length + L1.length = s) (he : s + L2.length + R1.length = e)
    (h : L1 = [] ∨ R2 = [] ∨ ∃ x y, (X ++ (L1 ++ L2) ++ (R1 ++ R2) ++ Y)[s - 1]? = some x ∧ (X ++ (L1 ++ L2) ++ (R1 ++ R2) ++ Y)[e]? = some y ∧ leL x y) : ∀ x ∈ L1, ∀ y ∈ R2, leL x y := by
  rcases snoc_cases L1 with rfl | ⟨A, x0, rfl⟩
  · intro x hx; cases hx
  cases R2 with
  | nil => intro _ _ y hy; cases hy
  | cons y0 B =>
    rcases h with h | h | ⟨x, y, h1, h2, h3⟩
    · simp at h
    · cases h
    · rw [show X ++ (A ++ [x0] ++ L2) ++ (R1 ++ y0 :: B) ++ Y = (X ++ A) ++ x0 :: (L2 ++ (R1 ++ y0 :: B) ++ Y) by simp, get_mid (by simp at hs ⊢; omega)] at h1
      rw [show X ++ (A ++ [x0] ++ L2) ++ (R1 ++ y0 :: B) ++ Y = (X ++ (A ++ [x0]) ++ L2 ++ R1) ++ y0 :: (B ++ Y) by simp, get_mid (by simp at hs ⊢; omega)] at h2
      injection h1 with h1; injection h2 with h2; subst h1 h2
      intro x hx y hy
      exact leL_trans (last_ge hL x hx) (leL_trans h3 (head_le hR y hy))
theorem sym_lt {X L1 L2 R1 R2 Y : List Ltr} {s e : Nat} (hL : L2.Pairwise leL) (hR : R1.Pairwise leL) (hs : X.length + L1.length = s) (he : s + L2.length + R1.length = e)
    (h : L2 = [] ∨ R1 = [] ∨ ∃ x y, (X ++ (L1 ++ L2) ++ (R1 ++ R2) ++ Y)[s]? = some x ∧ (X ++ (L1 ++ L2) ++ (R1 ++ R2) ++ Y)[e - 1]? = some y ∧ ltB y.2 x.2 = true) : ∀ y ∈ R1, ∀ x ∈ L2, ltB y.2 x.2 = true := by
  rcases snoc_cases R1 with rfl | ⟨B, y0, rfl⟩
  · intro y hy; cases hy
  cases L2 with
  | nil => intro _ _ x hx; cases hx
  | cons x0 A =>
    rcases h with h | h | ⟨x, y, h1, h2, h3⟩
    · cases h
    · simp at h
    · rw [show X ++ (L1 ++ x0 :: A) ++ (B ++ [y0] ++ R2) ++ Y = (X ++ L1) ++ x0 :: (A ++ (B ++ [y0] ++ R2) ++ Y) by simp, get_mid (by simp at hs ⊢; omega)] at h1
      rw [show X ++ (L1 ++ x0 :: A) ++ (B ++ [y0] ++ R2) ++ Y = (X ++ (L1 ++ x0 :: A) ++ B) ++ y0 :: (R2 ++ Y) by simp, get_mid (by simp at hs he ⊢; omega)] at h2
      injection h1 with h1; injection h2 with h2; subst h1 h2
      intro y hy x hx
      exact lt_le (le_lt (last_ge hR y hy) h3) (head_le hL x hx)
/-- What a search for one letter found. -/
theorem cut_lo {X S1 S2 Y : List Ltr} {s : Nat} {x : Ltr} (hS : S1.Pairwise leL) (hs : X.length + S1.length = s)
    (h : S1 = [] ∨ ∃ y, (X ++ (S1 ++ S2) ++ Y)[s - 1]? = some y ∧ ltB y.2 x.2 = true) : ∀ y ∈ S1, ltB y.2 x.2 = true := by
  rcases snoc_cases S1 with rfl | ⟨A, x0, rfl⟩
  · intro x hx; cases hx
  rcases h with h | ⟨y, h1, h2⟩
  · simp at h
  · rw [show X ++ (A ++ [x0] ++ S2) ++ Y = (X ++ A) ++ x0 :: (S2 ++ Y) by simp, get_mid (by simp at hs ⊢; omega)] at h1
    injection h1 with h1; subst h1
    intro y hy
    exact le_lt (last_ge hS y hy) h2
theorem cut_lo2 {X S1 S2 Y : List Ltr} {s : Nat} {x : Ltr} (hS : S1.Pairwise leL) (hs : X.length + S1.length = s)
    (h : S1 = [] ∨ ∃ y, (X ++ (S1 ++ S2) ++ Y)[s - 1]? = some y ∧ leL y x) : ∀ y ∈ S1, leL y x := by
  rcases snoc_cases S1 with rfl | ⟨A, x0, rfl⟩
  · intro x hx; cases hx
  rcases h with h | ⟨y, h1, h2⟩
  · simp at h
  · rw [show X ++ (A ++ [x0] ++ S2) ++ Y = (X ++ A) ++ x0 :: (S2 ++ Y) by simp, get_mid (by simp at hs ⊢; omega)] at h1
    injection h1 with h1; subst h1
    intro y hy
    exact leL_trans (last_ge hS y hy) h2
theorem cut_hi {X S1 S2 Y : List Ltr} {s : Nat} {x : Ltr} (hS : S2.Pairwise leL) (hs : X.length + S1.length = s)
    (h : S2 = [] ∨ ∃ y, (X ++ (S1 ++ S2) ++ Y)[s]? = some y ∧ leL x y) : ∀ y ∈ S2, leL x y := by
  cases S2 with
  | nil => intro _ hx; cases hx
  | cons x0 A =>
    rcases h with h | ⟨y, h1, h2⟩
    · cases h
    · rw [show X ++ (S1 ++ x0 :: A) ++ Y = (X ++ S1) ++ x0 :: (A ++ Y) by simp, get_mid (by simp; omega)] at h1
      injection h1 with h1; subst h1
      intro y hy
      exact leL_trans h2 (head_le hS y hy)
theorem cut_hi2 {X S1 S2 Y : List Ltr} {s : Nat} {x : Ltr} (hS : S2.Pairwise leL) (hs : X.length + S1.length = s)
    (h : S2 = [] ∨ ∃ y, (X ++ (S1 ++ S2) ++ Y)[s]? = some y ∧ ltB x.2 y.2 = true) : ∀ y ∈ S2, ltB x.2 y.2 = true := by
  cases S2 with
  | nil => intro _ hx; cases hx
  | cons x0 A =>
    rcases h with h | ⟨y, h1, h2⟩
    · cases h
    · rw [show X ++ (S1 ++ x0 :: A) ++ Y = (X ++ S1) ++ x0 :: (A ++ Y) by simp, get_mid (by simp; omega)] at h1
      injection h1 with h1; subst h1
      intro y hy
      exact lt_le h2 (head_le hS y hy)
/-- Parts of a list by lengths. -/
theorem parts (S : List Ltr) (k : Nat) (h : k ≤ S.length) : ∃ S1 S2, S = S1 ++ S2 ∧ S1.length = k :=
  ⟨S.take k, S.drop k, (List.take_append_drop k S).symm, by rw [List.length_take]; omega⟩
theorem nil_of {S : List Ltr} (h : S.length = 0) : S = [] := List.eq_nil_of_length_eq_zero h
theorem stabL_app (a b : List Ltr) : mergeL (stabL a) (stabL b) = stabL (a ++ b) := (merge_Stb (stabL_Stb a) (stabL_Stb b)).eq
theorem stabL_sorted (ls : List Ltr) : (stabL ls).Pairwise leL := (stabL_Stb ls).sorted
theorem stabL_len (ls : List Ltr) : (stabL ls).length = ls.length := (stabL_perm ls).length_eq
theorem stabL_of_sorted {ls : List Ltr} (h : ls.Pairwise leL) : stabL ls = ls := ((Stb.refl h).eq).symm

end Go.Proofs.Ytafngfmloiikoaa
