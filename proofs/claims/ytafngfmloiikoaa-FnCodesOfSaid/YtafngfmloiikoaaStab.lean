/-
  PLAIN FACTS on sorting letters by their codes: the order of codes, stable order, merging, places. No program in sight. By an AI agent.
-/
import Derived.Test.YtafngfmloiikoaaInv
import Derived.Test.YtafngfmloiikoaaMerge
import Derived.Lib.Strings
namespace Go.Proofs.Ytafngfmloiikoaa

theorem bl_trans : ∀ x y z : List UInt8, Op.bytesLess x y = true → Op.bytesLess y z = true → Op.bytesLess x z = true
  | x, [], z, h, _ => by cases x <;> simp [Op.bytesLess] at h
  | _, _ :: _, [], _, h => by simp [Op.bytesLess] at h
  | [], _ :: _, _ :: _, _, _ => rfl
  | a :: x, b :: y, c :: z, h1, h2 => by
    simp only [Op.bytesLess, Bool.or_eq_true, decide_eq_true_eq, Bool.and_eq_true, beq_iff_eq, UInt8.lt_iff_toNat_lt] at h1 h2 ⊢
    rcases h1 with h1 | ⟨rfl, h1⟩ <;> rcases h2 with h2 | ⟨rfl, h2⟩
    · left; omega
    · left; exact h1
    · left; exact h2
    · right; exact ⟨rfl, bl_trans x y z h1 h2⟩
theorem code_ext {a b : ByteArray} (h : a.toList = b.toList) : a = b := by
  rw [Lib.toList_data, Lib.toList_data] at h
  exact ByteArray.ext (Array.toList_inj.1 h)

/-- The order of bytes, as lists: x is not behind y. -/
def nbL (x y : List UInt8) : Prop := Op.bytesLess y x = false
theorem nbL_trans {x y z : List UInt8} (h1 : nbL x y) (h2 : nbL y z) : nbL x z := by
  unfold nbL at *
  cases h : Op.bytesLess z x with
  | false => rfl
  | true =>
    by_cases e : x = y
    · subst e; rw [h2] at h; cases h
    · have := bl_trans z x y h (bl_tri y x h1 (fun e' => e e'.symm))
      rw [h2] at this; cases this
theorem nbL_refl (x : List UInt8) : nbL x x := bl_irr x
theorem nbL_anti {x y : List UInt8} (h1 : nbL x y) (h2 : nbL y x) : x = y := by
  unfold nbL at *
  by_cases e : x = y
  · exact e
  · have := bl_tri x y h2 e; rw [h1] at this; cases this
theorem nbL_lt {x y : List UInt8} (h : Op.bytesLess x y = true) : nbL x y := bl_asym x y h

/-- The order of letters by code. -/
def leL (a b : Ltr) : Prop := ltB b.2 a.2 = false
theorem leL_nb {a b : Ltr} : leL a b ↔ nbL a.2.toList b.2.toList := Iff.rfl
theorem leL_trans {a b c : Ltr} (h1 : leL a b) (h2 : leL b c) : leL a c := nbL_trans h1 h2
theorem leL_refl (a : Ltr) : leL a a := nbL_refl _
theorem leL_anti {a b : Ltr} (h1 : leL a b) (h2 : leL b a) : a.2 = b.2 := code_ext (nbL_anti h1 h2)
theorem leL_lt {a b : Ltr} (h : ltB a.2 b.2 = true) : leL a b := nbL_lt h
theorem leB_leL {a b : Ltr} : leB a.2 b.2 = true ↔ leL a b := by
  unfold leL
  have := gt_lt a.2 b.2
  unfold leB
  cases h : (Op.bytesLess a.2.toList b.2.toList || a.2.toList == b.2.toList) <;> rw [h] at this <;> simp at this <;> simp [this]
theorem leB_false {a b : Ltr} (h : leB a.2 b.2 = false) : ltB b.2 a.2 = true := by
  have := gt_lt a.2 b.2
  unfold leB at h
  rw [h] at this; simpa using this.symm
theorem lt_ne {a b : Ltr} (h : ltB a.2 b.2 = true) : a.2 ≠ b.2 := by
  intro e; rw [e] at h; unfold ltB at h; rw [bl_irr] at h; cases h
theorem srt_iff : ∀ ls : List Ltr, srt ls = true ↔ ls.Pairwise leL
  | [] => by simp [srt]
  | [a] => by simp [srt]
  | a :: b :: t => by
    have ih := srt_iff (b :: t)
    simp only [srt, Bool.and_eq_true, Bool.not_eq_true']
    rw [ih, List.pairwise_cons (a := a)]
    constructor
    · rintro ⟨h1, h2⟩
      refine ⟨fun x hx => ?_, h2⟩
      rcases List.mem_cons.1 hx with rfl | hx
      · exact h1
      · exact leL_trans h1 ((List.pairwise_cons.1 h2).1 x hx)
    · rintro ⟨h1, h2⟩
      exact ⟨h1 b (by simp), h2⟩

/-- The letters with a code. -/
def ofC (c : ByteArray) (ls : List Ltr) : List Ltr := ls.filter fun l => decide (l.2 = c)
theorem ofC_append (c : ByteArray) (a b : List Ltr) : ofC c (a ++ b) = ofC c a ++ ofC c b := by simp [ofC]
theorem ofC_cons (c : ByteArray) (a : Ltr) (b : List Ltr) : ofC c (a :: b) = (if a.2 = c then [a] else []) ++ ofC c b := by
  unfold ofC; by_cases h : a.2 = c <;> simp [h]
theorem ofC_none (c : ByteArray) (ls : List Ltr) (h : ∀ l ∈ ls, l.2 ≠ c) : ofC c ls = [] := by
  unfold ofC; rw [List.filter_eq_nil_iff]; intro l hl; simpa using h l hl
theorem ofC_sub (c : ByteArray) (ls : List Ltr) : (ofC c ls).Sublist ls := List.filter_sublist
/-- ys are the letters of ls in ascending order, equal codes as they stood. -/
structure Stb (ls ys : List Ltr) : Prop where
  sorted : ys.Pairwise leL
  same : ∀ c : ByteArray, ofC c ys = ofC c ls
theorem stb_eq : ∀ ys zs : List Ltr, ys.Pairwise leL → zs.Pairwise leL → (∀ c, ofC c ys = ofC c zs) → ys = zs
  | [], [], _, _, _ => rfl
  | [], z :: zs, _, _, h => by have := h z.2; rw [ofC_cons, if_pos rfl] at this; simp [ofC] at this
  | y :: ys, [], _, _, h => by have := h y.2; rw [ofC_cons, if_pos rfl] at this; simp [ofC] at this
  | y :: ys, z :: zs, h1, h2, h => by
    have m1 : y ∈ z :: zs := by
      have : y ∈ ofC y.2 (y :: ys) := by simp [ofC]
      rw [h] at this; exact (List.mem_filter.1 this).1
    have m2 : z ∈ y :: ys := by
      have : z ∈ ofC z.2 (z :: zs) := by simp [ofC]
      rw [← h] at this; exact (List.mem_filter.1 this).1
    have l1 : leL z y := by
      rcases List.mem_cons.1 m1 with rfl | m
      · exact leL_refl _
      · exact (List.pairwise_cons.1 h2).1 y m
    have l2 : leL y z := by
      rcases List.mem_cons.1 m2 with rfl | m
      · exact leL_refl _
      · exact (List.pairwise_cons.1 h1).1 z m
    have e := leL_anti l2 l1
    have hy := h y.2
    rw [ofC_cons, ofC_cons, if_pos rfl, if_pos e.symm] at hy
    simp only [List.cons_append, List.nil_append, List.cons.injEq] at hy
    obtain ⟨rfl, _⟩ := hy
    rw [stb_eq ys zs (List.pairwise_cons.1 h1).2 (List.pairwise_cons.1 h2).2 (fun c => by
      have hc := h c
      rw [ofC_cons, ofC_cons] at hc
      exact List.append_cancel_left hc)]
theorem Stb.uniq {ls ys zs : List Ltr} (h1 : Stb ls ys) (h2 : Stb ls zs) : ys = zs := stb_eq ys zs h1.sorted h2.sorted (fun c => (h1.same c).trans (h2.same c).symm)

theorem mem_mergeL {x : Ltr} {xs ys : List Ltr} : x ∈ mergeL xs ys ↔ x ∈ xs ∨ x ∈ ys := by
  rw [(mergeL_perm xs ys).mem_iff, List.mem_append]
theorem mergeL_sorted : ∀ xs ys : List Ltr, xs.Pairwise leL → ys.Pairwise leL → (mergeL xs ys).Pairwise leL
  | [], ys, _, h => by rw [mergeL]; exact h
  | a :: xs, [], h, _ => by rw [mergeL]; exact h
  | a :: xs, b :: ys, h1, h2 => by
    cases hc : leB a.2 b.2 with
    | true =>
      rw [mergeL_left a xs b ys hc, List.pairwise_cons]
      refine ⟨fun x hx => ?_, mergeL_sorted xs (b :: ys) (List.pairwise_cons.1 h1).2 h2⟩
      rcases mem_mergeL.1 hx with hx | hx
      · exact (List.pairwise_cons.1 h1).1 x hx
      · have hab := leB_leL.1 hc
        rcases List.mem_cons.1 hx with rfl | hx
        · exact hab
        · exact leL_trans hab ((List.pairwise_cons.1 h2).1 x hx)
    | false =>
      rw [mergeL_right a xs b ys hc, List.pairwise_cons]
      refine ⟨fun x hx => ?_, mergeL_sorted (a :: xs) ys h1 (List.pairwise_cons.1 h2).2⟩
      have hba : leL b a := leL_lt (leB_false hc)
      rcases mem_mergeL.1 hx with hx | hx
      · rcases List.mem_cons.1 hx with rfl | hx
        · exact hba
        · exact leL_trans hba ((List.pairwise_cons.1 h1).1 x hx)
      · exact (List.pairwise_cons.1 h2).1 x hx
termination_by xs ys => xs.length + ys.length
theorem lt_le {a b c : Ltr} (h1 : ltB a.2 b.2 = true) (h2 : leL b c) : ltB a.2 c.2 = true := by
  unfold leL ltB at *
  by_cases e : b.2.toList = c.2.toList
  · rw [← e]; exact h1
  · exact bl_trans _ _ _ h1 (bl_tri _ _ h2 (fun e' => e e'.symm))
theorem le_lt {a b c : Ltr} (h1 : leL a b) (h2 : ltB b.2 c.2 = true) : ltB a.2 c.2 = true := by
  unfold leL ltB at *
  by_cases e : a.2.toList = b.2.toList
  · rw [e]; exact h2
  · exact bl_trans _ _ _ (bl_tri _ _ h1 (fun e' => e e'.symm)) h2
theorem mergeL_ofC (c : ByteArray) : ∀ xs ys : List Ltr, xs.Pairwise leL → ofC c (mergeL xs ys) = ofC c xs ++ ofC c ys
  | [], ys, _ => by rw [mergeL]; simp [ofC]
  | a :: xs, [], _ => by rw [mergeL]; simp [ofC]
  | a :: xs, b :: ys, h1 => by
    cases hc : leB a.2 b.2 with
    | true =>
      rw [mergeL_left a xs b ys hc, ofC_cons, mergeL_ofC c xs (b :: ys) (List.pairwise_cons.1 h1).2, ofC_cons c a, List.append_assoc]
    | false =>
      rw [mergeL_right a xs b ys hc, ofC_cons, mergeL_ofC c (a :: xs) ys h1, ofC_cons c b]
      by_cases e : b.2 = c
      · subst e
        have hn : ofC b.2 (a :: xs) = [] := ofC_none _ _ (fun l hl he => by
          have hba := leB_false hc
          rcases List.mem_cons.1 hl with rfl | hl
          · exact lt_ne hba he.symm
          · exact lt_ne (lt_le hba ((List.pairwise_cons.1 h1).1 l hl)) he.symm)
        rw [hn]; simp
      · rw [if_neg e]; simp
termination_by xs ys => xs.length + ys.length
theorem mergeL_Stb {xs ys : List Ltr} (h1 : xs.Pairwise leL) (h2 : ys.Pairwise leL) : Stb (xs ++ ys) (mergeL xs ys) :=
  ⟨mergeL_sorted xs ys h1 h2, fun c => by rw [mergeL_ofC c xs ys h1, ofC_append]⟩
/-- The stable order of letters. -/
def stabL : List Ltr → List Ltr
  | [] => []
  | x :: xs => mergeL [x] (stabL xs)
theorem stabL_Stb : ∀ ls : List Ltr, Stb ls (stabL ls)
  | [] => ⟨List.Pairwise.nil, fun _ => rfl⟩
  | x :: xs => by
    have ih := stabL_Stb xs
    refine ⟨mergeL_sorted _ _ (by simp) ih.sorted, fun c => ?_⟩
    show ofC c (mergeL [x] (stabL xs)) = _
    rw [mergeL_ofC c [x] _ (by simp), ih.same c, ← ofC_append]; rfl
theorem Stb.eq {ls ys : List Ltr} (h : Stb ls ys) : ys = stabL ls := h.uniq (stabL_Stb ls)
theorem Stb.refl {ls : List Ltr} (h : ls.Pairwise leL) : Stb ls ls := ⟨h, fun _ => rfl⟩
theorem Stb.trans {a b c : List Ltr} (h : Stb a b) (k : Stb b c) : Stb a c := ⟨k.sorted, fun x => (k.same x).trans (h.same x)⟩
theorem stabL_perm : ∀ ls : List Ltr, List.Perm (stabL ls) ls
  | [] => List.Perm.refl _
  | x :: xs => (mergeL_perm [x] (stabL xs)).trans ((stabL_perm xs).cons x)
theorem Stb.perm {ls ys : List Ltr} (h : Stb ls ys) : List.Perm ys ls := by rw [h.eq]; exact stabL_perm ls
/-- Two parts, each sorted, and merged. -/
theorem merge_Stb {a b a' b' : List Ltr} (h1 : Stb a a') (h2 : Stb b b') : Stb (a ++ b) (mergeL a' b') :=
  ⟨mergeL_sorted _ _ h1.sorted h2.sorted, fun c => by rw [mergeL_ofC c _ _ h1.sorted, h1.same, h2.same, ofC_append]⟩
/-- Merging where both parts are cut so that the heads stand ahead of the tails. -/
theorem merge_split {L1 L2 R1 R2 : List Ltr} (hL : (L1 ++ L2).Pairwise leL) (hR : (R1 ++ R2).Pairwise leL) (h1 : ∀ x ∈ L1, ∀ y ∈ R2, leL x y) (h2 : ∀ y ∈ R1, ∀ x ∈ L2, ltB y.2 x.2 = true) :
    mergeL (L1 ++ L2) (R1 ++ R2) = mergeL L1 R1 ++ mergeL L2 R2 := by
  obtain ⟨sL1, sL2, sL⟩ := List.pairwise_append.1 hL
  obtain ⟨sR1, sR2, sR⟩ := List.pairwise_append.1 hR
  refine stb_eq _ _ (mergeL_sorted _ _ hL hR) ?_ (fun c => ?_)
  · rw [List.pairwise_append]
    refine ⟨mergeL_sorted _ _ sL1 sR1, mergeL_sorted _ _ sL2 sR2, fun x hx y hy => ?_⟩
    rcases mem_mergeL.1 hx with hx | hx <;> rcases mem_mergeL.1 hy with hy | hy
    · exact sL x hx y hy
    · exact h1 x hx y hy
    · exact leL_lt (h2 x hx y hy)
    · exact sR x hx y hy
  · rw [mergeL_ofC c _ _ hL, ofC_append c (mergeL L1 R1), mergeL_ofC c _ _ sL1, mergeL_ofC c _ _ sL2, ofC_append, ofC_append]
    have : ofC c L2 ++ ofC c R1 = ofC c R1 ++ ofC c L2 := by
      by_cases e : ∃ y ∈ R1, y.2 = c
      · obtain ⟨y, hy, rfl⟩ := e
        rw [ofC_none y.2 L2 (fun x hx he => lt_ne (h2 y hy x hx) he.symm)]; simp
      · rw [ofC_none c R1 (fun y hy he => e ⟨y, hy, he⟩)]; simp
    simp only [List.append_assoc]
    rw [← List.append_assoc (ofC c L2), this, List.append_assoc]
/-- A letter put into its place among sorted ones. -/
theorem insert_Stb {ls A B : List Ltr} {x : Ltr} (h : Stb ls (A ++ B)) (hA : ∀ a ∈ A, leL a x) (hB : ∀ b ∈ B, ltB x.2 b.2 = true) : Stb (ls ++ [x]) (A ++ x :: B) := by
  obtain ⟨sA, sB, sAB⟩ := List.pairwise_append.1 h.sorted
  refine ⟨?_, fun c => ?_⟩
  · rw [List.pairwise_append, List.pairwise_cons]
    refine ⟨sA, ⟨fun b hb => leL_lt (hB b hb), sB⟩, fun a ha y hy => ?_⟩
    rcases List.mem_cons.1 hy with rfl | hy
    · exact hA a ha
    · exact sAB a ha y hy
  · rw [ofC_append c ls, ← h.same c, ofC_append, ofC_append, ofC_cons, ofC_cons]
    by_cases e : x.2 = c
    · subst e
      rw [ofC_none x.2 B (fun b hb he => lt_ne (hB b hb) he.symm)]; simp [ofC]
    · rw [if_neg e]; simp [ofC]

/-- Places in a batch. -/
theorem findI_ge (id : Int) : ∀ (ls : List Ltr) (k : Nat), (∃ l ∈ ls, l.1 = id) → (k : Int) ≤ findI ls id k
  | [], _, h => by obtain ⟨_, h, _⟩ := h; cases h
  | l :: ls, k, h => by
    unfold findI
    split
    · exact Int.le_refl _
    · have := findI_ge id ls (k + 1) (by
        obtain ⟨m, hm, he⟩ := h
        rcases List.mem_cons.1 hm with rfl | hm
        · contradiction
        · exact ⟨m, hm, he⟩)
      omega
theorem findI_lt (a b : Ltr) : ∀ (ls : List Ltr) (k : Nat), (ls.map Prod.fst).Nodup → [a, b].Sublist ls → findI ls a.1 k < findI ls b.1 k
  | [], _, _, h => by cases h
  | l :: ls, k, hn, h => by
    simp only [List.map_cons, List.nodup_cons] at hn
    have hb : b ∈ ls := by
      cases h with
      | cons _ h => exact h.subset (by simp)
      | cons_cons _ h => exact h.subset (by simp)
    have hlb : l.1 ≠ b.1 := fun e => hn.1 (by rw [e]; exact List.mem_map_of_mem hb)
    have fb : findI (l :: ls) b.1 k = findI ls b.1 (k + 1) := by simp [findI, hlb]
    rw [fb]
    cases h with
    | cons _ h =>
      have ha : a ∈ ls := h.subset (by simp)
      have hla : l.1 ≠ a.1 := fun e => hn.1 (by rw [e]; exact List.mem_map_of_mem ha)
      have fa : findI (l :: ls) a.1 k = findI ls a.1 (k + 1) := by simp [findI, hla]
      rw [fa]
      exact findI_lt a b ls (k + 1) hn.2 h
    | cons_cons _ h =>
      have fa : findI (a :: ls) a.1 k = k := by simp [findI]
      rw [fa]
      have := findI_ge b.1 ls (k + 1) ⟨b, hb, rfl⟩
      omega
theorem place_lt {ls : List Ltr} (hb : batchB ls = true) {a b : Ltr} (h : [a, b].Sublist ls) : findL ls a.1 < findL ls b.1 := by
  have hn := ((batchB_true ls).1 hb).2.2
  simp only [findL, hb, if_true]
  exact findI_lt a b ls 0 hn h
theorem two_sub {α : Type} : ∀ (ls : List α) (i : Nat) (a b : α), ls[i]? = some a → ls[i + 1]? = some b → [a, b].Sublist ls
  | [], _, _, _, h, _ => by simp at h
  | x :: xs, 0, a, b, h1, h2 => by
    simp at h1 h2
    subst h1
    cases xs with
    | nil => simp at h2
    | cons y ys => simp at h2; subst h2; exact (List.nil_sublist _).cons_cons _ |>.cons_cons _
  | x :: xs, i + 1, a, b, h1, h2 => (two_sub xs i a b (by simpa using h1) (by simpa using h2)).cons x
theorem find_at {ls : List Ltr} (hb : batchB ls = true) {k : Nat} {l : Ltr} (h : ls[k]? = some l) : findL ls l.1 = k := by
  have hn := ((batchB_true ls).1 hb).2.2
  have key : ∀ (ls : List Ltr) (k j : Nat), (ls.map Prod.fst).Nodup → ls[k]? = some l → findI ls l.1 j = (j : Int) + k := by
    intro ls
    induction ls with
    | nil => intro k j _ h; simp at h
    | cons x xs ih =>
      intro k j hn h
      simp only [List.map_cons, List.nodup_cons] at hn
      cases k with
      | zero => simp at h; subst h; simp [findI]
      | succ k =>
        have h' : xs[k]? = some l := by simpa using h
        have hx : x.1 ≠ l.1 := fun e => hn.1 (by rw [e]; exact List.mem_map_of_mem (List.mem_of_getElem? h'))
        have := ih k (j + 1) hn.2 h'
        simp only [findI, if_neg hx, this]
        push_cast; omega
  simp only [findL, hb, if_true]
  have := key ls k 0 hn h
  rw [this]; simp

end Go.Proofs.Ytafngfmloiikoaa
