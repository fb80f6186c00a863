/-
  PLAIN FACTS on passes: passes from the last digit to the first one give the stable order. No program in sight. By an AI agent.
-/
import Derived.Test.YtafngfmloiikoaaStab
import Derived.Test.YtafngfmloiikoaaShort
namespace Go.Proofs.Ytafngfmloiikoaa

/-- A code from a digit on. -/
def sfx (d : Nat) (l : Ltr) : List UInt8 := l.2.toList.drop d
/-- The order by the digits from d on. -/
def leD (d : Nat) (a b : Ltr) : Prop := nbL (sfx d a) (sfx d b)
theorem sfx_step (l : Ltr) (d : Nat) (h : d < l.2.size) : sfx d l = l.2[d] :: sfx (d + 1) l := by
  unfold sfx
  rw [Lib.toList_data]
  rw [List.drop_eq_getElem_cons (by simpa using h)]
  rfl
theorem leD_same {a b : Ltr} {d : Nat} (ha : d < a.2.size) (hb : d < b.2.size) (he : dig a.2 d = dig b.2 d) (h : leD (d + 1) a b) : leD d a b := by
  unfold leD nbL at *
  rw [sfx_step a d ha, sfx_step b d hb]
  rw [← dig_eq a.2 d ha, ← dig_eq b.2 d hb] at he
  simp only [Op.bytesLess, Bool.or_eq_false_iff, decide_eq_false_iff_not, Bool.and_eq_false_iff, UInt8.lt_iff_toNat_lt]
  exact ⟨by omega, .inr h⟩
theorem leD_less {a b : Ltr} {d : Nat} (ha : d < a.2.size) (hb : d < b.2.size) (he : dig a.2 d < dig b.2 d) : leD d a b := by
  unfold leD nbL
  rw [sfx_step a d ha, sfx_step b d hb]
  rw [← dig_eq a.2 d ha, ← dig_eq b.2 d hb] at he
  simp only [Op.bytesLess, Bool.or_eq_false_iff, decide_eq_false_iff_not, Bool.and_eq_false_iff, UInt8.lt_iff_toNat_lt, beq_eq_false_iff_ne]
  exact ⟨by omega, .inl (fun e => by rw [e] at he; omega)⟩
theorem mem_binL {l : Ltr} {ys : List Ltr} {d k : Nat} : l ∈ binL ys d k ↔ l ∈ ys ∧ dig l.2 d = 48 + k := by
  unfold binL; rw [List.mem_filter]; simp
theorem range_up (n : Nat) (Q : Nat → Nat → Prop) (h : ∀ i j, i < j → Q i j) : (List.range n).Pairwise Q := (List.pairwise_lt_range (n := n)).imp (fun {a b} hab => h a b hab)
theorem passL_sorted {ys : List Ltr} {d : Nat} (hs : ∀ l ∈ ys, l.2.size = 7) (hd : d < 7) (h : ys.Pairwise (leD (d + 1))) : (passL ys d).Pairwise (leD d) := by
  unfold passL binsL
  rw [List.pairwise_flatten]
  constructor
  · intro b hb
    obtain ⟨k, _, rfl⟩ := List.mem_map.1 hb
    have h1 : (binL ys d k).Pairwise (leD (d + 1)) := h.filter _
    refine h1.imp_of_mem (fun {x y} hx hy hxy => ?_)
    obtain ⟨mx, dx⟩ := mem_binL.1 hx
    obtain ⟨my, dy⟩ := mem_binL.1 hy
    exact leD_same (by rw [hs x mx]; exact hd) (by rw [hs y my]; exact hd) (by rw [dx, dy]) hxy
  · rw [List.pairwise_map]
    refine range_up 10 _ (fun i j hij x hx y hy => ?_)
    obtain ⟨mx, dx⟩ := mem_binL.1 hx
    obtain ⟨my, dy⟩ := mem_binL.1 hy
    exact leD_less (by rw [hs x mx]; exact hd) (by rw [hs y my]; exact hd) (by omega)
theorem passL_digs (ys : List Ltr) (d : Nat) : (passL ys d).Pairwise (fun a b => dig a.2 d ≤ dig b.2 d) := by
  unfold passL binsL
  rw [List.pairwise_flatten]
  constructor
  · intro b hb
    obtain ⟨k, _, rfl⟩ := List.mem_map.1 hb
    exact List.pairwise_of_forall_mem_list (fun x hx y hy => by
      have h1 := (mem_binL.1 hx).2
      have h2 := (mem_binL.1 hy).2
      omega)
  · rw [List.pairwise_map]
    refine range_up 10 _ (fun i j hij x hx y hy => ?_)
    have h1 := (mem_binL.1 hx).2
    have h2 := (mem_binL.1 hy).2
    omega
theorem passL_filter (p : Ltr → Bool) (ys : List Ltr) (d k : Nat) (hk : k < 10) (h : ∀ l ∈ ys, p l = true → dig l.2 d = 48 + k) : (passL ys d).filter p = ys.filter p := by
  have key : ∀ i, (binL ys d i).filter p = if i = k then ys.filter p else [] := by
    intro i
    unfold binL
    rw [List.filter_filter]
    split
    · next e =>
      subst e
      apply List.filter_congr
      intro l hl
      cases hp : p l with
      | false => simp
      | true => simp [h l hl hp]
    · next e =>
      rw [List.filter_eq_nil_iff]
      intro l hl hc
      simp only [Bool.and_eq_true, beq_iff_eq] at hc
      have := h l hl hc.1
      omega
  unfold passL binsL
  rw [List.filter_flatten, List.map_map, show (List.filter p ∘ binL ys d) = (fun i => if i = k then ys.filter p else []) from funext key]
  obtain rfl | rfl | rfl | rfl | rfl | rfl | rfl | rfl | rfl | rfl : k = 0 ∨ k = 1 ∨ k = 2 ∨ k = 3 ∨ k = 4 ∨ k = 5 ∨ k = 6 ∨ k = 7 ∨ k = 8 ∨ k = 9 := by omega
  all_goals simp [List.range_succ]
theorem passL_ofC (c : ByteArray) (ys : List Ltr) (d : Nat) (h : ∀ l ∈ ys, ∃ k : Nat, k < 10 ∧ dig l.2 d = 48 + k) : ofC c (passL ys d) = ofC c ys := by
  by_cases e : ∃ l ∈ ys, l.2 = c
  · obtain ⟨l, hl, rfl⟩ := e
    obtain ⟨k, hk, hd⟩ := h l hl
    exact passL_filter _ ys d k hk (fun m _ hm => by simp at hm; rw [hm]; exact hd)
  · exact passL_filter _ ys d 0 (by omega) (fun m hm hc => by simp at hc; exact absurd ⟨m, hm, hc⟩ e)
theorem passL_binL (ys : List Ltr) (d k : Nat) (hk : k < 10) : binL (passL ys d) d k = binL ys d k :=
  passL_filter _ ys d k hk (fun l _ h => by simpa using h)
theorem passL_twice (ys : List Ltr) (d : Nat) : passL (passL ys d) d = passL ys d := by
  have : binsL (passL ys d) d = binsL ys d := by
    unfold binsL
    apply List.map_congr_left
    intro k hk
    exact passL_binL ys d k (by simpa using hk)
  unfold passL at this ⊢
  rw [this]
/-- The letters after j passes, from the last digit on. -/
def pas (ls : List Ltr) : Nat → List Ltr
  | 0 => ls
  | j + 1 => passL (pas ls j) (6 - j)
theorem batch_sz {ls : List Ltr} (h : batchB ls = true) : ∀ l ∈ ls, l.2.size = 7 := fun l hl => by
  obtain ⟨k, hk⟩ := List.mem_iff_getElem?.1 hl
  exact batch_code h hk
theorem pas_batch {ls : List Ltr} (h : batchB ls = true) : ∀ j, j ≤ 7 → batchB (pas ls j) = true
  | 0, _ => h
  | j + 1, hj => passL_batch (pas_batch h j (by omega)) _ (by omega)
theorem pas_sorted {ls : List Ltr} (h : batchB ls = true) : ∀ j, j ≤ 7 → (pas ls j).Pairwise (leD (7 - j))
  | 0, _ => List.pairwise_of_forall_mem_list (fun a ha b hb => by
      have h1 : sfx 7 a = [] := List.drop_eq_nil_of_le (by rw [Lib.toList_data, Array.length_toList]; exact Nat.le_of_eq (batch_sz h a ha))
      have h2 : sfx 7 b = [] := List.drop_eq_nil_of_le (by rw [Lib.toList_data, Array.length_toList]; exact Nat.le_of_eq (batch_sz h b hb))
      show nbL (sfx 7 a) (sfx 7 b)
      rw [h1, h2]; rfl)
  | j + 1, hj => by
    have ih := pas_sorted h j (by omega)
    have hb := pas_batch h j (by omega)
    have e : 7 - (j + 1) = 6 - j := by omega
    rw [e]
    exact passL_sorted (batch_sz hb) (by omega) (by rw [show 6 - j + 1 = 7 - j by omega]; exact ih)
theorem pas_ofC {ls : List Ltr} (h : batchB ls = true) (c : ByteArray) : ∀ j, j ≤ 7 → ofC c (pas ls j) = ofC c ls
  | 0, _ => rfl
  | j + 1, hj => by
    have hb := pas_batch h j (by omega)
    show ofC c (passL (pas ls j) (6 - j)) = _
    rw [passL_ofC c _ _ (batch_digs hb _ (by omega)), pas_ofC h c j (by omega)]
theorem pas_Stb {ls : List Ltr} (h : batchB ls = true) : Stb ls (pas ls 7) :=
  ⟨(pas_sorted h 7 (Nat.le_refl _)).imp (fun {a b} hab => by
      have : nbL (a.2.toList.drop 0) (b.2.toList.drop 0) := hab
      rwa [List.drop_zero, List.drop_zero] at this), fun c => pas_ofC h c 7 (Nat.le_refl _)⟩
theorem sortL_pas (ls : List Ltr) : sortL ls [0, 1, 2, 3, 4, 5, 6] = pas ls 7 := rfl
theorem sortL_stab {ls : List Ltr} (h : batchB ls = true) : sortL ls [0, 1, 2, 3, 4, 5, 6] = stabL ls := by
  rw [sortL_pas]; exact (pas_Stb h).eq
/-- What SortBatch answers. -/
def sortR (ls : List Ltr) : List Ltr := if batchB ls = true then stabL ls else []
theorem sortR_true {ls : List Ltr} (h : batchB ls = true) : sortR ls = stabL ls := if_pos h
theorem stabL_batch {ls : List Ltr} (h : batchB ls = true) : batchB (stabL ls) = true := by rw [batchB_perm (stabL_perm ls)]; exact h
theorem sortR_len (ls : List Ltr) : (sortR ls).length ≤ ls.length := by
  unfold sortR; split
  · rw [(stabL_perm ls).length_eq]; exact Nat.le_refl _
  · simp

end Go.Proofs.Ytafngfmloiikoaa
